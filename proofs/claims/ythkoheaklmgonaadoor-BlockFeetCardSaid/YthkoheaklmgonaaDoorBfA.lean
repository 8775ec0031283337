import Derived.Test.YthkoheaklmgonaaDoorRows
import Derived.Test.YthkoheaklmgonaaDoorDrKit
import Derived.Test.YthkoheaklmgonaaDoorDrArg
namespace Go.Proofs.YthkoheaklmgonaaDoor
open Go Go.Dr
set_option maxRecDepth 100000

/-- the ranges over functions in a code -/
noncomputable def gos : Code → List (Code × Code)
  | .seq x y => gos x ++ gos y
  | .cond _ x y => gos x ++ gos y
  | .block _ c => gos c
  | .loop c => gos c
  | .scope c => gos c
  | .rangeFunc _ _ a b => [(a, b)]
  | _ => []
noncomputable def gosOf (f : FuncId) : List (Code × Code) := match Tryd.prog.funcs[f]? with
  | some fn => match fn.body with | some c => gos c | none => []
  | none => []
noncomputable def goAssign (f k : Nat) : Code := match (gosOf f)[k]? with | some p => p.1 | none => .skip
noncomputable def goBody (f k : Nat) : Code := match (gosOf f)[k]? with | some p => p.2 | none => .skip

/-- dryrot/dryrotlaw19.BlockFeet, of 2 -/
noncomputable def cc3 : CC :=
 (.seq
  (.ops [
   .row ⟨(some 2), none, .box (.t 0)⟩,
   .row ⟨(some 4), none, .move (.c (.bool false))⟩])
  (.seq
   (.ops [
    .row ⟨(some 16), none, .loadN 8 (.t 2)⟩,
    .row ⟨(some 17), none, .callV (.c (.func (.func 6) [] [])) [(.t 16)]⟩,
    .row ⟨(some 15), none, .move (.t 17)⟩,
    .row ⟨(some 18), none, .extract (.t 15) 0⟩,
    .row ⟨(some 19), none, .extract (.t 15) 1⟩,
    .row ⟨(some 5), none, .move (.t 18)⟩,
    .row ⟨(some 6), none, .move (.t 19)⟩])
   (.seq
    (.ops [
     .row ⟨(some 21), none, .loadN 8 (.t 2)⟩,
     .row ⟨(some 22), none, .callV (.c (.func (.func 7) [] [])) [(.t 21)]⟩,
     .row ⟨(some 20), none, .move (.t 22)⟩,
     .row ⟨(some 23), none, .extract (.t 20) 0⟩,
     .row ⟨(some 24), none, .extract (.t 20) 1⟩,
     .row ⟨(some 7), none, .move (.t 23)⟩,
     .row ⟨(some 8), none, .move (.t 24)⟩])
    (.seq
     (.ops [
      .row ⟨(some 26), none, .move (.t 1)⟩,
      .row ⟨(some 27), none, .callV (.c (.func (.func 8) [] [])) [(.t 26)]⟩,
      .row ⟨(some 25), none, .move (.t 27)⟩,
      .row ⟨(some 28), none, .extract (.t 25) 0⟩,
      .row ⟨(some 29), none, .extract (.t 25) 1⟩,
      .row ⟨(some 9), none, .new [(.int .i64 0), (.int .i64 0), (.int .i64 0), (.int .i64 0), (.int .i64 0), (.int .i64 0), (.int .i64 0), .nils]⟩,
      .row ⟨none, none, .store 8 (.t 9) (.t 28)⟩,
      .row ⟨(some 10), none, .move (.t 29)⟩])
     (.seq
      (.ops [
       .row ⟨(some 31), none, .move (.t 1)⟩,
       .row ⟨(some 32), none, .callV (.c (.func (.func 9) [] [])) [(.t 31)]⟩,
       .row ⟨(some 30), none, .move (.t 32)⟩,
       .row ⟨(some 33), none, .extract (.t 30) 0⟩,
       .row ⟨(some 34), none, .extract (.t 30) 1⟩,
       .row ⟨(some 11), none, .new [(.int .i64 0), (.int .i64 0), (.int .i64 0), (.int .i64 0), (.int .i64 0), (.int .i64 0), (.int .i64 0), .nils]⟩,
       .row ⟨none, none, .store 8 (.t 11) (.t 33)⟩,
       .row ⟨(some 12), none, .move (.t 34)⟩])
      (.seq
       (.seq
        (.ops [
         .row ⟨(some 35), none, .move (.t 5)⟩,
         .row ⟨(some 36), none, .move (.t 7)⟩,
         .row ⟨(some 37), none, .callV (.c (.func (.func 10) [] [])) [(.t 35), (.t 36)]⟩,
         .row ⟨(some 38), none, .un .not (.t 37)⟩,
         .row ⟨(some 39), none, .move (.t 38)⟩,
         .row ⟨(some 40), (some (39, false)), .move (.t 6)⟩,
         .row ⟨(some 41), (some (39, false)), .move (.t 8)⟩,
         .row ⟨(some 42), (some (39, false)), .bin .neq 26 false (.t 40) (.t 41)⟩,
         .row ⟨(some 43), none, .pick (.t 39) (.c (.bool true)) (.t 42)⟩,
         .row ⟨(some 44), none, .move (.t 43)⟩,
         .row ⟨(some 45), (some (44, false)), .loadN 8 (.t 9)⟩,
         .row ⟨(some 46), (some (44, false)), .loadN 8 (.t 11)⟩,
         .row ⟨(some 47), (some (44, false)), .callV (.c (.func (.func 11) [] [])) [(.t 45), (.t 46)]⟩,
         .row ⟨(some 48), (some (44, false)), .un .not (.t 47)⟩,
         .row ⟨(some 49), none, .pick (.t 44) (.c (.bool true)) (.t 48)⟩,
         .row ⟨(some 50), none, .move (.t 49)⟩,
         .row ⟨(some 51), (some (50, false)), .move (.t 10)⟩,
         .row ⟨(some 52), (some (50, false)), .move (.t 12)⟩,
         .row ⟨(some 53), (some (50, false)), .bin .neq 26 false (.t 51) (.t 52)⟩,
         .row ⟨(some 54), none, .pick (.t 50) (.c (.bool true)) (.t 53)⟩])
        (.cond (.t 54)
         (.seq
          (.ops [
           .row ⟨(some 4), none, .move (.c (.bool false))⟩])
          .ret)
         .skip))
       (.seq
        (.ops [
         .row ⟨(some 56), none, .move (.t 5)⟩,
         .row ⟨(some 57), none, .callV (.c (.func (.func 8) [] [])) [(.t 56)]⟩,
         .row ⟨(some 55), none, .move (.t 57)⟩,
         .row ⟨(some 58), none, .extract (.t 55) 0⟩,
         .row ⟨(some 59), none, .extract (.t 55) 1⟩,
         .row ⟨(some 13), none, .new [(.int .i64 0), (.int .i64 0), (.int .i64 0), (.int .i64 0), (.int .i64 0), (.int .i64 0), (.int .i64 0), .nils]⟩,
         .row ⟨none, none, .store 8 (.t 13) (.t 58)⟩,
         .row ⟨(some 14), none, .move (.t 59)⟩])
        (.seq
         (.ops [
          .row ⟨(some 60), none, .move (.t 6)⟩,
          .row ⟨(some 61), none, .bin .neq 26 true (.t 60) (.c (.int .i64 0))⟩,
          .row ⟨(some 62), none, .move (.t 61)⟩,
          .row ⟨(some 63), (some (62, false)), .move (.t 14)⟩,
          .row ⟨(some 64), (some (62, false)), .bin .eql 26 true (.t 63) (.c (.int .i64 0))⟩,
          .row ⟨(some 65), (some (62, false)), .move (.t 64)⟩,
          .row ⟨(some 66), (some (65, true)), .loadN 8 (.t 13)⟩,
          .row ⟨(some 67), (some (65, true)), .loadN 8 (.t 2)⟩,
          .row ⟨(some 68), (some (65, true)), .callV (.c (.func (.func 11) [] [])) [(.t 66), (.t 67)]⟩,
          .row ⟨(some 69), (some (62, false)), .pick (.t 65) (.t 68) (.c (.bool false))⟩,
          .row ⟨(some 70), none, .pick (.t 62) (.c (.bool true)) (.t 69)⟩,
          .row ⟨(some 71), none, .move (.t 70)⟩,
          .row ⟨(some 72), (some (71, true)), .callV (.c (.func (.func 12) [] [])) []⟩,
          .row ⟨(some 73), none, .pick (.t 71) (.t 72) (.c (.bool false))⟩,
          .row ⟨(some 4), none, .move (.t 73)⟩])
         .ret))))))))

theorem comp3 : compF Tryd.prog 3 = .ok ⟨74, [.tmp 4], cc3⟩ := by kernel_rfl

/-- dryrot/block.Encode, of 1 -/
noncomputable def cc6 : CC :=
 (.seq
  (.ops [
   .row ⟨(some 1), none, .box (.t 0)⟩,
   .row ⟨(some 2), none, .move (.c .nils)⟩,
   .row ⟨(some 3), none, .move (.c (.int .i64 0))⟩])
  (.seq
   (.seq
    (.ops [
     .row ⟨(some 9), none, .loadN 8 (.t 1)⟩,
     .row ⟨(some 10), none, .callV (.c (.func (.func 21) [] [])) [(.t 9)]⟩,
     .row ⟨(some 11), none, .un .not (.t 10)⟩])
    (.cond (.t 11)
     (.seq
      (.ops [
       .row ⟨(some 2), none, .move (.c .nils)⟩,
       .row ⟨(some 3), none, .move (.c (.int .i64 1))⟩])
      .ret)
     .skip))
   (.seq
    (.ops [
     .row ⟨(some 4), none, .move (.c .nils)⟩])
    (.seq
     (.seq
      (.ops [
       .row ⟨(some 12), none, .fieldAddr 0 (.t 1)⟩,
       .row ⟨(some 13), none, .load1 (.t 12)⟩,
       .row ⟨(some 14), none, .fieldAddr 1 (.t 1)⟩,
       .row ⟨(some 15), none, .load1 (.t 14)⟩,
       .row ⟨(some 16), none, .fieldAddr 2 (.t 1)⟩,
       .row ⟨(some 17), none, .load1 (.t 16)⟩,
       .row ⟨(some 18), none, .fieldAddr 3 (.t 1)⟩,
       .row ⟨(some 19), none, .load1 (.t 18)⟩,
       .row ⟨(some 20), none, .fieldAddr 4 (.t 1)⟩,
       .row ⟨(some 21), none, .load1 (.t 20)⟩,
       .row ⟨(some 22), none, .fieldAddr 5 (.t 1)⟩,
       .row ⟨(some 23), none, .load1 (.t 22)⟩,
       .row ⟨(some 24), none, .fieldAddr 6 (.t 1)⟩,
       .row ⟨(some 25), none, .load1 (.t 24)⟩,
       .row ⟨(some 26), none, .build [(.int .i64 0), (.int .i64 0), (.int .i64 0), (.int .i64 0), (.int .i64 0), (.int .i64 0), (.int .i64 0)] [(0, 1, (.t 13)), (1, 1, (.t 15)), (2, 1, (.t 17)), (3, 1, (.t 19)), (4, 1, (.t 21)), (5, 1, (.t 23)), (6, 1, (.t 25))]⟩,
       .row ⟨(some 27), none, .move (.c (.int .i64 0))⟩])
      (.block 0
       (.loop
        (.seq
         (.ops [
          .row ⟨(some 28), none, .bin .lss 3 true (.t 27) (.c (.int .i64 7))⟩])
         (.seq
          (.cond (.t 28)
           .skip
           (.exit 0))
          (.seq
           (.block 1
            (.seq
             (.ops [
              .row ⟨(some 29), none, .index1 7 1 (.t 26) (.t 27)⟩,
              .row ⟨(some 6), none, .move (.t 29)⟩])
             (.ops [
              .row ⟨(some 30), none, .move (.t 4)⟩,
              .row ⟨(some 31), none, .move (.t 6)⟩,
              .row ⟨(some 32), none, .conv (.int .u64) (.t 31)⟩,
              .row ⟨(some 33), none, .callV (.c (.func (.func 22) [] [])) [(.t 32), (.c (.int .i64 8))]⟩,
              .row ⟨(some 34), none, .app 1 1 (.t 30) (.t 33)⟩,
              .row ⟨(some 4), none, .move (.t 34)⟩])))
           (.ops [
            .row ⟨(some 35), none, .bin .add 3 true (.t 27) (.c (.int .i64 1))⟩,
            .row ⟨(some 27), none, .move (.t 35)⟩])))))))
     (.seq
      (.ops [
       .row ⟨(some 36), none, .move (.t 4)⟩,
       .row ⟨(some 37), none, .fieldAddr 7 (.t 1)⟩,
       .row ⟨(some 38), none, .load1 (.t 37)⟩,
       .row ⟨(some 39), none, .lenV (.t 38)⟩,
       .row ⟨(some 40), none, .conv (.int .u8) (.t 39)⟩,
       .row ⟨(some 41), none, .buildSlice 1 1 [(.int .u8 0)] [(0, 1, (.t 40))]⟩,
       .row ⟨(some 42), none, .app 1 1 (.t 36) (.t 41)⟩,
       .row ⟨(some 4), none, .move (.t 42)⟩])
      (.seq
       (.seq
        (.ops [
         .row ⟨(some 43), none, .fieldAddr 7 (.t 1)⟩,
         .row ⟨(some 44), none, .load1 (.t 43)⟩,
         .row ⟨(some 45), none, .lenV (.t 44)⟩,
         .row ⟨(some 46), none, .move (.c (.int .i64 0))⟩])
        (.block 2
         (.loop
          (.seq
           (.ops [
            .row ⟨(some 47), none, .bin .lss 3 false (.t 46) (.t 45)⟩])
           (.seq
            (.cond (.t 47)
             .skip
             (.exit 2))
            (.seq
             (.block 3
              (.seq
               (.ops [
                .row ⟨(some 48), none, .idxV 1 (.t 44) (.t 46)⟩,
                .row ⟨(some 49), none, .load1 (.t 48)⟩,
                .row ⟨(some 8), none, .move (.t 49)⟩])
               (.ops [
                .row ⟨(some 50), none, .move (.t 4)⟩,
                .row ⟨(some 51), none, .move (.t 8)⟩,
                .row ⟨(some 52), none, .conv (.int .u64) (.t 51)⟩,
                .row ⟨(some 53), none, .callV (.c (.func (.func 22) [] [])) [(.t 52), (.c (.int .i64 8))]⟩,
                .row ⟨(some 54), none, .app 1 1 (.t 50) (.t 53)⟩,
                .row ⟨(some 4), none, .move (.t 54)⟩])))
             (.ops [
              .row ⟨(some 55), none, .bin .add 3 true (.t 46) (.c (.int .i64 1))⟩,
              .row ⟨(some 46), none, .move (.t 55)⟩])))))))
       (.seq
        (.ops [
         .row ⟨(some 56), none, .move (.t 4)⟩,
         .row ⟨(some 2), none, .move (.t 56)⟩,
         .row ⟨(some 3), none, .move (.c (.int .i64 0))⟩])
        .ret)))))))

theorem comp6 : compF Tryd.prog 6 = .ok ⟨57, [.tmp 2, .tmp 3], cc6⟩ := by kernel_rfl

/-- dryrot/dryrotref19.Encode, of 1 -/
noncomputable def cc7 : CC :=
 (.seq
  (.ops [
   .row ⟨(some 1), none, .box (.t 0)⟩,
   .row ⟨(some 2), none, .move (.c .nils)⟩,
   .row ⟨(some 3), none, .move (.c (.int .i64 0))⟩])
  (.seq
   (.seq
    (.ops [
     .row ⟨(some 9), none, .loadN 8 (.t 1)⟩,
     .row ⟨(some 10), none, .callV (.c (.func (.func 23) [] [])) [(.t 9)]⟩,
     .row ⟨(some 11), none, .un .not (.t 10)⟩])
    (.cond (.t 11)
     (.seq
      (.ops [
       .row ⟨(some 2), none, .move (.c .nils)⟩,
       .row ⟨(some 3), none, .move (.c (.int .i64 1))⟩])
      .ret)
     .skip))
   (.seq
    (.ops [
     .row ⟨(some 4), none, .move (.c .nils)⟩])
    (.seq
     (.seq
      (.ops [
       .row ⟨(some 12), none, .fieldAddr 0 (.t 1)⟩,
       .row ⟨(some 13), none, .load1 (.t 12)⟩,
       .row ⟨(some 14), none, .fieldAddr 1 (.t 1)⟩,
       .row ⟨(some 15), none, .load1 (.t 14)⟩,
       .row ⟨(some 16), none, .fieldAddr 2 (.t 1)⟩,
       .row ⟨(some 17), none, .load1 (.t 16)⟩,
       .row ⟨(some 18), none, .fieldAddr 3 (.t 1)⟩,
       .row ⟨(some 19), none, .load1 (.t 18)⟩,
       .row ⟨(some 20), none, .fieldAddr 4 (.t 1)⟩,
       .row ⟨(some 21), none, .load1 (.t 20)⟩,
       .row ⟨(some 22), none, .fieldAddr 5 (.t 1)⟩,
       .row ⟨(some 23), none, .load1 (.t 22)⟩,
       .row ⟨(some 24), none, .fieldAddr 6 (.t 1)⟩,
       .row ⟨(some 25), none, .load1 (.t 24)⟩,
       .row ⟨(some 26), none, .buildSlice 7 1 [(.int .i64 0), (.int .i64 0), (.int .i64 0), (.int .i64 0), (.int .i64 0), (.int .i64 0), (.int .i64 0)] [(0, 1, (.t 13)), (1, 1, (.t 15)), (2, 1, (.t 17)), (3, 1, (.t 19)), (4, 1, (.t 21)), (5, 1, (.t 23)), (6, 1, (.t 25))]⟩,
       .row ⟨(some 27), none, .lenV (.t 26)⟩,
       .row ⟨(some 28), none, .move (.c (.int .i64 0))⟩])
      (.block 0
       (.loop
        (.seq
         (.ops [
          .row ⟨(some 29), none, .bin .lss 3 false (.t 28) (.t 27)⟩])
         (.seq
          (.cond (.t 29)
           .skip
           (.exit 0))
          (.seq
           (.block 1
            (.seq
             (.ops [
              .row ⟨(some 30), none, .idxV 1 (.t 26) (.t 28)⟩,
              .row ⟨(some 31), none, .load1 (.t 30)⟩,
              .row ⟨(some 6), none, .move (.t 31)⟩])
             (.ops [
              .row ⟨(some 32), none, .move (.t 4)⟩,
              .row ⟨(some 33), none, .move (.t 6)⟩,
              .row ⟨(some 34), none, .callV (.c (.func (.func 24) [] [])) [(.t 33)]⟩,
              .row ⟨(some 35), none, .app 1 1 (.t 32) (.t 34)⟩,
              .row ⟨(some 4), none, .move (.t 35)⟩])))
           (.ops [
            .row ⟨(some 36), none, .bin .add 3 true (.t 28) (.c (.int .i64 1))⟩,
            .row ⟨(some 28), none, .move (.t 36)⟩])))))))
     (.seq
      (.ops [
       .row ⟨(some 37), none, .move (.t 4)⟩,
       .row ⟨(some 38), none, .fieldAddr 7 (.t 1)⟩,
       .row ⟨(some 39), none, .load1 (.t 38)⟩,
       .row ⟨(some 40), none, .lenV (.t 39)⟩,
       .row ⟨(some 41), none, .conv (.int .u8) (.t 40)⟩,
       .row ⟨(some 42), none, .buildSlice 1 1 [(.int .u8 0)] [(0, 1, (.t 41))]⟩,
       .row ⟨(some 43), none, .app 1 1 (.t 37) (.t 42)⟩,
       .row ⟨(some 4), none, .move (.t 43)⟩])
      (.seq
       (.seq
        (.ops [
         .row ⟨(some 44), none, .fieldAddr 7 (.t 1)⟩,
         .row ⟨(some 45), none, .load1 (.t 44)⟩,
         .row ⟨(some 46), none, .lenV (.t 45)⟩,
         .row ⟨(some 47), none, .move (.c (.int .i64 0))⟩])
        (.block 2
         (.loop
          (.seq
           (.ops [
            .row ⟨(some 48), none, .bin .lss 3 false (.t 47) (.t 46)⟩])
           (.seq
            (.cond (.t 48)
             .skip
             (.exit 2))
            (.seq
             (.block 3
              (.seq
               (.ops [
                .row ⟨(some 49), none, .idxV 1 (.t 45) (.t 47)⟩,
                .row ⟨(some 50), none, .load1 (.t 49)⟩,
                .row ⟨(some 8), none, .move (.t 50)⟩])
               (.ops [
                .row ⟨(some 51), none, .move (.t 4)⟩,
                .row ⟨(some 52), none, .move (.t 8)⟩,
                .row ⟨(some 53), none, .callV (.c (.func (.func 24) [] [])) [(.t 52)]⟩,
                .row ⟨(some 54), none, .app 1 1 (.t 51) (.t 53)⟩,
                .row ⟨(some 4), none, .move (.t 54)⟩])))
             (.ops [
              .row ⟨(some 55), none, .bin .add 3 true (.t 47) (.c (.int .i64 1))⟩,
              .row ⟨(some 47), none, .move (.t 55)⟩])))))))
       (.seq
        (.ops [
         .row ⟨(some 56), none, .move (.t 4)⟩,
         .row ⟨(some 2), none, .move (.t 56)⟩,
         .row ⟨(some 3), none, .move (.c (.int .i64 0))⟩])
        .ret)))))))

theorem comp7 : compF Tryd.prog 7 = .ok ⟨57, [.tmp 2, .tmp 3], cc7⟩ := by kernel_rfl

/-- dryrot/block.Decode, of 1 -/
noncomputable def cc8 : CC :=
 (.seq
  (.ops [
   .row ⟨(some 2), none, .new [(.int .i64 0), (.int .i64 0), (.int .i64 0), (.int .i64 0), (.int .i64 0), (.int .i64 0), (.int .i64 0), .nils]⟩,
   .row ⟨(some 3), none, .move (.c (.int .i64 0))⟩])
  (.seq
   (.seq
    (.ops [
     .row ⟨(some 7), none, .move (.t 0)⟩,
     .row ⟨(some 8), none, .lenV (.t 7)⟩,
     .row ⟨(some 9), none, .bin .leq 3 true (.t 8) (.c (.int .i64 56))⟩,
     .row ⟨(some 10), none, .move (.t 9)⟩,
     .row ⟨(some 11), (some (10, false)), .move (.t 0)⟩,
     .row ⟨(some 12), (some (10, false)), .lenV (.t 11)⟩,
     .row ⟨(some 13), (some (10, false)), .move (.t 0)⟩,
     .row ⟨(some 14), (some (10, false)), .idxV 1 (.t 13) (.c (.int .i64 56))⟩,
     .row ⟨(some 15), (some (10, false)), .load1 (.t 14)⟩,
     .row ⟨(some 16), (some (10, false)), .conv (.int .i64) (.t 15)⟩,
     .row ⟨(some 17), (some (10, false)), .bin .mul 3 true (.c (.int .i64 8)) (.t 16)⟩,
     .row ⟨(some 18), (some (10, false)), .bin .add 3 true (.c (.int .i64 57)) (.t 17)⟩,
     .row ⟨(some 19), (some (10, false)), .bin .neq 3 false (.t 12) (.t 18)⟩,
     .row ⟨(some 20), none, .pick (.t 10) (.c (.bool true)) (.t 19)⟩])
    (.cond (.t 20)
     (.seq
      (.ops [
       .row ⟨(some 21), none, .build [(.int .i64 0), (.int .i64 0), (.int .i64 0), (.int .i64 0), (.int .i64 0), (.int .i64 0), (.int .i64 0), .nils] []⟩,
       .row ⟨none, none, .store 8 (.t 2) (.t 21)⟩,
       .row ⟨(some 3), none, .move (.c (.int .i64 5))⟩])
      .ret)
     .skip))
   (.seq
    (.ops [
     .row ⟨(some 4), none, .move (.c (.func (.func 25) [] []))⟩])
    (.seq
     (.ops [
      .row ⟨(some 22), none, .move (.t 4)⟩,
      .row ⟨(some 23), none, .move (.t 0)⟩,
      .row ⟨(some 24), none, .sliceV 1 (.t 23) none (some (.c (.int .i64 56))) (some (.c (.int .i64 56)))⟩,
      .row ⟨(some 25), none, .callV (.t 22) [(.t 24)]⟩,
      .row ⟨(some 5), none, .move (.t 25)⟩])
     (.seq
      (.ops [
       .row ⟨(some 26), none, .move (.t 5)⟩,
       .row ⟨(some 27), none, .idxV 1 (.t 26) (.c (.int .i64 0))⟩,
       .row ⟨(some 28), none, .load1 (.t 27)⟩,
       .row ⟨(some 29), none, .move (.t 5)⟩,
       .row ⟨(some 30), none, .idxV 1 (.t 29) (.c (.int .i64 1))⟩,
       .row ⟨(some 31), none, .load1 (.t 30)⟩,
       .row ⟨(some 32), none, .move (.t 5)⟩,
       .row ⟨(some 33), none, .idxV 1 (.t 32) (.c (.int .i64 2))⟩,
       .row ⟨(some 34), none, .load1 (.t 33)⟩,
       .row ⟨(some 35), none, .move (.t 5)⟩,
       .row ⟨(some 36), none, .idxV 1 (.t 35) (.c (.int .i64 3))⟩,
       .row ⟨(some 37), none, .load1 (.t 36)⟩,
       .row ⟨(some 38), none, .move (.t 5)⟩,
       .row ⟨(some 39), none, .idxV 1 (.t 38) (.c (.int .i64 4))⟩,
       .row ⟨(some 40), none, .load1 (.t 39)⟩,
       .row ⟨(some 41), none, .move (.t 5)⟩,
       .row ⟨(some 42), none, .idxV 1 (.t 41) (.c (.int .i64 5))⟩,
       .row ⟨(some 43), none, .load1 (.t 42)⟩,
       .row ⟨(some 44), none, .move (.t 5)⟩,
       .row ⟨(some 45), none, .idxV 1 (.t 44) (.c (.int .i64 6))⟩,
       .row ⟨(some 46), none, .load1 (.t 45)⟩,
       .row ⟨(some 47), none, .move (.t 4)⟩,
       .row ⟨(some 48), none, .move (.t 0)⟩,
       .row ⟨(some 49), none, .sliceV 1 (.t 48) (some (.c (.int .i64 57))) none none⟩,
       .row ⟨(some 6), none, .new [(.int .i64 0), (.int .i64 0), (.int .i64 0), (.int .i64 0), (.int .i64 0), (.int .i64 0), (.int .i64 0), .nils]⟩,
       .stage [⟨(some 46), none, .load1 (.t 45)⟩, ⟨(some 43), none, .load1 (.t 42)⟩, ⟨(some 40), none, .load1 (.t 39)⟩, ⟨(some 37), none, .load1 (.t 36)⟩, ⟨(some 34), none, .load1 (.t 33)⟩, ⟨(some 31), none, .load1 (.t 30)⟩, ⟨(some 28), none, .load1 (.t 27)⟩],
       .row ⟨(some 50), none, .callV (.t 47) [(.t 49)]⟩,
       .row ⟨(some 51), none, .build [(.int .i64 0), (.int .i64 0), (.int .i64 0), (.int .i64 0), (.int .i64 0), (.int .i64 0), (.int .i64 0), .nils] [(0, 1, (.t 28)), (1, 1, (.t 31)), (2, 1, (.t 34)), (3, 1, (.t 37)), (4, 1, (.t 40)), (5, 1, (.t 43)), (6, 1, (.t 46)), (7, 1, (.t 50))]⟩,
       .stage [⟨(some 46), none, .load1 (.t 45)⟩, ⟨(some 43), none, .load1 (.t 42)⟩, ⟨(some 40), none, .load1 (.t 39)⟩, ⟨(some 37), none, .load1 (.t 36)⟩, ⟨(some 34), none, .load1 (.t 33)⟩, ⟨(some 31), none, .load1 (.t 30)⟩, ⟨(some 28), none, .load1 (.t 27)⟩],
       .row ⟨none, none, .store 8 (.t 6) (.t 51)⟩])
      (.seq
       (.seq
        (.ops [
         .row ⟨(some 52), none, .loadN 8 (.t 6)⟩,
         .row ⟨(some 53), none, .callV (.c (.func (.func 21) [] [])) [(.t 52)]⟩,
         .row ⟨(some 54), none, .un .not (.t 53)⟩])
        (.cond (.t 54)
         (.seq
          (.ops [
           .row ⟨(some 55), none, .build [(.int .i64 0), (.int .i64 0), (.int .i64 0), (.int .i64 0), (.int .i64 0), (.int .i64 0), (.int .i64 0), .nils] []⟩,
           .row ⟨none, none, .store 8 (.t 2) (.t 55)⟩,
           .row ⟨(some 3), none, .move (.c (.int .i64 5))⟩])
          .ret)
         .skip))
       (.seq
        (.ops [
         .row ⟨(some 56), none, .loadN 8 (.t 6)⟩,
         .row ⟨none, none, .store 8 (.t 2) (.t 56)⟩,
         .row ⟨(some 3), none, .move (.c (.int .i64 0))⟩])
        .ret)))))))

theorem comp8 : compF Tryd.prog 8 = .ok ⟨57, [.many 2 8, .tmp 3], cc8⟩ := by kernel_rfl

/-- dryrot/dryrotref19.Decode, of 1 -/
noncomputable def cc9 : CC :=
 (.seq
  (.ops [
   .row ⟨(some 2), none, .new [(.int .i64 0), (.int .i64 0), (.int .i64 0), (.int .i64 0), (.int .i64 0), (.int .i64 0), (.int .i64 0), .nils]⟩,
   .row ⟨(some 3), none, .move (.c (.int .i64 0))⟩])
  (.seq
   (.seq
    (.ops [
     .row ⟨(some 10), none, .move (.t 0)⟩,
     .row ⟨(some 11), none, .lenV (.t 10)⟩,
     .row ⟨(some 12), none, .bin .lss 3 true (.t 11) (.c (.int .i64 57))⟩,
     .row ⟨(some 13), none, .move (.t 12)⟩,
     .row ⟨(some 14), (some (13, false)), .move (.t 0)⟩,
     .row ⟨(some 15), (some (13, false)), .lenV (.t 14)⟩,
     .row ⟨(some 16), (some (13, false)), .move (.t 0)⟩,
     .row ⟨(some 17), (some (13, false)), .idxV 1 (.t 16) (.c (.int .i64 56))⟩,
     .row ⟨(some 18), (some (13, false)), .load1 (.t 17)⟩,
     .row ⟨(some 19), (some (13, false)), .conv (.int .i64) (.t 18)⟩,
     .row ⟨(some 20), (some (13, false)), .bin .mul 3 true (.c (.int .i64 8)) (.t 19)⟩,
     .row ⟨(some 21), (some (13, false)), .bin .add 3 true (.c (.int .i64 57)) (.t 20)⟩,
     .row ⟨(some 22), (some (13, false)), .bin .neq 3 false (.t 15) (.t 21)⟩,
     .row ⟨(some 23), none, .pick (.t 13) (.c (.bool true)) (.t 22)⟩])
    (.cond (.t 23)
     (.seq
      (.ops [
       .row ⟨(some 24), none, .build [(.int .i64 0), (.int .i64 0), (.int .i64 0), (.int .i64 0), (.int .i64 0), (.int .i64 0), (.int .i64 0), .nils] []⟩,
       .row ⟨none, none, .store 8 (.t 2) (.t 24)⟩,
       .row ⟨(some 3), none, .move (.c (.int .i64 5))⟩])
      .ret)
     .skip))
   (.seq
    (.ops [
     .row ⟨(some 4), none, .move (.c .nils)⟩])
    (.seq
     (.seq
      (.ops [
       .row ⟨(some 5), none, .move (.c (.int .i64 0))⟩])
      (.block 0
       (.loop
        (.seq
         (.seq
          (.ops [
           .row ⟨(some 25), none, .move (.t 5)⟩,
           .row ⟨(some 26), none, .move (.t 0)⟩,
           .row ⟨(some 27), none, .lenV (.t 26)⟩,
           .row ⟨(some 28), none, .bin .lss 3 false (.t 25) (.t 27)⟩])
          (.cond (.t 28)
           .skip
           (.exit 0)))
         (.block 1
          (.seq
           (.seq
            (.ops [
             .row ⟨(some 29), none, .move (.t 5)⟩,
             .row ⟨(some 30), none, .bin .eql 3 true (.t 29) (.c (.int .i64 56))⟩])
            (.cond (.t 30)
             (.seq
              (.ops [
               .row ⟨(some 31), none, .move (.t 5)⟩,
               .row ⟨(some 32), none, .bin .add 3 true (.t 31) (.c (.int .i64 1))⟩,
               .row ⟨(some 5), none, .move (.t 32)⟩])
              (.exit 1))
             .skip))
           (.seq
            (.ops [
             .row ⟨(some 34), none, .move (.t 0)⟩,
             .row ⟨(some 35), none, .move (.t 5)⟩,
             .row ⟨(some 36), none, .sliceV 1 (.t 34) (some (.t 35)) none none⟩,
             .row ⟨(some 37), none, .callV (.c (.func (.func 28) [] [])) [(.t 36), (.c (.int .i64 8))]⟩,
             .row ⟨(some 33), none, .move (.t 37)⟩,
             .row ⟨(some 38), none, .extract (.t 33) 0⟩,
             .row ⟨(some 39), none, .extract (.t 33) 1⟩,
             .row ⟨(some 40), none, .extract (.t 33) 2⟩,
             .row ⟨(some 6), none, .move (.t 38)⟩,
             .row ⟨(some 7), none, .move (.t 39)⟩,
             .row ⟨(some 8), none, .move (.t 40)⟩])
            (.seq
             (.ops [
              .row ⟨(some 41), none, .move (.t 4)⟩,
              .row ⟨(some 42), none, .move (.t 6)⟩,
              .row ⟨(some 43), none, .buildSlice 1 1 [(.int .i64 0)] [(0, 1, (.t 42))]⟩,
              .row ⟨(some 44), none, .app 1 8 (.t 41) (.t 43)⟩,
              .row ⟨(some 4), none, .move (.t 44)⟩])
             (.ops [
              .row ⟨(some 45), none, .move (.t 5)⟩,
              .row ⟨(some 46), none, .bin .add 3 true (.t 45) (.c (.int .i64 8))⟩,
              .row ⟨(some 5), none, .move (.t 46)⟩])))))))))
     (.seq
      (.ops [
       .row ⟨(some 47), none, .move (.t 4)⟩,
       .row ⟨(some 48), none, .idxV 1 (.t 47) (.c (.int .i64 0))⟩,
       .row ⟨(some 49), none, .load1 (.t 48)⟩,
       .row ⟨(some 50), none, .move (.t 4)⟩,
       .row ⟨(some 51), none, .idxV 1 (.t 50) (.c (.int .i64 1))⟩,
       .row ⟨(some 52), none, .load1 (.t 51)⟩,
       .row ⟨(some 53), none, .move (.t 4)⟩,
       .row ⟨(some 54), none, .idxV 1 (.t 53) (.c (.int .i64 2))⟩,
       .row ⟨(some 55), none, .load1 (.t 54)⟩,
       .row ⟨(some 56), none, .move (.t 4)⟩,
       .row ⟨(some 57), none, .idxV 1 (.t 56) (.c (.int .i64 3))⟩,
       .row ⟨(some 58), none, .load1 (.t 57)⟩,
       .row ⟨(some 59), none, .move (.t 4)⟩,
       .row ⟨(some 60), none, .idxV 1 (.t 59) (.c (.int .i64 4))⟩,
       .row ⟨(some 61), none, .load1 (.t 60)⟩,
       .row ⟨(some 62), none, .move (.t 4)⟩,
       .row ⟨(some 63), none, .idxV 1 (.t 62) (.c (.int .i64 5))⟩,
       .row ⟨(some 64), none, .load1 (.t 63)⟩,
       .row ⟨(some 65), none, .move (.t 4)⟩,
       .row ⟨(some 66), none, .idxV 1 (.t 65) (.c (.int .i64 6))⟩,
       .row ⟨(some 67), none, .load1 (.t 66)⟩,
       .row ⟨(some 68), none, .buildSlice 0 1 [] []⟩,
       .row ⟨(some 69), none, .move (.t 4)⟩,
       .row ⟨(some 70), none, .sliceV 1 (.t 69) (some (.c (.int .i64 7))) none none⟩,
       .row ⟨(some 9), none, .new [(.int .i64 0), (.int .i64 0), (.int .i64 0), (.int .i64 0), (.int .i64 0), (.int .i64 0), (.int .i64 0), .nils]⟩,
       .stage [⟨(some 67), none, .load1 (.t 66)⟩, ⟨(some 64), none, .load1 (.t 63)⟩, ⟨(some 61), none, .load1 (.t 60)⟩, ⟨(some 58), none, .load1 (.t 57)⟩, ⟨(some 55), none, .load1 (.t 54)⟩, ⟨(some 52), none, .load1 (.t 51)⟩, ⟨(some 49), none, .load1 (.t 48)⟩],
       .row ⟨(some 71), none, .app 1 8 (.t 68) (.t 70)⟩,
       .row ⟨(some 72), none, .build [(.int .i64 0), (.int .i64 0), (.int .i64 0), (.int .i64 0), (.int .i64 0), (.int .i64 0), (.int .i64 0), .nils] [(0, 1, (.t 49)), (1, 1, (.t 52)), (2, 1, (.t 55)), (3, 1, (.t 58)), (4, 1, (.t 61)), (5, 1, (.t 64)), (6, 1, (.t 67)), (7, 1, (.t 71))]⟩,
       .stage [⟨(some 67), none, .load1 (.t 66)⟩, ⟨(some 64), none, .load1 (.t 63)⟩, ⟨(some 61), none, .load1 (.t 60)⟩, ⟨(some 58), none, .load1 (.t 57)⟩, ⟨(some 55), none, .load1 (.t 54)⟩, ⟨(some 52), none, .load1 (.t 51)⟩, ⟨(some 49), none, .load1 (.t 48)⟩],
       .row ⟨none, none, .store 8 (.t 9) (.t 72)⟩])
      (.seq
       (.seq
        (.ops [
         .row ⟨(some 73), none, .loadN 8 (.t 9)⟩,
         .row ⟨(some 74), none, .callV (.c (.func (.func 23) [] [])) [(.t 73)]⟩,
         .row ⟨(some 75), none, .un .not (.t 74)⟩])
        (.cond (.t 75)
         (.seq
          (.ops [
           .row ⟨(some 76), none, .build [(.int .i64 0), (.int .i64 0), (.int .i64 0), (.int .i64 0), (.int .i64 0), (.int .i64 0), (.int .i64 0), .nils] []⟩,
           .row ⟨none, none, .store 8 (.t 2) (.t 76)⟩,
           .row ⟨(some 3), none, .move (.c (.int .i64 5))⟩])
          .ret)
         .skip))
       (.seq
        (.ops [
         .row ⟨(some 77), none, .loadN 8 (.t 9)⟩,
         .row ⟨none, none, .store 8 (.t 2) (.t 77)⟩,
         .row ⟨(some 3), none, .move (.c (.int .i64 0))⟩])
        .ret)))))))

theorem comp9 : compF Tryd.prog 9 = .ok ⟨78, [.many 2 8, .tmp 3], cc9⟩ := by kernel_rfl

/-- slices.Equal[[]byte,byte], of 2 -/
noncomputable def cc10 : CC :=
 (.seq
  (.ops [
   .row ⟨(some 4), none, .move (.c (.bool false))⟩])
  (.seq
   (.seq
    (.ops [
     .row ⟨(some 6), none, .move (.t 0)⟩,
     .row ⟨(some 7), none, .lenV (.t 6)⟩,
     .row ⟨(some 8), none, .move (.t 1)⟩,
     .row ⟨(some 9), none, .lenV (.t 8)⟩,
     .row ⟨(some 10), none, .bin .neq 3 false (.t 7) (.t 9)⟩])
    (.cond (.t 10)
     (.seq
      (.ops [
       .row ⟨(some 4), none, .move (.c (.bool false))⟩])
      .ret)
     .skip))
   (.seq
    (.seq
     (.ops [
      .row ⟨(some 11), none, .move (.t 0)⟩,
      .row ⟨(some 12), none, .lenV (.t 11)⟩,
      .row ⟨(some 13), none, .move (.c (.int .i64 0))⟩])
     (.block 0
      (.loop
       (.seq
        (.ops [
         .row ⟨(some 14), none, .bin .lss 3 false (.t 13) (.t 12)⟩])
        (.seq
         (.cond (.t 14)
          .skip
          (.exit 0))
         (.seq
          (.block 1
           (.seq
            (.ops [
             .row ⟨(some 15), none, .move (.t 13)⟩,
             .row ⟨(some 5), none, .move (.t 15)⟩])
            (.seq
             (.ops [
              .row ⟨(some 16), none, .move (.t 0)⟩,
              .row ⟨(some 17), none, .move (.t 5)⟩,
              .row ⟨(some 18), none, .idxV 1 (.t 16) (.t 17)⟩,
              .row ⟨(some 19), none, .load1 (.t 18)⟩,
              .row ⟨(some 20), none, .move (.t 1)⟩,
              .row ⟨(some 21), none, .move (.t 5)⟩,
              .row ⟨(some 22), none, .idxV 1 (.t 20) (.t 21)⟩,
              .row ⟨(some 23), none, .load1 (.t 22)⟩,
              .row ⟨(some 24), none, .bin .neq 5 false (.t 19) (.t 23)⟩,
              .stage [⟨(some 23), none, .load1 (.t 22)⟩, ⟨(some 19), none, .load1 (.t 18)⟩]])
             (.cond (.t 24)
              (.seq
               (.ops [
                .row ⟨(some 4), none, .move (.c (.bool false))⟩])
               .ret)
              .skip))))
          (.ops [
           .row ⟨(some 25), none, .bin .add 3 true (.t 13) (.c (.int .i64 1))⟩,
           .row ⟨(some 13), none, .move (.t 25)⟩])))))))
    (.seq
     (.ops [
      .row ⟨(some 4), none, .move (.c (.bool true))⟩])
     .ret))))

theorem comp10 : compF Tryd.prog 10 = .ok ⟨26, [.tmp 4], cc10⟩ := by kernel_rfl

/-- dryrot/dryrotplain.SameFooter, of 2 -/
noncomputable def cc11 : CC :=
 (.seq
  (.ops [
   .row ⟨(some 2), none, .box (.t 0)⟩,
   .row ⟨(some 3), none, .box (.t 1)⟩,
   .row ⟨(some 4), none, .move (.c (.bool false))⟩])
  (.seq
   (.ops [
    .row ⟨(some 5), none, .fieldAddr 0 (.t 2)⟩,
    .row ⟨(some 6), none, .load1 (.t 5)⟩,
    .row ⟨(some 7), none, .fieldAddr 0 (.t 3)⟩,
    .row ⟨(some 8), none, .load1 (.t 7)⟩,
    .row ⟨(some 9), none, .bin .eql 3 false (.t 6) (.t 8)⟩,
    .row ⟨(some 10), none, .move (.t 9)⟩,
    .row ⟨(some 11), (some (10, true)), .fieldAddr 1 (.t 2)⟩,
    .row ⟨(some 12), (some (10, true)), .load1 (.t 11)⟩,
    .row ⟨(some 13), (some (10, true)), .fieldAddr 1 (.t 3)⟩,
    .row ⟨(some 14), (some (10, true)), .load1 (.t 13)⟩,
    .row ⟨(some 15), (some (10, true)), .bin .eql 3 false (.t 12) (.t 14)⟩,
    .row ⟨(some 16), none, .pick (.t 10) (.t 15) (.c (.bool false))⟩,
    .row ⟨(some 17), none, .move (.t 16)⟩,
    .row ⟨(some 18), (some (17, true)), .fieldAddr 2 (.t 2)⟩,
    .row ⟨(some 19), (some (17, true)), .load1 (.t 18)⟩,
    .row ⟨(some 20), (some (17, true)), .fieldAddr 2 (.t 3)⟩,
    .row ⟨(some 21), (some (17, true)), .load1 (.t 20)⟩,
    .row ⟨(some 22), (some (17, true)), .bin .eql 3 false (.t 19) (.t 21)⟩,
    .row ⟨(some 23), none, .pick (.t 17) (.t 22) (.c (.bool false))⟩,
    .row ⟨(some 24), none, .move (.t 23)⟩,
    .row ⟨(some 25), (some (24, true)), .fieldAddr 3 (.t 2)⟩,
    .row ⟨(some 26), (some (24, true)), .load1 (.t 25)⟩,
    .row ⟨(some 27), (some (24, true)), .fieldAddr 3 (.t 3)⟩,
    .row ⟨(some 28), (some (24, true)), .load1 (.t 27)⟩,
    .row ⟨(some 29), (some (24, true)), .bin .eql 3 false (.t 26) (.t 28)⟩,
    .row ⟨(some 30), none, .pick (.t 24) (.t 29) (.c (.bool false))⟩,
    .row ⟨(some 31), none, .move (.t 30)⟩,
    .row ⟨(some 32), (some (31, true)), .fieldAddr 4 (.t 2)⟩,
    .row ⟨(some 33), (some (31, true)), .load1 (.t 32)⟩,
    .row ⟨(some 34), (some (31, true)), .fieldAddr 4 (.t 3)⟩,
    .row ⟨(some 35), (some (31, true)), .load1 (.t 34)⟩,
    .row ⟨(some 36), (some (31, true)), .bin .eql 3 false (.t 33) (.t 35)⟩,
    .row ⟨(some 37), none, .pick (.t 31) (.t 36) (.c (.bool false))⟩,
    .row ⟨(some 38), none, .move (.t 37)⟩,
    .row ⟨(some 39), (some (38, true)), .fieldAddr 5 (.t 2)⟩,
    .row ⟨(some 40), (some (38, true)), .load1 (.t 39)⟩,
    .row ⟨(some 41), (some (38, true)), .fieldAddr 5 (.t 3)⟩,
    .row ⟨(some 42), (some (38, true)), .load1 (.t 41)⟩,
    .row ⟨(some 43), (some (38, true)), .bin .eql 3 false (.t 40) (.t 42)⟩,
    .row ⟨(some 44), none, .pick (.t 38) (.t 43) (.c (.bool false))⟩,
    .row ⟨(some 45), none, .move (.t 44)⟩,
    .row ⟨(some 46), (some (45, true)), .fieldAddr 6 (.t 2)⟩,
    .row ⟨(some 47), (some (45, true)), .load1 (.t 46)⟩,
    .row ⟨(some 48), (some (45, true)), .fieldAddr 6 (.t 3)⟩,
    .row ⟨(some 49), (some (45, true)), .load1 (.t 48)⟩,
    .row ⟨(some 50), (some (45, true)), .bin .eql 3 false (.t 47) (.t 49)⟩,
    .row ⟨(some 51), none, .pick (.t 45) (.t 50) (.c (.bool false))⟩,
    .row ⟨(some 52), none, .move (.t 51)⟩,
    .row ⟨(some 53), (some (52, true)), .fieldAddr 7 (.t 2)⟩,
    .row ⟨(some 54), (some (52, true)), .load1 (.t 53)⟩,
    .row ⟨(some 55), (some (52, true)), .fieldAddr 7 (.t 3)⟩,
    .row ⟨(some 56), (some (52, true)), .load1 (.t 55)⟩,
    .row ⟨(some 57), (some (52, true)), .callV (.c (.func (.func 19) [] [])) [(.t 54), (.t 56)]⟩,
    .row ⟨(some 58), none, .pick (.t 52) (.t 57) (.c (.bool false))⟩,
    .row ⟨(some 4), none, .move (.t 58)⟩])
   .ret))

theorem comp11 : compF Tryd.prog 11 = .ok ⟨59, [.tmp 4], cc11⟩ := by kernel_rfl

/-- slices.Equal[[]int,int], of 2 -/
noncomputable def cc19 : CC :=
 (.seq
  (.ops [
   .row ⟨(some 4), none, .move (.c (.bool false))⟩])
  (.seq
   (.seq
    (.ops [
     .row ⟨(some 6), none, .move (.t 0)⟩,
     .row ⟨(some 7), none, .lenV (.t 6)⟩,
     .row ⟨(some 8), none, .move (.t 1)⟩,
     .row ⟨(some 9), none, .lenV (.t 8)⟩,
     .row ⟨(some 10), none, .bin .neq 3 false (.t 7) (.t 9)⟩])
    (.cond (.t 10)
     (.seq
      (.ops [
       .row ⟨(some 4), none, .move (.c (.bool false))⟩])
      .ret)
     .skip))
   (.seq
    (.seq
     (.ops [
      .row ⟨(some 11), none, .move (.t 0)⟩,
      .row ⟨(some 12), none, .lenV (.t 11)⟩,
      .row ⟨(some 13), none, .move (.c (.int .i64 0))⟩])
     (.block 0
      (.loop
       (.seq
        (.ops [
         .row ⟨(some 14), none, .bin .lss 3 false (.t 13) (.t 12)⟩])
        (.seq
         (.cond (.t 14)
          .skip
          (.exit 0))
         (.seq
          (.block 1
           (.seq
            (.ops [
             .row ⟨(some 15), none, .move (.t 13)⟩,
             .row ⟨(some 5), none, .move (.t 15)⟩])
            (.seq
             (.ops [
              .row ⟨(some 16), none, .move (.t 0)⟩,
              .row ⟨(some 17), none, .move (.t 5)⟩,
              .row ⟨(some 18), none, .idxV 1 (.t 16) (.t 17)⟩,
              .row ⟨(some 19), none, .load1 (.t 18)⟩,
              .row ⟨(some 20), none, .move (.t 1)⟩,
              .row ⟨(some 21), none, .move (.t 5)⟩,
              .row ⟨(some 22), none, .idxV 1 (.t 20) (.t 21)⟩,
              .row ⟨(some 23), none, .load1 (.t 22)⟩,
              .row ⟨(some 24), none, .bin .neq 3 false (.t 19) (.t 23)⟩,
              .stage [⟨(some 23), none, .load1 (.t 22)⟩, ⟨(some 19), none, .load1 (.t 18)⟩]])
             (.cond (.t 24)
              (.seq
               (.ops [
                .row ⟨(some 4), none, .move (.c (.bool false))⟩])
               .ret)
              .skip))))
          (.ops [
           .row ⟨(some 25), none, .bin .add 3 true (.t 13) (.c (.int .i64 1))⟩,
           .row ⟨(some 13), none, .move (.t 25)⟩])))))))
    (.seq
     (.ops [
      .row ⟨(some 4), none, .move (.c (.bool true))⟩])
     .ret))))

theorem comp19 : compF Tryd.prog 19 = .ok ⟨26, [.tmp 4], cc19⟩ := by kernel_rfl

/-- dryrot/block.can, of 1 -/
noncomputable def cc21 : CC :=
 (.seq
  (.ops [
   .row ⟨(some 1), none, .box (.t 0)⟩,
   .row ⟨(some 2), none, .move (.c (.bool false))⟩])
  (.seq
   (.block 0
    (.seq
     (.ops [
      .row ⟨(some 4), none, .fieldAddr 0 (.t 1)⟩,
      .row ⟨(some 5), none, .load1 (.t 4)⟩,
      .row ⟨(some 6), none, .callV (.c (.func (.func 46) [] [])) [(.t 5)]⟩,
      .row ⟨(some 7), none, .un .not (.t 6)⟩,
      .row ⟨(some 8), none, .move (.t 7)⟩,
      .row ⟨(some 9), (some (8, false)), .fieldAddr 1 (.t 1)⟩,
      .row ⟨(some 10), (some (8, false)), .load1 (.t 9)⟩,
      .row ⟨(some 11), (some (8, false)), .callV (.c (.func (.func 46) [] [])) [(.t 10)]⟩,
      .row ⟨(some 12), (some (8, false)), .un .not (.t 11)⟩,
      .row ⟨(some 13), none, .pick (.t 8) (.c (.bool true)) (.t 12)⟩,
      .row ⟨(some 14), none, .move (.t 13)⟩,
      .row ⟨(some 15), (some (14, false)), .fieldAddr 3 (.t 1)⟩,
      .row ⟨(some 16), (some (14, false)), .load1 (.t 15)⟩,
      .row ⟨(some 17), (some (14, false)), .callV (.c (.func (.func 46) [] [])) [(.t 16)]⟩,
      .row ⟨(some 18), (some (14, false)), .un .not (.t 17)⟩,
      .row ⟨(some 19), none, .pick (.t 14) (.c (.bool true)) (.t 18)⟩,
      .row ⟨(some 20), none, .move (.t 19)⟩,
      .row ⟨(some 21), (some (20, false)), .fieldAddr 2 (.t 1)⟩,
      .row ⟨(some 22), (some (20, false)), .load1 (.t 21)⟩,
      .row ⟨(some 23), (some (20, false)), .bin .lss 3 true (.t 22) (.c (.int .i64 1))⟩,
      .row ⟨(some 24), none, .pick (.t 20) (.c (.bool true)) (.t 23)⟩,
      .row ⟨(some 25), none, .move (.t 24)⟩,
      .row ⟨(some 26), (some (25, false)), .fieldAddr 2 (.t 1)⟩,
      .row ⟨(some 27), (some (25, false)), .load1 (.t 26)⟩,
      .row ⟨(some 28), (some (25, false)), .bin .gtr 3 true (.t 27) (.c (.int .i64 3))⟩,
      .row ⟨(some 29), none, .pick (.t 25) (.c (.bool true)) (.t 28)⟩,
      .row ⟨(some 3), none, .move (.t 29)⟩])
     (.cond (.t 3)
      (.seq
       (.ops [
        .row ⟨(some 2), none, .move (.c (.bool false))⟩])
       .ret)
      (.seq
       (.ops [
        .row ⟨(some 31), none, .fieldAddr 6 (.t 1)⟩,
        .row ⟨(some 32), none, .load1 (.t 31)⟩,
        .row ⟨(some 33), none, .bin .lss 3 true (.t 32) (.c (.int .i64 0))⟩,
        .row ⟨(some 34), none, .move (.t 33)⟩,
        .row ⟨(some 35), (some (34, false)), .fieldAddr 6 (.t 1)⟩,
        .row ⟨(some 36), (some (34, false)), .load1 (.t 35)⟩,
        .row ⟨(some 37), (some (34, false)), .bin .gtr 3 true (.t 36) (.c (.int .i64 2147483647))⟩,
        .row ⟨(some 38), none, .pick (.t 34) (.c (.bool true)) (.t 37)⟩,
        .row ⟨(some 39), none, .move (.t 38)⟩,
        .row ⟨(some 40), (some (39, false)), .fieldAddr 4 (.t 1)⟩,
        .row ⟨(some 41), (some (39, false)), .load1 (.t 40)⟩,
        .row ⟨(some 42), (some (39, false)), .fieldAddr 5 (.t 1)⟩,
        .row ⟨(some 43), (some (39, false)), .load1 (.t 42)⟩,
        .row ⟨(some 44), (some (39, false)), .bin .gtr 3 false (.t 41) (.t 43)⟩,
        .row ⟨(some 45), none, .pick (.t 39) (.c (.bool true)) (.t 44)⟩,
        .row ⟨(some 46), none, .move (.t 45)⟩,
        .row ⟨(some 47), (some (46, false)), .fieldAddr 6 (.t 1)⟩,
        .row ⟨(some 48), (some (46, false)), .load1 (.t 47)⟩,
        .row ⟨(some 49), (some (46, false)), .bin .eql 3 true (.t 48) (.c (.int .i64 0))⟩,
        .row ⟨(some 50), (some (46, false)), .move (.t 49)⟩,
        .row ⟨(some 51), (some (50, true)), .fieldAddr 4 (.t 1)⟩,
        .row ⟨(some 52), (some (50, true)), .load1 (.t 51)⟩,
        .row ⟨(some 53), (some (50, true)), .bin .neq 3 true (.t 52) (.c (.int .i64 0))⟩,
        .row ⟨(some 54), (some (50, true)), .move (.t 53)⟩,
        .row ⟨(some 55), (some (54, false)), .fieldAddr 5 (.t 1)⟩,
        .row ⟨(some 56), (some (54, false)), .load1 (.t 55)⟩,
        .row ⟨(some 57), (some (54, false)), .bin .neq 3 true (.t 56) (.c (.int .i64 0))⟩,
        .row ⟨(some 58), (some (50, true)), .pick (.t 54) (.c (.bool true)) (.t 57)⟩,
        .row ⟨(some 59), (some (46, false)), .pick (.t 50) (.t 58) (.c (.bool false))⟩,
        .row ⟨(some 60), none, .pick (.t 46) (.c (.bool true)) (.t 59)⟩,
        .row ⟨(some 30), none, .move (.t 60)⟩])
       (.cond (.t 30)
        (.seq
         (.ops [
          .row ⟨(some 2), none, .move (.c (.bool false))⟩])
         .ret)
        .skip)))))
   (.seq
    (.ops [
     .row ⟨(some 61), none, .fieldAddr 7 (.t 1)⟩,
     .row ⟨(some 62), none, .load1 (.t 61)⟩,
     .row ⟨(some 63), none, .lenV (.t 62)⟩,
     .row ⟨(some 64), none, .bin .leq 3 true (.t 63) (.c (.int .i64 3))⟩,
     .row ⟨(some 65), none, .move (.t 64)⟩,
     .row ⟨(some 66), (some (65, true)), .fieldAddr 7 (.t 1)⟩,
     .row ⟨(some 67), (some (65, true)), .load1 (.t 66)⟩,
     .row ⟨(some 68), (some (65, true)), .callV (.c (.func (.func 47) [] [])) [(.t 67), (.c (.func (.func 48) [] []))]⟩,
     .row ⟨(some 69), (some (65, true)), .un .not (.t 68)⟩,
     .row ⟨(some 70), none, .pick (.t 65) (.t 69) (.c (.bool false))⟩,
     .row ⟨(some 2), none, .move (.t 70)⟩])
    .ret)))

theorem comp21 : compF Tryd.prog 21 = .ok ⟨71, [.tmp 2], cc21⟩ := by kernel_rfl

/-- dryrot/crc.Put, of 2 -/
noncomputable def cc22 : CC :=
 (.seq
  (.ops [
   .row ⟨(some 4), none, .move (.c .nils)⟩])
  (.seq
   (.ops [
    .row ⟨(some 7), none, .move (.t 1)⟩,
    .row ⟨(some 8), none, .mm true (.t 7) [(.c (.int .i64 0))]⟩,
    .row ⟨(some 9), none, .mm false (.t 8) [(.c (.int .i64 8))]⟩,
    .row ⟨(some 10), none, .mkS 1 1 [(.int .u8 0)] (.t 9) (.t 9)⟩,
    .row ⟨(some 5), none, .move (.t 10)⟩])
   (.seq
    (.seq
     (.ops [
      .row ⟨(some 11), none, .move (.t 5)⟩,
      .row ⟨(some 12), none, .lenV (.t 11)⟩,
      .row ⟨(some 13), none, .move (.c (.int .i64 0))⟩])
     (.block 0
      (.loop
       (.seq
        (.ops [
         .row ⟨(some 14), none, .bin .lss 3 false (.t 13) (.t 12)⟩])
        (.seq
         (.cond (.t 14)
          .skip
          (.exit 0))
         (.seq
          (.block 1
           (.seq
            (.ops [
             .row ⟨(some 15), none, .move (.t 13)⟩,
             .row ⟨(some 6), none, .move (.t 15)⟩])
            (.ops [
             .row ⟨(some 16), none, .move (.t 5)⟩,
             .row ⟨(some 17), none, .move (.t 5)⟩,
             .row ⟨(some 18), none, .lenV (.t 17)⟩,
             .row ⟨(some 19), none, .bin .sub 3 true (.t 18) (.c (.int .i64 1))⟩,
             .row ⟨(some 20), none, .move (.t 6)⟩,
             .row ⟨(some 21), none, .bin .sub 3 false (.t 19) (.t 20)⟩,
             .row ⟨(some 22), none, .move (.t 0)⟩,
             .row ⟨(some 23), none, .move (.t 6)⟩,
             .row ⟨(some 24), none, .bin .mul 3 true (.c (.int .i64 8)) (.t 23)⟩,
             .row ⟨(some 25), none, .bin .shr 45 false (.t 22) (.t 24)⟩,
             .row ⟨(some 26), none, .conv (.int .u8) (.t 25)⟩,
             .row ⟨(some 27), none, .idxV 1 (.t 16) (.t 21)⟩,
             .row ⟨none, none, .store 1 (.t 27) (.t 26)⟩])))
          (.ops [
           .row ⟨(some 28), none, .bin .add 3 true (.t 13) (.c (.int .i64 1))⟩,
           .row ⟨(some 13), none, .move (.t 28)⟩])))))))
    (.seq
     (.ops [
      .row ⟨(some 29), none, .move (.t 5)⟩,
      .row ⟨(some 4), none, .move (.t 29)⟩])
     .ret))))

theorem comp22 : compF Tryd.prog 22 = .ok ⟨30, [.tmp 4], cc22⟩ := by kernel_rfl

/-- dryrot/dryrotref19.Can, of 1 -/
noncomputable def cc23 : CC :=
 (.seq
  (.ops [
   .row ⟨(some 1), none, .box (.t 0)⟩,
   .row ⟨(some 2), none, .move (.c (.bool false))⟩])
  (.seq
   (.seq
    (.ops [
     .row ⟨(some 5), none, .fieldAddr 0 (.t 1)⟩,
     .row ⟨(some 6), none, .load1 (.t 5)⟩,
     .row ⟨(some 7), none, .callV (.c (.func (.func 49) [] [])) [(.t 6)]⟩,
     .row ⟨(some 8), none, .un .not (.t 7)⟩,
     .row ⟨(some 9), none, .move (.t 8)⟩,
     .row ⟨(some 10), (some (9, false)), .fieldAddr 1 (.t 1)⟩,
     .row ⟨(some 11), (some (9, false)), .load1 (.t 10)⟩,
     .row ⟨(some 12), (some (9, false)), .callV (.c (.func (.func 49) [] [])) [(.t 11)]⟩,
     .row ⟨(some 13), (some (9, false)), .un .not (.t 12)⟩,
     .row ⟨(some 14), none, .pick (.t 9) (.c (.bool true)) (.t 13)⟩,
     .row ⟨(some 15), none, .move (.t 14)⟩,
     .row ⟨(some 16), (some (15, false)), .fieldAddr 3 (.t 1)⟩,
     .row ⟨(some 17), (some (15, false)), .load1 (.t 16)⟩,
     .row ⟨(some 18), (some (15, false)), .callV (.c (.func (.func 49) [] [])) [(.t 17)]⟩,
     .row ⟨(some 19), (some (15, false)), .un .not (.t 18)⟩,
     .row ⟨(some 20), none, .pick (.t 15) (.c (.bool true)) (.t 19)⟩,
     .row ⟨(some 21), none, .move (.t 20)⟩,
     .row ⟨(some 22), (some (21, false)), .fieldAddr 2 (.t 1)⟩,
     .row ⟨(some 23), (some (21, false)), .load1 (.t 22)⟩,
     .row ⟨(some 24), (some (21, false)), .bin .lss 3 true (.t 23) (.c (.int .i64 1))⟩,
     .row ⟨(some 25), none, .pick (.t 21) (.c (.bool true)) (.t 24)⟩,
     .row ⟨(some 26), none, .move (.t 25)⟩,
     .row ⟨(some 27), (some (26, false)), .fieldAddr 2 (.t 1)⟩,
     .row ⟨(some 28), (some (26, false)), .load1 (.t 27)⟩,
     .row ⟨(some 29), (some (26, false)), .bin .gtr 3 true (.t 28) (.c (.int .i64 3))⟩,
     .row ⟨(some 30), none, .pick (.t 26) (.c (.bool true)) (.t 29)⟩,
     .row ⟨(some 31), none, .move (.t 30)⟩,
     .row ⟨(some 32), (some (31, false)), .fieldAddr 6 (.t 1)⟩,
     .row ⟨(some 33), (some (31, false)), .load1 (.t 32)⟩,
     .row ⟨(some 34), (some (31, false)), .bin .lss 3 true (.t 33) (.c (.int .i64 0))⟩,
     .row ⟨(some 35), none, .pick (.t 31) (.c (.bool true)) (.t 34)⟩,
     .row ⟨(some 36), none, .move (.t 35)⟩,
     .row ⟨(some 37), (some (36, false)), .fieldAddr 6 (.t 1)⟩,
     .row ⟨(some 38), (some (36, false)), .load1 (.t 37)⟩,
     .row ⟨(some 39), (some (36, false)), .bin .gtr 3 true (.t 38) (.c (.int .i64 2147483647))⟩,
     .row ⟨(some 40), none, .pick (.t 36) (.c (.bool true)) (.t 39)⟩,
     .row ⟨(some 41), none, .move (.t 40)⟩,
     .row ⟨(some 42), (some (41, false)), .fieldAddr 4 (.t 1)⟩,
     .row ⟨(some 43), (some (41, false)), .load1 (.t 42)⟩,
     .row ⟨(some 44), (some (41, false)), .fieldAddr 5 (.t 1)⟩,
     .row ⟨(some 45), (some (41, false)), .load1 (.t 44)⟩,
     .row ⟨(some 46), (some (41, false)), .bin .gtr 3 false (.t 43) (.t 45)⟩,
     .row ⟨(some 47), none, .pick (.t 41) (.c (.bool true)) (.t 46)⟩,
     .row ⟨(some 48), none, .move (.t 47)⟩,
     .row ⟨(some 49), (some (48, false)), .fieldAddr 6 (.t 1)⟩,
     .row ⟨(some 50), (some (48, false)), .load1 (.t 49)⟩,
     .row ⟨(some 51), (some (48, false)), .bin .eql 3 true (.t 50) (.c (.int .i64 0))⟩,
     .row ⟨(some 52), (some (48, false)), .move (.t 51)⟩,
     .row ⟨(some 53), (some (52, true)), .fieldAddr 4 (.t 1)⟩,
     .row ⟨(some 54), (some (52, true)), .load1 (.t 53)⟩,
     .row ⟨(some 55), (some (52, true)), .bin .neq 3 true (.t 54) (.c (.int .i64 0))⟩,
     .row ⟨(some 56), (some (52, true)), .move (.t 55)⟩,
     .row ⟨(some 57), (some (56, false)), .fieldAddr 5 (.t 1)⟩,
     .row ⟨(some 58), (some (56, false)), .load1 (.t 57)⟩,
     .row ⟨(some 59), (some (56, false)), .bin .neq 3 true (.t 58) (.c (.int .i64 0))⟩,
     .row ⟨(some 60), (some (52, true)), .pick (.t 56) (.c (.bool true)) (.t 59)⟩,
     .row ⟨(some 61), (some (48, false)), .pick (.t 52) (.t 60) (.c (.bool false))⟩,
     .row ⟨(some 62), none, .pick (.t 48) (.c (.bool true)) (.t 61)⟩])
    (.cond (.t 62)
     (.seq
      (.ops [
       .row ⟨(some 2), none, .move (.c (.bool false))⟩])
      .ret)
     .skip))
   (.seq
    (.seq
     (.ops [
      .row ⟨(some 63), none, .fieldAddr 7 (.t 1)⟩,
      .row ⟨(some 64), none, .load1 (.t 63)⟩,
      .row ⟨(some 65), none, .lenV (.t 64)⟩,
      .row ⟨(some 66), none, .move (.c (.int .i64 0))⟩])
     (.block 0
      (.loop
       (.seq
        (.ops [
         .row ⟨(some 67), none, .bin .lss 3 false (.t 66) (.t 65)⟩])
        (.seq
         (.cond (.t 67)
          .skip
          (.exit 0))
         (.seq
          (.block 1
           (.seq
            (.ops [
             .row ⟨(some 68), none, .idxV 1 (.t 64) (.t 66)⟩,
             .row ⟨(some 69), none, .load1 (.t 68)⟩,
             .row ⟨(some 4), none, .move (.t 69)⟩])
            (.seq
             (.ops [
              .row ⟨(some 70), none, .move (.t 4)⟩,
              .row ⟨(some 71), none, .callV (.c (.func (.func 49) [] [])) [(.t 70)]⟩,
              .row ⟨(some 72), none, .un .not (.t 71)⟩])
             (.cond (.t 72)
              (.seq
               (.ops [
                .row ⟨(some 2), none, .move (.c (.bool false))⟩])
               .ret)
              .skip))))
          (.ops [
           .row ⟨(some 73), none, .bin .add 3 true (.t 66) (.c (.int .i64 1))⟩,
           .row ⟨(some 66), none, .move (.t 73)⟩])))))))
    (.seq
     (.ops [
      .row ⟨(some 74), none, .fieldAddr 7 (.t 1)⟩,
      .row ⟨(some 75), none, .load1 (.t 74)⟩,
      .row ⟨(some 76), none, .lenV (.t 75)⟩,
      .row ⟨(some 77), none, .bin .leq 3 true (.t 76) (.c (.int .i64 3))⟩,
      .row ⟨(some 2), none, .move (.t 77)⟩])
     .ret))))

theorem comp23 : compF Tryd.prog 23 = .ok ⟨78, [.tmp 2], cc23⟩ := by kernel_rfl

/-- dryrot/dryrotref10.Big, of 1 -/
noncomputable def cc24 : CC :=
 (.seq
  (.ops [
   .row ⟨(some 2), none, .move (.c .nils)⟩])
  (.seq
   (.ops [
    .row ⟨(some 3), none, .move (.t 0)⟩,
    .row ⟨(some 4), none, .conv (.int .u64) (.t 3)⟩,
    .row ⟨(some 5), none, .callV (.c (.func (.func 50) [] [])) [(.t 4), (.c (.int .i64 8))]⟩,
    .row ⟨(some 2), none, .move (.t 5)⟩])
   .ret))

theorem comp24 : compF Tryd.prog 24 = .ok ⟨6, [.tmp 2], cc24⟩ := by kernel_rfl

/-- dryrot/block.Decode$1, of 1 -/
noncomputable def cc25 : CC :=
 (.seq
  (.ops [
   .row ⟨(some 2), none, .move (.c .nils)⟩])
  (.seq
   (.ops [
    .row ⟨(some 3), none, .new [.nils]⟩])
   (.seq
    (.seq
     (.ops [
      .row ⟨(some 7), none, .move (.t 0)⟩,
      .row ⟨(some 8), none, .callV (.c (.func (.func 26) [] [])) [(.t 7), (.c (.int .i64 8))]⟩])
     (.block 0
      (.go 21 (.t 8) #[9] (goAssign 25 0) (goBody 25 0))))
    (.seq
     (.ops [
      .row ⟨(some 20), none, .load1 (.t 3)⟩,
      .row ⟨(some 2), none, .move (.t 20)⟩])
     .ret))))

theorem comp25 : compF Tryd.prog 25 = .ok ⟨21, [.tmp 2], cc25⟩ := by kernel_rfl

noncomputable def goAssignC25_0 : CC :=
 (.ops [
  .row ⟨(some 4), none, .move (.t 9)⟩])

theorem goAssignComp25_0 : compC Tryd.prog 21 true (goAssign 25 0) = .ok goAssignC25_0 := by kernel_rfl

noncomputable def goBodyC25_0 : CC :=
 (.block 1
  (.seq
   (.ops [
    .row ⟨(some 11), none, .move (.t 4)⟩,
    .row ⟨(some 12), none, .callV (.c (.func (.func 27) [] [])) [(.t 11)]⟩,
    .row ⟨(some 10), none, .move (.t 12)⟩,
    .row ⟨(some 13), none, .extract (.t 10) 0⟩,
    .row ⟨(some 14), none, .extract (.t 10) 1⟩,
    .row ⟨(some 5), none, .move (.t 13)⟩,
    .row ⟨(some 6), none, .move (.t 14)⟩])
   (.ops [
    .row ⟨(some 15), none, .load1 (.t 3)⟩,
    .row ⟨(some 16), none, .move (.t 5)⟩,
    .row ⟨(some 17), none, .conv (.int .i64) (.t 16)⟩,
    .row ⟨(some 18), none, .buildSlice 1 1 [(.int .i64 0)] [(0, 1, (.t 17))]⟩,
    .row ⟨(some 19), none, .app 1 8 (.t 15) (.t 18)⟩,
    .row ⟨none, none, .store 1 (.t 3) (.t 19)⟩])))

theorem goBodyComp25_0 : compC Tryd.prog 21 true (goBody 25 0) = .ok goBodyC25_0 := by kernel_rfl

/-- slices.Chunk[[]byte,byte], of 2 -/
noncomputable def cc26 : CC :=
 (.seq
  (.ops [
   .row ⟨(some 2), none, .box (.t 0)⟩,
   .row ⟨(some 3), none, .box (.t 1)⟩,
   .row ⟨(some 4), none, .move (.c .nilf)⟩])
  (.seq
   (.seq
    (.ops [
     .row ⟨(some 5), none, .load1 (.t 3)⟩,
     .row ⟨(some 6), none, .bin .lss 3 true (.t 5) (.c (.int .i64 1))⟩])
    (.cond (.t 6)
     (.ops [
      .row ⟨(some 7), none, .mkI 9 (.c (.str [99, 97, 110, 110, 111, 116, 32, 98, 101, 32, 108, 101, 115, 115, 32, 116, 104, 97, 110, 32, 49]))⟩,
      .row ⟨none, none, .extract (.c .nilp) 0⟩])
     .skip))
   (.seq
    (.ops [
     .row ⟨(some 8), none, .mkF 51 [] [(.t 2), (.t 3)]⟩,
     .row ⟨(some 4), none, .move (.t 8)⟩])
    .ret)))

theorem comp26 : compF Tryd.prog 26 = .ok ⟨9, [.tmp 4], cc26⟩ := by kernel_rfl

/-- dryrot/crc.Get, of 1 -/
noncomputable def cc27 : CC :=
 (.seq
  (.ops [
   .row ⟨(some 2), none, .move (.c (.int .u64 0))⟩,
   .row ⟨(some 3), none, .move (.c (.bool false))⟩])
  (.seq
   (.seq
    (.ops [
     .row ⟨(some 7), none, .move (.t 0)⟩,
     .row ⟨(some 8), none, .lenV (.t 7)⟩,
     .row ⟨(some 9), none, .bin .eql 3 true (.t 8) (.c (.int .i64 0))⟩,
     .row ⟨(some 10), none, .move (.t 9)⟩,
     .row ⟨(some 11), (some (10, false)), .move (.t 0)⟩,
     .row ⟨(some 12), (some (10, false)), .lenV (.t 11)⟩,
     .row ⟨(some 13), (some (10, false)), .bin .gtr 3 true (.t 12) (.c (.int .i64 8))⟩,
     .row ⟨(some 14), none, .pick (.t 10) (.c (.bool true)) (.t 13)⟩])
    (.cond (.t 14)
     (.seq
      (.ops [
       .row ⟨(some 2), none, .move (.c (.int .u64 0))⟩,
       .row ⟨(some 3), none, .move (.c (.bool false))⟩])
      .ret)
     .skip))
   (.seq
    (.ops [
     .row ⟨(some 4), none, .move (.c (.int .u64 0))⟩])
    (.seq
     (.seq
      (.ops [
       .row ⟨(some 15), none, .move (.t 0)⟩,
       .row ⟨(some 16), none, .lenV (.t 15)⟩,
       .row ⟨(some 17), none, .move (.c (.int .i64 0))⟩])
      (.block 0
       (.loop
        (.seq
         (.ops [
          .row ⟨(some 18), none, .bin .lss 3 false (.t 17) (.t 16)⟩])
         (.seq
          (.cond (.t 18)
           .skip
           (.exit 0))
          (.seq
           (.block 1
            (.seq
             (.ops [
              .row ⟨(some 19), none, .idxV 1 (.t 15) (.t 17)⟩,
              .row ⟨(some 20), none, .load1 (.t 19)⟩,
              .row ⟨(some 6), none, .move (.t 20)⟩])
             (.ops [
              .row ⟨(some 21), none, .move (.t 4)⟩,
              .row ⟨(some 22), none, .bin .shl 45 true (.t 21) (.c (.int .u64 8))⟩,
              .row ⟨(some 23), none, .move (.t 6)⟩,
              .row ⟨(some 24), none, .conv (.int .u64) (.t 23)⟩,
              .row ⟨(some 25), none, .bin .or 45 false (.t 22) (.t 24)⟩,
              .row ⟨(some 4), none, .move (.t 25)⟩])))
           (.ops [
            .row ⟨(some 26), none, .bin .add 3 true (.t 17) (.c (.int .i64 1))⟩,
            .row ⟨(some 17), none, .move (.t 26)⟩])))))))
     (.seq
      (.ops [
       .row ⟨(some 27), none, .move (.t 4)⟩,
       .row ⟨(some 2), none, .move (.t 27)⟩,
       .row ⟨(some 3), none, .move (.c (.bool true))⟩])
      .ret)))))

theorem comp27 : compF Tryd.prog 27 = .ok ⟨28, [.tmp 2, .tmp 3], cc27⟩ := by kernel_rfl

/-- dryrot/dryrotref10.Int, of 2 -/
noncomputable def cc28 : CC :=
 (.seq
  (.ops [
   .row ⟨(some 4), none, .move (.c (.int .i64 0))⟩,
   .row ⟨(some 5), none, .move (.c .nils)⟩,
   .row ⟨(some 6), none, .move (.c (.bool false))⟩])
  (.seq
   (.seq
    (.ops [
     .row ⟨(some 9), none, .move (.t 0)⟩,
     .row ⟨(some 10), none, .lenV (.t 9)⟩,
     .row ⟨(some 11), none, .move (.t 1)⟩,
     .row ⟨(some 12), none, .bin .lss 3 false (.t 10) (.t 11)⟩])
    (.cond (.t 12)
     (.seq
      (.ops [
       .row ⟨(some 4), none, .move (.c (.int .i64 0))⟩,
       .row ⟨(some 5), none, .move (.c .nils)⟩,
       .row ⟨(some 6), none, .move (.c (.bool false))⟩])
      .ret)
     .skip))
   (.seq
    (.ops [
     .row ⟨(some 14), none, .move (.t 0)⟩,
     .row ⟨(some 15), none, .move (.t 1)⟩,
     .row ⟨(some 16), none, .sliceV 1 (.t 14) none (some (.t 15)) none⟩,
     .row ⟨(some 17), none, .callV (.c (.func (.func 52) [] [])) [(.t 16)]⟩,
     .row ⟨(some 13), none, .move (.t 17)⟩,
     .row ⟨(some 18), none, .extract (.t 13) 0⟩,
     .row ⟨(some 19), none, .extract (.t 13) 1⟩,
     .row ⟨(some 7), none, .move (.t 18)⟩,
     .row ⟨(some 8), none, .move (.t 19)⟩])
    (.seq
     (.ops [
      .row ⟨(some 20), none, .move (.t 7)⟩,
      .row ⟨(some 21), none, .conv (.int .i64) (.t 20)⟩,
      .row ⟨(some 22), none, .move (.t 0)⟩,
      .row ⟨(some 23), none, .move (.t 1)⟩,
      .row ⟨(some 24), none, .sliceV 1 (.t 22) (some (.t 23)) none none⟩,
      .row ⟨(some 4), none, .move (.t 21)⟩,
      .row ⟨(some 5), none, .move (.t 24)⟩,
      .row ⟨(some 6), none, .move (.c (.bool true))⟩])
     .ret))))

theorem comp28 : compF Tryd.prog 28 = .ok ⟨25, [.tmp 4, .tmp 5, .tmp 6], cc28⟩ := by kernel_rfl

/-- dryrot/block.number, of 1 -/
noncomputable def cc46 : CC :=
 (.seq
  (.ops [
   .row ⟨(some 2), none, .move (.c (.bool false))⟩])
  (.seq
   (.ops [
    .row ⟨(some 3), none, .move (.t 0)⟩,
    .row ⟨(some 4), none, .bin .geq 3 true (.t 3) (.c (.int .i64 1))⟩,
    .row ⟨(some 5), none, .move (.t 4)⟩,
    .row ⟨(some 6), (some (5, true)), .move (.t 0)⟩,
    .row ⟨(some 7), (some (5, true)), .bin .leq 3 true (.t 6) (.c (.int .i64 4611686018427387904))⟩,
    .row ⟨(some 8), none, .pick (.t 5) (.t 7) (.c (.bool false))⟩,
    .row ⟨(some 2), none, .move (.t 8)⟩])
   .ret))

theorem comp46 : compF Tryd.prog 46 = .ok ⟨9, [.tmp 2], cc46⟩ := by kernel_rfl

/-- slices.ContainsFunc[[]int,int], of 2 -/
noncomputable def cc47 : CC :=
 (.seq
  (.ops [
   .row ⟨(some 4), none, .move (.c (.bool false))⟩])
  (.seq
   (.ops [
    .row ⟨(some 5), none, .move (.t 0)⟩,
    .row ⟨(some 6), none, .move (.t 1)⟩,
    .row ⟨(some 7), none, .callV (.c (.func (.func 66) [] [])) [(.t 5), (.t 6)]⟩,
    .row ⟨(some 8), none, .bin .geq 3 true (.t 7) (.c (.int .i64 0))⟩,
    .row ⟨(some 4), none, .move (.t 8)⟩])
   .ret))

theorem comp47 : compF Tryd.prog 47 = .ok ⟨9, [.tmp 4], cc47⟩ := by kernel_rfl

/-- dryrot/block.can$1, of 1 -/
noncomputable def cc48 : CC :=
 (.seq
  (.ops [
   .row ⟨(some 2), none, .move (.c (.bool false))⟩])
  (.seq
   (.ops [
    .row ⟨(some 3), none, .move (.t 0)⟩,
    .row ⟨(some 4), none, .callV (.c (.func (.func 46) [] [])) [(.t 3)]⟩,
    .row ⟨(some 5), none, .un .not (.t 4)⟩,
    .row ⟨(some 2), none, .move (.t 5)⟩])
   .ret))

theorem comp48 : compF Tryd.prog 48 = .ok ⟨6, [.tmp 2], cc48⟩ := by kernel_rfl

/-- dryrot/dryrotref19.number, of 1 -/
noncomputable def cc49 : CC :=
 (.seq
  (.ops [
   .row ⟨(some 2), none, .move (.c (.bool false))⟩])
  (.seq
   (.ops [
    .row ⟨(some 3), none, .move (.t 0)⟩,
    .row ⟨(some 4), none, .bin .geq 3 true (.t 3) (.c (.int .i64 1))⟩,
    .row ⟨(some 5), none, .move (.t 4)⟩,
    .row ⟨(some 6), (some (5, true)), .move (.t 0)⟩,
    .row ⟨(some 7), (some (5, true)), .bin .leq 3 true (.t 6) (.c (.int .i64 4611686018427387904))⟩,
    .row ⟨(some 8), none, .pick (.t 5) (.t 7) (.c (.bool false))⟩,
    .row ⟨(some 2), none, .move (.t 8)⟩])
   .ret))

theorem comp49 : compF Tryd.prog 49 = .ok ⟨9, [.tmp 2], cc49⟩ := by kernel_rfl

/-- dryrot/dryrotref01.Put, of 2 -/
noncomputable def cc50 : CC :=
 (.seq
  (.ops [
   .row ⟨(some 4), none, .move (.c .nils)⟩])
  (.seq
   (.ops [
    .row ⟨(some 8), none, .move (.t 1)⟩,
    .row ⟨(some 9), none, .mm true (.t 8) [(.c (.int .i64 0))]⟩,
    .row ⟨(some 10), none, .mm false (.t 9) [(.c (.int .i64 8))]⟩,
    .row ⟨(some 5), none, .move (.t 10)⟩])
   (.seq
    (.ops [
     .row ⟨(some 11), none, .move (.t 5)⟩,
     .row ⟨(some 12), none, .mkS 1 1 [(.int .u8 0)] (.t 11) (.t 11)⟩,
     .row ⟨(some 6), none, .move (.t 12)⟩])
    (.seq
     (.seq
      (.ops [
       .row ⟨(some 13), none, .move (.t 5)⟩,
       .row ⟨(some 14), none, .bin .sub 3 true (.t 13) (.c (.int .i64 1))⟩,
       .row ⟨(some 7), none, .move (.t 14)⟩])
      (.block 0
       (.loop
        (.seq
         (.seq
          (.ops [
           .row ⟨(some 15), none, .move (.t 7)⟩,
           .row ⟨(some 16), none, .bin .geq 3 true (.t 15) (.c (.int .i64 0))⟩])
          (.cond (.t 16)
           .skip
           (.exit 0)))
         (.seq
          (.block 1
           (.seq
            (.ops [
             .row ⟨(some 19), none, .move (.t 6)⟩,
             .row ⟨(some 20), none, .move (.t 7)⟩,
             .row ⟨(some 21), none, .move (.t 0)⟩,
             .row ⟨(some 22), none, .bin .rem 45 true (.t 21) (.c (.int .u64 256))⟩,
             .row ⟨(some 23), none, .conv (.int .u8) (.t 22)⟩,
             .row ⟨(some 24), none, .idxV 1 (.t 19) (.t 20)⟩,
             .row ⟨none, none, .store 1 (.t 24) (.t 23)⟩])
            (.ops [
             .row ⟨(some 25), none, .move (.t 0)⟩,
             .row ⟨(some 26), none, .bin .quo 45 true (.t 25) (.c (.int .u64 256))⟩,
             .row ⟨(some 0), none, .move (.t 26)⟩])))
          (.ops [
           .row ⟨(some 17), none, .move (.t 7)⟩,
           .row ⟨(some 18), none, .bin .sub 3 true (.t 17) (.c (.int .i64 1))⟩,
           .row ⟨(some 7), none, .move (.t 18)⟩]))))))
     (.seq
      (.ops [
       .row ⟨(some 27), none, .move (.t 6)⟩,
       .row ⟨(some 4), none, .move (.t 27)⟩])
      .ret)))))

theorem comp50 : compF Tryd.prog 50 = .ok ⟨28, [.tmp 4], cc50⟩ := by kernel_rfl

/-- slices.Chunk[[]byte,byte]$1, of 1 -/
noncomputable def cc51 : CC :=
 (.seq
  (.ops [
   .row ⟨(some 4), none, .move (.c (.int .i64 0))⟩])
  (.block 0
   (.loop
    (.seq
     (.seq
      (.ops [
       .row ⟨(some 6), none, .move (.t 4)⟩,
       .row ⟨(some 7), none, .load1 (.t 1)⟩,
       .row ⟨(some 8), none, .lenV (.t 7)⟩,
       .row ⟨(some 9), none, .bin .lss 3 false (.t 6) (.t 8)⟩])
      (.cond (.t 9)
       .skip
       (.exit 0)))
     (.seq
      (.block 1
       (.seq
        (.ops [
         .row ⟨(some 13), none, .load1 (.t 2)⟩,
         .row ⟨(some 14), none, .load1 (.t 1)⟩,
         .row ⟨(some 15), none, .move (.t 4)⟩,
         .row ⟨(some 16), none, .sliceV 1 (.t 14) (some (.t 15)) none none⟩,
         .row ⟨(some 17), none, .lenV (.t 16)⟩,
         .row ⟨(some 18), none, .mm false (.t 13) [(.t 17)]⟩,
         .row ⟨(some 5), none, .move (.t 18)⟩,
         .stage [⟨(some 14), none, .load1 (.t 1)⟩, ⟨(some 13), none, .load1 (.t 2)⟩]])
        (.seq
         (.ops [
          .row ⟨(some 19), none, .move (.t 0)⟩,
          .row ⟨(some 20), none, .load1 (.t 1)⟩,
          .row ⟨(some 21), none, .move (.t 4)⟩,
          .row ⟨(some 22), none, .move (.t 4)⟩,
          .row ⟨(some 23), none, .move (.t 5)⟩,
          .row ⟨(some 24), none, .bin .add 3 false (.t 22) (.t 23)⟩,
          .row ⟨(some 25), none, .move (.t 4)⟩,
          .row ⟨(some 26), none, .move (.t 5)⟩,
          .row ⟨(some 27), none, .bin .add 3 false (.t 25) (.t 26)⟩,
          .row ⟨(some 28), none, .sliceV 1 (.t 20) (some (.t 21)) (some (.t 24)) (some (.t 27))⟩,
          .row ⟨(some 29), none, .callV (.t 19) [(.t 28)]⟩,
          .row ⟨(some 30), none, .un .not (.t 29)⟩])
         (.cond (.t 30)
          .ret
          .skip))))
      (.ops [
       .row ⟨(some 10), none, .move (.t 4)⟩,
       .row ⟨(some 11), none, .load1 (.t 2)⟩,
       .row ⟨(some 12), none, .bin .add 3 false (.t 10) (.t 11)⟩,
       .row ⟨(some 4), none, .move (.t 12)⟩]))))))

theorem comp51 : compF Tryd.prog 51 = .ok ⟨31, [], cc51⟩ := by kernel_rfl

/-- dryrot/dryrotref01.Get, of 1 -/
noncomputable def cc52 : CC :=
 (.seq
  (.ops [
   .row ⟨(some 2), none, .move (.c (.int .u64 0))⟩,
   .row ⟨(some 3), none, .move (.c (.bool false))⟩])
  (.seq
   (.seq
    (.ops [
     .row ⟨(some 7), none, .move (.t 0)⟩,
     .row ⟨(some 8), none, .lenV (.t 7)⟩,
     .row ⟨(some 9), none, .bin .lss 3 true (.t 8) (.c (.int .i64 1))⟩,
     .row ⟨(some 10), none, .move (.t 9)⟩,
     .row ⟨(some 11), (some (10, false)), .move (.t 0)⟩,
     .row ⟨(some 12), (some (10, false)), .lenV (.t 11)⟩,
     .row ⟨(some 13), (some (10, false)), .bin .gtr 3 true (.t 12) (.c (.int .i64 8))⟩,
     .row ⟨(some 14), none, .pick (.t 10) (.c (.bool true)) (.t 13)⟩])
    (.cond (.t 14)
     (.seq
      (.ops [
       .row ⟨(some 2), none, .move (.c (.int .u64 0))⟩,
       .row ⟨(some 3), none, .move (.c (.bool false))⟩])
      .ret)
     .skip))
   (.seq
    (.ops [
     .row ⟨(some 4), none, .move (.c (.int .u64 0))⟩])
    (.seq
     (.seq
      (.ops [
       .row ⟨(some 15), none, .move (.t 0)⟩,
       .row ⟨(some 16), none, .lenV (.t 15)⟩,
       .row ⟨(some 17), none, .move (.c (.int .i64 0))⟩])
      (.block 0
       (.loop
        (.seq
         (.ops [
          .row ⟨(some 18), none, .bin .lss 3 false (.t 17) (.t 16)⟩])
         (.seq
          (.cond (.t 18)
           .skip
           (.exit 0))
          (.seq
           (.block 1
            (.seq
             (.ops [
              .row ⟨(some 19), none, .idxV 1 (.t 15) (.t 17)⟩,
              .row ⟨(some 20), none, .load1 (.t 19)⟩,
              .row ⟨(some 6), none, .move (.t 20)⟩])
             (.ops [
              .row ⟨(some 21), none, .move (.t 4)⟩,
              .row ⟨(some 22), none, .bin .mul 45 true (.t 21) (.c (.int .u64 256))⟩,
              .row ⟨(some 23), none, .move (.t 6)⟩,
              .row ⟨(some 24), none, .conv (.int .u64) (.t 23)⟩,
              .row ⟨(some 25), none, .bin .add 45 false (.t 22) (.t 24)⟩,
              .row ⟨(some 4), none, .move (.t 25)⟩])))
           (.ops [
            .row ⟨(some 26), none, .bin .add 3 true (.t 17) (.c (.int .i64 1))⟩,
            .row ⟨(some 17), none, .move (.t 26)⟩])))))))
     (.seq
      (.ops [
       .row ⟨(some 27), none, .move (.t 4)⟩,
       .row ⟨(some 2), none, .move (.t 27)⟩,
       .row ⟨(some 3), none, .move (.c (.bool true))⟩])
      .ret)))))

theorem comp52 : compF Tryd.prog 52 = .ok ⟨28, [.tmp 2, .tmp 3], cc52⟩ := by kernel_rfl

/-- slices.IndexFunc[[]int,int], of 2 -/
noncomputable def cc66 : CC :=
 (.seq
  (.ops [
   .row ⟨(some 4), none, .move (.c (.int .i64 0))⟩])
  (.seq
   (.seq
    (.ops [
     .row ⟨(some 6), none, .move (.t 0)⟩,
     .row ⟨(some 7), none, .lenV (.t 6)⟩,
     .row ⟨(some 8), none, .move (.c (.int .i64 0))⟩])
    (.block 0
     (.loop
      (.seq
       (.ops [
        .row ⟨(some 9), none, .bin .lss 3 false (.t 8) (.t 7)⟩])
       (.seq
        (.cond (.t 9)
         .skip
         (.exit 0))
        (.seq
         (.block 1
          (.seq
           (.ops [
            .row ⟨(some 10), none, .move (.t 8)⟩,
            .row ⟨(some 5), none, .move (.t 10)⟩])
           (.seq
            (.ops [
             .row ⟨(some 11), none, .move (.t 1)⟩,
             .row ⟨(some 12), none, .move (.t 0)⟩,
             .row ⟨(some 13), none, .move (.t 5)⟩,
             .row ⟨(some 14), none, .idxV 1 (.t 12) (.t 13)⟩,
             .row ⟨(some 15), none, .load1 (.t 14)⟩,
             .row ⟨(some 16), none, .callV (.t 11) [(.t 15)]⟩])
            (.cond (.t 16)
             (.seq
              (.ops [
               .row ⟨(some 17), none, .move (.t 5)⟩,
               .row ⟨(some 4), none, .move (.t 17)⟩])
              .ret)
             .skip))))
         (.ops [
          .row ⟨(some 18), none, .bin .add 3 true (.t 8) (.c (.int .i64 1))⟩,
          .row ⟨(some 8), none, .move (.t 18)⟩])))))))
   (.seq
    (.ops [
     .row ⟨(some 4), none, .move (.c (.int .i64 (-1)))⟩])
    .ret)))

theorem comp66 : compF Tryd.prog 66 = .ok ⟨19, [.tmp 4], cc66⟩ := by kernel_rfl


end Go.Proofs.YthkoheaklmgonaaDoor
