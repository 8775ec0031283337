import Derived.Test.YthkoheaklmgonaaRows
import Derived.Test.YthkoheaklmgonaaDrKit
import Derived.Test.YthkoheaklmgonaaDrArg
namespace Go.Proofs.Ythkoheaklmgonaa
open Go Go.Dr
set_option maxRecDepth 100000

/-- the ranges over functions in a code -/
noncomputable def gos : Code → List (Code × Code)
  | .seq x y => gos x ++ gos y
  | .cond _ x y => gos x ++ gos y
  | .block _ c => gos c
  | .loop c => gos c
  | .scope c => gos c
  | .rangeFunc _ _ a b => [(a, b)]
  | _ => []
noncomputable def gosOf (f : FuncId) : List (Code × Code) := match Try.prog.funcs[f]? with
  | some fn => match fn.body with | some c => gos c | none => []
  | none => []
noncomputable def goAssign (f k : Nat) : Code := match (gosOf f)[k]? with | some p => p.1 | none => .skip
noncomputable def goBody (f k : Nat) : Code := match (gosOf f)[k]? with | some p => p.2 | none => .skip

/-- dryrot/dryrotlaw21.FsckManifests, of 2 -/
noncomputable def cc3 : CC :=
 (.seq
  (.ops [
   .row ⟨(some 4), none, .move (.c (.bool false))⟩])
  (.seq
   (.ops [
    .row ⟨(some 14), none, .move (.t 0)⟩,
    .row ⟨(some 15), none, .move (.t 0)⟩,
    .row ⟨(some 16), none, .lenV (.t 15)⟩,
    .row ⟨(some 17), none, .mm false (.t 16) [(.c (.int .i64 20))]⟩,
    .row ⟨(some 18), none, .sliceV 8 (.t 14) none (some (.t 17)) none⟩,
    .row ⟨(some 19), none, .move (.t 1)⟩,
    .row ⟨(some 20), none, .move (.t 1)⟩,
    .row ⟨(some 21), none, .lenV (.t 20)⟩,
    .row ⟨(some 22), none, .mm false (.t 21) [(.c (.int .i64 1200))]⟩,
    .row ⟨(some 23), none, .sliceV 1 (.t 19) none (some (.t 22)) none⟩,
    .row ⟨(some 0), none, .move (.t 18)⟩,
    .row ⟨(some 1), none, .move (.t 23)⟩])
   (.seq
    (.ops [
     .row ⟨(some 24), none, .move (.t 1)⟩,
     .row ⟨(some 25), none, .callV (.c (.func (.func 5) [] [])) [(.t 24)]⟩,
     .row ⟨(some 5), none, .move (.t 25)⟩])
    (.seq
     (.ops [
      .row ⟨(some 27), none, .move (.t 0)⟩,
      .row ⟨(some 28), none, .callV (.c (.func (.func 6) [] [])) [(.t 27)]⟩,
      .row ⟨(some 26), none, .move (.t 28)⟩,
      .row ⟨(some 29), none, .extract (.t 26) 0⟩,
      .row ⟨(some 30), none, .extract (.t 26) 1⟩,
      .row ⟨(some 6), none, .move (.t 29)⟩,
      .row ⟨(some 7), none, .move (.t 30)⟩])
     (.seq
      (.ops [
       .row ⟨(some 32), none, .move (.t 0)⟩,
       .row ⟨(some 33), none, .callV (.c (.func (.func 7) [] [])) [(.t 32)]⟩,
       .row ⟨(some 31), none, .move (.t 33)⟩,
       .row ⟨(some 34), none, .extract (.t 31) 0⟩,
       .row ⟨(some 35), none, .extract (.t 31) 1⟩,
       .row ⟨(some 8), none, .move (.t 34)⟩,
       .row ⟨(some 9), none, .move (.t 35)⟩])
      (.seq
       (.ops [
        .row ⟨(some 37), none, .move (.t 5)⟩,
        .row ⟨(some 38), none, .callV (.c (.func (.func 8) [] [])) [(.t 37)]⟩,
        .row ⟨(some 36), none, .move (.t 38)⟩,
        .row ⟨(some 39), none, .extract (.t 36) 0⟩,
        .row ⟨(some 40), none, .extract (.t 36) 1⟩,
        .row ⟨(some 10), none, .move (.t 39)⟩,
        .row ⟨(some 11), none, .move (.t 40)⟩])
       (.seq
        (.ops [
         .row ⟨(some 42), none, .move (.t 1)⟩,
         .row ⟨(some 43), none, .callV (.c (.func (.func 9) [] [])) [(.t 42)]⟩,
         .row ⟨(some 41), none, .move (.t 43)⟩,
         .row ⟨(some 44), none, .extract (.t 41) 0⟩,
         .row ⟨(some 45), none, .extract (.t 41) 1⟩,
         .row ⟨(some 12), none, .move (.t 44)⟩,
         .row ⟨(some 13), none, .move (.t 45)⟩])
        (.seq
         (.ops [
          .row ⟨(some 46), none, .move (.t 6)⟩,
          .row ⟨(some 47), none, .move (.t 8)⟩,
          .row ⟨(some 48), none, .callV (.c (.func (.func 10) [] [])) [(.t 46), (.t 47)]⟩,
          .row ⟨(some 49), none, .move (.t 48)⟩,
          .row ⟨(some 50), (some (49, true)), .move (.t 7)⟩,
          .row ⟨(some 51), (some (49, true)), .move (.t 9)⟩,
          .row ⟨(some 52), (some (49, true)), .bin .eql 25 false (.t 50) (.t 51)⟩,
          .row ⟨(some 53), none, .pick (.t 49) (.t 52) (.c (.bool false))⟩,
          .row ⟨(some 54), none, .move (.t 53)⟩,
          .row ⟨(some 55), (some (54, true)), .move (.t 10)⟩,
          .row ⟨(some 56), (some (54, true)), .move (.t 12)⟩,
          .row ⟨(some 57), (some (54, true)), .callV (.c (.func (.func 11) [] [])) [(.t 55), (.t 56)]⟩,
          .row ⟨(some 58), none, .pick (.t 54) (.t 57) (.c (.bool false))⟩,
          .row ⟨(some 59), none, .move (.t 58)⟩,
          .row ⟨(some 60), (some (59, true)), .move (.t 11)⟩,
          .row ⟨(some 61), (some (59, true)), .move (.t 13)⟩,
          .row ⟨(some 62), (some (59, true)), .bin .eql 25 false (.t 60) (.t 61)⟩,
          .row ⟨(some 63), none, .pick (.t 59) (.t 62) (.c (.bool false))⟩,
          .row ⟨(some 64), none, .move (.t 63)⟩,
          .row ⟨(some 65), (some (64, true)), .move (.t 5)⟩,
          .row ⟨(some 66), (some (64, true)), .move (.t 1)⟩,
          .row ⟨(some 67), (some (64, true)), .callV (.c (.func (.func 10) [] [])) [(.t 65), (.t 66)]⟩,
          .row ⟨(some 68), none, .pick (.t 64) (.t 67) (.c (.bool false))⟩,
          .row ⟨(some 69), none, .move (.t 68)⟩,
          .row ⟨(some 70), (some (69, true)), .callV (.c (.func (.func 12) [] [])) []⟩,
          .row ⟨(some 71), none, .pick (.t 69) (.t 70) (.c (.bool false))⟩,
          .row ⟨(some 4), none, .move (.t 71)⟩])
         .ret))))))))

theorem comp3 : compF Try.prog 3 = .ok ⟨72, [.tmp 4], cc3⟩ := by kernel_rfl

/-- dryrot/dryrotlaw21.FsckBack, of 1 -/
noncomputable def cc4 : CC :=
 (.seq
  (.ops [
   .row ⟨(some 2), none, .move (.c (.bool false))⟩])
  (.seq
   (.ops [
    .row ⟨(some 13), none, .move (.t 0)⟩,
    .row ⟨(some 14), none, .move (.t 0)⟩,
    .row ⟨(some 15), none, .lenV (.t 14)⟩,
    .row ⟨(some 16), none, .mm false (.t 15) [(.c (.int .i64 20))]⟩,
    .row ⟨(some 17), none, .sliceV 8 (.t 13) none (some (.t 16)) none⟩,
    .row ⟨(some 0), none, .move (.t 17)⟩])
   (.seq
    (.ops [
     .row ⟨(some 19), none, .move (.t 0)⟩,
     .row ⟨(some 20), none, .callV (.c (.func (.func 6) [] [])) [(.t 19)]⟩,
     .row ⟨(some 18), none, .move (.t 20)⟩,
     .row ⟨(some 21), none, .extract (.t 18) 0⟩,
     .row ⟨(some 22), none, .extract (.t 18) 1⟩,
     .row ⟨(some 3), none, .move (.t 21)⟩,
     .row ⟨(some 4), none, .move (.t 22)⟩])
    (.seq
     (.seq
      (.ops [
       .row ⟨(some 23), none, .move (.t 4)⟩,
       .row ⟨(some 24), none, .bin .neq 25 true (.t 23) (.c (.int .i64 0))⟩])
      (.cond (.t 24)
       (.seq
        (.ops [
         .row ⟨(some 26), none, .move (.t 0)⟩,
         .row ⟨(some 27), none, .callV (.c (.func (.func 7) [] [])) [(.t 26)]⟩,
         .row ⟨(some 25), none, .move (.t 27)⟩,
         .row ⟨(some 28), none, .extract (.t 25) 0⟩,
         .row ⟨(some 29), none, .extract (.t 25) 1⟩,
         .row ⟨(some 5), none, .move (.t 28)⟩,
         .row ⟨(some 6), none, .move (.t 29)⟩])
        (.seq
         (.ops [
          .row ⟨(some 30), none, .move (.t 4)⟩,
          .row ⟨(some 31), none, .move (.t 6)⟩,
          .row ⟨(some 32), none, .bin .eql 25 false (.t 30) (.t 31)⟩,
          .row ⟨(some 33), none, .move (.t 32)⟩,
          .row ⟨(some 34), (some (33, true)), .move (.t 3)⟩,
          .row ⟨(some 35), (some (33, true)), .lenV (.t 34)⟩,
          .row ⟨(some 36), (some (33, true)), .bin .eql 3 true (.t 35) (.c (.int .i64 0))⟩,
          .row ⟨(some 37), none, .pick (.t 33) (.t 36) (.c (.bool false))⟩,
          .row ⟨(some 38), none, .move (.t 37)⟩,
          .row ⟨(some 39), (some (38, true)), .callV (.c (.func (.func 12) [] [])) []⟩,
          .row ⟨(some 40), none, .pick (.t 38) (.t 39) (.c (.bool false))⟩,
          .row ⟨(some 2), none, .move (.t 40)⟩])
         .ret))
       .skip))
     (.seq
      (.ops [
       .row ⟨(some 42), none, .move (.t 3)⟩,
       .row ⟨(some 43), none, .callV (.c (.func (.func 8) [] [])) [(.t 42)]⟩,
       .row ⟨(some 41), none, .move (.t 43)⟩,
       .row ⟨(some 44), none, .extract (.t 41) 0⟩,
       .row ⟨(some 45), none, .extract (.t 41) 1⟩,
       .row ⟨(some 7), none, .move (.t 44)⟩,
       .row ⟨(some 8), none, .move (.t 45)⟩])
      (.seq
       (.ops [
        .row ⟨(some 47), none, .move (.t 3)⟩,
        .row ⟨(some 48), none, .callV (.c (.func (.func 5) [] [])) [(.t 47)]⟩,
        .row ⟨(some 49), none, .buildSlice 1 1 [(.int .u8 0)] [(0, 1, (.c (.int .u8 0)))]⟩,
        .row ⟨(some 50), none, .app 1 1 (.t 48) (.t 49)⟩,
        .row ⟨(some 51), none, .callV (.c (.func (.func 8) [] [])) [(.t 50)]⟩,
        .row ⟨(some 46), none, .move (.t 51)⟩,
        .row ⟨(some 52), none, .extract (.t 46) 0⟩,
        .row ⟨(some 53), none, .extract (.t 46) 1⟩,
        .row ⟨(some 9), none, .move (.t 52)⟩,
        .row ⟨(some 10), none, .move (.t 53)⟩])
       (.seq
        (.ops [
         .row ⟨(some 54), none, .move (.t 0)⟩,
         .row ⟨(some 55), none, .callV (.c (.func (.func 13) [] [])) [(.t 54)]⟩,
         .row ⟨(some 11), none, .move (.t 55)⟩])
        (.seq
         (.seq
          (.ops [
           .row ⟨(some 56), none, .move (.t 11)⟩,
           .row ⟨(some 57), none, .lenV (.t 56)⟩,
           .row ⟨(some 58), none, .move (.c (.int .i64 0))⟩])
          (.block 0
           (.loop
            (.seq
             (.ops [
              .row ⟨(some 59), none, .bin .lss 3 false (.t 58) (.t 57)⟩])
             (.seq
              (.cond (.t 59)
               .skip
               (.exit 0))
              (.seq
               (.block 1
                (.seq
                 (.ops [
                  .row ⟨(some 60), none, .move (.t 58)⟩,
                  .row ⟨(some 12), none, .move (.t 60)⟩])
                 (.ops [
                  .row ⟨(some 61), none, .move (.t 11)⟩,
                  .row ⟨(some 62), none, .move (.t 12)⟩,
                  .row ⟨(some 63), none, .idxV 8 (.t 61) (.t 62)⟩,
                  .row ⟨(some 64), none, .fieldAddr 7 (.t 63)⟩,
                  .row ⟨none, none, .store 1 (.t 64) (.c .nils)⟩])))
               (.ops [
                .row ⟨(some 65), none, .bin .add 3 true (.t 58) (.c (.int .i64 1))⟩,
                .row ⟨(some 58), none, .move (.t 65)⟩])))))))
         (.seq
          (.ops [
           .row ⟨(some 66), none, .move (.t 8)⟩,
           .row ⟨(some 67), none, .bin .eql 25 true (.t 66) (.c (.int .i64 0))⟩,
           .row ⟨(some 68), none, .move (.t 67)⟩,
           .row ⟨(some 69), (some (68, true)), .move (.t 10)⟩,
           .row ⟨(some 70), (some (68, true)), .bin .eql 25 true (.t 69) (.c (.int .i64 5))⟩,
           .row ⟨(some 71), none, .pick (.t 68) (.t 70) (.c (.bool false))⟩,
           .row ⟨(some 72), none, .move (.t 71)⟩,
           .row ⟨(some 73), (some (72, true)), .move (.t 7)⟩,
           .row ⟨(some 74), (some (72, true)), .move (.t 11)⟩,
           .row ⟨(some 75), (some (72, true)), .callV (.c (.func (.func 11) [] [])) [(.t 73), (.t 74)]⟩,
           .row ⟨(some 76), none, .pick (.t 72) (.t 75) (.c (.bool false))⟩,
           .row ⟨(some 2), none, .move (.t 76)⟩])
          .ret)))))))))

theorem comp4 : compF Try.prog 4 = .ok ⟨77, [.tmp 2], cc4⟩ := by kernel_rfl

/-- slices.Clone[[]byte,byte], of 1 -/
noncomputable def cc5 : CC :=
 (.seq
  (.ops [
   .row ⟨(some 2), none, .move (.c .nils)⟩])
  (.seq
   (.seq
    (.ops [
     .row ⟨(some 3), none, .move (.t 0)⟩,
     .row ⟨(some 4), none, .bin .eql 23 true (.t 3) (.c .nils)⟩])
    (.cond (.t 4)
     (.seq
      (.ops [
       .row ⟨(some 2), none, .move (.c .nils)⟩])
      .ret)
     .skip))
   (.seq
    (.ops [
     .row ⟨(some 5), none, .buildSlice 0 1 [] []⟩,
     .row ⟨(some 6), none, .move (.t 0)⟩,
     .row ⟨(some 7), none, .app 1 1 (.t 5) (.t 6)⟩,
     .row ⟨(some 2), none, .move (.t 7)⟩])
    .ret)))

theorem comp5 : compF Try.prog 5 = .ok ⟨8, [.tmp 2], cc5⟩ := by kernel_rfl

/-- dryrot/fsck.Manifest, of 1 -/
noncomputable def cc6 : CC :=
 (.seq
  (.ops [
   .row ⟨(some 2), none, .move (.c .nils)⟩,
   .row ⟨(some 3), none, .move (.c (.int .i64 0))⟩])
  (.seq
   (.seq
    (.ops [
     .row ⟨(some 9), none, .move (.t 0)⟩,
     .row ⟨(some 10), none, .callV (.c (.func (.func 14) [] [])) [(.t 9)]⟩,
     .row ⟨(some 11), none, .un .not (.t 10)⟩,
     .row ⟨(some 12), none, .move (.t 11)⟩,
     .row ⟨(some 13), (some (12, false)), .move (.t 0)⟩,
     .row ⟨(some 14), (some (12, false)), .lenV (.t 13)⟩,
     .row ⟨(some 15), (some (12, false)), .bin .gtr 3 true (.t 14) (.c (.int .i64 1000))⟩,
     .row ⟨(some 16), none, .pick (.t 12) (.c (.bool true)) (.t 15)⟩])
    (.cond (.t 16)
     (.seq
      (.ops [
       .row ⟨(some 2), none, .move (.c .nils)⟩,
       .row ⟨(some 3), none, .move (.c (.int .i64 1))⟩])
      .ret)
     .skip))
   (.seq
    (.ops [
     .row ⟨(some 17), none, .move (.t 0)⟩,
     .row ⟨(some 18), none, .lenV (.t 17)⟩,
     .row ⟨(some 19), none, .conv (.int .u64) (.t 18)⟩,
     .row ⟨(some 20), none, .callV (.c (.func (.func 15) [] [])) [(.t 19), (.c (.int .i64 4))]⟩,
     .row ⟨(some 4), none, .move (.t 20)⟩])
    (.seq
     (.seq
      (.ops [
       .row ⟨(some 21), none, .move (.t 0)⟩,
       .row ⟨(some 22), none, .lenV (.t 21)⟩,
       .row ⟨(some 23), none, .move (.c (.int .i64 0))⟩])
      (.block 0
       (.loop
        (.seq
         (.ops [
          .row ⟨(some 24), none, .bin .lss 3 false (.t 23) (.t 22)⟩])
         (.seq
          (.cond (.t 24)
           .skip
           (.exit 0))
          (.seq
           (.block 1
            (.seq
             (.ops [
              .row ⟨(some 25), none, .idxV 8 (.t 21) (.t 23)⟩,
              .row ⟨(some 26), none, .loadN 8 (.t 25)⟩,
              .row ⟨(some 6), none, .new [(.int .i64 0), (.int .i64 0), (.int .i64 0), (.int .i64 0), (.int .i64 0), (.int .i64 0), (.int .i64 0), .nils]⟩,
              .row ⟨none, none, .store 8 (.t 6) (.t 26)⟩])
             (.seq
              (.ops [
               .row ⟨(some 27), none, .fieldAddr 0 (.t 6)⟩,
               .row ⟨(some 28), none, .load1 (.t 27)⟩,
               .row ⟨(some 29), none, .fieldAddr 3 (.t 6)⟩,
               .row ⟨(some 30), none, .load1 (.t 29)⟩,
               .row ⟨(some 31), none, .fieldAddr 1 (.t 6)⟩,
               .row ⟨(some 32), none, .load1 (.t 31)⟩,
               .row ⟨(some 33), none, .fieldAddr 2 (.t 6)⟩,
               .row ⟨(some 34), none, .load1 (.t 33)⟩,
               .row ⟨(some 35), none, .fieldAddr 6 (.t 6)⟩,
               .row ⟨(some 36), none, .load1 (.t 35)⟩,
               .row ⟨(some 37), none, .fieldAddr 4 (.t 6)⟩,
               .row ⟨(some 38), none, .load1 (.t 37)⟩,
               .row ⟨(some 39), none, .fieldAddr 5 (.t 6)⟩,
               .row ⟨(some 40), none, .load1 (.t 39)⟩,
               .row ⟨(some 41), none, .build [(.int .i64 0), (.int .i64 0), (.int .i64 0), (.int .i64 0), (.int .i64 0), (.int .i64 0), (.int .i64 0)] [(0, 1, (.t 28)), (1, 1, (.t 30)), (2, 1, (.t 32)), (3, 1, (.t 34)), (4, 1, (.t 36)), (5, 1, (.t 38)), (6, 1, (.t 40))]⟩,
               .row ⟨(some 42), none, .move (.c (.int .i64 0))⟩])
              (.block 2
               (.loop
                (.seq
                 (.ops [
                  .row ⟨(some 43), none, .bin .lss 3 true (.t 42) (.c (.int .i64 7))⟩])
                 (.seq
                  (.cond (.t 43)
                   .skip
                   (.exit 2))
                  (.seq
                   (.block 3
                    (.seq
                     (.ops [
                      .row ⟨(some 44), none, .index1 7 1 (.t 41) (.t 42)⟩,
                      .row ⟨(some 8), none, .move (.t 44)⟩])
                     (.ops [
                      .row ⟨(some 45), none, .move (.t 4)⟩,
                      .row ⟨(some 46), none, .move (.t 8)⟩,
                      .row ⟨(some 47), none, .conv (.int .u64) (.t 46)⟩,
                      .row ⟨(some 48), none, .callV (.c (.func (.func 15) [] [])) [(.t 47), (.c (.int .i64 8))]⟩,
                      .row ⟨(some 49), none, .app 1 1 (.t 45) (.t 48)⟩,
                      .row ⟨(some 4), none, .move (.t 49)⟩])))
                   (.ops [
                    .row ⟨(some 50), none, .bin .add 3 true (.t 42) (.c (.int .i64 1))⟩,
                    .row ⟨(some 42), none, .move (.t 50)⟩])))))))))
           (.ops [
            .row ⟨(some 51), none, .bin .add 3 true (.t 23) (.c (.int .i64 1))⟩,
            .row ⟨(some 23), none, .move (.t 51)⟩])))))))
     (.seq
      (.ops [
       .row ⟨(some 52), none, .move (.t 4)⟩,
       .row ⟨(some 2), none, .move (.t 52)⟩,
       .row ⟨(some 3), none, .move (.c (.int .i64 0))⟩])
      .ret)))))

theorem comp6 : compF Try.prog 6 = .ok ⟨53, [.tmp 2, .tmp 3], cc6⟩ := by kernel_rfl

/-- dryrot/dryrotref21.Manifest, of 1 -/
noncomputable def cc7 : CC :=
 (.seq
  (.ops [
   .row ⟨(some 2), none, .move (.c .nils)⟩,
   .row ⟨(some 3), none, .move (.c (.int .i64 0))⟩])
  (.seq
   (.seq
    (.ops [
     .row ⟨(some 9), none, .move (.t 0)⟩,
     .row ⟨(some 10), none, .callV (.c (.func (.func 16) [] [])) [(.t 9)]⟩,
     .row ⟨(some 11), none, .un .not (.t 10)⟩,
     .row ⟨(some 12), none, .move (.t 11)⟩,
     .row ⟨(some 13), (some (12, false)), .move (.t 0)⟩,
     .row ⟨(some 14), (some (12, false)), .lenV (.t 13)⟩,
     .row ⟨(some 15), (some (12, false)), .bin .gtr 3 true (.t 14) (.c (.int .i64 1000))⟩,
     .row ⟨(some 16), none, .pick (.t 12) (.c (.bool true)) (.t 15)⟩])
    (.cond (.t 16)
     (.seq
      (.ops [
       .row ⟨(some 2), none, .move (.c .nils)⟩,
       .row ⟨(some 3), none, .move (.c (.int .i64 1))⟩])
      .ret)
     .skip))
   (.seq
    (.ops [
     .row ⟨(some 17), none, .move (.t 0)⟩,
     .row ⟨(some 18), none, .lenV (.t 17)⟩,
     .row ⟨(some 19), none, .conv (.int .u64) (.t 18)⟩,
     .row ⟨(some 20), none, .callV (.c (.func (.func 17) [] [])) [(.t 19), (.c (.int .i64 4))]⟩,
     .row ⟨(some 4), none, .move (.t 20)⟩])
    (.seq
     (.seq
      (.ops [
       .row ⟨(some 21), none, .move (.t 0)⟩,
       .row ⟨(some 22), none, .lenV (.t 21)⟩,
       .row ⟨(some 23), none, .move (.c (.int .i64 0))⟩])
      (.block 0
       (.loop
        (.seq
         (.ops [
          .row ⟨(some 24), none, .bin .lss 3 false (.t 23) (.t 22)⟩])
         (.seq
          (.cond (.t 24)
           .skip
           (.exit 0))
          (.seq
           (.block 1
            (.seq
             (.ops [
              .row ⟨(some 25), none, .idxV 8 (.t 21) (.t 23)⟩,
              .row ⟨(some 26), none, .loadN 8 (.t 25)⟩,
              .row ⟨(some 6), none, .new [(.int .i64 0), (.int .i64 0), (.int .i64 0), (.int .i64 0), (.int .i64 0), (.int .i64 0), (.int .i64 0), .nils]⟩,
              .row ⟨none, none, .store 8 (.t 6) (.t 26)⟩])
             (.seq
              (.ops [
               .row ⟨(some 27), none, .fieldAddr 0 (.t 6)⟩,
               .row ⟨(some 28), none, .load1 (.t 27)⟩,
               .row ⟨(some 29), none, .fieldAddr 3 (.t 6)⟩,
               .row ⟨(some 30), none, .load1 (.t 29)⟩,
               .row ⟨(some 31), none, .fieldAddr 1 (.t 6)⟩,
               .row ⟨(some 32), none, .load1 (.t 31)⟩,
               .row ⟨(some 33), none, .fieldAddr 2 (.t 6)⟩,
               .row ⟨(some 34), none, .load1 (.t 33)⟩,
               .row ⟨(some 35), none, .fieldAddr 6 (.t 6)⟩,
               .row ⟨(some 36), none, .load1 (.t 35)⟩,
               .row ⟨(some 37), none, .fieldAddr 4 (.t 6)⟩,
               .row ⟨(some 38), none, .load1 (.t 37)⟩,
               .row ⟨(some 39), none, .fieldAddr 5 (.t 6)⟩,
               .row ⟨(some 40), none, .load1 (.t 39)⟩,
               .row ⟨(some 41), none, .buildSlice 7 1 [(.int .i64 0), (.int .i64 0), (.int .i64 0), (.int .i64 0), (.int .i64 0), (.int .i64 0), (.int .i64 0)] [(0, 1, (.t 28)), (1, 1, (.t 30)), (2, 1, (.t 32)), (3, 1, (.t 34)), (4, 1, (.t 36)), (5, 1, (.t 38)), (6, 1, (.t 40))]⟩,
               .row ⟨(some 42), none, .lenV (.t 41)⟩,
               .row ⟨(some 43), none, .move (.c (.int .i64 0))⟩])
              (.block 2
               (.loop
                (.seq
                 (.ops [
                  .row ⟨(some 44), none, .bin .lss 3 false (.t 43) (.t 42)⟩])
                 (.seq
                  (.cond (.t 44)
                   .skip
                   (.exit 2))
                  (.seq
                   (.block 3
                    (.seq
                     (.ops [
                      .row ⟨(some 45), none, .idxV 1 (.t 41) (.t 43)⟩,
                      .row ⟨(some 46), none, .load1 (.t 45)⟩,
                      .row ⟨(some 8), none, .move (.t 46)⟩])
                     (.ops [
                      .row ⟨(some 47), none, .move (.t 4)⟩,
                      .row ⟨(some 48), none, .move (.t 8)⟩,
                      .row ⟨(some 49), none, .callV (.c (.func (.func 18) [] [])) [(.t 48)]⟩,
                      .row ⟨(some 50), none, .app 1 1 (.t 47) (.t 49)⟩,
                      .row ⟨(some 4), none, .move (.t 50)⟩])))
                   (.ops [
                    .row ⟨(some 51), none, .bin .add 3 true (.t 43) (.c (.int .i64 1))⟩,
                    .row ⟨(some 43), none, .move (.t 51)⟩])))))))))
           (.ops [
            .row ⟨(some 52), none, .bin .add 3 true (.t 23) (.c (.int .i64 1))⟩,
            .row ⟨(some 23), none, .move (.t 52)⟩])))))))
     (.seq
      (.ops [
       .row ⟨(some 53), none, .move (.t 4)⟩,
       .row ⟨(some 2), none, .move (.t 53)⟩,
       .row ⟨(some 3), none, .move (.c (.int .i64 0))⟩])
      .ret)))))

theorem comp7 : compF Try.prog 7 = .ok ⟨54, [.tmp 2, .tmp 3], cc7⟩ := by kernel_rfl

/-- dryrot/fsck.Read, of 1 -/
noncomputable def cc8 : CC :=
 (.seq
  (.ops [
   .row ⟨(some 2), none, .move (.c .nils)⟩,
   .row ⟨(some 3), none, .move (.c (.int .i64 0))⟩])
  (.seq
   (.seq
    (.ops [
     .row ⟨(some 12), none, .move (.t 0)⟩,
     .row ⟨(some 13), none, .lenV (.t 12)⟩,
     .row ⟨(some 14), none, .bin .lss 3 true (.t 13) (.c (.int .i64 4))⟩])
    (.cond (.t 14)
     (.seq
      (.ops [
       .row ⟨(some 2), none, .move (.c .nils)⟩,
       .row ⟨(some 3), none, .move (.c (.int .i64 5))⟩])
      .ret)
     .skip))
   (.seq
    (.ops [
     .row ⟨(some 16), none, .move (.t 0)⟩,
     .row ⟨(some 17), none, .sliceV 1 (.t 16) none (some (.c (.int .i64 4))) none⟩,
     .row ⟨(some 18), none, .callV (.c (.func (.func 19) [] [])) [(.t 17)]⟩,
     .row ⟨(some 15), none, .move (.t 18)⟩,
     .row ⟨(some 19), none, .extract (.t 15) 0⟩,
     .row ⟨(some 20), none, .extract (.t 15) 1⟩,
     .row ⟨(some 4), none, .move (.t 19)⟩,
     .row ⟨(some 5), none, .move (.t 20)⟩])
    (.seq
     (.ops [
      .row ⟨(some 21), none, .move (.t 0)⟩,
      .row ⟨(some 22), none, .sliceV 1 (.t 21) (some (.c (.int .i64 4))) none none⟩,
      .row ⟨(some 0), none, .move (.t 22)⟩])
     (.seq
      (.seq
       (.ops [
        .row ⟨(some 23), none, .move (.t 4)⟩,
        .row ⟨(some 24), none, .bin .gtr 40 true (.t 23) (.c (.int .u64 1000))⟩,
        .row ⟨(some 25), none, .move (.t 24)⟩,
        .row ⟨(some 26), (some (25, false)), .move (.t 0)⟩,
        .row ⟨(some 27), (some (25, false)), .lenV (.t 26)⟩,
        .row ⟨(some 28), (some (25, false)), .move (.t 4)⟩,
        .row ⟨(some 29), (some (25, false)), .conv (.int .i64) (.t 28)⟩,
        .row ⟨(some 30), (some (25, false)), .bin .mul 3 true (.t 29) (.c (.int .i64 8))⟩,
        .row ⟨(some 31), (some (25, false)), .bin .mul 3 true (.t 30) (.c (.int .i64 7))⟩,
        .row ⟨(some 32), (some (25, false)), .bin .neq 3 false (.t 27) (.t 31)⟩,
        .row ⟨(some 33), none, .pick (.t 25) (.c (.bool true)) (.t 32)⟩])
       (.cond (.t 33)
        (.seq
         (.ops [
          .row ⟨(some 2), none, .move (.c .nils)⟩,
          .row ⟨(some 3), none, .move (.c (.int .i64 5))⟩])
         .ret)
        .skip))
      (.seq
       (.ops [
        .row ⟨(some 6), none, .new [.nils]⟩])
       (.seq
        (.seq
         (.ops [
          .row ⟨(some 34), none, .move (.t 0)⟩,
          .row ⟨(some 35), none, .callV (.c (.func (.func 20) [] [])) [(.t 34), (.c (.int .i64 56))]⟩])
         (.block 0
          (.go 78 (.t 35) #[36] (goAssign 8 0) (goBody 8 0))))
        (.seq
         (.seq
          (.ops [
           .row ⟨(some 74), none, .load1 (.t 6)⟩,
           .row ⟨(some 75), none, .callV (.c (.func (.func 14) [] [])) [(.t 74)]⟩,
           .row ⟨(some 76), none, .un .not (.t 75)⟩])
          (.cond (.t 76)
           (.seq
            (.ops [
             .row ⟨(some 2), none, .move (.c .nils)⟩,
             .row ⟨(some 3), none, .move (.c (.int .i64 5))⟩])
            .ret)
           .skip))
         (.seq
          (.ops [
           .row ⟨(some 77), none, .load1 (.t 6)⟩,
           .row ⟨(some 2), none, .move (.t 77)⟩,
           .row ⟨(some 3), none, .move (.c (.int .i64 0))⟩])
          .ret)))))))))

theorem comp8 : compF Try.prog 8 = .ok ⟨78, [.tmp 2, .tmp 3], cc8⟩ := by kernel_rfl

noncomputable def goAssignC8_0 : CC :=
 (.ops [
  .row ⟨(some 7), none, .move (.t 36)⟩])

theorem goAssignComp8_0 : compC Try.prog 78 true (goAssign 8 0) = .ok goAssignC8_0 := by kernel_rfl

noncomputable def goBodyC8_0 : CC :=
 (.block 1
  (.seq
   (.ops [
    .row ⟨(some 8), none, .new [(.int .i64 0), (.int .i64 0), (.int .i64 0), (.int .i64 0), (.int .i64 0), (.int .i64 0), (.int .i64 0)]⟩])
   (.seq
    (.seq
     (.ops [
      .row ⟨(some 37), none, .move (.c (.int .i64 0))⟩])
     (.block 2
      (.loop
       (.seq
        (.ops [
         .row ⟨(some 38), none, .bin .lss 3 true (.t 37) (.c (.int .i64 7))⟩])
        (.seq
         (.cond (.t 38)
          .skip
          (.exit 2))
         (.seq
          (.block 3
           (.seq
            (.ops [
             .row ⟨(some 39), none, .move (.t 37)⟩,
             .row ⟨(some 9), none, .move (.t 39)⟩])
            (.seq
             (.ops [
              .row ⟨(some 41), none, .move (.t 7)⟩,
              .row ⟨(some 42), none, .move (.t 9)⟩,
              .row ⟨(some 43), none, .bin .mul 3 true (.c (.int .i64 8)) (.t 42)⟩,
              .row ⟨(some 44), none, .move (.t 9)⟩,
              .row ⟨(some 45), none, .bin .mul 3 true (.c (.int .i64 8)) (.t 44)⟩,
              .row ⟨(some 46), none, .bin .add 3 true (.t 45) (.c (.int .i64 8))⟩,
              .row ⟨(some 47), none, .sliceV 1 (.t 41) (some (.t 43)) (some (.t 46)) none⟩,
              .row ⟨(some 48), none, .callV (.c (.func (.func 19) [] [])) [(.t 47)]⟩,
              .row ⟨(some 40), none, .move (.t 48)⟩,
              .row ⟨(some 49), none, .extract (.t 40) 0⟩,
              .row ⟨(some 50), none, .extract (.t 40) 1⟩,
              .row ⟨(some 10), none, .move (.t 49)⟩,
              .row ⟨(some 11), none, .move (.t 50)⟩])
             (.ops [
              .row ⟨(some 51), none, .move (.t 9)⟩,
              .row ⟨(some 52), none, .move (.t 10)⟩,
              .row ⟨(some 53), none, .conv (.int .i64) (.t 52)⟩,
              .row ⟨(some 54), none, .idxA 7 1 (.t 8) (.t 51)⟩,
              .row ⟨none, none, .store 1 (.t 54) (.t 53)⟩]))))
          (.ops [
           .row ⟨(some 55), none, .bin .add 3 true (.t 37) (.c (.int .i64 1))⟩,
           .row ⟨(some 37), none, .move (.t 55)⟩])))))))
    (.ops [
     .row ⟨(some 56), none, .load1 (.t 6)⟩,
     .row ⟨(some 57), none, .idxA 7 1 (.t 8) (.c (.int .i64 0))⟩,
     .row ⟨(some 58), none, .load1 (.t 57)⟩,
     .row ⟨(some 59), none, .idxA 7 1 (.t 8) (.c (.int .i64 1))⟩,
     .row ⟨(some 60), none, .load1 (.t 59)⟩,
     .row ⟨(some 61), none, .idxA 7 1 (.t 8) (.c (.int .i64 2))⟩,
     .row ⟨(some 62), none, .load1 (.t 61)⟩,
     .row ⟨(some 63), none, .idxA 7 1 (.t 8) (.c (.int .i64 3))⟩,
     .row ⟨(some 64), none, .load1 (.t 63)⟩,
     .row ⟨(some 65), none, .idxA 7 1 (.t 8) (.c (.int .i64 4))⟩,
     .row ⟨(some 66), none, .load1 (.t 65)⟩,
     .row ⟨(some 67), none, .idxA 7 1 (.t 8) (.c (.int .i64 5))⟩,
     .row ⟨(some 68), none, .load1 (.t 67)⟩,
     .row ⟨(some 69), none, .idxA 7 1 (.t 8) (.c (.int .i64 6))⟩,
     .row ⟨(some 70), none, .load1 (.t 69)⟩,
     .row ⟨(some 71), none, .build [(.int .i64 0), (.int .i64 0), (.int .i64 0), (.int .i64 0), (.int .i64 0), (.int .i64 0), (.int .i64 0), .nils] [(0, 1, (.t 58)), (3, 1, (.t 60)), (1, 1, (.t 62)), (2, 1, (.t 64)), (6, 1, (.t 66)), (4, 1, (.t 68)), (5, 1, (.t 70))]⟩,
     .row ⟨(some 72), none, .buildSlice 1 8 [(.int .i64 0), (.int .i64 0), (.int .i64 0), (.int .i64 0), (.int .i64 0), (.int .i64 0), (.int .i64 0), .nils] [(0, 8, (.t 71))]⟩,
     .row ⟨(some 73), none, .app 8 80 (.t 56) (.t 72)⟩,
     .row ⟨none, none, .store 1 (.t 6) (.t 73)⟩]))))

theorem goBodyComp8_0 : compC Try.prog 78 true (goBody 8 0) = .ok goBodyC8_0 := by kernel_rfl

/-- dryrot/dryrotref21.Read, of 1 -/
noncomputable def cc9 : CC :=
 (.seq
  (.ops [
   .row ⟨(some 2), none, .move (.c .nils)⟩,
   .row ⟨(some 3), none, .move (.c (.int .i64 0))⟩])
  (.seq
   (.ops [
    .row ⟨(some 12), none, .move (.t 0)⟩,
    .row ⟨(some 13), none, .callV (.c (.func (.func 21) [] [])) [(.t 12), (.c (.int .i64 4))]⟩,
    .row ⟨(some 11), none, .move (.t 13)⟩,
    .row ⟨(some 14), none, .extract (.t 11) 0⟩,
    .row ⟨(some 15), none, .extract (.t 11) 1⟩,
    .row ⟨(some 16), none, .extract (.t 11) 2⟩,
    .row ⟨(some 4), none, .move (.t 14)⟩,
    .row ⟨(some 0), none, .move (.t 15)⟩,
    .row ⟨(some 5), none, .move (.t 16)⟩])
   (.seq
    (.seq
     (.ops [
      .row ⟨(some 17), none, .move (.t 5)⟩,
      .row ⟨(some 18), none, .un .not (.t 17)⟩,
      .row ⟨(some 19), none, .move (.t 18)⟩,
      .row ⟨(some 20), (some (19, false)), .move (.t 4)⟩,
      .row ⟨(some 21), (some (19, false)), .bin .gtr 3 true (.t 20) (.c (.int .i64 1000))⟩,
      .row ⟨(some 22), none, .pick (.t 19) (.c (.bool true)) (.t 21)⟩,
      .row ⟨(some 23), none, .move (.t 22)⟩,
      .row ⟨(some 24), (some (23, false)), .move (.t 0)⟩,
      .row ⟨(some 25), (some (23, false)), .lenV (.t 24)⟩,
      .row ⟨(some 26), (some (23, false)), .move (.t 4)⟩,
      .row ⟨(some 27), (some (23, false)), .bin .mul 3 true (.c (.int .i64 56)) (.t 26)⟩,
      .row ⟨(some 28), (some (23, false)), .bin .neq 3 false (.t 25) (.t 27)⟩,
      .row ⟨(some 29), none, .pick (.t 23) (.c (.bool true)) (.t 28)⟩])
     (.cond (.t 29)
      (.seq
       (.ops [
        .row ⟨(some 2), none, .move (.c .nils)⟩,
        .row ⟨(some 3), none, .move (.c (.int .i64 5))⟩])
       .ret)
      .skip))
    (.seq
     (.ops [
      .row ⟨(some 6), none, .move (.c .nils)⟩])
     (.seq
      (.block 0
       (.loop
        (.seq
         (.seq
          (.ops [
           .row ⟨(some 30), none, .move (.t 0)⟩,
           .row ⟨(some 31), none, .lenV (.t 30)⟩,
           .row ⟨(some 32), none, .bin .gtr 3 true (.t 31) (.c (.int .i64 0))⟩])
          (.cond (.t 32)
           .skip
           (.exit 0)))
         (.block 1
          (.seq
           (.ops [
            .row ⟨(some 7), none, .move (.c .nils)⟩])
           (.seq
            (.seq
             (.ops [
              .row ⟨(some 33), none, .move (.c (.int .i64 0))⟩])
             (.block 2
              (.loop
               (.seq
                (.ops [
                 .row ⟨(some 34), none, .bin .lss 3 true (.t 33) (.c (.int .i64 7))⟩])
                (.seq
                 (.cond (.t 34)
                  .skip
                  (.exit 2))
                 (.seq
                  (.block 3
                   (.seq
                    (.ops [
                     .row ⟨(some 36), none, .move (.t 0)⟩,
                     .row ⟨(some 37), none, .callV (.c (.func (.func 21) [] [])) [(.t 36), (.c (.int .i64 8))]⟩,
                     .row ⟨(some 35), none, .move (.t 37)⟩,
                     .row ⟨(some 38), none, .extract (.t 35) 0⟩,
                     .row ⟨(some 39), none, .extract (.t 35) 1⟩,
                     .row ⟨(some 40), none, .extract (.t 35) 2⟩,
                     .row ⟨(some 8), none, .move (.t 38)⟩,
                     .row ⟨(some 9), none, .move (.t 39)⟩,
                     .row ⟨(some 10), none, .move (.t 40)⟩])
                    (.ops [
                     .row ⟨(some 41), none, .move (.t 7)⟩,
                     .row ⟨(some 42), none, .move (.t 8)⟩,
                     .row ⟨(some 43), none, .buildSlice 1 1 [(.int .i64 0)] [(0, 1, (.t 42))]⟩,
                     .row ⟨(some 44), none, .app 1 8 (.t 41) (.t 43)⟩,
                     .row ⟨(some 45), none, .move (.t 9)⟩,
                     .row ⟨(some 7), none, .move (.t 44)⟩,
                     .row ⟨(some 0), none, .move (.t 45)⟩])))
                  (.ops [
                   .row ⟨(some 46), none, .bin .add 3 true (.t 33) (.c (.int .i64 1))⟩,
                   .row ⟨(some 33), none, .move (.t 46)⟩])))))))
            (.ops [
             .row ⟨(some 47), none, .move (.t 6)⟩,
             .row ⟨(some 48), none, .move (.t 7)⟩,
             .row ⟨(some 49), none, .idxV 1 (.t 48) (.c (.int .i64 0))⟩,
             .row ⟨(some 50), none, .load1 (.t 49)⟩,
             .row ⟨(some 51), none, .move (.t 7)⟩,
             .row ⟨(some 52), none, .idxV 1 (.t 51) (.c (.int .i64 1))⟩,
             .row ⟨(some 53), none, .load1 (.t 52)⟩,
             .row ⟨(some 54), none, .move (.t 7)⟩,
             .row ⟨(some 55), none, .idxV 1 (.t 54) (.c (.int .i64 2))⟩,
             .row ⟨(some 56), none, .load1 (.t 55)⟩,
             .row ⟨(some 57), none, .move (.t 7)⟩,
             .row ⟨(some 58), none, .idxV 1 (.t 57) (.c (.int .i64 3))⟩,
             .row ⟨(some 59), none, .load1 (.t 58)⟩,
             .row ⟨(some 60), none, .move (.t 7)⟩,
             .row ⟨(some 61), none, .idxV 1 (.t 60) (.c (.int .i64 4))⟩,
             .row ⟨(some 62), none, .load1 (.t 61)⟩,
             .row ⟨(some 63), none, .move (.t 7)⟩,
             .row ⟨(some 64), none, .idxV 1 (.t 63) (.c (.int .i64 5))⟩,
             .row ⟨(some 65), none, .load1 (.t 64)⟩,
             .row ⟨(some 66), none, .move (.t 7)⟩,
             .row ⟨(some 67), none, .idxV 1 (.t 66) (.c (.int .i64 6))⟩,
             .row ⟨(some 68), none, .load1 (.t 67)⟩,
             .row ⟨(some 69), none, .build [(.int .i64 0), (.int .i64 0), (.int .i64 0), (.int .i64 0), (.int .i64 0), (.int .i64 0), (.int .i64 0), .nils] [(0, 1, (.t 50)), (3, 1, (.t 53)), (1, 1, (.t 56)), (2, 1, (.t 59)), (6, 1, (.t 62)), (4, 1, (.t 65)), (5, 1, (.t 68))]⟩,
             .row ⟨(some 70), none, .buildSlice 1 8 [(.int .i64 0), (.int .i64 0), (.int .i64 0), (.int .i64 0), (.int .i64 0), (.int .i64 0), (.int .i64 0), .nils] [(0, 8, (.t 69))]⟩,
             .stage [⟨(some 68), none, .load1 (.t 67)⟩, ⟨(some 65), none, .load1 (.t 64)⟩, ⟨(some 62), none, .load1 (.t 61)⟩, ⟨(some 59), none, .load1 (.t 58)⟩, ⟨(some 56), none, .load1 (.t 55)⟩, ⟨(some 53), none, .load1 (.t 52)⟩, ⟨(some 50), none, .load1 (.t 49)⟩],
             .row ⟨(some 71), none, .app 8 80 (.t 47) (.t 70)⟩,
             .row ⟨(some 6), none, .move (.t 71)⟩])))))))
      (.seq
       (.seq
        (.ops [
         .row ⟨(some 72), none, .move (.t 6)⟩,
         .row ⟨(some 73), none, .callV (.c (.func (.func 16) [] [])) [(.t 72)]⟩,
         .row ⟨(some 74), none, .un .not (.t 73)⟩])
        (.cond (.t 74)
         (.seq
          (.ops [
           .row ⟨(some 2), none, .move (.c .nils)⟩,
           .row ⟨(some 3), none, .move (.c (.int .i64 5))⟩])
          .ret)
         .skip))
       (.seq
        (.ops [
         .row ⟨(some 75), none, .move (.t 6)⟩,
         .row ⟨(some 2), none, .move (.t 75)⟩,
         .row ⟨(some 3), none, .move (.c (.int .i64 0))⟩])
        .ret)))))))

theorem comp9 : compF Try.prog 9 = .ok ⟨76, [.tmp 2, .tmp 3], cc9⟩ := by kernel_rfl

/-- slices.Equal[[]byte,byte], of 2 -/
noncomputable def cc10 : CC :=
 (.seq
  (.ops [
   .row ⟨(some 4), none, .move (.c (.bool false))⟩])
  (.seq
   (.seq
    (.ops [
     .row ⟨(some 6), none, .move (.t 0)⟩,
     .row ⟨(some 7), none, .lenV (.t 6)⟩,
     .row ⟨(some 8), none, .move (.t 1)⟩,
     .row ⟨(some 9), none, .lenV (.t 8)⟩,
     .row ⟨(some 10), none, .bin .neq 3 false (.t 7) (.t 9)⟩])
    (.cond (.t 10)
     (.seq
      (.ops [
       .row ⟨(some 4), none, .move (.c (.bool false))⟩])
      .ret)
     .skip))
   (.seq
    (.seq
     (.ops [
      .row ⟨(some 11), none, .move (.t 0)⟩,
      .row ⟨(some 12), none, .lenV (.t 11)⟩,
      .row ⟨(some 13), none, .move (.c (.int .i64 0))⟩])
     (.block 0
      (.loop
       (.seq
        (.ops [
         .row ⟨(some 14), none, .bin .lss 3 false (.t 13) (.t 12)⟩])
        (.seq
         (.cond (.t 14)
          .skip
          (.exit 0))
         (.seq
          (.block 1
           (.seq
            (.ops [
             .row ⟨(some 15), none, .move (.t 13)⟩,
             .row ⟨(some 5), none, .move (.t 15)⟩])
            (.seq
             (.ops [
              .row ⟨(some 16), none, .move (.t 0)⟩,
              .row ⟨(some 17), none, .move (.t 5)⟩,
              .row ⟨(some 18), none, .idxV 1 (.t 16) (.t 17)⟩,
              .row ⟨(some 19), none, .load1 (.t 18)⟩,
              .row ⟨(some 20), none, .move (.t 1)⟩,
              .row ⟨(some 21), none, .move (.t 5)⟩,
              .row ⟨(some 22), none, .idxV 1 (.t 20) (.t 21)⟩,
              .row ⟨(some 23), none, .load1 (.t 22)⟩,
              .row ⟨(some 24), none, .bin .neq 5 false (.t 19) (.t 23)⟩,
              .stage [⟨(some 23), none, .load1 (.t 22)⟩, ⟨(some 19), none, .load1 (.t 18)⟩]])
             (.cond (.t 24)
              (.seq
               (.ops [
                .row ⟨(some 4), none, .move (.c (.bool false))⟩])
               .ret)
              .skip))))
          (.ops [
           .row ⟨(some 25), none, .bin .add 3 true (.t 13) (.c (.int .i64 1))⟩,
           .row ⟨(some 13), none, .move (.t 25)⟩])))))))
    (.seq
     (.ops [
      .row ⟨(some 4), none, .move (.c (.bool true))⟩])
     .ret))))

theorem comp10 : compF Try.prog 10 = .ok ⟨26, [.tmp 4], cc10⟩ := by kernel_rfl

/-- dryrot/dryrotplain.SameFooters, of 2 -/
noncomputable def cc11 : CC :=
 (.seq
  (.ops [
   .row ⟨(some 4), none, .move (.c (.bool false))⟩])
  (.seq
   (.ops [
    .row ⟨(some 5), none, .move (.t 0)⟩,
    .row ⟨(some 6), none, .move (.t 1)⟩,
    .row ⟨(some 7), none, .callV (.c (.func (.func 22) [] [])) [(.t 5), (.t 6), (.c (.func (.func 23) [] []))]⟩,
    .row ⟨(some 4), none, .move (.t 7)⟩])
   .ret))

theorem comp11 : compF Try.prog 11 = .ok ⟨8, [.tmp 4], cc11⟩ := by kernel_rfl

/-- dryrot/dryrotlaw21.awake, of 0 -/
noncomputable def cc12 : CC :=
 (.seq
  (.ops [
   .row ⟨(some 0), none, .move (.c (.bool false))⟩])
  (.seq
   (.ops [
    .row ⟨(some 6), none, .build [(.int .i64 0), (.int .i64 0), (.int .i64 0), (.int .i64 0), (.int .i64 0), (.int .i64 0), (.int .i64 0), .nils] [(0, 1, (.c (.int .i64 1))), (3, 1, (.c (.int .i64 1))), (1, 1, (.c (.int .i64 1))), (2, 1, (.c (.int .i64 1)))]⟩,
    .row ⟨(some 7), none, .buildSlice 1 8 [(.int .i64 0), (.int .i64 0), (.int .i64 0), (.int .i64 0), (.int .i64 0), (.int .i64 0), (.int .i64 0), .nils] [(0, 8, (.t 6))]⟩,
    .row ⟨(some 8), none, .callV (.c (.func (.func 6) [] [])) [(.t 7)]⟩,
    .row ⟨(some 5), none, .move (.t 8)⟩,
    .row ⟨(some 9), none, .extract (.t 5) 0⟩,
    .row ⟨(some 10), none, .extract (.t 5) 1⟩,
    .row ⟨(some 1), none, .move (.t 9)⟩,
    .row ⟨(some 2), none, .move (.t 10)⟩])
   (.seq
    (.ops [
     .row ⟨(some 12), none, .move (.t 1)⟩,
     .row ⟨(some 13), none, .callV (.c (.func (.func 8) [] [])) [(.t 12)]⟩,
     .row ⟨(some 11), none, .move (.t 13)⟩,
     .row ⟨(some 14), none, .extract (.t 11) 0⟩,
     .row ⟨(some 15), none, .extract (.t 11) 1⟩,
     .row ⟨(some 3), none, .move (.t 14)⟩,
     .row ⟨(some 4), none, .move (.t 15)⟩])
    (.seq
     (.ops [
      .row ⟨(some 16), none, .move (.t 2)⟩,
      .row ⟨(some 17), none, .bin .eql 25 true (.t 16) (.c (.int .i64 0))⟩,
      .row ⟨(some 18), none, .move (.t 17)⟩,
      .row ⟨(some 19), (some (18, true)), .move (.t 4)⟩,
      .row ⟨(some 20), (some (18, true)), .bin .eql 25 true (.t 19) (.c (.int .i64 0))⟩,
      .row ⟨(some 21), none, .pick (.t 18) (.t 20) (.c (.bool false))⟩,
      .row ⟨(some 22), none, .move (.t 21)⟩,
      .row ⟨(some 23), (some (22, true)), .move (.t 1)⟩,
      .row ⟨(some 24), (some (22, true)), .lenV (.t 23)⟩,
      .row ⟨(some 25), (some (22, true)), .bin .eql 3 true (.t 24) (.c (.int .i64 60))⟩,
      .row ⟨(some 26), none, .pick (.t 22) (.t 25) (.c (.bool false))⟩,
      .row ⟨(some 27), none, .move (.t 26)⟩,
      .row ⟨(some 28), (some (27, true)), .move (.t 3)⟩,
      .row ⟨(some 29), (some (27, true)), .lenV (.t 28)⟩,
      .row ⟨(some 30), (some (27, true)), .bin .eql 3 true (.t 29) (.c (.int .i64 1))⟩,
      .row ⟨(some 31), none, .pick (.t 27) (.t 30) (.c (.bool false))⟩,
      .row ⟨(some 0), none, .move (.t 31)⟩])
     .ret))))

theorem comp12 : compF Try.prog 12 = .ok ⟨32, [.tmp 0], cc12⟩ := by kernel_rfl

/-- slices.Clone[[]dryrot/api.Footer,dryrot/api.Footer], of 1 -/
noncomputable def cc13 : CC :=
 (.seq
  (.ops [
   .row ⟨(some 2), none, .move (.c .nils)⟩])
  (.seq
   (.seq
    (.ops [
     .row ⟨(some 3), none, .move (.t 0)⟩,
     .row ⟨(some 4), none, .bin .eql 22 true (.t 3) (.c .nils)⟩])
    (.cond (.t 4)
     (.seq
      (.ops [
       .row ⟨(some 2), none, .move (.c .nils)⟩])
      .ret)
     .skip))
   (.seq
    (.ops [
     .row ⟨(some 5), none, .buildSlice 0 8 [] []⟩,
     .row ⟨(some 6), none, .move (.t 0)⟩,
     .row ⟨(some 7), none, .app 8 80 (.t 5) (.t 6)⟩,
     .row ⟨(some 2), none, .move (.t 7)⟩])
    .ret)))

theorem comp13 : compF Try.prog 13 = .ok ⟨8, [.tmp 2], cc13⟩ := by kernel_rfl

/-- dryrot/plan.Can, of 1 -/
noncomputable def cc14 : CC :=
 (.seq
  (.ops [
   .row ⟨(some 2), none, .move (.c (.bool false))⟩])
  (.seq
   (.ops [
    .row ⟨(some 7), none, .mkM none⟩,
    .row ⟨(some 3), none, .move (.t 7)⟩])
   (.seq
    (.ops [
     .row ⟨(some 4), none, .move (.c (.int .i64 0))⟩])
    (.seq
     (.seq
      (.ops [
       .row ⟨(some 8), none, .move (.t 0)⟩,
       .row ⟨(some 9), none, .lenV (.t 8)⟩,
       .row ⟨(some 10), none, .move (.c (.int .i64 0))⟩])
      (.block 0
       (.loop
        (.seq
         (.ops [
          .row ⟨(some 11), none, .bin .lss 3 false (.t 10) (.t 9)⟩])
         (.seq
          (.cond (.t 11)
           .skip
           (.exit 0))
          (.seq
           (.block 1
            (.seq
             (.ops [
              .row ⟨(some 12), none, .idxV 8 (.t 8) (.t 10)⟩,
              .row ⟨(some 13), none, .loadN 8 (.t 12)⟩,
              .row ⟨(some 6), none, .new [(.int .i64 0), (.int .i64 0), (.int .i64 0), (.int .i64 0), (.int .i64 0), (.int .i64 0), (.int .i64 0), .nils]⟩,
              .row ⟨none, none, .store 8 (.t 6) (.t 13)⟩])
             (.seq
              (.seq
               (.ops [
                .row ⟨(some 14), none, .loadN 8 (.t 6)⟩,
                .row ⟨(some 15), none, .callV (.c (.func (.func 24) [] [])) [(.t 14)]⟩,
                .row ⟨(some 16), none, .un .not (.t 15)⟩,
                .row ⟨(some 17), none, .move (.t 16)⟩,
                .row ⟨(some 18), (some (17, false)), .fieldAddr 3 (.t 6)⟩,
                .row ⟨(some 19), (some (17, false)), .load1 (.t 18)⟩,
                .row ⟨(some 20), (some (17, false)), .move (.t 4)⟩,
                .row ⟨(some 21), (some (17, false)), .bin .leq 3 false (.t 19) (.t 20)⟩,
                .row ⟨(some 22), none, .pick (.t 17) (.c (.bool true)) (.t 21)⟩,
                .row ⟨(some 23), none, .move (.t 22)⟩,
                .row ⟨(some 24), (some (23, false)), .move (.t 3)⟩,
                .row ⟨(some 25), (some (23, false)), .fieldAddr 0 (.t 6)⟩,
                .row ⟨(some 26), (some (23, false)), .load1 (.t 25)⟩,
                .row ⟨(some 27), (some (23, false)), .lookup 3 (.bool false) false (.t 24) (.t 26)⟩,
                .row ⟨(some 28), none, .pick (.t 23) (.c (.bool true)) (.t 27)⟩])
               (.cond (.t 28)
                (.seq
                 (.ops [
                  .row ⟨(some 2), none, .move (.c (.bool false))⟩])
                 .ret)
                .skip))
              (.seq
               (.ops [
                .row ⟨(some 29), none, .move (.t 3)⟩,
                .row ⟨(some 30), none, .fieldAddr 0 (.t 6)⟩,
                .row ⟨(some 31), none, .load1 (.t 30)⟩,
                .row ⟨none, none, .upd 3 (.t 29) (.t 31) (.c (.bool true))⟩])
               (.ops [
                .row ⟨(some 32), none, .fieldAddr 3 (.t 6)⟩,
                .row ⟨(some 33), none, .load1 (.t 32)⟩,
                .row ⟨(some 4), none, .move (.t 33)⟩])))))
           (.ops [
            .row ⟨(some 34), none, .bin .add 3 true (.t 10) (.c (.int .i64 1))⟩,
            .row ⟨(some 10), none, .move (.t 34)⟩])))))))
     (.seq
      (.ops [
       .row ⟨(some 2), none, .move (.c (.bool true))⟩])
      .ret)))))

theorem comp14 : compF Try.prog 14 = .ok ⟨35, [.tmp 2], cc14⟩ := by kernel_rfl

/-- dryrot/crc.Put, of 2 -/
noncomputable def cc15 : CC :=
 (.seq
  (.ops [
   .row ⟨(some 4), none, .move (.c .nils)⟩])
  (.seq
   (.ops [
    .row ⟨(some 7), none, .move (.t 1)⟩,
    .row ⟨(some 8), none, .mm true (.t 7) [(.c (.int .i64 0))]⟩,
    .row ⟨(some 9), none, .mm false (.t 8) [(.c (.int .i64 8))]⟩,
    .row ⟨(some 10), none, .mkS 1 1 [(.int .u8 0)] (.t 9) (.t 9)⟩,
    .row ⟨(some 5), none, .move (.t 10)⟩])
   (.seq
    (.seq
     (.ops [
      .row ⟨(some 11), none, .move (.t 5)⟩,
      .row ⟨(some 12), none, .lenV (.t 11)⟩,
      .row ⟨(some 13), none, .move (.c (.int .i64 0))⟩])
     (.block 0
      (.loop
       (.seq
        (.ops [
         .row ⟨(some 14), none, .bin .lss 3 false (.t 13) (.t 12)⟩])
        (.seq
         (.cond (.t 14)
          .skip
          (.exit 0))
         (.seq
          (.block 1
           (.seq
            (.ops [
             .row ⟨(some 15), none, .move (.t 13)⟩,
             .row ⟨(some 6), none, .move (.t 15)⟩])
            (.ops [
             .row ⟨(some 16), none, .move (.t 5)⟩,
             .row ⟨(some 17), none, .move (.t 5)⟩,
             .row ⟨(some 18), none, .lenV (.t 17)⟩,
             .row ⟨(some 19), none, .bin .sub 3 true (.t 18) (.c (.int .i64 1))⟩,
             .row ⟨(some 20), none, .move (.t 6)⟩,
             .row ⟨(some 21), none, .bin .sub 3 false (.t 19) (.t 20)⟩,
             .row ⟨(some 22), none, .move (.t 0)⟩,
             .row ⟨(some 23), none, .move (.t 6)⟩,
             .row ⟨(some 24), none, .bin .mul 3 true (.c (.int .i64 8)) (.t 23)⟩,
             .row ⟨(some 25), none, .bin .shr 40 false (.t 22) (.t 24)⟩,
             .row ⟨(some 26), none, .conv (.int .u8) (.t 25)⟩,
             .row ⟨(some 27), none, .idxV 1 (.t 16) (.t 21)⟩,
             .row ⟨none, none, .store 1 (.t 27) (.t 26)⟩])))
          (.ops [
           .row ⟨(some 28), none, .bin .add 3 true (.t 13) (.c (.int .i64 1))⟩,
           .row ⟨(some 13), none, .move (.t 28)⟩])))))))
    (.seq
     (.ops [
      .row ⟨(some 29), none, .move (.t 5)⟩,
      .row ⟨(some 4), none, .move (.t 29)⟩])
     .ret))))

theorem comp15 : compF Try.prog 15 = .ok ⟨30, [.tmp 4], cc15⟩ := by kernel_rfl

/-- dryrot/dryrotref16.Can, of 1 -/
noncomputable def cc16 : CC :=
 (.seq
  (.ops [
   .row ⟨(some 2), none, .move (.c (.bool false))⟩])
  (.seq
   (.seq
    (.ops [
     .row ⟨(some 7), none, .move (.t 0)⟩,
     .row ⟨(some 8), none, .lenV (.t 7)⟩,
     .row ⟨(some 9), none, .move (.c (.int .i64 0))⟩])
    (.block 0
     (.loop
      (.seq
       (.ops [
        .row ⟨(some 10), none, .bin .lss 3 false (.t 9) (.t 8)⟩])
       (.seq
        (.cond (.t 10)
         .skip
         (.exit 0))
        (.seq
         (.block 1
          (.seq
           (.ops [
            .row ⟨(some 11), none, .move (.t 9)⟩,
            .row ⟨(some 12), none, .idxV 8 (.t 7) (.t 9)⟩,
            .row ⟨(some 13), none, .loadN 8 (.t 12)⟩,
            .row ⟨(some 4), none, .new [(.int .i64 0), (.int .i64 0), (.int .i64 0), (.int .i64 0), (.int .i64 0), (.int .i64 0), (.int .i64 0), .nils]⟩,
            .row ⟨(some 3), none, .move (.t 11)⟩,
            .row ⟨none, none, .store 8 (.t 4) (.t 13)⟩])
           (.seq
            (.seq
             (.ops [
              .row ⟨(some 14), none, .fieldAddr 0 (.t 4)⟩,
              .row ⟨(some 15), none, .load1 (.t 14)⟩,
              .row ⟨(some 16), none, .callV (.c (.func (.func 25) [] [])) [(.t 15)]⟩,
              .row ⟨(some 17), none, .un .not (.t 16)⟩,
              .row ⟨(some 18), none, .move (.t 17)⟩,
              .row ⟨(some 19), (some (18, false)), .fieldAddr 3 (.t 4)⟩,
              .row ⟨(some 20), (some (18, false)), .load1 (.t 19)⟩,
              .row ⟨(some 21), (some (18, false)), .callV (.c (.func (.func 25) [] [])) [(.t 20)]⟩,
              .row ⟨(some 22), (some (18, false)), .un .not (.t 21)⟩,
              .row ⟨(some 23), none, .pick (.t 18) (.c (.bool true)) (.t 22)⟩,
              .row ⟨(some 24), none, .move (.t 23)⟩,
              .row ⟨(some 25), (some (24, false)), .fieldAddr 1 (.t 4)⟩,
              .row ⟨(some 26), (some (24, false)), .load1 (.t 25)⟩,
              .row ⟨(some 27), (some (24, false)), .callV (.c (.func (.func 25) [] [])) [(.t 26)]⟩,
              .row ⟨(some 28), (some (24, false)), .un .not (.t 27)⟩,
              .row ⟨(some 29), none, .pick (.t 24) (.c (.bool true)) (.t 28)⟩,
              .row ⟨(some 30), none, .move (.t 29)⟩,
              .row ⟨(some 31), (some (30, false)), .fieldAddr 2 (.t 4)⟩,
              .row ⟨(some 32), (some (30, false)), .load1 (.t 31)⟩,
              .row ⟨(some 33), (some (30, false)), .bin .lss 3 true (.t 32) (.c (.int .i64 1))⟩,
              .row ⟨(some 34), none, .pick (.t 30) (.c (.bool true)) (.t 33)⟩,
              .row ⟨(some 35), none, .move (.t 34)⟩,
              .row ⟨(some 36), (some (35, false)), .fieldAddr 2 (.t 4)⟩,
              .row ⟨(some 37), (some (35, false)), .load1 (.t 36)⟩,
              .row ⟨(some 38), (some (35, false)), .bin .gtr 3 true (.t 37) (.c (.int .i64 3))⟩,
              .row ⟨(some 39), none, .pick (.t 35) (.c (.bool true)) (.t 38)⟩,
              .row ⟨(some 40), none, .move (.t 39)⟩,
              .row ⟨(some 41), (some (40, false)), .fieldAddr 6 (.t 4)⟩,
              .row ⟨(some 42), (some (40, false)), .load1 (.t 41)⟩,
              .row ⟨(some 43), (some (40, false)), .bin .lss 3 true (.t 42) (.c (.int .i64 0))⟩,
              .row ⟨(some 44), none, .pick (.t 40) (.c (.bool true)) (.t 43)⟩,
              .row ⟨(some 45), none, .move (.t 44)⟩,
              .row ⟨(some 46), (some (45, false)), .fieldAddr 6 (.t 4)⟩,
              .row ⟨(some 47), (some (45, false)), .load1 (.t 46)⟩,
              .row ⟨(some 48), (some (45, false)), .bin .gtr 3 true (.t 47) (.c (.int .i64 2147483647))⟩,
              .row ⟨(some 49), none, .pick (.t 45) (.c (.bool true)) (.t 48)⟩,
              .row ⟨(some 50), none, .move (.t 49)⟩,
              .row ⟨(some 51), (some (50, false)), .fieldAddr 4 (.t 4)⟩,
              .row ⟨(some 52), (some (50, false)), .load1 (.t 51)⟩,
              .row ⟨(some 53), (some (50, false)), .fieldAddr 5 (.t 4)⟩,
              .row ⟨(some 54), (some (50, false)), .load1 (.t 53)⟩,
              .row ⟨(some 55), (some (50, false)), .bin .gtr 3 false (.t 52) (.t 54)⟩,
              .row ⟨(some 56), none, .pick (.t 50) (.c (.bool true)) (.t 55)⟩])
             (.cond (.t 56)
              (.seq
               (.ops [
                .row ⟨(some 2), none, .move (.c (.bool false))⟩])
               .ret)
              .skip))
            (.seq
             (.seq
              (.ops [
               .row ⟨(some 57), none, .move (.t 3)⟩,
               .row ⟨(some 58), none, .bin .gtr 3 true (.t 57) (.c (.int .i64 0))⟩,
               .row ⟨(some 59), none, .move (.t 58)⟩,
               .row ⟨(some 60), (some (59, true)), .move (.t 0)⟩,
               .row ⟨(some 61), (some (59, true)), .move (.t 3)⟩,
               .row ⟨(some 62), (some (59, true)), .bin .sub 3 true (.t 61) (.c (.int .i64 1))⟩,
               .row ⟨(some 63), (some (59, true)), .idxV 8 (.t 60) (.t 62)⟩,
               .row ⟨(some 64), (some (59, true)), .fieldAddr 3 (.t 63)⟩,
               .row ⟨(some 65), (some (59, true)), .load1 (.t 64)⟩,
               .row ⟨(some 66), (some (59, true)), .fieldAddr 3 (.t 4)⟩,
               .row ⟨(some 67), (some (59, true)), .load1 (.t 66)⟩,
               .row ⟨(some 68), (some (59, true)), .bin .geq 3 false (.t 65) (.t 67)⟩,
               .row ⟨(some 69), none, .pick (.t 59) (.t 68) (.c (.bool false))⟩,
               .stage [⟨(some 67), (some (59, true)), .load1 (.t 66)⟩, ⟨(some 65), (some (59, true)), .load1 (.t 64)⟩]])
              (.cond (.t 69)
               (.seq
                (.ops [
                 .row ⟨(some 2), none, .move (.c (.bool false))⟩])
                .ret)
               .skip))
             (.seq
              (.ops [
               .row ⟨(some 70), none, .move (.t 0)⟩,
               .row ⟨(some 71), none, .move (.t 3)⟩,
               .row ⟨(some 72), none, .sliceV 8 (.t 70) none (some (.t 71)) none⟩,
               .row ⟨(some 73), none, .lenV (.t 72)⟩,
               .row ⟨(some 74), none, .move (.c (.int .i64 0))⟩])
              (.block 2
               (.loop
                (.seq
                 (.ops [
                  .row ⟨(some 75), none, .bin .lss 3 false (.t 74) (.t 73)⟩])
                 (.seq
                  (.cond (.t 75)
                   .skip
                   (.exit 2))
                  (.seq
                   (.block 3
                    (.seq
                     (.ops [
                      .row ⟨(some 76), none, .idxV 8 (.t 72) (.t 74)⟩,
                      .row ⟨(some 77), none, .loadN 8 (.t 76)⟩,
                      .row ⟨(some 6), none, .new [(.int .i64 0), (.int .i64 0), (.int .i64 0), (.int .i64 0), (.int .i64 0), (.int .i64 0), (.int .i64 0), .nils]⟩,
                      .row ⟨none, none, .store 8 (.t 6) (.t 77)⟩])
                     (.seq
                      (.ops [
                       .row ⟨(some 78), none, .fieldAddr 0 (.t 6)⟩,
                       .row ⟨(some 79), none, .load1 (.t 78)⟩,
                       .row ⟨(some 80), none, .fieldAddr 0 (.t 4)⟩,
                       .row ⟨(some 81), none, .load1 (.t 80)⟩,
                       .row ⟨(some 82), none, .bin .eql 3 false (.t 79) (.t 81)⟩])
                      (.cond (.t 82)
                       (.seq
                        (.ops [
                         .row ⟨(some 2), none, .move (.c (.bool false))⟩])
                        .ret)
                       .skip))))
                   (.ops [
                    .row ⟨(some 83), none, .bin .add 3 true (.t 74) (.c (.int .i64 1))⟩,
                    .row ⟨(some 74), none, .move (.t 83)⟩])))))))))))
         (.ops [
          .row ⟨(some 84), none, .bin .add 3 true (.t 9) (.c (.int .i64 1))⟩,
          .row ⟨(some 9), none, .move (.t 84)⟩])))))))
   (.seq
    (.ops [
     .row ⟨(some 2), none, .move (.c (.bool true))⟩])
    .ret)))

theorem comp16 : compF Try.prog 16 = .ok ⟨85, [.tmp 2], cc16⟩ := by kernel_rfl

/-- dryrot/dryrotref01.Put, of 2 -/
noncomputable def cc17 : CC :=
 (.seq
  (.ops [
   .row ⟨(some 4), none, .move (.c .nils)⟩])
  (.seq
   (.ops [
    .row ⟨(some 8), none, .move (.t 1)⟩,
    .row ⟨(some 9), none, .mm true (.t 8) [(.c (.int .i64 0))]⟩,
    .row ⟨(some 10), none, .mm false (.t 9) [(.c (.int .i64 8))]⟩,
    .row ⟨(some 5), none, .move (.t 10)⟩])
   (.seq
    (.ops [
     .row ⟨(some 11), none, .move (.t 5)⟩,
     .row ⟨(some 12), none, .mkS 1 1 [(.int .u8 0)] (.t 11) (.t 11)⟩,
     .row ⟨(some 6), none, .move (.t 12)⟩])
    (.seq
     (.seq
      (.ops [
       .row ⟨(some 13), none, .move (.t 5)⟩,
       .row ⟨(some 14), none, .bin .sub 3 true (.t 13) (.c (.int .i64 1))⟩,
       .row ⟨(some 7), none, .move (.t 14)⟩])
      (.block 0
       (.loop
        (.seq
         (.seq
          (.ops [
           .row ⟨(some 15), none, .move (.t 7)⟩,
           .row ⟨(some 16), none, .bin .geq 3 true (.t 15) (.c (.int .i64 0))⟩])
          (.cond (.t 16)
           .skip
           (.exit 0)))
         (.seq
          (.block 1
           (.seq
            (.ops [
             .row ⟨(some 19), none, .move (.t 6)⟩,
             .row ⟨(some 20), none, .move (.t 7)⟩,
             .row ⟨(some 21), none, .move (.t 0)⟩,
             .row ⟨(some 22), none, .bin .rem 40 true (.t 21) (.c (.int .u64 256))⟩,
             .row ⟨(some 23), none, .conv (.int .u8) (.t 22)⟩,
             .row ⟨(some 24), none, .idxV 1 (.t 19) (.t 20)⟩,
             .row ⟨none, none, .store 1 (.t 24) (.t 23)⟩])
            (.ops [
             .row ⟨(some 25), none, .move (.t 0)⟩,
             .row ⟨(some 26), none, .bin .quo 40 true (.t 25) (.c (.int .u64 256))⟩,
             .row ⟨(some 0), none, .move (.t 26)⟩])))
          (.ops [
           .row ⟨(some 17), none, .move (.t 7)⟩,
           .row ⟨(some 18), none, .bin .sub 3 true (.t 17) (.c (.int .i64 1))⟩,
           .row ⟨(some 7), none, .move (.t 18)⟩]))))))
     (.seq
      (.ops [
       .row ⟨(some 27), none, .move (.t 6)⟩,
       .row ⟨(some 4), none, .move (.t 27)⟩])
      .ret)))))

theorem comp17 : compF Try.prog 17 = .ok ⟨28, [.tmp 4], cc17⟩ := by kernel_rfl

/-- dryrot/dryrotref10.Big, of 1 -/
noncomputable def cc18 : CC :=
 (.seq
  (.ops [
   .row ⟨(some 2), none, .move (.c .nils)⟩])
  (.seq
   (.ops [
    .row ⟨(some 3), none, .move (.t 0)⟩,
    .row ⟨(some 4), none, .conv (.int .u64) (.t 3)⟩,
    .row ⟨(some 5), none, .callV (.c (.func (.func 17) [] [])) [(.t 4), (.c (.int .i64 8))]⟩,
    .row ⟨(some 2), none, .move (.t 5)⟩])
   .ret))

theorem comp18 : compF Try.prog 18 = .ok ⟨6, [.tmp 2], cc18⟩ := by kernel_rfl

/-- dryrot/crc.Get, of 1 -/
noncomputable def cc19 : CC :=
 (.seq
  (.ops [
   .row ⟨(some 2), none, .move (.c (.int .u64 0))⟩,
   .row ⟨(some 3), none, .move (.c (.bool false))⟩])
  (.seq
   (.seq
    (.ops [
     .row ⟨(some 7), none, .move (.t 0)⟩,
     .row ⟨(some 8), none, .lenV (.t 7)⟩,
     .row ⟨(some 9), none, .bin .eql 3 true (.t 8) (.c (.int .i64 0))⟩,
     .row ⟨(some 10), none, .move (.t 9)⟩,
     .row ⟨(some 11), (some (10, false)), .move (.t 0)⟩,
     .row ⟨(some 12), (some (10, false)), .lenV (.t 11)⟩,
     .row ⟨(some 13), (some (10, false)), .bin .gtr 3 true (.t 12) (.c (.int .i64 8))⟩,
     .row ⟨(some 14), none, .pick (.t 10) (.c (.bool true)) (.t 13)⟩])
    (.cond (.t 14)
     (.seq
      (.ops [
       .row ⟨(some 2), none, .move (.c (.int .u64 0))⟩,
       .row ⟨(some 3), none, .move (.c (.bool false))⟩])
      .ret)
     .skip))
   (.seq
    (.ops [
     .row ⟨(some 4), none, .move (.c (.int .u64 0))⟩])
    (.seq
     (.seq
      (.ops [
       .row ⟨(some 15), none, .move (.t 0)⟩,
       .row ⟨(some 16), none, .lenV (.t 15)⟩,
       .row ⟨(some 17), none, .move (.c (.int .i64 0))⟩])
      (.block 0
       (.loop
        (.seq
         (.ops [
          .row ⟨(some 18), none, .bin .lss 3 false (.t 17) (.t 16)⟩])
         (.seq
          (.cond (.t 18)
           .skip
           (.exit 0))
          (.seq
           (.block 1
            (.seq
             (.ops [
              .row ⟨(some 19), none, .idxV 1 (.t 15) (.t 17)⟩,
              .row ⟨(some 20), none, .load1 (.t 19)⟩,
              .row ⟨(some 6), none, .move (.t 20)⟩])
             (.ops [
              .row ⟨(some 21), none, .move (.t 4)⟩,
              .row ⟨(some 22), none, .bin .shl 40 true (.t 21) (.c (.int .u64 8))⟩,
              .row ⟨(some 23), none, .move (.t 6)⟩,
              .row ⟨(some 24), none, .conv (.int .u64) (.t 23)⟩,
              .row ⟨(some 25), none, .bin .or 40 false (.t 22) (.t 24)⟩,
              .row ⟨(some 4), none, .move (.t 25)⟩])))
           (.ops [
            .row ⟨(some 26), none, .bin .add 3 true (.t 17) (.c (.int .i64 1))⟩,
            .row ⟨(some 17), none, .move (.t 26)⟩])))))))
     (.seq
      (.ops [
       .row ⟨(some 27), none, .move (.t 4)⟩,
       .row ⟨(some 2), none, .move (.t 27)⟩,
       .row ⟨(some 3), none, .move (.c (.bool true))⟩])
      .ret)))))

theorem comp19 : compF Try.prog 19 = .ok ⟨28, [.tmp 2, .tmp 3], cc19⟩ := by kernel_rfl

/-- slices.Chunk[[]byte,byte], of 2 -/
noncomputable def cc20 : CC :=
 (.seq
  (.ops [
   .row ⟨(some 2), none, .box (.t 0)⟩,
   .row ⟨(some 3), none, .box (.t 1)⟩,
   .row ⟨(some 4), none, .move (.c .nilf)⟩])
  (.seq
   (.seq
    (.ops [
     .row ⟨(some 5), none, .load1 (.t 3)⟩,
     .row ⟨(some 6), none, .bin .lss 3 true (.t 5) (.c (.int .i64 1))⟩])
    (.cond (.t 6)
     (.ops [
      .row ⟨(some 7), none, .mkI 9 (.c (.str [99, 97, 110, 110, 111, 116, 32, 98, 101, 32, 108, 101, 115, 115, 32, 116, 104, 97, 110, 32, 49]))⟩,
      .row ⟨none, none, .extract (.c .nilp) 0⟩])
     .skip))
   (.seq
    (.ops [
     .row ⟨(some 8), none, .mkF 26 [] [(.t 2), (.t 3)]⟩,
     .row ⟨(some 4), none, .move (.t 8)⟩])
    .ret)))

theorem comp20 : compF Try.prog 20 = .ok ⟨9, [.tmp 4], cc20⟩ := by kernel_rfl

/-- dryrot/dryrotref10.Int, of 2 -/
noncomputable def cc21 : CC :=
 (.seq
  (.ops [
   .row ⟨(some 4), none, .move (.c (.int .i64 0))⟩,
   .row ⟨(some 5), none, .move (.c .nils)⟩,
   .row ⟨(some 6), none, .move (.c (.bool false))⟩])
  (.seq
   (.seq
    (.ops [
     .row ⟨(some 9), none, .move (.t 0)⟩,
     .row ⟨(some 10), none, .lenV (.t 9)⟩,
     .row ⟨(some 11), none, .move (.t 1)⟩,
     .row ⟨(some 12), none, .bin .lss 3 false (.t 10) (.t 11)⟩])
    (.cond (.t 12)
     (.seq
      (.ops [
       .row ⟨(some 4), none, .move (.c (.int .i64 0))⟩,
       .row ⟨(some 5), none, .move (.c .nils)⟩,
       .row ⟨(some 6), none, .move (.c (.bool false))⟩])
      .ret)
     .skip))
   (.seq
    (.ops [
     .row ⟨(some 14), none, .move (.t 0)⟩,
     .row ⟨(some 15), none, .move (.t 1)⟩,
     .row ⟨(some 16), none, .sliceV 1 (.t 14) none (some (.t 15)) none⟩,
     .row ⟨(some 17), none, .callV (.c (.func (.func 27) [] [])) [(.t 16)]⟩,
     .row ⟨(some 13), none, .move (.t 17)⟩,
     .row ⟨(some 18), none, .extract (.t 13) 0⟩,
     .row ⟨(some 19), none, .extract (.t 13) 1⟩,
     .row ⟨(some 7), none, .move (.t 18)⟩,
     .row ⟨(some 8), none, .move (.t 19)⟩])
    (.seq
     (.ops [
      .row ⟨(some 20), none, .move (.t 7)⟩,
      .row ⟨(some 21), none, .conv (.int .i64) (.t 20)⟩,
      .row ⟨(some 22), none, .move (.t 0)⟩,
      .row ⟨(some 23), none, .move (.t 1)⟩,
      .row ⟨(some 24), none, .sliceV 1 (.t 22) (some (.t 23)) none none⟩,
      .row ⟨(some 4), none, .move (.t 21)⟩,
      .row ⟨(some 5), none, .move (.t 24)⟩,
      .row ⟨(some 6), none, .move (.c (.bool true))⟩])
     .ret))))

theorem comp21 : compF Try.prog 21 = .ok ⟨25, [.tmp 4, .tmp 5, .tmp 6], cc21⟩ := by kernel_rfl

/-- slices.EqualFunc[[]dryrot/api.Footer,[]dryrot/api.Footer,dryrot/api.Footer,dryrot/api.Footer], of 3 -/
noncomputable def cc22 : CC :=
 (.seq
  (.ops [
   .row ⟨(some 6), none, .move (.c (.bool false))⟩])
  (.seq
   (.seq
    (.ops [
     .row ⟨(some 10), none, .move (.t 0)⟩,
     .row ⟨(some 11), none, .lenV (.t 10)⟩,
     .row ⟨(some 12), none, .move (.t 1)⟩,
     .row ⟨(some 13), none, .lenV (.t 12)⟩,
     .row ⟨(some 14), none, .bin .neq 3 false (.t 11) (.t 13)⟩])
    (.cond (.t 14)
     (.seq
      (.ops [
       .row ⟨(some 6), none, .move (.c (.bool false))⟩])
      .ret)
     .skip))
   (.seq
    (.seq
     (.ops [
      .row ⟨(some 15), none, .move (.t 0)⟩,
      .row ⟨(some 16), none, .lenV (.t 15)⟩,
      .row ⟨(some 17), none, .move (.c (.int .i64 0))⟩])
     (.block 0
      (.loop
       (.seq
        (.ops [
         .row ⟨(some 18), none, .bin .lss 3 false (.t 17) (.t 16)⟩])
        (.seq
         (.cond (.t 18)
          .skip
          (.exit 0))
         (.seq
          (.block 1
           (.seq
            (.ops [
             .row ⟨(some 19), none, .move (.t 17)⟩,
             .row ⟨(some 20), none, .idxV 8 (.t 15) (.t 17)⟩,
             .row ⟨(some 21), none, .loadN 8 (.t 20)⟩,
             .row ⟨(some 8), none, .new [(.int .i64 0), (.int .i64 0), (.int .i64 0), (.int .i64 0), (.int .i64 0), (.int .i64 0), (.int .i64 0), .nils]⟩,
             .row ⟨(some 7), none, .move (.t 19)⟩,
             .row ⟨none, none, .store 8 (.t 8) (.t 21)⟩])
            (.seq
             (.ops [
              .row ⟨(some 22), none, .move (.t 1)⟩,
              .row ⟨(some 23), none, .move (.t 7)⟩,
              .row ⟨(some 24), none, .idxV 8 (.t 22) (.t 23)⟩,
              .row ⟨(some 25), none, .loadN 8 (.t 24)⟩,
              .row ⟨(some 9), none, .new [(.int .i64 0), (.int .i64 0), (.int .i64 0), (.int .i64 0), (.int .i64 0), (.int .i64 0), (.int .i64 0), .nils]⟩,
              .row ⟨none, none, .store 8 (.t 9) (.t 25)⟩])
             (.seq
              (.ops [
               .row ⟨(some 26), none, .move (.t 2)⟩,
               .row ⟨(some 27), none, .loadN 8 (.t 8)⟩,
               .row ⟨(some 28), none, .loadN 8 (.t 9)⟩,
               .row ⟨(some 29), none, .callV (.t 26) [(.t 27), (.t 28)]⟩,
               .row ⟨(some 30), none, .un .not (.t 29)⟩])
              (.cond (.t 30)
               (.seq
                (.ops [
                 .row ⟨(some 6), none, .move (.c (.bool false))⟩])
                .ret)
               .skip)))))
          (.ops [
           .row ⟨(some 31), none, .bin .add 3 true (.t 17) (.c (.int .i64 1))⟩,
           .row ⟨(some 17), none, .move (.t 31)⟩])))))))
    (.seq
     (.ops [
      .row ⟨(some 6), none, .move (.c (.bool true))⟩])
     .ret))))

theorem comp22 : compF Try.prog 22 = .ok ⟨32, [.tmp 6], cc22⟩ := by kernel_rfl

/-- dryrot/dryrotplain.SameFooter, of 2 -/
noncomputable def cc23 : CC :=
 (.seq
  (.ops [
   .row ⟨(some 2), none, .box (.t 0)⟩,
   .row ⟨(some 3), none, .box (.t 1)⟩,
   .row ⟨(some 4), none, .move (.c (.bool false))⟩])
  (.seq
   (.ops [
    .row ⟨(some 5), none, .fieldAddr 0 (.t 2)⟩,
    .row ⟨(some 6), none, .load1 (.t 5)⟩,
    .row ⟨(some 7), none, .fieldAddr 0 (.t 3)⟩,
    .row ⟨(some 8), none, .load1 (.t 7)⟩,
    .row ⟨(some 9), none, .bin .eql 3 false (.t 6) (.t 8)⟩,
    .row ⟨(some 10), none, .move (.t 9)⟩,
    .row ⟨(some 11), (some (10, true)), .fieldAddr 1 (.t 2)⟩,
    .row ⟨(some 12), (some (10, true)), .load1 (.t 11)⟩,
    .row ⟨(some 13), (some (10, true)), .fieldAddr 1 (.t 3)⟩,
    .row ⟨(some 14), (some (10, true)), .load1 (.t 13)⟩,
    .row ⟨(some 15), (some (10, true)), .bin .eql 3 false (.t 12) (.t 14)⟩,
    .row ⟨(some 16), none, .pick (.t 10) (.t 15) (.c (.bool false))⟩,
    .row ⟨(some 17), none, .move (.t 16)⟩,
    .row ⟨(some 18), (some (17, true)), .fieldAddr 2 (.t 2)⟩,
    .row ⟨(some 19), (some (17, true)), .load1 (.t 18)⟩,
    .row ⟨(some 20), (some (17, true)), .fieldAddr 2 (.t 3)⟩,
    .row ⟨(some 21), (some (17, true)), .load1 (.t 20)⟩,
    .row ⟨(some 22), (some (17, true)), .bin .eql 3 false (.t 19) (.t 21)⟩,
    .row ⟨(some 23), none, .pick (.t 17) (.t 22) (.c (.bool false))⟩,
    .row ⟨(some 24), none, .move (.t 23)⟩,
    .row ⟨(some 25), (some (24, true)), .fieldAddr 3 (.t 2)⟩,
    .row ⟨(some 26), (some (24, true)), .load1 (.t 25)⟩,
    .row ⟨(some 27), (some (24, true)), .fieldAddr 3 (.t 3)⟩,
    .row ⟨(some 28), (some (24, true)), .load1 (.t 27)⟩,
    .row ⟨(some 29), (some (24, true)), .bin .eql 3 false (.t 26) (.t 28)⟩,
    .row ⟨(some 30), none, .pick (.t 24) (.t 29) (.c (.bool false))⟩,
    .row ⟨(some 31), none, .move (.t 30)⟩,
    .row ⟨(some 32), (some (31, true)), .fieldAddr 4 (.t 2)⟩,
    .row ⟨(some 33), (some (31, true)), .load1 (.t 32)⟩,
    .row ⟨(some 34), (some (31, true)), .fieldAddr 4 (.t 3)⟩,
    .row ⟨(some 35), (some (31, true)), .load1 (.t 34)⟩,
    .row ⟨(some 36), (some (31, true)), .bin .eql 3 false (.t 33) (.t 35)⟩,
    .row ⟨(some 37), none, .pick (.t 31) (.t 36) (.c (.bool false))⟩,
    .row ⟨(some 38), none, .move (.t 37)⟩,
    .row ⟨(some 39), (some (38, true)), .fieldAddr 5 (.t 2)⟩,
    .row ⟨(some 40), (some (38, true)), .load1 (.t 39)⟩,
    .row ⟨(some 41), (some (38, true)), .fieldAddr 5 (.t 3)⟩,
    .row ⟨(some 42), (some (38, true)), .load1 (.t 41)⟩,
    .row ⟨(some 43), (some (38, true)), .bin .eql 3 false (.t 40) (.t 42)⟩,
    .row ⟨(some 44), none, .pick (.t 38) (.t 43) (.c (.bool false))⟩,
    .row ⟨(some 45), none, .move (.t 44)⟩,
    .row ⟨(some 46), (some (45, true)), .fieldAddr 6 (.t 2)⟩,
    .row ⟨(some 47), (some (45, true)), .load1 (.t 46)⟩,
    .row ⟨(some 48), (some (45, true)), .fieldAddr 6 (.t 3)⟩,
    .row ⟨(some 49), (some (45, true)), .load1 (.t 48)⟩,
    .row ⟨(some 50), (some (45, true)), .bin .eql 3 false (.t 47) (.t 49)⟩,
    .row ⟨(some 51), none, .pick (.t 45) (.t 50) (.c (.bool false))⟩,
    .row ⟨(some 52), none, .move (.t 51)⟩,
    .row ⟨(some 53), (some (52, true)), .fieldAddr 7 (.t 2)⟩,
    .row ⟨(some 54), (some (52, true)), .load1 (.t 53)⟩,
    .row ⟨(some 55), (some (52, true)), .fieldAddr 7 (.t 3)⟩,
    .row ⟨(some 56), (some (52, true)), .load1 (.t 55)⟩,
    .row ⟨(some 57), (some (52, true)), .callV (.c (.func (.func 28) [] [])) [(.t 54), (.t 56)]⟩,
    .row ⟨(some 58), none, .pick (.t 52) (.t 57) (.c (.bool false))⟩,
    .row ⟨(some 4), none, .move (.t 58)⟩])
   .ret))

theorem comp23 : compF Try.prog 23 = .ok ⟨59, [.tmp 4], cc23⟩ := by kernel_rfl

/-- dryrot/plan.can, of 1 -/
noncomputable def cc24 : CC :=
 (.seq
  (.ops [
   .row ⟨(some 1), none, .box (.t 0)⟩,
   .row ⟨(some 2), none, .move (.c (.bool false))⟩])
  (.seq
   (.ops [
    .row ⟨(some 3), none, .fieldAddr 0 (.t 1)⟩,
    .row ⟨(some 4), none, .load1 (.t 3)⟩,
    .row ⟨(some 5), none, .callV (.c (.func (.func 29) [] [])) [(.t 4)]⟩,
    .row ⟨(some 6), none, .move (.t 5)⟩,
    .row ⟨(some 7), (some (6, true)), .fieldAddr 3 (.t 1)⟩,
    .row ⟨(some 8), (some (6, true)), .load1 (.t 7)⟩,
    .row ⟨(some 9), (some (6, true)), .callV (.c (.func (.func 29) [] [])) [(.t 8)]⟩,
    .row ⟨(some 10), none, .pick (.t 6) (.t 9) (.c (.bool false))⟩,
    .row ⟨(some 11), none, .move (.t 10)⟩,
    .row ⟨(some 12), (some (11, true)), .fieldAddr 1 (.t 1)⟩,
    .row ⟨(some 13), (some (11, true)), .load1 (.t 12)⟩,
    .row ⟨(some 14), (some (11, true)), .callV (.c (.func (.func 29) [] [])) [(.t 13)]⟩,
    .row ⟨(some 15), none, .pick (.t 11) (.t 14) (.c (.bool false))⟩,
    .row ⟨(some 16), none, .move (.t 15)⟩,
    .row ⟨(some 17), (some (16, true)), .fieldAddr 2 (.t 1)⟩,
    .row ⟨(some 18), (some (16, true)), .load1 (.t 17)⟩,
    .row ⟨(some 19), (some (16, true)), .bin .geq 3 true (.t 18) (.c (.int .i64 1))⟩,
    .row ⟨(some 20), none, .pick (.t 16) (.t 19) (.c (.bool false))⟩,
    .row ⟨(some 21), none, .move (.t 20)⟩,
    .row ⟨(some 22), (some (21, true)), .fieldAddr 2 (.t 1)⟩,
    .row ⟨(some 23), (some (21, true)), .load1 (.t 22)⟩,
    .row ⟨(some 24), (some (21, true)), .bin .leq 3 true (.t 23) (.c (.int .i64 3))⟩,
    .row ⟨(some 25), none, .pick (.t 21) (.t 24) (.c (.bool false))⟩,
    .row ⟨(some 26), none, .move (.t 25)⟩,
    .row ⟨(some 27), (some (26, true)), .fieldAddr 6 (.t 1)⟩,
    .row ⟨(some 28), (some (26, true)), .load1 (.t 27)⟩,
    .row ⟨(some 29), (some (26, true)), .bin .geq 3 true (.t 28) (.c (.int .i64 0))⟩,
    .row ⟨(some 30), none, .pick (.t 26) (.t 29) (.c (.bool false))⟩,
    .row ⟨(some 31), none, .move (.t 30)⟩,
    .row ⟨(some 32), (some (31, true)), .fieldAddr 6 (.t 1)⟩,
    .row ⟨(some 33), (some (31, true)), .load1 (.t 32)⟩,
    .row ⟨(some 34), (some (31, true)), .bin .leq 3 true (.t 33) (.c (.int .i64 2147483647))⟩,
    .row ⟨(some 35), none, .pick (.t 31) (.t 34) (.c (.bool false))⟩,
    .row ⟨(some 36), none, .move (.t 35)⟩,
    .row ⟨(some 37), (some (36, true)), .fieldAddr 4 (.t 1)⟩,
    .row ⟨(some 38), (some (36, true)), .load1 (.t 37)⟩,
    .row ⟨(some 39), (some (36, true)), .fieldAddr 5 (.t 1)⟩,
    .row ⟨(some 40), (some (36, true)), .load1 (.t 39)⟩,
    .row ⟨(some 41), (some (36, true)), .bin .leq 3 false (.t 38) (.t 40)⟩,
    .row ⟨(some 42), none, .pick (.t 36) (.t 41) (.c (.bool false))⟩,
    .row ⟨(some 2), none, .move (.t 42)⟩])
   .ret))

theorem comp24 : compF Try.prog 24 = .ok ⟨43, [.tmp 2], cc24⟩ := by kernel_rfl

/-- dryrot/dryrotref16.number, of 1 -/
noncomputable def cc25 : CC :=
 (.seq
  (.ops [
   .row ⟨(some 2), none, .move (.c (.bool false))⟩])
  (.seq
   (.ops [
    .row ⟨(some 3), none, .move (.t 0)⟩,
    .row ⟨(some 4), none, .bin .geq 3 true (.t 3) (.c (.int .i64 1))⟩,
    .row ⟨(some 5), none, .move (.t 4)⟩,
    .row ⟨(some 6), (some (5, true)), .move (.t 0)⟩,
    .row ⟨(some 7), (some (5, true)), .bin .leq 3 true (.t 6) (.c (.int .i64 4611686018427387904))⟩,
    .row ⟨(some 8), none, .pick (.t 5) (.t 7) (.c (.bool false))⟩,
    .row ⟨(some 2), none, .move (.t 8)⟩])
   .ret))

theorem comp25 : compF Try.prog 25 = .ok ⟨9, [.tmp 2], cc25⟩ := by kernel_rfl

/-- slices.Chunk[[]byte,byte]$1, of 1 -/
noncomputable def cc26 : CC :=
 (.seq
  (.ops [
   .row ⟨(some 4), none, .move (.c (.int .i64 0))⟩])
  (.block 0
   (.loop
    (.seq
     (.seq
      (.ops [
       .row ⟨(some 6), none, .move (.t 4)⟩,
       .row ⟨(some 7), none, .load1 (.t 1)⟩,
       .row ⟨(some 8), none, .lenV (.t 7)⟩,
       .row ⟨(some 9), none, .bin .lss 3 false (.t 6) (.t 8)⟩])
      (.cond (.t 9)
       .skip
       (.exit 0)))
     (.seq
      (.block 1
       (.seq
        (.ops [
         .row ⟨(some 13), none, .load1 (.t 2)⟩,
         .row ⟨(some 14), none, .load1 (.t 1)⟩,
         .row ⟨(some 15), none, .move (.t 4)⟩,
         .row ⟨(some 16), none, .sliceV 1 (.t 14) (some (.t 15)) none none⟩,
         .row ⟨(some 17), none, .lenV (.t 16)⟩,
         .row ⟨(some 18), none, .mm false (.t 13) [(.t 17)]⟩,
         .row ⟨(some 5), none, .move (.t 18)⟩,
         .stage [⟨(some 14), none, .load1 (.t 1)⟩, ⟨(some 13), none, .load1 (.t 2)⟩]])
        (.seq
         (.ops [
          .row ⟨(some 19), none, .move (.t 0)⟩,
          .row ⟨(some 20), none, .load1 (.t 1)⟩,
          .row ⟨(some 21), none, .move (.t 4)⟩,
          .row ⟨(some 22), none, .move (.t 4)⟩,
          .row ⟨(some 23), none, .move (.t 5)⟩,
          .row ⟨(some 24), none, .bin .add 3 false (.t 22) (.t 23)⟩,
          .row ⟨(some 25), none, .move (.t 4)⟩,
          .row ⟨(some 26), none, .move (.t 5)⟩,
          .row ⟨(some 27), none, .bin .add 3 false (.t 25) (.t 26)⟩,
          .row ⟨(some 28), none, .sliceV 1 (.t 20) (some (.t 21)) (some (.t 24)) (some (.t 27))⟩,
          .row ⟨(some 29), none, .callV (.t 19) [(.t 28)]⟩,
          .row ⟨(some 30), none, .un .not (.t 29)⟩])
         (.cond (.t 30)
          .ret
          .skip))))
      (.ops [
       .row ⟨(some 10), none, .move (.t 4)⟩,
       .row ⟨(some 11), none, .load1 (.t 2)⟩,
       .row ⟨(some 12), none, .bin .add 3 false (.t 10) (.t 11)⟩,
       .row ⟨(some 4), none, .move (.t 12)⟩]))))))

theorem comp26 : compF Try.prog 26 = .ok ⟨31, [], cc26⟩ := by kernel_rfl

/-- dryrot/dryrotref01.Get, of 1 -/
noncomputable def cc27 : CC :=
 (.seq
  (.ops [
   .row ⟨(some 2), none, .move (.c (.int .u64 0))⟩,
   .row ⟨(some 3), none, .move (.c (.bool false))⟩])
  (.seq
   (.seq
    (.ops [
     .row ⟨(some 7), none, .move (.t 0)⟩,
     .row ⟨(some 8), none, .lenV (.t 7)⟩,
     .row ⟨(some 9), none, .bin .lss 3 true (.t 8) (.c (.int .i64 1))⟩,
     .row ⟨(some 10), none, .move (.t 9)⟩,
     .row ⟨(some 11), (some (10, false)), .move (.t 0)⟩,
     .row ⟨(some 12), (some (10, false)), .lenV (.t 11)⟩,
     .row ⟨(some 13), (some (10, false)), .bin .gtr 3 true (.t 12) (.c (.int .i64 8))⟩,
     .row ⟨(some 14), none, .pick (.t 10) (.c (.bool true)) (.t 13)⟩])
    (.cond (.t 14)
     (.seq
      (.ops [
       .row ⟨(some 2), none, .move (.c (.int .u64 0))⟩,
       .row ⟨(some 3), none, .move (.c (.bool false))⟩])
      .ret)
     .skip))
   (.seq
    (.ops [
     .row ⟨(some 4), none, .move (.c (.int .u64 0))⟩])
    (.seq
     (.seq
      (.ops [
       .row ⟨(some 15), none, .move (.t 0)⟩,
       .row ⟨(some 16), none, .lenV (.t 15)⟩,
       .row ⟨(some 17), none, .move (.c (.int .i64 0))⟩])
      (.block 0
       (.loop
        (.seq
         (.ops [
          .row ⟨(some 18), none, .bin .lss 3 false (.t 17) (.t 16)⟩])
         (.seq
          (.cond (.t 18)
           .skip
           (.exit 0))
          (.seq
           (.block 1
            (.seq
             (.ops [
              .row ⟨(some 19), none, .idxV 1 (.t 15) (.t 17)⟩,
              .row ⟨(some 20), none, .load1 (.t 19)⟩,
              .row ⟨(some 6), none, .move (.t 20)⟩])
             (.ops [
              .row ⟨(some 21), none, .move (.t 4)⟩,
              .row ⟨(some 22), none, .bin .mul 40 true (.t 21) (.c (.int .u64 256))⟩,
              .row ⟨(some 23), none, .move (.t 6)⟩,
              .row ⟨(some 24), none, .conv (.int .u64) (.t 23)⟩,
              .row ⟨(some 25), none, .bin .add 40 false (.t 22) (.t 24)⟩,
              .row ⟨(some 4), none, .move (.t 25)⟩])))
           (.ops [
            .row ⟨(some 26), none, .bin .add 3 true (.t 17) (.c (.int .i64 1))⟩,
            .row ⟨(some 17), none, .move (.t 26)⟩])))))))
     (.seq
      (.ops [
       .row ⟨(some 27), none, .move (.t 4)⟩,
       .row ⟨(some 2), none, .move (.t 27)⟩,
       .row ⟨(some 3), none, .move (.c (.bool true))⟩])
      .ret)))))

theorem comp27 : compF Try.prog 27 = .ok ⟨28, [.tmp 2, .tmp 3], cc27⟩ := by kernel_rfl

/-- slices.Equal[[]int,int], of 2 -/
noncomputable def cc28 : CC :=
 (.seq
  (.ops [
   .row ⟨(some 4), none, .move (.c (.bool false))⟩])
  (.seq
   (.seq
    (.ops [
     .row ⟨(some 6), none, .move (.t 0)⟩,
     .row ⟨(some 7), none, .lenV (.t 6)⟩,
     .row ⟨(some 8), none, .move (.t 1)⟩,
     .row ⟨(some 9), none, .lenV (.t 8)⟩,
     .row ⟨(some 10), none, .bin .neq 3 false (.t 7) (.t 9)⟩])
    (.cond (.t 10)
     (.seq
      (.ops [
       .row ⟨(some 4), none, .move (.c (.bool false))⟩])
      .ret)
     .skip))
   (.seq
    (.seq
     (.ops [
      .row ⟨(some 11), none, .move (.t 0)⟩,
      .row ⟨(some 12), none, .lenV (.t 11)⟩,
      .row ⟨(some 13), none, .move (.c (.int .i64 0))⟩])
     (.block 0
      (.loop
       (.seq
        (.ops [
         .row ⟨(some 14), none, .bin .lss 3 false (.t 13) (.t 12)⟩])
        (.seq
         (.cond (.t 14)
          .skip
          (.exit 0))
         (.seq
          (.block 1
           (.seq
            (.ops [
             .row ⟨(some 15), none, .move (.t 13)⟩,
             .row ⟨(some 5), none, .move (.t 15)⟩])
            (.seq
             (.ops [
              .row ⟨(some 16), none, .move (.t 0)⟩,
              .row ⟨(some 17), none, .move (.t 5)⟩,
              .row ⟨(some 18), none, .idxV 1 (.t 16) (.t 17)⟩,
              .row ⟨(some 19), none, .load1 (.t 18)⟩,
              .row ⟨(some 20), none, .move (.t 1)⟩,
              .row ⟨(some 21), none, .move (.t 5)⟩,
              .row ⟨(some 22), none, .idxV 1 (.t 20) (.t 21)⟩,
              .row ⟨(some 23), none, .load1 (.t 22)⟩,
              .row ⟨(some 24), none, .bin .neq 3 false (.t 19) (.t 23)⟩,
              .stage [⟨(some 23), none, .load1 (.t 22)⟩, ⟨(some 19), none, .load1 (.t 18)⟩]])
             (.cond (.t 24)
              (.seq
               (.ops [
                .row ⟨(some 4), none, .move (.c (.bool false))⟩])
               .ret)
              .skip))))
          (.ops [
           .row ⟨(some 25), none, .bin .add 3 true (.t 13) (.c (.int .i64 1))⟩,
           .row ⟨(some 13), none, .move (.t 25)⟩])))))))
    (.seq
     (.ops [
      .row ⟨(some 4), none, .move (.c (.bool true))⟩])
     .ret))))

theorem comp28 : compF Try.prog 28 = .ok ⟨26, [.tmp 4], cc28⟩ := by kernel_rfl

/-- dryrot/plan.number, of 1 -/
noncomputable def cc29 : CC :=
 (.seq
  (.ops [
   .row ⟨(some 2), none, .move (.c (.bool false))⟩])
  (.seq
   (.ops [
    .row ⟨(some 3), none, .move (.t 0)⟩,
    .row ⟨(some 4), none, .bin .geq 3 true (.t 3) (.c (.int .i64 1))⟩,
    .row ⟨(some 5), none, .move (.t 4)⟩,
    .row ⟨(some 6), (some (5, true)), .move (.t 0)⟩,
    .row ⟨(some 7), (some (5, true)), .bin .leq 3 true (.t 6) (.c (.int .i64 4611686018427387904))⟩,
    .row ⟨(some 8), none, .pick (.t 5) (.t 7) (.c (.bool false))⟩,
    .row ⟨(some 2), none, .move (.t 8)⟩])
   .ret))

theorem comp29 : compF Try.prog 29 = .ok ⟨9, [.tmp 2], cc29⟩ := by kernel_rfl


end Go.Proofs.Ythkoheaklmgonaa
