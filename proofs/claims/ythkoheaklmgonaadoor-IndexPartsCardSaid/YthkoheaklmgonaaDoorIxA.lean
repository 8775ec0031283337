import Derived.Test.YthkoheaklmgonaaDoorRows
import Derived.Test.YthkoheaklmgonaaDoorDrKit
import Derived.Test.YthkoheaklmgonaaDoorDrArg
import Derived.Test.YthkoheaklmgonaaDoorDrClosed
import Derived.Test.YthkoheaklmgonaaDoorIxP
namespace Go.Proofs.YthkoheaklmgonaaDoor
open Go Go.Dr
set_option maxRecDepth 100000

/-- the ranges over functions in a code -/
noncomputable def gos : Code → List (Code × Code)
  | .seq x y => gos x ++ gos y
  | .cond _ x y => gos x ++ gos y
  | .block _ c => gos c
  | .loop c => gos c
  | .scope c => gos c
  | .rangeFunc _ _ a b => [(a, b)]
  | _ => []
noncomputable def gosOf (f : FuncId) : List (Code × Code) := match Tryd.prog.funcs[f]? with
  | some fn => match fn.body with | some c => gos c | none => []
  | none => []
noncomputable def goAssign (f k : Nat) : Code := match (gosOf f)[k]? with | some p => p.1 | none => .skip
noncomputable def goBody (f k : Nat) : Code := match (gosOf f)[k]? with | some p => p.2 | none => .skip

/-- dryrot/dryrotlaw13.IndexParts, of 2 -/
noncomputable def cc5 : CC :=
 (.seq
  (.ops [
   .row ⟨(some 4), none, .move (.c (.bool false))⟩])
  (.seq
   (.ops [
    .row ⟨(some 8), none, .move (.t 0)⟩,
    .row ⟨(some 9), none, .move (.t 0)⟩,
    .row ⟨(some 10), none, .lenV (.t 9)⟩,
    .row ⟨(some 11), none, .mm false (.t 10) [(.c (.int .i64 40))]⟩,
    .row ⟨(some 12), none, .sliceV 1 (.t 8) none (some (.t 11)) none⟩,
    .row ⟨(some 13), none, .move (.t 1)⟩,
    .row ⟨(some 14), none, .move (.t 1)⟩,
    .row ⟨(some 15), none, .lenV (.t 14)⟩,
    .row ⟨(some 16), none, .mm false (.t 15) [(.c (.int .i64 40))]⟩,
    .row ⟨(some 17), none, .sliceV 1 (.t 13) none (some (.t 16)) none⟩,
    .row ⟨(some 0), none, .move (.t 12)⟩,
    .row ⟨(some 1), none, .move (.t 17)⟩])
   (.seq
    (.ops [
     .row ⟨(some 18), none, .move (.t 0)⟩,
     .row ⟨(some 19), none, .move (.t 1)⟩,
     .row ⟨(some 20), none, .callV (.c (.func (.func 17) [] [])) [(.t 18), (.t 19)]⟩,
     .row ⟨(some 21), none, .move (.t 0)⟩,
     .row ⟨(some 22), none, .move (.t 1)⟩,
     .row ⟨(some 23), none, .callV (.c (.func (.func 18) [] [])) [(.t 21), (.t 22)]⟩,
     .row ⟨(some 24), none, .move (.t 1)⟩,
     .row ⟨(some 25), none, .move (.t 0)⟩,
     .row ⟨(some 26), none, .callV (.c (.func (.func 17) [] [])) [(.t 24), (.t 25)]⟩,
     .row ⟨(some 5), none, .move (.t 20)⟩,
     .row ⟨(some 6), none, .move (.t 23)⟩,
     .row ⟨(some 7), none, .move (.t 26)⟩])
    (.seq
     (.ops [
      .row ⟨(some 27), none, .move (.t 5)⟩,
      .row ⟨(some 28), none, .move (.t 6)⟩,
      .row ⟨(some 29), none, .callV (.c (.func (.func 20) [] [])) [(.t 27), (.t 28)]⟩,
      .row ⟨(some 30), none, .move (.t 0)⟩,
      .row ⟨(some 31), none, .callV (.c (.func (.func 20) [] [])) [(.t 30), (.c .nils)]⟩,
      .row ⟨(some 32), none, .callV (.c (.func (.func 19) [] [])) [(.t 29), (.t 31)]⟩,
      .row ⟨(some 33), none, .move (.t 32)⟩,
      .row ⟨(some 34), (some (33, true)), .move (.t 5)⟩,
      .row ⟨(some 35), (some (33, true)), .move (.t 6)⟩,
      .row ⟨(some 36), (some (33, true)), .callV (.c (.func (.func 20) [] [])) [(.t 34), (.t 35)]⟩,
      .row ⟨(some 37), (some (33, true)), .move (.t 7)⟩,
      .row ⟨(some 38), (some (33, true)), .callV (.c (.func (.func 20) [] [])) [(.t 36), (.t 37)]⟩,
      .row ⟨(some 39), (some (33, true)), .move (.t 0)⟩,
      .row ⟨(some 40), (some (33, true)), .move (.t 1)⟩,
      .row ⟨(some 41), (some (33, true)), .callV (.c (.func (.func 20) [] [])) [(.t 39), (.t 40)]⟩,
      .row ⟨(some 42), (some (33, true)), .callV (.c (.func (.func 19) [] [])) [(.t 38), (.t 41)]⟩,
      .row ⟨(some 43), none, .pick (.t 33) (.t 42) (.c (.bool false))⟩,
      .row ⟨(some 44), none, .move (.t 43)⟩,
      .row ⟨(some 45), (some (44, true)), .move (.t 5)⟩,
      .row ⟨(some 46), (some (44, true)), .move (.t 7)⟩,
      .row ⟨(some 47), (some (44, true)), .callV (.c (.func (.func 18) [] [])) [(.t 45), (.t 46)]⟩,
      .row ⟨(some 48), (some (44, true)), .lenV (.t 47)⟩,
      .row ⟨(some 49), (some (44, true)), .bin .eql 3 true (.t 48) (.c (.int .i64 0))⟩,
      .row ⟨(some 50), none, .pick (.t 44) (.t 49) (.c (.bool false))⟩,
      .row ⟨(some 51), none, .move (.t 50)⟩,
      .row ⟨(some 52), (some (51, true)), .move (.t 1)⟩,
      .row ⟨(some 53), (some (51, true)), .move (.t 0)⟩,
      .row ⟨(some 54), (some (51, true)), .callV (.c (.func (.func 18) [] [])) [(.t 52), (.t 53)]⟩,
      .row ⟨(some 55), (some (51, true)), .move (.t 6)⟩,
      .row ⟨(some 56), (some (51, true)), .callV (.c (.func (.func 19) [] [])) [(.t 54), (.t 55)]⟩,
      .row ⟨(some 57), none, .pick (.t 51) (.t 56) (.c (.bool false))⟩,
      .row ⟨(some 58), none, .move (.t 57)⟩,
      .row ⟨(some 59), (some (58, true)), .callV (.c (.func (.func 16) [] [])) []⟩,
      .row ⟨(some 60), none, .pick (.t 58) (.t 59) (.c (.bool false))⟩,
      .row ⟨(some 4), none, .move (.t 60)⟩])
     .ret))))

theorem comp5 : compF Tryd.prog 5 = .ok ⟨61, [.tmp 4], cc5⟩ := by kernel_rfl

/-- dryrot/index.Minus, of 2 -/
noncomputable def cc17 : CC :=
 (.seq
  (.ops [
   .row ⟨(some 3), none, .box (.t 1)⟩,
   .row ⟨(some 4), none, .move (.c .nils)⟩])
  (.seq
   (.ops [
    .row ⟨(some 5), none, .move (.t 0)⟩,
    .row ⟨(some 6), none, .callV (.c (.func (.func 41) [] [])) [(.t 5)]⟩,
    .row ⟨(some 7), none, .mkF 42 [] [(.t 3)]⟩,
    .row ⟨(some 8), none, .callV (.c (.func (.func 40) [] [])) [(.t 6), (.t 7)]⟩,
    .row ⟨(some 4), none, .move (.t 8)⟩])
   .ret))

theorem comp17 : compF Tryd.prog 17 = .ok ⟨9, [.tmp 4], cc17⟩ := by kernel_rfl

/-- dryrot/index.rising, of 1 -/
noncomputable def cc41 : CC :=
 (.seq
  (.ops [
   .row ⟨(some 2), none, .move (.c .nils)⟩])
  (.seq
   (.ops [
    .row ⟨(some 3), none, .move (.t 0)⟩,
    .row ⟨(some 4), none, .callV (.c (.func (.func 69) [] [])) [(.t 3)]⟩,
    .row ⟨(some 5), none, .callV (.c (.func (.func 68) [] [])) [(.t 4)]⟩,
    .row ⟨(some 6), none, .callV (.c (.func (.func 67) [] [])) [(.t 5)]⟩,
    .row ⟨(some 2), none, .move (.t 6)⟩])
   .ret))

theorem comp41 : compF Tryd.prog 41 = .ok ⟨7, [.tmp 2], cc41⟩ := by kernel_rfl

/-- slices.Values[[]int,int], of 1 -/
noncomputable def cc69 : CC :=
 (.seq
  (.ops [
   .row ⟨(some 1), none, .box (.t 0)⟩,
   .row ⟨(some 2), none, .move (.c .nilf)⟩])
  (.seq
   (.ops [
    .row ⟨(some 3), none, .mkF 93 [] [(.t 1)]⟩,
    .row ⟨(some 2), none, .move (.t 3)⟩])
   .ret))

theorem comp69 : compF Tryd.prog 69 = .ok ⟨4, [.tmp 2], cc69⟩ := by kernel_rfl

/-- slices.Values[[]int,int]$1, of 1 -/
noncomputable def cc93 : CC :=
 (.seq
  (.ops [
   .row ⟨(some 5), none, .load1 (.t 1)⟩,
   .row ⟨(some 6), none, .lenV (.t 5)⟩,
   .row ⟨(some 7), none, .move (.c (.int .i64 0))⟩])
  (.block 0
   (.loop
    (.seq
     (.ops [
      .row ⟨(some 8), none, .bin .lss 3 false (.t 7) (.t 6)⟩])
     (.seq
      (.cond (.t 8)
       .skip
       (.exit 0))
      (.seq
       (.block 1
        (.seq
         (.ops [
          .row ⟨(some 9), none, .idxV 1 (.t 5) (.t 7)⟩,
          .row ⟨(some 10), none, .load1 (.t 9)⟩,
          .row ⟨(some 4), none, .move (.t 10)⟩])
         (.seq
          (.ops [
           .row ⟨(some 11), none, .move (.t 0)⟩,
           .row ⟨(some 12), none, .move (.t 4)⟩,
           .row ⟨(some 13), none, .callV (.t 11) [(.t 12)]⟩,
           .row ⟨(some 14), none, .un .not (.t 13)⟩])
          (.cond (.t 14)
           .ret
           .skip))))
       (.ops [
        .row ⟨(some 15), none, .bin .add 3 true (.t 7) (.c (.int .i64 1))⟩,
        .row ⟨(some 7), none, .move (.t 15)⟩])))))))

theorem comp93 : compF Tryd.prog 93 = .ok ⟨16, [], cc93⟩ := by kernel_rfl

/-- slices.Sorted[int], of 1 -/
noncomputable def cc68 : CC :=
 (.seq
  (.ops [
   .row ⟨(some 2), none, .move (.c .nils)⟩])
  (.seq
   (.ops [
    .row ⟨(some 4), none, .move (.t 0)⟩,
    .row ⟨(some 5), none, .callV (.c (.func (.func 91) [] [])) [(.t 4)]⟩,
    .row ⟨(some 3), none, .move (.t 5)⟩])
   (.seq
    (.ops [
     .row ⟨(some 6), none, .move (.t 3)⟩,
     .row ⟨(some 7), none, .callV (.c (.func (.func 92) [] [])) [(.t 6)]⟩])
    (.seq
     (.ops [
      .row ⟨(some 8), none, .move (.t 3)⟩,
      .row ⟨(some 2), none, .move (.t 8)⟩])
     .ret))))

theorem comp68 : compF Tryd.prog 68 = .ok ⟨9, [.tmp 2], cc68⟩ := by kernel_rfl

/-- slices.Collect[int], of 1 -/
noncomputable def cc91 : CC :=
 (.seq
  (.ops [
   .row ⟨(some 2), none, .move (.c .nils)⟩])
  (.seq
   (.ops [
    .row ⟨(some 3), none, .move (.t 0)⟩,
    .row ⟨(some 4), none, .callV (.c (.func (.func 114) [] [])) [(.c .nils), (.t 3)]⟩,
    .row ⟨(some 2), none, .move (.t 4)⟩])
   .ret))

theorem comp91 : compF Tryd.prog 91 = .ok ⟨5, [.tmp 2], cc91⟩ := by kernel_rfl

/-- slices.AppendSeq[[]int,int], of 2 -/
noncomputable def cc114 : CC :=
 (.seq
  (.ops [
   .row ⟨(some 2), none, .box (.t 0)⟩,
   .row ⟨(some 4), none, .move (.c .nils)⟩])
  (.seq
   (.seq
    (.ops [
     .row ⟨(some 6), none, .move (.t 1)⟩])
    (.block 0
     (.go 13 (.t 6) #[7] (goAssign 114 0) (goBody 114 0))))
   (.seq
    (.ops [
     .row ⟨(some 12), none, .load1 (.t 2)⟩,
     .row ⟨(some 4), none, .move (.t 12)⟩])
    .ret)))

theorem comp114 : compF Tryd.prog 114 = .ok ⟨13, [.tmp 4], cc114⟩ := by kernel_rfl

noncomputable def goAssignC114_0 : CC :=
 (.ops [
  .row ⟨(some 5), none, .move (.t 7)⟩])

theorem goAssignComp114_0 : compC Tryd.prog 13 true (goAssign 114 0) = .ok goAssignC114_0 := by kernel_rfl

noncomputable def goBodyC114_0 : CC :=
 (.block 1
  (.ops [
   .row ⟨(some 8), none, .load1 (.t 2)⟩,
   .row ⟨(some 9), none, .move (.t 5)⟩,
   .row ⟨(some 10), none, .buildSlice 1 1 [(.int .i64 0)] [(0, 1, (.t 9))]⟩,
   .row ⟨(some 11), none, .app 1 8 (.t 8) (.t 10)⟩,
   .row ⟨none, none, .store 1 (.t 2) (.t 11)⟩]))

theorem goBodyComp114_0 : compC Tryd.prog 13 true (goBody 114 0) = .ok goBodyC114_0 := by kernel_rfl

/-- slices.Compact[[]int,int], of 1 -/
noncomputable def cc67 : CC :=
 (.seq
  (.ops [
   .row ⟨(some 2), none, .move (.c .nils)⟩])
  (.seq
   (.seq
    (.ops [
     .row ⟨(some 6), none, .move (.t 0)⟩,
     .row ⟨(some 7), none, .lenV (.t 6)⟩,
     .row ⟨(some 8), none, .bin .lss 3 true (.t 7) (.c (.int .i64 2))⟩])
    (.cond (.t 8)
     (.seq
      (.ops [
       .row ⟨(some 9), none, .move (.t 0)⟩,
       .row ⟨(some 2), none, .move (.t 9)⟩])
      .ret)
     .skip))
   (.seq
    (.seq
     (.ops [
      .row ⟨(some 3), none, .move (.c (.int .i64 1))⟩])
     (.block 0
      (.loop
       (.seq
        (.seq
         (.ops [
          .row ⟨(some 10), none, .move (.t 3)⟩,
          .row ⟨(some 11), none, .move (.t 0)⟩,
          .row ⟨(some 12), none, .lenV (.t 11)⟩,
          .row ⟨(some 13), none, .bin .lss 3 false (.t 10) (.t 12)⟩])
         (.cond (.t 13)
          .skip
          (.exit 0)))
        (.seq
         (.block 1
          (.seq
           (.ops [
            .row ⟨(some 16), none, .move (.t 0)⟩,
            .row ⟨(some 17), none, .move (.t 3)⟩,
            .row ⟨(some 18), none, .idxV 1 (.t 16) (.t 17)⟩,
            .row ⟨(some 19), none, .load1 (.t 18)⟩,
            .row ⟨(some 20), none, .move (.t 0)⟩,
            .row ⟨(some 21), none, .move (.t 3)⟩,
            .row ⟨(some 22), none, .bin .sub 3 true (.t 21) (.c (.int .i64 1))⟩,
            .row ⟨(some 23), none, .idxV 1 (.t 20) (.t 22)⟩,
            .row ⟨(some 24), none, .load1 (.t 23)⟩,
            .row ⟨(some 25), none, .bin .eql 3 false (.t 19) (.t 24)⟩,
            .stage [⟨(some 24), none, .load1 (.t 23)⟩, ⟨(some 19), none, .load1 (.t 18)⟩]])
           (.cond (.t 25)
            (.seq
             (.ops [
              .row ⟨(some 26), none, .move (.t 0)⟩,
              .row ⟨(some 27), none, .move (.t 3)⟩,
              .row ⟨(some 28), none, .sliceV 1 (.t 26) (some (.t 27)) none none⟩,
              .row ⟨(some 4), none, .move (.t 28)⟩])
             (.seq
              (.seq
               (.ops [
                .row ⟨(some 5), none, .move (.c (.int .i64 1))⟩])
               (.block 2
                (.loop
                 (.seq
                  (.seq
                   (.ops [
                    .row ⟨(some 29), none, .move (.t 5)⟩,
                    .row ⟨(some 30), none, .move (.t 4)⟩,
                    .row ⟨(some 31), none, .lenV (.t 30)⟩,
                    .row ⟨(some 32), none, .bin .lss 3 false (.t 29) (.t 31)⟩])
                   (.cond (.t 32)
                    .skip
                    (.exit 2)))
                  (.seq
                   (.block 3
                    (.seq
                     (.ops [
                      .row ⟨(some 35), none, .move (.t 4)⟩,
                      .row ⟨(some 36), none, .move (.t 5)⟩,
                      .row ⟨(some 37), none, .idxV 1 (.t 35) (.t 36)⟩,
                      .row ⟨(some 38), none, .load1 (.t 37)⟩,
                      .row ⟨(some 39), none, .move (.t 4)⟩,
                      .row ⟨(some 40), none, .move (.t 5)⟩,
                      .row ⟨(some 41), none, .bin .sub 3 true (.t 40) (.c (.int .i64 1))⟩,
                      .row ⟨(some 42), none, .idxV 1 (.t 39) (.t 41)⟩,
                      .row ⟨(some 43), none, .load1 (.t 42)⟩,
                      .row ⟨(some 44), none, .bin .neq 3 false (.t 38) (.t 43)⟩,
                      .stage [⟨(some 43), none, .load1 (.t 42)⟩, ⟨(some 38), none, .load1 (.t 37)⟩]])
                     (.cond (.t 44)
                      (.seq
                       (.ops [
                        .row ⟨(some 45), none, .move (.t 0)⟩,
                        .row ⟨(some 46), none, .move (.t 3)⟩,
                        .row ⟨(some 47), none, .move (.t 4)⟩,
                        .row ⟨(some 48), none, .move (.t 5)⟩,
                        .row ⟨(some 49), none, .idxV 1 (.t 47) (.t 48)⟩,
                        .row ⟨(some 50), none, .load1 (.t 49)⟩,
                        .row ⟨(some 51), none, .idxV 1 (.t 45) (.t 46)⟩,
                        .row ⟨none, none, .store 1 (.t 51) (.t 50)⟩])
                       (.ops [
                        .row ⟨(some 52), none, .move (.t 3)⟩,
                        .row ⟨(some 53), none, .bin .add 3 true (.t 52) (.c (.int .i64 1))⟩,
                        .row ⟨(some 3), none, .move (.t 53)⟩]))
                      .skip)))
                   (.ops [
                    .row ⟨(some 33), none, .move (.t 5)⟩,
                    .row ⟨(some 34), none, .bin .add 3 true (.t 33) (.c (.int .i64 1))⟩,
                    .row ⟨(some 5), none, .move (.t 34)⟩]))))))
              (.seq
               (.ops [
                .row ⟨(some 54), none, .move (.t 0)⟩,
                .row ⟨(some 55), none, .move (.t 3)⟩,
                .row ⟨(some 56), none, .sliceV 1 (.t 54) (some (.t 55)) none none⟩,
                .row ⟨none, none, .clear 1 [(.int .i64 0)] (.t 56)⟩])
               (.seq
                (.ops [
                 .row ⟨(some 57), none, .move (.t 0)⟩,
                 .row ⟨(some 58), none, .move (.t 3)⟩,
                 .row ⟨(some 59), none, .sliceV 1 (.t 57) none (some (.t 58)) none⟩,
                 .row ⟨(some 2), none, .move (.t 59)⟩])
                .ret))))
            .skip)))
         (.ops [
          .row ⟨(some 14), none, .move (.t 3)⟩,
          .row ⟨(some 15), none, .bin .add 3 true (.t 14) (.c (.int .i64 1))⟩,
          .row ⟨(some 3), none, .move (.t 15)⟩]))))))
    (.seq
     (.ops [
      .row ⟨(some 60), none, .move (.t 0)⟩,
      .row ⟨(some 2), none, .move (.t 60)⟩])
     .ret))))

theorem comp67 : compF Tryd.prog 67 = .ok ⟨61, [.tmp 2], cc67⟩ := by kernel_rfl

/-- dryrot/index.Minus$1, of 1 -/
noncomputable def cc42 : CC :=
 (.seq
  (.ops [
   .row ⟨(some 3), none, .move (.c (.bool false))⟩])
  (.seq
   (.ops [
    .row ⟨(some 4), none, .load1 (.t 1)⟩,
    .row ⟨(some 5), none, .move (.t 0)⟩,
    .row ⟨(some 6), none, .callV (.c (.func (.func 43) [] [])) [(.t 4), (.t 5)]⟩,
    .row ⟨(some 3), none, .move (.t 6)⟩])
   .ret))

theorem comp42 : compF Tryd.prog 42 = .ok ⟨7, [.tmp 3], cc42⟩ := by kernel_rfl

/-- slices.Contains[[]int,int], of 2 -/
noncomputable def cc43 : CC :=
 (.seq
  (.ops [
   .row ⟨(some 4), none, .move (.c (.bool false))⟩])
  (.seq
   (.ops [
    .row ⟨(some 5), none, .move (.t 0)⟩,
    .row ⟨(some 6), none, .move (.t 1)⟩,
    .row ⟨(some 7), none, .callV (.c (.func (.func 70) [] [])) [(.t 5), (.t 6)]⟩,
    .row ⟨(some 8), none, .bin .geq 3 true (.t 7) (.c (.int .i64 0))⟩,
    .row ⟨(some 4), none, .move (.t 8)⟩])
   .ret))

theorem comp43 : compF Tryd.prog 43 = .ok ⟨9, [.tmp 4], cc43⟩ := by kernel_rfl

/-- slices.Index[[]int,int], of 2 -/
noncomputable def cc70 : CC :=
 (.seq
  (.ops [
   .row ⟨(some 4), none, .move (.c (.int .i64 0))⟩])
  (.seq
   (.seq
    (.ops [
     .row ⟨(some 6), none, .move (.t 0)⟩,
     .row ⟨(some 7), none, .lenV (.t 6)⟩,
     .row ⟨(some 8), none, .move (.c (.int .i64 0))⟩])
    (.block 0
     (.loop
      (.seq
       (.ops [
        .row ⟨(some 9), none, .bin .lss 3 false (.t 8) (.t 7)⟩])
       (.seq
        (.cond (.t 9)
         .skip
         (.exit 0))
        (.seq
         (.block 1
          (.seq
           (.ops [
            .row ⟨(some 10), none, .move (.t 8)⟩,
            .row ⟨(some 5), none, .move (.t 10)⟩])
           (.seq
            (.ops [
             .row ⟨(some 11), none, .move (.t 1)⟩,
             .row ⟨(some 12), none, .move (.t 0)⟩,
             .row ⟨(some 13), none, .move (.t 5)⟩,
             .row ⟨(some 14), none, .idxV 1 (.t 12) (.t 13)⟩,
             .row ⟨(some 15), none, .load1 (.t 14)⟩,
             .row ⟨(some 16), none, .bin .eql 3 false (.t 11) (.t 15)⟩])
            (.cond (.t 16)
             (.seq
              (.ops [
               .row ⟨(some 17), none, .move (.t 5)⟩,
               .row ⟨(some 4), none, .move (.t 17)⟩])
              .ret)
             .skip))))
         (.ops [
          .row ⟨(some 18), none, .bin .add 3 true (.t 8) (.c (.int .i64 1))⟩,
          .row ⟨(some 8), none, .move (.t 18)⟩])))))))
   (.seq
    (.ops [
     .row ⟨(some 4), none, .move (.c (.int .i64 (-1)))⟩])
    .ret)))

theorem comp70 : compF Tryd.prog 70 = .ok ⟨19, [.tmp 4], cc70⟩ := by kernel_rfl

/-- slices.DeleteFunc[[]int,int], of 2 -/
noncomputable def cc40 : CC :=
 (.seq
  (.ops [
   .row ⟨(some 4), none, .move (.c .nils)⟩])
  (.seq
   (.ops [
    .row ⟨(some 8), none, .move (.t 0)⟩,
    .row ⟨(some 9), none, .move (.t 1)⟩,
    .row ⟨(some 10), none, .callV (.c (.func (.func 66) [] [])) [(.t 8), (.t 9)]⟩,
    .row ⟨(some 5), none, .move (.t 10)⟩])
   (.seq
    (.seq
     (.ops [
      .row ⟨(some 11), none, .move (.t 5)⟩,
      .row ⟨(some 12), none, .bin .eql 3 true (.t 11) (.c (.int .i64 (-1)))⟩])
     (.cond (.t 12)
      (.seq
       (.ops [
        .row ⟨(some 13), none, .move (.t 0)⟩,
        .row ⟨(some 4), none, .move (.t 13)⟩])
       .ret)
      .skip))
    (.seq
     (.seq
      (.ops [
       .row ⟨(some 14), none, .move (.t 5)⟩,
       .row ⟨(some 15), none, .bin .add 3 true (.t 14) (.c (.int .i64 1))⟩,
       .row ⟨(some 6), none, .move (.t 15)⟩])
      (.block 0
       (.loop
        (.seq
         (.seq
          (.ops [
           .row ⟨(some 16), none, .move (.t 6)⟩,
           .row ⟨(some 17), none, .move (.t 0)⟩,
           .row ⟨(some 18), none, .lenV (.t 17)⟩,
           .row ⟨(some 19), none, .bin .lss 3 false (.t 16) (.t 18)⟩])
          (.cond (.t 19)
           .skip
           (.exit 0)))
         (.seq
          (.block 1
           (.seq
            (.ops [
             .row ⟨(some 22), none, .move (.t 0)⟩,
             .row ⟨(some 23), none, .move (.t 6)⟩,
             .row ⟨(some 24), none, .idxV 1 (.t 22) (.t 23)⟩,
             .row ⟨(some 25), none, .load1 (.t 24)⟩,
             .row ⟨(some 7), none, .move (.t 25)⟩])
            (.seq
             (.ops [
              .row ⟨(some 26), none, .move (.t 1)⟩,
              .row ⟨(some 27), none, .move (.t 7)⟩,
              .row ⟨(some 28), none, .callV (.t 26) [(.t 27)]⟩,
              .row ⟨(some 29), none, .un .not (.t 28)⟩])
             (.cond (.t 29)
              (.seq
               (.ops [
                .row ⟨(some 30), none, .move (.t 0)⟩,
                .row ⟨(some 31), none, .move (.t 5)⟩,
                .row ⟨(some 32), none, .move (.t 7)⟩,
                .row ⟨(some 33), none, .idxV 1 (.t 30) (.t 31)⟩,
                .row ⟨none, none, .store 1 (.t 33) (.t 32)⟩])
               (.ops [
                .row ⟨(some 34), none, .move (.t 5)⟩,
                .row ⟨(some 35), none, .bin .add 3 true (.t 34) (.c (.int .i64 1))⟩,
                .row ⟨(some 5), none, .move (.t 35)⟩]))
              .skip))))
          (.ops [
           .row ⟨(some 20), none, .move (.t 6)⟩,
           .row ⟨(some 21), none, .bin .add 3 true (.t 20) (.c (.int .i64 1))⟩,
           .row ⟨(some 6), none, .move (.t 21)⟩]))))))
     (.seq
      (.ops [
       .row ⟨(some 36), none, .move (.t 0)⟩,
       .row ⟨(some 37), none, .move (.t 5)⟩,
       .row ⟨(some 38), none, .sliceV 1 (.t 36) (some (.t 37)) none none⟩,
       .row ⟨none, none, .clear 1 [(.int .i64 0)] (.t 38)⟩])
      (.seq
       (.ops [
        .row ⟨(some 39), none, .move (.t 0)⟩,
        .row ⟨(some 40), none, .move (.t 5)⟩,
        .row ⟨(some 41), none, .sliceV 1 (.t 39) none (some (.t 40)) none⟩,
        .row ⟨(some 4), none, .move (.t 41)⟩])
       .ret))))))

theorem comp40 : compF Tryd.prog 40 = .ok ⟨42, [.tmp 4], cc40⟩ := by kernel_rfl

/-- slices.IndexFunc[[]int,int], of 2 -/
noncomputable def cc66 : CC :=
 (.seq
  (.ops [
   .row ⟨(some 4), none, .move (.c (.int .i64 0))⟩])
  (.seq
   (.seq
    (.ops [
     .row ⟨(some 6), none, .move (.t 0)⟩,
     .row ⟨(some 7), none, .lenV (.t 6)⟩,
     .row ⟨(some 8), none, .move (.c (.int .i64 0))⟩])
    (.block 0
     (.loop
      (.seq
       (.ops [
        .row ⟨(some 9), none, .bin .lss 3 false (.t 8) (.t 7)⟩])
       (.seq
        (.cond (.t 9)
         .skip
         (.exit 0))
        (.seq
         (.block 1
          (.seq
           (.ops [
            .row ⟨(some 10), none, .move (.t 8)⟩,
            .row ⟨(some 5), none, .move (.t 10)⟩])
           (.seq
            (.ops [
             .row ⟨(some 11), none, .move (.t 1)⟩,
             .row ⟨(some 12), none, .move (.t 0)⟩,
             .row ⟨(some 13), none, .move (.t 5)⟩,
             .row ⟨(some 14), none, .idxV 1 (.t 12) (.t 13)⟩,
             .row ⟨(some 15), none, .load1 (.t 14)⟩,
             .row ⟨(some 16), none, .callV (.t 11) [(.t 15)]⟩])
            (.cond (.t 16)
             (.seq
              (.ops [
               .row ⟨(some 17), none, .move (.t 5)⟩,
               .row ⟨(some 4), none, .move (.t 17)⟩])
              .ret)
             .skip))))
         (.ops [
          .row ⟨(some 18), none, .bin .add 3 true (.t 8) (.c (.int .i64 1))⟩,
          .row ⟨(some 8), none, .move (.t 18)⟩])))))))
   (.seq
    (.ops [
     .row ⟨(some 4), none, .move (.c (.int .i64 (-1)))⟩])
    .ret)))

theorem comp66 : compF Tryd.prog 66 = .ok ⟨19, [.tmp 4], cc66⟩ := by kernel_rfl

/-- dryrot/index.Meet, of 2 -/
noncomputable def cc18 : CC :=
 (.seq
  (.ops [
   .row ⟨(some 3), none, .box (.t 1)⟩,
   .row ⟨(some 4), none, .move (.c .nils)⟩])
  (.seq
   (.ops [
    .row ⟨(some 5), none, .move (.t 0)⟩,
    .row ⟨(some 6), none, .callV (.c (.func (.func 41) [] [])) [(.t 5)]⟩,
    .row ⟨(some 7), none, .mkF 44 [] [(.t 3)]⟩,
    .row ⟨(some 8), none, .callV (.c (.func (.func 40) [] [])) [(.t 6), (.t 7)]⟩,
    .row ⟨(some 4), none, .move (.t 8)⟩])
   .ret))

theorem comp18 : compF Tryd.prog 18 = .ok ⟨9, [.tmp 4], cc18⟩ := by kernel_rfl

/-- dryrot/index.Meet$1, of 1 -/
noncomputable def cc44 : CC :=
 (.seq
  (.ops [
   .row ⟨(some 3), none, .move (.c (.bool false))⟩])
  (.seq
   (.ops [
    .row ⟨(some 4), none, .load1 (.t 1)⟩,
    .row ⟨(some 5), none, .move (.t 0)⟩,
    .row ⟨(some 6), none, .callV (.c (.func (.func 43) [] [])) [(.t 4), (.t 5)]⟩,
    .row ⟨(some 7), none, .un .not (.t 6)⟩,
    .row ⟨(some 3), none, .move (.t 7)⟩])
   .ret))

theorem comp44 : compF Tryd.prog 44 = .ok ⟨8, [.tmp 3], cc44⟩ := by kernel_rfl

/-- dryrot/index.Union, of 2 -/
noncomputable def cc20 : CC :=
 (.seq
  (.ops [
   .row ⟨(some 4), none, .move (.c .nils)⟩])
  (.seq
   (.ops [
    .row ⟨(some 5), none, .move (.t 0)⟩,
    .row ⟨(some 6), none, .move (.t 1)⟩,
    .row ⟨(some 7), none, .buildSlice 2 1 [.nils, .nils] [(0, 1, (.t 5)), (1, 1, (.t 6))]⟩,
    .row ⟨(some 8), none, .callV (.c (.func (.func 45) [] [])) [(.t 7)]⟩,
    .row ⟨(some 9), none, .callV (.c (.func (.func 41) [] [])) [(.t 8)]⟩,
    .row ⟨(some 4), none, .move (.t 9)⟩])
   .ret))

theorem comp20 : compF Tryd.prog 20 = .ok ⟨10, [.tmp 4], cc20⟩ := by kernel_rfl

/-- slices.Concat[[]int,int], of 1 -/
noncomputable def cc45 : CC :=
 (.seq
  (.ops [
   .row ⟨(some 2), none, .move (.c .nils)⟩])
  (.seq
   (.ops [
    .row ⟨(some 3), none, .move (.c (.int .i64 0))⟩])
   (.seq
    (.seq
     (.ops [
      .row ⟨(some 9), none, .move (.t 0)⟩,
      .row ⟨(some 10), none, .lenV (.t 9)⟩,
      .row ⟨(some 11), none, .move (.c (.int .i64 0))⟩])
     (.block 0
      (.loop
       (.seq
        (.ops [
         .row ⟨(some 12), none, .bin .lss 3 false (.t 11) (.t 10)⟩])
        (.seq
         (.cond (.t 12)
          .skip
          (.exit 0))
         (.seq
          (.block 1
           (.seq
            (.ops [
             .row ⟨(some 13), none, .idxV 1 (.t 9) (.t 11)⟩,
             .row ⟨(some 14), none, .load1 (.t 13)⟩,
             .row ⟨(some 5), none, .move (.t 14)⟩])
            (.seq
             (.ops [
              .row ⟨(some 15), none, .move (.t 3)⟩,
              .row ⟨(some 16), none, .move (.t 5)⟩,
              .row ⟨(some 17), none, .lenV (.t 16)⟩,
              .row ⟨(some 18), none, .bin .add 3 false (.t 15) (.t 17)⟩,
              .row ⟨(some 3), none, .move (.t 18)⟩])
             (.seq
              (.ops [
               .row ⟨(some 19), none, .move (.t 3)⟩,
               .row ⟨(some 20), none, .bin .lss 3 true (.t 19) (.c (.int .i64 0))⟩])
              (.cond (.t 20)
               (.ops [
                .row ⟨(some 21), none, .mkI 9 (.c (.str [108, 101, 110, 32, 111, 117, 116, 32, 111, 102, 32, 114, 97, 110, 103, 101]))⟩,
                .row ⟨none, none, .extract (.c .nilp) 0⟩])
               .skip)))))
          (.ops [
           .row ⟨(some 22), none, .bin .add 3 true (.t 11) (.c (.int .i64 1))⟩,
           .row ⟨(some 11), none, .move (.t 22)⟩])))))))
    (.seq
     (.ops [
      .row ⟨(some 23), none, .move (.t 3)⟩,
      .row ⟨(some 24), none, .callV (.c (.func (.func 71) [] [])) [(.c .nils), (.t 23)]⟩,
      .row ⟨(some 6), none, .move (.t 24)⟩])
     (.seq
      (.seq
       (.ops [
        .row ⟨(some 25), none, .move (.t 0)⟩,
        .row ⟨(some 26), none, .lenV (.t 25)⟩,
        .row ⟨(some 27), none, .move (.c (.int .i64 0))⟩])
       (.block 2
        (.loop
         (.seq
          (.ops [
           .row ⟨(some 28), none, .bin .lss 3 false (.t 27) (.t 26)⟩])
          (.seq
           (.cond (.t 28)
            .skip
            (.exit 2))
           (.seq
            (.block 3
             (.seq
              (.ops [
               .row ⟨(some 29), none, .idxV 1 (.t 25) (.t 27)⟩,
               .row ⟨(some 30), none, .load1 (.t 29)⟩,
               .row ⟨(some 8), none, .move (.t 30)⟩])
              (.ops [
               .row ⟨(some 31), none, .move (.t 6)⟩,
               .row ⟨(some 32), none, .move (.t 8)⟩,
               .row ⟨(some 33), none, .app 1 8 (.t 31) (.t 32)⟩,
               .row ⟨(some 6), none, .move (.t 33)⟩])))
            (.ops [
             .row ⟨(some 34), none, .bin .add 3 true (.t 27) (.c (.int .i64 1))⟩,
             .row ⟨(some 27), none, .move (.t 34)⟩])))))))
      (.seq
       (.ops [
        .row ⟨(some 35), none, .move (.t 6)⟩,
        .row ⟨(some 2), none, .move (.t 35)⟩])
       .ret))))))

theorem comp45 : compF Tryd.prog 45 = .ok ⟨36, [.tmp 2], cc45⟩ := by kernel_rfl

/-- slices.Grow[[]int,int], of 2 -/
noncomputable def cc71 : CC :=
 (.seq
  (.ops [
   .row ⟨(some 4), none, .move (.c .nils)⟩])
  (.seq
   (.seq
    (.ops [
     .row ⟨(some 5), none, .move (.t 1)⟩,
     .row ⟨(some 6), none, .bin .lss 3 true (.t 5) (.c (.int .i64 0))⟩])
    (.cond (.t 6)
     (.ops [
      .row ⟨(some 7), none, .mkI 9 (.c (.str [99, 97, 110, 110, 111, 116, 32, 98, 101, 32, 110, 101, 103, 97, 116, 105, 118, 101]))⟩,
      .row ⟨none, none, .extract (.c .nilp) 0⟩])
     .skip))
   (.seq
    (.seq
     (.ops [
      .row ⟨(some 8), none, .move (.t 1)⟩,
      .row ⟨(some 9), none, .move (.t 0)⟩,
      .row ⟨(some 10), none, .capV (.t 9)⟩,
      .row ⟨(some 11), none, .move (.t 0)⟩,
      .row ⟨(some 12), none, .lenV (.t 11)⟩,
      .row ⟨(some 13), none, .bin .sub 3 false (.t 10) (.t 12)⟩,
      .row ⟨(some 14), none, .bin .sub 3 false (.t 8) (.t 13)⟩,
      .row ⟨(some 1), none, .move (.t 14)⟩])
     (.seq
      (.ops [
       .row ⟨(some 15), none, .move (.t 1)⟩,
       .row ⟨(some 16), none, .bin .gtr 3 true (.t 15) (.c (.int .i64 0))⟩])
      (.cond (.t 16)
       (.ops [
        .row ⟨(some 17), none, .move (.t 0)⟩,
        .row ⟨(some 18), none, .move (.t 0)⟩,
        .row ⟨(some 19), none, .capV (.t 18)⟩,
        .row ⟨(some 20), none, .sliceV 1 (.t 17) none (some (.t 19)) none⟩,
        .row ⟨(some 21), none, .move (.t 1)⟩,
        .row ⟨(some 22), none, .appZ 1 8 [(.int .i64 0)] (.t 20) (.t 21)⟩,
        .row ⟨(some 23), none, .move (.t 0)⟩,
        .row ⟨(some 24), none, .lenV (.t 23)⟩,
        .row ⟨(some 25), none, .sliceV 1 (.t 22) none (some (.t 24)) none⟩,
        .row ⟨(some 0), none, .move (.t 25)⟩])
       .skip)))
    (.seq
     (.ops [
      .row ⟨(some 26), none, .move (.t 0)⟩,
      .row ⟨(some 4), none, .move (.t 26)⟩])
     .ret))))

theorem comp71 : compF Tryd.prog 71 = .ok ⟨27, [.tmp 4], cc71⟩ := by kernel_rfl

/-- slices.Equal[[]int,int], of 2 -/
noncomputable def cc19 : CC :=
 (.seq
  (.ops [
   .row ⟨(some 4), none, .move (.c (.bool false))⟩])
  (.seq
   (.seq
    (.ops [
     .row ⟨(some 6), none, .move (.t 0)⟩,
     .row ⟨(some 7), none, .lenV (.t 6)⟩,
     .row ⟨(some 8), none, .move (.t 1)⟩,
     .row ⟨(some 9), none, .lenV (.t 8)⟩,
     .row ⟨(some 10), none, .bin .neq 3 false (.t 7) (.t 9)⟩])
    (.cond (.t 10)
     (.seq
      (.ops [
       .row ⟨(some 4), none, .move (.c (.bool false))⟩])
      .ret)
     .skip))
   (.seq
    (.seq
     (.ops [
      .row ⟨(some 11), none, .move (.t 0)⟩,
      .row ⟨(some 12), none, .lenV (.t 11)⟩,
      .row ⟨(some 13), none, .move (.c (.int .i64 0))⟩])
     (.block 0
      (.loop
       (.seq
        (.ops [
         .row ⟨(some 14), none, .bin .lss 3 false (.t 13) (.t 12)⟩])
        (.seq
         (.cond (.t 14)
          .skip
          (.exit 0))
         (.seq
          (.block 1
           (.seq
            (.ops [
             .row ⟨(some 15), none, .move (.t 13)⟩,
             .row ⟨(some 5), none, .move (.t 15)⟩])
            (.seq
             (.ops [
              .row ⟨(some 16), none, .move (.t 0)⟩,
              .row ⟨(some 17), none, .move (.t 5)⟩,
              .row ⟨(some 18), none, .idxV 1 (.t 16) (.t 17)⟩,
              .row ⟨(some 19), none, .load1 (.t 18)⟩,
              .row ⟨(some 20), none, .move (.t 1)⟩,
              .row ⟨(some 21), none, .move (.t 5)⟩,
              .row ⟨(some 22), none, .idxV 1 (.t 20) (.t 21)⟩,
              .row ⟨(some 23), none, .load1 (.t 22)⟩,
              .row ⟨(some 24), none, .bin .neq 3 false (.t 19) (.t 23)⟩,
              .stage [⟨(some 23), none, .load1 (.t 22)⟩, ⟨(some 19), none, .load1 (.t 18)⟩]])
             (.cond (.t 24)
              (.seq
               (.ops [
                .row ⟨(some 4), none, .move (.c (.bool false))⟩])
               .ret)
              .skip))))
          (.ops [
           .row ⟨(some 25), none, .bin .add 3 true (.t 13) (.c (.int .i64 1))⟩,
           .row ⟨(some 13), none, .move (.t 25)⟩])))))))
    (.seq
     (.ops [
      .row ⟨(some 4), none, .move (.c (.bool true))⟩])
     .ret))))

theorem comp19 : compF Tryd.prog 19 = .ok ⟨26, [.tmp 4], cc19⟩ := by kernel_rfl


end Go.Proofs.YthkoheaklmgonaaDoor
