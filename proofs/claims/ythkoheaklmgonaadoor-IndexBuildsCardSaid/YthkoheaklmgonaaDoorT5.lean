/-
  Texts joined: BxC2, BxS, DrTy, DrStr, DrBits, BxCodec1, DrOwn, BxCodec2, BxCodec3, BxCodec4, BxCodec5, BxCodec6, BxLabels1, BxLabels2, BxLabels3.
-/
import Derived.Test.YthkoheaklmgonaaDoorT4
import Derived.Test.YthkoheaklmgonaaDoorT3
import Derived.Lib.TrailingZeros
import Derived.Lib.BitFns

namespace Go.Dk
open Go Go.Dr
set_option maxRecDepth 100000

-- reached: 77
/-- (*dryrot/chunk.Cursor).Err, of 1 -/
noncomputable def c_chunk_Cursor_Err : CC :=
 (.seq
  (.ops [
   .row ⟨(some 2), none, .move (.c (.int .i64 0))⟩])
  (.seq
   (.block 0
    (.seq
     (.ops [
      .row ⟨(some 4), none, .move (.t 0)⟩,
      .row ⟨(some 5), none, .bin .eql t_p_chunk_Cursor true (.t 4) (.c .nilp)⟩,
      .row ⟨(some 6), none, .move (.t 5)⟩,
      .row ⟨(some 7), (some (6, false)), .move (.t 0)⟩,
      .row ⟨(some 8), (some (6, false)), .nilCheck (.t 7)⟩,
      .row ⟨(some 9), (some (6, false)), .fieldAddr 0 (.t 8)⟩,
      .row ⟨(some 10), (some (6, false)), .load1 (.t 9)⟩,
      .row ⟨(some 11), (some (6, false)), .un .not (.t 10)⟩,
      .row ⟨(some 12), none, .pick (.t 6) (.c (.bool true)) (.t 11)⟩,
      .row ⟨(some 3), none, .move (.t 12)⟩])
     (.cond (.t 3)
      (.seq
       (.ops [
        .row ⟨(some 2), none, .move (.c (.int .i64 2))⟩])
       .ret)
      (.seq
       (.ops [
        .row ⟨(some 14), none, .move (.t 0)⟩,
        .row ⟨(some 15), none, .nilCheck (.t 14)⟩,
        .row ⟨(some 16), none, .fieldAddr 3 (.t 15)⟩,
        .row ⟨(some 17), none, .load1 (.t 16)⟩,
        .row ⟨(some 13), none, .move (.t 17)⟩])
       (.cond (.t 13)
        (.seq
         (.ops [
          .row ⟨(some 2), none, .move (.c (.int .i64 5))⟩])
         .ret)
        .skip)))))
   (.seq
    (.ops [
     .row ⟨(some 2), none, .move (.c (.int .i64 0))⟩])
    .ret)))

theorem k_chunk_Cursor_Err : compF P f_chunk_Cursor_Err = .ok ⟨18, [.tmp 2], c_chunk_Cursor_Err⟩ := by kernel_rfl

/-- dryrot/index.Can, of 1 -/
noncomputable def c_index_Can : CC :=
 (.seq
  (.ops [
   .row ⟨(some 2), none, .move (.c (.bool false))⟩])
  (.seq
   (.ops [
    .row ⟨(some 3), none, .move (.c (.int .i64 0))⟩])
   (.seq
    (.seq
     (.ops [
      .row ⟨(some 8), none, .move (.t 0)⟩,
      .row ⟨(some 9), none, .lenV (.t 8)⟩,
      .row ⟨(some 10), none, .move (.c (.int .i64 0))⟩])
     (.block 0
      (.loop
       (.seq
        (.ops [
         .row ⟨(some 11), none, .bin .lss t_int false (.t 10) (.t 9)⟩])
        (.seq
         (.cond (.t 11)
          .skip
          (.exit 0))
         (.seq
          (.block 1
           (.seq
            (.ops [
             .row ⟨(some 12), none, .move (.t 10)⟩,
             .row ⟨(some 13), none, .idxV 5 (.t 8) (.t 10)⟩,
             .row ⟨(some 14), none, .loadN 5 (.t 13)⟩,
             .row ⟨(some 5), none, .new [.nils, (.int .i64 0), (.int .i64 0), (.int .i64 0), (.int .i64 0)]⟩,
             .row ⟨(some 4), none, .move (.t 12)⟩,
             .row ⟨none, none, .store 5 (.t 5) (.t 14)⟩])
            (.seq
             (.seq
              (.ops [
               .row ⟨(some 15), none, .fieldAddr 0 (.t 5)⟩,
               .row ⟨(some 16), none, .load1 (.t 15)⟩,
               .row ⟨(some 17), none, .callV (.c (.func (.func f_labels_Can) [] [])) [(.t 16)]⟩,
               .row ⟨(some 18), none, .un .not (.t 17)⟩,
               .row ⟨(some 19), none, .move (.t 18)⟩,
               .row ⟨(some 20), (some (19, false)), .fieldAddr 3 (.t 5)⟩,
               .row ⟨(some 21), (some (19, false)), .load1 (.t 20)⟩,
               .row ⟨(some 22), (some (19, false)), .fieldAddr 4 (.t 5)⟩,
               .row ⟨(some 23), (some (19, false)), .load1 (.t 22)⟩,
               .row ⟨(some 24), (some (19, false)), .bin .gtr t_int false (.t 21) (.t 23)⟩,
               .row ⟨(some 25), none, .pick (.t 19) (.c (.bool true)) (.t 24)⟩,
               .row ⟨(some 26), none, .move (.t 25)⟩,
               .row ⟨(some 27), (some (26, false)), .fieldAddr 2 (.t 5)⟩,
               .row ⟨(some 28), (some (26, false)), .load1 (.t 27)⟩,
               .row ⟨(some 29), (some (26, false)), .bin .lss t_int true (.t 28) (.c (.int .i64 1))⟩,
               .row ⟨(some 30), none, .pick (.t 26) (.c (.bool true)) (.t 29)⟩,
               .row ⟨(some 31), none, .move (.t 30)⟩,
               .row ⟨(some 32), (some (31, false)), .fieldAddr 2 (.t 5)⟩,
               .row ⟨(some 33), (some (31, false)), .load1 (.t 32)⟩,
               .row ⟨(some 34), (some (31, false)), .bin .gtr t_int true (.t 33) (.c (.int .i64 2147483647))⟩,
               .row ⟨(some 35), none, .pick (.t 31) (.c (.bool true)) (.t 34)⟩,
               .row ⟨(some 36), none, .move (.t 35)⟩,
               .row ⟨(some 37), (some (36, false)), .fieldAddr 1 (.t 5)⟩,
               .row ⟨(some 38), (some (36, false)), .load1 (.t 37)⟩,
               .row ⟨(some 39), (some (36, false)), .move (.t 3)⟩,
               .row ⟨(some 40), (some (36, false)), .bin .neq t_int false (.t 38) (.t 39)⟩,
               .row ⟨(some 41), none, .pick (.t 36) (.c (.bool true)) (.t 40)⟩])
              (.cond (.t 41)
               (.seq
                (.ops [
                 .row ⟨(some 2), none, .move (.c (.bool false))⟩])
                .ret)
               .skip))
             (.seq
              (.ops [
               .row ⟨(some 42), none, .move (.t 3)⟩,
               .row ⟨(some 43), none, .fieldAddr 2 (.t 5)⟩,
               .row ⟨(some 44), none, .load1 (.t 43)⟩,
               .row ⟨(some 45), none, .bin .add t_int false (.t 42) (.t 44)⟩,
               .row ⟨(some 3), none, .move (.t 45)⟩])
              (.seq
               (.ops [
                .row ⟨(some 46), none, .move (.t 4)⟩,
                .row ⟨(some 47), none, .bin .gtr t_int true (.t 46) (.c (.int .i64 0))⟩])
               (.cond (.t 47)
                (.seq
                 (.ops [
                  .row ⟨(some 48), none, .move (.t 0)⟩,
                  .row ⟨(some 49), none, .move (.t 4)⟩,
                  .row ⟨(some 50), none, .bin .sub t_int true (.t 49) (.c (.int .i64 1))⟩,
                  .row ⟨(some 51), none, .idxV 5 (.t 48) (.t 50)⟩,
                  .row ⟨(some 52), none, .loadN 5 (.t 51)⟩,
                  .row ⟨(some 6), none, .new [.nils, (.int .i64 0), (.int .i64 0), (.int .i64 0), (.int .i64 0)]⟩,
                  .row ⟨none, none, .store 5 (.t 6) (.t 52)⟩])
                 (.seq
                  (.ops [
                   .row ⟨(some 53), none, .fieldAddr 0 (.t 6)⟩,
                   .row ⟨(some 54), none, .load1 (.t 53)⟩,
                   .row ⟨(some 55), none, .fieldAddr 0 (.t 5)⟩,
                   .row ⟨(some 56), none, .load1 (.t 55)⟩,
                   .row ⟨(some 57), none, .callV (.c (.func (.func f_labels_Compare) [] [])) [(.t 54), (.t 56)]⟩,
                   .row ⟨(some 7), none, .move (.t 57)⟩])
                  (.seq
                   (.ops [
                    .row ⟨(some 58), none, .move (.t 7)⟩,
                    .row ⟨(some 59), none, .bin .gtr t_int true (.t 58) (.c (.int .i64 0))⟩,
                    .row ⟨(some 60), none, .move (.t 59)⟩,
                    .row ⟨(some 61), (some (60, false)), .move (.t 7)⟩,
                    .row ⟨(some 62), (some (60, false)), .bin .eql t_int true (.t 61) (.c (.int .i64 0))⟩,
                    .row ⟨(some 63), (some (60, false)), .move (.t 62)⟩,
                    .row ⟨(some 64), (some (63, true)), .fieldAddr 3 (.t 5)⟩,
                    .row ⟨(some 65), (some (63, true)), .load1 (.t 64)⟩,
                    .row ⟨(some 66), (some (63, true)), .fieldAddr 4 (.t 6)⟩,
                    .row ⟨(some 67), (some (63, true)), .load1 (.t 66)⟩,
                    .row ⟨(some 68), (some (63, true)), .bin .leq t_int false (.t 65) (.t 67)⟩,
                    .row ⟨(some 69), (some (60, false)), .pick (.t 63) (.t 68) (.c (.bool false))⟩,
                    .row ⟨(some 70), none, .pick (.t 60) (.c (.bool true)) (.t 69)⟩])
                   (.cond (.t 70)
                    (.seq
                     (.ops [
                      .row ⟨(some 2), none, .move (.c (.bool false))⟩])
                     .ret)
                    .skip))))
                .skip))))))
          (.ops [
           .row ⟨(some 71), none, .bin .add t_int true (.t 10) (.c (.int .i64 1))⟩,
           .row ⟨(some 10), none, .move (.t 71)⟩])))))))
    (.seq
     (.ops [
      .row ⟨(some 72), none, .move (.t 0)⟩,
      .row ⟨(some 73), none, .lenV (.t 72)⟩,
      .row ⟨(some 74), none, .bin .leq t_int true (.t 73) (.c (.int .i64 100000))⟩,
      .row ⟨(some 2), none, .move (.t 74)⟩])
     .ret))))

theorem k_index_Can : compF P f_index_Can = .ok ⟨75, [.tmp 2], c_index_Can⟩ := by kernel_rfl

/-- dryrot/labels.Compare, of 2 -/
noncomputable def c_labels_Compare : CC :=
 (.seq
  (.ops [
   .row ⟨(some 4), none, .move (.c (.int .i64 0))⟩])
  (.seq
   (.ops [
    .row ⟨(some 5), none, .move (.t 0)⟩,
    .row ⟨(some 6), none, .move (.t 1)⟩,
    .row ⟨(some 7), none, .callV (.c (.func (.func f_slices_CompareFunc_api_Label_api_Label_api_Label_api_Label) [] [])) [(.t 5), (.t 6), (.c (.func (.func f_labels_Compare_1) [] []))]⟩,
    .row ⟨(some 4), none, .move (.t 7)⟩])
   .ret))

theorem k_labels_Compare : compF P f_labels_Compare = .ok ⟨8, [.tmp 4], c_labels_Compare⟩ := by kernel_rfl

/-- slices.CompareFunc[[]dryrot/api.Label,[]dryrot/api.Label,dryrot/api.Label,dryrot/api.Label], of 3 -/
noncomputable def c_slices_CompareFunc_api_Label_api_Label_api_Label_api_Label : CC :=
 (.seq
  (.ops [
   .row ⟨(some 6), none, .move (.c (.int .i64 0))⟩])
  (.seq
   (.seq
    (.ops [
     .row ⟨(some 11), none, .move (.t 0)⟩,
     .row ⟨(some 12), none, .lenV (.t 11)⟩,
     .row ⟨(some 13), none, .move (.c (.int .i64 0))⟩])
    (.block 0
     (.loop
      (.seq
       (.ops [
        .row ⟨(some 14), none, .bin .lss t_int false (.t 13) (.t 12)⟩])
       (.seq
        (.cond (.t 14)
         .skip
         (.exit 0))
        (.seq
         (.block 1
          (.seq
           (.ops [
            .row ⟨(some 15), none, .move (.t 13)⟩,
            .row ⟨(some 16), none, .idxV 2 (.t 11) (.t 13)⟩,
            .row ⟨(some 17), none, .loadN 2 (.t 16)⟩,
            .row ⟨(some 8), none, .new [(.str []), (.str [])]⟩,
            .row ⟨(some 7), none, .move (.t 15)⟩,
            .row ⟨none, none, .store 2 (.t 8) (.t 17)⟩])
           (.seq
            (.seq
             (.ops [
              .row ⟨(some 18), none, .move (.t 7)⟩,
              .row ⟨(some 19), none, .move (.t 1)⟩,
              .row ⟨(some 20), none, .lenV (.t 19)⟩,
              .row ⟨(some 21), none, .bin .geq t_int false (.t 18) (.t 20)⟩])
             (.cond (.t 21)
              (.seq
               (.ops [
                .row ⟨(some 6), none, .move (.c (.int .i64 1))⟩])
               .ret)
              .skip))
            (.seq
             (.ops [
              .row ⟨(some 22), none, .move (.t 1)⟩,
              .row ⟨(some 23), none, .move (.t 7)⟩,
              .row ⟨(some 24), none, .idxV 2 (.t 22) (.t 23)⟩,
              .row ⟨(some 25), none, .loadN 2 (.t 24)⟩,
              .row ⟨(some 9), none, .new [(.str []), (.str [])]⟩,
              .row ⟨none, none, .store 2 (.t 9) (.t 25)⟩])
             (.seq
              (.ops [
               .row ⟨(some 26), none, .move (.t 2)⟩,
               .row ⟨(some 27), none, .loadN 2 (.t 8)⟩,
               .row ⟨(some 28), none, .loadN 2 (.t 9)⟩,
               .row ⟨(some 29), none, .callV (.t 26) [(.t 27), (.t 28)]⟩,
               .row ⟨(some 10), none, .move (.t 29)⟩])
              (.seq
               (.ops [
                .row ⟨(some 30), none, .move (.t 10)⟩,
                .row ⟨(some 31), none, .bin .neq t_int true (.t 30) (.c (.int .i64 0))⟩])
               (.cond (.t 31)
                (.seq
                 (.ops [
                  .row ⟨(some 32), none, .move (.t 10)⟩,
                  .row ⟨(some 6), none, .move (.t 32)⟩])
                 .ret)
                .skip)))))))
         (.ops [
          .row ⟨(some 33), none, .bin .add t_int true (.t 13) (.c (.int .i64 1))⟩,
          .row ⟨(some 13), none, .move (.t 33)⟩])))))))
   (.seq
    (.seq
     (.ops [
      .row ⟨(some 34), none, .move (.t 0)⟩,
      .row ⟨(some 35), none, .lenV (.t 34)⟩,
      .row ⟨(some 36), none, .move (.t 1)⟩,
      .row ⟨(some 37), none, .lenV (.t 36)⟩,
      .row ⟨(some 38), none, .bin .lss t_int false (.t 35) (.t 37)⟩])
     (.cond (.t 38)
      (.seq
       (.ops [
        .row ⟨(some 6), none, .move (.c (.int .i64 (-1)))⟩])
       .ret)
      .skip))
    (.seq
     (.ops [
      .row ⟨(some 6), none, .move (.c (.int .i64 0))⟩])
     .ret))))

theorem k_slices_CompareFunc_api_Label_api_Label_api_Label_api_Label : compF P f_slices_CompareFunc_api_Label_api_Label_api_Label_api_Label = .ok ⟨39, [.tmp 6], c_slices_CompareFunc_api_Label_api_Label_api_Label_api_Label⟩ := by kernel_rfl

/-- dryrot/labels.Compare$1, of 2 -/
noncomputable def c_labels_Compare_1 : CC :=
 (.seq
  (.ops [
   .row ⟨(some 2), none, .box (.t 0)⟩,
   .row ⟨(some 3), none, .box (.t 1)⟩,
   .row ⟨(some 4), none, .move (.c (.int .i64 0))⟩])
  (.seq
   (.ops [
    .row ⟨(some 5), none, .fieldAddr 0 (.t 2)⟩,
    .row ⟨(some 6), none, .load1 (.t 5)⟩,
    .row ⟨(some 7), none, .fieldAddr 0 (.t 3)⟩,
    .row ⟨(some 8), none, .load1 (.t 7)⟩,
    .row ⟨(some 10), none, .fieldAddr 1 (.t 2)⟩,
    .row ⟨(some 11), none, .load1 (.t 10)⟩,
    .row ⟨(some 12), none, .fieldAddr 1 (.t 3)⟩,
    .row ⟨(some 13), none, .load1 (.t 12)⟩,
    .stage [⟨(some 13), none, .load1 (.t 12)⟩, ⟨(some 11), none, .load1 (.t 10)⟩, ⟨(some 8), none, .load1 (.t 7)⟩, ⟨(some 6), none, .load1 (.t 5)⟩],
    .row ⟨(some 9), none, .callV (.c (.func (.func f_cmp_Compare_string) [] [])) [(.t 6), (.t 8)]⟩,
    .stage [⟨(some 13), none, .load1 (.t 12)⟩, ⟨(some 11), none, .load1 (.t 10)⟩],
    .row ⟨(some 14), none, .callV (.c (.func (.func f_cmp_Compare_string) [] [])) [(.t 11), (.t 13)]⟩,
    .row ⟨(some 15), none, .buildSlice 2 1 [(.int .i64 0), (.int .i64 0)] [(0, 1, (.t 9)), (1, 1, (.t 14))]⟩,
    .row ⟨(some 16), none, .callV (.c (.func (.func f_cmp_Or_int) [] [])) [(.t 15)]⟩,
    .row ⟨(some 4), none, .move (.t 16)⟩])
   .ret))

theorem k_labels_Compare_1 : compF P f_labels_Compare_1 = .ok ⟨17, [.tmp 4], c_labels_Compare_1⟩ := by kernel_rfl

/-- cmp.Compare[string], of 2 -/
noncomputable def c_cmp_Compare_string : CC :=
 (.seq
  (.ops [
   .row ⟨(some 4), none, .move (.c (.int .i64 0))⟩])
  (.seq
   (.ops [
    .row ⟨(some 7), none, .move (.t 0)⟩,
    .row ⟨(some 8), none, .callV (.c (.func (.func f_cmp_isNaN_string) [] [])) [(.t 7)]⟩,
    .row ⟨(some 5), none, .move (.t 8)⟩])
   (.seq
    (.ops [
     .row ⟨(some 9), none, .move (.t 1)⟩,
     .row ⟨(some 10), none, .callV (.c (.func (.func f_cmp_isNaN_string) [] [])) [(.t 9)]⟩,
     .row ⟨(some 6), none, .move (.t 10)⟩])
    (.seq
     (.seq
      (.ops [
       .row ⟨(some 11), none, .move (.t 5)⟩])
      (.cond (.t 11)
       (.seq
        (.seq
         (.ops [
          .row ⟨(some 12), none, .move (.t 6)⟩])
         (.cond (.t 12)
          (.seq
           (.ops [
            .row ⟨(some 4), none, .move (.c (.int .i64 0))⟩])
           .ret)
          .skip))
        (.seq
         (.ops [
          .row ⟨(some 4), none, .move (.c (.int .i64 (-1)))⟩])
         .ret))
       .skip))
     (.seq
      (.seq
       (.ops [
        .row ⟨(some 13), none, .move (.t 6)⟩])
       (.cond (.t 13)
        (.seq
         (.ops [
          .row ⟨(some 4), none, .move (.c (.int .i64 1))⟩])
         .ret)
        .skip))
      (.seq
       (.seq
        (.ops [
         .row ⟨(some 14), none, .move (.t 0)⟩,
         .row ⟨(some 15), none, .move (.t 1)⟩,
         .row ⟨(some 16), none, .bin .lss t_string false (.t 14) (.t 15)⟩])
        (.cond (.t 16)
         (.seq
          (.ops [
           .row ⟨(some 4), none, .move (.c (.int .i64 (-1)))⟩])
          .ret)
         .skip))
       (.seq
        (.seq
         (.ops [
          .row ⟨(some 17), none, .move (.t 0)⟩,
          .row ⟨(some 18), none, .move (.t 1)⟩,
          .row ⟨(some 19), none, .bin .gtr t_string false (.t 17) (.t 18)⟩])
         (.cond (.t 19)
          (.seq
           (.ops [
            .row ⟨(some 4), none, .move (.c (.int .i64 1))⟩])
           .ret)
          .skip))
        (.seq
         (.ops [
          .row ⟨(some 4), none, .move (.c (.int .i64 0))⟩])
         .ret))))))))

theorem k_cmp_Compare_string : compF P f_cmp_Compare_string = .ok ⟨20, [.tmp 4], c_cmp_Compare_string⟩ := by kernel_rfl

/-- cmp.isNaN[string], of 1 -/
noncomputable def c_cmp_isNaN_string : CC :=
 (.seq
  (.ops [
   .row ⟨(some 2), none, .move (.c (.bool false))⟩])
  (.seq
   (.ops [
    .row ⟨(some 3), none, .move (.t 0)⟩,
    .row ⟨(some 4), none, .move (.t 0)⟩,
    .row ⟨(some 5), none, .bin .neq t_string false (.t 3) (.t 4)⟩,
    .row ⟨(some 2), none, .move (.t 5)⟩])
   .ret))

theorem k_cmp_isNaN_string : compF P f_cmp_isNaN_string = .ok ⟨6, [.tmp 2], c_cmp_isNaN_string⟩ := by kernel_rfl

/-- cmp.Or[int], of 1 -/
noncomputable def c_cmp_Or_int : CC :=
 (.seq
  (.ops [
   .row ⟨(some 2), none, .move (.c (.int .i64 0))⟩])
  (.seq
   (.ops [
    .row ⟨(some 3), none, .move (.c (.int .i64 0))⟩])
   (.seq
    (.seq
     (.ops [
      .row ⟨(some 6), none, .move (.t 0)⟩,
      .row ⟨(some 7), none, .lenV (.t 6)⟩,
      .row ⟨(some 8), none, .move (.c (.int .i64 0))⟩])
     (.block 0
      (.loop
       (.seq
        (.ops [
         .row ⟨(some 9), none, .bin .lss t_int false (.t 8) (.t 7)⟩])
        (.seq
         (.cond (.t 9)
          .skip
          (.exit 0))
         (.seq
          (.block 1
           (.seq
            (.ops [
             .row ⟨(some 10), none, .idxV 1 (.t 6) (.t 8)⟩,
             .row ⟨(some 11), none, .load1 (.t 10)⟩,
             .row ⟨(some 5), none, .move (.t 11)⟩])
            (.seq
             (.ops [
              .row ⟨(some 12), none, .move (.t 5)⟩,
              .row ⟨(some 13), none, .move (.t 3)⟩,
              .row ⟨(some 14), none, .bin .neq t_int false (.t 12) (.t 13)⟩])
             (.cond (.t 14)
              (.seq
               (.ops [
                .row ⟨(some 15), none, .move (.t 5)⟩,
                .row ⟨(some 2), none, .move (.t 15)⟩])
               .ret)
              .skip))))
          (.ops [
           .row ⟨(some 16), none, .bin .add t_int true (.t 8) (.c (.int .i64 1))⟩,
           .row ⟨(some 8), none, .move (.t 16)⟩])))))))
    (.seq
     (.ops [
      .row ⟨(some 17), none, .move (.t 3)⟩,
      .row ⟨(some 2), none, .move (.t 17)⟩])
     .ret))))

theorem k_cmp_Or_int : compF P f_cmp_Or_int = .ok ⟨18, [.tmp 2], c_cmp_Or_int⟩ := by kernel_rfl

/-- dryrot/dryrotref13.Build, of 1 -/
noncomputable def c_ref13_Build : CC :=
 (.seq
  (.ops [
   .row ⟨(some 2), none, .move (.c .nils)⟩,
   .row ⟨(some 3), none, .move (.c (.int .i64 0))⟩])
  (.seq
   (.ops [
    .row ⟨(some 8), none, .move (.t 0)⟩,
    .row ⟨(some 9), none, .callV (.c (.func (.func f_ref12_All) [] [])) [(.t 8), (.c (.int .i64 0))]⟩,
    .row ⟨(some 7), none, .move (.t 9)⟩,
    .row ⟨(some 10), none, .extract (.t 7) 0⟩,
    .row ⟨(some 11), none, .extract (.t 7) 1⟩,
    .row ⟨(some 12), none, .extract (.t 7) 2⟩,
    .row ⟨(some 4), none, .move (.t 10)⟩,
    .row ⟨(some 5), none, .move (.t 11)⟩,
    .row ⟨(some 6), none, .move (.t 12)⟩])
   (.seq
    (.seq
     (.ops [
      .row ⟨(some 13), none, .move (.t 6)⟩,
      .row ⟨(some 14), none, .bin .neq t_api_Errno true (.t 13) (.c (.int .i64 0))⟩,
      .row ⟨(some 15), none, .move (.t 14)⟩,
      .row ⟨(some 16), (some (15, false)), .move (.t 4)⟩,
      .row ⟨(some 17), (some (15, false)), .callV (.c (.func (.func f_ref13_Can) [] [])) [(.t 16)]⟩,
      .row ⟨(some 18), (some (15, false)), .un .not (.t 17)⟩,
      .row ⟨(some 19), none, .pick (.t 15) (.c (.bool true)) (.t 18)⟩])
     (.cond (.t 19)
      (.seq
       (.ops [
        .row ⟨(some 2), none, .move (.c .nils)⟩,
        .row ⟨(some 3), none, .move (.c (.int .i64 5))⟩])
       .ret)
      .skip))
    (.seq
     (.ops [
      .row ⟨(some 20), none, .move (.t 4)⟩,
      .row ⟨(some 2), none, .move (.t 20)⟩,
      .row ⟨(some 3), none, .move (.c (.int .i64 0))⟩])
     .ret))))

theorem k_ref13_Build : compF P f_ref13_Build = .ok ⟨21, [.tmp 2, .tmp 3], c_ref13_Build⟩ := by kernel_rfl

/-- dryrot/dryrotref12.All, of 2 -/
noncomputable def c_ref12_All : CC :=
 (.seq
  (.ops [
   .row ⟨(some 4), none, .move (.c .nils)⟩,
   .row ⟨(some 5), none, .move (.c .nils)⟩,
   .row ⟨(some 6), none, .move (.c (.int .i64 0))⟩])
  (.seq
   (.ops [
    .row ⟨(some 12), none, .move (.t 1)⟩,
    .row ⟨(some 13), none, .mm true (.t 12) [(.c (.int .i64 0))]⟩,
    .row ⟨(some 14), none, .mm false (.t 13) [(.c (.int .i64 2147483647))]⟩,
    .row ⟨(some 1), none, .move (.t 14)⟩])
   (.seq
    (.ops [
     .row ⟨(some 7), none, .move (.c .nils)⟩])
    (.seq
     (.ops [
      .row ⟨(some 8), none, .move (.c .nils)⟩])
     (.seq
      (.block 0
       (.loop
        (.seq
         (.seq
          (.ops [
           .row ⟨(some 15), none, .move (.t 0)⟩,
           .row ⟨(some 16), none, .lenV (.t 15)⟩,
           .row ⟨(some 17), none, .bin .gtr t_int true (.t 16) (.c (.int .i64 0))⟩])
          (.cond (.t 17)
           .skip
           (.exit 0)))
         (.block 1
          (.seq
           (.ops [
            .row ⟨(some 19), none, .move (.t 0)⟩,
            .row ⟨(some 20), none, .callV (.c (.func (.func f_ref12_First) [] [])) [(.t 19)]⟩,
            .row ⟨(some 18), none, .move (.t 20)⟩,
            .row ⟨(some 21), none, .extract (.t 18) 0⟩,
            .row ⟨(some 22), none, .extract (.t 18) 1⟩,
            .row ⟨(some 23), none, .extract (.t 18) 2⟩,
            .row ⟨(some 9), none, .move (.t 21)⟩,
            .row ⟨(some 10), none, .move (.t 22)⟩,
            .row ⟨(some 11), none, .move (.t 23)⟩])
           (.seq
            (.seq
             (.ops [
              .row ⟨(some 24), none, .move (.t 11)⟩,
              .row ⟨(some 25), none, .bin .eql t_int true (.t 24) (.c (.int .i64 0))⟩])
             (.cond (.t 25)
              (.seq
               (.ops [
                .row ⟨(some 26), none, .move (.t 7)⟩,
                .row ⟨(some 27), none, .move (.t 8)⟩,
                .row ⟨(some 4), none, .move (.t 26)⟩,
                .row ⟨(some 5), none, .move (.t 27)⟩,
                .row ⟨(some 6), none, .move (.c (.int .i64 5))⟩])
               .ret)
              .skip))
            (.seq
             (.ops [
              .row ⟨(some 28), none, .move (.t 7)⟩,
              .row ⟨(some 29), none, .move (.t 9)⟩,
              .row ⟨(some 30), none, .move (.t 1)⟩,
              .row ⟨(some 31), none, .move (.t 11)⟩,
              .row ⟨(some 32), none, .move (.t 10)⟩,
              .row ⟨(some 33), none, .idxV 2 (.t 32) (.c (.int .i64 0))⟩,
              .row ⟨(some 34), none, .fieldAddr 0 (.t 33)⟩,
              .row ⟨(some 35), none, .load1 (.t 34)⟩,
              .row ⟨(some 36), none, .move (.t 10)⟩,
              .row ⟨(some 37), none, .move (.t 10)⟩,
              .row ⟨(some 38), none, .lenV (.t 37)⟩,
              .row ⟨(some 39), none, .bin .sub t_int true (.t 38) (.c (.int .i64 1))⟩,
              .row ⟨(some 40), none, .idxV 2 (.t 36) (.t 39)⟩,
              .row ⟨(some 41), none, .fieldAddr 0 (.t 40)⟩,
              .row ⟨(some 42), none, .load1 (.t 41)⟩,
              .row ⟨(some 43), none, .build [.nils, (.int .i64 0), (.int .i64 0), (.int .i64 0), (.int .i64 0)] [(0, 1, (.t 29)), (1, 1, (.t 30)), (2, 1, (.t 31)), (3, 1, (.t 35)), (4, 1, (.t 42))]⟩,
              .row ⟨(some 44), none, .buildSlice 1 5 [.nils, (.int .i64 0), (.int .i64 0), (.int .i64 0), (.int .i64 0)] [(0, 5, (.t 43))]⟩,
              .stage [⟨(some 42), none, .load1 (.t 41)⟩, ⟨(some 35), none, .load1 (.t 34)⟩],
              .row ⟨(some 45), none, .app 5 56 (.t 28) (.t 44)⟩,
              .row ⟨(some 7), none, .move (.t 45)⟩])
             (.seq
              (.ops [
               .row ⟨(some 46), none, .move (.t 8)⟩,
               .row ⟨(some 47), none, .move (.t 10)⟩,
               .row ⟨(some 48), none, .buildSlice 1 1 [.nils] [(0, 1, (.t 47))]⟩,
               .row ⟨(some 49), none, .app 1 24 (.t 46) (.t 48)⟩,
               .row ⟨(some 8), none, .move (.t 49)⟩])
              (.seq
               (.ops [
                .row ⟨(some 50), none, .move (.t 1)⟩,
                .row ⟨(some 51), none, .move (.t 11)⟩,
                .row ⟨(some 52), none, .bin .add t_int false (.t 50) (.t 51)⟩,
                .row ⟨(some 1), none, .move (.t 52)⟩])
               (.ops [
                .row ⟨(some 53), none, .move (.t 0)⟩,
                .row ⟨(some 54), none, .move (.t 11)⟩,
                .row ⟨(some 55), none, .sliceV 1 (.t 53) (some (.t 54)) none none⟩,
                .row ⟨(some 0), none, .move (.t 55)⟩]))))))))))
      (.seq
       (.ops [
        .row ⟨(some 56), none, .move (.t 7)⟩,
        .row ⟨(some 57), none, .move (.t 8)⟩,
        .row ⟨(some 4), none, .move (.t 56)⟩,
        .row ⟨(some 5), none, .move (.t 57)⟩,
        .row ⟨(some 6), none, .move (.c (.int .i64 0))⟩])
       .ret))))))

theorem k_ref12_All : compF P f_ref12_All = .ok ⟨58, [.tmp 4, .tmp 5, .tmp 6], c_ref12_All⟩ := by kernel_rfl

/-- dryrot/dryrotref12.First, of 1 -/
noncomputable def c_ref12_First : CC :=
 (.seq
  (.ops [
   .row ⟨(some 2), none, .move (.c .nils)⟩,
   .row ⟨(some 3), none, .move (.c .nils)⟩,
   .row ⟨(some 4), none, .move (.c (.int .i64 0))⟩])
  (.seq
   (.ops [
    .row ⟨(some 13), none, .move (.t 0)⟩,
    .row ⟨(some 14), none, .callV (.c (.func (.func f_ref10_Int) [] [])) [(.t 13), (.c (.int .i64 4))]⟩,
    .row ⟨(some 12), none, .move (.t 14)⟩,
    .row ⟨(some 15), none, .extract (.t 12) 0⟩,
    .row ⟨(some 16), none, .extract (.t 12) 1⟩,
    .row ⟨(some 17), none, .extract (.t 12) 2⟩,
    .row ⟨(some 5), none, .move (.t 15)⟩,
    .row ⟨(some 6), none, .move (.t 16)⟩,
    .row ⟨(some 7), none, .move (.t 17)⟩])
   (.seq
    (.seq
     (.ops [
      .row ⟨(some 18), none, .move (.t 7)⟩,
      .row ⟨(some 19), none, .un .not (.t 18)⟩,
      .row ⟨(some 20), none, .move (.t 19)⟩,
      .row ⟨(some 21), (some (20, false)), .move (.t 6)⟩,
      .row ⟨(some 22), (some (20, false)), .lenV (.t 21)⟩,
      .row ⟨(some 23), (some (20, false)), .move (.t 5)⟩,
      .row ⟨(some 24), (some (20, false)), .bin .lss t_int false (.t 22) (.t 23)⟩,
      .row ⟨(some 25), none, .pick (.t 20) (.c (.bool true)) (.t 24)⟩])
     (.cond (.t 25)
      (.seq
       (.ops [
        .row ⟨(some 2), none, .move (.c .nils)⟩,
        .row ⟨(some 3), none, .move (.c .nils)⟩,
        .row ⟨(some 4), none, .move (.c (.int .i64 0))⟩])
       .ret)
      .skip))
    (.seq
     (.ops [
      .row ⟨(some 27), none, .move (.t 6)⟩,
      .row ⟨(some 28), none, .move (.t 5)⟩,
      .row ⟨(some 29), none, .sliceV 1 (.t 27) none (some (.t 28)) none⟩,
      .row ⟨(some 30), none, .callV (.c (.func (.func f_ref07_Decode) [] [])) [(.t 29)]⟩,
      .row ⟨(some 26), none, .move (.t 30)⟩,
      .row ⟨(some 31), none, .extract (.t 26) 0⟩,
      .row ⟨(some 32), none, .extract (.t 26) 1⟩,
      .row ⟨(some 33), none, .extract (.t 26) 2⟩,
      .row ⟨(some 8), none, .move (.t 31)⟩,
      .row ⟨(some 9), none, .move (.t 32)⟩,
      .row ⟨(some 10), none, .move (.t 33)⟩])
     (.seq
      (.seq
       (.ops [
        .row ⟨(some 34), none, .move (.t 10)⟩,
        .row ⟨(some 35), none, .bin .neq t_api_Errno true (.t 34) (.c (.int .i64 0))⟩])
       (.cond (.t 35)
        (.seq
         (.ops [
          .row ⟨(some 2), none, .move (.c .nils)⟩,
          .row ⟨(some 3), none, .move (.c .nils)⟩,
          .row ⟨(some 4), none, .move (.c (.int .i64 0))⟩])
         .ret)
        .skip))
      (.seq
       (.ops [
        .row ⟨(some 37), none, .move (.t 9)⟩,
        .row ⟨(some 38), none, .callV (.c (.func (.func f_ref11_Decode) [] [])) [(.t 37)]⟩,
        .row ⟨(some 36), none, .move (.t 38)⟩,
        .row ⟨(some 39), none, .extract (.t 36) 0⟩,
        .row ⟨(some 40), none, .extract (.t 36) 1⟩,
        .row ⟨(some 11), none, .move (.t 39)⟩,
        .row ⟨(some 10), none, .move (.t 40)⟩])
       (.seq
        (.seq
         (.ops [
          .row ⟨(some 41), none, .move (.t 10)⟩,
          .row ⟨(some 42), none, .bin .neq t_api_Errno true (.t 41) (.c (.int .i64 0))⟩,
          .row ⟨(some 43), none, .move (.t 42)⟩,
          .row ⟨(some 44), (some (43, false)), .move (.t 11)⟩,
          .row ⟨(some 45), (some (43, false)), .lenV (.t 44)⟩,
          .row ⟨(some 46), (some (43, false)), .bin .lss t_int true (.t 45) (.c (.int .i64 1))⟩,
          .row ⟨(some 47), none, .pick (.t 43) (.c (.bool true)) (.t 46)⟩,
          .row ⟨(some 48), none, .move (.t 47)⟩,
          .row ⟨(some 49), (some (48, false)), .move (.t 11)⟩,
          .row ⟨(some 50), (some (48, false)), .lenV (.t 49)⟩,
          .row ⟨(some 51), (some (48, false)), .bin .gtr t_int true (.t 50) (.c (.int .i64 20))⟩,
          .row ⟨(some 52), none, .pick (.t 48) (.c (.bool true)) (.t 51)⟩])
         (.cond (.t 52)
          (.seq
           (.ops [
            .row ⟨(some 2), none, .move (.c .nils)⟩,
            .row ⟨(some 3), none, .move (.c .nils)⟩,
            .row ⟨(some 4), none, .move (.c (.int .i64 0))⟩])
           .ret)
          .skip))
        (.seq
         (.ops [
          .row ⟨(some 53), none, .move (.t 8)⟩,
          .row ⟨(some 54), none, .move (.t 11)⟩,
          .row ⟨(some 55), none, .move (.t 5)⟩,
          .row ⟨(some 56), none, .bin .add t_int true (.t 55) (.c (.int .i64 4))⟩,
          .row ⟨(some 2), none, .move (.t 53)⟩,
          .row ⟨(some 3), none, .move (.t 54)⟩,
          .row ⟨(some 4), none, .move (.t 56)⟩])
         .ret))))))))

theorem k_ref12_First : compF P f_ref12_First = .ok ⟨57, [.tmp 2, .tmp 3, .tmp 4], c_ref12_First⟩ := by kernel_rfl

/-- dryrot/dryrotref10.Int, of 2 -/
noncomputable def c_ref10_Int : CC :=
 (.seq
  (.ops [
   .row ⟨(some 4), none, .move (.c (.int .i64 0))⟩,
   .row ⟨(some 5), none, .move (.c .nils)⟩,
   .row ⟨(some 6), none, .move (.c (.bool false))⟩])
  (.seq
   (.seq
    (.ops [
     .row ⟨(some 9), none, .move (.t 0)⟩,
     .row ⟨(some 10), none, .lenV (.t 9)⟩,
     .row ⟨(some 11), none, .move (.t 1)⟩,
     .row ⟨(some 12), none, .bin .lss t_int false (.t 10) (.t 11)⟩])
    (.cond (.t 12)
     (.seq
      (.ops [
       .row ⟨(some 4), none, .move (.c (.int .i64 0))⟩,
       .row ⟨(some 5), none, .move (.c .nils)⟩,
       .row ⟨(some 6), none, .move (.c (.bool false))⟩])
      .ret)
     .skip))
   (.seq
    (.ops [
     .row ⟨(some 14), none, .move (.t 0)⟩,
     .row ⟨(some 15), none, .move (.t 1)⟩,
     .row ⟨(some 16), none, .sliceV 1 (.t 14) none (some (.t 15)) none⟩,
     .row ⟨(some 17), none, .callV (.c (.func (.func f_ref01_Get) [] [])) [(.t 16)]⟩,
     .row ⟨(some 13), none, .move (.t 17)⟩,
     .row ⟨(some 18), none, .extract (.t 13) 0⟩,
     .row ⟨(some 19), none, .extract (.t 13) 1⟩,
     .row ⟨(some 7), none, .move (.t 18)⟩,
     .row ⟨(some 8), none, .move (.t 19)⟩])
    (.seq
     (.ops [
      .row ⟨(some 20), none, .move (.t 7)⟩,
      .row ⟨(some 21), none, .conv (.int .i64) (.t 20)⟩,
      .row ⟨(some 22), none, .move (.t 0)⟩,
      .row ⟨(some 23), none, .move (.t 1)⟩,
      .row ⟨(some 24), none, .sliceV 1 (.t 22) (some (.t 23)) none none⟩,
      .row ⟨(some 4), none, .move (.t 21)⟩,
      .row ⟨(some 5), none, .move (.t 24)⟩,
      .row ⟨(some 6), none, .move (.c (.bool true))⟩])
     .ret))))

theorem k_ref10_Int : compF P f_ref10_Int = .ok ⟨25, [.tmp 4, .tmp 5, .tmp 6], c_ref10_Int⟩ := by kernel_rfl

/-- dryrot/dryrotref01.Get, of 1 -/
noncomputable def c_ref01_Get : CC :=
 (.seq
  (.ops [
   .row ⟨(some 2), none, .move (.c (.int .u64 0))⟩,
   .row ⟨(some 3), none, .move (.c (.bool false))⟩])
  (.seq
   (.seq
    (.ops [
     .row ⟨(some 7), none, .move (.t 0)⟩,
     .row ⟨(some 8), none, .lenV (.t 7)⟩,
     .row ⟨(some 9), none, .bin .lss t_int true (.t 8) (.c (.int .i64 1))⟩,
     .row ⟨(some 10), none, .move (.t 9)⟩,
     .row ⟨(some 11), (some (10, false)), .move (.t 0)⟩,
     .row ⟨(some 12), (some (10, false)), .lenV (.t 11)⟩,
     .row ⟨(some 13), (some (10, false)), .bin .gtr t_int true (.t 12) (.c (.int .i64 8))⟩,
     .row ⟨(some 14), none, .pick (.t 10) (.c (.bool true)) (.t 13)⟩])
    (.cond (.t 14)
     (.seq
      (.ops [
       .row ⟨(some 2), none, .move (.c (.int .u64 0))⟩,
       .row ⟨(some 3), none, .move (.c (.bool false))⟩])
      .ret)
     .skip))
   (.seq
    (.ops [
     .row ⟨(some 4), none, .move (.c (.int .u64 0))⟩])
    (.seq
     (.seq
      (.ops [
       .row ⟨(some 15), none, .move (.t 0)⟩,
       .row ⟨(some 16), none, .lenV (.t 15)⟩,
       .row ⟨(some 17), none, .move (.c (.int .i64 0))⟩])
      (.block 0
       (.loop
        (.seq
         (.ops [
          .row ⟨(some 18), none, .bin .lss t_int false (.t 17) (.t 16)⟩])
         (.seq
          (.cond (.t 18)
           .skip
           (.exit 0))
          (.seq
           (.block 1
            (.seq
             (.ops [
              .row ⟨(some 19), none, .idxV 1 (.t 15) (.t 17)⟩,
              .row ⟨(some 20), none, .load1 (.t 19)⟩,
              .row ⟨(some 6), none, .move (.t 20)⟩])
             (.ops [
              .row ⟨(some 21), none, .move (.t 4)⟩,
              .row ⟨(some 22), none, .bin .mul t_uint64 true (.t 21) (.c (.int .u64 256))⟩,
              .row ⟨(some 23), none, .move (.t 6)⟩,
              .row ⟨(some 24), none, .conv (.int .u64) (.t 23)⟩,
              .row ⟨(some 25), none, .bin .add t_uint64 false (.t 22) (.t 24)⟩,
              .row ⟨(some 4), none, .move (.t 25)⟩])))
           (.ops [
            .row ⟨(some 26), none, .bin .add t_int true (.t 17) (.c (.int .i64 1))⟩,
            .row ⟨(some 17), none, .move (.t 26)⟩])))))))
     (.seq
      (.ops [
       .row ⟨(some 27), none, .move (.t 4)⟩,
       .row ⟨(some 2), none, .move (.t 27)⟩,
       .row ⟨(some 3), none, .move (.c (.bool true))⟩])
      .ret)))))

theorem k_ref01_Get : compF P f_ref01_Get = .ok ⟨28, [.tmp 2, .tmp 3], c_ref01_Get⟩ := by kernel_rfl

/-- dryrot/dryrotref07.Decode, of 1 -/
noncomputable def c_ref07_Decode : CC :=
 (.seq
  (.ops [
   .row ⟨(some 2), none, .move (.c .nils)⟩,
   .row ⟨(some 3), none, .move (.c .nils)⟩,
   .row ⟨(some 4), none, .move (.c (.int .i64 0))⟩])
  (.seq
   (.seq
    (.ops [
     .row ⟨(some 13), none, .move (.t 0)⟩,
     .row ⟨(some 14), none, .lenV (.t 13)⟩,
     .row ⟨(some 15), none, .bin .eql t_int true (.t 14) (.c (.int .i64 0))⟩])
    (.cond (.t 15)
     (.seq
      (.ops [
       .row ⟨(some 2), none, .move (.c .nils)⟩,
       .row ⟨(some 3), none, .move (.c .nils)⟩,
       .row ⟨(some 4), none, .move (.c (.int .i64 3))⟩])
      .ret)
     .skip))
   (.seq
    (.ops [
     .row ⟨(some 16), none, .move (.t 0)⟩,
     .row ⟨(some 17), none, .idxV 1 (.t 16) (.c (.int .i64 0))⟩,
     .row ⟨(some 18), none, .load1 (.t 17)⟩,
     .row ⟨(some 19), none, .conv (.int .i64) (.t 18)⟩,
     .row ⟨(some 5), none, .move (.t 19)⟩])
    (.seq
     (.ops [
      .row ⟨(some 20), none, .move (.t 0)⟩,
      .row ⟨(some 21), none, .sliceV 1 (.t 20) (some (.c (.int .i64 1))) none none⟩,
      .row ⟨(some 0), none, .move (.t 21)⟩])
     (.seq
      (.ops [
       .row ⟨(some 6), none, .move (.c .nils)⟩])
      (.seq
       (.seq
        (.ops [
         .row ⟨(some 22), none, .move (.t 5)⟩,
         .row ⟨(some 23), none, .move (.c (.int .i64 0))⟩])
        (.block 0
         (.loop
          (.seq
           (.ops [
            .row ⟨(some 24), none, .bin .lss t_int false (.t 23) (.t 22)⟩])
           (.seq
            (.cond (.t 24)
             .skip
             (.exit 0))
            (.seq
             (.block 1
              (.seq
               (.ops [
                .row ⟨(some 26), none, .move (.t 0)⟩,
                .row ⟨(some 27), none, .callV (.c (.func (.func f_ref07_Piece) [] [])) [(.t 26)]⟩,
                .row ⟨(some 25), none, .move (.t 27)⟩,
                .row ⟨(some 28), none, .extract (.t 25) 0⟩,
                .row ⟨(some 29), none, .extract (.t 25) 1⟩,
                .row ⟨(some 30), none, .extract (.t 25) 2⟩,
                .row ⟨(some 7), none, .move (.t 28)⟩,
                .row ⟨(some 8), none, .move (.t 29)⟩,
                .row ⟨(some 9), none, .move (.t 30)⟩])
               (.seq
                (.ops [
                 .row ⟨(some 32), none, .move (.t 8)⟩,
                 .row ⟨(some 33), none, .callV (.c (.func (.func f_ref07_Piece) [] [])) [(.t 32)]⟩,
                 .row ⟨(some 31), none, .move (.t 33)⟩,
                 .row ⟨(some 34), none, .extract (.t 31) 0⟩,
                 .row ⟨(some 35), none, .extract (.t 31) 1⟩,
                 .row ⟨(some 36), none, .extract (.t 31) 2⟩,
                 .row ⟨(some 10), none, .move (.t 34)⟩,
                 .row ⟨(some 11), none, .move (.t 35)⟩,
                 .row ⟨(some 12), none, .move (.t 36)⟩])
                (.seq
                 (.seq
                  (.ops [
                   .row ⟨(some 37), none, .move (.t 9)⟩,
                   .row ⟨(some 38), none, .un .not (.t 37)⟩,
                   .row ⟨(some 39), none, .move (.t 38)⟩,
                   .row ⟨(some 40), (some (39, false)), .move (.t 12)⟩,
                   .row ⟨(some 41), (some (39, false)), .un .not (.t 40)⟩,
                   .row ⟨(some 42), none, .pick (.t 39) (.c (.bool true)) (.t 41)⟩])
                  (.cond (.t 42)
                   (.seq
                    (.ops [
                     .row ⟨(some 2), none, .move (.c .nils)⟩,
                     .row ⟨(some 3), none, .move (.c .nils)⟩,
                     .row ⟨(some 4), none, .move (.c (.int .i64 3))⟩])
                    .ret)
                   .skip))
                 (.seq
                  (.ops [
                   .row ⟨(some 43), none, .move (.t 6)⟩,
                   .row ⟨(some 44), none, .move (.t 7)⟩,
                   .row ⟨(some 45), none, .move (.t 10)⟩,
                   .row ⟨(some 46), none, .build [(.str []), (.str [])] [(0, 1, (.t 44)), (1, 1, (.t 45))]⟩,
                   .row ⟨(some 47), none, .buildSlice 1 2 [(.str []), (.str [])] [(0, 2, (.t 46))]⟩,
                   .row ⟨(some 48), none, .app 2 32 (.t 43) (.t 47)⟩,
                   .row ⟨(some 6), none, .move (.t 48)⟩])
                  (.ops [
                   .row ⟨(some 49), none, .move (.t 11)⟩,
                   .row ⟨(some 0), none, .move (.t 49)⟩]))))))
             (.ops [
              .row ⟨(some 50), none, .bin .add t_int true (.t 23) (.c (.int .i64 1))⟩,
              .row ⟨(some 23), none, .move (.t 50)⟩])))))))
       (.seq
        (.seq
         (.ops [
          .row ⟨(some 51), none, .move (.t 6)⟩,
          .row ⟨(some 52), none, .callV (.c (.func (.func f_ref07_Can) [] [])) [(.t 51)]⟩,
          .row ⟨(some 53), none, .un .not (.t 52)⟩])
         (.cond (.t 53)
          (.seq
           (.ops [
            .row ⟨(some 2), none, .move (.c .nils)⟩,
            .row ⟨(some 3), none, .move (.c .nils)⟩,
            .row ⟨(some 4), none, .move (.c (.int .i64 5))⟩])
           .ret)
          .skip))
        (.seq
         (.ops [
          .row ⟨(some 54), none, .move (.t 6)⟩,
          .row ⟨(some 55), none, .buildSlice 0 1 [] []⟩,
          .row ⟨(some 56), none, .move (.t 0)⟩,
          .row ⟨(some 57), none, .app 1 1 (.t 55) (.t 56)⟩,
          .row ⟨(some 2), none, .move (.t 54)⟩,
          .row ⟨(some 3), none, .move (.t 57)⟩,
          .row ⟨(some 4), none, .move (.c (.int .i64 0))⟩])
         .ret))))))))

theorem k_ref07_Decode : compF P f_ref07_Decode = .ok ⟨58, [.tmp 2, .tmp 3, .tmp 4], c_ref07_Decode⟩ := by kernel_rfl

/-- dryrot/dryrotref07.Piece, of 1 -/
noncomputable def c_ref07_Piece : CC :=
 (.seq
  (.ops [
   .row ⟨(some 2), none, .move (.c (.str []))⟩,
   .row ⟨(some 3), none, .move (.c .nils)⟩,
   .row ⟨(some 4), none, .move (.c (.bool false))⟩])
  (.seq
   (.seq
    (.ops [
     .row ⟨(some 6), none, .move (.t 0)⟩,
     .row ⟨(some 7), none, .lenV (.t 6)⟩,
     .row ⟨(some 8), none, .bin .eql t_int true (.t 7) (.c (.int .i64 0))⟩,
     .row ⟨(some 9), none, .move (.t 8)⟩,
     .row ⟨(some 10), (some (9, false)), .move (.t 0)⟩,
     .row ⟨(some 11), (some (9, false)), .lenV (.t 10)⟩,
     .row ⟨(some 12), (some (9, false)), .bin .sub t_int true (.t 11) (.c (.int .i64 1))⟩,
     .row ⟨(some 13), (some (9, false)), .move (.t 0)⟩,
     .row ⟨(some 14), (some (9, false)), .idxV 1 (.t 13) (.c (.int .i64 0))⟩,
     .row ⟨(some 15), (some (9, false)), .load1 (.t 14)⟩,
     .row ⟨(some 16), (some (9, false)), .conv (.int .i64) (.t 15)⟩,
     .row ⟨(some 17), (some (9, false)), .bin .lss t_int false (.t 12) (.t 16)⟩,
     .row ⟨(some 18), none, .pick (.t 9) (.c (.bool true)) (.t 17)⟩])
    (.cond (.t 18)
     (.seq
      (.ops [
       .row ⟨(some 2), none, .move (.c (.str []))⟩,
       .row ⟨(some 3), none, .move (.c .nils)⟩,
       .row ⟨(some 4), none, .move (.c (.bool false))⟩])
      .ret)
     .skip))
   (.seq
    (.ops [
     .row ⟨(some 19), none, .move (.t 0)⟩,
     .row ⟨(some 20), none, .idxV 1 (.t 19) (.c (.int .i64 0))⟩,
     .row ⟨(some 21), none, .load1 (.t 20)⟩,
     .row ⟨(some 22), none, .conv (.int .i64) (.t 21)⟩,
     .row ⟨(some 5), none, .move (.t 22)⟩])
    (.seq
     (.ops [
      .row ⟨(some 23), none, .move (.t 0)⟩,
      .row ⟨(some 24), none, .move (.t 5)⟩,
      .row ⟨(some 25), none, .bin .add t_int true (.c (.int .i64 1)) (.t 24)⟩,
      .row ⟨(some 26), none, .sliceV 1 (.t 23) (some (.c (.int .i64 1))) (some (.t 25)) none⟩,
      .row ⟨(some 27), none, .conv .strB (.t 26)⟩,
      .row ⟨(some 28), none, .move (.t 0)⟩,
      .row ⟨(some 29), none, .move (.t 5)⟩,
      .row ⟨(some 30), none, .bin .add t_int true (.c (.int .i64 1)) (.t 29)⟩,
      .row ⟨(some 31), none, .sliceV 1 (.t 28) (some (.t 30)) none none⟩,
      .row ⟨(some 2), none, .move (.t 27)⟩,
      .row ⟨(some 3), none, .move (.t 31)⟩,
      .row ⟨(some 4), none, .move (.c (.bool true))⟩,
      .stage [⟨(some 27), none, .conv .strB (.t 26)⟩]])
     .ret))))

theorem k_ref07_Piece : compF P f_ref07_Piece = .ok ⟨32, [.tmp 2, .tmp 3, .tmp 4], c_ref07_Piece⟩ := by kernel_rfl

/-- dryrot/dryrotref07.Can, of 1 -/
noncomputable def c_ref07_Can : CC :=
 (.seq
  (.ops [
   .row ⟨(some 2), none, .move (.c (.bool false))⟩])
  (.seq
   (.seq
    (.ops [
     .row ⟨(some 5), none, .move (.t 0)⟩,
     .row ⟨(some 6), none, .lenV (.t 5)⟩,
     .row ⟨(some 7), none, .bin .lss t_int true (.t 6) (.c (.int .i64 1))⟩,
     .row ⟨(some 8), none, .move (.t 7)⟩,
     .row ⟨(some 9), (some (8, false)), .move (.t 0)⟩,
     .row ⟨(some 10), (some (8, false)), .lenV (.t 9)⟩,
     .row ⟨(some 11), (some (8, false)), .bin .gtr t_int true (.t 10) (.c (.int .i64 8))⟩,
     .row ⟨(some 12), none, .pick (.t 8) (.c (.bool true)) (.t 11)⟩])
    (.cond (.t 12)
     (.seq
      (.ops [
       .row ⟨(some 2), none, .move (.c (.bool false))⟩])
      .ret)
     .skip))
   (.seq
    (.seq
     (.ops [
      .row ⟨(some 13), none, .move (.t 0)⟩,
      .row ⟨(some 14), none, .lenV (.t 13)⟩,
      .row ⟨(some 15), none, .move (.c (.int .i64 0))⟩])
     (.block 0
      (.loop
       (.seq
        (.ops [
         .row ⟨(some 16), none, .bin .lss t_int false (.t 15) (.t 14)⟩])
        (.seq
         (.cond (.t 16)
          .skip
          (.exit 0))
         (.seq
          (.block 1
           (.seq
            (.ops [
             .row ⟨(some 17), none, .move (.t 15)⟩,
             .row ⟨(some 18), none, .idxV 2 (.t 13) (.t 15)⟩,
             .row ⟨(some 19), none, .loadN 2 (.t 18)⟩,
             .row ⟨(some 4), none, .new [(.str []), (.str [])]⟩,
             .row ⟨(some 3), none, .move (.t 17)⟩,
             .row ⟨none, none, .store 2 (.t 4) (.t 19)⟩])
            (.seq
             (.ops [
              .row ⟨(some 20), none, .fieldAddr 0 (.t 4)⟩,
              .row ⟨(some 21), none, .load1 (.t 20)⟩,
              .stage [⟨(some 21), none, .load1 (.t 20)⟩],
              .row ⟨(some 22), none, .callV (.c (.func (.func f_ref07_Name) [] [])) [(.t 21)]⟩,
              .row ⟨(some 23), none, .un .not (.t 22)⟩,
              .row ⟨(some 24), none, .move (.t 23)⟩,
              .row ⟨(some 25), (some (24, false)), .fieldAddr 1 (.t 4)⟩,
              .row ⟨(some 26), (some (24, false)), .load1 (.t 25)⟩,
              .stage [⟨(some 26), (some (24, false)), .load1 (.t 25)⟩],
              .row ⟨(some 27), (some (24, false)), .callV (.c (.func (.func f_ref07_Value) [] [])) [(.t 26)]⟩,
              .row ⟨(some 28), (some (24, false)), .un .not (.t 27)⟩,
              .row ⟨(some 29), none, .pick (.t 24) (.c (.bool true)) (.t 28)⟩,
              .row ⟨(some 30), none, .move (.t 29)⟩,
              .row ⟨(some 31), (some (30, false)), .move (.t 3)⟩,
              .row ⟨(some 32), (some (30, false)), .bin .gtr t_int true (.t 31) (.c (.int .i64 0))⟩,
              .row ⟨(some 33), (some (30, false)), .move (.t 32)⟩,
              .row ⟨(some 34), (some (33, true)), .move (.t 0)⟩,
              .row ⟨(some 35), (some (33, true)), .move (.t 3)⟩,
              .row ⟨(some 36), (some (33, true)), .bin .sub t_int true (.t 35) (.c (.int .i64 1))⟩,
              .row ⟨(some 37), (some (33, true)), .idxV 2 (.t 34) (.t 36)⟩,
              .row ⟨(some 38), (some (33, true)), .fieldAddr 0 (.t 37)⟩,
              .row ⟨(some 39), (some (33, true)), .load1 (.t 38)⟩,
              .row ⟨(some 40), (some (33, true)), .fieldAddr 0 (.t 4)⟩,
              .row ⟨(some 41), (some (33, true)), .load1 (.t 40)⟩,
              .row ⟨(some 42), (some (33, true)), .bin .geq t_string false (.t 39) (.t 41)⟩,
              .row ⟨(some 43), (some (30, false)), .pick (.t 33) (.t 42) (.c (.bool false))⟩,
              .row ⟨(some 44), none, .pick (.t 30) (.c (.bool true)) (.t 43)⟩,
              .stage [⟨(some 41), (some (33, true)), .load1 (.t 40)⟩, ⟨(some 39), (some (33, true)), .load1 (.t 38)⟩]])
             (.cond (.t 44)
              (.seq
               (.ops [
                .row ⟨(some 2), none, .move (.c (.bool false))⟩])
               .ret)
              .skip))))
          (.ops [
           .row ⟨(some 45), none, .bin .add t_int true (.t 15) (.c (.int .i64 1))⟩,
           .row ⟨(some 15), none, .move (.t 45)⟩])))))))
    (.seq
     (.ops [
      .row ⟨(some 2), none, .move (.c (.bool true))⟩])
     .ret))))

theorem k_ref07_Can : compF P f_ref07_Can = .ok ⟨46, [.tmp 2], c_ref07_Can⟩ := by kernel_rfl

/-- dryrot/dryrotref07.Name, of 1 -/
noncomputable def c_ref07_Name : CC :=
 (.seq
  (.ops [
   .row ⟨(some 2), none, .move (.c (.bool false))⟩])
  (.seq
   (.seq
    (.ops [
     .row ⟨(some 3), none, .move (.c (.int .i64 0))⟩])
    (.block 0
     (.loop
      (.seq
       (.seq
        (.ops [
         .row ⟨(some 6), none, .move (.t 3)⟩,
         .row ⟨(some 7), none, .move (.t 0)⟩,
         .row ⟨(some 8), none, .lenS (.t 7)⟩,
         .row ⟨(some 9), none, .bin .lss t_int false (.t 6) (.t 8)⟩])
        (.cond (.t 9)
         .skip
         (.exit 0)))
       (.seq
        (.block 1
         (.seq
          (.ops [
           .row ⟨(some 12), none, .move (.t 0)⟩,
           .row ⟨(some 13), none, .move (.t 3)⟩,
           .row ⟨(some 14), none, .indexS (.t 12) (.t 13)⟩,
           .row ⟨(some 4), none, .move (.t 14)⟩])
          (.seq
           (.ops [
            .row ⟨(some 15), none, .move (.t 4)⟩,
            .row ⟨(some 16), none, .bin .geq t_uint8 true (.t 15) (.c (.int .u8 97))⟩,
            .row ⟨(some 17), none, .move (.t 16)⟩,
            .row ⟨(some 18), (some (17, true)), .move (.t 4)⟩,
            .row ⟨(some 19), (some (17, true)), .bin .leq t_uint8 true (.t 18) (.c (.int .u8 122))⟩,
            .row ⟨(some 20), none, .pick (.t 17) (.t 19) (.c (.bool false))⟩,
            .row ⟨(some 21), none, .move (.t 20)⟩,
            .row ⟨(some 22), (some (21, false)), .move (.t 4)⟩,
            .row ⟨(some 23), (some (21, false)), .bin .geq t_uint8 true (.t 22) (.c (.int .u8 65))⟩,
            .row ⟨(some 24), (some (21, false)), .move (.t 23)⟩,
            .row ⟨(some 25), (some (24, true)), .move (.t 4)⟩,
            .row ⟨(some 26), (some (24, true)), .bin .leq t_uint8 true (.t 25) (.c (.int .u8 90))⟩,
            .row ⟨(some 27), (some (21, false)), .pick (.t 24) (.t 26) (.c (.bool false))⟩,
            .row ⟨(some 28), none, .pick (.t 21) (.c (.bool true)) (.t 27)⟩,
            .row ⟨(some 29), none, .move (.t 28)⟩,
            .row ⟨(some 30), (some (29, false)), .move (.t 4)⟩,
            .row ⟨(some 31), (some (29, false)), .bin .eql t_uint8 true (.t 30) (.c (.int .u8 95))⟩,
            .row ⟨(some 32), none, .pick (.t 29) (.c (.bool true)) (.t 31)⟩,
            .row ⟨(some 5), none, .move (.t 32)⟩])
           (.seq
            (.ops [
             .row ⟨(some 33), none, .move (.t 5)⟩,
             .row ⟨(some 34), none, .un .not (.t 33)⟩,
             .row ⟨(some 35), none, .move (.t 34)⟩,
             .row ⟨(some 36), (some (35, true)), .move (.t 3)⟩,
             .row ⟨(some 37), (some (35, true)), .bin .eql t_int true (.t 36) (.c (.int .i64 0))⟩,
             .row ⟨(some 38), (some (35, true)), .move (.t 37)⟩,
             .row ⟨(some 39), (some (38, false)), .move (.t 4)⟩,
             .row ⟨(some 40), (some (38, false)), .bin .lss t_uint8 true (.t 39) (.c (.int .u8 48))⟩,
             .row ⟨(some 41), (some (35, true)), .pick (.t 38) (.c (.bool true)) (.t 40)⟩,
             .row ⟨(some 42), (some (35, true)), .move (.t 41)⟩,
             .row ⟨(some 43), (some (42, false)), .move (.t 4)⟩,
             .row ⟨(some 44), (some (42, false)), .bin .gtr t_uint8 true (.t 43) (.c (.int .u8 57))⟩,
             .row ⟨(some 45), (some (35, true)), .pick (.t 42) (.c (.bool true)) (.t 44)⟩,
             .row ⟨(some 46), none, .pick (.t 35) (.t 45) (.c (.bool false))⟩])
            (.cond (.t 46)
             (.seq
              (.ops [
               .row ⟨(some 2), none, .move (.c (.bool false))⟩])
              .ret)
             .skip)))))
        (.ops [
         .row ⟨(some 10), none, .move (.t 3)⟩,
         .row ⟨(some 11), none, .bin .add t_int true (.t 10) (.c (.int .i64 1))⟩,
         .row ⟨(some 3), none, .move (.t 11)⟩]))))))
   (.seq
    (.ops [
     .row ⟨(some 47), none, .move (.t 0)⟩,
     .row ⟨(some 48), none, .lenS (.t 47)⟩,
     .row ⟨(some 49), none, .bin .geq t_int true (.t 48) (.c (.int .i64 1))⟩,
     .row ⟨(some 50), none, .move (.t 49)⟩,
     .row ⟨(some 51), (some (50, true)), .move (.t 0)⟩,
     .row ⟨(some 52), (some (50, true)), .lenS (.t 51)⟩,
     .row ⟨(some 53), (some (50, true)), .bin .leq t_int true (.t 52) (.c (.int .i64 24))⟩,
     .row ⟨(some 54), none, .pick (.t 50) (.t 53) (.c (.bool false))⟩,
     .row ⟨(some 2), none, .move (.t 54)⟩])
    .ret)))

theorem k_ref07_Name : compF P f_ref07_Name = .ok ⟨55, [.tmp 2], c_ref07_Name⟩ := by kernel_rfl

/-- dryrot/dryrotref07.Value, of 1 -/
noncomputable def c_ref07_Value : CC :=
 (.seq
  (.ops [
   .row ⟨(some 2), none, .move (.c (.bool false))⟩])
  (.seq
   (.ops [
    .row ⟨(some 3), none, .move (.t 0)⟩,
    .row ⟨(some 4), none, .lenS (.t 3)⟩,
    .row ⟨(some 5), none, .bin .geq t_int true (.t 4) (.c (.int .i64 1))⟩,
    .row ⟨(some 6), none, .move (.t 5)⟩,
    .row ⟨(some 7), (some (6, true)), .move (.t 0)⟩,
    .row ⟨(some 8), (some (6, true)), .lenS (.t 7)⟩,
    .row ⟨(some 9), (some (6, true)), .bin .leq t_int true (.t 8) (.c (.int .i64 40))⟩,
    .row ⟨(some 10), none, .pick (.t 6) (.t 9) (.c (.bool false))⟩,
    .row ⟨(some 11), none, .move (.t 10)⟩,
    .row ⟨(some 12), (some (11, true)), .move (.t 0)⟩,
    .row ⟨(some 13), (some (11, true)), .callV (.c (.func (.func f_ref07_Plain) [] [])) [(.t 12)]⟩,
    .row ⟨(some 14), none, .pick (.t 11) (.t 13) (.c (.bool false))⟩,
    .row ⟨(some 2), none, .move (.t 14)⟩])
   .ret))

theorem k_ref07_Value : compF P f_ref07_Value = .ok ⟨15, [.tmp 2], c_ref07_Value⟩ := by kernel_rfl

/-- dryrot/dryrotref07.Plain, of 1 -/
noncomputable def c_ref07_Plain : CC :=
 (.seq
  (.ops [
   .row ⟨(some 2), none, .move (.c (.bool false))⟩])
  (.seq
   (.seq
    (.ops [
     .row ⟨(some 5), none, .move (.t 0)⟩,
     .row ⟨(some 6), none, .rangeS (.t 5)⟩])
    (.block 0
     (.loop
      (.seq
       (.ops [
        .row ⟨(some 7), none, .next (.t 6) true⟩,
        .row ⟨(some 8), none, .extract (.t 7) 0⟩])
       (.seq
        (.cond (.t 8)
         .skip
         (.exit 0))
        (.block 1
         (.seq
          (.ops [
           .row ⟨(some 9), none, .extract (.t 7) 2⟩,
           .row ⟨(some 4), none, .move (.t 9)⟩])
          (.seq
           (.ops [
            .row ⟨(some 10), none, .move (.t 4)⟩,
            .row ⟨(some 11), none, .bin .lss t_int32 true (.t 10) (.c (.int .i32 32))⟩,
            .row ⟨(some 12), none, .move (.t 11)⟩,
            .row ⟨(some 13), (some (12, false)), .move (.t 4)⟩,
            .row ⟨(some 14), (some (12, false)), .bin .eql t_int32 true (.t 13) (.c (.int .i32 127))⟩,
            .row ⟨(some 15), none, .pick (.t 12) (.c (.bool true)) (.t 14)⟩,
            .row ⟨(some 16), none, .move (.t 15)⟩,
            .row ⟨(some 17), (some (16, false)), .move (.t 4)⟩,
            .row ⟨(some 18), (some (16, false)), .bin .eql t_int32 true (.t 17) (.c (.int .i32 65533))⟩,
            .row ⟨(some 19), none, .pick (.t 16) (.c (.bool true)) (.t 18)⟩])
           (.cond (.t 19)
            (.seq
             (.ops [
              .row ⟨(some 2), none, .move (.c (.bool false))⟩])
             .ret)
            .skip)))))))))
   (.seq
    (.ops [
     .row ⟨(some 2), none, .move (.c (.bool true))⟩])
    .ret)))

theorem k_ref07_Plain : compF P f_ref07_Plain = .ok ⟨20, [.tmp 2], c_ref07_Plain⟩ := by kernel_rfl

/-- dryrot/dryrotref11.Decode, of 1 -/
noncomputable def c_ref11_Decode : CC :=
 (.seq
  (.ops [
   .row ⟨(some 2), none, .move (.c .nils)⟩,
   .row ⟨(some 3), none, .move (.c (.int .i64 0))⟩])
  (.seq
   (.seq
    (.ops [
     .row ⟨(some 12), none, .move (.t 0)⟩,
     .row ⟨(some 13), none, .lenV (.t 12)⟩,
     .row ⟨(some 14), none, .bin .lss t_int true (.t 13) (.c (.int .i64 2))⟩])
    (.cond (.t 14)
     (.seq
      (.ops [
       .row ⟨(some 2), none, .move (.c .nils)⟩,
       .row ⟨(some 3), none, .move (.c (.int .i64 5))⟩])
      .ret)
     .skip))
   (.seq
    (.ops [
     .row ⟨(some 16), none, .move (.t 0)⟩,
     .row ⟨(some 17), none, .sliceV 1 (.t 16) none (some (.c (.int .i64 2))) none⟩,
     .row ⟨(some 18), none, .callV (.c (.func (.func f_ref01_Get) [] [])) [(.t 17)]⟩,
     .row ⟨(some 15), none, .move (.t 18)⟩,
     .row ⟨(some 19), none, .extract (.t 15) 0⟩,
     .row ⟨(some 20), none, .extract (.t 15) 1⟩,
     .row ⟨(some 4), none, .move (.t 19)⟩,
     .row ⟨(some 5), none, .move (.t 20)⟩])
    (.seq
     (.ops [
      .row ⟨(some 21), none, .move (.t 0)⟩,
      .row ⟨(some 22), none, .sliceV 1 (.t 21) (some (.c (.int .i64 2))) none none⟩,
      .row ⟨(some 23), none, .build [.nils, (.int .i64 0), (.bool false)] [(0, 1, (.t 22))]⟩,
      .row ⟨(some 24), none, .box (.t 23)⟩,
      .row ⟨(some 6), none, .move (.t 24)⟩])
     (.seq
      (.ops [
       .row ⟨(some 7), none, .move (.c .nils)⟩])
      (.seq
       (.seq
        (.ops [
         .row ⟨(some 25), none, .move (.t 4)⟩,
         .row ⟨(some 26), none, .conv (.int .i64) (.t 25)⟩,
         .row ⟨(some 27), none, .move (.c (.int .i64 0))⟩])
        (.block 0
         (.loop
          (.seq
           (.ops [
            .row ⟨(some 28), none, .bin .lss t_int false (.t 27) (.t 26)⟩])
           (.seq
            (.cond (.t 28)
             .skip
             (.exit 0))
            (.seq
             (.block 1
              (.seq
               (.ops [
                .row ⟨(some 29), none, .move (.t 27)⟩,
                .row ⟨(some 8), none, .move (.t 29)⟩])
               (.seq
                (.ops [
                 .row ⟨(some 30), none, .build [(.int .i64 0), (.int .u64 0)] []⟩,
                 .row ⟨(some 9), none, .new [(.int .i64 0), (.int .u64 0)]⟩,
                 .row ⟨none, none, .store 2 (.t 9) (.t 30)⟩])
                (.seq
                 (.seq
                  (.ops [
                   .row ⟨(some 31), none, .move (.t 8)⟩])
                  (.block 2
                   (.seq
                    (.ops [
                     .row ⟨(some 67), none, .bin .eql t_int true (.t 31) (.c (.int .i64 0))⟩,
                     .row ⟨(some 66), none, .move (.t 67)⟩])
                    (.cond (.t 66)
                     (.seq
                      (.ops [
                       .row ⟨(some 68), none, .move (.t 6)⟩,
                       .row ⟨(some 69), none, .callV (.c (.func (.func f_ref11_in_take) [] [])) [(.t 68), (.c (.int .i64 64))]⟩,
                       .row ⟨(some 70), none, .conv (.int .i64) (.t 69)⟩,
                       .row ⟨(some 71), none, .fieldAddr 0 (.t 9)⟩,
                       .row ⟨none, none, .store 1 (.t 71) (.t 70)⟩])
                      (.ops [
                       .row ⟨(some 72), none, .move (.t 6)⟩,
                       .row ⟨(some 73), none, .callV (.c (.func (.func f_ref11_in_take) [] [])) [(.t 72), (.c (.int .i64 64))]⟩,
                       .row ⟨(some 74), none, .fieldAddr 1 (.t 9)⟩,
                       .row ⟨none, none, .store 1 (.t 74) (.t 73)⟩]))
                     (.seq
                      (.ops [
                       .row ⟨(some 76), none, .bin .eql t_int true (.t 31) (.c (.int .i64 1))⟩,
                       .row ⟨(some 75), none, .move (.t 76)⟩])
                      (.cond (.t 75)
                       (.seq
                        (.ops [
                         .row ⟨(some 77), none, .move (.t 7)⟩,
                         .row ⟨(some 78), none, .idxV 2 (.t 77) (.c (.int .i64 0))⟩,
                         .row ⟨(some 79), none, .fieldAddr 0 (.t 78)⟩,
                         .row ⟨(some 80), none, .load1 (.t 79)⟩,
                         .row ⟨(some 81), none, .move (.t 6)⟩,
                         .stage [⟨(some 80), none, .load1 (.t 79)⟩],
                         .row ⟨(some 82), none, .callV (.c (.func (.func f_ref11_in_takeInt) [] [])) [(.t 81)]⟩,
                         .row ⟨(some 83), none, .bin .add t_int false (.t 80) (.t 82)⟩,
                         .row ⟨(some 84), none, .fieldAddr 0 (.t 9)⟩,
                         .stage [⟨(some 80), none, .load1 (.t 79)⟩],
                         .row ⟨none, none, .store 1 (.t 84) (.t 83)⟩])
                        (.ops [
                         .row ⟨(some 85), none, .move (.t 7)⟩,
                         .row ⟨(some 86), none, .idxV 2 (.t 85) (.c (.int .i64 0))⟩,
                         .row ⟨(some 87), none, .fieldAddr 1 (.t 86)⟩,
                         .row ⟨(some 88), none, .load1 (.t 87)⟩,
                         .row ⟨(some 89), none, .move (.t 6)⟩,
                         .stage [⟨(some 88), none, .load1 (.t 87)⟩],
                         .row ⟨(some 90), none, .callV (.c (.func (.func f_ref11_in_takeXor) [] [])) [(.t 89)]⟩,
                         .row ⟨(some 91), none, .bin .xor t_uint64 false (.t 88) (.t 90)⟩,
                         .row ⟨(some 92), none, .fieldAddr 1 (.t 9)⟩,
                         .stage [⟨(some 88), none, .load1 (.t 87)⟩],
                         .row ⟨none, none, .store 1 (.t 92) (.t 91)⟩]))
                       (.seq
                        (.ops [
                         .row ⟨(some 32), none, .move (.t 7)⟩,
                         .row ⟨(some 33), none, .move (.t 8)⟩,
                         .row ⟨(some 34), none, .bin .sub t_int true (.t 33) (.c (.int .i64 1))⟩,
                         .row ⟨(some 35), none, .idxV 2 (.t 32) (.t 34)⟩,
                         .row ⟨(some 36), none, .fieldAddr 0 (.t 35)⟩,
                         .row ⟨(some 37), none, .load1 (.t 36)⟩,
                         .row ⟨(some 38), none, .move (.t 7)⟩,
                         .row ⟨(some 39), none, .move (.t 8)⟩,
                         .row ⟨(some 40), none, .bin .sub t_int true (.t 39) (.c (.int .i64 1))⟩,
                         .row ⟨(some 41), none, .idxV 2 (.t 38) (.t 40)⟩,
                         .row ⟨(some 42), none, .fieldAddr 0 (.t 41)⟩,
                         .row ⟨(some 43), none, .load1 (.t 42)⟩,
                         .row ⟨(some 44), none, .move (.t 7)⟩,
                         .row ⟨(some 45), none, .move (.t 8)⟩,
                         .row ⟨(some 46), none, .bin .sub t_int true (.t 45) (.c (.int .i64 2))⟩,
                         .row ⟨(some 47), none, .idxV 2 (.t 44) (.t 46)⟩,
                         .row ⟨(some 48), none, .fieldAddr 0 (.t 47)⟩,
                         .row ⟨(some 49), none, .load1 (.t 48)⟩,
                         .row ⟨(some 50), none, .bin .sub t_int false (.t 43) (.t 49)⟩,
                         .row ⟨(some 51), none, .bin .add t_int false (.t 37) (.t 50)⟩,
                         .row ⟨(some 52), none, .move (.t 6)⟩,
                         .stage [⟨(some 49), none, .load1 (.t 48)⟩, ⟨(some 43), none, .load1 (.t 42)⟩, ⟨(some 37), none, .load1 (.t 36)⟩],
                         .row ⟨(some 53), none, .callV (.c (.func (.func f_ref11_in_takeInt) [] [])) [(.t 52)]⟩,
                         .row ⟨(some 54), none, .bin .add t_int false (.t 51) (.t 53)⟩,
                         .row ⟨(some 55), none, .fieldAddr 0 (.t 9)⟩,
                         .stage [⟨(some 49), none, .load1 (.t 48)⟩, ⟨(some 43), none, .load1 (.t 42)⟩, ⟨(some 37), none, .load1 (.t 36)⟩],
                         .row ⟨none, none, .store 1 (.t 55) (.t 54)⟩])
                        (.ops [
                         .row ⟨(some 56), none, .move (.t 7)⟩,
                         .row ⟨(some 57), none, .move (.t 8)⟩,
                         .row ⟨(some 58), none, .bin .sub t_int true (.t 57) (.c (.int .i64 1))⟩,
                         .row ⟨(some 59), none, .idxV 2 (.t 56) (.t 58)⟩,
                         .row ⟨(some 60), none, .fieldAddr 1 (.t 59)⟩,
                         .row ⟨(some 61), none, .load1 (.t 60)⟩,
                         .row ⟨(some 62), none, .move (.t 6)⟩,
                         .stage [⟨(some 61), none, .load1 (.t 60)⟩],
                         .row ⟨(some 63), none, .callV (.c (.func (.func f_ref11_in_takeXor) [] [])) [(.t 62)]⟩,
                         .row ⟨(some 64), none, .bin .xor t_uint64 false (.t 61) (.t 63)⟩,
                         .row ⟨(some 65), none, .fieldAddr 1 (.t 9)⟩,
                         .stage [⟨(some 61), none, .load1 (.t 60)⟩],
                         .row ⟨none, none, .store 1 (.t 65) (.t 64)⟩]))))))))
                 (.seq
                  (.seq
                   (.ops [
                    .row ⟨(some 93), none, .move (.t 6)⟩,
                    .row ⟨(some 94), none, .nilCheck (.t 93)⟩,
                    .row ⟨(some 95), none, .fieldAddr 2 (.t 94)⟩,
                    .row ⟨(some 96), none, .load1 (.t 95)⟩])
                   (.cond (.t 96)
                    (.seq
                     (.ops [
                      .row ⟨(some 2), none, .move (.c .nils)⟩,
                      .row ⟨(some 3), none, .move (.c (.int .i64 5))⟩])
                     .ret)
                    .skip))
                  (.ops [
                   .row ⟨(some 97), none, .move (.t 7)⟩,
                   .row ⟨(some 98), none, .loadN 2 (.t 9)⟩,
                   .row ⟨(some 99), none, .buildSlice 1 2 [(.int .i64 0), (.int .u64 0)] [(0, 2, (.t 98))]⟩,
                   .row ⟨(some 100), none, .app 2 16 (.t 97) (.t 99)⟩,
                   .row ⟨(some 7), none, .move (.t 100)⟩]))))))
             (.ops [
              .row ⟨(some 101), none, .bin .add t_int true (.t 27) (.c (.int .i64 1))⟩,
              .row ⟨(some 27), none, .move (.t 101)⟩])))))))
       (.seq
        (.ops [
         .row ⟨(some 103), none, .move (.t 7)⟩,
         .row ⟨(some 104), none, .callV (.c (.func (.func f_ref11_Encode) [] [])) [(.t 103)]⟩,
         .row ⟨(some 102), none, .move (.t 104)⟩,
         .row ⟨(some 105), none, .extract (.t 102) 0⟩,
         .row ⟨(some 106), none, .extract (.t 102) 1⟩,
         .row ⟨(some 10), none, .move (.t 105)⟩,
         .row ⟨(some 11), none, .move (.t 106)⟩])
        (.seq
         (.seq
          (.ops [
           .row ⟨(some 107), none, .move (.t 11)⟩,
           .row ⟨(some 108), none, .bin .neq t_api_Errno true (.t 107) (.c (.int .i64 0))⟩,
           .row ⟨(some 109), none, .move (.t 108)⟩,
           .row ⟨(some 110), (some (109, false)), .move (.t 10)⟩,
           .row ⟨(some 111), (some (109, false)), .conv .strB (.t 110)⟩,
           .row ⟨(some 112), (some (109, false)), .move (.t 0)⟩,
           .row ⟨(some 113), (some (109, false)), .conv .strB (.t 112)⟩,
           .row ⟨(some 114), (some (109, false)), .bin .neq t_string false (.t 111) (.t 113)⟩,
           .row ⟨(some 115), none, .pick (.t 109) (.c (.bool true)) (.t 114)⟩])
          (.cond (.t 115)
           (.seq
            (.ops [
             .row ⟨(some 2), none, .move (.c .nils)⟩,
             .row ⟨(some 3), none, .move (.c (.int .i64 5))⟩])
            .ret)
           .skip))
         (.seq
          (.ops [
           .row ⟨(some 116), none, .move (.t 7)⟩,
           .row ⟨(some 2), none, .move (.t 116)⟩,
           .row ⟨(some 3), none, .move (.c (.int .i64 0))⟩])
          .ret)))))))))

theorem k_ref11_Decode : compF P f_ref11_Decode = .ok ⟨117, [.tmp 2, .tmp 3], c_ref11_Decode⟩ := by kernel_rfl

/-- (*dryrot/dryrotref11.in).take, of 2 -/
noncomputable def c_ref11_in_take : CC :=
 (.seq
  (.ops [
   .row ⟨(some 4), none, .move (.c (.int .u64 0))⟩])
  (.seq
   (.ops [
    .row ⟨(some 5), none, .move (.c (.int .u64 0))⟩])
   (.seq
    (.seq
     (.ops [
      .row ⟨(some 6), none, .move (.t 1)⟩,
      .row ⟨(some 7), none, .move (.c (.int .i64 0))⟩])
     (.block 0
      (.loop
       (.seq
        (.ops [
         .row ⟨(some 8), none, .bin .lss t_int false (.t 7) (.t 6)⟩])
        (.seq
         (.cond (.t 8)
          .skip
          (.exit 0))
         (.seq
          (.block 1
           (.seq
            (.seq
             (.ops [
              .row ⟨(some 9), none, .move (.t 0)⟩,
              .row ⟨(some 10), none, .nilCheck (.t 9)⟩,
              .row ⟨(some 11), none, .fieldAddr 1 (.t 10)⟩,
              .row ⟨(some 12), none, .load1 (.t 11)⟩,
              .row ⟨(some 13), none, .move (.t 0)⟩,
              .row ⟨(some 14), none, .nilCheck (.t 13)⟩,
              .row ⟨(some 15), none, .fieldAddr 0 (.t 14)⟩,
              .row ⟨(some 16), none, .load1 (.t 15)⟩,
              .row ⟨(some 17), none, .lenV (.t 16)⟩,
              .row ⟨(some 18), none, .bin .mul t_int true (.c (.int .i64 8)) (.t 17)⟩,
              .row ⟨(some 19), none, .bin .geq t_int false (.t 12) (.t 18)⟩,
              .stage [⟨(some 16), none, .load1 (.t 15)⟩, ⟨(some 12), none, .load1 (.t 11)⟩]])
             (.cond (.t 19)
              (.seq
               (.ops [
                .row ⟨(some 20), none, .move (.t 0)⟩,
                .row ⟨(some 21), none, .nilCheck (.t 20)⟩,
                .row ⟨(some 22), none, .fieldAddr 2 (.t 21)⟩,
                .row ⟨none, none, .store 1 (.t 22) (.c (.bool true))⟩])
               (.seq
                (.ops [
                 .row ⟨(some 4), none, .move (.c (.int .u64 0))⟩])
                .ret))
              .skip))
            (.seq
             (.ops [
              .row ⟨(some 23), none, .move (.t 5)⟩,
              .row ⟨(some 24), none, .bin .mul t_uint64 true (.t 23) (.c (.int .u64 2))⟩,
              .row ⟨(some 25), none, .move (.t 0)⟩,
              .row ⟨(some 26), none, .nilCheck (.t 25)⟩,
              .row ⟨(some 27), none, .fieldAddr 0 (.t 26)⟩,
              .row ⟨(some 28), none, .load1 (.t 27)⟩,
              .row ⟨(some 29), none, .move (.t 0)⟩,
              .row ⟨(some 30), none, .nilCheck (.t 29)⟩,
              .row ⟨(some 31), none, .fieldAddr 1 (.t 30)⟩,
              .row ⟨(some 32), none, .load1 (.t 31)⟩,
              .row ⟨(some 33), none, .bin .quo t_int true (.t 32) (.c (.int .i64 8))⟩,
              .row ⟨(some 34), none, .idxV 1 (.t 28) (.t 33)⟩,
              .row ⟨(some 35), none, .load1 (.t 34)⟩,
              .row ⟨(some 36), none, .move (.t 0)⟩,
              .row ⟨(some 37), none, .nilCheck (.t 36)⟩,
              .row ⟨(some 38), none, .fieldAddr 1 (.t 37)⟩,
              .row ⟨(some 39), none, .load1 (.t 38)⟩,
              .row ⟨(some 40), none, .bin .rem t_int true (.t 39) (.c (.int .i64 8))⟩,
              .row ⟨(some 41), none, .bin .sub t_int true (.c (.int .i64 7)) (.t 40)⟩,
              .row ⟨(some 42), none, .bin .shr t_uint8 false (.t 35) (.t 41)⟩,
              .row ⟨(some 43), none, .bin .and t_uint8 true (.t 42) (.c (.int .u8 1))⟩,
              .row ⟨(some 44), none, .conv (.int .u64) (.t 43)⟩,
              .row ⟨(some 45), none, .bin .add t_uint64 false (.t 24) (.t 44)⟩,
              .row ⟨(some 5), none, .move (.t 45)⟩,
              .stage [⟨(some 39), none, .load1 (.t 38)⟩, ⟨(some 35), none, .load1 (.t 34)⟩, ⟨(some 32), none, .load1 (.t 31)⟩, ⟨(some 28), none, .load1 (.t 27)⟩]])
             (.ops [
              .row ⟨(some 46), none, .move (.t 0)⟩,
              .row ⟨(some 47), none, .nilCheck (.t 46)⟩,
              .row ⟨(some 48), none, .fieldAddr 1 (.t 47)⟩,
              .row ⟨(some 49), none, .load1 (.t 48)⟩,
              .row ⟨(some 50), none, .bin .add t_int true (.t 49) (.c (.int .i64 1))⟩,
              .row ⟨(some 51), none, .nilCheck (.t 46)⟩,
              .row ⟨(some 52), none, .fieldAddr 1 (.t 51)⟩,
              .row ⟨none, none, .store 1 (.t 52) (.t 50)⟩]))))
          (.ops [
           .row ⟨(some 53), none, .bin .add t_int true (.t 7) (.c (.int .i64 1))⟩,
           .row ⟨(some 7), none, .move (.t 53)⟩])))))))
    (.seq
     (.ops [
      .row ⟨(some 54), none, .move (.t 5)⟩,
      .row ⟨(some 4), none, .move (.t 54)⟩])
     .ret))))

theorem k_ref11_in_take : compF P f_ref11_in_take = .ok ⟨55, [.tmp 4], c_ref11_in_take⟩ := by kernel_rfl

/-- (*dryrot/dryrotref11.in).takeInt, of 1 -/
noncomputable def c_ref11_in_takeInt : CC :=
 (.seq
  (.ops [
   .row ⟨(some 2), none, .move (.c (.int .i64 0))⟩])
  (.seq
   (.ops [
    .row ⟨(some 3), none, .move (.c (.int .i64 0))⟩])
   (.seq
    (.block 0
     (.loop
      (.seq
       (.seq
        (.ops [
         .row ⟨(some 6), none, .move (.t 3)⟩,
         .row ⟨(some 7), none, .bin .lss t_int true (.t 6) (.c (.int .i64 4))⟩,
         .row ⟨(some 8), none, .move (.t 7)⟩,
         .row ⟨(some 9), (some (8, true)), .move (.t 0)⟩,
         .row ⟨(some 10), (some (8, true)), .callV (.c (.func (.func f_ref11_in_take) [] [])) [(.t 9), (.c (.int .i64 1))]⟩,
         .row ⟨(some 11), (some (8, true)), .bin .eql t_uint64 true (.t 10) (.c (.int .u64 1))⟩,
         .row ⟨(some 12), none, .pick (.t 8) (.t 11) (.c (.bool false))⟩])
        (.cond (.t 12)
         .skip
         (.exit 0)))
       (.block 1
        (.ops [
         .row ⟨(some 13), none, .move (.t 3)⟩,
         .row ⟨(some 14), none, .bin .add t_int true (.t 13) (.c (.int .i64 1))⟩,
         .row ⟨(some 3), none, .move (.t 14)⟩])))))
    (.seq
     (.ops [
      .row ⟨(some 15), none, .buildSlice 5 1 [(.int .i64 0), (.int .i64 0), (.int .i64 0), (.int .i64 0), (.int .i64 0)] [(0, 1, (.c (.int .i64 0))), (1, 1, (.c (.int .i64 7))), (2, 1, (.c (.int .i64 12))), (3, 1, (.c (.int .i64 32))), (4, 1, (.c (.int .i64 64)))]⟩,
      .row ⟨(some 16), none, .move (.t 3)⟩,
      .row ⟨(some 17), none, .idxV 1 (.t 15) (.t 16)⟩,
      .row ⟨(some 18), none, .load1 (.t 17)⟩,
      .row ⟨(some 4), none, .move (.t 18)⟩])
     (.seq
      (.ops [
       .row ⟨(some 19), none, .move (.t 0)⟩,
       .row ⟨(some 20), none, .move (.t 4)⟩,
       .row ⟨(some 21), none, .callV (.c (.func (.func f_ref11_in_take) [] [])) [(.t 19), (.t 20)]⟩,
       .row ⟨(some 22), none, .conv (.int .i64) (.t 21)⟩,
       .row ⟨(some 5), none, .move (.t 22)⟩])
      (.seq
       (.seq
        (.ops [
         .row ⟨(some 23), none, .move (.t 4)⟩,
         .row ⟨(some 24), none, .bin .gtr t_int true (.t 23) (.c (.int .i64 0))⟩,
         .row ⟨(some 25), none, .move (.t 24)⟩,
         .row ⟨(some 26), (some (25, true)), .move (.t 4)⟩,
         .row ⟨(some 27), (some (25, true)), .bin .lss t_int true (.t 26) (.c (.int .i64 64))⟩,
         .row ⟨(some 28), none, .pick (.t 25) (.t 27) (.c (.bool false))⟩,
         .row ⟨(some 29), none, .move (.t 28)⟩,
         .row ⟨(some 30), (some (29, true)), .move (.t 5)⟩,
         .row ⟨(some 31), (some (29, true)), .move (.t 4)⟩,
         .row ⟨(some 32), (some (29, true)), .bin .sub t_int true (.t 31) (.c (.int .i64 1))⟩,
         .row ⟨(some 33), (some (29, true)), .bin .shl t_int true (.c (.int .i64 1)) (.t 32)⟩,
         .row ⟨(some 34), (some (29, true)), .bin .geq t_int false (.t 30) (.t 33)⟩,
         .row ⟨(some 35), none, .pick (.t 29) (.t 34) (.c (.bool false))⟩])
        (.cond (.t 35)
         (.ops [
          .row ⟨(some 36), none, .move (.t 5)⟩,
          .row ⟨(some 37), none, .move (.t 4)⟩,
          .row ⟨(some 38), none, .bin .shl t_int true (.c (.int .i64 1)) (.t 37)⟩,
          .row ⟨(some 39), none, .bin .sub t_int false (.t 36) (.t 38)⟩,
          .row ⟨(some 5), none, .move (.t 39)⟩])
         .skip))
       (.seq
        (.ops [
         .row ⟨(some 40), none, .move (.t 5)⟩,
         .row ⟨(some 2), none, .move (.t 40)⟩])
        .ret)))))))

theorem k_ref11_in_takeInt : compF P f_ref11_in_takeInt = .ok ⟨41, [.tmp 2], c_ref11_in_takeInt⟩ := by kernel_rfl

/-- (*dryrot/dryrotref11.in).takeXor, of 1 -/
noncomputable def c_ref11_in_takeXor : CC :=
 (.seq
  (.ops [
   .row ⟨(some 2), none, .move (.c (.int .u64 0))⟩])
  (.seq
   (.seq
    (.ops [
     .row ⟨(some 6), none, .move (.t 0)⟩,
     .row ⟨(some 7), none, .callV (.c (.func (.func f_ref11_in_take) [] [])) [(.t 6), (.c (.int .i64 1))]⟩,
     .row ⟨(some 8), none, .bin .eql t_uint64 true (.t 7) (.c (.int .u64 0))⟩])
    (.cond (.t 8)
     (.seq
      (.ops [
       .row ⟨(some 2), none, .move (.c (.int .u64 0))⟩])
      .ret)
     .skip))
   (.seq
    (.ops [
     .row ⟨(some 9), none, .move (.t 0)⟩,
     .row ⟨(some 10), none, .callV (.c (.func (.func f_ref11_in_take) [] [])) [(.t 9), (.c (.int .i64 6))]⟩,
     .row ⟨(some 11), none, .conv (.int .i64) (.t 10)⟩,
     .row ⟨(some 3), none, .move (.t 11)⟩])
    (.seq
     (.ops [
      .row ⟨(some 12), none, .move (.t 0)⟩,
      .row ⟨(some 13), none, .callV (.c (.func (.func f_ref11_in_take) [] [])) [(.t 12), (.c (.int .i64 6))]⟩,
      .row ⟨(some 14), none, .conv (.int .i64) (.t 13)⟩,
      .row ⟨(some 15), none, .bin .add t_int true (.t 14) (.c (.int .i64 1))⟩,
      .row ⟨(some 4), none, .move (.t 15)⟩])
     (.seq
      (.ops [
       .row ⟨(some 16), none, .move (.t 0)⟩,
       .row ⟨(some 17), none, .move (.t 4)⟩,
       .row ⟨(some 18), none, .callV (.c (.func (.func f_ref11_in_take) [] [])) [(.t 16), (.t 17)]⟩,
       .row ⟨(some 5), none, .move (.t 18)⟩])
      (.seq
       (.seq
        (.ops [
         .row ⟨(some 19), none, .move (.t 3)⟩,
         .row ⟨(some 20), none, .move (.t 4)⟩,
         .row ⟨(some 21), none, .bin .add t_int false (.t 19) (.t 20)⟩,
         .row ⟨(some 22), none, .bin .gtr t_int true (.t 21) (.c (.int .i64 64))⟩])
        (.cond (.t 22)
         (.seq
          (.ops [
           .row ⟨(some 23), none, .move (.t 0)⟩,
           .row ⟨(some 24), none, .nilCheck (.t 23)⟩,
           .row ⟨(some 25), none, .fieldAddr 2 (.t 24)⟩,
           .row ⟨none, none, .store 1 (.t 25) (.c (.bool true))⟩])
          (.seq
           (.ops [
            .row ⟨(some 2), none, .move (.c (.int .u64 0))⟩])
           .ret))
         .skip))
       (.seq
        (.ops [
         .row ⟨(some 26), none, .move (.t 5)⟩,
         .row ⟨(some 27), none, .move (.t 3)⟩,
         .row ⟨(some 28), none, .bin .sub t_int true (.c (.int .i64 64)) (.t 27)⟩,
         .row ⟨(some 29), none, .move (.t 4)⟩,
         .row ⟨(some 30), none, .bin .sub t_int false (.t 28) (.t 29)⟩,
         .row ⟨(some 31), none, .bin .shl t_uint64 false (.t 26) (.t 30)⟩,
         .row ⟨(some 2), none, .move (.t 31)⟩])
        .ret)))))))

theorem k_ref11_in_takeXor : compF P f_ref11_in_takeXor = .ok ⟨32, [.tmp 2], c_ref11_in_takeXor⟩ := by kernel_rfl

/-- dryrot/dryrotref11.Encode, of 1 -/
noncomputable def c_ref11_Encode : CC :=
 (.seq
  (.ops [
   .row ⟨(some 2), none, .move (.c .nils)⟩,
   .row ⟨(some 3), none, .move (.c (.int .i64 0))⟩])
  (.seq
   (.seq
    (.ops [
     .row ⟨(some 10), none, .move (.t 0)⟩,
     .row ⟨(some 11), none, .callV (.c (.func (.func f_ref11_Can) [] [])) [(.t 10)]⟩,
     .row ⟨(some 12), none, .un .not (.t 11)⟩])
    (.cond (.t 12)
     (.seq
      (.ops [
       .row ⟨(some 2), none, .move (.c .nils)⟩,
       .row ⟨(some 3), none, .move (.c (.int .i64 1))⟩])
      .ret)
     .skip))
   (.seq
    (.ops [
     .row ⟨(some 13), none, .build [.nils] []⟩,
     .row ⟨(some 14), none, .box (.t 13)⟩,
     .row ⟨(some 4), none, .move (.t 14)⟩])
    (.seq
     (.seq
      (.ops [
       .row ⟨(some 15), none, .move (.t 0)⟩,
       .row ⟨(some 16), none, .lenV (.t 15)⟩,
       .row ⟨(some 17), none, .move (.c (.int .i64 0))⟩])
      (.block 0
       (.loop
        (.seq
         (.ops [
          .row ⟨(some 18), none, .bin .lss t_int false (.t 17) (.t 16)⟩])
         (.seq
          (.cond (.t 18)
           .skip
           (.exit 0))
          (.seq
           (.block 1
            (.seq
             (.ops [
              .row ⟨(some 19), none, .move (.t 17)⟩,
              .row ⟨(some 20), none, .idxV 2 (.t 15) (.t 17)⟩,
              .row ⟨(some 21), none, .loadN 2 (.t 20)⟩,
              .row ⟨(some 6), none, .new [(.int .i64 0), (.int .u64 0)]⟩,
              .row ⟨(some 5), none, .move (.t 19)⟩,
              .row ⟨none, none, .store 2 (.t 6) (.t 21)⟩])
             (.seq
              (.seq
               (.ops [
                .row ⟨(some 22), none, .move (.t 5)⟩])
               (.block 2
                (.seq
                 (.ops [
                  .row ⟨(some 49), none, .bin .eql t_int true (.t 22) (.c (.int .i64 0))⟩,
                  .row ⟨(some 48), none, .move (.t 49)⟩])
                 (.cond (.t 48)
                  (.seq
                   (.ops [
                    .row ⟨(some 50), none, .move (.t 4)⟩,
                    .row ⟨(some 51), none, .fieldAddr 0 (.t 6)⟩,
                    .row ⟨(some 52), none, .load1 (.t 51)⟩,
                    .row ⟨(some 53), none, .conv (.int .u64) (.t 52)⟩,
                    .row ⟨(some 54), none, .callV (.c (.func (.func f_ref11_out_put) [] [])) [(.t 50), (.t 53), (.c (.int .i64 64))]⟩])
                   (.seq
                    (.ops [
                     .row ⟨(some 55), none, .move (.t 4)⟩,
                     .row ⟨(some 56), none, .fieldAddr 1 (.t 6)⟩,
                     .row ⟨(some 57), none, .load1 (.t 56)⟩,
                     .row ⟨(some 58), none, .callV (.c (.func (.func f_ref11_out_put) [] [])) [(.t 55), (.t 57), (.c (.int .i64 64))]⟩])
                    (.exit 1)))
                  (.seq
                   (.ops [
                    .row ⟨(some 60), none, .bin .eql t_int true (.t 22) (.c (.int .i64 1))⟩,
                    .row ⟨(some 59), none, .move (.t 60)⟩])
                   (.cond (.t 59)
                    (.ops [
                     .row ⟨(some 61), none, .move (.t 4)⟩,
                     .row ⟨(some 62), none, .fieldAddr 0 (.t 6)⟩,
                     .row ⟨(some 63), none, .load1 (.t 62)⟩,
                     .row ⟨(some 64), none, .move (.t 0)⟩,
                     .row ⟨(some 65), none, .idxV 2 (.t 64) (.c (.int .i64 0))⟩,
                     .row ⟨(some 66), none, .fieldAddr 0 (.t 65)⟩,
                     .row ⟨(some 67), none, .load1 (.t 66)⟩,
                     .row ⟨(some 68), none, .bin .sub t_int false (.t 63) (.t 67)⟩,
                     .stage [⟨(some 67), none, .load1 (.t 66)⟩, ⟨(some 63), none, .load1 (.t 62)⟩],
                     .row ⟨(some 69), none, .callV (.c (.func (.func f_ref11_out_putInt) [] [])) [(.t 61), (.t 68)]⟩])
                    (.ops [
                     .row ⟨(some 23), none, .move (.t 4)⟩,
                     .row ⟨(some 24), none, .fieldAddr 0 (.t 6)⟩,
                     .row ⟨(some 25), none, .load1 (.t 24)⟩,
                     .row ⟨(some 26), none, .move (.t 0)⟩,
                     .row ⟨(some 27), none, .move (.t 5)⟩,
                     .row ⟨(some 28), none, .bin .sub t_int true (.t 27) (.c (.int .i64 1))⟩,
                     .row ⟨(some 29), none, .idxV 2 (.t 26) (.t 28)⟩,
                     .row ⟨(some 30), none, .fieldAddr 0 (.t 29)⟩,
                     .row ⟨(some 31), none, .load1 (.t 30)⟩,
                     .row ⟨(some 32), none, .bin .sub t_int false (.t 25) (.t 31)⟩,
                     .row ⟨(some 33), none, .move (.t 0)⟩,
                     .row ⟨(some 34), none, .move (.t 5)⟩,
                     .row ⟨(some 35), none, .bin .sub t_int true (.t 34) (.c (.int .i64 1))⟩,
                     .row ⟨(some 36), none, .idxV 2 (.t 33) (.t 35)⟩,
                     .row ⟨(some 37), none, .fieldAddr 0 (.t 36)⟩,
                     .row ⟨(some 38), none, .load1 (.t 37)⟩,
                     .row ⟨(some 39), none, .move (.t 0)⟩,
                     .row ⟨(some 40), none, .move (.t 5)⟩,
                     .row ⟨(some 41), none, .bin .sub t_int true (.t 40) (.c (.int .i64 2))⟩,
                     .row ⟨(some 42), none, .idxV 2 (.t 39) (.t 41)⟩,
                     .row ⟨(some 43), none, .fieldAddr 0 (.t 42)⟩,
                     .row ⟨(some 44), none, .load1 (.t 43)⟩,
                     .row ⟨(some 45), none, .bin .sub t_int false (.t 38) (.t 44)⟩,
                     .row ⟨(some 46), none, .bin .sub t_int false (.t 32) (.t 45)⟩,
                     .stage [⟨(some 44), none, .load1 (.t 43)⟩, ⟨(some 38), none, .load1 (.t 37)⟩, ⟨(some 31), none, .load1 (.t 30)⟩, ⟨(some 25), none, .load1 (.t 24)⟩],
                     .row ⟨(some 47), none, .callV (.c (.func (.func f_ref11_out_putInt) [] [])) [(.t 23), (.t 46)]⟩])))))))
              (.ops [
               .row ⟨(some 70), none, .move (.t 4)⟩,
               .row ⟨(some 71), none, .fieldAddr 1 (.t 6)⟩,
               .row ⟨(some 72), none, .load1 (.t 71)⟩,
               .row ⟨(some 73), none, .move (.t 0)⟩,
               .row ⟨(some 74), none, .move (.t 5)⟩,
               .row ⟨(some 75), none, .bin .sub t_int true (.t 74) (.c (.int .i64 1))⟩,
               .row ⟨(some 76), none, .idxV 2 (.t 73) (.t 75)⟩,
               .row ⟨(some 77), none, .fieldAddr 1 (.t 76)⟩,
               .row ⟨(some 78), none, .load1 (.t 77)⟩,
               .row ⟨(some 79), none, .bin .xor t_uint64 false (.t 72) (.t 78)⟩,
               .stage [⟨(some 78), none, .load1 (.t 77)⟩, ⟨(some 72), none, .load1 (.t 71)⟩],
               .row ⟨(some 80), none, .callV (.c (.func (.func f_ref11_out_putXor) [] [])) [(.t 70), (.t 79)]⟩]))))
           (.ops [
            .row ⟨(some 81), none, .bin .add t_int true (.t 17) (.c (.int .i64 1))⟩,
            .row ⟨(some 17), none, .move (.t 81)⟩])))))))
     (.seq
      (.ops [
       .row ⟨(some 82), none, .move (.t 0)⟩,
       .row ⟨(some 83), none, .lenV (.t 82)⟩,
       .row ⟨(some 84), none, .conv (.int .u64) (.t 83)⟩,
       .row ⟨(some 85), none, .callV (.c (.func (.func f_ref01_Put) [] [])) [(.t 84), (.c (.int .i64 2))]⟩,
       .row ⟨(some 7), none, .move (.t 85)⟩])
      (.seq
       (.seq
        (.ops [
         .row ⟨(some 86), none, .move (.t 4)⟩,
         .row ⟨(some 87), none, .nilCheck (.t 86)⟩,
         .row ⟨(some 88), none, .fieldAddr 0 (.t 87)⟩,
         .row ⟨(some 89), none, .load1 (.t 88)⟩,
         .row ⟨(some 90), none, .lenV (.t 89)⟩,
         .row ⟨(some 91), none, .move (.c (.int .i64 0))⟩])
        (.block 3
         (.loop
          (.seq
           (.ops [
            .row ⟨(some 92), none, .bin .lss t_int false (.t 91) (.t 90)⟩])
           (.seq
            (.cond (.t 92)
             .skip
             (.exit 3))
            (.seq
             (.block 4
              (.seq
               (.ops [
                .row ⟨(some 93), none, .move (.t 91)⟩,
                .row ⟨(some 94), none, .idxV 1 (.t 89) (.t 91)⟩,
                .row ⟨(some 95), none, .load1 (.t 94)⟩,
                .row ⟨(some 8), none, .move (.t 93)⟩,
                .row ⟨(some 9), none, .move (.t 95)⟩])
               (.seq
                (.seq
                 (.ops [
                  .row ⟨(some 96), none, .move (.t 8)⟩,
                  .row ⟨(some 97), none, .bin .rem t_int true (.t 96) (.c (.int .i64 8))⟩,
                  .row ⟨(some 98), none, .bin .eql t_int true (.t 97) (.c (.int .i64 0))⟩])
                 (.cond (.t 98)
                  (.ops [
                   .row ⟨(some 99), none, .move (.t 7)⟩,
                   .row ⟨(some 100), none, .buildSlice 1 1 [(.int .u8 0)] [(0, 1, (.c (.int .u8 0)))]⟩,
                   .row ⟨(some 101), none, .app 1 1 (.t 99) (.t 100)⟩,
                   .row ⟨(some 7), none, .move (.t 101)⟩])
                  .skip))
                (.seq
                 (.ops [
                  .row ⟨(some 102), none, .move (.t 9)⟩])
                 (.cond (.t 102)
                  (.ops [
                   .row ⟨(some 103), none, .move (.t 7)⟩,
                   .row ⟨(some 104), none, .move (.t 7)⟩,
                   .row ⟨(some 105), none, .lenV (.t 104)⟩,
                   .row ⟨(some 106), none, .bin .sub t_int true (.t 105) (.c (.int .i64 1))⟩,
                   .row ⟨(some 107), none, .move (.t 7)⟩,
                   .row ⟨(some 108), none, .move (.t 7)⟩,
                   .row ⟨(some 109), none, .lenV (.t 108)⟩,
                   .row ⟨(some 110), none, .bin .sub t_int true (.t 109) (.c (.int .i64 1))⟩,
                   .row ⟨(some 111), none, .idxV 1 (.t 107) (.t 110)⟩,
                   .row ⟨(some 112), none, .load1 (.t 111)⟩,
                   .row ⟨(some 113), none, .move (.t 8)⟩,
                   .row ⟨(some 114), none, .bin .rem t_int true (.t 113) (.c (.int .i64 8))⟩,
                   .row ⟨(some 115), none, .bin .shr t_uint8 true (.c (.int .u8 128)) (.t 114)⟩,
                   .row ⟨(some 116), none, .bin .or t_uint8 false (.t 112) (.t 115)⟩,
                   .row ⟨(some 117), none, .idxV 1 (.t 103) (.t 106)⟩,
                   .stage [⟨(some 112), none, .load1 (.t 111)⟩],
                   .row ⟨none, none, .store 1 (.t 117) (.t 116)⟩])
                  .skip)))))
             (.ops [
              .row ⟨(some 118), none, .bin .add t_int true (.t 91) (.c (.int .i64 1))⟩,
              .row ⟨(some 91), none, .move (.t 118)⟩])))))))
       (.seq
        (.ops [
         .row ⟨(some 119), none, .move (.t 7)⟩,
         .row ⟨(some 2), none, .move (.t 119)⟩,
         .row ⟨(some 3), none, .move (.c (.int .i64 0))⟩])
        .ret)))))))

theorem k_ref11_Encode : compF P f_ref11_Encode = .ok ⟨120, [.tmp 2, .tmp 3], c_ref11_Encode⟩ := by kernel_rfl

/-- dryrot/dryrotref11.Can, of 1 -/
noncomputable def c_ref11_Can : CC :=
 (.seq
  (.ops [
   .row ⟨(some 2), none, .move (.c (.bool false))⟩])
  (.seq
   (.seq
    (.ops [
     .row ⟨(some 4), none, .move (.t 0)⟩,
     .row ⟨(some 5), none, .lenV (.t 4)⟩,
     .row ⟨(some 6), none, .move (.c (.int .i64 0))⟩])
    (.block 0
     (.loop
      (.seq
       (.ops [
        .row ⟨(some 7), none, .bin .lss t_int false (.t 6) (.t 5)⟩])
       (.seq
        (.cond (.t 7)
         .skip
         (.exit 0))
        (.seq
         (.block 1
          (.seq
           (.ops [
            .row ⟨(some 8), none, .move (.t 6)⟩,
            .row ⟨(some 3), none, .move (.t 8)⟩])
           (.seq
            (.ops [
             .row ⟨(some 9), none, .move (.t 3)⟩,
             .row ⟨(some 10), none, .bin .gtr t_int true (.t 9) (.c (.int .i64 0))⟩,
             .row ⟨(some 11), none, .move (.t 10)⟩,
             .row ⟨(some 12), (some (11, true)), .move (.t 0)⟩,
             .row ⟨(some 13), (some (11, true)), .move (.t 3)⟩,
             .row ⟨(some 14), (some (11, true)), .bin .sub t_int true (.t 13) (.c (.int .i64 1))⟩,
             .row ⟨(some 15), (some (11, true)), .idxV 2 (.t 12) (.t 14)⟩,
             .row ⟨(some 16), (some (11, true)), .fieldAddr 0 (.t 15)⟩,
             .row ⟨(some 17), (some (11, true)), .load1 (.t 16)⟩,
             .row ⟨(some 18), (some (11, true)), .move (.t 0)⟩,
             .row ⟨(some 19), (some (11, true)), .move (.t 3)⟩,
             .row ⟨(some 20), (some (11, true)), .idxV 2 (.t 18) (.t 19)⟩,
             .row ⟨(some 21), (some (11, true)), .fieldAddr 0 (.t 20)⟩,
             .row ⟨(some 22), (some (11, true)), .load1 (.t 21)⟩,
             .row ⟨(some 23), (some (11, true)), .bin .geq t_int false (.t 17) (.t 22)⟩,
             .row ⟨(some 24), none, .pick (.t 11) (.t 23) (.c (.bool false))⟩,
             .stage [⟨(some 22), (some (11, true)), .load1 (.t 21)⟩, ⟨(some 17), (some (11, true)), .load1 (.t 16)⟩]])
            (.cond (.t 24)
             (.seq
              (.ops [
               .row ⟨(some 2), none, .move (.c (.bool false))⟩])
              .ret)
             .skip))))
         (.ops [
          .row ⟨(some 25), none, .bin .add t_int true (.t 6) (.c (.int .i64 1))⟩,
          .row ⟨(some 6), none, .move (.t 25)⟩])))))))
   (.seq
    (.ops [
     .row ⟨(some 26), none, .move (.t 0)⟩,
     .row ⟨(some 27), none, .lenV (.t 26)⟩,
     .row ⟨(some 28), none, .bin .leq t_int true (.t 27) (.c (.int .i64 65535))⟩,
     .row ⟨(some 2), none, .move (.t 28)⟩])
    .ret)))

theorem k_ref11_Can : compF P f_ref11_Can = .ok ⟨29, [.tmp 2], c_ref11_Can⟩ := by kernel_rfl

/-- (*dryrot/dryrotref11.out).put, of 3 -/
noncomputable def c_ref11_out_put : CC :=
 (.seq
  (.ops [
   .row ⟨(some 7), none, .move (.t 2)⟩,
   .row ⟨(some 8), none, .bin .sub t_int true (.t 7) (.c (.int .i64 1))⟩,
   .row ⟨(some 6), none, .move (.t 8)⟩])
  (.block 0
   (.loop
    (.seq
     (.seq
      (.ops [
       .row ⟨(some 9), none, .move (.t 6)⟩,
       .row ⟨(some 10), none, .bin .geq t_int true (.t 9) (.c (.int .i64 0))⟩])
      (.cond (.t 10)
       .skip
       (.exit 0)))
     (.seq
      (.block 1
       (.ops [
        .row ⟨(some 13), none, .move (.t 0)⟩,
        .row ⟨(some 14), none, .move (.t 0)⟩,
        .row ⟨(some 15), none, .nilCheck (.t 14)⟩,
        .row ⟨(some 16), none, .fieldAddr 0 (.t 15)⟩,
        .row ⟨(some 17), none, .load1 (.t 16)⟩,
        .row ⟨(some 18), none, .move (.t 1)⟩,
        .row ⟨(some 19), none, .move (.t 6)⟩,
        .row ⟨(some 20), none, .bin .shr t_uint64 false (.t 18) (.t 19)⟩,
        .row ⟨(some 21), none, .bin .and t_uint64 true (.t 20) (.c (.int .u64 1))⟩,
        .row ⟨(some 22), none, .bin .eql t_uint64 true (.t 21) (.c (.int .u64 1))⟩,
        .row ⟨(some 23), none, .buildSlice 1 1 [(.bool false)] [(0, 1, (.t 22))]⟩,
        .stage [⟨(some 17), none, .load1 (.t 16)⟩],
        .row ⟨(some 24), none, .app 1 1 (.t 17) (.t 23)⟩,
        .row ⟨(some 25), none, .nilCheck (.t 13)⟩,
        .row ⟨(some 26), none, .fieldAddr 0 (.t 25)⟩,
        .row ⟨none, none, .store 1 (.t 26) (.t 24)⟩]))
      (.ops [
       .row ⟨(some 11), none, .move (.t 6)⟩,
       .row ⟨(some 12), none, .bin .sub t_int true (.t 11) (.c (.int .i64 1))⟩,
       .row ⟨(some 6), none, .move (.t 12)⟩]))))))

theorem k_ref11_out_put : compF P f_ref11_out_put = .ok ⟨27, [], c_ref11_out_put⟩ := by kernel_rfl

/-- (*dryrot/dryrotref11.out).putInt, of 2 -/
noncomputable def c_ref11_out_putInt : CC :=
 (.block 0
  (.seq
   (.ops [
    .row ⟨(some 11), none, .move (.t 1)⟩,
    .row ⟨(some 12), none, .bin .eql t_int true (.t 11) (.c (.int .i64 0))⟩,
    .row ⟨(some 10), none, .move (.t 12)⟩])
   (.cond (.t 10)
    (.ops [
     .row ⟨(some 13), none, .move (.t 0)⟩,
     .row ⟨(some 14), none, .callV (.c (.func (.func f_ref11_out_put) [] [])) [(.t 13), (.c (.int .u64 0)), (.c (.int .i64 1))]⟩])
    (.seq
     (.ops [
      .row ⟨(some 16), none, .move (.t 1)⟩,
      .row ⟨(some 17), none, .bin .geq t_int true (.t 16) (.c (.int .i64 (-64)))⟩,
      .row ⟨(some 18), none, .move (.t 17)⟩,
      .row ⟨(some 19), (some (18, true)), .move (.t 1)⟩,
      .row ⟨(some 20), (some (18, true)), .bin .leq t_int true (.t 19) (.c (.int .i64 63))⟩,
      .row ⟨(some 21), none, .pick (.t 18) (.t 20) (.c (.bool false))⟩,
      .row ⟨(some 15), none, .move (.t 21)⟩])
     (.cond (.t 15)
      (.seq
       (.ops [
        .row ⟨(some 22), none, .move (.t 0)⟩,
        .row ⟨(some 23), none, .callV (.c (.func (.func f_ref11_out_put) [] [])) [(.t 22), (.c (.int .u64 2)), (.c (.int .i64 2))]⟩])
       (.ops [
        .row ⟨(some 24), none, .move (.t 0)⟩,
        .row ⟨(some 25), none, .move (.t 1)⟩,
        .row ⟨(some 26), none, .conv (.int .u64) (.t 25)⟩,
        .row ⟨(some 27), none, .callV (.c (.func (.func f_ref11_out_put) [] [])) [(.t 24), (.t 26), (.c (.int .i64 7))]⟩]))
      (.seq
       (.ops [
        .row ⟨(some 29), none, .move (.t 1)⟩,
        .row ⟨(some 30), none, .bin .geq t_int true (.t 29) (.c (.int .i64 (-2048)))⟩,
        .row ⟨(some 31), none, .move (.t 30)⟩,
        .row ⟨(some 32), (some (31, true)), .move (.t 1)⟩,
        .row ⟨(some 33), (some (31, true)), .bin .leq t_int true (.t 32) (.c (.int .i64 2047))⟩,
        .row ⟨(some 34), none, .pick (.t 31) (.t 33) (.c (.bool false))⟩,
        .row ⟨(some 28), none, .move (.t 34)⟩])
       (.cond (.t 28)
        (.seq
         (.ops [
          .row ⟨(some 35), none, .move (.t 0)⟩,
          .row ⟨(some 36), none, .callV (.c (.func (.func f_ref11_out_put) [] [])) [(.t 35), (.c (.int .u64 6)), (.c (.int .i64 3))]⟩])
         (.ops [
          .row ⟨(some 37), none, .move (.t 0)⟩,
          .row ⟨(some 38), none, .move (.t 1)⟩,
          .row ⟨(some 39), none, .conv (.int .u64) (.t 38)⟩,
          .row ⟨(some 40), none, .callV (.c (.func (.func f_ref11_out_put) [] [])) [(.t 37), (.t 39), (.c (.int .i64 12))]⟩]))
        (.seq
         (.ops [
          .row ⟨(some 42), none, .move (.t 1)⟩,
          .row ⟨(some 43), none, .bin .geq t_int true (.t 42) (.c (.int .i64 (-2147483648)))⟩,
          .row ⟨(some 44), none, .move (.t 43)⟩,
          .row ⟨(some 45), (some (44, true)), .move (.t 1)⟩,
          .row ⟨(some 46), (some (44, true)), .bin .leq t_int true (.t 45) (.c (.int .i64 2147483647))⟩,
          .row ⟨(some 47), none, .pick (.t 44) (.t 46) (.c (.bool false))⟩,
          .row ⟨(some 41), none, .move (.t 47)⟩])
         (.cond (.t 41)
          (.seq
           (.ops [
            .row ⟨(some 48), none, .move (.t 0)⟩,
            .row ⟨(some 49), none, .callV (.c (.func (.func f_ref11_out_put) [] [])) [(.t 48), (.c (.int .u64 14)), (.c (.int .i64 4))]⟩])
           (.ops [
            .row ⟨(some 50), none, .move (.t 0)⟩,
            .row ⟨(some 51), none, .move (.t 1)⟩,
            .row ⟨(some 52), none, .conv (.int .u64) (.t 51)⟩,
            .row ⟨(some 53), none, .callV (.c (.func (.func f_ref11_out_put) [] [])) [(.t 50), (.t 52), (.c (.int .i64 32))]⟩]))
          (.seq
           (.ops [
            .row ⟨(some 4), none, .move (.t 0)⟩,
            .row ⟨(some 5), none, .callV (.c (.func (.func f_ref11_out_put) [] [])) [(.t 4), (.c (.int .u64 15)), (.c (.int .i64 4))]⟩])
           (.ops [
            .row ⟨(some 6), none, .move (.t 0)⟩,
            .row ⟨(some 7), none, .move (.t 1)⟩,
            .row ⟨(some 8), none, .conv (.int .u64) (.t 7)⟩,
            .row ⟨(some 9), none, .callV (.c (.func (.func f_ref11_out_put) [] [])) [(.t 6), (.t 8), (.c (.int .i64 64))]⟩])))))))))))

theorem k_ref11_out_putInt : compF P f_ref11_out_putInt = .ok ⟨54, [], c_ref11_out_putInt⟩ := by kernel_rfl

/-- (*dryrot/dryrotref11.out).putXor, of 2 -/
noncomputable def c_ref11_out_putXor : CC :=
 (.seq
  (.seq
   (.ops [
    .row ⟨(some 7), none, .move (.t 1)⟩,
    .row ⟨(some 8), none, .bin .eql t_uint64 true (.t 7) (.c (.int .u64 0))⟩])
   (.cond (.t 8)
    (.seq
     (.ops [
      .row ⟨(some 9), none, .move (.t 0)⟩,
      .row ⟨(some 10), none, .callV (.c (.func (.func f_ref11_out_put) [] [])) [(.t 9), (.c (.int .u64 0)), (.c (.int .i64 1))]⟩])
     .ret)
    .skip))
  (.seq
   (.ops [
    .row ⟨(some 4), none, .move (.c (.int .i64 0))⟩,
    .row ⟨(some 5), none, .move (.c (.int .i64 0))⟩])
   (.seq
    (.block 0
     (.loop
      (.seq
       (.seq
        (.ops [
         .row ⟨(some 11), none, .move (.t 1)⟩,
         .row ⟨(some 12), none, .move (.t 4)⟩,
         .row ⟨(some 13), none, .bin .sub t_int true (.c (.int .i64 63)) (.t 12)⟩,
         .row ⟨(some 14), none, .bin .shr t_uint64 false (.t 11) (.t 13)⟩,
         .row ⟨(some 15), none, .bin .and t_uint64 true (.t 14) (.c (.int .u64 1))⟩,
         .row ⟨(some 16), none, .bin .eql t_uint64 true (.t 15) (.c (.int .u64 0))⟩])
        (.cond (.t 16)
         .skip
         (.exit 0)))
       (.block 1
        (.ops [
         .row ⟨(some 17), none, .move (.t 4)⟩,
         .row ⟨(some 18), none, .bin .add t_int true (.t 17) (.c (.int .i64 1))⟩,
         .row ⟨(some 4), none, .move (.t 18)⟩])))))
    (.seq
     (.block 2
      (.loop
       (.seq
        (.seq
         (.ops [
          .row ⟨(some 19), none, .move (.t 1)⟩,
          .row ⟨(some 20), none, .move (.t 5)⟩,
          .row ⟨(some 21), none, .bin .shr t_uint64 false (.t 19) (.t 20)⟩,
          .row ⟨(some 22), none, .bin .and t_uint64 true (.t 21) (.c (.int .u64 1))⟩,
          .row ⟨(some 23), none, .bin .eql t_uint64 true (.t 22) (.c (.int .u64 0))⟩])
         (.cond (.t 23)
          .skip
          (.exit 2)))
        (.block 3
         (.ops [
          .row ⟨(some 24), none, .move (.t 5)⟩,
          .row ⟨(some 25), none, .bin .add t_int true (.t 24) (.c (.int .i64 1))⟩,
          .row ⟨(some 5), none, .move (.t 25)⟩])))))
     (.seq
      (.ops [
       .row ⟨(some 26), none, .move (.t 4)⟩,
       .row ⟨(some 27), none, .bin .sub t_int true (.c (.int .i64 64)) (.t 26)⟩,
       .row ⟨(some 28), none, .move (.t 5)⟩,
       .row ⟨(some 29), none, .bin .sub t_int false (.t 27) (.t 28)⟩,
       .row ⟨(some 6), none, .move (.t 29)⟩])
      (.seq
       (.ops [
        .row ⟨(some 30), none, .move (.t 0)⟩,
        .row ⟨(some 31), none, .callV (.c (.func (.func f_ref11_out_put) [] [])) [(.t 30), (.c (.int .u64 1)), (.c (.int .i64 1))]⟩])
       (.seq
        (.ops [
         .row ⟨(some 32), none, .move (.t 0)⟩,
         .row ⟨(some 33), none, .move (.t 4)⟩,
         .row ⟨(some 34), none, .conv (.int .u64) (.t 33)⟩,
         .row ⟨(some 35), none, .callV (.c (.func (.func f_ref11_out_put) [] [])) [(.t 32), (.t 34), (.c (.int .i64 6))]⟩])
        (.seq
         (.ops [
          .row ⟨(some 36), none, .move (.t 0)⟩,
          .row ⟨(some 37), none, .move (.t 6)⟩,
          .row ⟨(some 38), none, .bin .sub t_int true (.t 37) (.c (.int .i64 1))⟩,
          .row ⟨(some 39), none, .conv (.int .u64) (.t 38)⟩,
          .row ⟨(some 40), none, .callV (.c (.func (.func f_ref11_out_put) [] [])) [(.t 36), (.t 39), (.c (.int .i64 6))]⟩])
         (.ops [
          .row ⟨(some 41), none, .move (.t 0)⟩,
          .row ⟨(some 42), none, .move (.t 1)⟩,
          .row ⟨(some 43), none, .move (.t 5)⟩,
          .row ⟨(some 44), none, .bin .shr t_uint64 false (.t 42) (.t 43)⟩,
          .row ⟨(some 45), none, .move (.t 6)⟩,
          .row ⟨(some 46), none, .callV (.c (.func (.func f_ref11_out_put) [] [])) [(.t 41), (.t 44), (.t 45)]⟩])))))))))

theorem k_ref11_out_putXor : compF P f_ref11_out_putXor = .ok ⟨47, [], c_ref11_out_putXor⟩ := by kernel_rfl

/-- dryrot/dryrotref01.Put, of 2 -/
noncomputable def c_ref01_Put : CC :=
 (.seq
  (.ops [
   .row ⟨(some 4), none, .move (.c .nils)⟩])
  (.seq
   (.ops [
    .row ⟨(some 8), none, .move (.t 1)⟩,
    .row ⟨(some 9), none, .mm true (.t 8) [(.c (.int .i64 0))]⟩,
    .row ⟨(some 10), none, .mm false (.t 9) [(.c (.int .i64 8))]⟩,
    .row ⟨(some 5), none, .move (.t 10)⟩])
   (.seq
    (.ops [
     .row ⟨(some 11), none, .move (.t 5)⟩,
     .row ⟨(some 12), none, .mkS 1 1 [(.int .u8 0)] (.t 11) (.t 11)⟩,
     .row ⟨(some 6), none, .move (.t 12)⟩])
    (.seq
     (.seq
      (.ops [
       .row ⟨(some 13), none, .move (.t 5)⟩,
       .row ⟨(some 14), none, .bin .sub t_int true (.t 13) (.c (.int .i64 1))⟩,
       .row ⟨(some 7), none, .move (.t 14)⟩])
      (.block 0
       (.loop
        (.seq
         (.seq
          (.ops [
           .row ⟨(some 15), none, .move (.t 7)⟩,
           .row ⟨(some 16), none, .bin .geq t_int true (.t 15) (.c (.int .i64 0))⟩])
          (.cond (.t 16)
           .skip
           (.exit 0)))
         (.seq
          (.block 1
           (.seq
            (.ops [
             .row ⟨(some 19), none, .move (.t 6)⟩,
             .row ⟨(some 20), none, .move (.t 7)⟩,
             .row ⟨(some 21), none, .move (.t 0)⟩,
             .row ⟨(some 22), none, .bin .rem t_uint64 true (.t 21) (.c (.int .u64 256))⟩,
             .row ⟨(some 23), none, .conv (.int .u8) (.t 22)⟩,
             .row ⟨(some 24), none, .idxV 1 (.t 19) (.t 20)⟩,
             .row ⟨none, none, .store 1 (.t 24) (.t 23)⟩])
            (.ops [
             .row ⟨(some 25), none, .move (.t 0)⟩,
             .row ⟨(some 26), none, .bin .quo t_uint64 true (.t 25) (.c (.int .u64 256))⟩,
             .row ⟨(some 0), none, .move (.t 26)⟩])))
          (.ops [
           .row ⟨(some 17), none, .move (.t 7)⟩,
           .row ⟨(some 18), none, .bin .sub t_int true (.t 17) (.c (.int .i64 1))⟩,
           .row ⟨(some 7), none, .move (.t 18)⟩]))))))
     (.seq
      (.ops [
       .row ⟨(some 27), none, .move (.t 6)⟩,
       .row ⟨(some 4), none, .move (.t 27)⟩])
      .ret)))))

theorem k_ref01_Put : compF P f_ref01_Put = .ok ⟨28, [.tmp 4], c_ref01_Put⟩ := by kernel_rfl

/-- dryrot/dryrotref13.Can, of 1 -/
noncomputable def c_ref13_Can : CC :=
 (.seq
  (.ops [
   .row ⟨(some 2), none, .move (.c (.bool false))⟩])
  (.seq
   (.ops [
    .row ⟨(some 3), none, .move (.c (.int .i64 0))⟩])
   (.seq
    (.seq
     (.ops [
      .row ⟨(some 7), none, .move (.t 0)⟩,
      .row ⟨(some 8), none, .lenV (.t 7)⟩,
      .row ⟨(some 9), none, .move (.c (.int .i64 0))⟩])
     (.block 0
      (.loop
       (.seq
        (.ops [
         .row ⟨(some 10), none, .bin .lss t_int false (.t 9) (.t 8)⟩])
        (.seq
         (.cond (.t 10)
          .skip
          (.exit 0))
         (.seq
          (.block 1
           (.seq
            (.ops [
             .row ⟨(some 11), none, .move (.t 9)⟩,
             .row ⟨(some 12), none, .idxV 5 (.t 7) (.t 9)⟩,
             .row ⟨(some 13), none, .loadN 5 (.t 12)⟩,
             .row ⟨(some 5), none, .new [.nils, (.int .i64 0), (.int .i64 0), (.int .i64 0), (.int .i64 0)]⟩,
             .row ⟨(some 4), none, .move (.t 11)⟩,
             .row ⟨none, none, .store 5 (.t 5) (.t 13)⟩])
            (.seq
             (.seq
              (.ops [
               .row ⟨(some 14), none, .fieldAddr 0 (.t 5)⟩,
               .row ⟨(some 15), none, .load1 (.t 14)⟩,
               .row ⟨(some 16), none, .callV (.c (.func (.func f_ref07_Can) [] [])) [(.t 15)]⟩,
               .row ⟨(some 17), none, .un .not (.t 16)⟩,
               .row ⟨(some 18), none, .move (.t 17)⟩,
               .row ⟨(some 19), (some (18, false)), .fieldAddr 3 (.t 5)⟩,
               .row ⟨(some 20), (some (18, false)), .load1 (.t 19)⟩,
               .row ⟨(some 21), (some (18, false)), .fieldAddr 4 (.t 5)⟩,
               .row ⟨(some 22), (some (18, false)), .load1 (.t 21)⟩,
               .row ⟨(some 23), (some (18, false)), .bin .gtr t_int false (.t 20) (.t 22)⟩,
               .row ⟨(some 24), none, .pick (.t 18) (.c (.bool true)) (.t 23)⟩,
               .row ⟨(some 25), none, .move (.t 24)⟩,
               .row ⟨(some 26), (some (25, false)), .fieldAddr 2 (.t 5)⟩,
               .row ⟨(some 27), (some (25, false)), .load1 (.t 26)⟩,
               .row ⟨(some 28), (some (25, false)), .bin .lss t_int true (.t 27) (.c (.int .i64 1))⟩,
               .row ⟨(some 29), none, .pick (.t 25) (.c (.bool true)) (.t 28)⟩,
               .row ⟨(some 30), none, .move (.t 29)⟩,
               .row ⟨(some 31), (some (30, false)), .fieldAddr 2 (.t 5)⟩,
               .row ⟨(some 32), (some (30, false)), .load1 (.t 31)⟩,
               .row ⟨(some 33), (some (30, false)), .bin .gtr t_int true (.t 32) (.c (.int .i64 2147483647))⟩,
               .row ⟨(some 34), none, .pick (.t 30) (.c (.bool true)) (.t 33)⟩,
               .row ⟨(some 35), none, .move (.t 34)⟩,
               .row ⟨(some 36), (some (35, false)), .fieldAddr 1 (.t 5)⟩,
               .row ⟨(some 37), (some (35, false)), .load1 (.t 36)⟩,
               .row ⟨(some 38), (some (35, false)), .move (.t 3)⟩,
               .row ⟨(some 39), (some (35, false)), .bin .neq t_int false (.t 37) (.t 38)⟩,
               .row ⟨(some 40), none, .pick (.t 35) (.c (.bool true)) (.t 39)⟩])
              (.cond (.t 40)
               (.seq
                (.ops [
                 .row ⟨(some 2), none, .move (.c (.bool false))⟩])
                .ret)
               .skip))
             (.seq
              (.ops [
               .row ⟨(some 41), none, .move (.t 3)⟩,
               .row ⟨(some 42), none, .fieldAddr 2 (.t 5)⟩,
               .row ⟨(some 43), none, .load1 (.t 42)⟩,
               .row ⟨(some 44), none, .bin .add t_int false (.t 41) (.t 43)⟩,
               .row ⟨(some 3), none, .move (.t 44)⟩])
              (.seq
               (.seq
                (.ops [
                 .row ⟨(some 45), none, .move (.t 4)⟩,
                 .row ⟨(some 46), none, .bin .eql t_int true (.t 45) (.c (.int .i64 0))⟩])
                (.cond (.t 46)
                 (.exit 1)
                 .skip))
               (.seq
                (.ops [
                 .row ⟨(some 47), none, .move (.t 0)⟩,
                 .row ⟨(some 48), none, .move (.t 4)⟩,
                 .row ⟨(some 49), none, .bin .sub t_int true (.t 48) (.c (.int .i64 1))⟩,
                 .row ⟨(some 50), none, .idxV 5 (.t 47) (.t 49)⟩,
                 .row ⟨(some 51), none, .fieldAddr 0 (.t 50)⟩,
                 .row ⟨(some 52), none, .load1 (.t 51)⟩,
                 .row ⟨(some 53), none, .fieldAddr 0 (.t 5)⟩,
                 .row ⟨(some 54), none, .load1 (.t 53)⟩,
                 .stage [⟨(some 54), none, .load1 (.t 53)⟩, ⟨(some 52), none, .load1 (.t 51)⟩],
                 .row ⟨(some 55), none, .callV (.c (.func (.func f_ref07_Compare) [] [])) [(.t 52), (.t 54)]⟩,
                 .row ⟨(some 6), none, .move (.t 55)⟩])
                (.seq
                 (.ops [
                  .row ⟨(some 56), none, .move (.t 6)⟩,
                  .row ⟨(some 57), none, .bin .gtr t_int true (.t 56) (.c (.int .i64 0))⟩,
                  .row ⟨(some 58), none, .move (.t 57)⟩,
                  .row ⟨(some 59), (some (58, false)), .move (.t 6)⟩,
                  .row ⟨(some 60), (some (58, false)), .bin .eql t_int true (.t 59) (.c (.int .i64 0))⟩,
                  .row ⟨(some 61), (some (58, false)), .move (.t 60)⟩,
                  .row ⟨(some 62), (some (61, true)), .move (.t 0)⟩,
                  .row ⟨(some 63), (some (61, true)), .move (.t 4)⟩,
                  .row ⟨(some 64), (some (61, true)), .bin .sub t_int true (.t 63) (.c (.int .i64 1))⟩,
                  .row ⟨(some 65), (some (61, true)), .idxV 5 (.t 62) (.t 64)⟩,
                  .row ⟨(some 66), (some (61, true)), .fieldAddr 4 (.t 65)⟩,
                  .row ⟨(some 67), (some (61, true)), .load1 (.t 66)⟩,
                  .row ⟨(some 68), (some (61, true)), .fieldAddr 3 (.t 5)⟩,
                  .row ⟨(some 69), (some (61, true)), .load1 (.t 68)⟩,
                  .row ⟨(some 70), (some (61, true)), .bin .geq t_int false (.t 67) (.t 69)⟩,
                  .row ⟨(some 71), (some (58, false)), .pick (.t 61) (.t 70) (.c (.bool false))⟩,
                  .row ⟨(some 72), none, .pick (.t 58) (.c (.bool true)) (.t 71)⟩,
                  .stage [⟨(some 69), (some (61, true)), .load1 (.t 68)⟩, ⟨(some 67), (some (61, true)), .load1 (.t 66)⟩]])
                 (.cond (.t 72)
                  (.seq
                   (.ops [
                    .row ⟨(some 2), none, .move (.c (.bool false))⟩])
                   .ret)
                  .skip))))))))
          (.ops [
           .row ⟨(some 73), none, .bin .add t_int true (.t 9) (.c (.int .i64 1))⟩,
           .row ⟨(some 9), none, .move (.t 73)⟩])))))))
    (.seq
     (.ops [
      .row ⟨(some 74), none, .move (.t 0)⟩,
      .row ⟨(some 75), none, .lenV (.t 74)⟩,
      .row ⟨(some 76), none, .bin .leq t_int true (.t 75) (.c (.int .i64 100000))⟩,
      .row ⟨(some 2), none, .move (.t 76)⟩])
     .ret))))

theorem k_ref13_Can : compF P f_ref13_Can = .ok ⟨77, [.tmp 2], c_ref13_Can⟩ := by kernel_rfl

/-- dryrot/dryrotref07.Compare, of 2 -/
noncomputable def c_ref07_Compare : CC :=
 (.seq
  (.ops [
   .row ⟨(some 4), none, .move (.c (.int .i64 0))⟩])
  (.seq
   (.seq
    (.ops [
     .row ⟨(some 8), none, .move (.t 0)⟩,
     .row ⟨(some 9), none, .lenV (.t 8)⟩,
     .row ⟨(some 10), none, .move (.t 1)⟩,
     .row ⟨(some 11), none, .lenV (.t 10)⟩,
     .row ⟨(some 12), none, .mm false (.t 9) [(.t 11)]⟩,
     .row ⟨(some 13), none, .move (.c (.int .i64 0))⟩])
    (.block 0
     (.loop
      (.seq
       (.ops [
        .row ⟨(some 14), none, .bin .lss t_int false (.t 13) (.t 12)⟩])
       (.seq
        (.cond (.t 14)
         .skip
         (.exit 0))
        (.seq
         (.block 1
          (.seq
           (.ops [
            .row ⟨(some 15), none, .move (.t 13)⟩,
            .row ⟨(some 5), none, .move (.t 15)⟩])
           (.seq
            (.seq
             (.ops [
              .row ⟨(some 16), none, .move (.t 0)⟩,
              .row ⟨(some 17), none, .move (.t 5)⟩,
              .row ⟨(some 18), none, .idxV 2 (.t 16) (.t 17)⟩,
              .row ⟨(some 19), none, .fieldAddr 0 (.t 18)⟩,
              .row ⟨(some 20), none, .load1 (.t 19)⟩,
              .row ⟨(some 21), none, .move (.t 1)⟩,
              .row ⟨(some 22), none, .move (.t 5)⟩,
              .row ⟨(some 23), none, .idxV 2 (.t 21) (.t 22)⟩,
              .row ⟨(some 24), none, .fieldAddr 0 (.t 23)⟩,
              .row ⟨(some 25), none, .load1 (.t 24)⟩,
              .stage [⟨(some 25), none, .load1 (.t 24)⟩, ⟨(some 20), none, .load1 (.t 19)⟩],
              .row ⟨(some 26), none, .callV (.c (.func (.func f_ref07_texts) [] [])) [(.t 20), (.t 25)]⟩,
              .row ⟨(some 6), none, .move (.t 26)⟩])
             (.seq
              (.ops [
               .row ⟨(some 27), none, .move (.t 6)⟩,
               .row ⟨(some 28), none, .bin .neq t_int true (.t 27) (.c (.int .i64 0))⟩])
              (.cond (.t 28)
               (.seq
                (.ops [
                 .row ⟨(some 29), none, .move (.t 6)⟩,
                 .row ⟨(some 4), none, .move (.t 29)⟩])
                .ret)
               .skip)))
            (.seq
             (.ops [
              .row ⟨(some 30), none, .move (.t 0)⟩,
              .row ⟨(some 31), none, .move (.t 5)⟩,
              .row ⟨(some 32), none, .idxV 2 (.t 30) (.t 31)⟩,
              .row ⟨(some 33), none, .fieldAddr 1 (.t 32)⟩,
              .row ⟨(some 34), none, .load1 (.t 33)⟩,
              .row ⟨(some 35), none, .move (.t 1)⟩,
              .row ⟨(some 36), none, .move (.t 5)⟩,
              .row ⟨(some 37), none, .idxV 2 (.t 35) (.t 36)⟩,
              .row ⟨(some 38), none, .fieldAddr 1 (.t 37)⟩,
              .row ⟨(some 39), none, .load1 (.t 38)⟩,
              .stage [⟨(some 39), none, .load1 (.t 38)⟩, ⟨(some 34), none, .load1 (.t 33)⟩],
              .row ⟨(some 40), none, .callV (.c (.func (.func f_ref07_texts) [] [])) [(.t 34), (.t 39)]⟩,
              .row ⟨(some 7), none, .move (.t 40)⟩])
             (.seq
              (.ops [
               .row ⟨(some 41), none, .move (.t 7)⟩,
               .row ⟨(some 42), none, .bin .neq t_int true (.t 41) (.c (.int .i64 0))⟩])
              (.cond (.t 42)
               (.seq
                (.ops [
                 .row ⟨(some 43), none, .move (.t 7)⟩,
                 .row ⟨(some 4), none, .move (.t 43)⟩])
                .ret)
               .skip))))))
         (.ops [
          .row ⟨(some 44), none, .bin .add t_int true (.t 13) (.c (.int .i64 1))⟩,
          .row ⟨(some 13), none, .move (.t 44)⟩])))))))
   (.seq
    (.block 2
     (.seq
      (.ops [
       .row ⟨(some 46), none, .move (.t 0)⟩,
       .row ⟨(some 47), none, .lenV (.t 46)⟩,
       .row ⟨(some 48), none, .move (.t 1)⟩,
       .row ⟨(some 49), none, .lenV (.t 48)⟩,
       .row ⟨(some 50), none, .bin .lss t_int false (.t 47) (.t 49)⟩,
       .row ⟨(some 45), none, .move (.t 50)⟩])
      (.cond (.t 45)
       (.seq
        (.ops [
         .row ⟨(some 4), none, .move (.c (.int .i64 (-1)))⟩])
        .ret)
       (.seq
        (.ops [
         .row ⟨(some 52), none, .move (.t 0)⟩,
         .row ⟨(some 53), none, .lenV (.t 52)⟩,
         .row ⟨(some 54), none, .move (.t 1)⟩,
         .row ⟨(some 55), none, .lenV (.t 54)⟩,
         .row ⟨(some 56), none, .bin .gtr t_int false (.t 53) (.t 55)⟩,
         .row ⟨(some 51), none, .move (.t 56)⟩])
        (.cond (.t 51)
         (.seq
          (.ops [
           .row ⟨(some 4), none, .move (.c (.int .i64 1))⟩])
          .ret)
         .skip)))))
    (.seq
     (.ops [
      .row ⟨(some 4), none, .move (.c (.int .i64 0))⟩])
     .ret))))

theorem k_ref07_Compare : compF P f_ref07_Compare = .ok ⟨57, [.tmp 4], c_ref07_Compare⟩ := by kernel_rfl

/-- dryrot/dryrotref07.texts, of 2 -/
noncomputable def c_ref07_texts : CC :=
 (.seq
  (.ops [
   .row ⟨(some 4), none, .move (.c (.int .i64 0))⟩])
  (.seq
   (.seq
    (.ops [
     .row ⟨(some 5), none, .move (.t 0)⟩,
     .row ⟨(some 6), none, .move (.t 1)⟩,
     .row ⟨(some 7), none, .bin .lss t_string false (.t 5) (.t 6)⟩])
    (.cond (.t 7)
     (.seq
      (.ops [
       .row ⟨(some 4), none, .move (.c (.int .i64 (-1)))⟩])
      .ret)
     .skip))
   (.seq
    (.seq
     (.ops [
      .row ⟨(some 8), none, .move (.t 0)⟩,
      .row ⟨(some 9), none, .move (.t 1)⟩,
      .row ⟨(some 10), none, .bin .gtr t_string false (.t 8) (.t 9)⟩])
     (.cond (.t 10)
      (.seq
       (.ops [
        .row ⟨(some 4), none, .move (.c (.int .i64 1))⟩])
       .ret)
      .skip))
    (.seq
     (.ops [
      .row ⟨(some 4), none, .move (.c (.int .i64 0))⟩])
     .ret))))

theorem k_ref07_texts : compF P f_ref07_texts = .ok ⟨11, [.tmp 4], c_ref07_texts⟩ := by kernel_rfl

/-- dryrot/dryrotplain.SameEntries, of 2 -/
noncomputable def c_plain_SameEntries : CC :=
 (.seq
  (.ops [
   .row ⟨(some 4), none, .move (.c (.bool false))⟩])
  (.seq
   (.ops [
    .row ⟨(some 5), none, .move (.t 0)⟩,
    .row ⟨(some 6), none, .move (.t 1)⟩,
    .row ⟨(some 7), none, .callV (.c (.func (.func f_slices_EqualFunc_api_Entry_api_Entry_api_Entry_api_Entry) [] [])) [(.t 5), (.t 6), (.c (.func (.func f_plain_SameEntries_1) [] []))]⟩,
    .row ⟨(some 4), none, .move (.t 7)⟩])
   .ret))

theorem k_plain_SameEntries : compF P f_plain_SameEntries = .ok ⟨8, [.tmp 4], c_plain_SameEntries⟩ := by kernel_rfl

/-- slices.EqualFunc[[]dryrot/api.Entry,[]dryrot/api.Entry,dryrot/api.Entry,dryrot/api.Entry], of 3 -/
noncomputable def c_slices_EqualFunc_api_Entry_api_Entry_api_Entry_api_Entry : CC :=
 (.seq
  (.ops [
   .row ⟨(some 6), none, .move (.c (.bool false))⟩])
  (.seq
   (.seq
    (.ops [
     .row ⟨(some 10), none, .move (.t 0)⟩,
     .row ⟨(some 11), none, .lenV (.t 10)⟩,
     .row ⟨(some 12), none, .move (.t 1)⟩,
     .row ⟨(some 13), none, .lenV (.t 12)⟩,
     .row ⟨(some 14), none, .bin .neq t_int false (.t 11) (.t 13)⟩])
    (.cond (.t 14)
     (.seq
      (.ops [
       .row ⟨(some 6), none, .move (.c (.bool false))⟩])
      .ret)
     .skip))
   (.seq
    (.seq
     (.ops [
      .row ⟨(some 15), none, .move (.t 0)⟩,
      .row ⟨(some 16), none, .lenV (.t 15)⟩,
      .row ⟨(some 17), none, .move (.c (.int .i64 0))⟩])
     (.block 0
      (.loop
       (.seq
        (.ops [
         .row ⟨(some 18), none, .bin .lss t_int false (.t 17) (.t 16)⟩])
        (.seq
         (.cond (.t 18)
          .skip
          (.exit 0))
         (.seq
          (.block 1
           (.seq
            (.ops [
             .row ⟨(some 19), none, .move (.t 17)⟩,
             .row ⟨(some 20), none, .idxV 5 (.t 15) (.t 17)⟩,
             .row ⟨(some 21), none, .loadN 5 (.t 20)⟩,
             .row ⟨(some 8), none, .new [.nils, (.int .i64 0), (.int .i64 0), (.int .i64 0), (.int .i64 0)]⟩,
             .row ⟨(some 7), none, .move (.t 19)⟩,
             .row ⟨none, none, .store 5 (.t 8) (.t 21)⟩])
            (.seq
             (.ops [
              .row ⟨(some 22), none, .move (.t 1)⟩,
              .row ⟨(some 23), none, .move (.t 7)⟩,
              .row ⟨(some 24), none, .idxV 5 (.t 22) (.t 23)⟩,
              .row ⟨(some 25), none, .loadN 5 (.t 24)⟩,
              .row ⟨(some 9), none, .new [.nils, (.int .i64 0), (.int .i64 0), (.int .i64 0), (.int .i64 0)]⟩,
              .row ⟨none, none, .store 5 (.t 9) (.t 25)⟩])
             (.seq
              (.ops [
               .row ⟨(some 26), none, .move (.t 2)⟩,
               .row ⟨(some 27), none, .loadN 5 (.t 8)⟩,
               .row ⟨(some 28), none, .loadN 5 (.t 9)⟩,
               .row ⟨(some 29), none, .callV (.t 26) [(.t 27), (.t 28)]⟩,
               .row ⟨(some 30), none, .un .not (.t 29)⟩])
              (.cond (.t 30)
               (.seq
                (.ops [
                 .row ⟨(some 6), none, .move (.c (.bool false))⟩])
                .ret)
               .skip)))))
          (.ops [
           .row ⟨(some 31), none, .bin .add t_int true (.t 17) (.c (.int .i64 1))⟩,
           .row ⟨(some 17), none, .move (.t 31)⟩])))))))
    (.seq
     (.ops [
      .row ⟨(some 6), none, .move (.c (.bool true))⟩])
     .ret))))

theorem k_slices_EqualFunc_api_Entry_api_Entry_api_Entry_api_Entry : compF P f_slices_EqualFunc_api_Entry_api_Entry_api_Entry_api_Entry = .ok ⟨32, [.tmp 6], c_slices_EqualFunc_api_Entry_api_Entry_api_Entry_api_Entry⟩ := by kernel_rfl

/-- dryrot/dryrotplain.SameEntries$1, of 2 -/
noncomputable def c_plain_SameEntries_1 : CC :=
 (.seq
  (.ops [
   .row ⟨(some 2), none, .box (.t 0)⟩,
   .row ⟨(some 3), none, .box (.t 1)⟩,
   .row ⟨(some 4), none, .move (.c (.bool false))⟩])
  (.seq
   (.ops [
    .row ⟨(some 5), none, .fieldAddr 0 (.t 2)⟩,
    .row ⟨(some 6), none, .load1 (.t 5)⟩,
    .row ⟨(some 7), none, .fieldAddr 0 (.t 3)⟩,
    .row ⟨(some 8), none, .load1 (.t 7)⟩,
    .row ⟨(some 9), none, .callV (.c (.func (.func f_slices_Equal_api_Label_api_Label) [] [])) [(.t 6), (.t 8)]⟩,
    .row ⟨(some 10), none, .move (.t 9)⟩,
    .row ⟨(some 11), (some (10, true)), .fieldAddr 1 (.t 2)⟩,
    .row ⟨(some 12), (some (10, true)), .load1 (.t 11)⟩,
    .row ⟨(some 13), (some (10, true)), .fieldAddr 1 (.t 3)⟩,
    .row ⟨(some 14), (some (10, true)), .load1 (.t 13)⟩,
    .row ⟨(some 15), (some (10, true)), .bin .eql t_int false (.t 12) (.t 14)⟩,
    .row ⟨(some 16), none, .pick (.t 10) (.t 15) (.c (.bool false))⟩,
    .row ⟨(some 17), none, .move (.t 16)⟩,
    .row ⟨(some 18), (some (17, true)), .fieldAddr 2 (.t 2)⟩,
    .row ⟨(some 19), (some (17, true)), .load1 (.t 18)⟩,
    .row ⟨(some 20), (some (17, true)), .fieldAddr 2 (.t 3)⟩,
    .row ⟨(some 21), (some (17, true)), .load1 (.t 20)⟩,
    .row ⟨(some 22), (some (17, true)), .bin .eql t_int false (.t 19) (.t 21)⟩,
    .row ⟨(some 23), none, .pick (.t 17) (.t 22) (.c (.bool false))⟩,
    .row ⟨(some 24), none, .move (.t 23)⟩,
    .row ⟨(some 25), (some (24, true)), .fieldAddr 3 (.t 2)⟩,
    .row ⟨(some 26), (some (24, true)), .load1 (.t 25)⟩,
    .row ⟨(some 27), (some (24, true)), .fieldAddr 3 (.t 3)⟩,
    .row ⟨(some 28), (some (24, true)), .load1 (.t 27)⟩,
    .row ⟨(some 29), (some (24, true)), .bin .eql t_int false (.t 26) (.t 28)⟩,
    .row ⟨(some 30), none, .pick (.t 24) (.t 29) (.c (.bool false))⟩,
    .row ⟨(some 31), none, .move (.t 30)⟩,
    .row ⟨(some 32), (some (31, true)), .fieldAddr 4 (.t 2)⟩,
    .row ⟨(some 33), (some (31, true)), .load1 (.t 32)⟩,
    .row ⟨(some 34), (some (31, true)), .fieldAddr 4 (.t 3)⟩,
    .row ⟨(some 35), (some (31, true)), .load1 (.t 34)⟩,
    .row ⟨(some 36), (some (31, true)), .bin .eql t_int false (.t 33) (.t 35)⟩,
    .row ⟨(some 37), none, .pick (.t 31) (.t 36) (.c (.bool false))⟩,
    .row ⟨(some 4), none, .move (.t 37)⟩])
   .ret))

theorem k_plain_SameEntries_1 : compF P f_plain_SameEntries_1 = .ok ⟨38, [.tmp 4], c_plain_SameEntries_1⟩ := by kernel_rfl

/-- slices.Equal[[]dryrot/api.Label,dryrot/api.Label], of 2 -/
noncomputable def c_slices_Equal_api_Label_api_Label : CC :=
 (.seq
  (.ops [
   .row ⟨(some 4), none, .move (.c (.bool false))⟩])
  (.seq
   (.seq
    (.ops [
     .row ⟨(some 6), none, .move (.t 0)⟩,
     .row ⟨(some 7), none, .lenV (.t 6)⟩,
     .row ⟨(some 8), none, .move (.t 1)⟩,
     .row ⟨(some 9), none, .lenV (.t 8)⟩,
     .row ⟨(some 10), none, .bin .neq t_int false (.t 7) (.t 9)⟩])
    (.cond (.t 10)
     (.seq
      (.ops [
       .row ⟨(some 4), none, .move (.c (.bool false))⟩])
      .ret)
     .skip))
   (.seq
    (.seq
     (.ops [
      .row ⟨(some 11), none, .move (.t 0)⟩,
      .row ⟨(some 12), none, .lenV (.t 11)⟩,
      .row ⟨(some 13), none, .move (.c (.int .i64 0))⟩])
     (.block 0
      (.loop
       (.seq
        (.ops [
         .row ⟨(some 14), none, .bin .lss t_int false (.t 13) (.t 12)⟩])
        (.seq
         (.cond (.t 14)
          .skip
          (.exit 0))
         (.seq
          (.block 1
           (.seq
            (.ops [
             .row ⟨(some 15), none, .move (.t 13)⟩,
             .row ⟨(some 5), none, .move (.t 15)⟩])
            (.seq
             (.ops [
              .row ⟨(some 16), none, .move (.t 0)⟩,
              .row ⟨(some 17), none, .move (.t 5)⟩,
              .row ⟨(some 18), none, .idxV 2 (.t 16) (.t 17)⟩,
              .row ⟨(some 19), none, .loadN 2 (.t 18)⟩,
              .row ⟨(some 20), none, .move (.t 1)⟩,
              .row ⟨(some 21), none, .move (.t 5)⟩,
              .row ⟨(some 22), none, .idxV 2 (.t 20) (.t 21)⟩,
              .row ⟨(some 23), none, .loadN 2 (.t 22)⟩,
              .row ⟨(some 24), none, .bin .neq t_api_Label false (.t 19) (.t 23)⟩,
              .stage [⟨(some 23), none, .loadN 2 (.t 22)⟩, ⟨(some 19), none, .loadN 2 (.t 18)⟩]])
             (.cond (.t 24)
              (.seq
               (.ops [
                .row ⟨(some 4), none, .move (.c (.bool false))⟩])
               .ret)
              .skip))))
          (.ops [
           .row ⟨(some 25), none, .bin .add t_int true (.t 13) (.c (.int .i64 1))⟩,
           .row ⟨(some 13), none, .move (.t 25)⟩])))))))
    (.seq
     (.ops [
      .row ⟨(some 4), none, .move (.c (.bool true))⟩])
     .ret))))

theorem k_slices_Equal_api_Label_api_Label : compF P f_slices_Equal_api_Label_api_Label = .ok ⟨26, [.tmp 4], c_slices_Equal_api_Label_api_Label⟩ := by kernel_rfl


end Go.Dk

namespace Go.Dk
open Go Go.Dr

/-- what is told of calls: the closed call -/
abbrev SI : Sums := closedS f_law13_awake

theorem ev_awake (h : AH) (K : AV → AH → Prop) : Ev P SI (.fn f_law13_awake) [] h K = K (.bool true) h := ev_closed _ _ _

end Go.Dk

/-
  Equations for operations that look at a type; slices put together.
-/
namespace Go.Dr

section
variable {P : Program} {S : Sums} {Q : Post} {σ : Sg} {ds : List ADef} {h : AH}

@[simp] theorem bin_eql_bool {t : TypeId} (ht : P.underlying t = some .bool) (lit a b : Bool) : opBin P .eql t lit (.bool a) (.bool b) = .ok (.bool (a == b)) := by
  simp [opBin, binSlow, eqAt, und, ht, ofO, fitsScalar, eqScalar, eqNeq]
@[simp] theorem bin_neq_bool {t : TypeId} (ht : P.underlying t = some .bool) (lit a b : Bool) : opBin P .neq t lit (.bool a) (.bool b) = .ok (.bool (!(a == b))) := by
  simp [opBin, binSlow, eqAt, und, ht, ofO, fitsScalar, eqScalar, eqNeq]
@[simp] theorem bin_eql_str (t : TypeId) (lit : Bool) (a b : List UInt8) : opBin P .eql t lit (.str a) (.str b) = .ok (.bool (decide (a = b))) := by
  simp only [opBin, strOp]
  congr 2
  by_cases h : a = b <;> simp [h]
@[simp] theorem bin_neq_str (t : TypeId) (lit : Bool) (a b : List UInt8) : opBin P .neq t lit (.str a) (.str b) = .ok (.bool (decide (¬ a = b))) := by
  simp only [opBin, strOp]
  congr 2
  by_cases h : a = b <;> simp [h]
@[simp] theorem bin_eql_pnil {t e : TypeId} (ht : P.underlying t = some (.pointer e)) (lit : Bool) : opBin P .eql t lit .nilp .nilp = .ok (.bool true) := by
  simp [opBin, binSlow, eqAt, und, ht, ofO, fitsScalar, eqScalar, eqNeq]
@[simp] theorem bin_eql_ptr {t e : TypeId} (ht : P.underlying t = some (.pointer e)) (lit : Bool) (i o : Nat) : opBin P .eql t lit (.ptr i o) .nilp = .ok (.bool false) := by
  simp [opBin, binSlow, eqAt, und, ht, ofO, fitsScalar, eqScalar, eqNeq]
@[simp] theorem bin_neq_pnil {t e : TypeId} (ht : P.underlying t = some (.pointer e)) (lit : Bool) : opBin P .neq t lit .nilp .nilp = .ok (.bool false) := by
  simp [opBin, binSlow, eqAt, und, ht, ofO, fitsScalar, eqScalar, eqNeq]
@[simp] theorem bin_neq_ptr {t e : TypeId} (ht : P.underlying t = some (.pointer e)) (lit : Bool) (i o : Nat) : opBin P .neq t lit (.ptr i o) .nilp = .ok (.bool true) := by
  simp [opBin, binSlow, eqAt, und, ht, ofO, fitsScalar, eqScalar, eqNeq]
@[simp] theorem bin_eql_nils {t e : TypeId} (ht : P.underlying t = some (.slice e)) (lit : Bool) : opBin P .eql t lit .nils .nils = .ok (.bool true) := by
  simp [opBin, binSlow, eqAt, und, ht, ofO, fitsScalar, eqScalar, eqNeq]
@[simp] theorem bin_eql_slice {t e : TypeId} (ht : P.underlying t = some (.slice e)) (lit : Bool) (id off n cap : Nat) (x : Bool) (es : Nat) :
    opBin P .eql t lit (.slice id off n cap x es) .nils = .ok (.bool false) := by
  simp [opBin, binSlow, eqAt, und, ht, ofO, fitsScalar, eqScalar, eqNeq]
@[simp] theorem bin_neq_nils {t e : TypeId} (ht : P.underlying t = some (.slice e)) (lit : Bool) : opBin P .neq t lit .nils .nils = .ok (.bool false) := by
  simp [opBin, binSlow, eqAt, und, ht, ofO, fitsScalar, eqScalar, eqNeq]
@[simp] theorem bin_neq_slice {t e : TypeId} (ht : P.underlying t = some (.slice e)) (lit : Bool) (id off n cap : Nat) (x : Bool) (es : Nat) :
    opBin P .neq t lit (.slice id off n cap x es) .nils = .ok (.bool true) := by
  simp [opBin, binSlow, eqAt, und, ht, ofO, fitsScalar, eqScalar, eqNeq]

/-- a slice holds itself against nil -/
theorem Sl.isNil {es n : Nat} {v : AV} {l : List AV} (s : Sl h es n v l) {t e : TypeId} (ht : P.underlying t = some (.slice e)) (lit : Bool) :
    ∃ b, opBin P .eql t lit v .nils = .ok (.bool b) ∧ (b = true → v = .nils ∧ n = 0 ∧ l = []) := by
  obtain ⟨hl, s⟩ := s
  rcases s with ⟨rfl, rfl⟩ | ⟨id, off, cap, x, vs, ro, rfl, _⟩
  · exact ⟨true, bin_eql_nils ht lit, fun _ => ⟨rfl, rfl, by simpa using hl⟩⟩
  · exact ⟨false, bin_eql_slice ht lit _ _ _ _ _ _, fun e => by cases e⟩

/-- append(append(append([]T{}, l[:at]...), x), l[at:]...) -/
theorem ins3 {es n bytes at' : Nat} {v : AV} {l x : List AV} (s : Sl h es n v l) (hat : at' ≤ n) (hx : x.length = es) (hs : allScalar (l ++ x) = true) (h1 : (n + 1) * bytes ≤ 2 ^ 40) (h2 : n + 1 ≤ 2 ^ 40) (k1 k2 : IntKind) :
    ∃ a b v1 g1 v2 g2 v3 g3, opSliceV es v none (some (.int k1 (at' : Int))) none = .ok a ∧ opSliceV es v (some (.int k2 (at' : Int))) none none = .ok b ∧
      opApp es bytes (.slice h.next 0 0 0 true es) a ((h.push (.cells [] false)).push (.cells x false)) = okV v1 g1 ∧ opApp es bytes v1 (.slice (h.next + 1) 0 1 1 true es) g1 = okV v2 g2 ∧ opApp es bytes v2 b g2 = okV v3 g3 ∧
      Own h.next g3 es (n + 1) v3 (l.take (at' * es) ++ x ++ l.drop (at' * es)) ∧ Fr h g3 := by
  have happ : ∀ a b : List AV, allScalar (a ++ b) = (allScalar a && allScalar b) := by
    intro a b
    induction a with
    | nil => simp
    | cons v a ih => simp [ih, Bool.and_assoc]
  rw [happ] at hs
  obtain ⟨hs1, hs2⟩ : allScalar l = true ∧ allScalar x = true := by simpa using hs
  have hst : allScalar (l.take (at' * es)) = true ∧ allScalar (l.drop (at' * es)) = true := by
    have := happ (l.take (at' * es)) (l.drop (at' * es))
    rw [List.take_append_drop, hs1] at this
    simpa using this.symm
  have hl := s.1
  obtain ⟨a, ea, _⟩ := s.slice (lo := none) (hi := some (.int k1 (at' : Int))) (a := 0) (b := at') (.inl ⟨rfl, rfl⟩) (.inr ⟨k1, rfl⟩) (Nat.zero_le _) hat
  obtain ⟨b, eb, _⟩ := s.slice (lo := some (.int k2 (at' : Int))) (hi := none) (a := at') (b := n) (.inr ⟨k2, rfl⟩) (.inl ⟨rfl, rfl⟩) hat (Nat.le_refl _)
  generalize hg0 : (h.push (.cells [] false)).push (.cells x false) = g0
  have f0 : Fr h g0 := by rw [← hg0]; exact ((Fr.refl h).push _).push _
  have n0 : g0.next = h.next + 2 := by rw [← hg0]; rfl
  have sa : ∀ g, Fr h g → Sl g es at' a (l.take (at' * es)) := by
    intro g f
    obtain ⟨a', ea', sa⟩ := (s.fr f).slice (lo := none) (hi := some (.int k1 (at' : Int))) (a := 0) (b := at') (.inl ⟨rfl, rfl⟩) (.inr ⟨k1, rfl⟩) (Nat.zero_le _) hat
    rw [ea] at ea'; cases ea'
    simpa using sa
  have sb : ∀ g, Fr h g → Sl g es (n - at') b (l.drop (at' * es)) := by
    intro g f
    obtain ⟨b', eb', sb⟩ := (s.fr f).slice (lo := some (.int k2 (at' : Int))) (hi := none) (a := at') (b := n) (.inr ⟨k2, rfl⟩) (.inl ⟨rfl, rfl⟩) hat (Nat.le_refl _)
    rw [eb] at eb'; cases eb'
    rw [List.take_of_length_le (by rw [List.length_drop, hl, Nat.sub_mul]; omega)] at sb
    exact sb
  have o0 : Own h.next g0 es 0 (.slice h.next 0 0 0 true es) [] := by
    refine ⟨by simp, .inr ⟨h.next, 0, true, [], rfl, Nat.le_refl _, by omega, ?_, by simp, by simp⟩⟩
    rw [← hg0, get_push_old (by simp), get_push_new]
  obtain ⟨v1, g1, e1, o1, f1, p1, q1⟩ := o0.append (bytes := bytes) (sa g0 f0) (by omega) hst.1 (by rw [Nat.zero_add]; exact Nat.le_trans (Nat.mul_le_mul_right _ (show at' ≤ n + 1 by omega)) h1) (by omega)
  have fr1 : Fr h g1 := ⟨Nat.le_trans f0.next f1.next, fun i hi => (f1.get i hi).trans (f0.get i hi)⟩
  have n1 : h.next + 2 ≤ g1.next := by have := f1.next; omega
  have sx : Sl g1 es 1 (.slice (h.next + 1) 0 1 1 true es) x := by
    refine ⟨by omega, .inr ⟨h.next + 1, 0, 1, true, x, false, rfl, by omega, Nat.le_refl _, ?_, by omega, by rw [List.drop_zero, List.take_of_length_le (by omega)]⟩⟩
    rw [p1 _ (by omega) (by simp [idOf]), ← hg0]
    exact get_push_new _
  obtain ⟨v2, g2, e2, o2, f2, p2, q2⟩ := o1.append (bytes := bytes) sx (by omega) hs2 (by rw [Nat.zero_add]; exact Nat.le_trans (Nat.mul_le_mul_right _ (show at' + 1 ≤ n + 1 by omega)) h1) (by omega)
  have fr2 : Fr h g2 := ⟨Nat.le_trans fr1.next f2.next, fun i hi => (f2.get i hi).trans (fr1.get i hi)⟩
  obtain ⟨v3, g3, e3, o3, f3, p3, q3⟩ := o2.append (bytes := bytes) (sb g2 fr2) (by have := f2.next; omega) hst.2 (by rw [show 0 + at' + 1 + (n - at') = n + 1 from by omega]; exact h1) (by omega)
  rw [show 0 + at' + 1 + (n - at') = n + 1 from by omega] at o3
  refine ⟨a, b, v1, g1, v2, g2, v3, g3, ea, eb, e1, e2, e3, by simpa using o3, ⟨Nat.le_trans fr2.next f3.next, fun i hi => (f3.get i hi).trans (fr2.get i hi)⟩⟩

end
end Go.Dr

/-
  Texts held against one another; elements of several cells.
-/
namespace Go.Dr

abbrev Txt := List UInt8

theorem take_snoc {α : Type} (l : List α) (j : Nat) (x : α) (h : l[j]? = some x) : l.take (j + 1) = l.take j ++ [x] := by
  rw [List.take_add_one, h]; rfl

theorem less_irrefl : ∀ a : Txt, Op.bytesLess a a = false
  | [] => rfl
  | x :: a => by simp [Op.bytesLess, less_irrefl a, UInt8.lt_irrefl]

theorem u8_tri (a b : UInt8) : a < b ∧ ¬ b < a ∧ a ≠ b ∨ a = b ∧ ¬ a < b ∧ ¬ b < a ∨ b < a ∧ ¬ a < b ∧ a ≠ b := by
  simp only [UInt8.lt_iff_toNat_lt, ne_eq, ← UInt8.toNat_inj]; omega

theorem less_or_eq : ∀ a b : Txt, (Op.bytesLess a b || a == b) = !Op.bytesLess b a
  | [], [] => rfl
  | [], y :: b => by simp [Op.bytesLess]
  | x :: a, [] => by simp [Op.bytesLess]
  | x :: a, y :: b => by
    have ih := less_or_eq a b
    rcases u8_tri x y with ⟨h1, h2, h3⟩ | ⟨rfl, h1, h2⟩ | ⟨h1, h2, h3⟩
    · have : ¬ y = x := fun e => h3 e.symm
      simp [Op.bytesLess, h1, h2, this]
    · simp [Op.bytesLess, h1] at ih ⊢
      exact ih
    · have : ¬ y = x := fun e => h3 e.symm
      simp [Op.bytesLess, h1, h2, h3]

theorem less_asymm {a b : Txt} (h : Op.bytesLess a b = true) : Op.bytesLess b a = false := by
  have := less_or_eq a b
  rw [h] at this
  simpa using this.symm

theorem less_tri (a b : Txt) : Op.bytesLess a b = true ∨ a = b ∨ Op.bytesLess b a = true := by
  have := less_or_eq a b
  cases h : Op.bytesLess b a with
  | true => exact .inr (.inr rfl)
  | false =>
    rw [h] at this
    simp at this
    rcases this with h | h
    · exact .inl h
    · exact .inr (.inl h)

theorem less_trans : ∀ {a b c : Txt}, Op.bytesLess a b = true → Op.bytesLess b c = true → Op.bytesLess a c = true
  | _, [], _, h, _ => by cases ‹Txt› <;> simp [Op.bytesLess] at h
  | _, _ :: _, [], _, h => by simp [Op.bytesLess] at h
  | [], _ :: _, _ :: _, _, _ => rfl
  | x :: a, y :: b, z :: c, h1, h2 => by
    simp only [Op.bytesLess, Bool.or_eq_true, decide_eq_true_eq, Bool.and_eq_true, beq_iff_eq] at h1 h2 ⊢
    rcases h1 with h1 | ⟨rfl, h1⟩
    · rcases h2 with h2 | ⟨rfl, h2⟩
      · left; rw [UInt8.lt_iff_toNat_lt] at *; omega
      · exact .inl h1
    · rcases h2 with h2 | ⟨rfl, h2⟩
      · exact .inl h2
      · exact .inr ⟨rfl, less_trans h1 h2⟩

section
variable {P : Program} {h : AH}

@[simp] theorem bin_lss_str (t : TypeId) (lit : Bool) (a b : Txt) : opBin P .lss t lit (.str a) (.str b) = .ok (.bool (Op.bytesLess a b)) := nr rfl
@[simp] theorem bin_leq_str (t : TypeId) (lit : Bool) (a b : Txt) : opBin P .leq t lit (.str a) (.str b) = .ok (.bool (!Op.bytesLess b a)) := by
  simp only [opBin, strOp, less_or_eq]
@[simp] theorem bin_gtr_str (t : TypeId) (lit : Bool) (a b : Txt) : opBin P .gtr t lit (.str a) (.str b) = .ok (.bool (Op.bytesLess b a)) := by
  simp only [opBin, strOp, less_or_eq, Bool.not_not]
@[simp] theorem bin_geq_str (t : TypeId) (lit : Bool) (a b : Txt) : opBin P .geq t lit (.str a) (.str b) = .ok (.bool (!Op.bytesLess a b)) := nr rfl

@[simp] theorem AV.cells_ptr (id off : Nat) : (AV.ptr id off).cells = [.ptr id off] := nr rfl
@[simp] theorem AV.cells_nilp : AV.nilp.cells = [.nilp] := nr rfl
@[simp] theorem AV.cells_map (id : Nat) : (AV.map id).cells = [.map id] := nr rfl
@[simp] theorem AV.cells_nilm : AV.nilm.cells = [.nilm] := nr rfl
@[simp] theorem AV.cells_nili : AV.nili.cells = [.nili] := nr rfl
@[simp] theorem AV.cells_iface (t : TypeId) (v : AV) : (AV.iface t v).cells = [.iface t v] := nr rfl
@[simp] theorem AV.cells_func (f : Fn) (a b : List AV) : (AV.func f a b).cells = [.func f a b] := nr rfl
@[simp] theorem AV.scalar_nilp : AV.nilp.scalar = true := nr rfl
@[simp] theorem AV.scalar_map (id : Nat) : (AV.map id).scalar = true := nr rfl
@[simp] theorem AV.scalar_nilm : AV.nilm.scalar = true := nr rfl
@[simp] theorem AV.scalar_iface (t : TypeId) (v : AV) : (AV.iface t v).scalar = true := nr rfl
@[simp] theorem AV.scalar_nili : AV.nili.scalar = true := nr rfl

/-! ### elements of several cells -/

theorem flatMap_len {α : Type} {f : α → List AV} {es : Nat} : ∀ (l : List α), (∀ x ∈ l, (f x).length = es) → (l.flatMap f).length = l.length * es
  | [], _ => by simp
  | x :: l, h => by
    rw [List.flatMap_cons, List.length_append, flatMap_len l fun y hy => h y (List.mem_cons_of_mem _ hy), h x (by simp), List.length_cons, Nat.add_mul, Nat.one_mul, Nat.add_comm]

theorem flatMap_at {α : Type} {f : α → List AV} {es : Nat} : ∀ (l : List α) (_ : ∀ x ∈ l, (f x).length = es) (i : Nat) (x : α), l[i]? = some x → ((l.flatMap f).drop (i * es)).take es = f x
  | [], _, i, x, e => by simp at e
  | y :: l, h, i, x, e => by
    have hy := h y (by simp)
    cases i with
    | zero =>
      simp at e; subst e
      rw [List.flatMap_cons, Nat.zero_mul, List.drop_zero, List.take_append_of_le_length (by omega), List.take_of_length_le (by omega)]
    | succ i =>
      rw [List.flatMap_cons, Nat.add_mul, Nat.one_mul, Nat.add_comm, ← List.drop_drop, ← hy, List.drop_left, hy]
      exact flatMap_at l (fun z hz => h z (List.mem_cons_of_mem _ hz)) i x (by simpa using e)

theorem flatMap_take {α : Type} {f : α → List AV} {es : Nat} : ∀ (l : List α) (_ : ∀ x ∈ l, (f x).length = es) (i : Nat), (l.flatMap f).take (i * es) = (l.take i).flatMap f
  | [], _, i => by simp
  | y :: l, h, 0 => by simp
  | y :: l, h, i + 1 => by
    have hy := h y (by simp)
    rw [List.flatMap_cons, Nat.add_mul, Nat.one_mul, List.take_succ_cons, List.flatMap_cons, List.take_append, hy, List.take_of_length_le (by omega),
      show i * es + es - es = i * es from by omega, flatMap_take l (fun z hz => h z (List.mem_cons_of_mem _ hz)) i]

theorem flatMap_drop {α : Type} {f : α → List AV} {es : Nat} : ∀ (l : List α) (_ : ∀ x ∈ l, (f x).length = es) (i : Nat), (l.flatMap f).drop (i * es) = (l.drop i).flatMap f
  | [], _, i => by simp
  | y :: l, h, 0 => by simp
  | y :: l, h, i + 1 => by
    have hy := h y (by simp)
    rw [List.flatMap_cons, Nat.add_mul, Nat.one_mul, Nat.add_comm, ← List.drop_drop, ← hy, List.drop_left, hy, List.drop_succ_cons]
    exact flatMap_drop l (fun z hz => h z (List.mem_cons_of_mem _ hz)) i

/-- an element of a slice of structs -/
theorem Sl.elem {α : Type} {f : α → List AV} {es n : Nat} {v : AV} {l : List α} (s : Sl h es n v (l.flatMap f)) (hf : ∀ x ∈ l, (f x).length = es) (hes : 0 < es) {k : IntKind} {i : Int} {j : Nat} (hi : i = j) {x : α} (hx : l[j]? = some x) :
    ∃ id o, opIdxV es v (.int k i) = .ok (.ptr id o) ∧ loadN h id o es = .ok (f x) ∧ (∀ c y, (f x)[c]? = some y → load1 h id (o + c) = .ok y) ∧ id < h.next := by
  have hl := flatMap_len l hf
  have hn : l.length = n := by
    have := s.1
    rw [hl] at this
    exact Nat.eq_of_mul_eq_mul_right hes this
  have hjl : j < l.length := (List.getElem?_eq_some_iff.1 hx).1
  obtain ⟨id, o, h1, h2, h3⟩ := s.get (k := k) hi (show j < n by omega)
  have hat := flatMap_at l hf j x hx
  refine ⟨id, o, h1, by rw [h3, hat], fun c y hy => ?_, ?_⟩
  · have hc : c < es := by rw [← hf x (List.mem_of_getElem? hx)]; exact (List.getElem?_eq_some_iff.1 hy).1
    rw [h2 c hc, ← hat, List.getElem?_take_of_lt hc, List.getElem?_drop] at *
    rw [hy]; rfl
  · unfold loadN at h3
    split at h3
    · rename_i vs ro hg
      rcases s.2 with ⟨rfl, rfl⟩ | ⟨id', off, cap, x', vs', ro', rfl, e2, _⟩
      · omega
      · subst hi
        rw [opIdxV_slice _ _ _ _ _ _ _ _ ⟨by omega, by omega⟩] at h1
        cases h1
        exact e2
    · cases h3

/-- one element more -/
theorem Own.snoc {B es n bytes : Nat} {v : AV} {l x : List AV} (s : Own B h es n v l) (hB : B ≤ h.next) (hx : x.length = es) (hs : allScalar x = true) (h1 : (n + 1) * bytes ≤ 2 ^ 40) (h2 : n + 1 ≤ 2 ^ 40) :
    ∃ v' h', opApp es bytes v (.slice h.next 0 1 1 true es) (h.push (.cells x false)) = okV v' h' ∧ Own B h' es (n + 1) v' (l ++ x) ∧ FrB B h h' := by
  have f0 := Fr.push (.refl h) (.cells x false)
  have sx := (Own.fresh (B := 0) (h := h) (es := es) (n := 1) (l := x) true (Nat.zero_le _) (by omega)).sl
  obtain ⟨v', h', e, o, f, _⟩ := (s.fr f0).append (bytes := bytes) sx (Nat.le_trans hB (Nat.le_succ _)) hs h1 h2
  exact ⟨v', h', e, o, (f0.b hB).trans f⟩

/-- a struct stored into a block that was just laid -/
@[simp] theorem opStore_new {n : Nat} {z l : List AV} (hz : z.length = n) (hl : l.length = n) (hs : allScalar l = true) : opStore n (.ptr h.next 0) (.agg l) (h.push (.cells z false)) = skipH (.ok (h.push (.cells l false))) := by
  rw [opStore_agg _ _ _ _ hl]
  cases l with
  | nil =>
    have : z = [] := List.length_eq_zero_iff.1 (by simpa [hz] using hl.symm)
    subst this; rfl
  | cons x l =>
    rw [storeN_all (get_push_new _) (by rw [hz, hl]) hs, AH.set_push]

end
end Go.Dr

/-
  Bits as lists of truths, the highest first; bytes out of them; plain.
-/
namespace Go.Dr

abbrev Bits := List Bool

def val (l : Bits) : Nat := l.foldl (fun n b => 2 * n + b.toNat) 0

theorem val_foldl : ∀ (l : Bits) (n : Nat), l.foldl (fun n b => 2 * n + b.toNat) n = n * 2 ^ l.length + val l
  | [], n => by simp [val]
  | b :: l, n => by
    have h2 : val (b :: l) = b.toNat * 2 ^ l.length + val l := by
      show l.foldl (fun n b => 2 * n + b.toNat) (2 * 0 + b.toNat) = _
      rw [val_foldl l]; simp
    rw [List.foldl_cons, val_foldl l, h2, List.length_cons, Nat.pow_succ, Nat.add_mul, Nat.mul_comm 2 n, Nat.mul_assoc, Nat.mul_comm 2 (2 ^ l.length), Nat.add_assoc]

theorem val_append (a b : Bits) : val (a ++ b) = val a * 2 ^ b.length + val b := by
  rw [val, List.foldl_append, val_foldl]; rfl

@[simp] theorem val_nil : val [] = 0 := rfl
theorem val_cons (b : Bool) (l : Bits) : val (b :: l) = b.toNat * 2 ^ l.length + val l := by
  have := val_append [b] l
  simpa [val] using this

theorem val_lt : ∀ l : Bits, val l < 2 ^ l.length
  | [] => by simp
  | b :: l => by
    have := val_lt l
    rw [val_cons, List.length_cons, Nat.pow_succ]
    cases b <;> simp <;> omega

/-- the lowest k bits of a number -/
def lowB (n : Nat) : Nat → Bits
  | 0 => []
  | k + 1 => n.testBit k :: lowB n k

@[simp] theorem lowB_length (n : Nat) : ∀ k, (lowB n k).length = k
  | 0 => rfl
  | k + 1 => by rw [lowB, List.length_cons, lowB_length n k]

theorem val_lowB (n : Nat) : ∀ k, val (lowB n k) = n % 2 ^ k
  | 0 => by simp [lowB, Nat.mod_one]
  | k + 1 => by
    rw [lowB, val_cons, lowB_length, val_lowB n k, Nat.testBit_eq_decide_div_mod_eq, Nat.pow_succ, Nat.mod_mul]
    have h2 : n / 2 ^ k % 2 < 2 := Nat.mod_lt _ (by decide)
    by_cases h : n / 2 ^ k % 2 = 1
    · simp [h]; omega
    · have h0 : n / 2 ^ k % 2 = 0 := by omega
      simp [h0]

theorem lowB_add (n : Nat) : ∀ a b : Nat, lowB n (a + b) = lowB (n / 2 ^ b) a ++ lowB n b
  | 0, b => by simp [lowB]
  | a + 1, b => by
    rw [show a + 1 + b = (a + b) + 1 from by omega, lowB, lowB_add n a b, lowB, List.cons_append]
    congr 1
    rw [Nat.testBit_div_two_pow, Nat.add_comm]

theorem lowB_mod (n : Nat) : ∀ (k m : Nat), k ≤ m → lowB (n % 2 ^ m) k = lowB n k
  | 0, m, _ => rfl
  | k + 1, m, h => by
    rw [lowB, lowB, lowB_mod n k m (by omega), Nat.testBit_mod_two_pow]
    simp; omega

theorem lowB_val : ∀ l : Bits, lowB (val l) l.length = l
  | [] => rfl
  | b :: l => by
    have hl := val_lt l
    rw [List.length_cons, lowB]
    have h1 : lowB (val (b :: l)) l.length = l := by
      rw [← lowB_mod _ _ _ (Nat.le_refl l.length), val_cons, Nat.mul_comm, Nat.mul_add_mod, Nat.mod_eq_of_lt hl]
      exact lowB_val l
    rw [h1]
    congr 1
    rw [val_cons, Nat.testBit_eq_decide_div_mod_eq, Nat.mul_comm, Nat.mul_add_div (Nat.two_pow_pos _), Nat.div_eq_of_lt hl]
    cases b <;> simp

theorem lowB_drop (n k r : Nat) (h : r ≤ k) : (lowB n k).drop r = lowB n (k - r) := by
  have := lowB_add n r (k - r)
  rw [show r + (k - r) = k from by omega] at this
  rw [this, List.drop_left' (by simp)]

theorem lowB_take (n k t : Nat) (h : t ≤ k) : (lowB n k).take t = lowB (n / 2 ^ (k - t)) t := by
  have := lowB_add n t (k - t)
  rw [show t + (k - t) = k from by omega] at this
  rw [this, List.take_left' (by simp)]

/-! ### bytes -/

def bitsOf (b : List Nat) : Bits := b.flatMap fun x => lowB x 8

@[simp] theorem bitsOf_length (b : List Nat) : (bitsOf b).length = 8 * b.length := by
  induction b with
  | nil => rfl
  | cons x b ih => rw [bitsOf, List.flatMap_cons, List.length_append, lowB_length, ← bitsOf, ih, List.length_cons]; omega

theorem bitsOf_drop8 (b : List Nat) : ∀ i : Nat, (bitsOf b).drop (8 * i) = bitsOf (b.drop i) := by
  induction b with
  | nil => intro i; simp [bitsOf]
  | cons x b ih =>
    intro i
    cases i with
    | zero => rfl
    | succ i =>
      have := ih i
      rw [bitsOf, List.flatMap_cons, show 8 * (i + 1) = 8 + 8 * i from by omega, ← List.drop_drop, List.drop_left' (by simp), ← bitsOf, this, List.drop_succ_cons]

/-- some bits within one byte -/
theorem bitsOf_within (b : List Nat) (at' t x : Nat) (hx : b[at' / 8]? = some x) (ht : at' % 8 + t ≤ 8) : ((bitsOf b).drop at').take t = lowB (x / 2 ^ (8 - at' % 8 - t)) t := by
  have hlt : at' / 8 < b.length := (List.getElem?_eq_some_iff.1 hx).1
  have e : at' = 8 * (at' / 8) + at' % 8 := by omega
  have hd : b.drop (at' / 8) = x :: b.drop (at' / 8 + 1) := by
    rw [List.drop_eq_getElem_cons hlt]
    congr 1
    rw [List.getElem?_eq_getElem hlt] at hx
    exact Option.some.inj hx
  rw [show (bitsOf b).drop at' = ((bitsOf b).drop (8 * (at' / 8))).drop (at' % 8) from by rw [List.drop_drop, ← e], bitsOf_drop8, hd, bitsOf, List.flatMap_cons,
    List.drop_append_of_le_length (by simp; omega), List.take_append_of_le_length (by simp; omega), lowB_drop _ _ _ (by omega), lowB_take _ _ _ (by omega)]

/-- the byte of eight bits, or of fewer with zeros behind -/
def byteV (l : Bits) : Nat := val l * 2 ^ (8 - l.length)

/-- bits as bytes -/
def pack (l : Bits) : List Nat := (List.range ((l.length + 7) / 8)).map fun i => byteV ((l.drop (8 * i)).take 8)

@[simp] theorem pack_length (l : Bits) : (pack l).length = (l.length + 7) / 8 := by simp [pack]
theorem pack_get (l : Bits) (i : Nat) (h : i < (l.length + 7) / 8) : (pack l)[i]? = some (byteV ((l.drop (8 * i)).take 8)) := by
  simp [pack, h]

theorem byteV_lt (l : Bits) (h : l.length ≤ 8) : byteV l < 256 := by
  have := val_lt l
  unfold byteV
  have h2 : 2 ^ l.length * 2 ^ (8 - l.length) = 256 := by rw [← Nat.pow_add, show l.length + (8 - l.length) = 8 from by omega]
  rw [← h2]
  exact Nat.mul_lt_mul_of_pos_right this (Nat.two_pow_pos _)

theorem pack_lt (l : Bits) : ∀ x ∈ pack l, x < 256 := by
  intro x hx
  obtain ⟨i, _, rfl⟩ := List.mem_map.1 hx
  exact byteV_lt _ (by simp; omega)

/-- some more bits within the last byte -/
theorem pack_more (l c : Bits) (h0 : 0 < c.length) (h8 : l.length % 8 + c.length ≤ 8) (B : List Nat) (hB : B = if l.length % 8 = 0 then pack l ++ [0] else pack l) :
    ∃ y, B[B.length - 1]? = some y ∧ y < 256 ∧ y % 2 ^ (8 - l.length % 8) = 0 ∧ 0 < B.length ∧ B.length = l.length / 8 + 1 ∧
      pack (l ++ c) = B.set (B.length - 1) (y + val c * 2 ^ (8 - l.length % 8 - c.length)) := by
  have hlen : B.length = l.length / 8 + 1 := by
    rw [hB]
    split <;> simp <;> omega
  have hk : B.length - 1 = l.length / 8 := by omega
  have hlast : ((l.drop (8 * (l.length / 8))).take 8) = l.drop (8 * (l.length / 8)) := List.take_of_length_le (by simp; omega)
  have hdl : (l.drop (8 * (l.length / 8))).length = l.length % 8 := by simp; omega
  generalize hd : l.drop (8 * (l.length / 8)) = d at *
  refine ⟨byteV d, ?_, byteV_lt _ (by omega), ?_, by omega, hlen, ?_⟩
  · rw [hk, hB]
    by_cases hr : l.length % 8 = 0
    · rw [if_pos hr, List.getElem?_append_right (by simp; omega)]
      have : d = [] := List.length_eq_zero_iff.1 (by omega)
      subst this
      rw [show l.length / 8 - (pack l).length = 0 from by rw [pack_length]; omega]
      simp [byteV]
    · rw [if_neg hr, pack_get _ _ (by omega), hd, hlast]
  · unfold byteV
    rw [hdl]
    exact Nat.mul_mod_left _ _
  · apply List.ext_getElem?
    intro i
    rw [List.getElem?_set]
    by_cases hi : i < (l.length + c.length + 7) / 8
    · rw [pack_get _ _ (by simp; omega)]
      by_cases he : B.length - 1 = i
      · rw [if_pos he, if_pos (by omega)]
        congr 1
        have hi2 : i = l.length / 8 := by omega
        rw [hi2, List.drop_append_of_le_length (by omega), hd, List.take_of_length_le (by simp; omega)]
        unfold byteV
        rw [val_append, List.length_append, hdl, Nat.add_mul, Nat.mul_assoc, ← Nat.pow_add, show c.length + (8 - (l.length % 8 + c.length)) = 8 - l.length % 8 from by omega,
          show 8 - (l.length % 8 + c.length) = 8 - l.length % 8 - c.length from by omega]
      · rw [if_neg he, hB]
        have hi2 : i < l.length / 8 := by omega
        have e1 : ((l ++ c).drop (8 * i)).take 8 = (l.drop (8 * i)).take 8 := by
          rw [List.drop_append_of_le_length (by omega), List.take_append_of_le_length (by simp; omega)]
        rw [e1]
        split
        · rw [List.getElem?_append_left (by simp; omega), pack_get _ _ (by omega)]
        · rw [pack_get _ _ (by omega)]
    · rw [List.getElem?_eq_none (by simp; omega), if_neg (by omega), List.getElem?_eq_none (by omega)]

/-- bits packed, read again -/
theorem bitsOf_pack (l : Bits) : ∃ z, bitsOf (pack l) = l ++ z := by
  have key : ∀ (n : Nat) (l : Bits), l.length ≤ n → ∃ z, bitsOf (pack l) = l ++ z := by
    intro n
    induction n with
    | zero => intro l h; have : l = [] := List.length_eq_zero_iff.1 (by omega); subst this; exact ⟨[], rfl⟩
    | succ n ih =>
      intro l h
      by_cases h8 : l.length < 8
      · by_cases h0 : l.length = 0
        · have : l = [] := List.length_eq_zero_iff.1 h0
          subst this; exact ⟨[], rfl⟩
        · have e1 : (l.length + 7) / 8 = 1 := by omega
          refine ⟨lowB 0 (8 - l.length), ?_⟩
          unfold pack
          rw [e1]
          simp only [List.range_one, List.map_cons, List.map_nil, Nat.mul_zero, List.drop_zero, bitsOf, List.flatMap_cons, List.flatMap_nil, List.append_nil]
          rw [List.take_of_length_le (by omega)]
          have := lowB_add (byteV l) l.length (8 - l.length)
          rw [show l.length + (8 - l.length) = 8 from by omega] at this
          rw [this]
          unfold byteV
          rw [Nat.mul_div_cancel _ (Nat.two_pow_pos _), lowB_val]
          congr 1
          rw [← lowB_mod _ _ _ (Nat.le_refl _), Nat.mul_mod_left]
      · obtain ⟨z, hz⟩ := ih (l.drop 8) (by simp; omega)
        refine ⟨z, ?_⟩
        have hp : pack l = byteV (l.take 8) :: pack (l.drop 8) := by
          apply List.ext_getElem?
          intro i
          cases i with
          | zero => rw [pack_get _ _ (by omega)]; simp
          | succ i =>
            rw [List.getElem?_cons_succ]
            by_cases hi : i < ((l.drop 8).length + 7) / 8
            · rw [pack_get _ _ (by simp at hi; omega), pack_get _ _ hi, List.drop_drop, show 8 * (i + 1) = 8 + 8 * i from by omega]
            · rw [List.getElem?_eq_none (by simp at hi ⊢; omega), List.getElem?_eq_none (by simp at hi ⊢; omega)]
        rw [hp, bitsOf, List.flatMap_cons, ← bitsOf, hz]
        have h8' : (l.take 8).length = 8 := by simp; omega
        have : lowB (byteV (l.take 8)) 8 = l.take 8 := by
          unfold byteV
          rw [h8', Nat.sub_self, Nat.pow_zero, Nat.mul_one]
          have := lowB_val (l.take 8)
          rw [h8'] at this
          exact this
        rw [this, ← List.append_assoc, List.take_append_drop]
  exact key l.length l (Nat.le_refl _)

end Go.Dr

namespace Go.Dk
open Go Go.Dr
set_option maxRecDepth 100000

def widthN : Nat → Nat
  | 1 => 7 | 2 => 12 | 3 => 32 | 4 => 64 | _ => 0
def classN (n : Int) : Nat := if n = 0 then 0 else if -64 ≤ n ∧ n < 64 then 1 else if -2048 ≤ n ∧ n < 2048 then 2 else if -2147483648 ≤ n ∧ n < 2147483648 then 3 else 4

theorem bits_width (k : Nat) (hk : k ≤ 4) (h : AH) (K : AV → AH → Prop) : Ev P SI (.fn f_bits_width) [.int .i64 (k : Int)] h K = K (.int .i64 (widthN k : Int)) h := by
  refine Ev.eq (ev_fn k_bits_width rfl rfl ?_) K
  rcases (show k = 0 ∨ k = 1 ∨ k = 2 ∨ k = 3 ∨ k = 4 by omega) with rfl | rfl | rfl | rfl | rfl <;> simp [c_bits_width, widthN]

theorem w1_i64 : wrapF .i64 (4 - 1) = 3 := rfl
theorem w2_i64 : wrapF .i64 (3 - 1) = 2 := rfl
theorem w3_i64 : wrapF .i64 (2 - 1) = 1 := rfl

theorem bits_class (n : Int) (h : AH) (K : AV → AH → Prop) : Ev P SI (.fn f_bits_class) [.int .i64 n] h K = K (.int .i64 (classN n : Int)) h := by
  refine Ev.eq (ev_fn k_bits_class rfl rfl ?_) K
  unfold classN
  have e1 : wrapF .i64 3 = 3 := rfl
  have e2 : wrapF .i64 2 = 2 := rfl
  have e3 : wrapF .i64 1 = 1 := rfl
  by_cases h0 : n = 0
  · simp [c_bits_class, h0]
  · by_cases a1 : -64 ≤ n
    · by_cases a2 : n < 64
      · simp [c_bits_class, h0, a1, a2, e1, e2, e3]
      · by_cases b2 : n < 2048
        · have b1 : -2048 ≤ n := by omega
          simp [c_bits_class, h0, a1, a2, b1, b2, e1, e2, e3]
        · have b1 : -2048 ≤ n := by omega
          have d1 : -2147483648 ≤ n := by omega
          by_cases d2 : n < 2147483648
          · simp [c_bits_class, h0, a1, a2, b1, b2, d1, d2, e1, e2, e3]
          · simp [c_bits_class, h0, a1, a2, b1, b2, d1, d2]
    · by_cases b1 : -2048 ≤ n
      · have b2 : n < 2048 := by omega
        simp [c_bits_class, h0, a1, b1, b2, e1, e2, e3]
      · by_cases d1 : -2147483648 ≤ n
        · have d2 : n < 2147483648 := by omega
          simp [c_bits_class, h0, a1, b1, d1, d2, e1, e2, e3]
        · simp [c_bits_class, h0, a1, b1, d1]

theorem fdiv_nat (x m : Nat) : (x : Int).fdiv (m : Int) = ((x / m : Nat) : Int) := by
  rw [Int.fdiv_eq_ediv_of_nonneg _ (by omega)]; rfl

def lenTab : List UInt8 := [0, 1, 2, 2, 3, 3, 3, 3, 4, 4, 4, 4, 4, 4, 4, 4] ++ List.replicate 16 5 ++ List.replicate 32 6 ++ List.replicate 64 7 ++ List.replicate 128 8
theorem lenTab_at : ∀ i : Fin 256, lenTab[i.val]? = some (UInt8.ofNat (Lib.bitLen i.val)) := by decide +kernel
theorem bitLen_byte : ∀ i : Fin 256, Lib.bitLen i.val ≤ 8 := Lib.bitLen_le8

theorem lenTab_str {y : Nat} (hy : y < 256) (k : IntKind) : opIndexS (.str [0, 1, 2, 2, 3, 3, 3, 3, 4, 4, 4, 4, 4, 4, 4, 4, 5, 5, 5, 5, 5, 5, 5, 5, 5, 5, 5, 5, 5, 5, 5, 5, 6, 6, 6, 6, 6, 6, 6, 6, 6, 6, 6, 6, 6, 6, 6, 6, 6, 6, 6, 6, 6, 6, 6, 6, 6, 6, 6, 6, 6, 6, 6, 6, 7, 7, 7, 7, 7, 7, 7, 7, 7, 7, 7, 7, 7, 7, 7, 7, 7, 7, 7, 7, 7, 7, 7, 7, 7, 7, 7, 7, 7, 7, 7, 7, 7, 7, 7, 7, 7, 7, 7, 7, 7, 7, 7, 7, 7, 7, 7, 7, 7, 7, 7, 7, 7, 7, 7, 7, 7, 7, 7, 7, 7, 7, 7, 7, 8, 8, 8, 8, 8, 8, 8, 8, 8, 8, 8, 8, 8, 8, 8, 8, 8, 8, 8, 8, 8, 8, 8, 8, 8, 8, 8, 8, 8, 8, 8, 8, 8, 8, 8, 8, 8, 8, 8, 8, 8, 8, 8, 8, 8, 8, 8, 8, 8, 8, 8, 8, 8, 8, 8, 8, 8, 8, 8, 8, 8, 8, 8, 8, 8, 8, 8, 8, 8, 8, 8, 8, 8, 8, 8, 8, 8, 8, 8, 8, 8, 8, 8, 8, 8, 8, 8, 8, 8, 8, 8, 8, 8, 8, 8, 8, 8, 8, 8, 8, 8, 8, 8, 8, 8, 8, 8, 8, 8, 8, 8, 8, 8, 8, 8, 8, 8, 8, 8, 8, 8, 8, 8, 8, 8, 8, 8, 8]) (.int k (y : Int)) = .ok (.int .u8 (Lib.bitLen y : Int)) := by
  have h1 := lenTab_at ⟨y, hy⟩
  have h2 := bitLen_byte ⟨y, hy⟩
  simp only at h1 h2
  have h3 : opIndexS (.str lenTab) (.int k (y : Int)) = .ok (.int .u8 ((UInt8.ofNat (Lib.bitLen y)).toNat : Int)) := by simp [opIndexS, h1]
  rw [show (UInt8.ofNat (Lib.bitLen y)).toNat = Lib.bitLen y from by simp; omega] at h3
  exact h3

def LenQ (x : Nat) (b m : Nat) : Post := fun q σ ds g => q = .normal ∧ ds = [] ∧ ∃ y n : Nat, σ 0 = .int .u64 (y : Int) ∧ σ 2 = .int .i64 (n : Int) ∧ y < 2 ^ b ∧ n ≤ m ∧ Lib.bitLen x = n + Lib.bitLen y

theorem len64 {x : Nat} (hx : x < 2 ^ 64) (h : AH) (K : AV → AH → Prop) : Ev P SI (.fn f_math_bits_Len64) [.int .u64 (x : Int)] h K = K (.int .i64 (Lib.bitLen x : Int)) h := by
  refine Ev.eq (ev_fn k_math_bits_Len64 rfl rfl ?_) K
  have f32 : ∀ x : Nat, (x : Int).fdiv 4294967296 = ((x / 4294967296 : Nat) : Int) := fun x => fdiv_nat x 4294967296
  have f16 : ∀ x : Nat, (x : Int).fdiv 65536 = ((x / 65536 : Nat) : Int) := fun x => fdiv_nat x 65536
  have f8 : ∀ x : Nat, (x : Int).fdiv 256 = ((x / 256 : Nat) : Int) := fun x => fdiv_nat x 256
  unfold c_math_bits_Len64
  rw [wpC_seq]
  refine w_mono (Q := fun q σ ds g => LenQ x 64 0 q σ ds g ∧ g = h) ?_ ?_
  · simp [LenQ]
    exact ⟨x, rfl, 0, rfl, hx, rfl, by omega⟩
  rintro q σ ds g ⟨⟨rfl, rfl, y, n, e0, e2, hy, hn, hb⟩, rfl⟩
  rw [Kseq_normal, wpC_seq]
  refine w_mono (Q := fun q σ ds g' => LenQ x 32 32 q σ ds g' ∧ g' = g) ?_ ?_
  · by_cases c : 4294967296 ≤ y
    · have c' : (4294967296 : Int) ≤ y := by omega
      simp [e0, e2, c', f32, -Int.natCast_ediv, LenQ]
      exact ⟨y / 4294967296, rfl, 32, rfl, by omega, by omega, (by have hs : Lib.bitLen y = 32 + Lib.bitLen (y / 4294967296) := Lib.bitLen_shift 32 y (by omega) (by omega); omega)⟩
    · have c' : ¬ (4294967296 : Int) ≤ y := by omega
      simp [e0, e2, c', LenQ]
      exact ⟨y, rfl, n, rfl, by omega, by omega, hb⟩
  clear hy hn hb e0 e2
  rintro q σ ds g' ⟨⟨rfl, rfl, y, n, e0, e2, hy, hn, hb⟩, rfl⟩
  rw [Kseq_normal, wpC_seq]
  refine w_mono (Q := fun q σ ds g => LenQ x 16 48 q σ ds g ∧ g = g') ?_ ?_
  · by_cases c : 65536 ≤ y
    · have c' : (65536 : Int) ≤ y := by omega
      have w : wrapF .i64 ((n : Int) + 16) = ((n + 16 : Nat) : Int) := by rw [wrap_i64 (by omega) (by omega)]; omega
      simp [e0, e2, c', f16, -Int.natCast_ediv, w, -Int.natCast_add, LenQ]
      exact ⟨y / 65536, rfl, n + 16, rfl, by omega, by omega, (by have hs : Lib.bitLen y = 16 + Lib.bitLen (y / 65536) := Lib.bitLen_shift 16 y (by omega) (by omega); omega)⟩
    · have c' : ¬ (65536 : Int) ≤ y := by omega
      simp [e0, e2, c', LenQ]
      exact ⟨y, rfl, n, rfl, by omega, by omega, hb⟩
  clear hy hn hb e0 e2
  rintro q σ ds g ⟨⟨rfl, rfl, y, n, e0, e2, hy, hn, hb⟩, rfl⟩
  rw [Kseq_normal, wpC_seq]
  refine w_mono (Q := fun q σ ds g' => LenQ x 8 56 q σ ds g' ∧ g' = g) ?_ ?_
  · by_cases c : 256 ≤ y
    · have c' : (256 : Int) ≤ y := by omega
      have w : wrapF .i64 ((n : Int) + 8) = ((n + 8 : Nat) : Int) := by rw [wrap_i64 (by omega) (by omega)]; omega
      simp [e0, e2, c', f8, -Int.natCast_ediv, w, -Int.natCast_add, LenQ]
      exact ⟨y / 256, rfl, n + 8, rfl, by omega, by omega, (by have hs : Lib.bitLen y = 8 + Lib.bitLen (y / 256) := Lib.bitLen_shift 8 y (by omega) (by omega); omega)⟩
    · have c' : ¬ (256 : Int) ≤ y := by omega
      simp [e0, e2, c', LenQ]
      exact ⟨y, rfl, n, rfl, by omega, by omega, hb⟩
  clear hy hn hb e0 e2
  rintro q σ ds g' ⟨⟨rfl, rfl, y, n, e0, e2, hy, hn, hb⟩, rfl⟩
  simp only [Kseq_normal]
  have w8 : wrapF .u8 (y : Int) = (y : Int) := wrap_u8 (by omega) (by omega)
  have hl := bitLen_byte ⟨y, hy⟩
  simp only at hl
  have wl : wrapF .i64 (Lib.bitLen y : Int) = (Lib.bitLen y : Int) := wrap_i64 (by omega) (by omega)
  have wa : wrapF .i64 ((n : Int) + (Lib.bitLen y : Int)) = (Lib.bitLen x : Int) := by rw [wrap_i64 (by omega) (by omega), hb]; omega
  have ht := lenTab_str hy .u8
  simp [e0, e2, w8, ht, wl, wa]

theorem bitLen_le64 {x : Nat} (hx : x < 2 ^ 64) : Lib.bitLen x ≤ 64 := Lib.bitLen_le x 64 (by omega) hx

theorem leading64 {x : Nat} (hx : x < 2 ^ 64) (h : AH) (K : AV → AH → Prop) : Ev P SI (.fn f_math_bits_LeadingZeros64) [.int .u64 (x : Int)] h K = K (.int .i64 ((64 - Lib.bitLen x : Nat) : Int)) h := by
  refine Ev.eq (ev_fn k_math_bits_LeadingZeros64 rfl rfl ?_) K
  have := bitLen_le64 hx
  have w : wrapF .i64 (64 - (Lib.bitLen x : Int)) = ((64 - Lib.bitLen x : Nat) : Int) := by rw [wrap_i64 (by omega) (by omega)]; omega
  simp [c_math_bits_LeadingZeros64, len64 hx, w]

/-- the library's table lies in the heap -/
def TabIn (h : AH) : Prop := g_math_bits_deBruijn64tab < h.next ∧ h.get g_math_bits_deBruijn64tab = some (.cells (by8 Lib.deBruijn64tab) true)

theorem TabIn.fr {h g : AH} (t : TabIn h) (f : Fr h g) : TabIn g := ⟨Nat.lt_of_lt_of_le t.1 f.next, by rw [f.get _ t.1]; exact t.2⟩

theorem tab_at : ∀ i : Fin 64, Lib.deBruijn64tab[i.val]? = some (Lib.deBruijn64tab.getD i.val 0) := by decide

theorem load_tab {h : AH} (ht : TabIn h) {idx : Nat} (hi : idx < 64) : load1 h g_math_bits_deBruijn64tab idx = .ok (.int .u8 (Lib.deBruijn64tab.getD idx 0 : Int)) := by
  rw [load1_of ht.2, by8_get, tab_at ⟨idx, hi⟩]; rfl

theorem pow_u64 {p : Nat} (h : p < 2 ^ 64) : wrapF .u64 (p : Int) = (p : Int) := wrap_u64 (by omega) (by omega)

theorem mul_mod_int (p : Nat) : wrapF .u64 ((p : Int) * 285870213051353865) = ((p * 285870213051353865 % 18446744073709551616 : Nat) : Int) := by
  rw [wrap64]; omega

theorem trailing64 {x : Nat} (hx : x < 2 ^ 64) (h0 : x ≠ 0) {h : AH} (ht : TabIn h) (K : AV → AH → Prop) : Ev P SI (.fn f_math_bits_TrailingZeros64) [.int .u64 (x : Int)] h K = K (.int .i64 (Lib.ctz 64 x : Int)) h := by
  refine Ev.eq (ev_fn k_math_bits_TrailingZeros64 rfl rfl ?_) K
  obtain ⟨hlow, hk⟩ := Lib.lowest_bit 64 x h0 hx
  obtain ⟨hi, htab⟩ := Lib.deBruijn64_at _ hk
  have h64 : 2 ^ Lib.ctz 64 x < 2 ^ 64 := Nat.pow_lt_pow_right (by omega) hk
  generalize Lib.ctz 64 x = c at *
  generalize 2 ^ c = p at *
  have fd := fdiv_nat (p * 285870213051353865 % 18446744073709551616) 288230376151711744
  have wm := mul_mod_int p
  generalize p * 285870213051353865 % 18446744073709551616 = q at *
  generalize q / 288230376151711744 = idx at *
  have wn : wrapF .u64 (0 - (x : Int)) = ((18446744073709551616 - x : Nat) : Int) := by rw [wrap64]; omega
  have hlt : 18446744073709551616 - x < 2 ^ 64 := by omega
  have hand : (BitVec.ofInt 64 (x : Int) &&& BitVec.ofInt 64 ((18446744073709551616 - x : Nat) : Int)).toNat = p := by
    rw [BitVec.ofInt_natCast, BitVec.ofInt_natCast, BitVec.toNat_and, BitVec.toNat_ofNat, BitVec.toNat_ofNat, Nat.mod_eq_of_lt hx, Nat.mod_eq_of_lt hlt]
    exact hlow
  have ld := load_tab ht hi
  rw [htab] at ld
  have wc : wrapF .i64 (c : Int) = (c : Int) := wrap_i64 (by omega) (by omega)
  have wp := pow_u64 h64
  have ix := opIdxA_ptr 64 1 g_math_bits_deBruijn64tab 0 .u64 (idx : Int) ⟨by omega, by omega⟩
  rw [Int.toNat_natCast, Nat.mul_one, Nat.zero_add] at ix
  have n1 := un_neg .u64 (x : Int)
  rw [wn] at n1
  have a1 : opBin P .and t_uint64 false (.int .u64 (x : Int)) (.int .u64 ((18446744073709551616 - x : Nat) : Int)) = .ok (.int .u64 (p : Int)) := by
    rw [bin_and]
    show Except.ok (AV.int .u64 (wrapF .u64 ((BitVec.ofInt 64 (x : Int) &&& BitVec.ofInt 64 ((18446744073709551616 - x : Nat) : Int)).toNat : Int))) = _
    rw [hand, wp]
  have a2 := bin_mul (P := P) t_uint64 true .u64 (p : Int) 285870213051353865
  rw [wm] at a2
  have a3 : opBin P .shr t_uint64 true (.int .u64 (q : Int)) (.int .u64 58) = .ok (.int .u64 (idx : Int)) := by
    rw [bin_shr _ _ _ _ _ _ (by omega)]
    show Except.ok (AV.int .u64 ((q : Int).fdiv 288230376151711744)) = _
    rw [← fd]; rfl
  generalize ((18446744073709551616 - x : Nat) : Int) = nx at *
  simp [c_math_bits_TrailingZeros64, h0, -un_neg, -bin_and_u64, -bin_mul, -bin_shr_u64, n1, a1, a2, a3, ix, ld, wc]

end Go.Dk

/-
  Slices of ours beside other blocks; bit operations on numbers that fit.
-/
namespace Go.Dr

section
variable {P : Program} {h : AH}

/-- one element more; other blocks stay -/
theorem Own.snoc2 {B es n bytes : Nat} {v : AV} {l x : List AV} (s : Own B h es n v l) (hB : B ≤ h.next) (hx : x.length = es) (hs : allScalar x = true) (h1 : (n + 1) * bytes ≤ 2 ^ 40) (h2 : n + 1 ≤ 2 ^ 40) :
    ∃ v' h', opApp es bytes v (.slice h.next 0 1 1 true es) (h.push (.cells x false)) = okV v' h' ∧ Own B h' es (n + 1) v' (l ++ x) ∧ FrB B h h' ∧
      (∀ i, i < h.next → idOf v ≠ some i → h'.get i = h.get i) ∧ (∀ i, idOf v' = some i → idOf v = some i ∨ h.next < i) := by
  have f0 := Fr.push (.refl h) (.cells x false)
  have sx := (Own.fresh (B := 0) (h := h) (es := es) (n := 1) (l := x) true (Nat.zero_le _) (by omega)).sl
  obtain ⟨v', h', e, o, f, p, q⟩ := (s.fr f0).append (bytes := bytes) sx (Nat.le_trans hB (Nat.le_succ _)) hs h1 h2
  refine ⟨v', h', e, o, (f0.b hB).trans f, fun i hi hne => ?_, fun i hi => ?_⟩
  · rw [p i (Nat.lt_succ_of_lt hi) hne, get_push_old (by omega)]
  · rcases q i hi with h | h
    · exact .inl h
    · exact .inr h

/-- an element's cell is written; other blocks stay -/
theorem Own.store2 {B es n : Nat} {v : AV} {l : List AV} (s : Own B h es n v l) {k : IntKind} {i : Int} {j c : Nat} (hi : i = j) (hj : j < n) (hc : c < es) {x : AV} (hx : x.scalar = true) :
    ∃ id o h', opIdxV es v (.int k i) = .ok (.ptr id o) ∧ storeN h id (o + c) [x] = .ok h' ∧ Own B h' es n v (l.set (j * es + c) x) ∧ FrB B h h' ∧ h'.next = h.next ∧ (∀ i, idOf v ≠ some i → h'.get i = h.get i) := by
  subst hi
  rcases s.2 with ⟨rfl, rfl⟩ | ⟨id, off, x', vs, rfl, e2, e3, e4, e5, rfl⟩
  · omega
  · have hle : j * es + es ≤ n * es := by
      have := Nat.mul_le_mul_right es (show j + 1 ≤ n from hj)
      rw [Nat.add_mul, Nat.one_mul] at this
      exact this
    refine ⟨id, off + j * es, h.set id (.cells (vs.set (off + j * es + c) x) false), by rw [opIdxV_slice _ _ _ _ _ _ _ _ ⟨by omega, by omega⟩, Int.toNat_natCast], ?_, ⟨?_, .inr ⟨id, off, x', vs.set (off + j * es + c) x, rfl, e2, e3, get_set_new _ _, by rw [List.length_set]; exact e5, ?_⟩⟩, ⟨Nat.le_refl _, fun i hi => get_set_old (by omega)⟩, rfl, fun i hi => get_set_old (by intro e; apply hi; rw [e]; rfl)⟩
    · rw [storeN_one e4 (by omega) hx, splice_set _ _ _ (by omega)]
    · rw [List.length_set]; exact s.1
    · rw [List.drop_set, if_neg (by omega), List.take_set, show off + j * es + c - off = j * es + c from by omega]

theorem Own.set2 {B es n j : Nat} {v : AV} {l : List AV} (s : Own B h es n v l) (o : AObj) (hj : idOf v ≠ some j) : Own B (h.set j o) es n v l := s.set o hj

/-! ### bits of numbers that fit -/

theorem nat_fdiv (x m : Nat) : (x : Int).fdiv (m : Int) = ((x / m : Nat) : Int) := by
  rw [Int.fdiv_eq_ediv_of_nonneg _ (by omega)]; rfl

theorem shr_u64 (t : TypeId) (lit : Bool) (k' : IntKind) (a k : Nat) (hk : k ≤ 64) : opBin P .shr t lit (.int .u64 (a : Int)) (.int k' (k : Int)) = .ok (.int .u64 ((a / 2 ^ k : Nat) : Int)) := by
  rw [bin_shr _ _ _ _ _ _ (by omega), Int.toNat_natCast, show min k IntKind.u64.bits = k from by simp [IntKind.bits]; omega, ← nat_fdiv]
  congr 3
theorem shr_u8 (t : TypeId) (lit : Bool) (k' : IntKind) (a k : Nat) (hk : k ≤ 8) : opBin P .shr t lit (.int .u8 (a : Int)) (.int k' (k : Int)) = .ok (.int .u8 ((a / 2 ^ k : Nat) : Int)) := by
  rw [bin_shr _ _ _ _ _ _ (by omega), Int.toNat_natCast, show min k IntKind.u8.bits = k from by simp [IntKind.bits]; omega, ← nat_fdiv]
  congr 3
theorem shl_u64 (t : TypeId) (lit : Bool) (k' : IntKind) (a k : Nat) (hk : k ≤ 64) : opBin P .shl t lit (.int .u64 (a : Int)) (.int k' (k : Int)) = .ok (.int .u64 ((a * 2 ^ k % 2 ^ 64 : Nat) : Int)) := by
  rw [bin_shl _ _ _ _ _ _ (by omega), Int.toNat_natCast, show min k IntKind.u64.bits = k from by simp [IntKind.bits]; omega, wrap64]
  congr 2
theorem shl_u8 (t : TypeId) (lit : Bool) (k' : IntKind) (a k : Nat) (hk : k ≤ 8) : opBin P .shl t lit (.int .u8 (a : Int)) (.int k' (k : Int)) = .ok (.int .u8 ((a * 2 ^ k % 256 : Nat) : Int)) := by
  rw [bin_shl _ _ _ _ _ _ (by omega), Int.toNat_natCast, show min k IntKind.u8.bits = k from by simp [IntKind.bits]; omega, wrap8]
  congr 2
theorem and_u64 (t : TypeId) (lit : Bool) (a b : Nat) (ha : a < 2 ^ 64) (hb : b < 2 ^ 64) : opBin P .and t lit (.int .u64 (a : Int)) (.int .u64 (b : Int)) = .ok (.int .u64 ((a &&& b : Nat) : Int)) := by
  rw [bin_and]
  have : (BitVec.ofInt IntKind.u64.bits (a : Int) &&& BitVec.ofInt IntKind.u64.bits (b : Int)).toNat = a &&& b := by
    rw [BitVec.ofInt_natCast, BitVec.ofInt_natCast, BitVec.toNat_and, BitVec.toNat_ofNat, BitVec.toNat_ofNat]
    show a % 2 ^ 64 &&& b % 2 ^ 64 = _
    rw [Nat.mod_eq_of_lt ha, Nat.mod_eq_of_lt hb]
  have hlt : a &&& b < 2 ^ 64 := Nat.lt_of_le_of_lt Nat.and_le_left ha
  rw [this, wrap_u64 (by omega) (by omega)]
theorem and_u8 (t : TypeId) (lit : Bool) (a b : Nat) (ha : a < 256) (hb : b < 256) : opBin P .and t lit (.int .u8 (a : Int)) (.int .u8 (b : Int)) = .ok (.int .u8 ((a &&& b : Nat) : Int)) := by
  rw [bin_and]
  have : (BitVec.ofInt IntKind.u8.bits (a : Int) &&& BitVec.ofInt IntKind.u8.bits (b : Int)).toNat = a &&& b := by
    rw [BitVec.ofInt_natCast, BitVec.ofInt_natCast, BitVec.toNat_and, BitVec.toNat_ofNat, BitVec.toNat_ofNat]
    show a % 2 ^ 8 &&& b % 2 ^ 8 = _
    rw [Nat.mod_eq_of_lt ha, Nat.mod_eq_of_lt hb]
  have hlt : a &&& b < 256 := Nat.lt_of_le_of_lt Nat.and_le_left ha
  rw [this, wrap_u8 (by omega) (by omega)]
theorem or_u8 (t : TypeId) (lit : Bool) (a b : Nat) (ha : a < 256) (hb : b < 256) : opBin P .or t lit (.int .u8 (a : Int)) (.int .u8 (b : Int)) = .ok (.int .u8 ((a ||| b : Nat) : Int)) := by
  rw [bin_or]
  have : (BitVec.ofInt IntKind.u8.bits (a : Int) ||| BitVec.ofInt IntKind.u8.bits (b : Int)).toNat = a ||| b := by
    rw [BitVec.ofInt_natCast, BitVec.ofInt_natCast, BitVec.toNat_or, BitVec.toNat_ofNat, BitVec.toNat_ofNat]
    show a % 2 ^ 8 ||| b % 2 ^ 8 = _
    rw [Nat.mod_eq_of_lt ha, Nat.mod_eq_of_lt hb]
  have hlt : a ||| b < 2 ^ 8 := Nat.or_lt_two_pow ha hb
  rw [this, wrap_u8 (by omega) (by omega)]
theorem or_u64 (t : TypeId) (lit : Bool) (a b : Nat) (ha : a < 2 ^ 64) (hb : b < 2 ^ 64) : opBin P .or t lit (.int .u64 (a : Int)) (.int .u64 (b : Int)) = .ok (.int .u64 ((a ||| b : Nat) : Int)) := by
  rw [bin_or]
  have : (BitVec.ofInt IntKind.u64.bits (a : Int) ||| BitVec.ofInt IntKind.u64.bits (b : Int)).toNat = a ||| b := by
    rw [BitVec.ofInt_natCast, BitVec.ofInt_natCast, BitVec.toNat_or, BitVec.toNat_ofNat, BitVec.toNat_ofNat]
    show a % 2 ^ 64 ||| b % 2 ^ 64 = _
    rw [Nat.mod_eq_of_lt ha, Nat.mod_eq_of_lt hb]
  have hlt : a ||| b < 2 ^ 64 := Nat.or_lt_two_pow ha hb
  rw [this, wrap_u64 (by omega) (by omega)]
theorem xor_u64 (t : TypeId) (lit : Bool) (a b : Nat) (ha : a < 2 ^ 64) (hb : b < 2 ^ 64) : opBin P .xor t lit (.int .u64 (a : Int)) (.int .u64 (b : Int)) = .ok (.int .u64 ((a ^^^ b : Nat) : Int)) := by
  rw [bin_xor]
  have : (BitVec.ofInt IntKind.u64.bits (a : Int) ^^^ BitVec.ofInt IntKind.u64.bits (b : Int)).toNat = a ^^^ b := by
    rw [BitVec.ofInt_natCast, BitVec.ofInt_natCast, BitVec.toNat_xor, BitVec.toNat_ofNat, BitVec.toNat_ofNat]
    show a % 2 ^ 64 ^^^ b % 2 ^ 64 = _
    rw [Nat.mod_eq_of_lt ha, Nat.mod_eq_of_lt hb]
  have hlt : a ^^^ b < 2 ^ 64 := Nat.xor_lt_two_pow ha hb
  rw [this, wrap_u64 (by omega) (by omega)]

theorem and_low (a t : Nat) : a &&& (2 ^ t - 1) = a % 2 ^ t := Nat.and_two_pow_sub_one_eq_mod a t

theorem or_add (y v f : Nat) (hy : y % 2 ^ f = 0) (hv : v < 2 ^ f) : y ||| v = y + v := by
  have : y = 2 ^ f * (y / 2 ^ f) := by have := Nat.div_add_mod y (2 ^ f); omega
  rw [this, Nat.two_pow_add_eq_or_of_lt hv]

end
end Go.Dr

namespace Go.Dk
open Go Go.Dr
set_option maxRecDepth 100000

theorem tmod_nat (x m : Nat) : (x : Int).tmod (m : Int) = ((x % m : Nat) : Int) := by
  rw [Int.tmod_eq_emod_of_nonneg (by omega)]; rfl
theorem tdiv_nat (x m : Nat) : (x : Int).tdiv (m : Int) = ((x / m : Nat) : Int) := by
  rw [Int.tdiv_eq_ediv_of_nonneg (by omega)]; rfl

/-- bits that are ours: the struct's block and its bytes -/
structure BitO (B : Nat) (h : AH) (id : Nat) (v : AV) (l : Bits) : Prop where
  cells : h.get id = some (.cells [v, .int .i64 (l.length : Int)] false)
  lt : id < h.next
  ge : B ≤ id
  own : Own B h 1 ((l.length + 7) / 8) v (by8 (pack l))
  ne : idOf v ≠ some id

theorem by8_set (l : List Nat) (i x : Nat) : (by8 l).set i (.int .u8 (x : Int)) = by8 (l.set i x) := by
  simp [by8, List.map_set]

theorem pow_le_256 {t : Nat} (h : t ≤ 8) : 2 ^ t ≤ 256 := Nat.pow_le_pow_right (by omega) h

/-- one round's part of the bits -/
theorem part_val (n d t : Nat) (ht : t ≤ 8) : (n / 2 ^ d) &&& (2 ^ t - 1) = val (lowB (n / 2 ^ d) t) := by
  rw [and_low, val_lowB]

theorem bits_add {h : AH} {B id : Nat} {v : AV} {l : Bits} {n cnt : Nat} (b : BitO B h id v l) (hn : n < 2 ^ 64) (hc : cnt ≤ 64) (hl : l.length ≤ 2 ^ 35) :
    Ev P SI (.fn f_bits_add) [.ptr id 0, .int .u64 (n : Int), .int .i64 (cnt : Int)] h fun r h' => r = .tuple [] ∧ FrB B h h' ∧ ∃ v', BitO B h' id v' (l ++ lowB n cnt) := by
  refine ev_fn k_bits_add rfl rfl ?_
  unfold c_bits_add
  rw [wpC_block]
  refine w_loop (fun q σ ds g => ∃ (c : Nat) (u : AV) (m : Bits), q = c ∧ c ≤ cnt ∧ ds = [] ∧ σ 0 = .ptr id 0 ∧ σ 1 = .int .u64 (n : Int) ∧ σ 2 = .int .i64 (c : Int) ∧ BitO B g id u m ∧ FrB B h g ∧ m ++ lowB n c = l ++ lowB n cnt) cnt
    ⟨cnt, v, l, rfl, Nat.le_refl _, rfl, by simp, by simp, by simp, b, .refl _ _, rfl⟩ ?_
  rintro q σ ds g ⟨c, u, m, rfl, hcc, rfl, e0, e1, e2, bo, fr, hm⟩
  by_cases h0 : q = 0
  · subst h0
    simp [e2]
    rw [lowB, List.append_nil] at hm
    exact ⟨fr, _, hm ▸ bo⟩
  have hml : m.length + q = l.length + cnt := by have := congrArg List.length hm; simpa using this
  have c0 : (0 : Int) < q := by omega
  have lc0 := load1_of bo.cells (off := 0)
  have lc1 := load1_of bo.cells (off := 1)
  simp [ofO] at lc0 lc1
  obtain ⟨r, hrr⟩ : ∃ r, r = m.length % 8 := ⟨_, rfl⟩
  have hrem : (m.length : Int).tmod 8 = (r : Int) := by rw [hrr]; exact tmod_nat _ 8
  rw [wpC_seq]
  refine w_mono (Q := fun x σ' ds' g' => x = .normal ∧ ds' = [] ∧ g' = g ∧ σ' 0 = .ptr id 0 ∧ σ' 1 = .int .u64 (n : Int) ∧ σ' 2 = .int .i64 (q : Int)) (by simp [e0, e1, e2, show 0 < q from by omega]) ?_
  clear e0 e1 e2
  rintro x σ ds g1 ⟨rfl, rfl, hgg, e0, e1, e2⟩
  rw [hgg, Kseq_normal, wpC_block, wpC_seq]
  clear hgg g1
  -- the byte more
  refine w_mono (Q := fun x σ ds g' => x = .normal ∧ ds = [] ∧ σ 0 = .ptr id 0 ∧ σ 1 = .int .u64 (n : Int) ∧ σ 2 = .int .i64 (q : Int) ∧ FrB B h g' ∧ ∃ u', g'.get id = some (.cells [u', .int .i64 (m.length : Int)] false) ∧ id < g'.next ∧
      Own B g' 1 (m.length / 8 + 1) u' (by8 (if r = 0 then pack m ++ [0] else pack m)) ∧ idOf u' ≠ some id) ?_ ?_
  · have hB : B ≤ g.next := Nat.le_trans bo.ge (Nat.le_of_lt bo.lt)
    by_cases hr : r = 0
    · obtain ⟨v', g', ap, o1, f1, p1, p2⟩ := bo.own.snoc2 (x := [.int .u8 0]) (bytes := 1) hB rfl rfl (by omega) (by omega)
      have lt' : id < g'.next := Nat.lt_of_lt_of_le bo.lt f1.next
      have gc : g'.get id = some (.cells [u, .int .i64 (m.length : Int)] false) := by rw [p1 id bo.lt bo.ne, bo.cells]
      have lg0 := load1_of gc (off := 0)
      simp [ofO] at lg0
      have hv' : v'.cells = [v'] ∧ v'.scalar = true := o1.sl.oneCell
      have st := storeN_one (id := id) (off := 0) gc (by simp) hv'.2
      have ne' : idOf v' ≠ some id := by
        intro e
        rcases p2 id e with h | h
        · exact bo.ne h
        · have := bo.lt; omega
      simp [e0, lc1, hrem, hr, lc0, splice_eq, ap, opStore, hv'.1, st]
      refine ⟨e1, e2, (fr.trans f1).trans ?_, lt', ?_, ne'⟩
      · exact ⟨Nat.le_refl _, fun i hi => get_set_old (by have := bo.ge; omega)⟩
      · have := o1.set (.cells [v', .int .i64 (m.length : Int)] false) (j := id) ne'
        rw [show (m.length + 7) / 8 + 1 = m.length / 8 + 1 from by omega] at this
        simpa [by8] using this
    · simp [e0, lc1, hrem, hr]
      refine ⟨e1, e2, fr, u, bo.cells, bo.lt, ?_, bo.ne⟩
      have := bo.own
      rw [show (m.length + 7) / 8 = m.length / 8 + 1 from by omega] at this
      exact this
  clear lc0 lc1 fr e0 e1 e2
  rintro x σ ds g' ⟨rfl, rfl, e0, e1, e2, fr, u', hg, lt', ow, ne'⟩
  rw [Kseq_normal]
  -- its part
  have hr8 : r < 8 := by rw [hrr]; exact Nat.mod_lt _ (by decide)
  obtain ⟨f, hf⟩ : ∃ f, f = 8 - r := ⟨_, rfl⟩
  obtain ⟨t, ht⟩ : ∃ t, t = min f q := ⟨_, rfl⟩
  obtain ⟨d, hd⟩ : ∃ d, d = q - t := ⟨_, rfl⟩
  obtain ⟨e, he⟩ : ∃ e, e = f - t := ⟨_, rfl⟩
  have ht1 : 1 ≤ t := by omega
  have ht8 : t ≤ 8 := by omega
  have hqd : q = t + d := by omega
  obtain ⟨c, hcdef⟩ : ∃ c, c = lowB (n / 2 ^ d) t := ⟨_, rfl⟩
  have hcl : c.length = t := by rw [hcdef, lowB_length]
  obtain ⟨Bt, hBt⟩ : ∃ Bt, Bt = if r = 0 then pack m ++ [0] else pack m := ⟨_, rfl⟩
  rw [← hBt] at ow
  obtain ⟨y, hy1, hy2, hy3, hy4, hy5, hy6⟩ := pack_more m c (by omega) (by omega) Bt (by rw [hBt, hrr])
  rw [← hrr, ← hf, hcl, ← he] at hy6
  rw [← hrr, ← hf] at hy3
  have hvl := val_lt c
  rw [hcl] at hvl
  have hpv : val c = n / 2 ^ d &&& (2 ^ t - 1) := by rw [hcdef, part_val _ _ _ ht8]
  obtain ⟨p, hp⟩ : ∃ p, p = val c := ⟨_, rfl⟩
  have p256 : p < 256 := by have := pow_le_256 ht8; omega
  have hef : 2 ^ e * 2 ^ t = 2 ^ f := by rw [← Nat.pow_add]; congr 1; omega
  have hpe : p * 2 ^ e < 2 ^ f := by
    rw [← hef, Nat.mul_comm]
    exact Nat.mul_lt_mul_of_pos_left (by omega) (Nat.two_pow_pos _)
  have h2f : 2 ^ f ≤ 256 := pow_le_256 (by omega)
  have hor : y ||| p * 2 ^ e = y + p * 2 ^ e := or_add _ _ f hy3 hpe
  obtain ⟨s, hs⟩ : ∃ s, s = p * 2 ^ e := ⟨_, rfl⟩
  have hys : y + s < 256 := by
    have h2 := Nat.or_lt_two_pow (x := y) (y := p * 2 ^ e) (n := 8) hy2 (by omega)
    rw [hor] at h2
    omega
  have lc0 := load1_of hg (off := 0)
  have lc1 := load1_of hg (off := 1)
  simp [ofO] at lc0 lc1
  have x1 : wrapF .i64 (8 - (r : Int)) = (f : Int) := by rw [wrap_i64 (by omega) (by omega)]; omega
  have x2 : min (f : Int) (q : Int) = (t : Int) := by omega
  have x3 : wrapF .i64 ((q : Int) - (t : Int)) = (d : Int) := by rw [wrap_i64 (by omega) (by omega)]; omega
  have x4 := shr_u64 (P := P) t_uint64 false .i64 n d (by omega)
  have x5 := shl_u64 (P := P) t_uint64 true .i64 1 t (by omega)
  have h2t := pow_le_256 ht8
  have h2t0 : 0 < 2 ^ t := Nat.two_pow_pos _
  rw [Nat.one_mul, Nat.mod_eq_of_lt (by omega), show ((1 : Nat) : Int) = 1 from rfl] at x5
  have x6 : wrapF .u64 (((2 ^ t : Nat) : Int) - 1) = ((2 ^ t - 1 : Nat) : Int) := by rw [wrap_u64 (by omega) (by omega)]; omega
  have x7 := and_u64 (P := P) t_uint64 false (n / 2 ^ d) (2 ^ t - 1) (Nat.lt_of_le_of_lt (Nat.div_le_self _ _) hn) (by omega)
  rw [← hpv, ← hp] at x7
  have x8 : wrapF .u8 (p : Int) = (p : Int) := wrap_u8 (by omega) (by omega)
  have x9 := shl_u8 (P := P) t_uint8 false .i64 p e (by omega)
  rw [← hs] at x9 hor
  rw [Nat.mod_eq_of_lt (by omega)] at x9
  have x10 := or_u8 (P := P) t_uint8 false y s hy2 (by omega)
  rw [hor] at x10
  have x11 : wrapF .i64 ((f : Int) - (t : Int)) = (e : Int) := by rw [wrap_i64 (by omega) (by omega)]; omega
  have hcat : m ++ c ++ lowB n d = l ++ lowB n cnt := by
    rw [← hm, List.append_assoc, hqd, lowB_add, hcdef]
  have hdc : d ≤ cnt := by omega
  rw [← hp, ← hs] at hy6
  generalize 2 ^ t = T at *
  generalize T - 1 = T1 at *
  generalize n / 2 ^ d = nd at *
  have hlen : m.length / 8 + 1 = Bt.length := by omega
  rw [hlen] at ow
  have x12 : wrapF .i64 ((Bt.length : Int) - 1) = ((Bt.length - 1 : Nat) : Int) := by rw [wrap_i64 (by omega) (by omega)]; omega
  obtain ⟨w, hw⟩ : ∃ w, w = Bt.length - 1 := ⟨_, rfl⟩
  rw [← hw] at x12 hy1 hy6
  have hwl : w < Bt.length := by omega
  obtain ⟨id2, o2, g2, z1, z2, z3, z4, z5, z6⟩ := ow.store2 (k := .i64) (i := (w : Int)) rfl hwl (c := 0) (by omega) (x := .int .u8 ((y + s : Nat) : Int)) rfl
  have hne2 : idOf u' ≠ some id := ne'
  obtain ⟨id3, o3, k1, k2, _⟩ := ow.sl.get1 (k := .i64) (i := (w : Int)) rfl hwl (x := .int .u8 (y : Int)) (by rw [by8_get, hy1]; rfl)
  rw [z1] at k1
  cases k1
  have gc2 : g2.get id = some (.cells [u', .int .i64 (m.length : Int)] false) := by rw [z6 id ne', hg]
  have lc2 := load1_of gc2 (off := 1)
  simp [ofO] at lc2
  have x13 : wrapF .i64 ((m.length : Int) + (t : Int)) = ((m.length + t : Nat) : Int) := by rw [wrap_i64 (by omega) (by omega)]; omega
  have st := storeN_one (id := id) (off := 1) (v := .int .i64 ((m.length + t : Nat) : Int)) gc2 (by simp) rfl
  rw [Nat.add_zero] at z2
  generalize hys' : y + s = ys at *
  generalize hmt : m.length + t = mt at *
  simp [e0, e1, e2, lc1, hrem, x1, x2, x3, x4, x5, x6, x7, x8, x9, x10, x11, x12, x13, lc0, z1, z2, k2, lc2, ow.sl.len, splice_eq, st, Kloop_normal, -bin_shr_u64, -bin_shl_u64, -bin_and_u64, -bin_shl_u8, -bin_or_u8]
  refine ⟨ow.sl.same, d, by omega, hdc, rfl, u', m ++ c, ⟨?_, ?_, bo.ge, ?_, ne'⟩, ?_, hcat⟩
  · rw [List.length_append, hcl, hmt]
    exact get_set_new _ _
  · show id < g2.next
    omega
  · have := z3.set (.cells [u', .int .i64 (mt : Int)] false) (j := id) ne'
    rw [Nat.mul_one, Nat.add_zero, by8_set] at this
    rw [List.length_append, hcl, hmt, hy6, show (mt + 7) / 8 = Bt.length from by omega]
    exact this
  · exact (fr.trans z4).trans ⟨Nat.le_refl _, fun i hi => get_set_old (by have := bo.ge; omega)⟩

end Go.Dk

namespace Go.Dk
open Go Go.Dr
set_option maxRecDepth 100000

theorem pack_tail (l : Bits) (h : l.length ≠ 8 * ((l.length + 7) / 8)) : ∃ y, (pack l)[(l.length + 7) / 8 - 1]? = some y ∧ y < 256 ∧ y % 2 ^ (8 * ((l.length + 7) / 8) - l.length) = 0 := by
  refine ⟨_, pack_get l _ (by omega), byteV_lt _ (by simp; omega), ?_⟩
  unfold byteV
  have : (List.take 8 (List.drop (8 * ((l.length + 7) / 8 - 1)) l)).length = l.length - 8 * ((l.length + 7) / 8 - 1) := by simp; omega
  rw [this, show 8 - (l.length - 8 * ((l.length + 7) / 8 - 1)) = 8 * ((l.length + 7) / 8) - l.length from by omega]
  exact Nat.mul_mod_left _ _

theorem bits_Can {h : AH} {n N : Nat} {v : AV} {b : List Nat} (s : Sl h 1 n v (by8 b)) (hn : n ≤ 2 ^ 36) (h1 : N ≤ 8 * n) (h2 : 8 * n - N ≤ 7) (h3 : N = 8 * n ∨ ∃ y, b[n - 1]? = some y ∧ y < 256 ∧ y % 2 ^ (8 * n - N) = 0) :
    Ev P SI (.fn f_bits_Can) [.agg [v, .int .i64 (N : Int)]] h fun r g => r = .bool true ∧ Fr h g := by
  refine ev_fn k_bits_Can rfl rfl ?_
  have f0 := Fr.push (.refl h) (.cells [v, .int .i64 (N : Int)] false)
  have s0 := s.fr f0
  generalize hg0 : h.push (.cells [v, .int .i64 (N : Int)] false) = g0 at *
  have hg : g0.get h.next = some (.cells [v, .int .i64 (N : Int)] false) := by rw [← hg0]; exact get_push_new _
  have lc0 := load1_of hg (off := 0)
  have lc1 := load1_of hg (off := 1)
  simp [ofO] at lc0 lc1
  obtain ⟨m, hm⟩ : ∃ m, m = 8 * n := ⟨_, rfl⟩
  obtain ⟨t, ht⟩ : ∃ t, t = 8 * n - N := ⟨_, rfl⟩
  have x0 : ¬ (N : Int) < 0 := by omega
  have x1 : wrapF .i64 (8 * (n : Int)) = (m : Int) := by rw [wrap_i64 (by omega) (by omega)]; omega
  have x2 : ¬ m < N := by omega
  have x3 : wrapF .i64 ((m : Int) - (N : Int)) = (t : Int) := by clear h3; rw [wrap_i64 (by omega) (by omega)]; omega
  have x4 : ¬ (7 : Int) < t := by omega
  by_cases ht0 : t = 0
  · subst ht0
    simp [c_bits_Can, hg0, lc0, lc1, x0, s0.len, x1, x2, x3, x4]
    exact f0
  obtain ⟨y, hy1, hy2, hy3⟩ := h3.resolve_left (by omega)
  rw [← ht] at hy3
  have x5 : wrapF .i64 ((n : Int) - 1) = ((n - 1 : Nat) : Int) := by rw [wrap_i64 (by omega) (by omega)]; omega
  have h2t := pow_le_256 (t := t) (by omega)
  have h2tp : 0 < 2 ^ t := Nat.two_pow_pos t
  have x6 := shl_u8 (P := P) t_uint8 true .i64 1 t (by omega)
  have h2t128 : 2 ^ t ≤ 128 := Nat.pow_le_pow_right (n := 2) (j := 7) (by omega) (by omega)
  rw [Nat.one_mul, Nat.mod_eq_of_lt (by omega), show ((1 : Nat) : Int) = 1 from rfl] at x6
  have x7 : wrapF .u8 (((2 ^ t : Nat) : Int) - 1) = ((2 ^ t - 1 : Nat) : Int) := by rw [wrap_u8 (by omega) (by omega)]; omega
  have x8 := and_u8 (P := P) t_uint8 false y (2 ^ t - 1) hy2 (by omega)
  rw [and_low, hy3, show ((0 : Nat) : Int) = 0 from rfl] at x8
  generalize 2 ^ t = T at *
  generalize T - 1 = T1 at *
  have hn1 : n - 1 < n := by omega
  obtain ⟨id3, o3, k1, k2, _⟩ := s0.get1 (k := .i64) (i := ((n - 1 : Nat) : Int)) rfl hn1 (x := .int .u8 (y : Int)) (by rw [by8_get, hy1]; rfl)
  generalize n - 1 = n1 at *
  simp [c_bits_Can, hg0, lc0, lc1, x0, s0.len, s0.same, x1, x2, x3, x4, x5, x6, x7, x8, ht0, k1, k2, -bin_shl_u8, -bin_and_u8]
  exact f0

theorem bits_CanP {h : AH} {v : AV} {l : Bits} (s : Sl h 1 ((l.length + 7) / 8) v (by8 (pack l))) (hl : l.length ≤ 2 ^ 36) : Ev P SI (.fn f_bits_Can) [.agg [v, .int .i64 (l.length : Int)]] h fun r g => r = .bool true ∧ Fr h g := by
  by_cases e : l.length = 8 * ((l.length + 7) / 8)
  · exact bits_Can s (by omega) (by omega) (by omega) (.inl e)
  · exact bits_Can s (by omega) (by omega) (by omega) (.inr (pack_tail l e))

theorem bytes_Clone {h : AH} {v : AV} {l : List Nat} {n : Nat} (hv : Sl h 1 n v (by8 l)) (hn : n ≤ 2 ^ 36) : Ev P SI (.fn f_bytes_Clone) [v] h fun r g => Own h.next g 1 n r (by8 l) ∧ Fr h g ∧ (∀ i, idOf r = some i → h.next ≤ i) := by
  refine ev_fn k_bytes_Clone rfl rfl ?_
  obtain ⟨b, hb, hb2⟩ := hv.isNil und_sl_uint8 true
  cases b with
  | true =>
    obtain ⟨rfl, rfl, hl⟩ := hb2 rfl
    simp [c_bytes_Clone]
    rw [hl]
    exact ⟨Own.nil _ _, .refl _, fun i hi => by cases hi⟩
  | false =>
    have o0 : Own h.next (h.push (.cells [] false)) 1 0 (.slice h.next 0 0 0 true 1) [] := ⟨by simp, .inr ⟨h.next, 0, true, [], rfl, Nat.le_refl _, by simp, get_push_new _, by simp, by simp⟩⟩
    have f0 := Fr.push (.refl h) (.cells [] false)
    obtain ⟨v1, g1, e1, o1, fb, _⟩ := o0.append (bytes := 1) (hv.fr f0) (by simp) (by8_scalar _) (by omega) (by omega)
    simp [c_bytes_Clone, hb, e1]
    rw [Nat.zero_add, List.nil_append] at o1
    refine ⟨o1, ⟨Nat.le_trans f0.next fb.next, fun i hi => (fb.get i hi).trans (f0.get i hi)⟩, fun i hi => ?_⟩
    rcases o1.2 with ⟨rfl, _⟩ | ⟨id, off, x, vs, rfl, e2, _⟩
    · cases hi
    · cases hi
      exact e2

end Go.Dk

namespace Go.Dk
open Go Go.Dr
set_option maxRecDepth 100000

theorem resS_many {h : AH} {σ : Sg} {p n id off : Nat} {v : List AV} (l : List CRes) (hp : σ p = .ptr id off) (hl : loadN h id off n = .ok v) :
    resS h σ (.many p n :: l) = match resS h σ l with | .ok r => .ok (.agg v :: r) | .error e => .error e := by
  rw [resS, hp]
  simp only [hl]
  cases resS h σ l <;> rfl

/-- bits as a value -/
def BitV (h : AH) (l : Bits) (x : AV) : Prop := ∃ v, x = .agg [v, .int .i64 (l.length : Int)] ∧ Sl h 1 ((l.length + 7) / 8) v (by8 (pack l))

/-- bits as a value, its bytes laid anew -/
def BitF (B : Nat) (h : AH) (l : Bits) (x : AV) : Prop := ∃ v, x = .agg [v, .int .i64 (l.length : Int)] ∧ Own B h 1 ((l.length + 7) / 8) v (by8 (pack l))

theorem BitF.v {B : Nat} {h : AH} {l : Bits} {x : AV} (b : BitF B h l x) : BitV h l x := let ⟨v, e, s⟩ := b; ⟨v, e, s.sl⟩

theorem BitV.fr {h g : AH} {l : Bits} {x : AV} (b : BitV h l x) (f : Fr h g) : BitV g l x := let ⟨v, e, s⟩ := b; ⟨v, e, s.fr f⟩

theorem store_pair {h : AH} {id : Nat} {a b c d : AV} (hg : h.get id = some (.cells [a, b] false)) (hs : allScalar [c, d] = true) : opStore 2 (.ptr id 0) (.agg [c, d]) h = skipH (.ok (h.set id (.cells [c, d] false))) := by
  rw [opStore_agg 2 _ _ [c, d] rfl, storeN_all hg (v := c) (l := [d]) rfl hs]

theorem loadN_pair {h : AH} {id : Nat} {a b : AV} (hg : h.get id = some (.cells [a, b] false)) : opLoadN 2 (.ptr id 0) h = okV (.agg [a, b]) h := by
  have := loadN_of hg (n := 2) rfl
  simp [opLoadN, this]

theorem bits_Put {h : AH} {l : Bits} {x : AV} {n cnt : Nat} (b : BitV h l x) (hn : n < 2 ^ 64) (hc : cnt ≤ 64) (hl : l.length ≤ 2 ^ 35) :
    Ev P SI (.fn f_bits_Put) [x, .int .u64 (n : Int), .int .i64 (cnt : Int)] h fun r g => ∃ y, r = .tuple [y, .int .i64 0] ∧ BitF h.next g (l ++ lowB n cnt) y ∧ Fr h g := by
  obtain ⟨v, rfl, s⟩ := b
  refine ev_fn k_bits_Put rfl rfl ?_
  have f1 := Fr.push (.refl h) (.cells [v, .int .i64 (l.length : Int)] false)
  have f2 := f1.push (.cells [.nils, .int .i64 0] false)
  have g0 : ((h.push (.cells [v, .int .i64 (l.length : Int)] false)).push (.cells [.nils, .int .i64 0] false)).get h.next = some (.cells [v, .int .i64 (l.length : Int)] false) := by
    rw [get_push_old (Nat.ne_of_lt (Nat.lt_succ_self _)), get_push_new]
  have g1 : ((h.push (.cells [v, .int .i64 (l.length : Int)] false)).push (.cells [.nils, .int .i64 0] false)).get (h.next + 1) = some (.cells [.nils, .int .i64 0] false) := get_push_new _
  have hnx : ((h.push (.cells [v, .int .i64 (l.length : Int)] false)).push (.cells [.nils, .int .i64 0] false)).next = h.next + 2 := rfl
  generalize hh2 : (h.push (.cells [v, .int .i64 (l.length : Int)] false)).push (.cells [.nils, .int .i64 0] false) = h2 at *
  simp [c_bits_Put, hh2, loadN_pair g0]
  refine (bits_CanP (s.fr f2) (by omega)).mono ?_
  rintro r g ⟨rfl, fa⟩
  have c1 : ¬ (cnt : Int) < 0 := by omega
  have c2 : ¬ (64 : Int) < cnt := by omega
  have f3 := f2.trans fa
  have g0' := fa.get h.next (by omega)
  rw [g0] at g0'
  have lc0 := load1_of g0' (off := 0)
  have lc1 := load1_of g0' (off := 1)
  simp [ofO] at lc0 lc1
  have f4 := f3.push (.cells [.nils, .int .i64 0] false)
  have g4n : (g.push (.cells [.nils, .int .i64 0] false)).get g.next = some (.cells [.nils, .int .i64 0] false) := get_push_new _
  have hgn := fa.next
  have g40 : (g.push (.cells [.nils, .int .i64 0] false)).get h.next = some (.cells [v, .int .i64 (l.length : Int)] false) := by rw [get_push_old (by omega), g0']
  have g41 : (g.push (.cells [.nils, .int .i64 0] false)).get (h.next + 1) = some (.cells [.nils, .int .i64 0] false) := by rw [get_push_old (by omega), fa.get _ (by omega), g1]
  have ld0 := load1_of g40 (off := 0)
  have ld1 := load1_of g40 (off := 1)
  simp [ofO] at ld0 ld1
  have h4n : (g.push (.cells [.nils, .int .i64 0] false)).next = g.next + 1 := rfl
  generalize hg4 : g.push (.cells [.nils, .int .i64 0] false) = g4 at *
  simp [c1, c2, lc0, lc1, hg4, ld0, ld1, s.same]
  refine (bytes_Clone (s.fr f4) (by omega)).mono ?_
  rintro u g5 ⟨ou, fb, ui⟩
  have f5 := f4.trans fb
  have g50 := fb.get h.next (by omega)
  rw [g40] at g50
  have g51 := fb.get (h.next + 1) (by omega)
  rw [g41] at g51
  have g5n := fb.get g.next (by omega)
  rw [g4n] at g5n
  have ld1 := load1_of g50 (off := 1)
  simp [ofO] at ld1
  have hfb := fb.next
  have huc := ou.sl.oneCell
  have neu : idOf u ≠ some g.next := fun e => by have := ui _ e; omega
  have bo : BitO g.next (g5.set g.next (.cells [u, .int .i64 (l.length : Int)] false)) g.next u l :=
    ⟨get_set_new _ _, by show g.next < g5.next; omega, Nat.le_refl _, (ou.base (by omega)).set _ neu, neu⟩
  simp [ld1, huc.1, splice_eq, store_pair g5n (show allScalar [u, .int .i64 (l.length : Int)] = true by simp [allScalar, huc.2])]
  refine (bits_add bo hn hc hl).mono ?_
  rintro r g7 ⟨rfl, fc, w, bw⟩
  have g71 := fc.get (h.next + 1) (by omega)
  rw [get_set_old (by omega), g51] at g71
  have hwc := bw.own.sl.oneCell
  have bc := bw.cells
  have bow := bw.own.sl
  obtain ⟨N, hN⟩ : ∃ N, N = (l ++ lowB n cnt).length := ⟨_, rfl⟩
  rw [← hN] at bc bow
  have st := store_pair g71 (show allScalar [w, .int .i64 (N : Int)] = true by simp [allScalar, hwc.2])
  have f7 : Fr h g7 := ⟨by have := fc.next; have := f5.next; exact Nat.le_trans (Nat.le_trans f5.next (Nat.le_refl _)) fc.next, fun i hi => by rw [fc.get i (by omega), get_set_old (by omega), f5.get i hi]⟩
  have gx : (g7.set (h.next + 1) (.cells [w, .int .i64 (N : Int)] false)).get (h.next + 1) = some (.cells [w, .int .i64 (N : Int)] false) := get_set_new _ _
  have ld := loadN_of gx (n := 2) rfl
  simp [loadN_pair bc, st]
  rw [resS_many (id := h.next + 1) (off := 0) (v := [w, .int .i64 (N : Int)]) _ (by simp) ld]
  simp
  refine ⟨⟨w, by rw [hN], ?_⟩, ?_⟩
  · exact (bw.own.set _ (bw.own.ne (by omega))).base (by omega)
  · exact ⟨f7.next, fun i hi => by rw [get_set_old (by omega), f7.get i hi]⟩

end Go.Dk

namespace Go.Dk
open Go Go.Dr
set_option maxRecDepth 100000

def u64 (n : Int) : Nat := (n % 18446744073709551616).toNat
theorem u64_lt (n : Int) : u64 n < 2 ^ 64 := by unfold u64; omega
theorem wrap_u64n (n : Int) : wrapF .u64 n = (u64 n : Int) := by rw [wrap64]; unfold u64; omega

theorem classN_le (n : Int) : classN n ≤ 4 := by unfold classN; (repeat' split) <;> omega
theorem widthN_le (k : Nat) : widthN k ≤ 64 := by unfold widthN; split <;> omega

/-- a number in its class -/
def intB (n : Int) : Bits := lowB (2 ^ classN n - 1) (classN n) ++ (if classN n < 4 then lowB 0 1 else []) ++ lowB (u64 n) (widthN (classN n))

theorem intB_len (n : Int) : (intB n).length ≤ 69 := by
  unfold intB
  have := classN_le n
  have := widthN_le (classN n)
  simp
  split <;> simp <;> omega

theorem bits_PutInt {h : AH} {l : Bits} {x : AV} {n : Int} (b : BitV h l x) (hl : l.length ≤ 2 ^ 34) :
    Ev P SI (.fn f_bits_PutInt) [x, .int .i64 n] h fun r g => ∃ y, r = .tuple [y, .int .i64 0] ∧ BitF h.next g (l ++ intB n) y ∧ Fr h g := by
  obtain ⟨v, rfl, s⟩ := b
  refine ev_fn k_bits_PutInt rfl rfl ?_
  have f1 := Fr.push (.refl h) (.cells [v, .int .i64 (l.length : Int)] false)
  have f2 := f1.push (.cells [.nils, .int .i64 0] false)
  have g0 : ((h.push (.cells [v, .int .i64 (l.length : Int)] false)).push (.cells [.nils, .int .i64 0] false)).get h.next = some (.cells [v, .int .i64 (l.length : Int)] false) := by
    rw [get_push_old (Nat.ne_of_lt (Nat.lt_succ_self _)), get_push_new]
  have g1 : ((h.push (.cells [v, .int .i64 (l.length : Int)] false)).push (.cells [.nils, .int .i64 0] false)).get (h.next + 1) = some (.cells [.nils, .int .i64 0] false) := get_push_new _
  have hnx : ((h.push (.cells [v, .int .i64 (l.length : Int)] false)).push (.cells [.nils, .int .i64 0] false)).next = h.next + 2 := rfl
  generalize hh2 : (h.push (.cells [v, .int .i64 (l.length : Int)] false)).push (.cells [.nils, .int .i64 0] false) = h2 at *
  simp [c_bits_PutInt, hh2, loadN_pair g0]
  refine (bits_CanP (s.fr f2) (by omega)).mono ?_
  rintro r g ⟨rfl, fa⟩
  have f3 := f2.trans fa
  have g0' := fa.get h.next (by omega)
  rw [g0] at g0'
  have lc0 := load1_of g0' (off := 0)
  have lc1 := load1_of g0' (off := 1)
  simp [ofO] at lc0 lc1
  have f4 := f3.push (.cells [.nils, .int .i64 0] false)
  have g4n : (g.push (.cells [.nils, .int .i64 0] false)).get g.next = some (.cells [.nils, .int .i64 0] false) := get_push_new _
  have hgn := fa.next
  have g40 : (g.push (.cells [.nils, .int .i64 0] false)).get h.next = some (.cells [v, .int .i64 (l.length : Int)] false) := by rw [get_push_old (by omega), g0']
  have g41 : (g.push (.cells [.nils, .int .i64 0] false)).get (h.next + 1) = some (.cells [.nils, .int .i64 0] false) := by rw [get_push_old (by omega), fa.get _ (by omega), g1]
  have ld0 := load1_of g40 (off := 0)
  have ld1 := load1_of g40 (off := 1)
  simp [ofO] at ld0 ld1
  have h4n : (g.push (.cells [.nils, .int .i64 0] false)).next = g.next + 1 := rfl
  generalize hg4 : g.push (.cells [.nils, .int .i64 0] false) = g4 at *
  simp [lc0, lc1, hg4, ld0, ld1, s.same]
  refine (bytes_Clone (s.fr f4) (by omega)).mono ?_
  rintro u g5 ⟨ou, fb, ui⟩
  have f5 := f4.trans fb
  have g50 := fb.get h.next (by omega)
  rw [g40] at g50
  have g51 := fb.get (h.next + 1) (by omega)
  rw [g41] at g51
  have g5n := fb.get g.next (by omega)
  rw [g4n] at g5n
  have ld1 := load1_of g50 (off := 1)
  simp [ofO] at ld1
  have hfb := fb.next
  have huc := ou.sl.oneCell
  have neu : idOf u ≠ some g.next := fun e => by have := ui _ e; omega
  have bo : BitO g.next (g5.set g.next (.cells [u, .int .i64 (l.length : Int)] false)) g.next u l :=
    ⟨get_set_new _ _, by show g.next < g5.next; omega, Nat.le_refl _, (ou.base (by omega)).set _ neu, neu⟩
  have hk := classN_le n
  have hw := widthN_le (classN n)
  have hu := u64_lt n
  have h2k : 2 ^ classN n ≤ 256 := pow_le_256 (by omega)
  have h2k0 : 0 < 2 ^ classN n := Nat.two_pow_pos _
  have x1 := shl_u64 (P := P) t_uint64 true .i64 1 (classN n) (by omega)
  rw [Nat.one_mul, Nat.mod_eq_of_lt (by omega), show ((1 : Nat) : Int) = 1 from rfl] at x1
  have x2 : wrapF .u64 (((2 ^ classN n : Nat) : Int) - 1) = ((2 ^ classN n - 1 : Nat) : Int) := by rw [wrap_u64 (by omega) (by omega)]; omega
  have x3 := wrap_u64n n
  have bwd := bits_width (classN n) hk
  have add1 := bits_add (n := 2 ^ classN n - 1) (cnt := classN n) bo (by omega) (by omega) (by omega)
  obtain ⟨T1, hT1⟩ : ∃ T1, T1 = 2 ^ classN n - 1 := ⟨_, rfl⟩
  rw [← hT1] at x2 add1
  obtain ⟨T, hT⟩ : ∃ T, T = 2 ^ classN n := ⟨_, rfl⟩
  rw [← hT] at x1 x2
  simp [ld1, huc.1, splice_eq, store_pair g5n (show allScalar [u, .int .i64 (l.length : Int)] = true by simp [allScalar, huc.2]), bits_class, x1, x2, -bin_shl_u64]
  refine add1.mono ?_
  rintro r g7 ⟨rfl, fc, w, bw⟩
  have hlc : (l ++ lowB T1 (classN n)).length = l.length + classN n := by simp
  simp
  refine w_mono (c := .cond (.c (.bool (decide ((classN n : Int) < 4)))) _ _) (Q := fun x σ ds g' => x = .normal ∧ ds = [] ∧ σ 1 = .int .i64 n ∧ σ 7 = .int .i64 (classN n : Int) ∧ σ 4 = .ptr (h.next + 1) 0 ∧ σ 6 = .ptr g.next 0 ∧
    FrB g.next g7 g' ∧ ∃ w', BitO g.next g' g.next w' (l ++ lowB T1 (classN n) ++ (if classN n < 4 then lowB 0 1 else []))) ?_ ?_
  · by_cases c4 : classN n < 4
    · have c4' : (classN n : Int) < 4 := by omega
      simp [c4']
      refine (bits_add (n := 0) (cnt := 1) bw (by omega) (by omega) (by omega)).mono ?_
      rintro r g8 ⟨rfl, fd, w', bw'⟩
      simp [c4]
      exact ⟨fd, w', by simpa using bw'⟩
    · have c4' : ¬ (classN n : Int) < 4 := by omega
      simp [c4', c4]
      exact ⟨.refl _ _, w, by simpa using bw⟩
  rintro x σ ds g8 ⟨rfl, rfl, e1, e7, e4, e6, fd, w', bw'⟩
  have hlc2 : (l ++ lowB T1 (classN n) ++ (if classN n < 4 then lowB 0 1 else [])).length ≤ l.length + classN n + 1 := by
    simp
    split <;> simp <;> omega
  simp [e1, e7, e6, x3, bwd]
  refine (bits_add bw' hu (by omega) (by omega)).mono ?_
  rintro r g9 ⟨rfl, fe, w2, bw2⟩
  have fce := (fc.trans fd).trans fe
  have g71 := fce.get (h.next + 1) (by omega)
  rw [get_set_old (by omega), g51] at g71
  have hwc := bw2.own.sl.oneCell
  have bc := bw2.cells
  have hcat : l ++ lowB T1 (classN n) ++ (if classN n < 4 then lowB 0 1 else []) ++ lowB (u64 n) (widthN (classN n)) = l ++ intB n := by
    simp only [intB, List.append_assoc, hT1]
  rw [hcat] at bc bw2
  obtain ⟨N, hN⟩ : ∃ N, N = (l ++ intB n).length := ⟨_, rfl⟩
  rw [← hN] at bc
  have st := store_pair g71 (show allScalar [w2, .int .i64 (N : Int)] = true by simp [allScalar, hwc.2])
  have f7 : Fr h g9 := ⟨Nat.le_trans f5.next fce.next, fun i hi => by rw [fce.get i (by omega), get_set_old (by omega), f5.get i hi]⟩
  have gx : (g9.set (h.next + 1) (.cells [w2, .int .i64 (N : Int)] false)).get (h.next + 1) = some (.cells [w2, .int .i64 (N : Int)] false) := get_set_new _ _
  have ld := loadN_of gx (n := 2) rfl
  simp [e6, e4, loadN_pair bc, st]
  rw [resS_many (id := h.next + 1) (off := 0) (v := [w2, .int .i64 (N : Int)]) _ (by simp [e4]) ld]
  simp
  refine ⟨⟨w2, by rw [hN], ?_⟩, ?_⟩
  · exact (bw2.own.set _ (bw2.own.ne (by omega))).base (by omega)
  · exact ⟨f7.next, fun i hi => by rw [get_set_old (by omega), f7.get i hi]⟩

end Go.Dk

namespace Go.Dk
open Go Go.Dr
set_option maxRecDepth 100000

/-- all stays but one block -/
structure FrX (id : Nat) (h h' : AH) : Prop where
  next : h.next ≤ h'.next
  get : ∀ i, i < h.next → i ≠ id → h'.get i = h.get i

theorem FrX.refl (id : Nat) (h : AH) : FrX id h h := ⟨Nat.le_refl _, fun _ _ _ => rfl⟩
theorem FrX.trans {id : Nat} {a b c : AH} (f : FrX id a b) (g : FrX id b c) : FrX id a c := ⟨Nat.le_trans f.next g.next, fun i hi hn => (g.get i (Nat.lt_of_lt_of_le hi f.next) hn).trans (f.get i hi hn)⟩
theorem FrX.fr {id : Nat} {a b c : AH} (f : Fr a b) (g : FrX id b c) (hid : a.next ≤ id) : Fr a c := ⟨Nat.le_trans f.next g.next, fun i hi => (g.get i (Nat.lt_of_lt_of_le hi f.next) (by omega)).trans (f.get i hi)⟩
theorem Fr.x {id : Nat} {a b : AH} (f : Fr a b) : FrX id a b := ⟨f.next, fun i hi _ => f.get i hi⟩

/-- a packer's block -/
def PackO (h : AH) (id : Nat) (l : Bits) : Prop := ∃ v, h.get id = some (.cells [v, .int .i64 (l.length : Int)] false) ∧ Sl h 1 ((l.length + 7) / 8) v (by8 (pack l)) ∧ idOf v ≠ some id ∧ id < h.next

theorem Sl.setX {h : AH} {es n j : Nat} {v : AV} {l : List AV} (s : Sl h es n v l) (o : AObj) (hj : idOf v ≠ some j) : Sl (h.set j o) es n v l := by
  refine ⟨s.1, ?_⟩
  rcases s.2 with e | ⟨id, off, cap, x, vs, ro, e1, e2, e3, e4, e5, e6⟩
  · exact .inl e
  · exact .inr ⟨id, off, cap, x, vs, ro, e1, e2, e3, by rw [get_set_old (by intro e; apply hj; rw [e1, e]; rfl)]; exact e4, e5, e6⟩

theorem Sl.idLt {h : AH} {es n : Nat} {v : AV} {l : List AV} (s : Sl h es n v l) {i : Nat} (hi : idOf v = some i) : i < h.next := by
  rcases s.2 with ⟨rfl, _⟩ | ⟨id, off, cap, x, vs, ro, rfl, e2, _⟩
  · cases hi
  · cases hi; exact e2

/-- what came back is laid into the packer -/
theorem PackO.put {h g : AH} {id : Nat} {l m : Bits} {y : AV} (p : PackO h id l) (f : Fr h g) (b : BitF h.next g m y) :
    ∃ g', opStore 2 (.ptr id 0) y g = skipH (.ok g') ∧ PackO g' id m ∧ FrX id h g' := by
  obtain ⟨v, hg, s, hne, hlt⟩ := p
  obtain ⟨w, rfl, sw⟩ := b
  have hg' := f.get id hlt
  rw [hg] at hg'
  have hne' := sw.ne hlt
  have hwc := sw.sl.oneCell
  exact ⟨_, store_pair hg' (by simp [allScalar, hwc.2]), ⟨w, get_set_new _ _, Sl.setX sw.sl _ hne', hne', Nat.lt_of_lt_of_le hlt f.next⟩, ⟨f.next, fun i hi hn => by rw [get_set_old hn, f.get i hi]⟩⟩

theorem pack_put {h : AH} {id : Nat} {l : Bits} {n cnt : Nat} (p : PackO h id l) (hn : n < 2 ^ 64) (hc : cnt ≤ 64) (hl : l.length ≤ 2 ^ 34) :
    Ev P SI (.fn f_codec_pack_put) [.ptr id 0, .int .u64 (n : Int), .int .i64 (cnt : Int)] h fun r g => r = .tuple [] ∧ PackO g id (l ++ lowB n cnt) ∧ FrX id h g := by
  refine ev_fn k_codec_pack_put rfl rfl ?_
  have p0 := p
  obtain ⟨v, hg, s, hne, hlt⟩ := p0
  simp [c_codec_pack_put, loadN_pair hg]
  refine (bits_Put ⟨v, rfl, s⟩ hn hc (by omega)).mono ?_
  rintro r g ⟨y, rfl, b, f⟩
  obtain ⟨g', st, q, fx⟩ := p.put f b
  simp [st]
  exact ⟨q, fx⟩

theorem pack_number {h : AH} {id : Nat} {l : Bits} {n : Int} (p : PackO h id l) (hl : l.length ≤ 2 ^ 34) :
    Ev P SI (.fn f_codec_pack_number) [.ptr id 0, .int .i64 n] h fun r g => r = .tuple [] ∧ PackO g id (l ++ intB n) ∧ FrX id h g := by
  refine ev_fn k_codec_pack_number rfl rfl ?_
  have p0 := p
  obtain ⟨v, hg, s, hne, hlt⟩ := p0
  simp [c_codec_pack_number, loadN_pair hg]
  refine (bits_PutInt ⟨v, rfl, s⟩ hl).mono ?_
  rintro r g ⟨y, rfl, b, f⟩
  obtain ⟨g', st, q, fx⟩ := p.put f b
  simp [st]
  exact ⟨q, fx⟩

/-- the width of a value -/
def widX (x : Nat) : Nat := Lib.bitLen x - Lib.ctz 64 x

/-- a value xored with the one ahead -/
def xorB (x : Nat) : Bits := if x = 0 then lowB 0 1 else lowB 1 1 ++ lowB ((64 - Lib.bitLen x) * 64 + (widX x - 1)) 12 ++ lowB (x / 2 ^ Lib.ctz 64 x) (widX x)

theorem wid_pos {x : Nat} (hx : x < 2 ^ 64) (h0 : x ≠ 0) : Lib.ctz 64 x < 64 ∧ Lib.ctz 64 x < Lib.bitLen x ∧ Lib.bitLen x ≤ 64 ∧ 2 ^ Lib.ctz 64 x ≤ x := by
  obtain ⟨h1, h2⟩ := Lib.lowest_bit 64 x h0 hx
  have h3 : 2 ^ Lib.ctz 64 x ≤ x := by rw [← h1]; exact Nat.and_le_left
  refine ⟨h2, ?_, bitLen_le64 hx, h3⟩
  have h4 := Lib.bitLen_shift (Lib.ctz 64 x) x h3 hx
  have h5 : x / 2 ^ Lib.ctz 64 x ≠ 0 := by
    have := Nat.div_pos h3 (Nat.two_pow_pos _)
    omega
  have h6 := Lib.bitLen_half (x / 2 ^ Lib.ctz 64 x) h5 (Nat.lt_of_le_of_lt (Nat.div_le_self _ _) hx)
  omega

theorem xorB_len (x : Nat) (hx : x < 2 ^ 64) : (xorB x).length ≤ 77 := by
  unfold xorB
  split
  · simp
  · rename_i h0
    have := wid_pos hx h0
    simp [widX]
    omega

theorem pack_value {h : AH} {id : Nat} {l : Bits} {x : Nat} (p : PackO h id l) (hx : x < 2 ^ 64) (ht : TabIn h) (hid : id ≠ g_math_bits_deBruijn64tab) (hl : l.length ≤ 2 ^ 33) :
    Ev P SI (.fn f_codec_pack_value) [.ptr id 0, .int .u64 (x : Int)] h fun r g => r = .tuple [] ∧ PackO g id (l ++ xorB x) ∧ FrX id h g := by
  refine ev_fn k_codec_pack_value rfl rfl ?_
  by_cases h0 : x = 0
  · subst h0
    simp [c_codec_pack_value]
    refine (pack_put (n := 0) (cnt := 1) p (by omega) (by omega) (by omega)).mono ?_
    rintro r g ⟨rfl, q, fx⟩
    simp [xorB]
    exact ⟨q, fx⟩
  obtain ⟨w1, w2, w3, w4⟩ := wid_pos hx h0
  have lz := leading64 hx
  have tz := trailing64 hx h0 ht
  have hxB : xorB x = lowB 1 1 ++ lowB ((64 - Lib.bitLen x) * 64 + (widX x - 1)) 12 ++ lowB (x / 2 ^ Lib.ctz 64 x) (widX x) := by rw [xorB, if_neg h0]
  rw [hxB]
  have hwx : widX x = Lib.bitLen x - Lib.ctz 64 x := rfl
  generalize Lib.ctz 64 x = c at *
  generalize Lib.bitLen x = b at *
  generalize widX x = w at *
  obtain ⟨hi, hhi⟩ : ∃ hi, hi = 64 - b := ⟨_, rfl⟩
  rw [← hhi] at lz ⊢
  have x1 : wrapF .i64 (64 - (hi : Int)) = (b : Int) := by rw [wrap_i64 (by omega) (by omega)]; omega
  have x2 : wrapF .i64 ((b : Int) - (c : Int)) = (w : Int) := by rw [wrap_i64 (by omega) (by omega)]; omega
  have x3 : wrapF .u64 (hi : Int) = (hi : Int) := wrap_u64 (by omega) (by omega)
  have x4 := shl_u64 (P := P) t_uint64 true .u64 hi 6 (by omega)
  rw [Nat.mod_eq_of_lt (by omega), show ((6 : Nat) : Int) = 6 from rfl] at x4
  have x5 : wrapF .i64 ((w : Int) - 1) = ((w - 1 : Nat) : Int) := by rw [wrap_i64 (by omega) (by omega)]; omega
  have x6 : wrapF .u64 ((w - 1 : Nat) : Int) = ((w - 1 : Nat) : Int) := wrap_u64 (by omega) (by omega)
  have x7 := or_u64 (P := P) t_uint64 false (hi * 2 ^ 6) (w - 1) (by omega) (by omega)
  rw [or_add _ _ 6 (Nat.mul_mod_left _ _) (by omega)] at x7
  have x8 := shr_u64 (P := P) t_uint64 false .i64 x c (by omega)
  have hm : hi * 2 ^ 6 + (w - 1) = hi * 64 + (w - 1) := by omega
  rw [hm] at x7
  have hm2 : hi * 64 + (w - 1) < 2 ^ 64 := by omega
  obtain ⟨hw, hhw⟩ : ∃ hw, hw = hi * 64 + (w - 1) := ⟨_, rfl⟩
  rw [← hhw] at x7 hm2 ⊢
  clear hm
  generalize hi * 2 ^ 6 = hs at *
  have hxd : x / 2 ^ c < 2 ^ 64 := Nat.lt_of_le_of_lt (Nat.div_le_self _ _) hx
  generalize x / 2 ^ c = xd at *
  clear hhw
  generalize w - 1 = w1' at *
  simp [c_codec_pack_value, h0, lz, tz, x1, x2]
  refine (pack_put (n := 1) (cnt := 1) p (by omega) (by omega) (by omega)).mono ?_
  rintro r g1 ⟨rfl, p1, fx1⟩
  simp [x3, x4, x5, x6, x7, -bin_shl_u64, -bin_or_u64, -bin_shr_u64]
  refine (pack_put (n := hw) (cnt := 12) p1 hm2 (by omega) (by simp; omega)).mono ?_
  rintro r g2 ⟨rfl, p2, fx2⟩
  simp [x8, -bin_shl_u64, -bin_or_u64, -bin_shr_u64]
  refine (pack_put (n := xd) (cnt := w) p2 hxd (by omega) (by simp; omega)).mono ?_
  rintro r g3 ⟨rfl, p3, fx3⟩
  simp
  rw [List.append_assoc, List.append_assoc] at p3
  exact ⟨p3, (fx1.trans fx2).trans fx3⟩

end Go.Dk

namespace Go.Dk
open Go Go.Dr
set_option maxRecDepth 100000

theorem bytesAV_eq : ∀ s : List UInt8, bytesAV s = by8 (s.map UInt8.toNat)
  | [] => rfl
  | b :: s => by rw [bytesAV, bytesAV_eq s]; rfl

theorem opIndexS_get {s : List UInt8} {j : Nat} {b : UInt8} (k : IntKind) (hj : s[j]? = some b) : opIndexS (.str s) (.int k (j : Int)) = .ok (.int .u8 (b.toNat : Int)) := by
  simp [opIndexS, hj]

def letterN (n : Nat) : Bool := decide (n = 95) || decide (97 ≤ n ∧ n ≤ 122) || decide (65 ≤ n ∧ n ≤ 90)
def digitN (n : Nat) : Bool := decide (48 ≤ n ∧ n ≤ 57)

theorem or32 : ∀ c : Fin 256, ((97 : Int) ≤ wrapF .u8 ((c.val % 256 ||| 32 : Nat) : Int) ∧ wrapF .u8 ((c.val % 256 ||| 32 : Nat) : Int) ≤ 122) ↔ ((97 ≤ c.val ∧ c.val ≤ 122) ∨ (65 ≤ c.val ∧ c.val ≤ 90)) := by decide

theorem letterN_eq (c : Nat) : letterN c = decide (c = 95 ∨ (97 ≤ c ∧ c ≤ 122) ∨ (65 ≤ c ∧ c ≤ 90)) := by
  unfold letterN
  rw [Bool.eq_iff_iff]
  simp only [Bool.or_eq_true, decide_eq_true_eq]
  omega

theorem labels_letter {c : Nat} (hc : c < 256) (h : AH) (K : AV → AH → Prop) : Ev P SI (.fn f_labels_letter) [.int .u8 (c : Int)] h K = K (.bool (letterN c)) h := by
  refine Ev.eq (ev_fn k_labels_letter rfl rfl ?_) K
  have key := or32 ⟨c, hc⟩
  simp only at key
  rw [letterN_eq]
  by_cases h1 : c = 95
  · subst h1; simp [c_labels_letter]
  · have h1' : ¬ ((c : Int) = 95) := by omega
    by_cases h2 : (97 : Int) ≤ wrapF .u8 ((c % 256 ||| 32 : Nat) : Int)
    · by_cases h3 : wrapF .u8 ((c % 256 ||| 32 : Nat) : Int) ≤ (122 : Int)
      · have := key.1 ⟨h2, h3⟩
        simp [c_labels_letter, h1', h2, h3, this]
      · have : ¬ ((97 ≤ c ∧ c ≤ 122) ∨ (65 ≤ c ∧ c ≤ 90)) := fun e => h3 (key.2 e).2
        simp [c_labels_letter, h1', h2, h3, this, h1]
    · have : ¬ ((97 ≤ c ∧ c ≤ 122) ∨ (65 ≤ c ∧ c ≤ 90)) := fun e => h2 (key.2 e).1
      simp [c_labels_letter, h1', h2, this, h1]

theorem labels_digit (c : Nat) (h : AH) (K : AV → AH → Prop) : Ev P SI (.fn f_labels_digit) [.int .u8 (c : Int)] h K = K (.bool (digitN c)) h := by
  refine Ev.eq (ev_fn k_labels_digit rfl rfl ?_) K
  unfold digitN
  by_cases h1 : (48 : Int) ≤ c
  · have h1' : 48 ≤ c := by omega
    have h2 : ((c : Int) ≤ 57) ↔ c ≤ 57 := by omega
    simp [c_labels_digit, h1, h1', h2]
  · have h1' : ¬ 48 ≤ c := by omega
    simp [c_labels_digit, h1, h1']

theorem labels_Name_1 {c : Nat} (hc : c < 256) (h : AH) (K : AV → AH → Prop) : Ev P SI (.fn f_labels_Name_1) [.int .u8 (c : Int)] h K = K (.bool (!(letterN c || digitN c))) h := by
  refine Ev.eq (ev_fn k_labels_Name_1 rfl rfl ?_) K
  cases h1 : letterN c
  · simp [c_labels_Name_1, labels_letter hc, h1, labels_digit]
  · simp [c_labels_Name_1, labels_letter hc, h1]

/-- a predicate over bytes, somewhere in a slice -/
theorem contains_bytes {h : AH} {v : AV} {l : List Nat} {n : Nat} {f : FuncId} {p : Nat → Bool} (hv : Sl h 1 n v (by8 l)) (hn : n < 2 ^ 62) (hb : ∀ x ∈ l, x < 256)
    (hp : ∀ x : Nat, x < 256 → ∀ K, Ev P SI (.fn f) [.int .u8 (x : Int)] h K = K (.bool (p x)) h) (K : AV → AH → Prop) : Ev P SI (.fn f_slices_ContainsFunc_byte_byte) [v, .func (.func f) [] []] h K = K (.bool (l.any p)) h := by
  have hl : l.length = n := by have := hv.1; simpa using this
  refine Ev.eq (ev_fn k_slices_ContainsFunc_byte_byte rfl rfl ?_) K
  simp [c_slices_ContainsFunc_byte_byte]
  have key : Ev P SI (.fn f_slices_IndexFunc_byte_byte) [v, .func (.func f) [] []] h fun r g => g = h ∧ ∃ q : Int, r = .int .i64 q ∧ (0 ≤ q ↔ l.any p = true) := by
    refine ev_fn k_slices_IndexFunc_byte_byte rfl rfl ?_
    simp [c_slices_IndexFunc_byte_byte, hv.len]
    refine w_count (n := n) (by rfl) (fun j σ ds h' => ds = [] ∧ σ 0 = v ∧ σ 1 = .func (.func f) [] [] ∧ σ 7 = .int .i64 (n : Int) ∧ h' = h ∧ ∀ i y, i < j → l[i]? = some y → p y = false) (by omega) (by simp) (by simp) (fun j σ ds h' hJ => by simp [hJ.2.2.2.1]) ?_ ?_
    · rintro j σ ds h' hj hi ⟨rfl, e0, e1, e7, rfl, hno⟩
      have hjl : j < l.length := by omega
      obtain ⟨id, o, g1, g2, _⟩ := hv.get1 (k := .i64) (i := (j : Int)) rfl hj (x := .int .u8 (l[j] : Int)) (by rw [by8_get, List.getElem?_eq_getElem hjl]; rfl)
      have hc := hp l[j] (hb _ (List.getElem_mem hjl))
      cases hx : p l[j] with
      | true =>
        have : l.any p = true := List.any_eq_true.2 ⟨_, List.getElem_mem hjl, hx⟩
        simp [e0, e1, e7, hi, g1, g2, hc, hx, this]
        exact ⟨l[j], List.getElem_mem hjl, hx⟩
      | false =>
        simp [e0, e1, e7, hi, g1, g2, hc, hx]
        intro i y hij hy
        by_cases e : i = j
        · subst e; rw [List.getElem?_eq_getElem hjl] at hy; cases hy; exact hx
        · exact hno i y (by omega) hy
    · rintro σ ds h' ⟨rfl, e0, e1, e7, rfl, hno⟩
      simp
      intro x hx
      obtain ⟨i, hi⟩ := List.mem_iff_getElem?.1 hx
      have : i < l.length := (List.getElem?_eq_some_iff.1 hi).1
      exact hno i x (by omega) hi
  refine key.mono ?_
  rintro r g ⟨rfl, q, rfl, hq⟩
  simp
  cases hx : l.any p with
  | true => have := hq.2 hx; simp [this]
  | false =>
    have : ¬ 0 ≤ q := fun h => by rw [hq.1 h] at hx; cases hx
    simp [this]

/-- may a text be a name -/
def nameOk (s : List UInt8) : Bool :=
  decide (s.length ≤ 24) && match s with
    | [] => false
    | b :: r => letterN b.toNat && r.all fun c => letterN c.toNat || digitN c.toNat

theorem labels_Name {s : List UInt8} (hs : s.length < 2 ^ 62) (h : AH) : Ev P SI (.fn f_labels_Name) [.str s] h fun r g => r = .bool (nameOk s) ∧ Fr h g := by
  refine ev_fn k_labels_Name rfl rfl ?_
  cases s with
  | nil => simp [c_labels_Name, nameOk, Fr.refl]
  | cons b r =>
    have i0 := opIndexS_get (s := b :: r) (j := 0) .i64 (b := b) rfl
    rw [show ((0 : Nat) : Int) = 0 from rfl] at i0
    by_cases h1 : (b :: r).length ≤ 24
    case neg =>
      have h1' : (24 : Int) < ((b :: r).length : Int) := by omega
      have h2 : ¬ (r.length + 1 ≤ 24) := by simpa using h1
      simp only [List.length_cons] at h1'
      push_cast at h1'
      simp [c_labels_Name, nameOk, h1', h2, Fr.refl]
    have h1' : ¬ (24 : Int) < ((b :: r).length : Int) := by omega
    have h2 : r.length + 1 ≤ 24 := by simpa using h1
    simp only [List.length_cons] at h1'
    push_cast at h1'
    have hb := labels_letter (c := b.toNat) b.toNat_lt
    cases hlt : letterN b.toNat with
    | false => simp [c_labels_Name, nameOk, h1', h2, i0, hb, hlt, Fr.refl]
    | true =>
      have f0 := Fr.push (.refl h) (.cells (bytesAV (b :: r)) false)
      have sl : Sl (h.push (.cells (bytesAV (b :: r)) false)) 1 (b :: r).length (.slice h.next 0 (b :: r).length (b :: r).length false 1) (by8 ((b :: r).map UInt8.toNat)) := by
        rw [← bytesAV_eq]
        exact (Own.fresh (B := 0) (h := h) false (Nat.zero_le _) (by rw [bytesAV_eq]; simp)).sl
      have hc := contains_bytes (f := f_labels_Name_1) (p := fun c => !(letterN c || digitN c)) sl (by omega) (by intro x hx; obtain ⟨c, _, rfl⟩ := List.mem_map.1 hx; exact c.toNat_lt) (fun x hx K => labels_Name_1 hx _ K)
      have hop : opConv .bytes (.str (b :: r)) h = okV (.slice h.next 0 (b :: r).length (b :: r).length false 1) (h.push (.cells (bytesAV (b :: r)) false)) := rfl
      simp only [List.length_cons] at hop hc
      simp [c_labels_Name, nameOk, h1', h2, i0, hb, hlt, hop, hc, f0]
      rw [Bool.eq_iff_iff]
      simp [List.any_eq_true, List.all_eq_true]

end Go.Dk

namespace Go.Dk
open Go Go.Dr
set_option maxRecDepth 100000

theorem ref07_Name {s : List UInt8} (hs : s.length < 2 ^ 62) (h : AH) (K : AV → AH → Prop) : Ev P SI (.fn f_ref07_Name) [.str s] h K = K (.bool (nameOk s)) h := by
  refine Ev.eq (ev_fn k_ref07_Name rfl rfl ?_) K
  simp [c_ref07_Name]
  refine w_loop (fun q σ ds g => ∃ j : Nat, q + j = s.length ∧ ds = [] ∧ g = h ∧ σ 0 = .str s ∧ σ 3 = .int .i64 (j : Int) ∧ ∀ (i : Nat) (b : UInt8), i < j → s[i]? = some b → (letterN b.toNat = true ∨ i ≠ 0 ∧ digitN b.toNat = true)) s.length
    ⟨0, by omega, rfl, rfl, by simp, by simp, by simp⟩ ?_
  rintro q σ ds g ⟨j, hq, rfl, rfl, e0, e3, hall⟩
  by_cases hj : j < s.length
  · have hb : s[j]? = some s[j] := List.getElem?_eq_getElem hj
    have hi := opIndexS_get (s := s) .i64 hb
    have hlt : ((j : Int) < (s.length : Int)) := by omega
    have w1 : wrapF .i64 ((j : Int) + 1) = ((j + 1 : Nat) : Int) := by rw [wrap_i64 (by omega) (by omega)]; omega
    have hjb : ∀ b, s[j]? = some b → b.toNat = s[j].toNat := fun b e => by rw [hb] at e; rw [Option.some.inj e]
    generalize hc : s[j].toNat = c at *
    have go : (letterN c = true ∨ j ≠ 0 ∧ digitN c = true) → ∀ (i : Nat) (b : UInt8), i < j + 1 → s[i]? = some b → (letterN b.toNat = true ∨ i ≠ 0 ∧ digitN b.toNat = true) := by
      intro hok i b hi hb
      by_cases e : i = j
      · rw [e] at hb ⊢; rw [hjb b hb]; exact hok
      · exact hall i b (by omega) hb
    have bad : ¬ (letterN c = true ∨ j ≠ 0 ∧ digitN c = true) → nameOk s = false := by
      intro hno
      cases hn : nameOk s with
      | false => rfl
      | true =>
        exfalso
        apply hno
        unfold nameOk at hn
        cases s with
        | nil => simp at hj
        | cons b r =>
          simp only [Bool.and_eq_true, List.all_eq_true] at hn
          cases j with
          | zero => simp at hc; subst hc; exact .inl hn.2.1
          | succ j =>
            simp at hc
            have := hn.2.2 _ (List.getElem_mem (show j < r.length by simpa using hj))
            rw [hc] at this
            rcases Bool.or_eq_true _ _ ▸ this with h | h
            · exact .inl h
            · exact .inr ⟨by omega, h⟩
    by_cases hL : letterN c = true
    · have := go (.inl hL)
      rw [letterN_eq, decide_eq_true_eq] at hL
      rcases hL with hL | hL | hL
      · subst hL
        simp [e0, e3, hi, hlt, w1, Kloop_normal, hj]
        exact ⟨q - 1, by omega, j + 1, by omega, by omega, this⟩
      · have a1 : (97 : Int) ≤ c := by omega
        have a2 : (c : Int) ≤ 122 := by omega
        simp [e0, e3, hi, hlt, w1, Kloop_normal, hj, a1, a2]
        exact ⟨q - 1, by omega, j + 1, by omega, by omega, this⟩
      · have a1 : ¬ (97 : Int) ≤ c := by omega
        have a2 : (65 : Int) ≤ c := by omega
        have a3 : (c : Int) ≤ 90 := by omega
        simp [e0, e3, hi, hlt, w1, Kloop_normal, hj, a1, a2, a3]
        exact ⟨q - 1, by omega, j + 1, by omega, by omega, this⟩
    · have hL' := hL
      rw [letterN_eq, decide_eq_true_eq] at hL'
      have b1 : ¬ (c : Int) = 95 := by omega
      by_cases h97 : (97 : Int) ≤ c
      · have a2 : ¬ (c : Int) ≤ 122 := by omega
        have a3 : (65 : Int) ≤ c := by omega
        have a4 : ¬ (c : Int) ≤ 90 := by omega
        have a5 : ¬ (c : Int) < 48 := by omega
        have a6 : (57 : Int) < c := by omega
        have hbad := bad (by rintro (h | ⟨_, h⟩); exact hL h; unfold digitN at h; simp at h; omega)
        by_cases hj0 : j = 0
        · simp [e0, e3, hi, hlt, w1, hj, h97, a2, a3, a4, b1, a5, a6, hbad, eq_true hj0]
        · simp [e0, e3, hi, hlt, w1, hj, h97, a2, a3, a4, b1, a5, a6, hj0, hbad]
      · by_cases h65 : (65 : Int) ≤ c
        · have a4 : ¬ (c : Int) ≤ 90 := by omega
          have a5 : ¬ (c : Int) < 48 := by omega
          have a6 : (57 : Int) < c := by omega
          have hbad := bad (by rintro (h | ⟨_, h⟩); exact hL h; unfold digitN at h; simp at h; omega)
          by_cases hj0 : j = 0
          · simp [e0, e3, hi, hlt, w1, hj, h97, h65, a4, b1, a5, a6, hbad, eq_true hj0]
          · simp [e0, e3, hi, hlt, w1, hj, h97, h65, a4, b1, a5, a6, hj0, hbad]
        · by_cases hj0 : j = 0
          · have hbad := bad (by rintro (h | ⟨h, _⟩); exact hL h; exact h hj0)
            simp [e0, e3, hi, hlt, w1, hj, h97, h65, b1, hbad, eq_true hj0]
          · by_cases h48 : (c : Int) < 48
            · have hbad := bad (by rintro (h | ⟨_, h⟩); exact hL h; unfold digitN at h; simp at h; omega)
              simp [e0, e3, hi, hlt, w1, hj, h97, h65, b1, hj0, h48, hbad]
            · by_cases h57 : (57 : Int) < c
              · have hbad := bad (by rintro (h | ⟨_, h⟩); exact hL h; unfold digitN at h; simp at h; omega)
                simp [e0, e3, hi, hlt, w1, hj, h97, h65, b1, hj0, h48, h57, hbad]
              · have := go (.inr ⟨hj0, by unfold digitN; simp; omega⟩)
                simp [e0, e3, hi, hlt, w1, Kloop_normal, hj, h97, h65, b1, hj0, h48, h57]
                exact ⟨q - 1, by omega, j + 1, by omega, by omega, this⟩
  · have hjN : j = s.length := by omega
    have hlt : ¬ ((j : Int) < (s.length : Int)) := by omega
    have fin : nameOk s = (decide ((1 : Int) ≤ s.length) && decide ((s.length : Int) ≤ 24)) := by
      unfold nameOk
      cases s with
      | nil => rfl
      | cons b r =>
        have h1 : letterN b.toNat = true := by
          rcases hall 0 b (by rw [hjN]; simp) rfl with h | ⟨h, _⟩
          · exact h
          · exact absurd rfl h
        have h2 : (r.all fun c => letterN c.toNat || digitN c.toNat) = true := by
          rw [List.all_eq_true]
          intro x hx
          obtain ⟨i, hi⟩ := List.mem_iff_getElem?.1 hx
          have hil : i < r.length := (List.getElem?_eq_some_iff.1 hi).1
          rcases hall (i + 1) x (by rw [hjN]; simp; omega) (by simpa using hi) with h | ⟨_, h⟩ <;> simp [h]
        simp only [h1, h2, Bool.and_true, List.length_cons]
        rw [Bool.eq_iff_iff]
        simp
        omega
    by_cases h1 : (1 : Int) ≤ s.length
    · simp [e0, e3, hlt, hj, h1, fin]
    · simp [e0, e3, hlt, hj, h1, fin]

end Go.Dk

namespace Go.Dk
open Go Go.Dr
set_option maxRecDepth 100000

theorem decode_w (s : ByteArray) (i : Nat) : 1 ≤ (Utf8.decode s i).2 := by
  unfold Utf8.decode
  simp only []
  repeat' split
  all_goals simp

theorem next_some {h : AH} {id pos : Nat} {s : List UInt8} (hg : h.get id = some (.siter s pos)) (hp : pos < s.length) :
    opNext h (.ptr id 0) true = okV (.tuple [.bool true, .int .i64 (pos : Int), .int .i32 ((Utf8.decode ⟨⟨s⟩⟩ pos).1 : Int)]) (h.set id (.siter s (pos + (Utf8.decode ⟨⟨s⟩⟩ pos).2))) := by
  have hb : Nat.blt pos s.length = true := by simpa [Nat.blt_eq] using hp
  simp only [opNext, nextS, hg, hb, cond_true, forceN_eq]
theorem next_none {h : AH} {id pos : Nat} {s : List UInt8} (hg : h.get id = some (.siter s pos)) (hp : ¬ pos < s.length) : opNext h (.ptr id 0) true = okV (.tuple [.bool false]) h := by
  have hb : Nat.blt pos s.length = false := by
    cases e : Nat.blt pos s.length with
    | false => rfl
    | true => exact absurd (by simpa [Nat.blt_eq] using e) hp
  simp only [opNext, nextS, hg, hb, cond_false]

/-- a text's code points from a place on, at most so many -/
def runesN (s : List UInt8) : Nat → Nat → List Nat
  | 0, _ => []
  | b + 1, i => if i < s.length then (Utf8.decode ⟨⟨s⟩⟩ i).1 :: runesN s b (i + (Utf8.decode ⟨⟨s⟩⟩ i).2) else []

def okRune (r : Nat) : Bool := decide (32 ≤ r ∧ r ≠ 127 ∧ r ≠ 65533)
def plainT (s : List UInt8) : Bool := (runesN s s.length 0).all okRune
def valueOk (s : List UInt8) : Bool := decide (1 ≤ s.length ∧ s.length ≤ 40) && plainT s

theorem runes_stop {s : List UInt8} {b i : Nat} (hi : ¬ i < s.length) : runesN s b i = [] := by
  cases b with
  | zero => rfl
  | succ b => rw [runesN, if_neg hi]

theorem labels_plain (r : Nat) (h : AH) (K : AV → AH → Prop) : Ev P SI (.fn f_labels_plain) [.int .i32 (r : Int)] h K = K (.bool (okRune r)) h := by
  refine Ev.eq (ev_fn k_labels_plain rfl rfl ?_) K
  unfold okRune
  by_cases h1 : (32 : Int) ≤ r
  · have h1' : 32 ≤ r := by omega
    by_cases h2 : (r : Int) = 127
    · have : r = 127 := by omega
      subst this
      simp [c_labels_plain]
    · have h2' : ¬ r = 127 := by omega
      have h3 : ((r : Int) = 65533) ↔ r = 65533 := by omega
      simp [c_labels_plain, h1, h2, h1', h2', h3]
  · have h1' : ¬ 32 ≤ r := by omega
    simp [c_labels_plain, h1, h1']

theorem labels_Value {s : List UInt8} (h : AH) : Ev P SI (.fn f_labels_Value) [.str s] h fun r g => r = .bool (valueOk s) ∧ Fr h g := by
  refine ev_fn k_labels_Value rfl rfl ?_
  have hop : opRangeS h (.str s) = okV (.ptr h.next 0) (h.push (.siter s 0)) := rfl
  simp [c_labels_Value, hop]
  refine w_loop (fun q σ ds g => ∃ pos b, s.length ≤ q + pos ∧ s.length ≤ b + pos ∧ ds = [] ∧ σ 0 = .str s ∧ σ 6 = .ptr h.next 0 ∧ g = h.push (.siter s pos) ∧ plainT s = (runesN s b pos).all okRune) s.length
    ⟨0, s.length, by omega, by omega, rfl, by simp, by simp, rfl, rfl⟩ ?_
  rintro q σ ds g ⟨pos, b, hq, hb, rfl, e0, e6, rfl, hp⟩
  have hg : (h.push (.siter s pos)).get h.next = some (.siter s pos) := get_push_new _
  by_cases hlt : pos < s.length
  · have hn := next_some hg hlt
    have hw := decode_w ⟨⟨s⟩⟩ pos
    rw [AH.set_push] at hn
    obtain ⟨b', rfl⟩ : ∃ b', b = b' + 1 := ⟨b - 1, by omega⟩
    rw [runesN, if_pos hlt, List.all_cons] at hp
    generalize Utf8.decode ⟨⟨s⟩⟩ pos = d at *
    cases hr : okRune d.1 with
    | true =>
      rw [hr, Bool.true_and] at hp
      simp [e0, e6, hn, labels_plain, hr, Kloop_normal]
      exact ⟨q - 1, by omega, pos + d.2, by omega, b', by omega, rfl, hp⟩
    | false =>
      rw [hr, Bool.false_and] at hp
      simp [e0, e6, hn, labels_plain, hr, valueOk, hp]
      exact Fr.push (.refl h) _
  · have hn := next_none hg hlt
    rw [runes_stop hlt] at hp
    have hp : plainT s = true := hp
    cases hs : s with
    | nil =>
      subst hs
      simp [e0, e6, hn, valueOk]
      exact Fr.push (.refl h) _
    | cons c r =>
      rw [← hs]
      have hne : ¬ s = [] := by rw [hs]; simp
      have h1 : ((s.length : Int) ≤ 40) ↔ s.length ≤ 40 := by omega
      have h2 : 1 ≤ s.length := by rw [hs]; simp
      simp [e0, e6, hn, valueOk, hp, hne, h1, h2]
      exact Fr.push (.refl h) _

theorem ref07_Plain {s : List UInt8} (h : AH) : Ev P SI (.fn f_ref07_Plain) [.str s] h fun r g => r = .bool (plainT s) ∧ Fr h g := by
  refine ev_fn k_ref07_Plain rfl rfl ?_
  have hop : opRangeS h (.str s) = okV (.ptr h.next 0) (h.push (.siter s 0)) := rfl
  simp [c_ref07_Plain, hop]
  refine w_loop (fun q σ ds g => ∃ pos b, s.length ≤ q + pos ∧ s.length ≤ b + pos ∧ ds = [] ∧ σ 0 = .str s ∧ σ 6 = .ptr h.next 0 ∧ g = h.push (.siter s pos) ∧ plainT s = (runesN s b pos).all okRune) s.length
    ⟨0, s.length, by omega, by omega, rfl, by simp, by simp, rfl, rfl⟩ ?_
  rintro q σ ds g ⟨pos, b, hq, hb, rfl, e0, e6, rfl, hp⟩
  have hg : (h.push (.siter s pos)).get h.next = some (.siter s pos) := get_push_new _
  by_cases hlt : pos < s.length
  · have hn := next_some hg hlt
    have hw := decode_w ⟨⟨s⟩⟩ pos
    rw [AH.set_push] at hn
    obtain ⟨b', rfl⟩ : ∃ b', b = b' + 1 := ⟨b - 1, by omega⟩
    rw [runesN, if_pos hlt, List.all_cons] at hp
    generalize Utf8.decode ⟨⟨s⟩⟩ pos = d at *
    unfold okRune at hp
    by_cases h32 : (d.1 : Int) < 32
    · have h1 : ¬ 32 ≤ d.1 := by omega
      simp only [h1, false_and, decide_false, Bool.false_and] at hp
      simp [e0, e6, hn, h32, hp]
      exact Fr.push (.refl h) _
    · have h1 : 32 ≤ d.1 := by omega
      by_cases h127 : (d.1 : Int) = 127
      · have h2 : d.1 = 127 := by omega
        simp only [h2, ne_eq, not_true, false_and, and_false, decide_false, Bool.false_and] at hp
        simp [e0, e6, hn, h127, hp]
        exact Fr.push (.refl h) _
      · have h2 : ¬ d.1 = 127 := by omega
        by_cases hx : (d.1 : Int) = 65533
        · have h3 : d.1 = 65533 := by omega
          simp only [h3, ne_eq, not_true, and_false, decide_false, Bool.false_and] at hp
          simp [e0, e6, hn, hx, hp]
          exact Fr.push (.refl h) _
        · have h3 : ¬ d.1 = 65533 := by omega
          simp only [h1, h2, h3, ne_eq, not_false_eq_true, and_self, decide_true, Bool.true_and] at hp
          simp [e0, e6, hn, h32, h127, hx, Kloop_normal]
          exact ⟨q - 1, by omega, pos + d.2, by omega, b', by omega, rfl, hp⟩
  · have hn := next_none hg hlt
    rw [runes_stop hlt] at hp
    have hp : plainT s = true := hp
    simp [e0, e6, hn, hp]
    exact Fr.push (.refl h) _

theorem ref07_Value {s : List UInt8} (h : AH) : Ev P SI (.fn f_ref07_Value) [.str s] h fun r g => r = .bool (valueOk s) ∧ Fr h g := by
  refine ev_fn k_ref07_Value rfl rfl ?_
  unfold valueOk
  by_cases h1 : (1 : Int) ≤ s.length
  · have h1' : 1 ≤ s.length := by omega
    by_cases h2 : (s.length : Int) ≤ 40
    · have h2' : s.length ≤ 40 := by omega
      simp [c_ref07_Value, h1, h2, h1', h2']
      refine (ref07_Plain h).mono ?_
      rintro r g ⟨rfl, f⟩
      simp [f]
    · have h2' : ¬ s.length ≤ 40 := by omega
      simp [c_ref07_Value, h1, h2, h2', Fr.refl]
  · have h1' : ¬ 1 ≤ s.length := by omega
    simp [c_ref07_Value, h1, h1', Fr.refl]

end Go.Dk
