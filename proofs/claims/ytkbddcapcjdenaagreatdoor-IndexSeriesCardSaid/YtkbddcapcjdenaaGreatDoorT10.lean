/-
  Texts joined.
-/
import Derived.Test.YtkbddcapcjdenaaGreatDoorT5
import Derived.Test.YtkbddcapcjdenaaGreatDoorT9
import Derived.Test.YtkbddcapcjdenaaGreatDoorT4

namespace Go.Dk
open Go Go.Dr
set_option maxRecDepth 100000
theorem x0p:KeyIs P s8 AV.str where
 eq a b:=by
  have h:b01 P 20 s8 (.str a) (.str b)=.ok (a == b):=by kernel_rfl
  rw [h];congr 1
  by_cases e:a=b <;> simp [e]
 ok a:=by kernel_rfl
 same a:=by simp [m0P,o0P]
def kP (z:Nat×Nat):AV:=.agg [.int .i64 (z.1:Int),.int .i64 (z.2:Int)]
theorem y05 (a b c d:Int):b01 P 20 E7 (.agg [.int .i64 a,.int .i64 b]) (.agg [.int .i64 c,.int .i64 d]) =
  (match (.ok (a == c):R Bool) with | .ok true=>(match (.ok (b == d):R Bool) with | .ok true=>.ok true | .ok false=>.ok false | .error e=>.error e) | .ok false=>.ok false | .error e=>.error e):=by kernel_rfl
theorem y06 (a b:Int):d0V P 10 E7 (.agg [.int .i64 a,.int .i64 b])=true:=by kernel_rfl
theorem y07:KeyIs P E7 kP where
 eq a b:=by
  obtain ⟨a1,a2⟩:=a
  obtain ⟨b1,b2⟩:=b
  unfold kP
  rw [y05]
  by_cases h1:a1=b1
  ·by_cases h2:a2=b2
   ·simp [h1,h2]
   ·have:(((a2:Nat):Int) == (b2:Int))=false:=by simp;omega
    simp [h1,h2,this]
  ·have:(((a1:Nat):Int) == (b1:Int))=false:=by simp;omega
   simp [h1,this]
 ok a:=y06 _ _
 same a:=by simp [kP,m0P,m0O,o0P]
noncomputable def o0L:CC :=
 (.block 0
 (.loop
 (.seq
 (.ops [
 .row ⟨(some 26),none,.bin .lss a7 false (.t 25) (.t 24)⟩])
 (.seq
 (.cond (.t 26)
 .skip
 (.exit 0))
 (.seq
 (.block 1
 (.seq
 (.ops [
 .row ⟨(some 27),none,.idxV 5 (.t 23) (.t 25)⟩,
 .row ⟨(some 28),none,.loadN 5 (.t 27)⟩,
 .row ⟨(some 5),none,.new [.nils,(.int .i64 0),(.int .i64 0),(.int .i64 0),(.int .i64 0)]⟩,
 .row ⟨none,none,.store 5 (.t 5) (.t 28)⟩])
 (.seq
 (.ops [
 .row ⟨(some 29),none,.fieldAddr 0 (.t 5)⟩,
 .row ⟨(some 30),none,.load1 (.t 29)⟩,
 .row ⟨(some 31),none,.lenV (.t 30)⟩,
 .row ⟨(some 32),none,.move (.c (.int .i64 0))⟩])
 (.block 2
 (.loop
 (.seq
 (.ops [
 .row ⟨(some 33),none,.bin .lss a7 false (.t 32) (.t 31)⟩])
 (.seq
 (.cond (.t 33)
 .skip
 (.exit 2))
 (.seq
 (.block 3
 (.seq
 (.ops [
 .row ⟨(some 34),none,.idxV 2 (.t 30) (.t 32)⟩,
 .row ⟨(some 35),none,.loadN 2 (.t 34)⟩,
 .row ⟨(some 7),none,.new [(.str []),(.str [])]⟩,
 .row ⟨none,none,.store 2 (.t 7) (.t 35)⟩])
 (.ops [
 .row ⟨(some 36),none,.move (.t 3)⟩,
 .row ⟨(some 37),none,.fieldAddr 0 (.t 7)⟩,
 .row ⟨(some 38),none,.load1 (.t 37)⟩,
 .row ⟨(some 39),none,.move (.t 3)⟩,
 .row ⟨(some 40),none,.fieldAddr 1 (.t 7)⟩,
 .row ⟨(some 41),none,.load1 (.t 40)⟩,
 .stage [⟨(some 41),none,.load1 (.t 40)⟩,⟨(some 38),none,.load1 (.t 37)⟩],
 .row ⟨none,none,.upd s8 (.t 36) (.t 38) (.c (.bool true))⟩,
 .stage [⟨(some 41),none,.load1 (.t 40)⟩],
 .row ⟨none,none,.upd s8 (.t 39) (.t 41) (.c (.bool true))⟩])))
 (.ops [
 .row ⟨(some 42),none,.bin .add a7 true (.t 32) (.c (.int .i64 1))⟩,
 .row ⟨(some 32),none,.move (.t 42)⟩])))))))))
 (.ops [
 .row ⟨(some 43),none,.bin .add a7 true (.t 25) (.c (.int .i64 1))⟩,
 .row ⟨(some 25),none,.move (.t 43)⟩]))))))
noncomputable def m0I:CC :=
 (.block 2
 (.loop
 (.seq
 (.ops [
 .row ⟨(some 33),none,.bin .lss a7 false (.t 32) (.t 31)⟩])
 (.seq
 (.cond (.t 33)
 .skip
 (.exit 2))
 (.seq
 (.block 3
 (.seq
 (.ops [
 .row ⟨(some 34),none,.idxV 2 (.t 30) (.t 32)⟩,
 .row ⟨(some 35),none,.loadN 2 (.t 34)⟩,
 .row ⟨(some 7),none,.new [(.str []),(.str [])]⟩,
 .row ⟨none,none,.store 2 (.t 7) (.t 35)⟩])
 (.ops [
 .row ⟨(some 36),none,.move (.t 3)⟩,
 .row ⟨(some 37),none,.fieldAddr 0 (.t 7)⟩,
 .row ⟨(some 38),none,.load1 (.t 37)⟩,
 .row ⟨(some 39),none,.move (.t 3)⟩,
 .row ⟨(some 40),none,.fieldAddr 1 (.t 7)⟩,
 .row ⟨(some 41),none,.load1 (.t 40)⟩,
 .stage [⟨(some 41),none,.load1 (.t 40)⟩,⟨(some 38),none,.load1 (.t 37)⟩],
 .row ⟨none,none,.upd s8 (.t 36) (.t 38) (.c (.bool true))⟩,
 .stage [⟨(some 41),none,.load1 (.t 40)⟩],
 .row ⟨none,none,.upd s8 (.t 39) (.t 41) (.c (.bool true))⟩])))
 (.ops [
 .row ⟨(some 42),none,.bin .add a7 true (.t 32) (.c (.int .i64 1))⟩,
 .row ⟨(some 32),none,.move (.t 42)⟩]))))))
noncomputable def o0M:CC :=
 (.block 4
 (.loop
 (.seq
 (.ops [
 .row ⟨(some 56),none,.bin .lss a7 false (.t 55) (.t 54)⟩])
 (.seq
 (.cond (.t 56)
 .skip
 (.exit 4))
 (.seq
 (.block 5
 (.seq
 (.ops [
 .row ⟨(some 57),none,.move (.t 55)⟩,
 .row ⟨(some 58),none,.idxV 1 (.t 53) (.t 55)⟩,
 .row ⟨(some 59),none,.load1 (.t 58)⟩,
 .row ⟨(some 11),none,.move (.t 57)⟩,
 .row ⟨(some 12),none,.move (.t 59)⟩])
 (.seq
 (.ops [
 .row ⟨(some 60),none,.move (.t 9)⟩,
 .row ⟨(some 61),none,.move (.t 12)⟩,
 .row ⟨(some 62),none,.move (.t 11)⟩,
 .row ⟨none,none,.upd s8 (.t 60) (.t 61) (.t 62)⟩])
 (.ops [
 .row ⟨(some 63),none,.move (.t 10)⟩,
 .row ⟨(some 64),none,.move (.t 12)⟩,
 .row ⟨(some 65),none,.mkI H4 (.t 64)⟩,
 .row ⟨(some 66),none,.buildSlice 1 1 [.nili] [(0,1,(.t 65))]⟩,
 .row ⟨(some 67),none,.app 1 16 (.t 63) (.t 66)⟩,
 .row ⟨(some 10),none,.move (.t 67)⟩]))))
 (.ops [
 .row ⟨(some 68),none,.bin .add a7 true (.t 55) (.c (.int .i64 1))⟩,
 .row ⟨(some 55),none,.move (.t 68)⟩]))))))
noncomputable def o0N:CC :=
 (.block 6
 (.loop
 (.seq
 (.ops [
 .row ⟨(some 80),none,.bin .lss a7 false (.t 79) (.t 78)⟩])
 (.seq
 (.cond (.t 80)
 .skip
 (.exit 6))
 (.seq
 (.block 7
 (.seq
 (.ops [
 .row ⟨(some 81),none,.move (.t 79)⟩,
 .row ⟨(some 82),none,.idxV 5 (.t 77) (.t 79)⟩,
 .row ⟨(some 83),none,.loadN 5 (.t 82)⟩,
 .row ⟨(some 15),none,.new [.nils,(.int .i64 0),(.int .i64 0),(.int .i64 0),(.int .i64 0)]⟩,
 .row ⟨(some 14),none,.move (.t 81)⟩,
 .row ⟨none,none,.store 5 (.t 15) (.t 83)⟩])
 (.seq
 (.ops [
 .row ⟨(some 84),none,.move (.t 10)⟩,
 .row ⟨(some 85),none,.fieldAddr 0 (.t 15)⟩,
 .row ⟨(some 86),none,.load1 (.t 85)⟩,
 .row ⟨(some 87),none,.lenV (.t 86)⟩,
 .row ⟨(some 88),none,.build [(.int .i64 0),(.int .i64 0)] [(0,1,(.t 87)),(1,1,(.c (.int .i64 1)))]⟩,
 .row ⟨(some 89),none,.mkI l8 (.t 88)⟩,
 .row ⟨(some 90),none,.buildSlice 1 1 [.nili] [(0,1,(.t 89))]⟩,
 .row ⟨(some 91),none,.app 1 16 (.t 84) (.t 90)⟩,
 .row ⟨(some 10),none,.move (.t 91)⟩])
 (.seq
 (.seq
 (.ops [
 .row ⟨(some 92),none,.fieldAddr 0 (.t 15)⟩,
 .row ⟨(some 93),none,.load1 (.t 92)⟩,
 .row ⟨(some 94),none,.lenV (.t 93)⟩,
 .row ⟨(some 95),none,.move (.c (.int .i64 0))⟩])
 (.block 8
 (.loop
 (.seq
 (.ops [
 .row ⟨(some 96),none,.bin .lss a7 false (.t 95) (.t 94)⟩])
 (.seq
 (.cond (.t 96)
 .skip
 (.exit 8))
 (.seq
 (.block 9
 (.seq
 (.ops [
 .row ⟨(some 97),none,.idxV 2 (.t 93) (.t 95)⟩,
 .row ⟨(some 98),none,.loadN 2 (.t 97)⟩,
 .row ⟨(some 17),none,.new [(.str []),(.str [])]⟩,
 .row ⟨none,none,.store 2 (.t 17) (.t 98)⟩])
 (.seq
 (.ops [
 .row ⟨(some 99),none,.move (.t 9)⟩,
 .row ⟨(some 100),none,.fieldAddr 0 (.t 17)⟩,
 .row ⟨(some 101),none,.load1 (.t 100)⟩,
 .row ⟨(some 102),none,.lookup s8 (.int .i64 0) false (.t 99) (.t 101)⟩,
 .row ⟨(some 103),none,.move (.t 9)⟩,
 .row ⟨(some 104),none,.fieldAddr 1 (.t 17)⟩,
 .row ⟨(some 105),none,.load1 (.t 104)⟩,
 .row ⟨(some 106),none,.lookup s8 (.int .i64 0) false (.t 103) (.t 105)⟩,
 .row ⟨(some 107),none,.build [(.int .i64 0),(.int .i64 0)] [(0,1,(.t 102)),(1,1,(.t 106))]⟩,
 .row ⟨(some 18),none,.new [(.int .i64 0),(.int .i64 0)]⟩,
 .row ⟨none,none,.store 2 (.t 18) (.t 107)⟩])
 (.seq
 (.ops [
 .row ⟨(some 108),none,.move (.t 10)⟩,
 .row ⟨(some 109),none,.fieldAddr 0 (.t 18)⟩,
 .row ⟨(some 110),none,.load1 (.t 109)⟩,
 .row ⟨(some 111),none,.build [(.int .i64 0),(.int .i64 0)] [(0,1,(.t 110)),(1,1,(.c (.int .i64 4)))]⟩,
 .row ⟨(some 112),none,.mkI l8 (.t 111)⟩,
 .row ⟨(some 113),none,.fieldAddr 1 (.t 18)⟩,
 .row ⟨(some 114),none,.load1 (.t 113)⟩,
 .row ⟨(some 115),none,.build [(.int .i64 0),(.int .i64 0)] [(0,1,(.t 114)),(1,1,(.c (.int .i64 4)))]⟩,
 .row ⟨(some 116),none,.mkI l8 (.t 115)⟩,
 .row ⟨(some 117),none,.buildSlice 2 1 [.nili,.nili] [(0,1,(.t 112)),(1,1,(.t 116))]⟩,
 .row ⟨(some 118),none,.app 1 16 (.t 108) (.t 117)⟩,
 .row ⟨(some 10),none,.move (.t 118)⟩])
 (.ops [
 .row ⟨(some 119),none,.move (.t 13)⟩,
 .row ⟨(some 120),none,.loadN 2 (.t 18)⟩,
 .row ⟨(some 122),none,.move (.t 14)⟩,
 .row ⟨(some 123),none,.buildSlice 1 1 [(.int .i64 0)] [(0,1,(.t 122))]⟩,
 .row ⟨(some 124),none,.mapEntry E7 .nils (.t 119) (.t 120)⟩,
 .row ⟨(some 121),none,.extract (.t 124) 0⟩,
 .row ⟨(some 125),none,.app 1 8 (.t 121) (.t 123)⟩,
 .row ⟨(some 126),none,.extract (.t 124) 1⟩,
 .row ⟨none,none,.entryStore (.t 119) (.t 126) (.t 125)⟩])))))
 (.ops [
 .row ⟨(some 127),none,.bin .add a7 true (.t 95) (.c (.int .i64 1))⟩,
 .row ⟨(some 95),none,.move (.t 127)⟩])))))))
 (.ops [
 .row ⟨(some 128),none,.move (.t 10)⟩,
 .row ⟨(some 129),none,.fieldAddr 2 (.t 15)⟩,
 .row ⟨(some 130),none,.load1 (.t 129)⟩,
 .row ⟨(some 131),none,.build [(.int .i64 0),(.int .i64 0)] [(0,1,(.t 130)),(1,1,(.c (.int .i64 4)))]⟩,
 .row ⟨(some 132),none,.mkI l8 (.t 131)⟩,
 .row ⟨(some 133),none,.fieldAddr 3 (.t 15)⟩,
 .row ⟨(some 134),none,.load1 (.t 133)⟩,
 .row ⟨(some 135),none,.build [(.int .i64 0),(.int .i64 0)] [(0,1,(.t 134)),(1,1,(.c (.int .i64 8)))]⟩,
 .row ⟨(some 136),none,.mkI l8 (.t 135)⟩,
 .row ⟨(some 137),none,.fieldAddr 4 (.t 15)⟩,
 .row ⟨(some 138),none,.load1 (.t 137)⟩,
 .row ⟨(some 139),none,.build [(.int .i64 0),(.int .i64 0)] [(0,1,(.t 138)),(1,1,(.c (.int .i64 8)))]⟩,
 .row ⟨(some 140),none,.mkI l8 (.t 139)⟩,
 .row ⟨(some 141),none,.buildSlice 3 1 [.nili,.nili,.nili] [(0,1,(.t 132)),(1,1,(.t 136)),(2,1,(.t 140))]⟩,
 .row ⟨(some 142),none,.app 1 16 (.t 128) (.t 141)⟩,
 .row ⟨(some 10),none,.move (.t 142)⟩])))))
 (.ops [
 .row ⟨(some 143),none,.bin .add a7 true (.t 79) (.c (.int .i64 1))⟩,
 .row ⟨(some 79),none,.move (.t 143)⟩]))))))
noncomputable def m0J:CC :=
 (.block 8
 (.loop
 (.seq
 (.ops [
 .row ⟨(some 96),none,.bin .lss a7 false (.t 95) (.t 94)⟩])
 (.seq
 (.cond (.t 96)
 .skip
 (.exit 8))
 (.seq
 (.block 9
 (.seq
 (.ops [
 .row ⟨(some 97),none,.idxV 2 (.t 93) (.t 95)⟩,
 .row ⟨(some 98),none,.loadN 2 (.t 97)⟩,
 .row ⟨(some 17),none,.new [(.str []),(.str [])]⟩,
 .row ⟨none,none,.store 2 (.t 17) (.t 98)⟩])
 (.seq
 (.ops [
 .row ⟨(some 99),none,.move (.t 9)⟩,
 .row ⟨(some 100),none,.fieldAddr 0 (.t 17)⟩,
 .row ⟨(some 101),none,.load1 (.t 100)⟩,
 .row ⟨(some 102),none,.lookup s8 (.int .i64 0) false (.t 99) (.t 101)⟩,
 .row ⟨(some 103),none,.move (.t 9)⟩,
 .row ⟨(some 104),none,.fieldAddr 1 (.t 17)⟩,
 .row ⟨(some 105),none,.load1 (.t 104)⟩,
 .row ⟨(some 106),none,.lookup s8 (.int .i64 0) false (.t 103) (.t 105)⟩,
 .row ⟨(some 107),none,.build [(.int .i64 0),(.int .i64 0)] [(0,1,(.t 102)),(1,1,(.t 106))]⟩,
 .row ⟨(some 18),none,.new [(.int .i64 0),(.int .i64 0)]⟩,
 .row ⟨none,none,.store 2 (.t 18) (.t 107)⟩])
 (.seq
 (.ops [
 .row ⟨(some 108),none,.move (.t 10)⟩,
 .row ⟨(some 109),none,.fieldAddr 0 (.t 18)⟩,
 .row ⟨(some 110),none,.load1 (.t 109)⟩,
 .row ⟨(some 111),none,.build [(.int .i64 0),(.int .i64 0)] [(0,1,(.t 110)),(1,1,(.c (.int .i64 4)))]⟩,
 .row ⟨(some 112),none,.mkI l8 (.t 111)⟩,
 .row ⟨(some 113),none,.fieldAddr 1 (.t 18)⟩,
 .row ⟨(some 114),none,.load1 (.t 113)⟩,
 .row ⟨(some 115),none,.build [(.int .i64 0),(.int .i64 0)] [(0,1,(.t 114)),(1,1,(.c (.int .i64 4)))]⟩,
 .row ⟨(some 116),none,.mkI l8 (.t 115)⟩,
 .row ⟨(some 117),none,.buildSlice 2 1 [.nili,.nili] [(0,1,(.t 112)),(1,1,(.t 116))]⟩,
 .row ⟨(some 118),none,.app 1 16 (.t 108) (.t 117)⟩,
 .row ⟨(some 10),none,.move (.t 118)⟩])
 (.ops [
 .row ⟨(some 119),none,.move (.t 13)⟩,
 .row ⟨(some 120),none,.loadN 2 (.t 18)⟩,
 .row ⟨(some 122),none,.move (.t 14)⟩,
 .row ⟨(some 123),none,.buildSlice 1 1 [(.int .i64 0)] [(0,1,(.t 122))]⟩,
 .row ⟨(some 124),none,.mapEntry E7 .nils (.t 119) (.t 120)⟩,
 .row ⟨(some 121),none,.extract (.t 124) 0⟩,
 .row ⟨(some 125),none,.app 1 8 (.t 121) (.t 123)⟩,
 .row ⟨(some 126),none,.extract (.t 124) 1⟩,
 .row ⟨none,none,.entryStore (.t 119) (.t 126) (.t 125)⟩])))))
 (.ops [
 .row ⟨(some 127),none,.bin .add a7 true (.t 95) (.c (.int .i64 1))⟩,
 .row ⟨(some 95),none,.move (.t 127)⟩]))))))
noncomputable def o0O:CC :=
 (.block 10
 (.loop
 (.seq
 (.ops [
 .row ⟨(some 150),none,.bin .lss a7 false (.t 149) (.t 148)⟩])
 (.seq
 (.cond (.t 150)
 .skip
 (.exit 10))
 (.seq
 (.block 11
 (.seq
 (.ops [
 .row ⟨(some 151),none,.idxV 2 (.t 147) (.t 149)⟩,
 .row ⟨(some 152),none,.loadN 2 (.t 151)⟩,
 .row ⟨(some 21),none,.new [(.int .i64 0),(.int .i64 0)]⟩,
 .row ⟨none,none,.store 2 (.t 21) (.t 152)⟩])
 (.ops [
 .row ⟨(some 153),none,.move (.t 10)⟩,
 .row ⟨(some 154),none,.fieldAddr 0 (.t 21)⟩,
 .row ⟨(some 155),none,.load1 (.t 154)⟩,
 .row ⟨(some 156),none,.build [(.int .i64 0),(.int .i64 0)] [(0,1,(.t 155)),(1,1,(.c (.int .i64 4)))]⟩,
 .row ⟨(some 157),none,.mkI l8 (.t 156)⟩,
 .row ⟨(some 158),none,.fieldAddr 1 (.t 21)⟩,
 .row ⟨(some 159),none,.load1 (.t 158)⟩,
 .row ⟨(some 160),none,.build [(.int .i64 0),(.int .i64 0)] [(0,1,(.t 159)),(1,1,(.c (.int .i64 4)))]⟩,
 .row ⟨(some 161),none,.mkI l8 (.t 160)⟩,
 .row ⟨(some 162),none,.move (.t 13)⟩,
 .row ⟨(some 163),none,.loadN 2 (.t 21)⟩,
 .row ⟨(some 164),none,.lookup E7 .nils false (.t 162) (.t 163)⟩,
 .row ⟨(some 165),none,.mkI t8 (.t 164)⟩,
 .row ⟨(some 166),none,.buildSlice 3 1 [.nili,.nili,.nili] [(0,1,(.t 157)),(1,1,(.t 161)),(2,1,(.t 165))]⟩,
 .stage [⟨(some 164),none,.lookup E7 .nils false (.t 162) (.t 163)⟩,⟨(some 163),none,.loadN 2 (.t 21)⟩,⟨(some 159),none,.load1 (.t 158)⟩,⟨(some 155),none,.load1 (.t 154)⟩],
 .row ⟨(some 167),none,.app 1 16 (.t 153) (.t 166)⟩,
 .row ⟨(some 10),none,.move (.t 167)⟩])))
 (.ops [
 .row ⟨(some 168),none,.bin .add a7 true (.t 149) (.c (.int .i64 1))⟩,
 .row ⟨(some 149),none,.move (.t 168)⟩]))))))
def e0M (ks:List Txt) (s:Txt):List Txt:=if s ∈ ks then ks else ks++[s]
def f0O (ks:List Txt) (l:List Lab):List Txt:=l.foldl (fun ks k=>e0M (e0M ks k.1) k.2) ks
def f0o (ks:List Txt) (l:List (List Lab)):List Txt:=l.foldl f0O ks
theorem r0C (ks:List Txt) (s x:Txt):x ∈ e0M ks s↔x ∈ ks∨x=s:=by
 unfold e0M;split
 ·constructor
  ·exact .inl
  ·rintro (h | rfl) <;> assumption
 ·simp
theorem h0W {ks:List Txt} (h:ks.Nodup) (s:Txt):(e0M ks s).Nodup:=by
 unfold e0M;split
 ·exact h
 ·rename_i hs
  refine List.nodup_append.2 ⟨h,by simp,fun a ha b hb=>?_⟩
  rw [List.mem_singleton.1 hb]
  intro e;subst e;exact hs ha
theorem r0D (ks:List Txt) (s:Txt):(e0M ks s).length≤ks.length+1:=by
 unfold e0M;split <;> simp
theorem r0E:∀ (l:List Lab) (ks:List Txt) (x:Txt),x ∈ f0O ks l↔x ∈ ks∨∃ k ∈ l,x=k.1∨x=k.2
 | [],ks,x=>by simp [f0O]
 | k::l,ks,x=>by
  have:=r0E l (e0M (e0M ks k.1) k.2) x
  simp only [f0O,List.foldl_cons] at this ⊢
  rw [this,r0C,r0C]
  simp only [List.mem_cons,exists_eq_or_imp]
  constructor
  ·rintro (((h | h) | h) | h)
   ·exact .inl h
   ·exact .inr (.inl (.inl h))
   ·exact .inr (.inl (.inr h))
   ·exact .inr (.inr h)
  ·rintro (h | (h | h) | h)
   ·exact .inl (.inl (.inl h))
   ·exact .inl (.inl (.inr h))
   ·exact .inl (.inr h)
   ·exact .inr h
theorem h0X:∀ (l:List Lab) {ks:List Txt},ks.Nodup→(f0O ks l).Nodup
 | [],_,h=>h
 | k::l,ks,h=>h0X l (h0W (h0W h _) _)
theorem r0F:∀ (l:List Lab) (ks:List Txt),(f0O ks l).length≤ks.length+2*l.length
 | [],ks=>by simp [f0O]
 | k::l,ks=>by
  have h1:=r0F l (e0M (e0M ks k.1) k.2)
  have h2:=r0D (e0M ks k.1) k.2
  have h3:=r0D ks k.1
  simp only [f0O,List.foldl_cons,List.length_cons] at h1 ⊢
  omega
theorem r0G:∀ (l:List (List Lab)) (ks:List Txt) (x:Txt),x ∈ f0o ks l↔x ∈ ks∨∃ y ∈ l,∃ k ∈ y,x=k.1∨x=k.2
 | [],ks,x=>by simp [f0o]
 | y::l,ks,x=>by
  have:=r0G l (f0O ks y) x
  simp only [f0o,List.foldl_cons] at this ⊢
  rw [this,r0E]
  simp only [List.mem_cons,exists_eq_or_imp]
  constructor
  ·rintro ((h | h) | h)
   ·exact .inl h
   ·exact .inr (.inl h)
   ·exact .inr (.inr h)
  ·rintro (h | h | h)
   ·exact .inl (.inl h)
   ·exact .inl (.inr h)
   ·exact .inr h
theorem f0p:∀ (l:List (List Lab)) {ks:List Txt},ks.Nodup→(f0o ks l).Nodup
 | [],_,h=>h
 | k::l,ks,h=>f0p l (h0X _ h)
theorem m0K:∀ (l:List (List Lab)) (ks:List Txt),(∀ y ∈ l,y.length≤8)→(f0o ks l).length≤ks.length+16*l.length
 | [],ks,_=>by simp [f0o]
 | y::l,ks,h=>by
  have h1:=m0K l (f0O ks y) (fun z hz=>h z (List.mem_cons_of_mem _ hz))
  have h2:=r0F y ks
  have h3:=h y List.mem_cons_self
  simp only [f0o,List.foldl_cons,List.length_cons] at h1 ⊢
  omega
def U9 (ks:List Txt):List (Txt×AV):=ks.map fun s=>(s,.bool true)
theorem m0L (ks:List Txt):(U9 ks).map (·.1)=ks:=by simp [U9,Function.comp_def]
theorem u0o {g:AH} {m:Nat} {ks:List Txt} (hm:MapO AV.str g m (U9 ks)) (hn:ks.Nodup) (s:Txt) :
  ∃ g',h0u P s8 g (.map m) (.str s) (.bool true)=.ok g'∧MapO AV.str g' m (U9 (e0M ks s))∧g'.next=g.next∧∀ i,i≠m→g'.get i=g.get i:=by
 by_cases hs:s ∈ ks
 ·obtain ⟨n,hn1,hn2⟩:=List.mem_iff_getElem.1 hs
  have ha:(U9 ks)[n]? = some (s,.bool true):=by simp [U9,hn1,hn2]
  have hset:(U9 ks).set n (s,.bool true)=U9 ks:=by
   apply List.ext_getElem?
   intro i
   rw [List.getElem?_set]
   split
   ·rename_i e;subst e
    split
    ·exact ha.symm
    ·rename_i h;simp [U9] at h;omega
   ·rfl
  refine ⟨_,hm.upd_old x0p ha (by rw [m0L];exact hn),?_,rfl,fun i hi=>c8 hi⟩
  rw [hset]
  have:e0M ks s=ks:=by simp [e0M,hs]
  rw [this]
  exact i8 _ _
 ·refine ⟨_,hm.upd_new x0p (by rw [m0L];exact hs),?_,rfl,fun i hi=>c8 hi⟩
  have:U9 (e0M ks s)=U9 ks++[(s,.bool true)]:=by simp [e0M,hs,U9]
  unfold MapO
  rw [this]
  exact i8 _ _
theorem x0q {Q:G9} {σ:Sg} {h0 g0:AH} {m n:Nat} {lv:AV} {ls:List Lab} {ks:List Txt} (h3:σ 3=.map m) (h30:σ 30=lv) (h31:σ 31=.int .i64 (n:Int)) (h32:σ 32=.int .i64 0)
  (hs:Sl h0 2 n lv (ls.flatMap E2)) (hn:n≤8) (hm0:m=h0.next) (f0:Fr h0 g0) (hlt:m<g0.next) (hm:MapO AV.str g0 m (U9 ks)) (hnd:ks.Nodup)
  (hQ:∀ σ' g',(∀ t,t≠7→(t<33∨42<t)→t≠32→σ' t=σ t)→Fr h0 g'→m<g'.next→MapO AV.str g' m (U9 (f0O ks ls))→Q .normal σ' [] g') :
  wpC P SI m0I Q σ [] g0:=by
 have hl:=X9 hs
 simp only [m0I,E0]
 refine m8 (n:=n) (by rfl) (fun j σ' ds g=>ds=[]∧(∀ t,t≠7→(t<33∨42<t)→t≠32→σ' t=σ t)∧Fr h0 g∧m<g.next∧MapO AV.str g m (U9 (f0O ks (ls.take j)))) (by omega) h32 ⟨rfl,fun _ _ _ _=>rfl,f0,hlt,by simpa [f0O] using hm⟩ ?_ ?_ ?_
 ·rintro j σ' ds g ⟨rfl,hσ,_⟩
  simp [hσ 31 (by omega) (by omega) (by omega),h31]
 ·rintro j σ' ds g hj hi ⟨rfl,hσ,fr,hlt',hmg⟩
  obtain ⟨⟨nm,vl⟩,hx⟩:=j7 (l:=ls) (j:=j) (by omega)
  obtain ⟨i1,o1,a1,a2,_⟩:=a0z (hs.fr fr) (k:=.i64) (i:=(j:Int)) rfl hx
  have e3:=(hσ 3 (by omega) (by omega) (by omega)).trans h3
  have e30:=(hσ 30 (by omega) (by omega) (by omega)).trans h30
  have stn:=l6 (h:=g) (n:=2) (z:=[.str [],.str []]) (l:=[.str nm,.str vl]) rfl rfl rfl
  have fp:=Fr.push fr (.cells [.str nm,.str vl] false)
  have ge:(g.push (.cells [.str nm,.str vl] false)).get g.next=some (.cells [.str nm,.str vl] false):=b8 _
  have hm1:MapO AV.str (g.push (.cells [.str nm,.str vl] false)) m (U9 (f0O ks (ls.take j))):=by
   show (g.push _).get m=_
   rw [c7 (by omega)];exact hmg
  have nd1:=h0X (ls.take j) hnd
  obtain ⟨g2,b1,b2,b3,b4⟩:=u0o hm1 nd1 nm
  obtain ⟨g3,c1,c2,c3,c4⟩:=u0o b2 (h0W nd1 nm) vl
  have m0:load1 (g.push (.cells [.str nm,.str vl] false)) g.next 0=.ok (.str nm):=b7 ge
  have m1:load1 (g.push (.cells [.str nm,.str vl] false)) g.next 1=.ok (.str vl):=b7 ge
  have m2:load1 g2 g.next 1=.ok (.str vl):=b7 (id:=g.next) (vs:=[.str nm,.str vl]) (ro:=false) (by rw [b4 _ (by omega)];exact ge)
  simp only [E2] at a2
  simp [hi,e3,e30,a1,a2,s7,stn,m0,m1,m2,b1,c1]
  refine ⟨fun t h1 h2 h3=>?_,⟨?_,fun i hi'=>?_⟩,?_,?_⟩
  ·repeat rw [if_neg (by omega)]
   exact hσ t h1 h2 h3
  ·have:=fp.next;omega
  ·rw [c4 _ (by omega),b4 _ (by omega)];exact fp.get i hi'
  ·rw [c3,b3];exact Nat.lt_succ_of_lt hlt'
  ·have:f0O ks (ls.take (j+1))=e0M (e0M (f0O ks (ls.take j)) nm) vl:=by
    rw [u9 _ _ _ hx];simp [f0O]
   rw [this];exact c2
 ·rintro σ' ds g ⟨rfl,hσ,fr,hlt',hmg⟩
  rw [List.take_of_length_le (by omega)] at hmg
  simp
  exact hQ _ g (fun t h1 h2 h3=>by simp only [Q3];rw [if_neg (by omega)];exact hσ t h1 h2 h3) fr hlt' hmg
end Go.Dk

namespace Go.Dk
open Go Go.Dr
set_option maxRecDepth 100000
theorem y0X {Q:G9} {σ:Sg} {h g0:AH} {m n:Nat} {v:AV} {xs:List (AV×Ep)} (h3:σ 3=.map m) (h23:σ 23=v) (h24:σ 24=.int .i64 (n:Int)) (h25:σ 25=.int .i64 0)
  (hs:Sl h 5 n v (xs.flatMap enC)) (hn:n≤100000) (he:∀ x ∈ xs,EnOk h x∧x.2.ls.length≤8) (hm0:m=h.next) (f0:Fr h g0) (hlt:m<g0.next) (hm:MapO AV.str g0 m (U9 []))
  (hQ:∀ σ' g',(∀ t,t≠5→t≠7→(t<25∨43<t)→σ' t=σ t)→Fr h g'→m<g'.next→MapO AV.str g' m (U9 (f0o [] (xs.map (·.2.ls))))→Q .normal σ' [] g') :
  wpC P SI o0L Q σ [] g0:=by
 have hl:xs.length=n:=by have:=hs.1;rw [b04] at this;omega
 simp only [o0L,E0]
 refine m8 (n:=n) (by rfl) (fun j σ' ds g=>ds=[]∧(∀ t,t≠5→t≠7→(t<25∨43<t)→σ' t=σ t)∧Fr h g∧m<g.next∧MapO AV.str g m (U9 (f0o [] ((xs.take j).map (·.2.ls))))) (by omega) h25 ⟨rfl,fun _ _ _ _=>rfl,f0,hlt,by simpa [f0o] using hm⟩ ?_ ?_ ?_
 ·rintro j σ' ds g ⟨rfl,hσ,_⟩
  simp [hσ 24 (by omega) (by omega) (by omega),h24]
 ·rintro j σ' ds g hj hi ⟨rfl,hσ,fr,hlt',hmg⟩
  obtain ⟨x,hx⟩:=j7 (l:=xs) (j:=j) (by omega)
  obtain ⟨hok,hl8⟩:=he x (List.mem_of_getElem? hx)
  obtain ⟨id,o,a1,a2,_⟩:=f0K (hs.fr fr) hx
  have okg:=hok.fr fr
  have hlc:=Sl.oneCell okg
  have e3:=(hσ 3 (by omega) (by omega) (by omega)).trans h3
  have e23:=(hσ 23 (by omega) (by omega) (by omega)).trans h23
  have stn:=l6 (h:=g) (n:=5) (z:=[.nils,.int .i64 0,.int .i64 0,.int .i64 0,.int .i64 0]) (l:=enC x) rfl rfl (by simp [enC,d8,hlc.2])
  have fp:=Fr.push (.refl g) (.cells (enC x) false)
  have ge:(g.push (.cells (enC x) false)).get g.next=some (.cells (enC x) false):=b8 _
  have gn:(g.push (.cells (enC x) false)).next=g.next+1:=rfl
  have hm1:MapO AV.str (g.push (.cells (enC x) false)) m (U9 (f0o [] ((xs.take j).map (·.2.ls)))):=by
   show (g.push _).get m=_
   rw [c7 (by omega)];exact hmg
  generalize hg1:g.push (.cells (enC x) false)=g1 at *
  have m0:load1 g1 g.next 0=.ok x.1:=b7 ge
  have lv:b0u x.1=.ok (.int .i64 (x.2.ls.length:Int)):=(okg.fr fp).len
  simp only [Q1]
  simp [hi,e23,a1,s7,a2,stn,m0,lv]
  refine x0q (h0:=h) (m:=m) (n:=x.2.ls.length) (lv:=x.1) (ls:=x.2.ls) (ks:=f0o [] ((xs.take j).map (·.2.ls))) (by simp [e3]) (by simp) (by simp) (by simp) hok hl8 hm0 (fr.trans fp) (by omega) hm1 (f0p _ (by simp)) ?_
  intro σ2 g2 hσ2 f2 hlt2 hm2
  have e25:σ2 25=.int .i64 (j:Int):=by rw [hσ2 25 (by omega) (by omega) (by omega)];simp [hi]
  simp [e25]
  refine ⟨fun t h1 h2 h3=>?_,f2,hlt2,?_⟩
  ·repeat rw [if_neg (by omega)]
   rw [hσ2 t (by omega) (by omega) (by omega)]
   simp only [Q3]
   repeat rw [if_neg (by omega)]
   exact hσ t h1 h2 h3
  ·have:f0o [] ((xs.take (j+1)).map (·.2.ls))=f0O (f0o [] ((xs.take j).map (·.2.ls))) x.2.ls:=by
    rw [u9 _ _ _ hx];simp [f0o]
   rw [← List.map_take,this];exact hm2
 ·rintro σ' ds g ⟨rfl,hσ,fr,hlt',hmg⟩
  rw [List.take_of_length_le (by omega)] at hmg
  simp
  exact hQ _ g (fun t h1 h2 h3=>by simp only [Q3];rw [if_neg (by omega)];exact hσ t h1 h2 h3) fr hlt' hmg
inductive It where
 | t (s:Txt)
 | w (n:Int) (k:Nat)
 | p (l:List Nat)
def nv (l:List Nat):List AV:=l.map fun n:Nat=>.int .i64 (n:Int)
def OkI (h:AH) (v:AV):It→Prop
 | .t s=>v=.iface H4 (.str s)
 | .w n k=>v=.iface l8 (.agg [.int .i64 n,.int .i64 (k:Int)])
 | .p l=>∃ u,v=.iface t8 u∧Sl h 1 l.length u (nv l)
theorem OkI.fr {h g:AH} (f:Fr h g) {v:AV}:∀ {i:It},OkI h v i→OkI g v i
 | .t _,e=>e
 | .w _ _,e=>e
 | .p _,⟨u,e,s⟩=>⟨u,e,s.fr f⟩
def wA (n k:Int):AV:=.iface l8 (.agg [.int .i64 n,.int .i64 k])
def tA (s:Txt):AV:=.iface H4 (.str s)
def e0m (T:List Txt):List (Txt×AV):=T.zipIdx.map fun x=>(x.1,.int .i64 (x.2:Int))
theorem j0P (T:List Txt):(e0m T).map (·.1)=T:=by
 simp [e0m,Function.comp_def]
theorem r0b {T:List Txt} {i:Nat} {s:Txt} (h:T[i]? = some s):(e0m T)[i]? = some (s,.int .i64 (i:Int)):=by
 simp [e0m,h]
theorem v0u (T:List Txt) (s:Txt):e0m (T++[s])=e0m T++[(s,.int .i64 (T.length:Int))]:=by
 simp [e0m,List.zipIdx_append]
theorem y0Y {Q:G9} {σ:Sg} {h g0:AH} {m n:Nat} {u ov:AV} {T:List Txt} {os:List AV} (h9:σ 9=.map m) (h53:σ 53=u) (h54:σ 54=.int .i64 (n:Int)) (h55:σ 55=.int .i64 0) (h10:σ 10=ov)
  (hs:Sl h 1 n u (tx T)) (hn:n≤2 ^ 29) (hnd:T.Nodup) (hm0:m=h.next) (f0:Fr h g0) (hm:MapO AV.str g0 m (e0m [])) (ho:Own (h.next+1) g0 1 os.length ov os) (hol:os.length≤2 ^ 29) (hlt:m<g0.next)
  (hQ:∀ σ' g' ov',σ' 10=ov'→(∀ t,t≠10→t≠11→t≠12→(t<55∨68<t)→σ' t=σ t)→Fr h g'→m<g'.next→MapO AV.str g' m (e0m T)→Own (h.next+1) g' 1 (os.length+T.length) ov' (os++T.map tA)→Q .normal σ' [] g') :
  wpC P SI o0M Q σ [] g0:=by
 have hl:T.length=n:=by have:=hs.1;simp [tx] at this;omega
 simp only [o0M,E0]
 refine m8 (n:=n) (by rfl) (fun j σ' ds g=>ds=[]∧(∀ t,t≠10→t≠11→t≠12→(t<55∨68<t)→σ' t=σ t)∧Fr h g∧m<g.next∧MapO AV.str g m (e0m (T.take j))∧Own (h.next+1) g 1 (os.length+j) (σ' 10) (os++(T.take j).map tA)) (by omega) h55
  ⟨rfl,fun _ _ _ _ _=>rfl,f0,hlt,by simpa using hm,by simpa [h10] using ho⟩ ?_ ?_ ?_
 ·rintro j σ' ds g ⟨rfl,hσ,_⟩
  simp [hσ 54 (by omega) (by omega) (by omega) (by omega),h54]
 ·rintro j σ' ds g hj hi ⟨rfl,hσ,fr,hlt',hmg,hog⟩
  obtain ⟨s,hx⟩:=j7 (l:=T) (j:=j) (by omega)
  obtain ⟨id,o,a1,a2,_⟩:=(hs.fr fr).get1 (k:=.i64) (i:=(j:Int)) rfl hj (x:=.str s) (by simp [tx,hx])
  have e9:=(hσ 9 (by omega) (by omega) (by omega) (by omega)).trans h9
  have e53:=(hσ 53 (by omega) (by omega) (by omega) (by omega)).trans h53
  have hns:s ∉ (e0m (T.take j)).map (·.1):=by
   rw [j0P]
   intro hin
   obtain ⟨i,hi1,hi2⟩:=List.mem_iff_getElem.1 hin
   rw [List.getElem_take] at hi2
   have hij:i<j:=by rw [List.length_take] at hi1;omega
   have:=(List.getElem?_inj (show i<T.length by omega) hnd).1 (show T[i]? = T[j]? by rw [hx,List.getElem?_eq_getElem (by omega),hi2])
   omega
  have up:=hmg.upd_new x0p (v:=.int .i64 (j:Int)) hns
  have hlk:e0m (T.take (j+1))=e0m (T.take j)++[(s,.int .i64 (j:Int))]:=by
   rw [u9 _ _ _ hx,v0u,List.length_take,Nat.min_eq_left (by omega)]
  rw [← hlk] at up
  obtain ⟨ov,hov⟩:∃ ov,σ' 10=ov:=⟨_,rfl⟩
  rw [hov] at hog
  generalize hg1:g.set m (.map (mk0 0 (kvA AV.str (e0m (T.take (j+1))))) (e0m (T.take (j+1))).length)=g1 at up
  have hm1:MapO AV.str g1 m (e0m (T.take (j+1))):=by rw [← hg1];exact i8 _ _
  have n1:g1.next=g.next:=by rw [← hg1];rfl
  have ho1:Own (h.next+1) g1 1 (os.length+j) ov (os++(T.take j).map tA):=by rw [← hg1];exact hog.set2 _ (hog.ne (by omega))
  obtain ⟨ov',g2,b1,b2,b3,b4,b5⟩:=ho1.snoc2 (bytes:=16) (x:=[tA s]) (by omega) rfl rfl (by omega) (by omega)
  have f2:Fr h g2:=⟨by have:=fr.next;have:=b3.next;omega,fun i hi=>by rw [b3.get i (by omega),← hg1,c8 (by omega)];exact fr.get i hi⟩
  simp only [tA] at b1
  simp [hi,e9,e53,hov,a1,a2,up,i9,b1]
  refine ⟨fun t h1 h2 h3 h4=>?_,f2,?_,?_,?_⟩
  ·repeat rw [if_neg (by omega)]
   exact hσ t h1 h2 h3 h4
  ·have:=b3.next;omega
  ·show g2.get m=_
   rw [b3.get m (by omega)];exact hm1
  ·rw [← List.map_take,u9 _ _ _ hx,List.map_append,← List.append_assoc]
   exact b2
 ·rintro σ' ds g ⟨rfl,hσ,fr,hlt',hmg,hog⟩
  rw [List.take_of_length_le (by omega)] at hmg hog
  rw [← hl] at hog
  simp
  exact hQ _ g (σ' 10) (by simp) (fun t h1 h2 h3 h4=>by simp only [Q3];rw [if_neg (by omega)];exact hσ t h1 h2 h3 h4) fr hlt' hmg hog
end Go.Dk

namespace Go.Dk
open Go Go.Dr
set_option maxRecDepth 100000
theorem o0G {h:AH} {n:Nat} {v:AV} {xs:List (AV×Ep)} (s:Sl h 5 n v (xs.flatMap enC)) (hn:n≤2 ^ 40) (he:∀ x ∈ xs,EnOk h x∧X0 x.2.ls∧x.2.ls.length<2 ^ 62) :
  Ev P SI (.fn d0F) [v] h fun r g=>r=.bool (W9 (xs.map (·.2)))∧Fr h g:=by
 refine k8 q08 rfl rfl ?_
 have hl:xs.length=n:=by have:=s.1;rw [b04] at this;omega
 simp [k0z,s.len]
 refine m8 (n:=n) (by rfl) (fun j σ ds g=>ds=[]∧σ 0=v∧σ 7=v∧σ 8=.int .i64 (n:Int)∧Fr h g∧∃ pos,σ 3=.int .i64 pos∧CanJ xs j pos) (by omega) (by simp)
  ⟨rfl,by simp,by simp,by simp,.refl _,0,by simp,rfl⟩ (fun j σ ds g hJ=>by simp [hJ.2.2.2.1]) ?_ ?_
 ·rintro j σ ds g hj hi ⟨rfl,e0,e7,e8,fr,pos,e3,hJ⟩
  obtain ⟨x,hx⟩:=j7 (l:=xs) (j:=j) (by omega)
  obtain ⟨hok,hsh,hll⟩:=he x (List.mem_of_getElem? hx)
  obtain ⟨id,o,a1,a2,_⟩:=f0K (s.fr fr) hx
  have okg:=hok.fr fr
  have hlc:=Sl.oneCell okg
  have stn:=l6 (h:=g) (n:=5) (z:=[.nils,.int .i64 0,.int .i64 0,.int .i64 0,.int .i64 0]) (l:=enC x) rfl rfl (by simp [enC,d8,hlc.2])
  have fp:=Fr.push (.refl g) (.cells (enC x) false)
  have ge:(g.push (.cells (enC x) false)).get g.next=some (.cells (enC x) false):=b8 _
  have gn:(g.push (.cells (enC x) false)).next=g.next+1:=rfl
  generalize hg1:g.push (.cells (enC x) false)=g1 at *
  have ok1':=okg.fr fp
  have m0:load1 g1 g.next 0=.ok x.1:=b7 ge
  have hstep:=hJ.step hx
  simp [e7,hi,a1,s7,a2,stn,m0]
  refine (g07 ok1' hsh).mono ?_
  rintro r g2 ⟨rfl,f2⟩
  have ge2:=f2.get g.next (by omega)
  rw [ge] at ge2
  have F2:=(fr.trans fp).trans f2
  have m0:load1 g2 g.next 0=.ok x.1:=b7 ge2
  have m1:load1 g2 g.next 1=.ok (.int .i64 x.2.pl):=b7 ge2
  have m2:load1 g2 g.next 2=.ok (.int .i64 x.2.sz):=b7 ge2
  have m3:load1 g2 g.next 3=.ok (.int .i64 x.2.mn):=b7 ge2
  have m4:load1 g2 g.next 4=.ok (.int .i64 x.2.mx):=b7 ge2
  have no:ok1 pos x.2=false→W9 (xs.map (·.2))=false:=fun h=>l0w (by rw [hstep,h];rfl)
  cases c1:R9 x.2.ls with
  | false =>
   have:=no (by simp [ok1,c1])
   simp [this]
   exact F2
  | true =>
  by_cases c2:x.2.mn≤x.2.mx
  case neg =>
   have:=no (by simp [ok1,c2])
   have c2':x.2.mx<x.2.mn:=by omega
   simp [m3,m4,c2',this]
   exact F2
  have c2':¬ x.2.mx<x.2.mn:=by omega
  by_cases c3:1≤x.2.sz
  case neg =>
   have:=no (by simp [ok1,c3])
   have c3':x.2.sz<1:=by omega
   simp [m2,m3,m4,c2',c3',this]
   exact F2
  have c3':¬ x.2.sz<1:=by omega
  by_cases c4:x.2.sz≤2147483647
  case neg =>
   have:=no (by simp [ok1,c4])
   have c4':2147483647<x.2.sz:=by omega
   simp [m2,m3,m4,c2',c3',c4',this]
   exact F2
  have c4':¬ 2147483647<x.2.sz:=by omega
  by_cases c5:x.2.pl=pos
  case neg =>
   have:=no (by simp [ok1,c5])
   simp [m1,m2,m3,m4,e3,c2',c3',c4',c5,this]
   exact F2
  have hok1:ok1 pos x.2=true:=by simp [ok1,c1,c2,c3,c4,c5]
  by_cases hj0:j=0
  ·subst hj0
   have hnx:=hJ.next hx hok1 (by simp [e0y,W8])
   simp [m1,m2,m3,m4,e3,c2',c3',c4',c5,e0,e7,e8,hi]
   exact ⟨F2,hnx⟩
  obtain ⟨i,rfl⟩:∃ i,j=i+1:=⟨j - 1,by omega⟩
  obtain ⟨y,hy⟩:=j7 (l:=xs) (j:=i) (by omega)
  obtain ⟨hoky,_,hlly⟩:=he y (List.mem_of_getElem? hy)
  have hpv:e0y xs (i+1)=some y.2:=by simp [e0y,hy]
  rw [hpv] at hstep
  obtain ⟨idy,oy,b1,b2,_⟩:=f0K (s.fr F2) hy
  have okgy:=hoky.fr F2
  obtain ⟨_,_,b1',_,b3,_,b5,_⟩:=f0K (s.fr F2) hy
  rw [b1] at b1'
  cases b1'
  have hlcy:=Sl.oneCell okgy
  have hsy:=Sl.same okgy
  have hsx:=Sl.same okg
  have hpos:(0:Int)<((i+1:Nat):Int):=by omega
  have w1:b9 .i64 (((i+1:Nat):Int) - 1)=(i:Int):=by rw [wrap_i64 (by omega) (by omega)];omega
  have w1':b9 .i64 (i:Int)=(i:Int):=wrap_i64 (by omega) (by omega)
  have cmp:=b0H okgy ((okg.fr fp).fr f2) hlly hll
  have hne:¬ ((i:Int)+1=0):=by omega
  have F4:=F2
  have no2:W8 (some y.2) x.2=false→W9 (xs.map (·.2))=false:=fun h=>l0w (by rw [hstep,h];simp)
  generalize hcm:O9 y.2.ls x.2.ls=cm at *
  have hjc:((i+1:Nat):Int)≠0:=by omega
  by_cases d1:0<cm
  ·have:=no2 (by simp [W8,hcm,d1])
   simp [m0,m1,m2,m3,m4,e3,c2',c3',c4',c5,e0,e7,e8,hi,hne,w1,w1',b1,b3,b5,cmp,hsy,hsx,d1,this]
   exact F4
  ·by_cases d2:cm=0
   ·by_cases d3:x.2.mn≤y.2.mx
    ·have:=no2 (by simp [W8,hcm,d2,d3])
     simp [m0,m1,m2,m3,m4,e3,c2',c3',c4',c5,e0,e7,e8,hi,hne,w1,w1',b1,b3,b5,cmp,hsy,hsx,d2,d3,this]
     exact F4
    ·have hnx:=hJ.next hx hok1 (by rw [hpv];simp [W8,hcm,d2,d3])
     simp [m0,m1,m2,m3,m4,e3,c2',c3',c4',c5,e0,e7,e8,hi,hne,w1,w1',b1,b3,b5,cmp,hsy,hsx,d2,d3]
     exact ⟨F4,hnx⟩
   ·have hnx:=hJ.next hx hok1 (by rw [hpv];simp [W8,hcm,d1,d2])
    simp [m0,m1,m2,m3,m4,e3,c2',c3',c4',c5,e0,e7,e8,hi,hne,w1,w1',b1,b3,b5,cmp,hsy,hsx,d1,d2]
    exact ⟨F4,hnx⟩
 ·rintro σ ds g ⟨rfl,e0,e7,e8,fr,pos,e3,hJ⟩
  have:c0e 0 none (xs.map (·.2))=true:=by rw [hJ,List.drop_of_length_le (by omega)];rfl
  have hc:W9 (xs.map (·.2))=decide ((n:Int)≤100000):=by
   simp only [W9,this,Bool.true_and,List.length_map,hl]
   congr 1
   simp only [eq_iff_iff]
   omega
  simp [e0,s.len,hc]
  exact fr
end Go.Dk

namespace Go.Dk
open Go Go.Dr
set_option maxRecDepth 100000
def AccI (B:Nat) (g:AH) (acc:AV) (xs:List (AV×Ep)):Prop :=
 Own B g 5 xs.length acc (xs.flatMap enC)∧∀ x ∈ xs,EnOk g x∧(∀ i,j9 x.1=some i→B≤i∧j9 acc≠some i)∧X0 x.2.ls∧x.2.ls.length<2 ^ 62
theorem AccI.nil (B:Nat) (g:AH):AccI B g .nils []:=⟨Own.nil _ _,fun x hx=>by simp at hx⟩
theorem AccI.fr {B:Nat} {g g':AH} {acc:AV} {xs:List (AV×Ep)} (a:AccI B g acc xs) (f:Fr g g'):AccI B g' acc xs :=
 ⟨a.1.fr f,fun x hx=>⟨(a.2 x hx).1.fr f,(a.2 x hx).2⟩⟩
theorem AccI.frX {B id:Nat} {g g':AH} {acc:AV} {xs:List (AV×Ep)} (a:AccI B g acc xs) (f:FrX id g g') (hid:id<B):AccI B g' acc xs :=
 ⟨Own.frX a.1 f hid,fun x hx=>⟨Sl.frX (a.2 x hx).1 f (fun e=>by have:=((a.2 x hx).2.1 _ e).1;omega),(a.2 x hx).2⟩⟩
theorem AccI.set {B j:Nat} {g:AH} {acc:AV} {xs:List (AV×Ep)} (a:AccI B g acc xs) (o:AObj) (h1:j9 acc≠some j) (h2:∀ x ∈ xs,j9 x.1≠some j):AccI B (g.set j o) acc xs :=
 ⟨a.1.set _ h1,fun x hx=>⟨Sl.setX (a.2 x hx).1 _ (h2 x hx),(a.2 x hx).2⟩⟩
theorem AccI.snoc {B:Nat} {g:AH} {acc:AV} {xs:List (AV×Ep)} (a:AccI B g acc xs) (hB:B≤g.next) {x:AV×Ep} (hx:EnOk g x) (hf:∀ i,j9 x.1=some i→B≤i∧j9 acc≠some i) (hs:X0 x.2.ls) (hl:x.2.ls.length<2 ^ 62) (hn:xs.length≤2 ^ 30) :
  ∃ v' g',H6 5 56 acc (.slice g.next 0 1 1 true 5) (g.push (.cells (enC x) false))=okV v' g'∧AccI B g' v' (xs++[x])∧FrB B g g'∧(∀ i,i<g.next→j9 acc≠some i→g'.get i=g.get i)∧(∀ i,j9 v'=some i→j9 acc=some i∨g.next<i):=by
 have hc:=Sl.oneCell hx
 obtain ⟨v',g',e,o,f,p1,p2⟩:=a.1.snoc2 (x:=enC x) (bytes:=56) hB rfl (by simp [enC,d8,hc.2]) (by omega) (by omega)
 have keep:∀ y:AV×Ep,EnOk g y→(∀ i,j9 y.1=some i→B≤i∧j9 acc≠some i)→EnOk g' y∧(∀ i,j9 y.1=some i→B≤i∧j9 v'≠some i):=by
  intro y hy hyf
  refine ⟨⟨hy.1,?_⟩,fun i hi=>⟨(hyf i hi).1,fun e=>?_⟩⟩
  ·rcases hy.2 with e | ⟨i,off,cap,z,vs,ro,e1,e2,e3,e4,e5,e6⟩
   ·exact .inl e
   ·exact .inr ⟨i,off,cap,z,vs,ro,e1,Nat.lt_of_lt_of_le e2 f.next,e3,by rw [p1 i e2 (hyf i (by rw [e1];rfl)).2];exact e4,e5,e6⟩
  ·rcases p2 i e with e | e
   ·exact (hyf i hi).2 e
   ·have:=Sl.idLt hy hi;omega
 refine ⟨v',g',e,⟨?_,fun y hy=>?_⟩,f,p1,p2⟩
 ·rw [List.length_append,List.flatMap_append]
  simpa using o
 ·rcases List.mem_append.1 hy with h | h
  ·obtain ⟨h1,h2⟩:=keep y (a.2 y h).1 (a.2 y h).2.1
   exact ⟨h1,h2,(a.2 y h).2.2⟩
  ·simp at h
   subst h
   obtain ⟨h1,h2⟩:=keep y hx hf
   exact ⟨h1,h2,hs,hl⟩
def A0v (B id e:Nat) (b0:List Nat) (q:Nat) (acc ok:AV) (g:AH):Prop :=
 ∃ xs,AccI B g acc xs∧xs.length≤2 ^ 29∧e<g.next∧B≤e∧j9 acc≠some e∧(∀ x ∈ xs,j9 x.1≠some e) ∧
  ((ok=.bool false∧∃ v n b at',CurO g id v n b at' (!(ents b0.length 0 b0).2)∧xs.map (·.2)=(ents b0.length 0 b0).1) ∨
   (ok=.bool true∧∃ x v n b at' f,g.get e=some (.cells (enC x) false)∧EnOk g x∧(∀ i,j9 x.1=some i→B≤i∧j9 acc≠some i)∧j9 x.1≠some e∧X0 x.2.ls∧x.2.ls.length<2 ^ 62 ∧
    CurO g id v n b at' false∧n≤2 ^ 20∧at'+n≤2 ^ 20∧(∀ y ∈ b,y<256)∧b.length≤f∧f<q∧xs.length+1+b.length≤b0.length ∧
    xs.map (·.2)++x.2::(ents f at' b).1=(ents b0.length 0 b0).1∧(ents f at' b).2=(ents b0.length 0 b0).2))
theorem k0H {b:List Nat} {l:List Lab} {s:List Smp} {n:Nat} (hb:b.length≤2 ^ 30) (h256:∀ y ∈ b,y<256) (e:G4 b=some (l,s,n)):X0 l∧l.length<2 ^ 62∧4≤n∧n≤b.length:=by
 obtain ⟨h1,h2,_,h3⟩ | h:=h0T e
 rotate_left
 ·omega
 refine ⟨h3,?_,h1,h2⟩
 unfold G4 at e
 split at e
 ·cases e
 ·unfold d06 at e
  split at e
  ·cases e
  ·split at e
   ·cases e
   ·rename_i l' rest hd
    split at e
    ·cases e
    ·split at e
     ·cases e
     ·cases e
      have hcm:∀ y ∈ (List.take (beV (List.take 4 b)) (List.drop 4 b)),y<256:=fun y hy=>h256 y (List.mem_of_mem_drop (List.mem_of_mem_take hy))
      generalize (List.take (beV (List.take 4 b)) (List.drop 4 b))=c at *
      cases c with
      | nil=>cases hd
      | cons k r =>
       simp only [f0h] at hd
       cases hl:R0 k r with
       | none=>rw [hl] at hd;cases hd
       | some p =>
        rw [hl] at hd
        simp only at hd
        split at hd
        ·cases hd
         obtain ⟨q1,q2,q3,q4⟩:=e0H hl
         have:=hcm k (by simp)
         omega
        ·cases hd
theorem r0u {B id e f:Nat} {b0:List Nat} {g g2:AH} {acc:AV} {xs:List (AV×Ep)} {v:AV} {n:Nat} {b:List Nat} {at':Nat} {r:AV}
  (ha:AccI B g acc xs) (hu:CurO g id v n b at' false) (hxl:xs.length+b.length≤b0.length) (hb0:b0.length≤2 ^ 20) (hat:at'+n≤2 ^ 20) (h256:∀ y ∈ b,y<256) (hbf:b.length≤f) (hBg:B≤g.next)
  (hrel:xs.map (·.2)++(ents f at' b).1=(ents b0.length 0 b0).1∧(ents f at' b).2=(ents b0.length 0 b0).2) (hr:r0t g id n b at' r g2) :
  ∃ c s ok,r=.tuple [.agg c,s,.bool ok]∧c.length=5∧d8 c=true∧FrX id g g2∧∀ g3,g3.get e=some (.cells c false)→AccI B g3 acc xs→e<g3.next→B≤e→j9 acc≠some e→(∀ x ∈ xs,j9 x.1≠some e) →
   (∀ (v:AV) (n:Nat) (b:List Nat) (at':Nat) (bad:Bool),CurO g2 id v n b at' bad→CurO g3 id v n b at' bad)→(∀ x,EnOk g2 x→j9 x.1≠some e→EnOk g3 x)→(∀ i,g.next≤i→i<g2.next→i≠e)→A0v B id e b0 f acc (.bool ok) g3:=by
 obtain ⟨fx,hr⟩:=hr
 have hbl:b.length=n:=by have:=hu.sl.1;simpa using this
 by_cases hbn:b=[]
 ·rw [if_pos hbn] at hr
  obtain ⟨rfl,v2,hu2⟩:=hr
  refine ⟨_,_,_,rfl,rfl,rfl,fx,fun g3 _ h2 h3 h4 h5 h6 h7 h8 h9=>⟨xs,h2,by omega,h3,h4,h5,h6,.inl ⟨rfl,v2,n,b,at',?_,?_⟩⟩⟩
  ·subst hbn
   have:(ents f at' []).2=true:=by cases f <;> simp [ents]
   rw [← hrel.2,this]
   exact h7 _ _ _ _ _ hu2
  ·subst hbn
   have:(ents f at' []).1=[]:=by cases f <;> simp [ents]
   rw [← hrel.1,this,List.append_nil]
 rw [if_neg hbn] at hr
 obtain ⟨f',rfl⟩:∃ f',f=f'+1:=⟨f - 1,by have:b.length≠0:=fun h=>hbn (List.length_eq_zero_iff.1 h);omega⟩
 rw [ents,if_neg hbn] at hrel
 cases hc:G4 b with
 | none =>
  rw [hc] at hr hrel
  simp only at hr hrel
  obtain ⟨rfl,v2,hu2⟩:=hr
  refine ⟨_,_,_,rfl,rfl,rfl,fx,fun g3 _ h2 h3 h4 h5 h6 h7 h8 h9=>⟨xs,h2,by omega,h3,h4,h5,h6,.inl ⟨rfl,v2,n,b,at',?_,?_⟩⟩⟩
  ·rw [← hrel.2]
   exact h7 _ _ _ _ _ hu2
  ·rw [← hrel.1,List.append_nil]
 | some p =>
  obtain ⟨l,s,m⟩:=p
  rw [hc] at hr hrel
  simp only at hr hrel
  obtain ⟨lv,sv,v2,rfl,hok,hlvf,hu2⟩:=hr
  obtain ⟨hsh,hll,hm4,hmb⟩:=k0H (by omega) h256 hc
  have hlc:=Sl.oneCell hok
  refine ⟨_,_,_,rfl,rfl,by simp [enC,d8,hlc.2],fx,fun g3 h1 h2 h3 h4 h5 h6 h7 h8 h9=>?_⟩
  have hid:∀ i,j9 lv=some i→g.next≤i∧i<g2.next:=fun i hi=>⟨hlvf i hi,Sl.idLt hok hi⟩
  have hne:j9 lv≠some e:=fun hi=>h9 e (hid e hi).1 (hid e hi).2 rfl
  refine ⟨xs,h2,by omega,h3,h4,h5,h6,.inr ⟨rfl,_,v2,n - m,b.drop m,at'+m,f',h1,h8 _ hok hne,fun i hi=>⟨by have:=(hid i hi).1;omega,fun e2=>?_⟩,hne,hsh,hll,h7 _ _ _ _ _ hu2,by omega,by omega,fun y hy=>h256 y (List.mem_of_mem_drop hy),by simp;omega,by omega,by simp;omega,hrel.1,hrel.2⟩⟩
  have h10:=Sl.idLt ha.1.sl e2
  have:=(hid i hi).1
  omega
def BuildK (h:AH) (b:List Nat) (r:AV) (g:AH):Prop :=
 Fr h g∧if (ents b.length 0 b).2=true∧W9 (ents b.length 0 b).1=true then
   ∃ (v:AV) (xs:List (AV×Ep)),r=.tuple [v,.int .i64 0]∧xs.map (·.2)=(ents b.length 0 b).1∧Sl g 5 xs.length v (xs.flatMap enC)∧xs.length≤2 ^ 29∧∀ x ∈ xs,EnOk g x∧X0 x.2.ls∧x.2.ls.length<2 ^ 62
  else r=.tuple [.nils,.int .i64 5]
theorem CurO.set {h:AH} {id j:Nat} {v:AV} {n:Nat} {b:List Nat} {at':Nat} {bad:Bool} (u:CurO h id v n b at' bad) (o:AObj) (hj:id<j):CurO (h.set j o) id v n b at' bad :=
 ⟨by rw [c8 (by omega),u.cells],u.lt,Sl.setX u.sl _ (fun e=>by have:=u.lo _ e;omega),u.lo⟩
theorem CurO.frB {h g:AH} {B id:Nat} {v:AV} {n:Nat} {b:List Nat} {at':Nat} {bad:Bool} (u:CurO h id v n b at' bad) (f:FrB B h g) (hid:id<B):CurO g id v n b at' bad:=by
 refine ⟨by rw [f.get _ hid,u.cells],Nat.lt_of_lt_of_le u.lt f.next,⟨u.sl.1,?_⟩,u.lo⟩
 rcases u.sl.2 with e | ⟨i,off,cap,x,vs,ro,e1,e2,e3,e4,e5,e6⟩
 ·exact .inl e
 ·exact .inr ⟨i,off,cap,x,vs,ro,e1,Nat.lt_of_lt_of_le e2 f.next,e3,by rw [f.get i (by have:=u.lo i (by rw [e1];rfl);omega)];exact e4,e5,e6⟩
end Go.Dk

namespace Go.Dk
open Go Go.Dr
set_option maxRecDepth 100000
theorem A0C {g:AH} {e:Nat} {l5 c:List AV} (hg:g.get e=some (.cells l5 false)) (h5:l5.length=5) (hc:c.length=5) (hs:d8 c=true):J2 5 (.ptr e 0) (.agg c) g=V0 (.ok (g.set e (.cells c false))):=by
 rw [a0K 5 _ _ c hc]
 cases c with
 | nil=>simp at hc
 | cons x l=>rw [c09 hg (by rw [h5];exact hc.symm) hs]
theorem r0L {h:AH} {n:Nat} {v:AV} {b:List Nat} (s:Sl h 1 n v (by8 b)) (hn:n≤2 ^ 20) (hb:∀ x ∈ b,x<256) (ht:TabIn h):Ev P SI (.fn e0e) [v] h (BuildK h b):=by
 refine k8 n0Y rfl rfl ?_
 have hbl:b.length=n:=by have:=s.1;simpa using this
 simp [h0y]
 refine (t0k s (by omega)).mono ?_
 rintro r g ⟨id,u,rfl,hid,hu,f1⟩
 simp
 refine (m0B hu (by omega) (by omega) hb (ht.fr f1)).mono ?_
 rintro r g2 hr
 obtain ⟨B,hB⟩:∃ B,B=g.next:=⟨_,rfl⟩
 have hidB:id<B:=by have:=hu.lt;omega
 obtain ⟨c,sv,ok,rfl,hc5,hcs,fx,hlay⟩:=r0u (B:=B) (e:=g2.next) (f:=b.length) (b0:=b) (xs:=[]) (acc:=.nils) (AccI.nil _ _) hu (by simp) (by omega) (by omega) hb (Nat.le_refl _) (by omega) ⟨by simp,rfl⟩ hr
 have f2:=Fr.push (.refl g2) (.cells c false)
 have hB2:B≤g2.next:=by have:=fx.next;omega
 have I0:=hlay (g2.push (.cells c false)) (b8 _) (AccI.nil _ _) (Nat.lt_succ_self _) hB2 (by simp [j9]) (fun x hx=>by simp at hx) (fun _ _ _ _ _ u=>u.fr f2) (fun x hx _=>EnOk.fr hx f2) (fun i h1 h2=>by omega)
 have stn:=l6 (h:=g2) (n:=5) (z:=[.nils,.int .i64 0,.int .i64 0,.int .i64 0,.int .i64 0]) (l:=c) rfl hc5 hcs
 have F2:Fr h (g2.push (.cells c false)):=⟨Nat.le_trans f1.next (Nat.le_trans fx.next f2.next),fun i hi=>by rw [f2.get i (by have:=f1.next;have:=fx.next;omega),fx.get i (by have:=f1.next;omega) (by omega),f1.get i hi]⟩
 simp [stn]
 generalize hg3:g2.push (.cells c false)=g3 at *
 generalize he0:g2.next=e0 at *
 refine D3 (Q:=fun x σ ds g=>x=.exit 0∧ds=[]∧σ 4=.ptr id 0∧Fr h g∧∃ e q,A0v B id e b q (σ 5) (.bool false) g) ?_ ?_
 ·refine M5 (fun q σ ds g=>ds=[]∧σ 4=.ptr id 0∧Fr h g∧∃ e,σ 6=.ptr e 0∧A0v B id e b q (σ 5) (σ 8) g) b.length ⟨rfl,by simp,F2,e0,by simp,by simpa using I0⟩ ?_
  rintro q σ ds g ⟨rfl,e4,F,e,e6,xs,ha,hxl,he,hBe,hae,hxe,hcase⟩
  generalize h5:σ 5=acc at *
  rcases hcase with ⟨ok8,v2,n2,b2,at2,hu2,hxs⟩ | ⟨ok8,x,v2,n2,b2,at2,f,hge,hx,hxf,hxne,hsh,hll,hu2,hn2,hat2,h256,hbf,hfq,hlen,hrel⟩
  ·simp [ok8,e4,h5]
   exact ⟨F,e,q,xs,ha,hxl,he,hBe,hae,hxe,.inl ⟨rfl,v2,n2,b2,at2,hu2,hxs⟩⟩
  have hBg:B≤g.next:=by omega
  obtain ⟨acc',g4,ap,ha4,fb4,p4,i4⟩:=ha.snoc hBg hx hxf hsh hll (by omega)
  have ld:=A8 hge (n:=5) rfl
  have hu4:=hu2.frB fb4 hidB
  have hge4:g4.get e=some (.cells (enC x) false):=by rw [p4 e he hae,hge]
  have ld4:=A8 hge4 (n:=5) rfl
  have hxlc:=Sl.oneCell hx
  have hcsx:d8 (enC x)=true:=by simp [enC,d8,hxlc.2]
  have stn4:=l6 (h:=g4) (n:=5) (z:=[.nils,.int .i64 0,.int .i64 0,.int .i64 0,.int .i64 0]) (l:=enC x) rfl rfl hcsx
  have f5:=Fr.push (.refl g4) (.cells (enC x) false)
  have ge5:(g4.push (.cells (enC x) false)).get g4.next=some (.cells (enC x) false):=b8 _
  have gn5:(g4.push (.cells (enC x) false)).next=g4.next+1:=rfl
  generalize hg5:g4.push (.cells (enC x) false)=g5 at *
  have hB4:=fb4.next
  have ha5:=ha4.fr f5
  have hu5:=hu4.fr f5
  have F5:Fr h g5:=⟨by have:=F.next;omega,fun i hi=>by rw [f5.get i (by have:=F.next;omega),fb4.get i (by have:=f1.next;omega),F.get i hi]⟩
  have hb2l:b2.length=n2:=by have:=hu2.sl.1;simpa using this
  simp [ok8,h5,e4,e6,s7,ld,i9,show (enC x).length=5 from rfl,ap,ld4,stn4,hg5]
  refine (m0B hu5 (by omega) (by omega) h256 (ht.fr F5)).mono ?_
  rintro r g6 hr6
  have hacc4:j9 acc'≠some g4.next:=fun e=>by have:=Sl.idLt ha4.1.sl e;omega
  obtain ⟨c6,sv6,ok6,rfl,hc6,hs6,fx6,lay6⟩:=r0u (B:=B) (e:=g4.next) (f:=f) (b0:=b) (xs:=xs++[x]) (acc:=acc') ha5 hu5 (by simp;omega) (by omega) hat2 h256 hbf (by omega) ⟨by simpa using hrel.1,hrel.2⟩ hr6
  have ge6:=fx6.get g4.next (by omega) (by omega)
  rw [ge5] at ge6
  have st6:=A0C ge6 rfl hc6 hs6
  have hold:∀ y ∈ xs++[x],j9 y.1≠some g4.next:=fun y hy e=>by
   have:=Sl.idLt (ha4.2 y hy).1 e
   omega
  have I6:=lay6 (g6.set g4.next (.cells c6 false)) (i8 _ _) ((ha5.frX fx6 hidB).set _ hacc4 hold) (by show g4.next<g6.next;have:=fx6.next;omega) (by omega) hacc4 hold
   (fun _ _ _ _ _ u=>u.set _ (by omega)) (fun y hy hne=>Sl.setX hy _ hne) (fun i h1 h2=>by omega)
  simp [e4,st6,l7]
  refine ⟨f,by omega,⟨?_,?_⟩,I6⟩
  ·show h.next≤g6.next
   have:=F5.next
   have:=fx6.next
   omega
  ·intro i hi
   rw [c8 (by have:=f1.next;omega),fx6.get i (by have:=F5.next;omega) (by omega),F5.get i hi]
 ·rintro x σ ds g ⟨rfl,rfl,e4,F,e,q,xs,ha,hxl,he,hBe,hae,hxe,⟨_,v2,n2,b2,at2,hu2,hxs⟩ | ⟨h,_⟩⟩
  rotate_left
  ·cases h
  generalize h5:σ 5=acc at *
  have er:=v0J hu2
  unfold BuildK
  cases hb2:(ents b.length 0 b).2 with
  | false =>
   rw [hb2] at er
   simp [e4,er]
   exact F
  | true =>
   rw [hb2] at er
   simp [e4,er,h5]
   refine (p0h ha.1.sl (by omega) (fun x hx=>⟨(ha.2 x hx).1,(ha.2 x hx).2.2⟩)).mono ?_
   rintro r g2 ⟨rfl,f2⟩
   rw [hxs]
   cases hcn:W9 (ents b.length 0 b).1 with
   | false =>
    simp
    exact F.trans f2
   | true =>
    simp [h5]
    exact ⟨F.trans f2,xs,hxs,ha.1.sl.fr f2,by omega,fun y z hx=>⟨EnOk.fr (ha.2 (y,z) hx).1 f2,(ha.2 (y,z) hx).2.2⟩⟩
end Go.Dk

namespace Go.Dk
open Go Go.Dr
set_option maxRecDepth 100000
theorem Own.keep {B es n:Nat} {g g':AH} {a v:AV} {l:List AV} (s:Own B g es n v l) (hn:g.next≤g'.next) (p:∀ i,i<g.next→j9 a≠some i→g'.get i=g.get i) (h:∀ i,j9 v=some i→j9 a≠some i):Own B g' es n v l:=by
 refine ⟨s.1,?_⟩
 rcases s.2 with e | ⟨i,off,x,vs,e1,e2,e3,e4,e5⟩
 ·exact .inl e
 ·exact .inr ⟨i,off,x,vs,e1,e2,Nat.lt_of_lt_of_le e3 hn,by rw [p i e3 (h i (by rw [e1];rfl))];exact e4,e5⟩
theorem Sl.keep {es n:Nat} {g g':AH} {a v:AV} {l:List AV} (s:Sl g es n v l) (hn:g.next≤g'.next) (p:∀ i,i<g.next→j9 a≠some i→g'.get i=g.get i) (h:∀ i,j9 v=some i→j9 a≠some i):Sl g' es n v l:=by
 refine ⟨s.1,?_⟩
 rcases s.2 with e | ⟨i,off,cap,x,vs,ro,e1,e2,e3,e4,e5,e6⟩
 ·exact .inl e
 ·exact .inr ⟨i,off,cap,x,vs,ro,e1,Nat.lt_of_lt_of_le e2 hn,e3,by rw [p i e2 (h i (by rw [e1];rfl))];exact e4,e5,e6⟩
def D0i (h:AH) (b0:List Nat) (f:Nat) (bv pos acc sacc:AV) (g:AH):Prop :=
 ∃ xs n b at' k sl,Fr h g∧bv=bv∧Sl h 1 n bv (by8 b)∧pos=.int .i64 ((at':Nat):Int)∧at'+n≤2 ^ 20∧(∀ y ∈ b,y<256)∧b.length≤f∧xs.length+b.length≤b0.length ∧
  AccI h.next g acc xs∧Own h.next g 1 k sacc sl∧k≤xs.length∧(∀ i,j9 sacc=some i→j9 acc≠some i)∧(∀ x ∈ xs,∀ i,j9 x.1=some i→j9 sacc≠some i) ∧
  xs.map (·.2)++(ents f at' b).1=(ents b0.length 0 b0).1∧(ents f at' b).2=(ents b0.length 0 b0).2
def D0j (h:AH) (b:List Nat) (r:AV) (g:AH):Prop :=
 Fr h g∧∃ acc xs sacc,r=.tuple [acc,sacc,.int .i64 (if (ents b.length 0 b).2=true then 0 else 5)]∧xs.map (·.2)=(ents b.length 0 b).1∧AccI h.next g acc xs∧xs.length≤2 ^ 20
theorem u05 {h:AH} {n:Nat} {v:AV} {b:List Nat} (s:Sl h 1 n v (by8 b)) (hn:n≤2 ^ 20) (hb:∀ x ∈ b,x<256):Ev P SI (.fn f00) [v,.int .i64 0] h (D0j h b):=by
 refine k8 q0A rfl rfl ?_
 have hbl:b.length=n:=by have:=s.1;simpa using this
 simp [k0l,show min (0:Int) 2147483647=0 from rfl]
 refine D3 (Q:=fun x σ ds g=>ds=[]∧((x=.exit 0∧(ents b.length 0 b).2=true∧∃ xs,Fr h g∧AccI h.next g (σ 7) xs∧xs.map (·.2)=(ents b.length 0 b).1∧xs.length≤2 ^ 20) ∨
   (x=.ret∧∃ acc sacc,σ 4=acc∧σ 5=sacc∧σ 6=.int .i64 5∧(ents b.length 0 b).2=false∧∃ xs,Fr h g∧AccI h.next g acc xs∧xs.map (·.2)=(ents b.length 0 b).1∧xs.length≤2 ^ 20))) ?_ ?_
 rotate_left
 ·rintro x σ ds g ⟨rfl,⟨rfl,h2,xs,F,ha,hx,hl⟩ | ⟨rfl,acc,sacc,e4,e5,e6,h2,xs,F,ha,hx,hl⟩⟩
  ·simp
   exact ⟨F,σ 7,xs,σ 8,by simp [h2],hx,ha,hl⟩
  ·simp [e4,e5,e6]
   exact ⟨F,acc,xs,sacc,by simp [h2],hx,ha,hl⟩
 refine M5 (fun q σ ds g=>ds=[]∧D0i h b q (σ 0) (σ 1) (σ 7) (σ 8) g) b.length ⟨rfl,[],n,b,0,0,[],.refl _,rfl,by simpa using s,by simp,by omega,hb,Nat.le_refl _,by simp,by simpa using AccI.nil _ _,by simpa using Own.nil _ _,by simp,fun i e=>by simp [j9] at e,fun x hx=>by simp at hx,by simp,rfl⟩ ?_
 rintro q σ ds g ⟨rfl,xs,n',b',at',k,sl,F,_,sb,hpos,hat,h256,hbf,hlen,ha,hso,hk,hsa,hxs,hr1,hr2⟩
 generalize h0:σ 0=bv at *
 generalize h1:σ 1=pos at *
 generalize h7:σ 7=acc at *
 generalize h8:σ 8=sacc at *
 have hbl':b'.length=n':=by have:=sb.1;simpa using this
 by_cases hn0:n'=0
 ·have hb0:b'=[]:=List.length_eq_zero_iff.1 (by omega)
  subst hb0
  have e1:(ents q at' []).1=[]:=by cases q <;> simp [ents]
  have e2:(ents q at' []).2=true:=by cases q <;> simp [ents]
  rw [e1,List.append_nil] at hr1
  rw [e2] at hr2
  simp [h0,sb.len,hn0]
  exact ⟨hr2.symm,F,xs,by rw [h7];exact ha,hr1,by omega⟩
 have hbn:b'≠[]:=fun e=>hn0 (by rw [← hbl',e];rfl)
 have hn0':0<n':=by omega
 obtain ⟨f,rfl⟩:∃ f,q=f+1:=⟨q - 1,by omega⟩
 rw [ents,if_neg hbn] at hr1 hr2
 have sg:=sb.fr F
 simp [h0,sg.len,hn0']
 refine (q0Q sg (by omega) h256).mono ?_
 rintro r g2 ⟨f2,hr⟩
 have F2:=F.trans f2
 cases hc:G4 b' with
 | none =>
  rw [hc] at hr hr1 hr2
  simp only at hr hr1 hr2
  subst hr
  simp [h7,h8]
  exact ⟨hr2.symm,F2,xs,ha.fr f2,by simpa using hr1,by omega⟩
 | some p =>
  obtain ⟨l,s2,m⟩:=p
  rw [hc] at hr hr1 hr2
  simp only at hr hr1 hr2
  obtain ⟨lv,sv,rfl,hlo,ss⟩:=hr
  obtain ⟨hsh,hll,hm4,hmb⟩:=k0H (by omega) h256 hc
  obtain ⟨_,_,s0,_⟩ | hbig:=h0T hc
  rotate_left
  ·omega
  obtain ⟨x0,hx0⟩:=j7 (l:=s2) (j:=0) (by omega)
  obtain ⟨x1,hx1⟩:=j7 (l:=s2) (j:=s2.length - 1) (by omega)
  have hmn:mnS s2=x0.1:=by simp only [mnS,hx0]
  have hmx:mxS s2=x1.1:=by simp only [mxS,hx1]
  rw [hmn,hmx] at hr1
  obtain ⟨i0,o0,p0,_,p1,_⟩:=M3 ss hx0
  obtain ⟨i1,o1,q0,_,q1,_⟩:=M3 ss hx1
  have hok:EnOk g2 (lv,⟨l,at',m,x0.1,x1.1⟩):=hlo.sl
  have ha2:=ha.fr f2
  have hlvf:∀ i,j9 lv=some i→g.next≤i:=fun i hi=>by
   by_cases h:i<g.next
   ·exact absurd hi (hlo.ne h)
   ·omega
  obtain ⟨acc',g3,ap,ha3,fb3,pp3,ii3⟩:=ha2.snoc (by have:=F2.next;omega) hok (fun i hi=>⟨by have:=hlvf i hi;have:=F.next;omega,fun e=>by have:=Sl.idLt ha.1.sl e;have:=hlvf i hi;omega⟩) hsh hll (by omega)
  have fz:=Fr.push (.refl g2) (.cells (enC (lv,⟨l,at',m,x0.1,x1.1⟩)) false)
  obtain ⟨i0',o0',p0',_,p1',_⟩:=M3 (ss.fr fz) hx0
  obtain ⟨i1',o1',q0',_,q1',_⟩:=M3 (ss.fr fz) hx1
  rw [p0] at p0'
  cases p0'
  rw [q0] at q0'
  cases q0'
  have hsl:s2.length≤2 ^ 62:=by
   unfold G4 at hc
   split at hc
   ·cases hc
   ·unfold d06 at hc
    split at hc
    ·cases hc
    ·split at hc
     ·cases hc
     ·split at hc
      ·cases hc
      ·split at hc
       ·cases hc
       ·cases hc
        omega
  have wl:b9 .i64 ((s2.length:Int) - 1)=((s2.length - 1:Nat):Int):=by rw [wrap_i64 (by omega) (by omega)];omega
  have wa:b9 .i64 ((at':Int)+(m:Int))=((at'+m:Nat):Int):=by rw [wrap_i64 (by omega) (by omega)];omega
  have p0'':E9 2 sv (.int .i64 0)=.ok (.ptr i0 o0):=p0
  have hso2:=hso.fr f2
  have hso3:Own h.next g3 1 k sacc sl:=Own.keep hso2 fb3.next pp3 (fun i hi=>hsa i hi)
  have hsvc:=ss.oneCell
  obtain ⟨sacc',g4,ap4,hso4,fb4,pp4,ii4⟩:=hso3.snoc2 (x:=[sv]) (bytes:=24) (by have:=F2.next;have:=fb3.next;omega) rfl (by simp [d8,hsvc.2]) (by omega) (by omega)
  obtain ⟨bv',ev',sb'⟩:=sb.slice (lo:=some (.int .i64 (m:Int))) (hi:=none) (a:=m) (b:=n') (.inr ⟨.i64,rfl⟩) (.inl ⟨rfl,rfl⟩) (by omega) (Nat.le_refl _)
  rw [Nat.mul_one,Nat.mul_one,H8,H7,List.take_of_length_le (by simp;omega)] at sb'
  have F4:Fr h g4:=⟨Nat.le_trans F2.next (Nat.le_trans fb3.next fb4.next),fun i hi=>by rw [fb4.get i hi,fb3.get i hi,F2.get i hi]⟩
  have hsacc3:∀ i,j9 sacc=some i→j9 acc'≠some i:=fun i hi e=>by
   rcases ii3 i e with e | e
   ·exact hsa i hi e
   ·have:=Sl.idLt hso2.sl hi;omega
  have hxs3:∀ x ∈ xs++[(lv,(⟨l,at',m,x0.1,x1.1⟩:Ep))],∀ i,j9 x.1=some i→j9 sacc≠some i:=by
   intro x hx i hi e
   rcases List.mem_append.1 hx with h | h
   ·exact hxs x h i hi e
   ·simp at h
    subst h
    have:=hlvf i hi
    have:=Sl.idLt hso.sl e
    omega
  have m0:¬ m=0:=by omega
  have hlc:=hlo.sl.oneCell
  generalize x0.1=mn at *
  generalize x1.1=mx at *
  generalize hs1:s2.length - 1=sl1 at *
  generalize ham:at'+m=am at *
  have hen:enC (lv,⟨l,at',m,mn,mx⟩)=[lv,.int .i64 (at':Int),.int .i64 (m:Int),.int .i64 mn,.int .i64 mx]:=rfl
  rw [hen] at ap p1' q1'
  simp [m0,h0,h1,hpos,h7,h8,p0'',p1,ss.len,wl,q0,q1,i9,hlc.1,hsvc.1,p1',q1',ap,ap4,ev',wa,l7]
  have ha4:AccI h.next g4 acc' (xs++[(lv,⟨l,at',m,mn,mx⟩)]) :=
   ⟨Own.keep ha3.1 fb4.next pp4 (fun i hi e=>hsacc3 i e hi),fun x hx=>⟨Sl.keep (ha3.2 x hx).1 fb4.next pp4 (fun i hi=>hxs3 x hx i hi),(ha3.2 x hx).2⟩⟩
  refine ⟨f,by omega,xs++[(lv,⟨l,at',m,mn,mx⟩)],n' - m,b'.drop m,am,k+1,sl++[sv],F4,rfl,sb',rfl,by omega,fun y hy=>h256 y (List.mem_of_mem_drop hy),by simp;omega,by simp;omega,ha4,hso4,by simp;omega,?_,?_,?_,hr2⟩
  ·intro i hi e
   rcases ii4 i hi with h | h
   ·exact hsacc3 i h e
   ·have:=Sl.idLt ha3.1.sl e;omega
  ·intro x hx i hi e
   rcases ii4 i e with h | h
   ·exact hxs3 x hx i hi h
   ·have:=Sl.idLt (ha3.2 x hx).1 hi;omega
  ·rw [← hr1]
   simp
theorem q0L {h:AH} {n:Nat} {v:AV} {b:List Nat} (s:Sl h 1 n v (by8 b)) (hn:n≤2 ^ 20) (hb:∀ x ∈ b,x<256):Ev P SI (.fn e0h) [v] h (BuildK h b):=by
 refine k8 n03 rfl rfl ?_
 simp [h0A]
 refine (u05 s hn hb).mono ?_
 rintro r g ⟨F,acc,xs,sacc,rfl,hxs,ha,hxl⟩
 unfold BuildK
 cases hb2:(ents b.length 0 b).2 with
 | false =>
  simp
  exact F
 | true =>
  simp
  refine (o0G ha.1.sl (by omega) (fun x hx=>⟨(ha.2 x hx).1,(ha.2 x hx).2.2⟩)).mono ?_
  rintro r g2 ⟨rfl,f2⟩
  rw [hxs]
  cases hcn:W9 (ents b.length 0 b).1 with
  | false =>
   simp
   exact F.trans f2
  | true =>
   simp
   exact ⟨F.trans f2,xs,hxs,ha.1.sl.fr f2,by omega,fun y z hx=>⟨EnOk.fr (ha.2 (y,z) hx).1 f2,(ha.2 (y,z) hx).2.2⟩⟩
end Go.Dk

namespace Go.Dk
open Go Go.Dr
set_option maxRecDepth 100000
structure I3 (B:Nat) (g:AH) (m3:Nat) (ov:AV) (os:List AV) (kvs:List ((Nat×Nat)×AV)) (mm:List ((Nat×Nat)×List Nat)):Prop where
 own:Own B g 1 os.length ov os
 ne:j9 ov≠some m3
 lm:MapO kP g m3 kvs
 lo:B≤m3
 lt:m3<g.next
 keys:kvs.map (·.1)=mm.map (·.1)
 nd:(mm.map (·.1)).Nodup
 vals:∀ (i:Nat) (p:Nat×Nat) (v:AV) (l:List Nat),kvs[i]? = some (p,v)→mm[i]? = some (p,l)→Own B g 1 l.length v (nv l)∧j9 v≠some m3∧∀ id,j9 v=some id→j9 ov≠some id
 dis:∀ (i j:Nat) (p q:Nat×Nat) (v w:AV) (id:Nat),i≠j→kvs[i]? = some (p,v)→kvs[j]? = some (q,w)→j9 v=some id→j9 w≠some id
theorem I3.push {B m3:Nat} {g:AH} {ov:AV} {os:List AV} {kvs:List ((Nat×Nat)×AV)} {mm:List ((Nat×Nat)×List Nat)} (h:I3 B g m3 ov os kvs mm) (o:AObj):I3 B (g.push o) m3 ov os kvs mm:=by
 have f:=Fr.push (.refl g) o
 refine ⟨h.own.fr f,h.ne,?_,h.lo,Nat.lt_succ_of_lt h.lt,h.keys,h.nd,fun i p v l h1 h2=>?_,h.dis⟩
 ·show (g.push o).get m3=_
  rw [f.get _ h.lt];exact h.lm
 ·obtain ⟨a,b,c⟩:=h.vals i p v l h1 h2
  exact ⟨a.fr f,b,c⟩
def Pr (m3 z:Nat) (g:AH) (ov:AV) (kvs:List ((Nat×Nat)×AV)):Prop:=z<g.next∧z≠m3∧j9 ov≠some z∧∀ (i:Nat) (p:Nat×Nat) (v:AV),kvs[i]? = some (p,v)→j9 v≠some z
theorem D0 {B n es:Nat} {g:AH} {v:AV} {l:List AV} (o:Own B g es n v l) {id:Nat} (h:j9 v=some id):B≤id∧id<g.next:=by
 rcases o.2 with ⟨rfl,_⟩ | ⟨i,off,x,vs,rfl,e2,e3,_⟩
 ·cases h
 ·cases h;exact ⟨e2,e3⟩
theorem I3.app {B m3:Nat} {g:AH} {ov:AV} {os ws:List AV} {kvs:List ((Nat×Nat)×AV)} {mm:List ((Nat×Nat)×List Nat)} (h:I3 B g m3 ov os kvs mm) {k:Nat} (hk:ws.length=k) (hs:d8 ws=true) (hb:os.length+k≤2 ^ 30) :
  ∃ v' g',H6 1 16 ov (.slice g.next 0 k k true 1) (g.push (.cells ws false))=okV v' g'∧I3 B g' m3 v' (os++ws) kvs mm∧FrB B g g'∧∀ z,Pr m3 z g ov kvs→Pr m3 z g' v' kvs∧g'.get z=g.get z:=by
 have hp:=h.push (.cells ws false)
 have sx:=(Own.fresh (B:=0) (h:=g) (es:=1) (n:=k) (l:=ws) true (Nat.zero_le _) (by omega)).sl
 obtain ⟨v',g',e,o,f,p,q⟩:=hp.own.append (bytes:=16) sx (by have:=h.lo;have:=h.lt;show B≤g.next+1;omega) hs (by omega) (by omega)
 have hlt:=hp.lt
 have hn:=f.next
 refine ⟨v',g',e,⟨?_,fun hid=>?_,?_,h.lo,by omega,h.keys,h.nd,fun i p' v l h1 h2=>?_,h.dis⟩,((Fr.push (.refl g) _).b (by have:=h.lo;have:=h.lt;omega)).trans f,fun z hz=>?_⟩
 ·rw [List.length_append,hk];exact o
 ·rcases q m3 hid with h1 | h1
  ·exact h.ne h1
  ·omega
 ·show g'.get m3=_
  rw [p m3 hlt h.ne];exact hp.lm
 ·obtain ⟨a,b,c⟩:=hp.vals i p' v l h1 h2
  refine ⟨Own.keep a hn p (fun id hid=>c id hid),b,fun id hid hv'=>?_⟩
  rcases q id hv' with h3 | h3
  ·exact c id hid h3
  ·have:=(D0 a hid).2;omega
 ·obtain ⟨z1,z2,z3,z4⟩:=hz
  have hgn:(g.push (.cells ws false)).next=g.next+1:=rfl
  refine ⟨⟨by omega,z2,fun hid=>?_,z4⟩,?_⟩
  ·rcases q z hid with h1 | h1
   ·exact z3 h1
   ·omega
  ·rw [p z (by omega) z3,c7 (by omega)]
theorem l08:∀ (m:List ((Nat×Nat)×List Nat)) (e:(Nat×Nat)×Nat),e.1 ∉ m.map (·.1)→Q8 m e=m++[(e.1,[e.2])]
 | [],_,_=>rfl
 | x::m,e,h=>by
  simp only [List.map_cons,List.mem_cons,not_or] at h
  have:¬ x.1=e.1:=fun h'=>h.1 h'.symm
  simp only [Q8,this,if_false,l08 m e h.2,List.cons_append]
theorem l09:∀ (m:List ((Nat×Nat)×List Nat)) (p:Nat×Nat) (i n:Nat) (l:List Nat),m[n]? = some (p,l)→(m.map (·.1)).Nodup→Q8 m (p,i)=m.set n (p,l++[i])
 | [],_,_,_,_,h,_=>by simp at h
 | x::m,p,i,0,l,h,_=>by simp at h;subst h;simp [Q8]
 | x::m,p,i,n+1,l,h,hn=>by
  simp only [List.getElem?_cons_succ] at h
  simp only [List.map_cons,List.nodup_cons] at hn
  have hne:¬ x.1=p:=fun e=>hn.1 (by rw [e];exact List.mem_map.2 ⟨(p,l),List.mem_of_getElem? h,rfl⟩)
  simp only [Q8,hne,if_false,List.set_cons_succ,l09 m p i n l h hn.2]
theorem I3.add {B m3:Nat} {g:AH} {ov:AV} {os:List AV} {kvs:List ((Nat×Nat)×AV)} {mm:List ((Nat×Nat)×List Nat)} (h:I3 B g m3 ov os kvs mm) (p:Nat×Nat) (i:Nat) (hlen:∀ (n:Nat) (p:Nat×Nat) (l:List Nat),mm[n]? = some (p,l)→l.length≤2 ^ 30) :
  ∃ v st g1 v' g2 g3 kvs',L9 P E7 .nils (g.push (.cells [.int .i64 (i:Int)] false)) (.map m3) (kP p)=okV (.tuple [v,st]) g1 ∧
   H6 1 8 v (.slice g.next 0 1 1 true 1) g1=okV v' g2∧N7 g2 (.map m3) st v'=.ok g3∧I3 B g3 m3 ov os kvs' (Q8 mm (p,i))∧FrB B g g3∧∀ z,Pr m3 z g ov kvs→Pr m3 z g3 ov kvs'∧g3.get z=g.get z:=by
 have hp:=h.push (.cells [.int .i64 (i:Int)] false)
 have sx:=(Own.fresh (B:=0) (h:=g) (es:=1) (n:=1) (l:=[.int .i64 (i:Int)]) true (Nat.zero_le _) (by simp)).sl
 generalize hgp:g.push (.cells [.int .i64 (i:Int)] false)=gp at *
 have hgn:gp.next=g.next+1:=by rw [← hgp];rfl
 have fp:FrB B g gp:=by rw [← hgp];exact (Fr.push (.refl g) _).b (by have:=h.lo;have:=h.lt;omega)
 have hkl:kvs.length=mm.length:=by have:=congrArg List.length h.keys;simpa using this
 have hndk:(kvs.map (·.1)).Nodup:=by rw [h.keys];exact h.nd
 have hBlo:=h.lo
 have hBlt:=h.lt
 by_cases hin:p ∈ kvs.map (·.1)
 ·
  obtain ⟨n,hn1,hn2⟩:=List.mem_iff_getElem.1 hin
  simp only [List.length_map] at hn1
  obtain ⟨v,hv⟩:∃ v,kvs[n]? = some (p,v):=by
   simp only [List.getElem_map] at hn2
   exact ⟨kvs[n].2,by rw [List.getElem?_eq_getElem hn1,← hn2]⟩
  obtain ⟨l,hl⟩:∃ l,mm[n]? = some (p,l):=by
   have e1:(mm.map (·.1))[n]? = some p:=by rw [← h.keys];simp [hv]
   rw [List.getElem?_map] at e1
   obtain ⟨y,hy,rfl⟩:=Option.map_eq_some_iff.1 e1
   exact ⟨y.2,hy⟩
  have ent:=hp.lm.entry_old y07 (z:=.nils) hv hndk
  generalize hg1:gp.set m3 (.map (mk0 0 (kvA kP kvs)) kvs.length)=g1 at ent
  have n1:g1.next=gp.next:=by rw [← hg1];rfl
  have o1:∀ j,g1.get j=gp.get j:=by
   intro j
   by_cases hj:j=m3
   ·subst hj;rw [← hg1,i8];exact hp.lm.symm
   ·rw [← hg1,c8 hj]
  have f1:Fr gp g1:=⟨by omega,fun j _=>o1 j⟩
  obtain ⟨ov1,ob1,oc1⟩:=hp.vals n p v l hv hl
  obtain ⟨v',g2,e2,o2,f2,p2,q2⟩:=(ov1.fr f1).append (bytes:=8) (sx.fr f1) (by omega) rfl (by have:=hlen n p l hl;omega) (by have:=hlen n p l hl;omega)
  have hm3:g2.get m3=g1.get m3:=p2 m3 (by omega) ob1
  have lm2:MapO kP g2 m3 kvs:=by show g2.get m3=_;rw [hm3,o1];exact hp.lm
  have st:=lm2.store (n:=n) (v:=v') hv
  have n2:=f2.next
  have hnv:j9 v'≠some m3:=fun hid=>by
   rcases q2 m3 hid with h1 | h1
   ·exact ob1 h1
   ·omega
  have hno:∀ id,j9 v'=some id→j9 ov≠some id:=fun id hid hov=>by
   rcases q2 id hid with h1 | h1
   ·exact oc1 id h1 hov
   ·have:=(D0 hp.own hov).2;omega
  refine ⟨v,.int .i64 (n:Int),g1,v',g2,_,kvs.set n (p,v'),ent,e2,st,⟨?_,h.ne,i8 _ _,h.lo,?_,?_,?_,fun j q w l' h1 h2=>?_,fun j k q r w x id hjk h1 h2 hid=>?_⟩,?_,fun z hz=>?_⟩
  ·refine Own.set2 ?_ _ h.ne
   exact Own.keep (hp.own.fr f1) n2 p2 (fun id hid hv=>oc1 id hv hid)
  ·show m3<g2.next;omega
  ·rw [l09 mm p i n l hl h.nd,List.map_set,List.map_set,h.keys]
  ·exact f0g _ _ h.nd
  ·rw [l09 mm p i n l hl h.nd] at h2
   rw [List.getElem?_set] at h1 h2
   by_cases hjn:n=j
   ·subst hjn
    rw [if_pos rfl,if_pos (by omega)] at h1 h2
    cases h1;cases h2
    refine ⟨?_,hnv,hno⟩
    have:=Own.set2 (j:=m3) o2 (.map (mk0 0 (kvA kP (kvs.set n (p,v')))) (kvs.set n (p,v')).length) hnv
    rw [List.length_append,List.length_singleton]
    have e3:nv (l++[i])=nv l++[.int .i64 (i:Int)]:=by simp [nv]
    rw [e3];exact this
   ·rw [if_neg hjn] at h1 h2
    obtain ⟨a,b,c⟩:=hp.vals j q w l' h1 h2
    refine ⟨Own.set2 ?_ _ b,b,c⟩
    exact Own.keep (a.fr f1) n2 p2 (fun id hid hv'=>h.dis j n q p w v id (fun e=>hjn e.symm) h1 hv hid hv')
  ·rw [List.getElem?_set] at h1 h2
   by_cases hj:n=j
   ·subst hj
    rw [if_pos rfl,if_pos (by omega)] at h1
    rw [if_neg hjk] at h2
    cases h1
    intro hx
    rcases q2 id hid with h3 | h3
    ·exact h.dis n k p r v x id hjk hv h2 h3 hx
    ·obtain ⟨l2,hl2⟩:∃ l2,mm[k]? = some (r,l2):=by
      have e1:(mm.map (·.1))[k]? = some r:=by rw [← h.keys];simp [h2]
      rw [List.getElem?_map] at e1
      obtain ⟨y,hy,rfl⟩:=Option.map_eq_some_iff.1 e1
      exact ⟨y.2,hy⟩
     have:=(D0 (hp.vals k r x l2 h2 hl2).1 hx).2
     omega
   ·rw [if_neg hj] at h1
    by_cases hk:n=k
    ·subst hk
     rw [if_pos rfl,if_pos (by omega)] at h2
     cases h2
     intro hx
     rcases q2 id hx with h3 | h3
     ·exact h.dis j n q p w v id hjk h1 hv hid h3
     ·obtain ⟨l2,hl2⟩:∃ l2,mm[j]? = some (q,l2):=by
       have e1:(mm.map (·.1))[j]? = some q:=by rw [← h.keys];simp [h1]
       rw [List.getElem?_map] at e1
       obtain ⟨y,hy,rfl⟩:=Option.map_eq_some_iff.1 e1
       exact ⟨y.2,hy⟩
      have:=(D0 (hp.vals j q w l2 h1 hl2).1 hid).2
      omega
    ·rw [if_neg hk] at h2
     exact h.dis j k q r w x id hjk h1 h2 hid
  ·refine fp.trans ⟨by show gp.next≤g2.next;omega,fun j hj=>?_⟩
   rw [c8 (by omega),f2.get j (by omega),o1]
  ·obtain ⟨z1,z2,z3,z4⟩:=hz
   refine ⟨⟨by show z<g2.next;omega,z2,z3,fun j q w h1=>?_⟩,?_⟩
   ·rw [List.getElem?_set] at h1
    by_cases hjn:n=j
    ·subst hjn
     rw [if_pos rfl,if_pos (by omega)] at h1
     cases h1
     intro hid
     rcases q2 z hid with h3 | h3
     ·exact z4 n p v hv h3
     ·omega
    ·rw [if_neg hjn] at h1;exact z4 j q w h1
   ·rw [c8 z2,p2 z (by omega) (z4 n p v hv),o1,← hgp,c7 (by omega)]
 ·
  have hin':p ∉ mm.map (·.1):=by rw [← h.keys];exact hin
  have ent:=hp.lm.entry_new y07 (z:=.nils) hin
  generalize hg1:gp.set m3 (.map (mk0 0 (kvA kP (kvs++[(p,AV.nils)]))) (kvs++[(p,AV.nils)]).length)=g1 at ent
  have n1:g1.next=gp.next:=by rw [← hg1];rfl
  have o1:∀ j,j≠m3→g1.get j=gp.get j:=fun j hj=>by rw [← hg1,c8 hj]
  have lm1:MapO kP g1 m3 (kvs++[(p,.nils)]):=by rw [← hg1];exact i8 _ _
  have sx1:Sl g1 1 1 (.slice g.next 0 1 1 true 1) [.int .i64 (i:Int)]:=by
   refine ⟨rfl,.inr ⟨g.next,0,1,true,[.int .i64 (i:Int)],false,rfl,by omega,by omega,?_,by simp,rfl⟩⟩
   rw [o1 _ (by omega),← hgp];exact b8 _
  obtain ⟨v',g2,e2,o2,f2,p2,q2⟩:=(Own.nil (h:=g1) B 1).append (bytes:=8) sx1 (by omega) rfl (by omega) (by omega)
  have n2:=f2.next
  have lm2:MapO kP g2 m3 (kvs++[(p,.nils)]):=by show g2.get m3=_;rw [p2 m3 (by omega) (by intro h;cases h)];exact lm1
  have hget:(kvs++[(p,AV.nils)])[kvs.length]? = some (p,.nils):=by simp
  have st:=lm2.store (n:=kvs.length) (v:=v') hget
  have hset:(kvs++[(p,AV.nils)]).set kvs.length (p,v')=kvs++[(p,v')]:=by simp
  rw [hset] at st
  have hq:∀ id,j9 v'=some id→g1.next≤id:=fun id hid=>by
   rcases q2 id hid with h3 | h3
   ·cases h3
   ·exact h3
  have hnv:j9 v'≠some m3:=fun hid=>by have:=hq _ hid;omega
  have keep:∀ {n:Nat} {w:AV} {l:List AV},Own B gp 1 n w l→j9 w≠some m3→Own B g2 1 n w l:=by
   intro n w l o hw
   have a1:Own B g1 1 n w l:=by rw [← hg1];exact o.set2 _ hw
   exact Own.keep (a:=.nils) a1 n2 p2 (fun id _ h=>by cases h)
  have hmk:∀ (j:Nat) (q:Nat×Nat) (w:AV),kvs[j]? = some (q,w)→∃ l2,mm[j]? = some (q,l2):=by
   intro j q w h2
   have e1:(mm.map (·.1))[j]? = some q:=by rw [← h.keys];simp [h2]
   rw [List.getElem?_map] at e1
   obtain ⟨y,hy,rfl⟩:=Option.map_eq_some_iff.1 e1
   exact ⟨y.2,hy⟩
  refine ⟨.nils,.int .i64 (kvs.length:Int),g1,v',g2,_,kvs++[(p,v')],ent,e2,st,⟨?_,h.ne,i8 _ _,h.lo,?_,?_,?_,fun j q w l' h1 h2=>?_,fun j k q r w x id hjk h1 h2 hid=>?_⟩,?_,fun z hz=>?_⟩
  ·exact Own.set2 (keep hp.own h.ne) _ h.ne
  ·show m3<g2.next;omega
  ·rw [l08 mm (p,i) hin'];simp [h.keys]
  ·exact f0g _ _ h.nd
  ·rw [l08 mm (p,i) hin'] at h2
   by_cases hj:j<kvs.length
   ·rw [List.getElem?_append_left hj] at h1
    rw [List.getElem?_append_left (by omega)] at h2
    obtain ⟨a,b,c⟩:=hp.vals j q w l' h1 h2
    exact ⟨Own.set2 (keep a b) _ b,b,c⟩
   ·have hj2:j=kvs.length:=by
     have:=(List.getElem?_eq_some_iff.1 h1).1
     simp at this;omega
    subst hj2
    simp at h1
    rw [hkl] at h2
    simp at h2
    obtain ⟨rfl,rfl⟩:=h1
    obtain ⟨_,rfl⟩:=h2
    refine ⟨?_,hnv,fun id hid hov=>?_⟩
    ·have:=Own.set2 (j:=m3) o2 (AObj.map (mk0 0 (kvA kP (kvs++[(p,v')]))) (kvs++[(p,v')]).length) hnv
     exact this
    ·have:=hq id hid
     have:=(D0 hp.own hov).2;omega
  ·have hlast:∀ (j:Nat) (y:(Nat×Nat)×AV),(kvs++[(p,v')])[j]? = some y→j<kvs.length∧kvs[j]? = some y∨j=kvs.length∧y=(p,v'):=by
    intro j y hy
    by_cases hj:j<kvs.length
    ·rw [List.getElem?_append_left hj] at hy;exact .inl ⟨hj,hy⟩
    ·have:=(List.getElem?_eq_some_iff.1 hy).1
     simp at this
     have:j=kvs.length:=by omega
     subst this
     simp at hy
     exact .inr ⟨rfl,hy.symm⟩
   intro hx
   rcases hlast j _ h1 with ⟨_,h5⟩ | ⟨hj5,h5⟩
   ·rcases hlast k _ h2 with ⟨_,h6⟩ | ⟨hk6,h6⟩
    ·exact h.dis j k q r w x id hjk h5 h6 hid hx
    ·cases h6
     obtain ⟨l2,hl2⟩:=hmk j q w h5
     have:=(D0 (hp.vals j q w l2 h5 hl2).1 hid).2
     have:=hq id hx
     omega
   ·cases h5
    rcases hlast k _ h2 with ⟨_,h6⟩ | ⟨hk6,h6⟩
    ·obtain ⟨l2,hl2⟩:=hmk k r x h6
     have:=(D0 (hp.vals k r x l2 h6 hl2).1 hx).2
     have:=hq id hid
     omega
    ·exact hjk (hj5.trans hk6.symm)
  ·refine fp.trans ⟨by show gp.next≤g2.next;omega,fun j hj=>?_⟩
   rw [c8 (by omega),f2.get j (by omega),o1 _ (by omega)]
  ·obtain ⟨z1,z2,z3,z4⟩:=hz
   refine ⟨⟨by show z<g2.next;omega,z2,z3,fun j q w h1=>?_⟩,?_⟩
   ·by_cases hj:j<kvs.length
    ·rw [List.getElem?_append_left hj] at h1;exact z4 j q w h1
    ·have hj2:j=kvs.length:=by
      have:=(List.getElem?_eq_some_iff.1 h1).1
      simp at this;omega
     subst hj2
     simp at h1
     obtain ⟨_,rfl⟩:=h1
     intro hid
     have:=hq z hid
     omega
   ·rw [c8 z2,p2 z (by omega) (by intro h;cases h),o1 _ z2,← hgp,c7 (by omega)]
end Go.Dk

namespace Go.Dk
open Go Go.Dr
set_option maxRecDepth 100000
def c0L (T:List Txt) (l:List Lab):List AV:=l.flatMap fun k=>[wA (pl T k.1:Int) 4,wA (pl T k.2:Int) 4]
theorem h0I (T:List Txt) (l:List Lab):(c0L T l).length=2*l.length:=by
 unfold c0L
 induction l with
 | nil=>rfl
 | cons x l ih=>rw [List.flatMap_cons,List.length_append,ih];simp;omega
def evL (T:List Txt) (e:Nat) (l:List Lab):List ((Nat×Nat)×Nat):=l.map fun k=>((pl T k.1,pl T k.2),e)
def Shorter (c:Nat) (mm:List ((Nat×Nat)×List Nat)):Prop:=∀ (n:Nat) (p:Nat×Nat) (l:List Nat),mm[n]? = some (p,l)→l.length≤c
theorem Shorter.add {c:Nat} {mm:List ((Nat×Nat)×List Nat)} (h:Shorter c mm) (e:(Nat×Nat)×Nat):Shorter (c+1) (Q8 mm e):=by
 have key:∀ x ∈ Q8 mm e,x.2.length≤c+1:=by
  have h0:∀ x ∈ mm,x.2.length≤c:=fun x hx=>by
   obtain ⟨n,hn1,hn2⟩:=List.mem_iff_getElem.1 hx
   exact h n x.1 x.2 (by rw [List.getElem?_eq_getElem hn1,hn2])
  clear h
  induction mm with
  | nil=>intro x hx;simp [Q8] at hx;subst hx;simp
  | cons y mm ih =>
   intro x hx
   unfold Q8 at hx
   split at hx
   ·rcases List.mem_cons.1 hx with rfl | hx
    ·have:=h0 y List.mem_cons_self
     simp;omega
    ·have:=h0 x (List.mem_cons_of_mem _ hx);omega
   ·rcases List.mem_cons.1 hx with rfl | hx
    ·have:=h0 x List.mem_cons_self;omega
    ·exact ih (fun z hz=>h0 z (List.mem_cons_of_mem _ hz)) x hx
 intro n p l hl
 exact key (p,l) (List.mem_of_getElem? hl)
theorem w0J {Q:G9} {σ:Sg} {h g0:AH} {m2 m3 n e c:Nat} {lv ov:AV} {ls:List Lab} {T:List Txt} {os:List AV} {kvs:List ((Nat×Nat)×AV)} {mm:List ((Nat×Nat)×List Nat)}
  (h9:σ 9=.map m2) (h13:σ 13=.map m3) (h10:σ 10=ov) (h14:σ 14=.int .i64 (e:Int)) (h93:σ 93=lv) (h94:σ 94=.int .i64 (n:Int)) (h95:σ 95=.int .i64 0)
  (hs:Sl h 2 n lv (ls.flatMap E2)) (hn:n≤8) (f0:Fr h g0) (hb:h.next≤m2) (hpm:MapO AV.str g0 m2 (e0m T)) (hT:T.Nodup) (hmem:∀ k ∈ ls,k.1 ∈ T∧k.2 ∈ T)
  (hI:I3 (m2+1) g0 m3 ov os kvs mm) (hsh:Shorter c mm) (hc:c≤2 ^ 29) (hol:os.length≤2 ^ 29)
  (hQ:∀ σ' g' ov' kvs',σ' 10=ov'→(∀ t,t≠10→t≠17→t≠18→(t<95∨127<t)→σ' t=σ t)→FrB (m2+1) g0 g'→I3 (m2+1) g' m3 ov' (os++c0L T ls) kvs' ((evL T e ls).foldl Q8 mm)→Shorter (c+n) ((evL T e ls).foldl Q8 mm) →
   (∀ z,Pr m3 z g0 ov kvs→Pr m3 z g' ov' kvs'∧g'.get z=g0.get z)→Q .normal σ' [] g') :
  wpC P SI m0J Q σ [] g0:=by
 have hl:=X9 hs
 simp only [m0J,E0]
 refine m8 (n:=n) (by rfl) (fun j σ' ds g=>ds=[]∧(∀ t,t≠10→t≠17→t≠18→(t<95∨127<t)→σ' t=σ t)∧FrB (m2+1) g0 g∧Shorter (c+j) ((evL T e (ls.take j)).foldl Q8 mm)∧∃ kvs',I3 (m2+1) g m3 (σ' 10) (os++c0L T (ls.take j)) kvs' ((evL T e (ls.take j)).foldl Q8 mm) ∧
   ∀ z,Pr m3 z g0 ov kvs→Pr m3 z g (σ' 10) kvs'∧g.get z=g0.get z) (by omega) h95
  ⟨rfl,fun _ _ _ _ _=>rfl,.refl _ _,by simpa [evL] using hsh,kvs,by simpa [evL,c0L,h10] using hI,fun z hz=>⟨by rw [h10];exact hz,rfl⟩⟩ ?_ ?_ ?_
 ·rintro j σ' ds g ⟨rfl,hσ,_⟩
  simp [hσ 94 (by omega) (by omega) (by omega) (by omega),h94]
 ·rintro j σ' ds g hj hi ⟨rfl,hσ,fb,hshj,kv1,hIj,hpr⟩
  obtain ⟨⟨nm,vl⟩,hx⟩:=j7 (l:=ls) (j:=j) (by omega)
  have fr:Fr h g:=⟨by have:=f0.next;have:=fb.next;omega,fun i hi'=>by rw [fb.get i (by omega)];exact f0.get i hi'⟩
  obtain ⟨i1,o1,a1,a2,_⟩:=a0z (hs.fr fr) (k:=.i64) (i:=(j:Int)) rfl hx
  obtain ⟨hT1,hT2⟩:=hmem _ (List.mem_of_getElem? hx)
  have e9:=(hσ 9 (by omega) (by omega) (by omega) (by omega)).trans h9
  have e13:=(hσ 13 (by omega) (by omega) (by omega) (by omega)).trans h13
  have e14:=(hσ 14 (by omega) (by omega) (by omega) (by omega)).trans h14
  have e93:=(hσ 93 (by omega) (by omega) (by omega) (by omega)).trans h93
  obtain ⟨ov1,hov⟩:∃ ov1,σ' 10=ov1:=⟨_,rfl⟩
  rw [hov] at hIj hpr
  have hlo:=hIj.lo
  have hlt:=hIj.lt
  have hpmg:MapO AV.str g m2 (e0m T):=by show g.get m2=_;rw [fb.get m2 (by omega)];exact hpm
  have stn:=l6 (h:=g) (n:=2) (z:=[.str [],.str []]) (l:=[.str nm,.str vl]) rfl rfl rfl
  have I1:=hIj.push (.cells [.str nm,.str vl] false)
  have ge:(g.push (.cells [.str nm,.str vl] false)).get g.next=some (.cells [.str nm,.str vl] false):=b8 _
  have gn:(g.push (.cells [.str nm,.str vl] false)).next=g.next+1:=rfl
  have hp1:MapO AV.str (g.push (.cells [.str nm,.str vl] false)) m2 (e0m T):=by show (g.push _).get m2=_;rw [c7 (by omega)];exact hpmg
  have go1:∀ z,z<g.next→(g.push (.cells [.str nm,.str vl] false)).get z=g.get z:=fun z hz=>c7 (by omega)
  generalize hg1:g.push (.cells [.str nm,.str vl] false)=g1 at *
  have m0:load1 g1 g.next 0=.ok (.str nm):=b7 ge
  have m1:load1 g1 g.next 1=.ok (.str vl):=b7 ge
  have k1:=hp1.lookup_some x0p (z:=.int .i64 0) (r0b (f05 hT1)) (by rw [j0P];exact hT)
  have k2:=hp1.lookup_some x0p (z:=.int .i64 0) (r0b (f05 hT2)) (by rw [j0P];exact hT)
  obtain ⟨a,ha⟩:∃ a,pl T nm=a:=⟨_,rfl⟩
  obtain ⟨b,hb'⟩:∃ b,pl T vl=b:=⟨_,rfl⟩
  rw [ha] at k1
  rw [hb'] at k2
  have stn2:=l6 (h:=g1) (n:=2) (z:=[.int .i64 0,.int .i64 0]) (l:=[.int .i64 (a:Int),.int .i64 (b:Int)]) rfl rfl rfl
  have I2:=I1.push (.cells [.int .i64 (a:Int),.int .i64 (b:Int)] false)
  have ge2:(g1.push (.cells [.int .i64 (a:Int),.int .i64 (b:Int)] false)).get g1.next=some (.cells [.int .i64 (a:Int),.int .i64 (b:Int)] false):=b8 _
  have gn2:(g1.push (.cells [.int .i64 (a:Int),.int .i64 (b:Int)] false)).next=g1.next+1:=rfl
  have go2:∀ z,z<g1.next→(g1.push (.cells [.int .i64 (a:Int),.int .i64 (b:Int)] false)).get z=g1.get z:=fun z hz=>c7 (by omega)
  generalize hg2:g1.push (.cells [.int .i64 (a:Int),.int .i64 (b:Int)] false)=g2 at *
  have p0:load1 g2 g1.next 0=.ok (.int .i64 (a:Int)):=b7 ge2
  have p1:load1 g2 g1.next 1=.ok (.int .i64 (b:Int)):=b7 ge2
  have hwl:=h0I T (ls.take j)
  rw [List.length_take,Nat.min_eq_left (by omega)] at hwl
  obtain ⟨ov2,g3,b1,I3',b3,b4⟩:=I2.app (k:=2) (ws:=[wA (a:Int) 4,wA (b:Int) 4]) rfl rfl (by rw [List.length_append,hwl];omega)
  have prz:Pr m3 g1.next g2 ov1 kv1:=⟨by omega,by omega,fun hid=>by have:=(D0 hIj.own hid).2;omega,fun i p v hv hid=>by
   obtain ⟨l2,hl2⟩:∃ l2,((evL T e (ls.take j)).foldl Q8 mm)[i]? = some (p,l2):=by
    have e1:(((evL T e (ls.take j)).foldl Q8 mm).map (·.1))[i]? = some p:=by rw [← hIj.keys];simp [hv]
    rw [List.getElem?_map] at e1
    obtain ⟨y,hy,rfl⟩:=Option.map_eq_some_iff.1 e1
    exact ⟨y.2,hy⟩
   have:=(D0 (hIj.vals i p v l2 hv hl2).1 hid).2
   omega⟩
  have gz:=(b4 _ prz).2
  have p2:loadN g3 g1.next 0 2=.ok [.int .i64 (a:Int),.int .i64 (b:Int)]:=A8 (by rw [gz];exact ge2) rfl
  obtain ⟨v,st,g4,v',g5,g6,kv2,c1,c2,c3,c4,c5,c6⟩:=I3'.add (a,b) e (fun n p l h=>Nat.le_trans (hshj n p l h) (by omega))
  have hz3:.agg [.int .i64 (a:Int),.int .i64 (b:Int)]=kP (a,b):=rfl
  simp only [E2] at a2
  simp only [wA] at b1
  simp [hi,e9,e13,e14,e93,hov,a1,a2,s7,stn,m0,m1,k1,k2,i9,stn2,p0,p1,b1,p2]
  have c1':=c1
  unfold kP at c1'
  simp [hi,c1',c2,c3]
  have hsnoc:evL T e (ls.take (j+1))=evL T e (ls.take j)++[((a,b),e)]:=by
   rw [u9 _ _ _ hx];simp [evL,ha,hb']
  have hwsn:c0L T (ls.take (j+1))=c0L T (ls.take j)++[wA (a:Int) 4,wA (b:Int) 4]:=by
   rw [u9 _ _ _ hx];simp [c0L,ha,hb']
  refine ⟨fun t h1 h2 h3 h4=>?_,?_,?_,kv2,?_,fun z hz=>?_⟩
  ·repeat rw [if_neg (by omega)]
   exact hσ t h1 h2 h3 h4
  ·refine fb.trans (FrB.trans ⟨by omega,fun i hi'=>?_⟩ (b3.trans c5))
   rw [go2 i (by omega),go1 i (by omega)]
  ·rw [hsnoc,List.foldl_append]
   exact hshj.add _
  ·rw [hsnoc,hwsn,List.foldl_append,← List.append_assoc]
   exact c4
  ·obtain ⟨q1,q2⟩:=hpr z hz
   have zl:=q1.1
   have q3:Pr m3 z g2 ov1 kv1:=⟨by omega,q1.2.1,q1.2.2.1,q1.2.2.2⟩
   obtain ⟨r1,r2⟩:=b4 z q3
   obtain ⟨s1,s2⟩:=c6 z r1
   exact ⟨s1,by rw [s2,r2,go2 z (by omega),go1 z zl,q2]⟩
 ·rintro σ' ds g ⟨rfl,hσ,fb,hshj,kv1,hIj,hpr⟩
  rw [List.take_of_length_le (by omega)] at hIj hshj
  simp
  exact hQ _ g (σ' 10) kv1 (by simp) (fun t h1 h2 h3 h4=>by simp only [Q3];rw [if_neg (by omega)];exact hσ t h1 h2 h3 h4) fb hIj hshj hpr
def c0M (T:List Txt) (x:Ep):List AV:=wA (x.ls.length:Int) 1::c0L T x.ls++[wA x.sz 4,wA x.mn 8,wA x.mx 8]
theorem s0P (T:List Txt) (x:Ep) (h:x.ls.length≤8):(c0M T x).length≤20:=by
 simp only [c0M,List.cons_append,List.length_cons,List.length_append,h0I,List.length_nil];omega
theorem c0N (T:List Txt):∀ l:List Ep,(∀ x ∈ l,x.ls.length≤8)→(l.flatMap (c0M T)).length≤20*l.length
 | [],_=>by simp
 | x::l,h=>by
  rw [List.flatMap_cons,List.length_append,List.length_cons]
  have h1:=s0P T x (h x List.mem_cons_self)
  have h2:=c0N T l (fun y hy=>h y (List.mem_cons_of_mem _ hy))
  omega
def evE (T:List Txt):Nat→List Ep→List ((Nat×Nat)×Nat)
 | _,[]=>[]
 | i,x::l=>evL T i x.ls++evE T (i+1) l
theorem q0O (T:List Txt):∀ (l:List Ep) (i:Nat) (x:Ep),evE T i (l++[x])=evE T i l++evL T (i+l.length) x.ls
 | [],i,x=>by simp [evE]
 | y::l,i,x=>by
  simp only [List.cons_append,evE,q0O T l (i+1) x,List.length_cons,List.append_assoc]
  rw [show i+1+l.length=i+(l.length+1) by omega]
theorem y0L {Q:G9} {σ:Sg} {h g0:AH} {m2 m3 n:Nat} {v ov:AV} {xs:List (AV×Ep)} {T:List Txt} {os:List AV}
  (h9:σ 9=.map m2) (h13:σ 13=.map m3) (h10:σ 10=ov) (h77:σ 77=v) (h78:σ 78=.int .i64 (n:Int)) (h79:σ 79=.int .i64 0)
  (hs:Sl h 5 n v (xs.flatMap enC)) (hn:n≤100000) (he:∀ x ∈ xs,EnOk h x∧x.2.ls.length≤8) (f0:Fr h g0) (hb:h.next≤m2) (hpm:MapO AV.str g0 m2 (e0m T)) (hT:T.Nodup)
  (hmem:∀ x ∈ xs,∀ k ∈ x.2.ls,k.1 ∈ T∧k.2 ∈ T) (hI:I3 (m2+1) g0 m3 ov os [] []) (hol:os.length≤2 ^ 28)
  (hQ:∀ σ' g' ov' kvs',σ' 10=ov'→(∀ t,t≠10→t≠14→t≠15→t≠17→t≠18→(t<79∨143<t)→σ' t=σ t)→FrB (m2+1) g0 g'→I3 (m2+1) g' m3 ov' (os++(xs.map (·.2)).flatMap (c0M T)) kvs' (L6 (evE T 0 (xs.map (·.2))))→Q .normal σ' [] g') :
  wpC P SI o0N Q σ [] g0:=by
 have hl:xs.length=n:=by have:=hs.1;rw [b04] at this;omega
 simp only [o0N,E0]
 refine m8 (n:=n) (by rfl) (fun j σ' ds g=>ds=[]∧(∀ t,t≠10→t≠14→t≠15→t≠17→t≠18→(t<79∨143<t)→σ' t=σ t)∧FrB (m2+1) g0 g∧Shorter (8*j) (L6 (evE T 0 ((xs.take j).map (·.2))))∧∃ kvs',I3 (m2+1) g m3 (σ' 10) (os++((xs.take j).map (·.2)).flatMap (c0M T)) kvs' (L6 (evE T 0 ((xs.take j).map (·.2))))) (by omega) h79
  ⟨rfl,fun _ _ _ _ _ _ _=>rfl,.refl _ _,fun n p l hl=>by simp [evE,L6] at hl,[],by simpa [evE,L6,h10] using hI⟩ ?_ ?_ ?_
 ·rintro j σ' ds g ⟨rfl,hσ,_⟩
  simp [hσ 78 (by omega) (by omega) (by omega) (by omega) (by omega) (by omega),h78]
 ·rintro j σ' ds g hj hi ⟨rfl,hσ,fb,hshj,kv1,hIj⟩
  obtain ⟨x,hx⟩:=j7 (l:=xs) (j:=j) (by omega)
  have hxm:=List.mem_of_getElem? hx
  obtain ⟨hok,hl8⟩:=he x hxm
  have fr:Fr h g:=⟨by have:=f0.next;have:=fb.next;omega,fun i hi'=>by rw [fb.get i (by omega)];exact f0.get i hi'⟩
  obtain ⟨id,o,a1,a2,_⟩:=f0K (hs.fr fr) hx
  have okg:=hok.fr fr
  have hlc:=Sl.oneCell okg
  have e9:=(hσ 9 (by omega) (by omega) (by omega) (by omega) (by omega) (by omega)).trans h9
  have e13:=(hσ 13 (by omega) (by omega) (by omega) (by omega) (by omega) (by omega)).trans h13
  have e77:=(hσ 77 (by omega) (by omega) (by omega) (by omega) (by omega) (by omega)).trans h77
  obtain ⟨ov1,hov⟩:∃ ov1,σ' 10=ov1:=⟨_,rfl⟩
  rw [hov] at hIj
  have hlo:=hIj.lo
  have hlt:=hIj.lt
  have stn:=l6 (h:=g) (n:=5) (z:=[.nils,.int .i64 0,.int .i64 0,.int .i64 0,.int .i64 0]) (l:=enC x) rfl rfl (by simp [enC,d8,hlc.2])
  have I1:=hIj.push (.cells (enC x) false)
  have f1:Fr h (g.push (.cells (enC x) false)):=fr.push _
  have ge:(g.push (.cells (enC x) false)).get g.next=some (.cells (enC x) false):=b8 _
  have gn:(g.push (.cells (enC x) false)).next=g.next+1:=rfl
  have go1:∀ z,z<g.next→(g.push (.cells (enC x) false)).get z=g.get z:=fun z hz=>c7 (by omega)
  generalize hg1:g.push (.cells (enC x) false)=g1 at *
  have m0:load1 g1 g.next 0=.ok x.1:=b7 ge
  have lv1:b0u x.1=.ok (.int .i64 (x.2.ls.length:Int)):=(hok.fr f1).len
  have hwl:(((xs.take j).map (·.2)).flatMap (c0M T)).length≤20*j:=by
   have:=c0N T ((xs.take j).map (·.2)) (fun y hy=>by
    obtain ⟨z,hz,rfl⟩:=List.mem_map.1 hy
    exact (he z (List.mem_of_mem_take hz)).2)
   rwa [List.length_map,List.length_take,Nat.min_eq_left (by omega)] at this
  have prz:Pr m3 g.next g1 ov1 kv1:=⟨by omega,by omega,fun hid=>by have:=(D0 hIj.own hid).2;omega,fun i p v hv hid=>by
   obtain ⟨l2,hl2⟩:∃ l2,(L6 (evE T 0 ((xs.take j).map (·.2))))[i]? = some (p,l2):=by
    have e1:((L6 (evE T 0 ((xs.take j).map (·.2)))).map (·.1))[i]? = some p:=by rw [← hIj.keys];simp [hv]
    rw [List.getElem?_map] at e1
    obtain ⟨y,hy,rfl⟩:=Option.map_eq_some_iff.1 e1
    exact ⟨y.2,hy⟩
   have:=(D0 (hIj.vals i p v l2 hv hl2).1 hid).2
   omega⟩
  obtain ⟨ov2,g2,b1,I2,b3,b4⟩:=I1.app (k:=1) (ws:=[wA (x.2.ls.length:Int) 1]) rfl rfl (by rw [List.length_append];omega)
  obtain ⟨prz2,gz2⟩:=b4 _ prz
  have m0':load1 g2 g.next 0=.ok x.1:=b7 (id:=g.next) (vs:=enC x) (ro:=false) (by rw [gz2];exact ge)
  have fb2:FrB (m2+1) g0 g2:=fb.trans (FrB.trans ⟨by omega,fun i hi'=>go1 i (by omega)⟩ b3)
  have f2:Fr h g2:=⟨by have:=f0.next;have:=fb2.next;omega,fun i hi'=>by rw [fb2.get i (by omega)];exact f0.get i hi'⟩
  have lv2:b0u x.1=.ok (.int .i64 (x.2.ls.length:Int)):=lv1
  simp only [wA] at b1
  simp only [Q1]
  simp [hi,e77,hov,a1,s7,a2,stn,m0,lv1,i9,b1,m0']
  refine w0J (h:=h) (m2:=m2) (m3:=m3) (n:=x.2.ls.length) (e:=j) (c:=8*j) (lv:=x.1) (ov:=ov2) (ls:=x.2.ls) (T:=T) (os:=(os++((xs.take j).map (·.2)).flatMap (c0M T))++[wA (x.2.ls.length:Int) 1]) (kvs:=kv1) (mm:=L6 (evE T 0 ((xs.take j).map (·.2))))
   (by simp [e9]) (by simp [e13]) (by simp) (by simp) (by simp) (by simp) (by simp) hok hl8 f2 hb (by show g2.get m2=_;rw [fb2.get m2 (by omega)];exact hpm) hT (hmem x hxm) I2 hshj (by omega) (by simp only [List.length_append,List.length_singleton];omega) ?_
  intro σ3 g3 ov3 kv3 h310 hσ3 fb3 I3' hsh3 hpr3
  obtain ⟨prz3,gz3⟩:=hpr3 _ prz2
  have ge3:g3.get g.next=some (.cells (enC x) false):=by rw [gz3,gz2];exact ge
  have q2:load1 g3 g.next 2=.ok (.int .i64 x.2.sz):=b7 (id:=g.next) (vs:=enC x) (ro:=false) ge3
  have q3:load1 g3 g.next 3=.ok (.int .i64 x.2.mn):=b7 (id:=g.next) (vs:=enC x) (ro:=false) ge3
  have q4:load1 g3 g.next 4=.ok (.int .i64 x.2.mx):=b7 (id:=g.next) (vs:=enC x) (ro:=false) ge3
  have e15:σ3 15=.ptr g.next 0:=by rw [hσ3 15 (by omega) (by omega) (by omega) (by omega)];simp
  have e79:σ3 79=.int .i64 (j:Int):=by rw [hσ3 79 (by omega) (by omega) (by omega) (by omega)];simp [hi]
  have hw3:=h0I T x.2.ls
  obtain ⟨ov4,g4,d1,I4,d3,d4⟩:=I3'.app (k:=3) (ws:=[wA x.2.sz 4,wA x.2.mn 8,wA x.2.mx 8]) rfl rfl (by simp only [List.length_append,List.length_singleton];omega)
  simp only [wA] at d1
  simp [e15,e79,h310,q2,q3,q4,i9,d1]
  have hsn:(xs.take (j+1)).map (·.2)=(xs.take j).map (·.2)++[x.2]:=by rw [u9 _ _ _ hx];simp
  have hev:L6 (evE T 0 ((xs.take (j+1)).map (·.2)))=(evL T j x.2.ls).foldl Q8 (L6 (evE T 0 ((xs.take j).map (·.2)))):=by
   rw [hsn,q0O,L6,L6,List.foldl_append,List.length_map,List.length_take,Nat.min_eq_left (by omega),Nat.zero_add]
  rw [← List.map_take]
  refine ⟨fun t h1 h2 h3 h4 h5 h6=>?_,?_,?_,kv3,?_⟩
  ·repeat rw [if_neg (by omega)]
   rw [hσ3 t (by omega) (by omega) (by omega) (by omega)]
   simp only [Q3]
   repeat rw [if_neg (by omega)]
   exact hσ t h1 h2 h3 h4 h5 h6
  ·exact fb2.trans (fb3.trans d3)
  ·rw [hev]
   intro n p l hl
   have:=hsh3 n p l hl
   omega
  ·rw [hev,hsn,List.flatMap_append]
   have:c0M T x.2=[wA (x.2.ls.length:Int) 1]++c0L T x.2.ls++[wA x.2.sz 4,wA x.2.mn 8,wA x.2.mx 8]:=rfl
   simp only [List.flatMap_cons,List.flatMap_nil,List.append_nil,this]
   simp only [List.append_assoc] at I4 ⊢
   exact I4
 ·rintro σ' ds g ⟨rfl,hσ,fb,hshj,kv1,hIj⟩
  rw [List.take_of_length_le (by omega)] at hIj
  simp
  exact hQ _ g (σ' 10) kv1 (by simp) (fun t h1 h2 h3 h4 h5 h6=>by simp only [Q3];rw [if_neg (by omega)];exact hσ t h1 h2 h3 h4 h5 h6) fb hIj
end Go.Dk

namespace Go.Dk
open Go Go.Dr
set_option maxRecDepth 100000
def iP (p:Nat×Nat):Int×Int:=((p.1:Int),(p.2:Int))
def i0D (ks:List (Nat×Nat)):List (Nat×Nat):=(e0Q cfP (ks.map iP)).map fun z=>(z.1.toNat,z.2.toNat)
theorem l04 (ks:List (Nat×Nat)):(i0D ks).map iP=e0Q cfP (ks.map iP):=by
 unfold i0D
 rw [List.map_map]
 have:∀ z ∈ e0Q cfP (ks.map iP),(iP ∘ fun z:Int×Int=>(z.1.toNat,z.2.toNat)) z=z:=by
  intro z hz
  obtain ⟨p,_,rfl⟩:=List.mem_map.1 ((c0B cfP _).mem_iff.1 hz)
  simp [iP]
 rw [List.map_congr_left this,List.map_id'']
 intro z;rfl
theorem i0E (ks:List (Nat×Nat)) (p:Nat×Nat):p ∈ i0D ks↔p ∈ ks:=by
 have h1:p ∈ i0D ks↔iP p ∈ (i0D ks).map iP:=by
  constructor
  ·intro h;exact List.mem_map.2 ⟨p,h,rfl⟩
  ·intro h
   obtain ⟨q,hq,e⟩:=List.mem_map.1 h
   have:q=p:=by
    obtain ⟨q1,q2⟩:=q
    obtain ⟨p1,p2⟩:=p
    simp only [iP,Prod.mk.injEq] at e
    exact Prod.ext (by simp;omega) (by simp;omega)
   rw [← this];exact hq
 rw [h1,l04,(c0B cfP _).mem_iff]
 constructor
 ·intro h
  obtain ⟨q,hq,e⟩:=List.mem_map.1 h
  have:q=p:=by
   obtain ⟨q1,q2⟩:=q
   obtain ⟨p1,p2⟩:=p
   simp only [iP,Prod.mk.injEq] at e
   exact Prod.ext (by simp;omega) (by simp;omega)
  rw [← this];exact hq
 ·intro h;exact List.mem_map.2 ⟨p,h,rfl⟩
theorem q0W (ks:List (Nat×Nat)):(i0D ks).length=ks.length:=by simp [i0D,g0s]
theorem w0T {ks:List (Nat×Nat)} (hn:ks.Nodup):(i0D ks).Pairwise lt2:=by
 have h1:=e0p y0r (ks.map iP)
 have hnd:(e0Q cfP (ks.map iP)).Nodup:=by
  refine (c0B cfP _).nodup_iff.2 ?_
  refine List.pairwise_map.2 (hn.imp fun {a b} hab e=>hab ?_)
  obtain ⟨a1,a2⟩:=a
  obtain ⟨b1,b2⟩:=b
  simp only [iP,Prod.mk.injEq] at e
  exact Prod.ext (by simp;omega) (by simp;omega)
 rw [← l04] at h1 hnd
 have h3:((i0D ks).map iP).Pairwise fun x y=>(x.1<y.1∨x.1=y.1∧x.2<y.2):=by
  refine (h1.and hnd).imp fun {x y} h=>?_
  obtain ⟨h1,h2⟩:=h
  rw [ltP] at h1
  simp only [Bool.not_eq_true',decide_eq_false_iff_not] at h1
  have:¬ (x.1=y.1∧x.2=y.2):=fun e=>h2 (Prod.ext e.1 e.2)
  omega
 refine (List.pairwise_map.1 h3).imp fun {a b} h=>?_
 simp only [iP] at h
 unfold lt2
 omega
theorem v0e (l:List (Int×Int)):fl2 .i64 .i64 l=l.flatMap fun z=>[AV.int .i64 z.1,AV.int .i64 z.2]:=by
 induction l with
 | nil=>rfl
 | cons z l ih=>rw [List.flatMap_cons,← ih];rfl
theorem v0f (a b:Int):R4 12 (.agg [.int .i64 a,.int .i64 b]) (.agg [.int .i64 a,.int .i64 b])=true:=by
 show Bool.and (decide (IntKind.i64=IntKind.i64)&&decide (a=a)) (Bool.and (decide (IntKind.i64=IntKind.i64)&&decide (b=b)) true)=true
 simp
def y0O (kvs:List ((Nat×Nat)×AV)) (p:Nat×Nat):AV:=match kvs.find? (fun x=>x.1=p) with | some x=>x.2 | none=>.nils
theorem l05:∀ {kvs:List ((Nat×Nat)×AV)} {n:Nat} {p:Nat×Nat} {v:AV},kvs[n]? = some (p,v)→(kvs.map (·.1)).Nodup→y0O kvs p=v
 | [],_,_,_,h,_=>by simp at h
 | x::l,0,p,v,h,_=>by simp at h;subst h;simp [y0O]
 | x::l,n+1,p,v,h,hn=>by
  simp only [List.getElem?_cons_succ] at h
  simp only [List.map_cons,List.nodup_cons] at hn
  have hne:¬ x.1=p:=fun e=>hn.1 (by rw [e];exact List.mem_map.2 ⟨(p,v),List.mem_of_getElem? h,rfl⟩)
  have:=l05 h hn.2
  simp only [y0O,List.find?_cons,hne,decide_false] at this ⊢
  exact this
def e0j (kvs:List ((Nat×Nat)×AV)) (S:List (Nat×Nat)):List AV:=S.flatMap fun p=>[wA (p.1:Int) 4,wA (p.2:Int) 4,.iface t8 (y0O kvs p)]
theorem s0Y (kvs:List ((Nat×Nat)×AV)) (S:List (Nat×Nat)):(e0j kvs S).length=3*S.length:=by
 unfold e0j
 induction S with
 | nil=>rfl
 | cons x l ih=>rw [List.flatMap_cons,List.length_append,ih];simp;omega
theorem Sl.same_get {es n:Nat} {g g':AH} {v:AV} {l:List AV} (s:Sl g es n v l) (hn:g.next≤g'.next) (p:∀ id,j9 v=some id→g'.get id=g.get id):Sl g' es n v l:=by
 refine ⟨s.1,?_⟩
 rcases s.2 with e | ⟨i,off,cap,x,vs,ro,e1,e2,e3,e4,e5,e6⟩
 ·exact .inl e
 ·exact .inr ⟨i,off,cap,x,vs,ro,e1,Nat.lt_of_lt_of_le e2 hn,e3,by rw [p i (by rw [e1];rfl)];exact e4,e5,e6⟩
theorem y0P {Q:G9} {σ:Sg} {g0:AH} {B m3 n:Nat} {u ov:AV} {S:List (Nat×Nat)} {os:List AV} {kvs:List ((Nat×Nat)×AV)} {mm:List ((Nat×Nat)×List Nat)}
  (h13:σ 13=.map m3) (h10:σ 10=ov) (h147:σ 147=u) (h148:σ 148=.int .i64 (n:Int)) (h149:σ 149=.int .i64 0)
  (hI:I3 B g0 m3 ov os kvs mm) (hu:Sl g0 2 n u (fl2 .i64 .i64 (S.map iP))) (hpr:∀ id,j9 u=some id→Pr m3 id g0 ov kvs) (hn:n≤2 ^ 28) (hol:os.length≤2 ^ 28) (hS:∀ p ∈ S,p ∈ kvs.map (·.1))
  (hQ:∀ σ' g' ov',σ' 10=ov'→FrB B g0 g'→I3 B g' m3 ov' (os++e0j kvs S) kvs mm→Q .normal σ' [] g') :
  wpC P SI o0O Q σ [] g0:=by
 have hl:S.length=n:=by have:=hu.1;rw [F7,List.length_map] at this;omega
 rw [v0e] at hu
 simp only [o0O,E0]
 refine m8 (n:=n) (by rfl) (fun j σ' ds g=>ds=[]∧(∀ t,t≠10→t≠21→t<149→σ' t=σ t)∧FrB B g0 g∧I3 B g m3 (σ' 10) (os++e0j kvs (S.take j)) kvs mm∧∀ id,j9 u=some id→Pr m3 id g (σ' 10) kvs∧g.get id=g0.get id) (by omega) h149
  ⟨rfl,fun _ _ _ _=>rfl,.refl _ _,by simpa [e0j,h10] using hI,fun id hid=>⟨by rw [h10];exact hpr id hid,rfl⟩⟩ ?_ ?_ ?_
 ·rintro j σ' ds g ⟨rfl,hσ,_⟩
  simp [hσ 148 (by omega) (by omega) (by omega),h148]
 ·rintro j σ' ds g hj hi ⟨rfl,hσ,fb,hIj,hprj⟩
  obtain ⟨⟨a,b⟩,hx⟩:=j7 (l:=S) (j:=j) (by omega)
  have hug:=Sl.same_get hu fb.next (fun id hid=>(hprj id hid).2)
  obtain ⟨i1,o1,a1,a2,_⟩:=hug.elem (fun _ _=>rfl) (by omega) (k:=.i64) (i:=(j:Int)) rfl (x:=iP (a,b)) (by simp [hx])
  have e13:=(hσ 13 (by omega) (by omega) (by omega)).trans h13
  have e147:=(hσ 147 (by omega) (by omega) (by omega)).trans h147
  obtain ⟨ov1,hov⟩:∃ ov1,σ' 10=ov1:=⟨_,rfl⟩
  rw [hov] at hIj hprj
  have hlo:=hIj.lo
  have hlt:=hIj.lt
  have hndk:(kvs.map (·.1)).Nodup:=by rw [hIj.keys];exact hIj.nd
  obtain ⟨q,hq1,hq2⟩:=List.mem_iff_getElem.1 (hS _ (List.mem_of_getElem? hx))
  simp only [List.length_map] at hq1
  simp only [List.getElem_map] at hq2
  obtain ⟨v,hv⟩:∃ v,kvs[q]? = some ((a,b),v):=⟨kvs[q].2,by rw [List.getElem?_eq_getElem hq1,← hq2]⟩
  obtain ⟨l,hl2⟩:∃ l,mm[q]? = some ((a,b),l):=by
   have e1:(mm.map (·.1))[q]? = some (a,b):=by rw [← hIj.keys];simp [hv]
   rw [List.getElem?_map] at e1
   obtain ⟨y,hy,e2⟩:=Option.map_eq_some_iff.1 e1
   exact ⟨y.2,by rw [hy,← e2]⟩
  have hvo:=(hIj.vals q (a,b) v l hv hl2).1
  have hvs:=hvo.sl.same
  have hvc:=hvo.sl.oneCell
  have stn:=l6 (h:=g) (n:=2) (z:=[.int .i64 0,.int .i64 0]) (l:=[.int .i64 (a:Int),.int .i64 (b:Int)]) rfl rfl rfl
  have I1:=hIj.push (.cells [.int .i64 (a:Int),.int .i64 (b:Int)] false)
  have ge:(g.push (.cells [.int .i64 (a:Int),.int .i64 (b:Int)] false)).get g.next=some (.cells [.int .i64 (a:Int),.int .i64 (b:Int)] false):=b8 _
  have gn:(g.push (.cells [.int .i64 (a:Int),.int .i64 (b:Int)] false)).next=g.next+1:=rfl
  have go1:∀ z,z<g.next→(g.push (.cells [.int .i64 (a:Int),.int .i64 (b:Int)] false)).get z=g.get z:=fun z hz=>c7 (by omega)
  generalize hg1:g.push (.cells [.int .i64 (a:Int),.int .i64 (b:Int)] false)=g1 at *
  have m0:load1 g1 g.next 0=.ok (.int .i64 (a:Int)):=b7 ge
  have m1:load1 g1 g.next 1=.ok (.int .i64 (b:Int)):=b7 ge
  have mN:loadN g1 g.next 0 2=.ok [.int .i64 (a:Int),.int .i64 (b:Int)]:=A8 ge rfl
  have lk:=I1.lm.lookup_some y07 (z:=.nils) hv hndk
  unfold kP at lk
  have hwl:=s0Y kvs (S.take j)
  rw [List.length_take,Nat.min_eq_left (by omega)] at hwl
  have I2:=I1.push (.cells [wA (a:Int) 4,wA (b:Int) 4,.iface t8 v] false)
  have n0:load1 (g1.push (.cells [wA (a:Int) 4,wA (b:Int) 4,.iface t8 v] false)) g.next 0=.ok (.int .i64 (a:Int)):=b7 (id:=g.next) (vs:=[.int .i64 (a:Int),.int .i64 (b:Int)]) (ro:=false) (by rw [c7 (by omega)];exact ge)
  have n1:load1 (g1.push (.cells [wA (a:Int) 4,wA (b:Int) 4,.iface t8 v] false)) g.next 1=.ok (.int .i64 (b:Int)):=b7 (id:=g.next) (vs:=[.int .i64 (a:Int),.int .i64 (b:Int)]) (ro:=false) (by rw [c7 (by omega)];exact ge)
  have nN:loadN (g1.push (.cells [wA (a:Int) 4,wA (b:Int) 4,.iface t8 v] false)) g.next 0 2=.ok [.int .i64 (a:Int),.int .i64 (b:Int)]:=A8 (by rw [c7 (by omega)];exact ge) rfl
  have lk2:=I2.lm.lookup_some y07 (z:=.nils) hv hndk
  unfold kP at lk2
  obtain ⟨ov2,g3,b1,I3',b3,b4⟩:=I1.app (k:=3) (ws:=[wA (a:Int) 4,wA (b:Int) 4,.iface t8 v]) rfl (by simp [wA,d8,AV.scalar]) (by rw [List.length_append,hwl];omega)
  simp only [wA] at b1 n0 n1 nN lk2
  simp only [iP] at a2
  simp [hi,e13,e147,hov,a1,a2,s7,stn,m0,m1,mN,lk,i9,n0,n1,nN,lk2,hvs,v0f,b1]
  have hwsn:e0j kvs (S.take (j+1))=e0j kvs (S.take j)++[wA (a:Int) 4,wA (b:Int) 4,.iface t8 v]:=by
   rw [u9 _ _ _ hx];simp [e0j,l05 hv hndk]
  refine ⟨fun t h1 h2 h3=>?_,?_,?_,fun id hid=>?_⟩
  ·repeat rw [if_neg (by omega)]
   exact hσ t h1 h2 h3
  ·refine fb.trans (FrB.trans ⟨by omega,fun i hi'=>?_⟩ b3)
   exact go1 i (by omega)
  ·rw [hwsn,← List.append_assoc]
   exact I3'
  ·obtain ⟨q1,q2⟩:=hprj id hid
   have q3:Pr m3 id g1 ov1 kvs:=⟨by have:=q1.1;omega,q1.2.1,q1.2.2.1,q1.2.2.2⟩
   obtain ⟨r1,r2⟩:=b4 id q3
   exact ⟨r1,by rw [r2,go1 id q1.1,q2]⟩
 ·rintro σ' ds g ⟨rfl,hσ,fb,hIj,hprj⟩
  rw [List.take_of_length_le (by omega)] at hIj
  simp
  exact hQ _ g (σ' 10) (by simp) fb hIj
end Go.Dk

namespace Go.Dk
open Go Go.Dr
set_option maxRecDepth 100000
theorem I3.fr {B m3:Nat} {g g':AH} {ov:AV} {os:List AV} {kvs:List ((Nat×Nat)×AV)} {mm:List ((Nat×Nat)×List Nat)} (h:I3 B g m3 ov os kvs mm) (f:Fr g g'):I3 B g' m3 ov os kvs mm:=by
 refine ⟨h.own.fr f,h.ne,?_,h.lo,Nat.lt_of_lt_of_le h.lt f.next,h.keys,h.nd,fun i p v l h1 h2=>?_,h.dis⟩
 ·show g'.get m3=_
  rw [f.get _ h.lt];exact h.lm
 ·obtain ⟨a,b,c⟩:=h.vals i p v l h1 h2
  exact ⟨a.fr f,b,c⟩
theorem w0R {h:AH} {m:Nat} (K:AV→AH→Prop):Ev P SI (.fn C1) [.map m] h K=K (.func (.func j6) [] [.ptr h.next 0]) (h.push (.cells [.map m] false)):=by
 refine Ev.eq (k8 V3 rfl rfl ?_) K
 simp [H3,AV.cells]
theorem w0S {h:AH} {m:Nat} (K:AV→AH→Prop):Ev P SI (.fn o7) [.map m] h K=K (.func (.func d7) [] [.ptr h.next 0]) (h.push (.cells [.map m] false)):=by
 refine Ev.eq (k8 E4 rfl rfl ?_) K
 simp [z8,AV.cells]
def Tof (l:List Ep):List Txt:=f0Q (f0o [] (l.map (·.ls)))
theorem a01 (l:List Ep) (s:Txt):s ∈ Tof l↔∃ y ∈ l.map (·.ls),∃ k ∈ y,s=k.1∨s=k.2:=by
 unfold Tof f0Q
 rw [(List.mergeSort_perm _ _).mem_iff,r0G]
 simp
theorem o0n (l:List Ep):(Tof l).Nodup:=(List.mergeSort_perm _ _).nodup_iff.2 (f0p _ (by simp))
theorem l0q (l:List Ep) (h:∀ x ∈ l,x.ls.length≤8):(Tof l).length≤16*l.length:=by
 unfold Tof f0Q
 rw [List.length_mergeSort]
 have:=m0K (l.map (·.ls)) [] (fun y hy=>by obtain ⟨x,hx,rfl⟩:=List.mem_map.1 hy;exact h x hx)
 simpa using this
def c02 (l:List Ep):List ((Nat×Nat)×List Nat):=L6 (evE (Tof l) 0 l)
def itE (T:List Txt) (x:Ep):List It:=.w (x.ls.length:Int) 1::(x.ls.flatMap fun k=>[It.w (pl T k.1:Int) 4,.w (pl T k.2:Int) 4])++[.w x.sz 4,.w x.mn 8,.w x.mx 8]
def itP (mm:List ((Nat×Nat)×List Nat)) (S:List (Nat×Nat)):List It:=S.flatMap fun p=>[It.w (p.1:Int) 4,.w (p.2:Int) 4,.p (atK mm p)]
def a02 (l:List Ep):List It:=([It.w ((Tof l).length:Int) 4]++(Tof l).map It.t++[.w (l.length:Int) 4]++l.flatMap (itE (Tof l)))++itP (c02 l) (i0D ((c02 l).map (·.1)))
def OkL (h:AH) (os:List AV) (its:List It):Prop:=os.length=its.length∧∀ (i:Nat) (v:AV) (it:It),os[i]? = some v→its[i]? = some it→OkI h v it
theorem OkL.append {h:AH} {a b:List AV} {c d:List It} (h1:OkL h a c) (h2:OkL h b d):OkL h (a++b) (c++d):=by
 refine ⟨by rw [List.length_append,List.length_append,h1.1,h2.1],fun i v it hv hi=>?_⟩
 by_cases hc:i<a.length
 ·rw [List.getElem?_append_left hc] at hv
  rw [List.getElem?_append_left (by rw [← h1.1];exact hc)] at hi
  exact h1.2 i v it hv hi
 ·rw [List.getElem?_append_right (by omega)] at hv
  rw [List.getElem?_append_right (by rw [← h1.1];omega),← h1.1] at hi
  exact h2.2 _ v it hv hi
theorem OkL.nil (h:AH):OkL h [] []:=⟨rfl,fun i v it hv _=>by simp at hv⟩
theorem OkL.one {h:AH} {v:AV} {it:It} (hv:OkI h v it):OkL h [v] [it]:=⟨rfl,fun i w jt hw hi=>by
 match i with
 | 0=>simp at hw hi;subst hw hi;exact hv
 | i+1=>simp at hw⟩
theorem OkL.cons {h:AH} {v:AV} {it:It} {a:List AV} {c:List It} (hv:OkI h v it) (h1:OkL h a c):OkL h (v::a) (it::c):=(OkL.one hv).append h1
theorem OkL.flat {α:Type} {h:AH} {l:List α} {f:α→List AV} {k:α→List It} (hf:∀ x ∈ l,OkL h (f x) (k x)):OkL h (l.flatMap f) (l.flatMap k):=by
 induction l with
 | nil=>exact .nil h
 | cons x l ih =>
  rw [List.flatMap_cons,List.flatMap_cons]
  exact (hf x List.mem_cons_self).append (ih fun y hy=>hf y (List.mem_cons_of_mem _ hy))
theorem h0l (h:AH) (n:Int) (k:Nat):OkI h (wA n (k:Int)) (.w n k):=rfl
theorem v0d (h:AH) (T:List Txt) (x:Ep):OkL h (c0M T x) (itE T x):=by
 unfold c0M itE c0L
 refine (OkL.cons (h0l h _ 1) (OkL.flat fun k _=>?_)).append ?_
 ·exact (OkL.one (h0l h _ 4)).append (OkL.one (h0l h _ 4))
 ·exact .cons (h0l h _ 4) (.cons (h0l h _ 8) (.one (h0l h _ 8)))
theorem o0o (h:AH):∀ T:List Txt,OkL h (T.map tA) (T.map It.t)
 | []=>.nil h
 | s::T=>.cons rfl (o0o h T)
theorem s0X {B m3:Nat} {g:AH} {ov:AV} {os:List AV} {kvs:List ((Nat×Nat)×AV)} {mm:List ((Nat×Nat)×List Nat)} (hI:I3 B g m3 ov os kvs mm) {S:List (Nat×Nat)} (hS:∀ p ∈ S,p ∈ mm.map (·.1)):OkL g (e0j kvs S) (itP mm S):=by
 unfold e0j itP
 refine OkL.flat fun p hp=>?_
 refine .cons (h0l g _ 4) (.cons (h0l g _ 4) (.one ?_))
 have hndk:(kvs.map (·.1)).Nodup:=by rw [hI.keys];exact hI.nd
 obtain ⟨q,hq1,hq2⟩:=List.mem_iff_getElem.1 (hS _ hp)
 simp only [List.length_map] at hq1
 simp only [List.getElem_map] at hq2
 have hl:mm[q]? = some (p,mm[q].2):=by rw [List.getElem?_eq_getElem hq1,← hq2]
 obtain ⟨v,hv⟩:∃ v,kvs[q]? = some (p,v):=by
  have e1:(kvs.map (·.1))[q]? = some p:=by rw [hI.keys];simp [hl]
  rw [List.getElem?_map] at e1
  obtain ⟨y,hy,e2⟩:=Option.map_eq_some_iff.1 e1
  exact ⟨y.2,by rw [hy,← e2]⟩
 have hat:atK mm p=mm[q].2:=by
  have:∀ (m:List ((Nat×Nat)×List Nat)) (n:Nat) (l:List Nat),m[n]? = some (p,l)→(m.map (·.1)).Nodup→atK m p=l:=by
   intro m
   induction m with
   | nil=>intro n l h;simp at h
   | cons x m ih =>
    intro n l h hn
    cases n with
    | zero=>simp at h;subst h;simp [atK]
    | succ n =>
     simp only [List.getElem?_cons_succ] at h
     simp only [List.map_cons,List.nodup_cons] at hn
     have hne:¬ x.1=p:=fun e=>hn.1 (by rw [e];exact List.mem_map.2 ⟨(p,l),List.mem_of_getElem? h,rfl⟩)
     have:=ih n l h hn.2
     simp only [atK,List.find?_cons,hne,decide_false] at this ⊢
     exact this
  exact this mm q _ hl hI.nd
 refine ⟨v,by rw [l05 hv hndk],?_⟩
 rw [hat]
 exact (hI.vals q p v _ hv hl).1.sl
def A0m (h:AH) (l:List Ep) (r:AV) (g:AH):Prop:=∃ os,Own h.next g 1 os.length r os∧Fr h g∧OkL g os (a02 l)
theorem q0S {h:AH} {n:Nat} {v:AV} {xs:List (AV×Ep)} (s:Sl h 5 n v (xs.flatMap enC)) (hn:n≤100000) (he:∀ x ∈ xs,EnOk h x∧x.2.ls.length≤8) :
  Ev P SI (.fn d09) [v] h (A0m h (xs.map (·.2))):=by
 refine k8 n0E rfl rfl ?_
 have hl:xs.length=n:=by have:=s.1;rw [b04] at this;omega
 have hl8:∀ x ∈ xs.map (·.2),x.ls.length≤8:=fun x hx=>by obtain ⟨y,hy,rfl⟩:=List.mem_map.1 hx;exact (he y hy).2
 have e0:f0H none h=okV (.map h.next) (h.push (.map [] 0)):=rfl
 simp [h0n,-E0,s.len,e0]
 refine y0X (h:=h) (m:=h.next) (n:=n) (v:=v) (xs:=xs) (by simp) (by simp) (by simp) (by simp) s hn he rfl (Fr.push (.refl h) _) (Nat.lt_succ_self _) (b8 _) ?_
 intro σ1 g1 hσ1 f1 hlt1 hm1
 have e3:σ1 3=.map h.next:=by rw [hσ1 3 (by omega) (by omega) (by omega)];simp
 have e00:σ1 0=v:=by rw [hσ1 0 (by omega) (by omega) (by omega)];simp
 generalize hks:f0o [] (xs.map (·.2.ls))=ks at hm1
 have hks2:Tof (xs.map (·.2))=f0Q ks:=by rw [← hks];unfold Tof;rw [List.map_map];rfl
 have hkn:ks.Nodup:=by rw [← hks];exact f0p _ (by simp)
 have hkl:ks.length≤16*n:=by
  have:=m0K (xs.map (·.2.ls)) [] (fun y hy=>by obtain ⟨x,hx,rfl⟩:=List.mem_map.1 hy;exact (he x hx).2)
  rw [hks] at this;simp at this;omega
 simp [-E0,e3,w0R]
 have hm1':(g1.push (.cells [.map h.next] false)).get h.next=some (.map (mk0 0 (kvA AV.str (U9 ks))) (U9 ks).length):=by rw [c7 (by omega)];exact hm1
 refine x0B (c:=g1.next) (m:=h.next) (ro:=false) (ss:=ks) (b8 _) hm1' (Nat.lt_succ_self _) (Nat.lt_succ_of_lt hlt1) (fun e he'=>?_) (o0k _ _) ?_ ?_ _ ?_
 ·have:=w0Q e he';rw [a0p] at this;omega
 ·rw [l0Z];simp [kvA,U9,tx,Function.comp_def]
 ·rw [h0M,a0p,U9,List.length_map];omega
 intro u g2 ho2 f2
 rw [← hks2] at ho2
 generalize hT:Tof (xs.map (·.2))=T at *
 have hTl:T.length=ks.length:=by rw [hks2];exact List.length_mergeSort _
 have hTn:T.Nodup:=by rw [← hT];exact o0n _
 have fh2:Fr h g2:=(f1.push _).trans f2
 have e0':f0H none g2=okV (.map g2.next) (g2.push (.map [] 0)):=rfl
 have ulen:=ho2.sl.len
 simp [-E0,e0',ulen,i9]
 have hw:AV.iface l8 (.agg [.int .i64 (ks.length:Int),.int .i64 4])=wA (ks.length:Int) 4:=rfl
 rw [hw]
 have fo3:=Own.fresh (B:=g2.next+1) (h:=g2.push (.map [] 0)) (es:=1) (n:=1) (l:=[wA (ks.length:Int) 4]) true (Nat.le_refl _) rfl
 refine y0Y (h:=g2) (m:=g2.next) (n:=ks.length) (u:=u) (ov:=.slice (g2.next+1) 0 1 1 true 1) (T:=T) (os:=[wA (ks.length:Int) 4]) (by simp) (by simp) (by simp) (by simp) (by simp) ho2.sl (by omega) hTn rfl ((Fr.push (.refl g2) _).push _)
  (by show AH.get _ _=_;rw [c7 (by show g2.next≠g2.next+1;omega)];exact b8 _) fo3 (by simp) (by show g2.next<g2.next+1+1;omega) ?_
 intro σ2 g3 ov3 h310 hσ2 f3 hlt3 hp3 ho3
 have e20:σ2 0=v:=by rw [hσ2 0 (by omega) (by omega) (by omega) (by omega)];simp [e00]
 have e29:σ2 9=.map g2.next:=by rw [hσ2 9 (by omega) (by omega) (by omega) (by omega)];simp
 have fh3:Fr h g3:=fh2.trans f3
 have hlt2:=f2.next
 have hb2:h.next≤g2.next:=fh2.next
 obtain ⟨ov4,g4,b1,ho4,b3,b4,b5⟩:=ho3.snoc2 (bytes:=16) (x:=[wA (n:Int) 4]) (by omega) rfl rfl (by simp;omega) (by simp;omega)
 have fh4:Fr h g4:=⟨by have:=fh3.next;have:=b3.next;omega,fun i hi=>by rw [b3.get i (by omega)];exact fh3.get i hi⟩
 have hp4:MapO AV.str g4 g2.next (e0m T):=by show g4.get _=_;rw [b3.get _ (by omega)];exact hp3
 have e0'':f0H none g4=okV (.map g4.next) (g4.push (.map [] 0)):=rfl
 have hlt4:=b3.next
 simp only [wA] at b1
 simp [-E0,h310,e20,s.len,i9,b1,e0'']
 have hne4:j9 ov4≠some g4.next:=fun hid=>by have:=(D0 ho4 hid).2;omega
 have I0:I3 (g2.next+1) (g4.push (.map [] 0)) g4.next ov4 (([wA (ks.length:Int) 4]++T.map tA)++[wA (n:Int) 4]) [] [] :=
  ⟨by have:=ho4.fr (Fr.push (.refl g4) (.map [] 0));simpa [Nat.add_comm,Nat.add_assoc,Nat.add_left_comm] using this,hne4,b8 _,by omega,Nat.lt_succ_self _,rfl,by simp,fun i p v l h1 _=>by simp at h1,fun i j p q v w id _ h1 _ _=>by simp at h1⟩
 refine y0L (h:=h) (m2:=g2.next) (m3:=g4.next) (n:=n) (v:=v) (ov:=ov4) (xs:=xs) (T:=T) (by simp [e29]) (by simp) (by simp) (by simp) (by simp) (by simp) s hn he (fh4.push _) hb2
  (by show AH.get _ _=_;rw [c7 (by omega)];exact hp4) hTn (fun x hx k hk=>?_) I0 (by simp;omega) ?_
 ·have hm:∀ s,(s=k.1∨s=k.2)→s ∈ T:=fun s hs=>by
   rw [← hT,a01]
   exact ⟨x.2.ls,List.mem_map.2 ⟨x.2,List.mem_map.2 ⟨x,hx,rfl⟩,rfl⟩,k,hk,hs⟩
  exact ⟨hm _ (.inl rfl),hm _ (.inr rfl)⟩
 intro σ3 g5 ov5 kvs h510 hσ3 fb5 I5
 have e313:σ3 13=.map g4.next:=by rw [hσ3 13 (by omega) (by omega) (by omega) (by omega) (by omega) (by omega)];simp
 simp [-E0,e313,w0S]
 have I6:=I5.push (.cells [.map g4.next] false)
 have hkl5:kvs.length=(L6 (evE T 0 (xs.map (·.2)))).length:=by have:=congrArg List.length I5.keys;simpa using this
 have hevl:∀ (l:List Ep) (i:Nat),(∀ x ∈ l,x.ls.length≤8)→(evE T i l).length≤8*l.length:=by
  intro l
  induction l with
  | nil=>intro i _;simp [evE]
  | cons x l ih =>
   intro i h
   have h1:=ih (i+1) (fun y hy=>h y (List.mem_cons_of_mem _ hy))
   have h2:=h x List.mem_cons_self
   simp only [evE,evL,List.length_append,List.length_map,List.length_cons] at h1 ⊢
   omega
 have hgl:∀ (evs:List ((Nat×Nat)×Nat)) (m:List ((Nat×Nat)×List Nat)),(evs.foldl Q8 m).length≤m.length+evs.length:=by
  have h1:∀ (m:List ((Nat×Nat)×List Nat)) (e:(Nat×Nat)×Nat),(Q8 m e).length≤m.length+1:=by
   intro m e
   induction m with
   | nil=>simp [Q8]
   | cons x m ih=>unfold Q8;split <;> simp;omega
  intro evs
  induction evs with
  | nil=>intro m;simp
  | cons e evs ih =>
   intro m
   have:=ih (Q8 m e)
   have:=h1 m e
   simp only [List.foldl_cons,List.length_cons]
   omega
 have hkb:kvs.length≤8*n:=by
  have h1:=hgl (evE T 0 (xs.map (·.2))) []
  have h2:=hevl (xs.map (·.2)) 0 hl8
  rw [hkl5]
  unfold L6
  simp at h1 h2 ⊢
  omega
 refine y0s (c:=g5.next) (m:=g4.next) (ro:=false) (ss:=(kvs.map (·.1)).map iP) (b8 _) I6.lm (Nat.lt_succ_self _) I6.lt (fun e he'=>?_) (o0k _ _) ?_ ?_ _ ?_
 ·have:=w0Q e he';rw [a0p] at this;omega
 ·rw [l0Z];simp [kvA,pk,kP,iP,Function.comp_def]
 ·rw [h0M,a0p];omega
 intro sv5 g7 ho7 f7
 rw [← l04] at ho7
 have I7:=I6.fr f7
 have svl:=ho7.sl.len
 simp [-E0,svl]
 have hwl5:=c0N T (xs.map (·.2)) hl8
 rw [List.length_map,hl] at hwl5
 have e510:σ3 10=ov5:=h510
 have hm5:(L6 (evE T 0 (xs.map (·.2))))=c02 (xs.map (·.2)):=by rw [c02,hT]
 refine y0P (B:=g2.next+1) (m3:=g4.next) (n:=kvs.length) (u:=sv5) (ov:=ov5) (S:=i0D (kvs.map (·.1))) (os:=([wA (ks.length:Int) 4]++T.map tA++[wA (n:Int) 4])++(xs.map (·.2)).flatMap (c0M T)) (kvs:=kvs) (mm:=L6 (evE T 0 (xs.map (·.2))))
  (by simp [e313]) (by simp [e510]) (by simp) (by simp) (by simp) I7 (by simpa using ho7.sl) (fun id hid=>?_) (by omega) (by simp only [List.length_append,List.length_map,List.length_singleton];omega) (fun p hp=>(i0E _ p).1 hp) ?_
 ·have h1:=(D0 ho7 hid)
  have h2:g5.next<id:=by have:=h1.1;show g5.next<id;exact this
  refine ⟨h1.2,by have:=I5.lt;omega,fun ho=>?_,fun i p v hv ho=>?_⟩
  ·have:=(D0 I5.own ho).2;omega
  ·obtain ⟨l2,hl2⟩:∃ l2,(L6 (evE T 0 (xs.map (·.2))))[i]? = some (p,l2):=by
    have e1:((L6 (evE T 0 (xs.map (·.2)))).map (·.1))[i]? = some p:=by rw [← I5.keys];simp [hv]
    rw [List.getElem?_map] at e1
    obtain ⟨y,hy,rfl⟩:=Option.map_eq_some_iff.1 e1
    exact ⟨y.2,hy⟩
   have:=(D0 (I5.vals i p v l2 hv hl2).1 ho).2
   omega
 intro σ4 g8 ov8 h810 fb8 I8
 simp [h810]
 refine ⟨_,I8.own.base (by omega),⟨?_,fun i hi=>?_⟩,?_⟩
 ·have:=fh4.next;have:=fb5.next;have:=f7.next;have:=fb8.next
  have e1:(g4.push (.map [] 0)).next=g4.next+1:=rfl
  have e2:(g5.push (.cells [.map g4.next] false)).next=g5.next+1:=rfl
  omega
 ·have h4:=fh4.next
  have h5:=fb5.next
  have e1:(g4.push (.map [] 0)).next=g4.next+1:=rfl
  rw [fb8.get i (by omega),f7.get i (by show i<g5.next+1;omega),c7 (by omega),fb5.get i (by omega),c7 (by omega)]
  exact fh4.get i hi
 ·unfold a02
  rw [hT,← hm5,← I8.keys]
  refine OkL.append ?_ (s0X I8 (fun p hp=>by rw [← I8.keys];exact (i0E _ p).1 hp))
  rw [show (T.length:Int)=(ks.length:Int) by rw [hTl],show ((xs.map (·.2)).length:Int)=(n:Int) by rw [List.length_map,hl]]
  refine ((((OkL.one (h0l g8 _ 4)).append (o0o g8 T)).append (OkL.one (h0l g8 _ 4)))).append ?_
  exact OkL.flat fun x _=>v0d g8 T x
end Go.Dk

namespace Go.Dk
open Go Go.Dr
set_option maxRecDepth 100000
def d0w:FuncId:=203
def d0x:FuncId:=204
def b05:FuncId:=205
noncomputable def d0y:CC :=
 (.seq
 (.ops [
  .row ⟨(some 1),none,.box (.t 0)⟩,
  .row ⟨(some 2),none,.move (.c (.int .i64 0))⟩])
 (.seq
  (.ops [
  .row ⟨(some 3),none,.fieldAddr 1 (.t 1)⟩,
  .row ⟨(some 4),none,.load1 (.t 3)⟩,
  .row ⟨(some 2),none,.move (.t 4)⟩])
  .ret))
theorem i0l:k7 P d0w=.ok ⟨5,[.tmp 2],d0y⟩:=by kernel_rfl
noncomputable def d0z:CC :=
 (.seq
 (.ops [
  .row ⟨(some 2),none,.move (.c (.int .i64 0))⟩])
 (.seq
  (.ops [
  .row ⟨(some 3),none,.move (.t 0)⟩,
  .row ⟨(some 4),none,.lenS (.t 3)⟩,
  .row ⟨(some 5),none,.bin .add a7 true (.c (.int .i64 1)) (.t 4)⟩,
  .row ⟨(some 2),none,.move (.t 5)⟩])
  .ret))
theorem i0m:k7 P d0x=.ok ⟨6,[.tmp 2],d0z⟩:=by kernel_rfl
noncomputable def b06:CC :=
 (.seq
 (.ops [
  .row ⟨(some 2),none,.move (.c (.int .i64 0))⟩])
 (.seq
  (.ops [
  .row ⟨(some 3),none,.move (.t 0)⟩,
  .row ⟨(some 4),none,.lenV (.t 3)⟩,
  .row ⟨(some 5),none,.bin .mul a7 true (.c (.int .i64 4)) (.t 4)⟩,
  .row ⟨(some 6),none,.bin .add a7 true (.c (.int .i64 4)) (.t 5)⟩,
  .row ⟨(some 2),none,.move (.t 6)⟩])
  .ret))
theorem g08:k7 P b05=.ok ⟨7,[.tmp 2],b06⟩:=by kernel_rfl
end Go.Dk

namespace Go.Dr
section
variable {P:Program} {h:AH}
theorem Own.append_src {B es n m bytes:Nat} {v x:AV} {l r:List AV} (s:Own B h es n v l) (hsrc:R5 h es x=.ok (m,r)) (hr:r.length=m*es) (hB:B≤h.next) (hs:d8 r=true) (h1:(n+m)*bytes≤2 ^ 40) (h2:n+m≤2 ^ 40) :
  ∃ v' h',H6 es bytes v x h=okV v' h'∧Own B h' es (n+m) v' (l++r)∧FrB B h h'∧(∀ i,i<h.next→j9 v≠some i→h'.get i=h.get i)∧(∀ i,j9 v'=some i→j9 v=some i∨h.next≤i):=by
 have hlr:(l++r).length=(n+m)*es:=by rw [List.length_append,s.1,hr,Nat.add_mul]
 unfold H6
 rw [hsrc]
 simp only []
 by_cases hm:m=0
 ·subst hm
  have hr0:r=[]:=by simpa using hr
  subst hr0
  refine ⟨v,h,?_,by simpa using s,.refl _ _,fun _ _ _=>rfl,fun i hi=>.inl hi⟩
  rcases s.2 with ⟨rfl,rfl⟩ | ⟨id,off,x',vs,rfl,e2,e3,e4,e5,e6⟩
  ·simp [a09]
  ·have hb:Nat.ble n n=true:=Nat.ble_eq_true_of_le (Nat.le_refl n)
   simp [a09,u7,B9,hb]
 ·rcases s.2 with ⟨rfl,rfl⟩ | ⟨id,off,x',vs,rfl,e2,e3,e4,e5,e6⟩
  ·have hl0:l=[]:=by simpa using s.1
   subst hl0
   refine ⟨.slice h.next 0 m m false es,h.push (.cells r false),?_,?_,(Fr.push (.refl h) _).b hB,fun i hi _=>c7 (by omega),fun i hi=>by cases hi;exact .inr (Nat.le_refl _)⟩
   ·simp only [a09]
    rw [if_neg hm,if_pos ⟨by simpa using h1,by simpa using h2⟩]
   ·rw [Nat.zero_add]
    exact Own.fresh false hB (by simpa using hr)
  ·have hnb:Nat.ble (n+m) n=false:=by
    cases e:Nat.ble (n+m) n with
    | false=>rfl
    | true=>have:=Nat.le_of_ble_eq_true e;omega
   have hld:loadN h id off (n*es)=.ok l:=by
    have hb:Nat.ble (off+n*es) vs.length=true:=Nat.ble_eq_true_of_le e5
    simp [loadN,e4,hb,e6]
   cases x' with
   | true =>
    refine ⟨.slice h.next 0 (n+m) (n+m) false es,h.push (.cells (l++r) false),?_,?_,(Fr.push (.refl h) _).b hB,fun i hi _=>c7 (by omega),fun i hi=>by cases hi;exact .inr (Nat.le_refl _)⟩
    ·simp only [a09,u7,hnb,cond_false,hld,hs,if_true]
     rw [if_neg (by simp),if_pos ⟨h1,h2⟩]
    ·exact Own.fresh false hB hlr
   | false =>
    refine ⟨.slice h.next 0 (n+m) (n+m) false es,(h.kill id).push (.cells (l++r) false),?_,?_,?_,fun i hi hne=>?_,fun i hi=>by cases hi;exact .inr (Nat.le_refl _)⟩
    ·simp only [a09,u7,hnb,cond_false,hld,hs,if_true,e4]
     rw [if_neg (by simp),if_pos ⟨h1,h2⟩]
    ·exact Own.fresh (h:=h.kill id) false hB hlr
    ·exact ⟨by simp,fun i hi=>by rw [c7 (by simp;omega),c0s (by omega)]⟩
    ·rw [c7 (by simp;omega),c0s (by intro e;apply hne;rw [e];rfl)]
theorem k0w:∀ s:Txt,a08 s=by8 (s.map UInt8.toNat)
 | []=>rfl
 | b::s=>by simp only [a08,k0w s];rfl
theorem p0z (s:Txt):R5 h 1 (.str s)=.ok (s.length,by8 (s.map UInt8.toNat)):=by
 simp [R5,k0w]
def Buf (B:Nat) (h:AH) (n cap:Nat) (v:AV) (l:List AV):Prop :=
 l.length=n∧n≤cap∧∃ id rest,v=.slice id 0 n cap true 1∧B≤id∧id<h.next∧h.get id=some (.cells (l++rest) false)∧(l++rest).length=cap
theorem Buf.make {B cap:Nat} (hB:B≤h.next) (k:IntKind) (hc:cap≤2 ^ 40):∃ h',f0G 1 1 [.int .u8 0] (.int .i64 0) (.int k (cap:Int)) h=okV (.slice h.next 0 0 cap true 1) h'∧Buf B h' 0 cap (.slice h.next 0 0 cap true 1) []∧Fr h h':=by
 refine ⟨h.push (.cells (c0q [.int .u8 0] cap) false),?_,⟨rfl,Nat.zero_le _,h.next,c0q [.int .u8 0] cap,rfl,hB,Nat.lt_succ_self _,b8 _,?_⟩,Fr.push (.refl h) _⟩
 ·simp only [f0G]
  rw [if_pos ⟨by omega,by omega,by omega,by omega⟩]
  rfl
 ·rw [i0P];simp
theorem Buf.fr {B n cap:Nat} {h':AH} {v:AV} {l:List AV} (b:Buf B h n cap v l) (f:Fr h h'):Buf B h' n cap v l:=by
 obtain ⟨h1,h2,id,rest,rfl,h4,h5,h6,h7⟩:=b
 exact ⟨h1,h2,id,rest,rfl,h4,Nat.lt_of_lt_of_le h5 f.next,by rw [f.get id h5];exact h6,h7⟩
theorem Buf.sl {B n cap:Nat} {v:AV} {l:List AV} (b:Buf B h n cap v l):Sl h 1 n v l:=by
 obtain ⟨h1,h2,id,rest,rfl,h4,h5,h6,h7⟩:=b
 refine ⟨by omega,.inr ⟨id,0,cap,true,l++rest,false,rfl,h5,h2,h6,?_,?_⟩⟩
 ·rw [h7];omega
 ·rw [List.drop_zero,Nat.mul_one,List.take_left' h1]
theorem Buf.append {B n cap m:Nat} {v x:AV} {l r:List AV} (b:Buf B h n cap v l) (hsrc:R5 h 1 x=.ok (m,r)) (hr:r.length=m) (hs:d8 r=true) (hroom:n+m≤cap) :
  ∃ v' h',H6 1 1 v x h=okV v' h'∧Buf B h' (n+m) cap v' (l++r)∧FrB B h h'∧h'.next=h.next∧j9 v'=j9 v∧∀ i,j9 v≠some i→h'.get i=h.get i:=by
 obtain ⟨h1,h2,id,rest,rfl,h4,h5,h6,h7⟩:=b
 have hle:Nat.ble (n+m) cap=true:=Nat.ble_eq_true_of_le hroom
 unfold H6
 rw [hsrc]
 simp only [a09]
 rw [if_neg (by simp)]
 simp only [u7,hle,cond_true,Nat.zero_add,Nat.mul_one]
 cases r with
 | nil =>
  simp only [List.length_nil] at hr
  subst hr
  refine ⟨_,h,by simp [B9],⟨by simpa using h1,by simpa using hroom,id,rest,rfl,h4,h5,by simpa using h6,by simpa using h7⟩,.refl _ _,rfl,rfl,fun _ _=>rfl⟩
 | cons y r =>
  have hb:Nat.ble (n+(y::r).length) (l++rest).length=true:=Nat.ble_eq_true_of_le (by omega)
  have st:B9 h id n (y::r)=.ok (h.set id (.cells (G3 (l++rest) n (y::r)) false)):=by
   simp only [B9,h6,hb,hs,Bool.and_self,cond_true]
  have hsp:G3 (l++rest) n (y::r)=(l++(y::r))++rest.drop m:=by
   rw [i9,List.take_left' h1,hr,← List.drop_drop,List.drop_left' h1,List.append_assoc]
  rw [st,hsp]
  refine ⟨.slice id 0 (n+m) cap true 1,h.set id (.cells (l++(y::r)++rest.drop m) false),rfl,⟨by rw [List.length_append,h1,hr],hroom,id,rest.drop m,rfl,h4,h5,i8 _ _,?_⟩,⟨Nat.le_refl _,fun i hi=>c8 (by omega)⟩,rfl,rfl,fun i hi=>c8 (by intro e;apply hi;rw [e];rfl)⟩
  rw [List.length_append] at h7
  rw [List.length_append,List.length_append,List.length_drop,hr]
  omega
end
end Go.Dr
