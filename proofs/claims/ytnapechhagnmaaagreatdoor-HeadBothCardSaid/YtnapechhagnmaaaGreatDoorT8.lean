/-
  Texts joined.
-/
import Derived.Test.YtnapechhagnmaaaGreatDoorT4
import Derived.Test.YtnapechhagnmaaaGreatDoorT7
import Derived.Test.YtnapechhagnmaaaGreatDoorT6
import Derived.StillTailTactics

namespace Go.Dk
open Go Go.Dr
def cfS (x y:Int×Int):Int:=Go.Lib.compareInt x.1 y.1
noncomputable abbrev S0:b0e:=fun g=>if g=j6 then some (g05 2 [.func (.func o8) [] []] (g0t .i64 .u64 cfS)) else none
def kI (z:Int):AV:=.int .i64 z
def vU (z:Int×Int):Int×AV:=(z.1,.int .u64 z.2)
def i0t (args:List AV) (h:AH) (v:AV) (h':AH):Prop :=
 ∃ rid lv m n L zs a b,args=[.ptr rid 0,.int .i64 (-9223372036854775808),.int .i64 9223372036854775807]∧h.get rid=some (.cells [lv,.map m] false)∧Sl h 2 n lv L∧MapO kI h m (zs.map vU) ∧
  v=.agg [a,b]∧Own h.next h' 2 n a L∧Own h.next h' 2 zs.length b (fl2 .i64 .u64 (R4 cfS zs))∧Fr h h'
noncomputable abbrev SI:b0e:=fun g=>if g=n9 then some (k0D P S0 n9 i0t)
 else if g=a6 then some j0q else c0R F5 g
theorem m0n (h:AH) (K:AV→AH→Prop):Ev P SI (.fn F5) [] h K=K (.bool true) h :=
 Ev.eq ⟨1,.bool true,h,by simp [cl,t6,SI,c0R,F5,n9,a6],rfl,rfl⟩ K
end Go.Dk

namespace Go.Proofs
open Go.Shelf Go.RowKit Go.Lib Go.Sort
set_option maxRecDepth 100000
set_option maxHeartbeats 2000000 in
theorem Tryz.closure75 (x y:Int×Int) (W:World):Calls Tryz.prog 75 #[.agg #[.int .i64 x.1,.int .u64 x.2],.agg #[.int .i64 y.1,.int .u64 y.2]] W fun e w'=>e=.returned (.int .i64 (Lib.compareInt x.1 y.1))∧∃ q os',w'=grow (W.drewN q) os':=by
 have hcon1:=fun W'=>AnyG.cmp_Compare_int Tryz.cmpInt x.1 y.1 W'
 change ∀ W',Calls Tryz.prog 76 _ _ _ at hcon1
 generalize Lib.compareInt x.1 y.1=r1 at hcon1 ⊢
 go_enter Tryz.func75,Tryz.ntmps75
 go_wp2_with (go_at_call 76;refine (hcon1 _).mono ?_;rintro e w' ⟨rfl,rfl⟩)
 go_ret
 exact ⟨rfl,0,_,by rw [alloc_eq_grow,alloc_eq_grow,grow_grow];rfl⟩
end Go.Proofs

namespace Go.Dk
open Go Go.Dr Go.RowKit
set_option maxRecDepth 100000
theorem ltS (x y:Int×Int):Go.Proofs.ltOf cfS x y=decide (x.1<y.1):=by
 unfold Go.Proofs.ltOf cfS Go.Lib.compareInt
 by_cases h1:x.1<y.1
 ·simp [h1]
 ·by_cases h2:y.1<x.1 <;> simp [h1,h2]
theorem m0S:Go.Sort.SWO (Go.Proofs.ltOf cfS) where
 irrefl x:=by rw [ltS];simp
 trans x y z h1 h2:=by rw [ltS] at *;simp only [decide_eq_true_eq] at *;omega
 ntrans x y z h1 h2:=by rw [ltS] at *;simp only [decide_eq_false_iff_not] at *;omega
theorem o0i:Go.Proofs.Tryz.f74.body.isSome=true:=by kernel_rfl
theorem o0j:Go.Proofs.Tryz.f75.body.isSome=true:=by kernel_rfl
theorem l0K (blk off size:Nat) (w:World):Go.Proofs.CmpLays P o8 #[] (f0p .i64 .u64) 2 cfS blk off size w:=fun _ _ _ _ x y=>Go.Proofs.Tryz.closure75 x y _
theorem m0T:RowSortIs P j6 2 [.func (.func o8) [] []] (g0t .i64 .u64 cfS):=by
 refine k0C m0S ?_ ?_ ?_
 ·intro blk off cap d w hH hblk hsz
  exact Go.Proofs.AnyQ.slices_SortFunc Go.Proofs.Tryz.pSort 2 Go.Proofs.Tryz.isAgg48 Go.Proofs.Tryz.sizeOf48 (f0p .i64 .u64) (fun _=>rfl) (fun x v hv=>by simp [f0p] at hv;rcases hv with rfl | rfl <;> rfl) cfS m0S o8 #[] blk off cap d w
   (fun _ w=>V1 (e0G g0y) Go.Proofs.Tryz.func75 o0j w) (l0K blk off d.size w) hH hblk hsz
 ·intro p cap w
  exact Go.Proofs.AnyF.slices_SortFunc_none { Go.Proofs.Tryz.pSort with } p cap _ w
 ·exact fun _ w=>V1 (e0G g0y) Go.Proofs.Tryz.func74 o0i w
theorem p0K (B:Nat) (w0:World):b0m P B w0 S0:=by
 intro f g hs args h v h' he φ w args' ha hG hR
 unfold S0 at hs
 split at hs
 ·rename_i e;subst e;cases hs
  exact m01 m0T (by omega) he ha hR
 ·cases hs
theorem p0L:g0G (t6 P (fun _=>none) 100000 1000 (.fn F5) [] ⟨P.globals.size,.leaf⟩)=true:=by kernel_rfl
theorem p0M (B:Nat) (w0:World):b0m P B w0 SI:=by
 intro f g hs args h v h' he φ w args' ha hG hR
 unfold SI at hs
 split at hs
 ·rename_i e;subst e;cases hs
  exact m02 Go.Proofs.Tryz.pSort.mixed (e0G g0y) (p0K B w0) he ha hG hR
 ·split at hs
  ·rename_i e;subst e;cases hs
   exact n0l he ha hG hR
  ·exact k0e Go.Proofs.Tryz.pSort.mixed g0y p0L B w0 f g hs args h v h' he φ w args' ha hG hR
end Go.Dk
