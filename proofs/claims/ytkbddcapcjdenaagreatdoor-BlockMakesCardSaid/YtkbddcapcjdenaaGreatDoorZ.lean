/-
  The law BlockMakes comes out true whatever it is given, and leaves what it is given as it was. No condition beyond the row's.
-/
import Derived.Test.YtkbddcapcjdenaaGreatDoorT7
namespace Go.Proofs.YtkbddcapcjdenaaGreatDoor
open Go Go.Dr Go.RowKit Go.ChangeShapes Go.WideShapes Go.ChangeAt Go.Lib
set_option maxRecDepth 100000
theorem readBm_0:Tryz.prog.readableRec 30=true:=by kernel_rfl
theorem typBm_0:30<Tryz.prog.types.size:=of_decide_eq_true (by kernel_rfl)
theorem readBm_1:Tryz.prog.readableRec 40=true:=by kernel_rfl
theorem typBm_1:40<Tryz.prog.types.size:=of_decide_eq_true (by kernel_rfl)
theorem liftedBm (os:Os) (started:os.Started) (H:Type) (enc:TypeId×Value→H) :
  ReturnsInHanded {} Tryz.checked os 6 .any (fun w args=>(Rows.blockMakesSpec.pre enc Tryz.prog Tryz.f6 [] false w args∧laidMetH Tryz.prog Rows.blockMakesRow.laid w)∧sizedMet enc Tryz.prog Tryz.f6 (OpenSpec.ofChange Rows.blockMakesSpec) false w args)
   (Rows.blockMakesSpec.post enc Tryz.prog Tryz.f6 false true false false):=by
 refine returnsInHanded_of_change_and (C:=Tryz.checked) (X:=fun w _=>laidMetH Tryz.prog Rows.blockMakesRow.laid w) (fun _ _ _ hh h=>h.of_heap hh) B0Z started (by kernel_rfl) Tryz.func6
  (ChangeSpec.witness_at (enc:=enc) (C:=Tryz.checked) (os:=os) (X:=fun w _=>laidMetH Tryz.prog Rows.blockMakesRow.laid w) false (g0k os) #[.slice none 0 0,.agg #[.int .i64 0,.int .i64 0,.int .i64 0,.int .i64 0,.int .i64 0,.int .i64 0,.int .i64 0,.slice none 0 0]] 8 rfl (by kernel_rfl) (by kernel_rfl) (by kernel_rfl) (by kernel_rfl) (by kernel_rfl) (v0F os _)) ?_
 intro W base args ds gs before hval0 hW x1 x2 x3 x4
 have hsz:(DataW.weightsEach Tryz.prog (Tryz.f6.params.toList++Rows.blockMakesSpec.plain.varTypes Tryz.prog) (ds++gs)).all (·≤reachBytes)=true:=by
  first | exact x1 | exact x2 | exact x3 | exact x4
 have hlaid:laidMetH Tryz.prog Rows.blockMakesRow.laid W:=by
  first | exact x1 | exact x2 | exact x3 | exact x4
 have hval:∀ (j:Nat) t v,Tryz.f6.params[j]? = some t→args[j]? = some v→Value.okWide Tryz.prog W .any base t v:=hval0
 have hW':=hW
 obtain ⟨p,q,hA0,hV0,rfl,_,_⟩:=hW
 have hA:DataW.TrodAll enc Tryz.prog W 0 (fun _=>true) true Tryz.f6.params.toList args.toList ds p:=hA0
 have hlt:∀ x ∈ p,x.block<W.heap.size:=hA.lt
 rw [Tryz.params6] at hA hval
 obtain ⟨v0,v1,d0,d1,p0,p1,rfl,rfl,rfl,h0,h1⟩:=trodAll_two hA
 obtain ⟨rfl,rfl⟩:=trodVars_none hV0
 rw [Tryz.params6] at hsz
 have hw0:∀ n ∈ d0.weights Tryz.prog 30,n≤reachBytes:=fun n hn=>of_decide_eq_true (List.all_eq_true.1 hsz n (DataW.weights_mem_each (j:=0) rfl rfl n hn))
 refine (j01 (hval 0 30 v0 rfl rfl) (hval 1 40 v1 rfl rfl) h0 h1 hw0 hlaid).mono fun e W' ⟨he,hb⟩=>?_
 refine ⟨_,he,_,_,_,[],p0++p1,[],hW',?_,?_,?_,hb.frame _,fun h=>by cases h⟩
 ·exact trodAll_mk1 (shut_bool Tryz.underlying4 true)
 ·exact trodAll_mk2 (hb.trod o0X readBm_0 typBm_0 h0 fun x hx=>hlt x (List.mem_append_left _ hx)) (hb.trod o0X readBm_1 typBm_1 h1 fun x hx=>hlt x (List.mem_append_right _ hx))
 ·rfl
theorem blockMakes_said:Rows.BlockMakesSaid :=
 OpenClaim.holds_of_wide 6 Tryz.f6 rfl rfl rfl rfl rfl rfl rfl ⟨rfl,rfl,rfl,rfl,rfl⟩ rfl rfl rfl rfl rfl (by kernel_rfl) Tryz.func6 (by kernel_rfl)
  (of_decide_eq_true (by kernel_rfl)) (by unfold Func.isWrapper;rw [if_neg (of_decide_eq_false (by kernel_rfl))];exact ⟨rfl,rfl⟩)
  (fun os started H enc _=>liftedBm os started H enc)
theorem standInBm_30:Tryz.prog.wantsStandIn 30=false:=by kernel_rfl
theorem standInBm_40:Tryz.prog.wantsStandIn 40=false:=by kernel_rfl
theorem namedBm:Tryz.prog.funcNamed "dryrot/dryrotlaw19.BlockMakes"=some 6:=by kernel_rfl
theorem wfBm:Rows.blockMakesRow.wfByText (OpenSpec.ofChange Rows.blockMakesSpec)=true:=by kernel_rfl
theorem goesBm:false=Rows.blockMakesRow.goesBy Tryz.pinned.checked.prog:=by kernel_rfl
theorem mainBm:Tryz.pinned.checked.prog.mainIs=some (true,"a5dc1be27454e4709e78089cdab1fc4f11f36fc3796fc17fb7ac2c8cb2d388e8".toList):=by kernel_rfl
theorem looksBm:true=Tryz.pinned.checked.prog.looks []:=by kernel_rfl
theorem blockMakes_card:Rows.BlockMakesCardSaid :=
 Claim7.holds_tied_plain_at .later [] [.data] true (true,"a5dc1be27454e4709e78089cdab1fc4f11f36fc3796fc17fb7ac2c8cb2d388e8") true
  blockMakes_said (fun _ h=>by cases h) wfBm (fun _ h=>by cases h) blockMakes_row_tie rfl ⟨rfl,rfl⟩ mainBm rfl
  (fun f fn hf hfn=>by
   obtain rfl:f=6:=(Option.some.inj (namedBm.symm.trans hf)).symm
   obtain rfl:fn=Tryz.f6:=(Option.some.inj (Tryz.func6.symm.trans hfn)).symm
   exact ⟨looksBm,fun j t ht=>by
    rw [Tryz.params6] at ht
    have h3:t=30∨t=40:=by
     rcases j with _ | _ | j
     ·exact .inl (by simpa using ht.symm)
     ·exact .inr (by simpa using ht.symm)
     ·simp at ht
    rcases h3 with rfl | rfl
    ·exact standInBm_30
    ·exact standInBm_40⟩)
  goesBm
end Go.Proofs.YtkbddcapcjdenaaGreatDoor
