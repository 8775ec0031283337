/-
  The law IndexSeries comes out true whatever it is given, and leaves what it is given as it was. No condition beyond the row's.
-/
import Derived.Test.YtkbddcapcjdenaaGreatDoorT15
namespace Go.Proofs.YtkbddcapcjdenaaGreatDoor
open Go Go.Dr Go.RowKit Go.ChangeShapes Go.WideShapes Go.ChangeAt Go.Lib
set_option maxRecDepth 100000
theorem readIs_0:Tryz.prog.readableRec 30=true:=by kernel_rfl
theorem typIs_0:30<Tryz.prog.types.size:=of_decide_eq_true (by kernel_rfl)
theorem liftedIs (os:Os) (started:os.Started) (H:Type) (enc:TypeId×Value→H) :
  ReturnsInHanded {} Tryz.checked os 4 .any (fun w args=>(Rows.indexSeriesSpec.pre enc Tryz.prog Tryz.f4 [] false w args∧laidMetH Tryz.prog Rows.indexSeriesRow.laid w)∧sizedMet enc Tryz.prog Tryz.f4 (OpenSpec.ofChange Rows.indexSeriesSpec) false w args)
   (Rows.indexSeriesSpec.post enc Tryz.prog Tryz.f4 false true false false):=by
 refine returnsInHanded_of_change_and (C:=Tryz.checked) (X:=fun w _=>laidMetH Tryz.prog Rows.indexSeriesRow.laid w) (fun _ _ _ hh h=>h.of_heap hh) B07 started (by kernel_rfl) Tryz.func4
  (ChangeSpec.witness_at (enc:=enc) (C:=Tryz.checked) (os:=os) (X:=fun w _=>laidMetH Tryz.prog Rows.indexSeriesRow.laid w) false (g0i os) #[.slice none 0 0] 8 rfl (by kernel_rfl) (by kernel_rfl) (by kernel_rfl) (by kernel_rfl) (by kernel_rfl) (v0O os _)) ?_
 intro W base args ds gs before hval0 hW x1 x2 x3 x4
 have hsz:(DataW.weightsEach Tryz.prog (Tryz.f4.params.toList++Rows.indexSeriesSpec.plain.varTypes Tryz.prog) (ds++gs)).all (·≤reachBytes)=true:=by
  first | exact x1 | exact x2 | exact x3 | exact x4
 have hlaid:laidMetH Tryz.prog Rows.indexSeriesRow.laid W:=by
  first | exact x1 | exact x2 | exact x3 | exact x4
 have hval:∀ (j:Nat) t v,Tryz.f4.params[j]? = some t→args[j]? = some v→Value.okWide Tryz.prog W .any base t v:=hval0
 have hW':=hW
 obtain ⟨p,q,hA0,hV0,rfl,_,_⟩:=hW
 have hA:DataW.TrodAll enc Tryz.prog W 0 (fun _=>true) true Tryz.f4.params.toList args.toList ds p:=hA0
 have hlt:∀ x ∈ p,x.block<W.heap.size:=hA.lt
 rw [Tryz.params4] at hA hval
 obtain ⟨v0,d0,rfl,rfl,h0⟩:=trodAll_one hA
 obtain ⟨rfl,rfl⟩:=trodVars_none hV0
 rw [Tryz.params4] at hsz
 have hw0:∀ n ∈ d0.weights Tryz.prog 30,n≤reachBytes:=fun n hn=>of_decide_eq_true (List.all_eq_true.1 hsz n (DataW.weights_mem_each (j:=0) rfl rfl n hn))
 refine (i0G (hval 0 30 v0 rfl rfl) h0 hw0 hlaid).mono fun e W' ⟨he,hb⟩=>?_
 refine ⟨_,he,_,_,_,[],p,[],hW',?_,?_,?_,hb.frame _,fun h=>by cases h⟩
 ·exact trodAll_mk1 (shut_bool Tryz.underlying4 true)
 ·exact trodAll_mk1 (hb.trod v0M readIs_0 typIs_0 h0 hlt)
 ·rfl
theorem indexSeries_said:Rows.IndexSeriesSaid :=
 OpenClaim.holds_of_wide 4 Tryz.f4 rfl rfl rfl rfl rfl rfl rfl ⟨rfl,rfl,rfl,rfl,rfl⟩ rfl rfl rfl rfl rfl (by kernel_rfl) Tryz.func4 (by kernel_rfl)
  (of_decide_eq_true (by kernel_rfl)) (by unfold Func.isWrapper;rw [if_neg (of_decide_eq_false (by kernel_rfl))];exact ⟨rfl,rfl⟩)
  (fun os started H enc _=>liftedIs os started H enc)
theorem standInIs_30:Tryz.prog.wantsStandIn 30=false:=by kernel_rfl
theorem namedIs:Tryz.prog.funcNamed "dryrot/dryrotlaw13.IndexSeries"=some 4:=by kernel_rfl
theorem wfIs:Rows.indexSeriesRow.wfByText (OpenSpec.ofChange Rows.indexSeriesSpec)=true:=by kernel_rfl
theorem goesIs:false=Rows.indexSeriesRow.goesBy Tryz.pinned.checked.prog:=by kernel_rfl
theorem mainIs:Tryz.pinned.checked.prog.mainIs=some (true,"a5dc1be27454e4709e78089cdab1fc4f11f36fc3796fc17fb7ac2c8cb2d388e8".toList):=by kernel_rfl
theorem looksIs:true=Tryz.pinned.checked.prog.looks []:=by kernel_rfl
theorem indexSeries_card:Rows.IndexSeriesCardSaid :=
 Claim7.holds_tied_plain_at .later [] [.data] true (true,"a5dc1be27454e4709e78089cdab1fc4f11f36fc3796fc17fb7ac2c8cb2d388e8") true
  indexSeries_said (fun _ h=>by cases h) wfIs (fun _ h=>by cases h) indexSeries_row_tie rfl ⟨rfl,rfl⟩ mainIs rfl
  (fun f fn hf hfn=>by
   obtain rfl:f=4:=(Option.some.inj (namedIs.symm.trans hf)).symm
   obtain rfl:fn=Tryz.f4:=(Option.some.inj (Tryz.func4.symm.trans hfn)).symm
   exact ⟨looksIs,fun j t ht=>by
    rw [Tryz.params4] at ht
    have h3:t=30:=by
     rcases j with _ | j
     ·simpa using ht.symm
     ·simp at ht
    subst h3
    exact standInIs_30⟩)
  goesIs
end Go.Proofs.YtkbddcapcjdenaaGreatDoor
