/-
  The law ModelFloors: the floor never falls and no sample lies below it, whatever operations are given.
-/
import Derived.Test.YtnapechhagnmaaaGreatDoorT7
namespace Go.Proofs.YtnapechhagnmaaaGreatDoor
open Go Go.Dr Go.RowKit Go.ChangeShapes Go.WideShapes Go.ChangeAt Go.Lib
set_option maxRecDepth 100000
theorem readMf_0:Tryz.prog.readableRec 34=true:=by kernel_rfl
theorem typMf_0:34<Tryz.prog.types.size:=of_decide_eq_true (by kernel_rfl)
theorem liftedMf (os:Os) (started:os.Started) (H:Type) (enc:TypeId×Value→H) :
  ReturnsInHanded {} Tryz.checked os 5 .any (fun w args=>(Rows.modelFloorsSpec.pre enc Tryz.prog Tryz.f5 [] false w args∧laidMetH Tryz.prog Rows.modelFloorsRow.laid w)∧sizedMet enc Tryz.prog Tryz.f5 (OpenSpec.ofChange Rows.modelFloorsSpec) false w args)
   (Rows.modelFloorsSpec.post enc Tryz.prog Tryz.f5 false true false false):=by
 refine t0O (C:=Tryz.checked) (X:=fun w _=>laidMetH Tryz.prog Rows.modelFloorsRow.laid w) (fun _ _ _ hh h=>h.of_heap hh) v0r started (by kernel_rfl) Tryz.func5
  (ChangeSpec.witness_at (enc:=enc) (C:=Tryz.checked) (os:=os) (X:=fun w _=>laidMetH Tryz.prog Rows.modelFloorsRow.laid w) false (d0J os) #[.slice none 0 0] 8 rfl (by kernel_rfl) (by kernel_rfl) (by kernel_rfl) (by kernel_rfl) (by kernel_rfl) (o04 os _)) ?_
 intro W base args ds gs before hval0 hW hsz hlaid hsh
 have hval:∀ (j:Nat) t v,Tryz.f5.params[j]? = some t→args[j]? = some v→Value.okWide Tryz.prog W .any base t v:=hval0
 have hW':=hW
 obtain ⟨p,q,hA0,hV0,rfl,_,_⟩:=hW
 have hA:DataW.TrodAll enc Tryz.prog W 0 (fun _=>true) true Tryz.f5.params.toList args.toList ds p:=hA0
 have hlt:∀ x ∈ p,x.block<W.heap.size:=hA.lt
 rw [Tryz.params5] at hA hval
 obtain ⟨v0,d0,rfl,rfl,h0⟩:=trodAll_one hA
 obtain ⟨rfl,rfl⟩:=trodVars_none hV0
 rw [Tryz.params5] at hsz
 have hw0:∀ n ∈ d0.weights Tryz.prog 34,n≤reachBytes:=fun n hn=>of_decide_eq_true (List.all_eq_true.1 hsz n (DataW.weights_mem_each (j:=0) rfl rfl n hn))
 refine (f09 (hval 0 34 v0 rfl rfl) h0 hw0 hlaid hsh).mono fun e W' ⟨he,hb⟩=>?_
 refine ⟨_,he,_,_,_,[],p,[],hW',?_,?_,?_,hb.frame _,fun h=>by cases h⟩
 ·exact trodAll_mk1 (shut_bool Tryz.underlying4 true)
 ·exact trodAll_mk1 (hb.trod o02 readMf_0 typMf_0 h0 hlt)
 ·rfl
theorem modelFloors_said:Rows.ModelFloorsSaid :=
 OpenClaim.holds_of_wide 5 Tryz.f5 rfl rfl rfl rfl rfl rfl rfl ⟨rfl,rfl,rfl,rfl,rfl⟩ rfl rfl rfl rfl rfl (by kernel_rfl) Tryz.func5 (by kernel_rfl)
  (of_decide_eq_true (by kernel_rfl)) (by unfold Func.isWrapper;rw [if_neg (of_decide_eq_false (by kernel_rfl))];exact ⟨rfl,rfl⟩)
  (fun os started H enc _=>liftedMf os started H enc)
theorem standInMf_34:Tryz.prog.wantsStandIn 34=false:=by kernel_rfl
theorem namedMf:Tryz.prog.funcNamed "dryrot/dryrotlaw23.ModelFloors"=some 5:=by kernel_rfl
theorem wfMf:Rows.modelFloorsRow.wfByText (OpenSpec.ofChange Rows.modelFloorsSpec)=true:=by kernel_rfl
theorem goesMf:false=Rows.modelFloorsRow.goesBy Tryz.pinned.checked.prog:=by kernel_rfl
theorem mainMf:Tryz.pinned.checked.prog.mainIs=some (true,"0ba8caa3be9651bcd0e80d0fdfe0c05c6afa16226d54debfb13a91019b0cd4d8".toList):=by kernel_rfl
theorem looksMf:false=Tryz.pinned.checked.prog.looks []:=by kernel_rfl
theorem modelFloors_card:Rows.ModelFloorsCardSaid :=
 Claim7.holds_tied_plain_at .later [] [.data,.pinned] true (true,"0ba8caa3be9651bcd0e80d0fdfe0c05c6afa16226d54debfb13a91019b0cd4d8") false
  modelFloors_said (fun _ h=>by cases h) wfMf (fun _ h=>by cases h) modelFloors_row_tie rfl ⟨rfl,rfl⟩ mainMf rfl
  (fun f fn hf hfn=>by
   obtain rfl:f=5:=(Option.some.inj (namedMf.symm.trans hf)).symm
   obtain rfl:fn=Tryz.f5:=(Option.some.inj (Tryz.func5.symm.trans hfn)).symm
   exact ⟨looksMf,fun j t ht=>by
    rw [Tryz.params5] at ht
    have h3:t=34:=by
     rcases j with _ | j
     ·simpa using ht.symm
     ·simp at ht
    subst h3
    exact standInMf_34⟩)
  goesMf
end Go.Proofs.YtnapechhagnmaaaGreatDoor
