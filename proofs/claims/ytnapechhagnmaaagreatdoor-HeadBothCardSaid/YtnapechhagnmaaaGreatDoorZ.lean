/-
  The law HeadBoth comes out true whatever it is given, and leaves what it is given as it was. No condition beyond the row's.
-/
import Derived.Test.YtnapechhagnmaaaGreatDoorT20
namespace Go.Proofs.YtnapechhagnmaaaGreatDoor
open Go Go.Dr Go.RowKit Go.ChangeShapes Go.WideShapes Go.ChangeAt Go.Lib
set_option maxRecDepth 100000
theorem readHb_0:Tryz.prog.readableRec 27=true:=by kernel_rfl
theorem typHb_0:27<Tryz.prog.types.size:=of_decide_eq_true (by kernel_rfl)
theorem readHb_1:Tryz.prog.readableRec 27=true:=by kernel_rfl
theorem typHb_1:27<Tryz.prog.types.size:=of_decide_eq_true (by kernel_rfl)
theorem liftedHb (os:Os) (started:os.Started) (H:Type) (enc:TypeId×Value→H) :
  ReturnsInHanded {} Tryz.checked os 4 .any (fun w args=>(Rows.headBothSpec.pre enc Tryz.prog Tryz.f4 [] false w args∧laidMetH Tryz.prog Rows.headBothRow.laid w)∧sizedMet enc Tryz.prog Tryz.f4 (OpenSpec.ofChange Rows.headBothSpec) false w args)
   (Rows.headBothSpec.post enc Tryz.prog Tryz.f4 false true false false):=by
 refine returnsInHanded_of_change_and (C:=Tryz.checked) (X:=fun w _=>laidMetH Tryz.prog Rows.headBothRow.laid w) (fun _ _ _ hh h=>h.of_heap hh) p0y started (by kernel_rfl) Tryz.func4
  (ChangeSpec.witness_at (enc:=enc) (C:=Tryz.checked) (os:=os) (X:=fun w _=>laidMetH Tryz.prog Rows.headBothRow.laid w) false (b0h os) #[.slice none 0 0,.slice none 0 0] 8 rfl (by kernel_rfl) (by kernel_rfl) (by kernel_rfl) (by kernel_rfl) (by kernel_rfl) (j0U os _)) ?_
 intro W base args ds gs before hval0 hW x1 x2 x3 x4
 have hsz:(DataW.weightsEach Tryz.prog (Tryz.f4.params.toList++Rows.headBothSpec.plain.varTypes Tryz.prog) (ds++gs)).all (·≤reachBytes)=true:=by
  first | exact x1 | exact x2 | exact x3 | exact x4
 have hval:∀ (j:Nat) t v,Tryz.f4.params[j]? = some t→args[j]? = some v→Value.okWide Tryz.prog W .any base t v:=hval0
 have hW':=hW
 obtain ⟨p,q,hA0,hV0,rfl,_,_⟩:=hW
 have hA:DataW.TrodAll enc Tryz.prog W 0 (fun _=>true) true Tryz.f4.params.toList args.toList ds p:=hA0
 have hlt:∀ x ∈ p,x.block<W.heap.size:=hA.lt
 rw [Tryz.params4] at hA hval
 obtain ⟨v0,v1,d0,d1,p0,p1,rfl,rfl,rfl,h0,h1⟩:=trodAll_two hA
 obtain ⟨rfl,rfl⟩:=trodVars_none hV0
 rw [Tryz.params4] at hsz
 have hw0:∀ n ∈ d0.weights Tryz.prog 27,n≤reachBytes:=fun n hn=>of_decide_eq_true (List.all_eq_true.1 hsz n (DataW.weights_mem_each (j:=0) rfl rfl n hn))
 have hw1:∀ n ∈ d1.weights Tryz.prog 27,n≤reachBytes:=fun n hn=>of_decide_eq_true (List.all_eq_true.1 hsz n (DataW.weights_mem_each (j:=1) rfl rfl n hn))
 refine (e0T (hval 0 27 v0 rfl rfl) (hval 1 27 v1 rfl rfl) h0 h1 hw0 hw1).mono fun e W' ⟨he,hb⟩=>?_
 refine ⟨_,he,_,_,_,[],p0++p1,[],hW',?_,?_,?_,hb.frame _,fun h=>by cases h⟩
 ·exact trodAll_mk1 (shut_bool Tryz.underlying4 true)
 ·exact trodAll_mk2 (hb.trod f02 readHb_0 typHb_0 h0 fun x hx=>hlt x (List.mem_append_left _ hx)) (hb.trod f02 readHb_1 typHb_1 h1 fun x hx=>hlt x (List.mem_append_right _ hx))
 ·rfl
theorem headBoth_said:Rows.HeadBothSaid :=
 OpenClaim.holds_of_wide 4 Tryz.f4 rfl rfl rfl rfl rfl rfl rfl ⟨rfl,rfl,rfl,rfl,rfl⟩ rfl rfl rfl rfl rfl (by kernel_rfl) Tryz.func4 (by kernel_rfl)
  (of_decide_eq_true (by kernel_rfl)) (by unfold Func.isWrapper;rw [if_neg (of_decide_eq_false (by kernel_rfl))];exact ⟨rfl,rfl⟩)
  (fun os started H enc _=>liftedHb os started H enc)
theorem standInHb_27:Tryz.prog.wantsStandIn 27=false:=by kernel_rfl
theorem namedHb:Tryz.prog.funcNamed "dryrot/dryrotlaw15.HeadBoth"=some 4:=by kernel_rfl
theorem wfHb:Rows.headBothRow.wfByText (OpenSpec.ofChange Rows.headBothSpec)=true:=by kernel_rfl
theorem goesHb:false=Rows.headBothRow.goesBy Tryz.pinned.checked.prog:=by kernel_rfl
theorem mainHb:Tryz.pinned.checked.prog.mainIs=some (true,"0ba8caa3be9651bcd0e80d0fdfe0c05c6afa16226d54debfb13a91019b0cd4d8".toList):=by kernel_rfl
theorem looksHb:false=Tryz.pinned.checked.prog.looks []:=by kernel_rfl
theorem headBoth_card:Rows.HeadBothCardSaid :=
 Claim7.holds_tied_plain_at .later [] [.data,.pinned] true (true,"0ba8caa3be9651bcd0e80d0fdfe0c05c6afa16226d54debfb13a91019b0cd4d8") false
  headBoth_said (fun _ h=>by cases h) wfHb (fun _ h=>by cases h) headBoth_row_tie rfl ⟨rfl,rfl⟩ mainHb rfl
  (fun f fn hf hfn=>by
   obtain rfl:f=4:=(Option.some.inj (namedHb.symm.trans hf)).symm
   obtain rfl:fn=Tryz.f4:=(Option.some.inj (Tryz.func4.symm.trans hfn)).symm
   exact ⟨looksHb,fun j t ht=>by
    rw [Tryz.params4] at ht
    have h3:t=27:=by
     rcases j with _ | _ | j
     ·simpa using ht.symm
     ·simpa using ht.symm
     ·simp at ht
    subst h3
    exact standInHb_27⟩)
  goesHb
end Go.Proofs.YtnapechhagnmaaaGreatDoor
