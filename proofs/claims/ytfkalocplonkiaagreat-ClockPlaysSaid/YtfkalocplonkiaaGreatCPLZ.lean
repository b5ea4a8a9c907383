/- The law ClockPlays is true for every input. No condition. -/
import Derived.Test.YtfkalocplonkiaaGreatRows
import Derived.WalkKit
import Derived.ProofKit
import Derived.OpenShut
import Derived.Conc.HoldsTime
import Derived.Test.YtfkalocplonkiaaGreatCPLI
set_option linter.unusedSectionVars false
set_option linter.unusedVariables false
set_option linter.unusedSimpArgs false
set_option maxRecDepth 100000
namespace Go.Proofs.YtfkalocplonkiaaGreat.clockPlays
open Go.ChangeShapes Go.WideShapes Go.ChangeAt Go.RowKit Go.Conc Go.ConcM
theorem own:ownKnob Tryz.prog.godebug=none:=by kernel_rfl
theorem laidOut:laidOutB Tryz.prog=true:=by kernel_rfl
theorem lifted(os:Os)(started:os.Started)(H:Type)(enc:TypeId×Value->H)(F:Stop.Interp):
  ReturnsInLeavingWide Rows.clockPlaysRow.assume Tryz.checked os 3 .any (Rows.clockPlaysSpec.pre6 enc Tryz.prog Tryz.f3 Rows.clockPlaysRow.domain false) ((OpenSpec.ofChange Rows.clockPlaysSpec).postWith enc Tryz.prog Tryz.f3 F (outsideKept [.timePasses]) false true false):=by
 refine returnsInLeavingWide_of_change_time (C:=Tryz.checked) own started Tryz.func3
  (ChangeSpec.witness6c (enc:=enc) (C:=Tryz.checked) ⟨#[],#[.agg #[.slice none 0 0,.int .i64 0,.int .i64 0,.slice none 0 0,.int .i64 0,.int .i64 0,.int .i64 0,.slice none 0 0,.slice none 0 0,.slice none 0 0,.slice none 0 0,.slice none 0 0,.slice none 0 0]],[]⟩ 8 (by kernel_rfl) (by kernel_rfl) (by kernel_rfl) (by kernel_rfl)) ?_
 intro W base args ds gs before fq hW _ ym _
 have qL:∀(j:Nat) t v,Tryz.f3.params[j]?=some t->args[j]?=some v->Value.okWide Tryz.prog W .any base t v:=fq
 have Ey:(DataW.weightsEach Tryz.prog (Tryz.f3.params.toList++Rows.clockPlaysSpec.plain.varTypes Tryz.prog) (ds++gs)).all (·<=reachBytes)=true:=ym
 have o8:=hW
 obtain⟨p,q,hA0,hV,rfl,xE,IM⟩:=hW
 have hA:DataW.TrodAll enc Tryz.prog W 0 (fun _=>true) true Tryz.f3.params.toList args.toList ds p:=hA0
 rw [Tryz.params3]at hA qL Ey
 obtain⟨v0,vs0,d0,ds0,p0,q0,zn,rfl,rfl,h0,r0⟩:=trodAll_cons hA
 obtain⟨rfl,rfl,rfl⟩:=trodAll_nil r0
 obtain rfl:args=#[v0]:=by cases args;simp_all
 obtain⟨rfl,rfl⟩:=trodVars_none hV
 obtain⟨xk,rfl,AFb⟩:=okWide_struct Tryz.underlying25 (qL 0 25 v0 rfl rfl)
 have k0:=h0
 have lt0:∀x∈p0,x.block<W.heap.size:=by obtain⟨m,hm⟩:=k0;exact DataW.trod_lt m _ _ _ hm
 obtain⟨f0,ws,i1,i2,i4,i5,i6,ecs,e1,e2,e4,e5,e6,hIn,hp⟩:∃(f0:Nat->Value) (ws:List Value) (i1 i2 i4 i5 i6:Int),xk=(CX f0).toArray/\f0 1= .int .i64 i1/\f0 2= .int .i64 i2/\f0 4= .int .i64 i4/\f0 5= .int .i64 i5/\f0 6= .int .i64 i6/\fS W.heap (f0 0) ws/\∀j,j=3\/7<=j/\j<=12->∃xs:List Int,Hh W.heap (f0 j) (xs.map iV)/\xs.length<=1000000000000000:=by
  obtain⟨m,hm⟩:=h0
  obtain⟨f0,ws,i1,i2,i4,i5,i6,e,r⟩:=Uk (cs:=xk.toList) hm (fun n hn=>by
   have:=List.all_eq_true.1 Ey n (DataW.weights_mem_each (j:=0) (t:=25) rfl rfl n hn)
   exact SO this)
  exact⟨f0,ws,i1,i2,i4,i5,i6,by cases xk;simp at e;subst e;rfl,r⟩
 subst ecs
 clear hA0 fq
 obtain⟨M,last,o,w',t',z1,z2,z3,v,e,⟨⟨rfl,hu⟩,hs⟩,g1,g2,g3,g4⟩:=Go.TJ.dH (f:=3) (args:=#[.agg (CX f0).toArray]) (W:=W) (R:=fun v h'=>v= .bool true/\Go.TJ.AN (fun _=>False) W.heap h') (by kernel_rfl)
  ((Wr rfl e1 e2 e4 e5 e6 hIn hp).mono (by
   rintro(w|w) h' AW x
   ·obtain⟨x1,x2,x3⟩:=x
    exact⟨x1,x2,x3⟩
   ·exact x.elim))
 refine⟨M,last,o,w',t',z1,z2,z3,_,e,⟨?_,by rw [hs.os];exact OsLater.refl _⟩,g1,g2,g3,g4⟩
 have qc:Below W.heap.size W {w' with os:=W.os}:=⟨rfl,hs.tape,hs.output,hu.size,fun k hk=>hu.same k hk (fun x=>x)⟩
 exact⟨_,_,_,[],_,[],o8,trodAll_mk1 (shut_bool Tryz.underlying4 _),(trodAll_cons_mk (Below.trod laidOut (by kernel_rfl) (SO (by kernel_rfl)) k0 qc lt0) trodAll_mk0),rfl,qc.frame _,fun h=>by cases h⟩
theorem proved:Rows.ClockPlaysSaid:=
 OpenClaim.holds_of_wide_leaving_time 3 Tryz.f3 rfl rfl rfl rfl rfl rfl rfl ⟨rfl,rfl,rfl,rfl,rfl⟩ rfl rfl rfl rfl rfl (by kernel_rfl) Tryz.func3 (by kernel_rfl)
  (SO (by kernel_rfl)) (by unfold Func.isWrapper;first|(rw [if_pos (by decide +kernel)];kernel_rfl)|(rw [if_neg (by decide +kernel)];exact⟨rfl,rfl⟩))
  (fun os started H enc _ F=>lifted os started H enc F)
#print axioms proved
end Go.Proofs.YtfkalocplonkiaaGreat.clockPlays
