/- Steps of the walk and of the plain law (RunB to RunO). Conditions: as each lemma says. -/
import Derived.Test.YtfkalocplonkiaaGreatCPLB
set_option linter.unusedSectionVars false
set_option linter.unusedVariables false
set_option linter.unusedSimpArgs false
set_option maxHeartbeats 8000000
set_option maxRecDepth 8000
namespace Go.Proofs.YtfkalocplonkiaaGreat
open Go Go.TJ Go.Conc Go.Proofs
section
section
variable{X:Us}{W:Nat->Prop}{p p':PS X.U}{ns:List Nat}{s:Pu}{M:Mem Nm}{h h':Hp}
theorem GI.row(g:GI X W p ns s M h){i:Nat}(hi:i<p.num){t:Ph}{v:Value}{a:List Value}(ha:Lf i t v a)(e:Bool):
  GI X W {p with st:=ut p.st i t,gone:=ut p.gone i e} ns s (M.set (.t i) (FG p.R i (p.wk i) (p.sd i) v a e)) (h.setIfInBounds (p.tb i) (FG p.R i (p.wk i) (p.sd i) v a e)):=by
 obtain⟨x1,x2,x3⟩:=g.all (.t i) hi
 rw [<-x2]
 refine g.set x1 _ rfl rfl rfl rfl (fun k' hk x=>?_) (fun _=>⟨x1,x2,v,a,?_,?_⟩) g.num g.JG
 ·cases k' with
  | t j=>
   intro hj
   have M9:j≠i:=fun e=>hk (by rw [e])
   obtain⟨y1,y2,w,c,y3,y4⟩:=x hj
   refine⟨y1,y2,w,c,?_,?_⟩
   ·show Lf j (ut p.st i t j) w c
    rw [Ai _ _ M9];exact y3
   ·show _=FG p.R j (p.wk j) (p.sd j) w c (ut p.gone i e j)
    rw [Ai _ _ M9];exact y4
  | _=>exact x
 ·show Lf i (ut p.st i t i) v a
  rw [AL];exact ha
 ·show(M.set (.t i) _).O (.t i)=FG p.R i (p.wk i) (p.sd i) v a (ut p.gone i e i)
  rw [AL];exact AL _ _ _
theorem MV{b:Nat}:∀{l:List Nat},b∈l->∀l',(l++l').idxOf b=l.idxOf b
 | [],h,_=>by cases h
 | x::l,h,l'=>by
  rw [List.cons_append,List.idxOf_cons,List.idxOf_cons]
  by_cases e:(x==b)=true
  ·rw [e];rfl
  ·have e':(x==b)=false:=by simpa using e
   rw [e']
   simp only [cond_false]
   rw [MV ((List.mem_cons.1 h).resolve_left (fun y=>by subst y;simp at e')) l']
theorem Wo{ns:List Nat}{e:Ev}(he:e.b∈ns)(l:List Nat):CF (ns++l) e=CF ns e:=by
 unfold CF
 rw [MV he]
theorem Wn{ns:List Nat}{l:List Ev}(hl:∀e,e∈l->e.b∈ns)(l':List Nat):l.flatMap (CF (ns++l'))=l.flatMap (CF ns):=by
 induction l with
 | nil=>rfl
 | cons e l ih=>
  simp only [List.flatMap_cons]
  rw [Wo (hl e (by simp)),ih (fun x hx=>hl x (by simp [hx]))]
theorem GI.UA(g:GI X W p ns s M h){b:Nat}(hb:X.FC b){es:Array MapEntry}{c:Nat}(_hM:M.O .map= .map es c)(hk:F1 es (DY ns 0)):
  GI X W p (ns++[b]) s (M.set .map (.map (es.push {key:=.pointer (some ⟨b,0,none⟩),val:=.int .i64 (ns.length:Int),born:=c}) (c+1))) (h.setIfInBounds p.mb (.map (es.push {key:=.pointer (some ⟨b,0,none⟩),val:=.int .i64 (ns.length:Int),born:=c}) (c+1))):=by
 obtain⟨x1,x2,x3⟩:=g.all .map
 rw [<-x2]
 refine g.set x1 _ rfl rfl rfl rfl (fun k' Dh x=>?_) ⟨x1,x2,es.push {key:=.pointer (some ⟨b,0,none⟩),val:=.int .i64 (ns.length:Int),born:=c},c+1,Ob _ _ _,?_⟩ (fun b' DN=>?_) (fun e he=>GR _ (g.JG e he))
 ·cases k' with
  | map=>exact absurd rfl Dh
  | log=>
   show(M.set _ _).Sl .log s.L _ 8 p.log.length (p.log.flatMap (CF (ns++[b])))
   rw [Wn g.JG];exact x
  | _=>exact x
 ·rw [Km]
  have:=hk.push ⟨b,0,none⟩ (.int .i64 (ns.length:Int)) c
  rw [Nat.zero_add]
  exact this
 ·rcases Ff.1 DN with y|y
  ·exact g.num b' y
  ·rw [DD.1 y];exact hb
theorem GI.app(g:GI X W p ns s M h)(k:Nm){sv s':Value}{e sz n:Nat}{cells new:List Value}{sl:Pu}(x:M.Sl k sv e sz n cells)(hs:AR h' s' e sz (n+1) (cells++new))(u:AN (fun b=>blk sv=some b) h h')(hb:∀b,blk s'=some b->blk sv=some b\/b=h.size)(hW:∀b,h.size<=b->W b)(hkr:k≠ .run)
  (hv:p'.val=p.val) (hu:p'.u=p.u) (U7:∀i,i<p'.num->∀q,q∈p'.CZ i->i<p.num/\q∈p.CZ i) (hR:p'.R=p.R) (hm:p'.mb=p.mb) (Dn:p'.stops=p.stops)
  (h1:∀k',k'≠k->k'≠ .run->K1 p' ns sl M k') (h2:∀N:Mem Nm,N.Sl k s' e sz (n+1) (cells++new)->K1 p' ns sl N k) (h4:∀e,e∈p'.log->e.b∈ns):
  ∃M',GI X W p' ns sl M' (h'.setIfInBounds p.R (DC sl p.mb p.stops)):=by
 obtain⟨b,o,r',xs,DN,Cg⟩:=g.Ju.app x hs u hb
 have nT:∀c,c<h.size->(∀k',M.ok k'->M.B k'≠c)->h'[c]?=h[c]?:=fun c hc B7=>u.2 c hc (fun y=>by
  obtain⟨z1,z2⟩:=x.blk y
  exact B7 k z1 z2.symm)
 have nb:∀c,c<h.size->(∀k',M.ok k'->M.B k'≠c)->c≠b:=fun c hc B7 e=>by
  subst e
  rcases DN with⟨y1,y2⟩|y
  ·exact B7 k y1 y2.symm
  ·omega
 have xp:∀c,X.FC c->c<h.size/\∀k',M.ok k'->M.B k'≠c:=fun c hc=>⟨Ap (g.Fu c hc).1,fun k' Dh e=>(g.apart k' Dh).1 (e▸hc)⟩
 have apD:∀c,X.HE p.u c->c<h.size/\∀k',M.ok k'->M.B k'≠c:=fun c hc=>⟨(g.Hg c hc).1,fun k' Dh e=>(g.apart k' Dh).2 (e▸hc)⟩
 have wb:W b:=DN.elim (fun y=>by rw [y.2];exact g.wide k y.1) (hW b)
 have g1:∀k',k'≠k->k'≠ .run->K1 p' ns sl (M.put k b o) k':=fun k' hk Dh=>(h1 k' hk Dh).put hk
 obtain⟨x1,x2,x3⟩:=g.all .run
 have okr:(M.put k b o).ok .run:=.inr x1
 have eBr:(M.put k b o).B .run=p.R:=(Ai M.B b (Ne.symm hkr)).trans x2
 refine⟨(M.put k b o).set .run (DC sl p.mb p.stops),?_⟩
 have rr:=r'.set (k:=.run) okr (DC sl p.mb p.stops)
 rw [eBr]at rr
 have nR:∀c,c<h.size->(∀k',M.ok k'->M.B k'≠c)->(h'.setIfInBounds p.R (DC sl p.mb p.stops))[c]?=h[c]?:=fun c hc B7=>by
  rw [AX _ (by rw [<-x2];exact B7 .run x1)]
  exact nT c hc B7
 have bk:∀k',(M.put k b o).ok k'->(k'=k/\(M.put k b o).B k'=b)\/(k'≠k/\M.ok k'/\(M.put k b o).B k'=M.B k'):=fun k' Dh=>by
  by_cases e:k'=k
  ·subst e;exact .inl ⟨rfl,AL M.B _ _⟩
  ·exact .inr ⟨e,Dh.resolve_left e,Ai M.B _ e⟩
 refine⟨rr,fun k'=>?_,fun k' Dh=>?_,fun c hc=>?_,fun k' Dh=>?_,fun c hc=>?_,g.num,h4,fun i hi q hq=>?_,?_⟩
 ·by_cases e1:k'= .run
  ·subst e1
   refine⟨okr,eBr.trans hR.symm,?_⟩
   rw [hm,Dn];exact Ob _ _ _
  ·by_cases e2:k'=k
   ·subst e2
    exact h2 _ (Mem.Sl.set xs hkr _)
   ·exact(g1 k' e2 e1).set e1
 ·show W ((M.put k b o).B k')
  rcases bk k' Dh with⟨_,e⟩|⟨_,y,e⟩
  ·rw [e];exact wb
  ·rw [e];exact g.wide k' y
 ·rw [hv]
  obtain⟨y1,y2⟩:=xp c hc
  exact⟨(nR c y1 y2).trans (g.Fu c hc).1,(g.Fu c hc).2⟩
 ·show ¬X.FC ((M.put k b o).B k')/\¬X.HE p'.u ((M.put k b o).B k')
  rw [hu]
  rcases bk k' Dh with⟨_,e⟩|⟨_,y,e⟩
  ·rw [e]
   exact⟨fun hc=>nb b (xp b hc).1 (xp b hc).2 rfl,fun hc=>nb b (apD b hc).1 (apD b hc).2 rfl⟩
  ·rw [e];exact g.apart k' y
 ·rw [hu]at hc
  rw [JY]
  exact⟨F0 (g.Hg c hc).1 u.size,(g.Hg c hc).2⟩
 ·obtain⟨hi,hq⟩:=U7 i hi q hq
  obtain⟨y1,y2,y3,y4,y5⟩:=g.CZ i hi q hq
  refine⟨(nR q.1 (Ap y1) y3).trans y1,y2,fun k' Dh e=>?_,y4,by rw [hu];exact y5⟩
  rcases bk k' Dh with⟨_,e'⟩|⟨_,y,e'⟩
  ·exact nb q.1 (Ap y1) y3 (e.symm.trans e')
  ·exact y3 k' y (e'.symm.trans e)
 ·intro i j hi hj B7 q q' hq Eh
  obtain⟨hi,hq⟩:=U7 i hi q hq
  obtain⟨hj,Eh⟩:=U7 j hj q' Eh
  exact g.Ir i j hi hj B7 q q' hq Eh
theorem GI.putAt(g:GI X W p ns s M h){k:Nm}{b:Nat}{o:Obj}(hb:h[b]?=some o)(B7:∀k',M.ok k'->k'≠k->M.B k'≠b)(hW:W b)(hC:¬X.FC b)(hD:¬X.HE p.u b)(hP:∀i,i<p.num->∀q,q∈p.CZ i->q.1≠b)(hv:K1 p ns s (M.put k b o) k):GI X W p ns s (M.put k b o) h:=by
 have bk:∀k',(M.put k b o).ok k'->(k'=k/\(M.put k b o).B k'=b)\/(k'≠k/\M.ok k'/\(M.put k b o).B k'=M.B k'):=fun k' Dh=>by
  by_cases e:k'=k
  ·subst e;exact .inl ⟨rfl,AL M.B _ _⟩
  ·exact .inr ⟨e,Dh.resolve_left e,Ai M.B _ e⟩
 refine⟨⟨fun k' Dh=>?_,fun k' wD Dh yw e=>?_⟩,fun k'=>?_,fun k' Dh=>?_,g.Fu,fun k' Dh=>?_,g.Hg,g.num,g.JG,fun i hi q hq=>?_,g.Ir⟩
 ·rcases bk k' Dh with⟨rfl,e⟩|⟨hn,y,e⟩
  ·rw [e,hb];exact congrArg some (AL M.O _ _).symm
  ·rw [e,g.Ju.has k' y];exact congrArg some (Ai M.O _ hn).symm
 ·rcases bk k' Dh with⟨rfl,e1⟩|⟨hn,y,e1⟩ <;> rcases bk wD yw with⟨rfl,e2⟩|⟨mr,y2,e2⟩
  ·rfl
  ·exact absurd (e2.symm.trans (e.symm.trans e1)) (B7 wD y2 mr)
  ·exact absurd (e1.symm.trans (e.trans e2)) (B7 k' y hn)
  ·exact g.Ju.inj k' wD y y2 (e1.symm.trans (e.trans e2))
 ·by_cases e:k'=k
  ·subst e;exact hv
  ·exact(g.all k').put e
 ·rcases bk k' Dh with⟨_,e⟩|⟨_,y,e⟩
  ·rw [e];exact hW
  ·rw [e];exact g.wide k' y
 ·rcases bk k' Dh with⟨_,e⟩|⟨_,y,e⟩
  ·rw [e];exact⟨hC,hD⟩
  ·rw [e];exact g.apart k' y
 ·obtain⟨y1,y2,y3,y4,y5⟩:=g.CZ i hi q hq
  refine⟨y1,y2,fun k' Dh=>?_,y4,y5⟩
  rcases bk k' Dh with⟨_,e⟩|⟨_,y,e⟩
  ·rw [e];exact Ne.symm (hP i hi q hq)
  ·rw [e];exact y3 k' y
theorem GI.Yi(g:GI X W p ns s M h){e:Ev}(he:e.b∈ns){s':Value}(hs:AR h' s' 38 8 (p.log.length+1) (p.log.flatMap (CF ns)++CF ns e))(u:AN (fun b=>blk s.L=some b) h h')(hb:∀b,blk s'=some b->blk s.L=some b\/b=h.size)(hW:∀b,h.size<=b->W b):
  ∃M',GI X W {p with log:=p.log++[e]} ns {s with L:=s'} M' (h'.setIfInBounds p.R (DC {s with L:=s'} p.mb p.stops)):=by
 refine g.app (p':={p with log:=p.log++[e]}) .log (g.all .log) hs u hb hW nofun rfl rfl (fun i hi q hq=>⟨hi,hq⟩) rfl rfl rfl (fun k' h1 h2=>?_) (fun N y=>?_) (fun e' iZ=>?_)
 ·have y:=g.all k'
  cases k' with
  | log=>exact absurd rfl h1
  | run=>exact absurd rfl h2
  | _=>exact y
 ·show N.Sl .log s' _ 8 (p.log++[e]).length ((p.log++[e]).flatMap (CF ns))
  rw [C1,Ln]
  simpa using y
 ·rcases Ff.1 iZ with z|z
  ·exact g.JG e' z
  ·rw [DD.1 z];exact he
end
end
section
structure GG(X:Us) where
 p:PS X.U
 Dl:PS X.U
 base:Hp
 W:Nat->Prop
 run:Nat
def PY(W:Nat->Prop)(base:Hp)(b:Nat):Prop:=W b\/base.size<=b
def Ja:Ph->Bool
 | .over=>true
 | _=>false
section
variable{X:Us}
def cM(γ:GG X):Addr->Option Value:=fun a=>if a=⟨γ.p.tb γ.run,3,none⟩then some (.chan (some (γ.p.sd γ.run)))else none
def cT(γ:GG X)(j:Nat):Addr->Option Value:=fun a=>if a=⟨γ.p.tb j,2,none⟩then some (.chan (some (γ.p.wk j)))else if a=⟨γ.p.bx j,0,none⟩then some (.pointer (some ⟨γ.p.tb j,0,none⟩))else none
structure View(X:Us)(j:Nat)(p p':PS X.U):Prop where
 num:p.num<=p'.num
 R:p'.R=p.R
 tb:p'.tb j=p.tb j
 wk:p'.wk j=p.wk j
 sd:p'.sd j=p.sd j
 bx:p'.bx j=p.bx j
 bf:p'.bf j=p.bf j
 br:p'.br j=p.br j
 fn:p'.fn j=p.fn j
 st:p'.st j=p.st j
 gone:p'.gone j=p.gone j
 CZ:p'.CZ j=p.CZ j
 own:Bm j p'.log=Bm j p.log
 V:X.V j p.u p'.u
theorem View.trans{j:Nat}{a b c:PS X.U}(hX:X.Ok)(x:View X j a b)(y:View X j b c):View X j a c:=
 ⟨Dt x.num y.num,y.R.trans x.R,y.tb.trans x.tb,y.wk.trans x.wk,y.sd.trans x.sd,y.bx.trans x.bx,y.bf.trans x.bf,y.br.trans x.br,y.fn.trans x.fn,y.st.trans x.st,y.gone.trans x.gone,y.CZ.trans x.CZ,y.own.trans x.own,hX.T8 _ _ _ _ x.V y.V⟩
structure X7(X:Us)(γ:GG X)(h:Hp):Prop where
 gi:∃s M,GI X (PY γ.W γ.base) γ.p (Ab γ.p.log) s M h
 I:X.I γ.p.u h
 J:X.J γ.p.log γ.p.u γ.p.val
 Q:∀x,X.Q x (Bm x γ.p.log) (γ.p.st x) γ.p.u
 upd:AN γ.W γ.base h
def UK(X:Us)(Dl p:PS X.U)(i:Nat):Prop:=
 (Dl.stops=false/\∃u L t,p=Dl.GQ i u L t (Ja t)/\t≠ .born/\∀r,t= .Bp r->JJ X r)\/(Dl.stops=true/\p={Dl with gone:=ut Dl.gone i true})
def P0(X:Us)(γ:GG X)(h:Hp):Prop:=γ.run<γ.p.num/\UK X γ.Dl γ.p γ.run/\X7 X γ h
structure P1(X:Us)(j:Nat)(γ:GG X)(h:Hp):Prop where
 run:γ.run=j
 lt:j<γ.p.num
 live:γ.p.gone j=false
 Dl:γ.Dl=γ.p
 held:X7 X γ h
 len:γ.p.stops=false->γ.p.log.length<65536
 born:γ.p.st j= .born->γ.p.stops=false
def PX(X:Us):EX (GG X) where
 num γ:=γ.p.num+1
 ch γ i:=match i with
  | 0=>some (γ.p.sd γ.run)
  | j+1=>if γ.p.gone j=true then none else some (γ.p.wk j)
 cells γ i:=match i with
  | 0=>cM γ
  | j+1=>cT γ j
 R i γ Ae:=match i with
  | 0=>Ae.Dl=γ.Dl/\Ae.base=γ.base/\Ae.W=γ.W/\Ae.run=γ.run
  | j+1=>View X j γ.p Ae.p
 Gf i γ h:=match i with
  | 0=>P0 X γ h
  | j+1=>P1 X j γ h
theorem A2{W T:Nat->Prop}{base h h':Hp}(x:AN W base h)(y:AN T h h')(ht:∀b,b<base.size->T b->W b):AN W base h':=
 ⟨Dt x.size y.size,fun b hb hn=>(y.2 b (by have:=x.size;omega) (fun t=>hn (ht b hb t))).trans (x.2 b hb hn)⟩
theorem Qo{W:Nat->Prop}{base h:Hp}(u:AN W base h){b:Nat}(o:Obj)(hb:PY W base b):AN W base (h.setIfInBounds b o):=by
 refine⟨by rw [JY];exact u.size,fun c hc hn=>?_⟩
 have:b≠c:=by
  rintro rfl
  rcases hb with y|y
  ·exact hn y
  ·omega
 rw [AX _ this]
 exact u.2 c hc hn
theorem X7.chan(hX:X.Ok){γ:GG X}{h:Hp}(x:X7 X γ h){i:Nat}(hi:i<γ.p.num){c:Nat}(hc:c=γ.p.wk i\/c=γ.p.sd i){k:Nat}:X7 X γ (h.setIfInBounds c (.chan 0 #[] false k k false)):=by
 obtain⟨s,M,g⟩:=x.gi
 obtain⟨M',g'⟩:=g.chan hi hc (k:=k)
 have hk:∃k',M.ok k'/\M.B k'=c:=by
  rcases hc with rfl|rfl
  ·have:=g.all (.wk i) hi;exact⟨_,this.1,this.2.1⟩
  ·have:=g.all (.sd i) hi;exact⟨_,this.1,this.2.1⟩
 obtain⟨k',aU,mw⟩:=hk
 exact⟨⟨s,M',g'⟩,hX.loc _ _ _ (fun b hb=>AX _ (fun e=>(g.apart k' aU).2 (by rw [mw,e];exact hb))) x.I,x.J,x.Q,Qo x.upd _ (by rw [<-mw];exact g.wide k' aU)⟩
theorem rE(hX:X.Ok):(PX X).Ok:=by
 refine⟨fun i a b c x y=>?_,fun i γ h c k hc hp hk=>?_⟩
 ·cases i with
  | zero=>
   obtain⟨x1,x2,x3,x4⟩:=x
   obtain⟨y1,y2,y3,y4⟩:=y
   exact⟨y1.trans x1,y2.trans x2,y3.trans x3,y4.trans x4⟩
  | succ j=>exact View.trans hX x y
 ·cases i with
  | zero=>
   obtain⟨p1,p2,p3⟩:=hp
   obtain rfl:γ.p.sd γ.run=c:=D4 hc
   exact⟨p1,p2,p3.chan hX p1 (.inr rfl)⟩
  | succ j=>
   obtain⟨p1,p2,p3,p4,p5,p6,p7⟩:=hp
   change (if γ.p.gone j=true then none else some (γ.p.wk j))=some c at hc
   rw [if_neg (by rw [p3];decide)]at hc
   obtain rfl:=D4 hc
   exact⟨p1,p2,p3,p4,p5.chan hX p2 (.inl rfl),p6,p7⟩
section
variable{U:Type}(p:PS U)(i:Nat)
theorem Dk:(p.acc i).R=p.R/\(p.acc i).mb=p.mb/\(p.acc i).num=p.num/\(p.acc i).tb=p.tb/\(p.acc i).wk=p.wk/\(p.acc i).sd=p.sd/\(p.acc i).bx=p.bx/\(p.acc i).bf=p.bf/\(p.acc i).br=p.br/\(p.acc i).fn=p.fn/\(p.acc i).st=p.st/\(p.acc i).gone=p.gone/\(p.acc i).CZ=p.CZ/\(p.acc i).Ax=p.Ax/\(p.acc i).Da=p.Da/\(p.acc i).stops=p.stops/\(p.acc i).u=p.u/\(p.acc i).fl=p.fl:=by
 unfold PS.acc
 split <;> exact⟨rfl,rfl,rfl,rfl,rfl,rfl,rfl,rfl,rfl,rfl,rfl,rfl,rfl,rfl,rfl,rfl,rfl,rfl⟩
theorem Ig{r:Rq}(h:p.st i= .Bp r):p.acc i={p with log:=p.log++[Co i r (p.val r.b)],val:=ut p.val r.b (behind r.op (p.val r.b) r.arg r.new).1}:=by
 unfold PS.acc;rw [h]
theorem L3(h:p.st i= .born):p.acc i=p:=by
 unfold PS.acc;rw [h]
theorem Sq(j:Nat)(l:List Ev)(e:Ev):Bm j (l++[e])=if e.BI=j then Bm j l++[e]else Bm j l:=by
 unfold Bm
 rw [List.filter_append]
 by_cases h:e.BI=j <;> simp [h]
theorem Ra{j:Nat}(h:j≠i):Bm j (p.acc i).log=Bm j p.log:=by
 unfold PS.acc
 split
 ·show Bm j (p.log++[_])=_
  rw [Sq,if_neg (fun e=>h e.symm)]
 ·rfl
end
theorem QE{p:PS X.U}{i j:Nat}(h:j≠i){u:X.U}(hV:X.V j p.u u)(L:List (Nat×Obj))(t:Ph)(e:Bool):View X j p (p.GQ i u L t e):=by
 obtain⟨a1,a2,a3,a4,a5,a6,a7,a8,a9,NU,R0,VA,nX,_⟩:=Dk p i
 exact⟨by show p.num<=(p.acc i).num;rw [a3];exact CY _,a1,congrFun a4 j,congrFun a5 j,congrFun a6 j,congrFun a7 j,congrFun a8 j,congrFun a9 j,congrFun NU j,(Ai _ _ h).trans (congrFun R0 j),(Ai _ _ h).trans (congrFun VA j),(Ai _ _ h).trans (congrFun nX j),Ra p i h,hV⟩
structure Gk(X:Us)(i:Nat)(p p':PS X.U):Prop where
 tb:p'.tb i=p.tb i
 bx:p'.bx i=p.bx i
 br:p'.br i=p.br i
 R:p'.R=p.R
theorem Gk.refl(i:Nat)(p:PS X.U):Gk X i p p:=⟨rfl,rfl,rfl,rfl⟩
theorem Gk.trans{i:Nat}{a b c:PS X.U}(x:Gk X i a b)(y:Gk X i b c):Gk X i a c:=⟨y.tb.trans x.tb,y.bx.trans x.bx,y.br.trans x.br,y.R.trans x.R⟩
structure GB(X:Us)(i:Nat)(γ:GG X)(u:X.U)(L:List (Nat×Obj))(h:Hp):Prop where
 run:γ.run=i
 lt:i<γ.p.num
 live:γ.p.gone i=false
 go:γ.p.stops=false
 Dl:γ.Dl=γ.p
 gi:∃s M,GI X (PY γ.W γ.base) {γ.p.acc i with u:=u,CZ:=ut (γ.p.acc i).CZ i L} (Ab (γ.p.acc i).log) s M h
 I:X.I u h
 J:X.J γ.p.log γ.p.u γ.p.val
 Q:∀x,X.Q x (Bm x γ.p.log) (γ.p.st x) γ.p.u
 V:∀x,x≠i->X.V x γ.p.u u
 upd:AN γ.W γ.base h
 len:γ.p.log.length<65536
structure Stp(X:Us)(i:Nat)(γ:GG X)(h:Hp):Prop where
 stops:γ.p.stops=true
 P:P1 X i γ h
theorem GB.user{i:Nat}{γ:GG X}{u u':X.U}{L L':List (Nat×Obj)}{h h':Hp}(hX:X.Ok)(T:GB X i γ u L h)(hu:AN (fun b=>X.HE u b\/∃q,q∈L/\q.1=b) h h')(h1:∀b,X.HE u' b->(X.HE u b\/h.size<=b)/\b<h'.size)
  (h2:∀q,q∈L'->h'[q.1]?=some q.2/\((∃q0,q0∈L/\q0.1=q.1)\/h.size<=q.1)/\¬X.HE u' q.1) (hI:X.I u' h') (hV:∀x,x≠i->X.V x u u'):GB X i γ u' L' h':=by
 obtain⟨s,M,g⟩:=T.gi
 have hn:i<({γ.p.acc i with u:=u,CZ:=ut (γ.p.acc i).CZ i L}:PS X.U).num:=by show i<(γ.p.acc i).num;rw [(Dk γ.p i).2.2.1];exact T.lt
 have hW:∀b,h.size<=b->PY γ.W γ.base b:=fun b hb=>.inr (Dt T.upd.size hb)
 have eL:({γ.p.acc i with u:=u,CZ:=ut (γ.p.acc i).CZ i L}:PS X.U).CZ i=L:=AL _ _ _
 have g':=g.user hn (u':=u') (L':=L') (by
  show AN (fun b=>X.HE u b\/∃q,q∈ut (γ.p.acc i).CZ i L i/\q.1=b) h h'
  rw [AL];exact hu) (fun b hb=>⟨(h1 b hb).1.imp id fun y=>⟨y,hW b y⟩,(h1 b hb).2⟩) (fun q hq=>by
  obtain⟨y1,y2,y3⟩:=h2 q hq
  show _/\((∃q0,q0∈ut (γ.p.acc i).CZ i L i/\q0.1=q.1)\/_)/\_
  rw [AL]
  exact⟨y1,y2.imp id fun y=>⟨y,hW _ y⟩,y3⟩) hX
 have e2:ut (ut (γ.p.acc i).CZ i L) i L'=ut (γ.p.acc i).CZ i L':=Mf _ _ _ _
 refine⟨T.run,T.lt,T.live,T.go,T.Dl,⟨s,M,?_⟩,hI,T.J,T.Q,fun x hx=>hX.T8 _ _ _ _ (T.V x hx) (hV x hx),A2 T.upd hu ?_,T.len⟩
 ·rw [<-e2];exact g'
 ·rintro b hb (y|⟨q,hq,rfl⟩)
  ·exact((g.Hg b y).2).resolve_right (by omega)
  ·exact((g.CZ i hn q (eL.symm▸hq:q∈({γ.p.acc i with u:=u,CZ:=ut (γ.p.acc i).CZ i L}:PS X.U).CZ i)).2.1).resolve_right (by omega)
theorem GB.A5{i:Nat}{γ:GG X}{u:X.U}{L:List (Nat×Obj)}{h h':Hp}(hX:X.Ok)(T:GB X i γ u L h)(hu:AN (fun _=>False) h h'):GB X i γ u L h':=by
 obtain⟨s,M,g⟩:=T.gi
 exact⟨T.run,T.lt,T.live,T.go,T.Dl,⟨s,M,g.A5 hu⟩,hX.loc _ _ _ (fun b hb=>hu.2 b (g.Hg b hb).1 (fun x=>x)) T.I,T.J,T.Q,T.V,A2 T.upd hu (fun _ _ x=>x.elim),T.len⟩
end
end
section
section
variable{X:Us}{i:Nat}{γ:GG X}{u:X.U}{L:List (Nat×Obj)}{h:Hp}
theorem As{h:Hp}{b o:Nat}{c:Array Value}{e:TypeId}{f:Nat×Nat}(hb:h[b]?=some (.cells c e f))(v:Value):Af h ⟨b,o,none⟩ v=h.setIfInBounds b (.cells (c.setIfInBounds o v) e f):=by
 apply Array.ext_getElem?
 intro j
 by_cases hj:b=j
 ·subst hj
  rw [AJ hb]
  exact Fp h ⟨b,o,none⟩ v hb rfl
 ·rw [AX _ hj,Cq _ _ _ hj]
theorem Lf.form{s:Ph}{v:Value}{a:List Value}(x:Lf i s v a):(∃y,v= .pointer y)/\∃t o c b n w x k,a=A4 t o c b n w x k:=by
 cases s with
 | born=>exact⟨⟨_,x.1⟩,_,_,_,_,_,_,_,_,x.2⟩
 | Bp r=>exact⟨⟨_,x.1⟩,_,_,_,_,_,_,_,_,x.2⟩
 | over=>exact x
theorem Lf.rs{s:Ph}{v:Value}{a:List Value}(x:Lf i s v a):Lf i .over v a:=x.form
theorem Jg{a:Addr}(hr:γ.run=i)(x:(PX X).still (i+1) γ a):a=⟨γ.p.tb i,3,none⟩\/∃j,j≠i/\j<γ.p.num/\(a=⟨γ.p.tb j,2,none⟩\/a=⟨γ.p.bx j,0,none⟩):=by
 obtain⟨j,h1,h2,h3,h4⟩:=x
 cases j with
 | zero=>
  change (cM γ a).isSome=true at h4
  unfold cM at h4
  split at h4
  ·rename_i e;rw [e,hr];exact .inl rfl
  ·cases h4
 | succ j=>
  change (cT γ j a).isSome=true at h4
  have hj:j<γ.p.num:=by have:j+1<γ.p.num+1:=h2;omega
  refine .inr ⟨j,by omega,hj,?_⟩
  unfold cT at h4
  split at h4
  ·rename_i e;exact .inl e
  ·split at h4
   ·rename_i e;exact .inr e
   ·cases h4
theorem GB.fresh(T:GB X i γ u L h){W:Nat->Prop}{p:PS X.U}{ns:List Nat}{s:Pu}{M:Mem Nm}(g:GI X W p ns s M h)(hp:p.num=γ.p.num/\p.tb=γ.p.tb/\p.bx=γ.p.bx){b o:Nat}(hb:∀k,M.ok k->(∃j,k= .t j\/k= .bx j)->M.B k≠b):¬(PX X).still (i+1) γ ⟨b,o,none⟩:=by
 intro x
 obtain⟨p1,p2,p3⟩:=hp
 rcases Jg T.run x with e|⟨j,_,hj,e|e⟩
 ·have:=g.all (.t i) (by rw [p1];exact T.lt)
  refine hb _ this.1 ⟨_,.inl rfl⟩ ?_
  rw [this.2.1,p2];injection e with e;exact e.symm
 ·have:=g.all (.t j) (by rw [p1];exact hj)
  refine hb _ this.1 ⟨_,.inl rfl⟩ ?_
  rw [this.2.1,p2];injection e with e;exact e.symm
 ·have:=g.all (.bx j) (by rw [p1];exact hj)
  refine hb _ this.1 ⟨_,.inr rfl⟩ ?_
  rw [this.2.1,p3];injection e with e;exact e.symm
theorem Cc:({γ.p.acc i with u:=u,CZ:=ut (γ.p.acc i).CZ i L}:PS X.U).num=γ.p.num/\({γ.p.acc i with u:=u,CZ:=ut (γ.p.acc i).CZ i L}:PS X.U).tb=γ.p.tb/\({γ.p.acc i with u:=u,CZ:=ut (γ.p.acc i).CZ i L}:PS X.U).bx=γ.p.bx:=by
 obtain⟨a1,a2,a3,a4,a5,a6,a7,_⟩:=Dk γ.p i
 exact⟨a3,a4,a7⟩
theorem GB.free(T:GB X i γ u L h){b o:Nat}(hb:X.HE u b\/X.FC b\/(∃q,q∈L/\q.1=b)\/h.size<=b):¬(ED Tryz.prog (PX X) (i+1)).still γ ⟨b,o,none⟩:=by
 obtain⟨s,M,g⟩:=T.gi
 refine T.fresh g Cc (fun k hk _ e=>?_)
 rcases hb with y|y|⟨q,y,rfl⟩|y
 ·exact(g.apart k hk).2 (e▸y)
 ·exact(g.apart k hk).1 (e▸y)
 ·exact(g.CZ i (by rw [Cc.1];exact T.lt) q (by show q∈ut (γ.p.acc i).CZ i L i;rw [AL];exact y)).2.2.1 k hk e
 ·have:=g.lt hk;omega
theorem GB.VZ(T:GB X i γ u L h){o:Nat}(ho:o≠3):¬(ED Tryz.prog (PX X) (i+1)).still γ ⟨γ.p.tb i,o,none⟩:=by
 obtain⟨s,M,g⟩:=T.gi
 intro x
 have hi:=g.all (.t i) (by rw [Cc.1];exact T.lt)
 have ei:M.B (.t i)=γ.p.tb i:=hi.2.1.trans (congrFun Cc.2.1 i)
 rcases Jg T.run x with e|⟨j,M9,hj,e|e⟩
 ·injection e with _ e _;exact ho e
 ·have Dm:=g.all (.t j) (by rw [Cc.1];exact hj)
  have ej:M.B (.t j)=γ.p.tb j:=Dm.2.1.trans (congrFun Cc.2.1 j)
  injection e with e _ _
  exact g.ne hi.1 Dm.1 (fun y=>M9 (by injection y with y;exact y.symm)) (ei.trans (e.trans ej.symm))
 ·have Dm:=g.all (.bx j) (by rw [Cc.1];exact hj)
  have ej:M.B (.bx j)=γ.p.bx j:=Dm.2.1.trans (congrFun Cc.2.2 j)
  injection e with e _ _
  exact g.ne hi.1 Dm.1 nofun (ei.trans (e.trans ej.symm))
theorem L8{h:Hp}{b o b' o':Nat}{v:Value}(B7:b'≠b):AF (Af h ⟨b,o,none⟩ v) ⟨b',o',none⟩=AF h ⟨b',o',none⟩:=by
 unfold AF
 rw [Cq _ _ _ (Ne.symm B7)]
theorem GB.row(T:GB X i γ u L h):∃v t o c b n w x k,Lf i (γ.p.st i) v (A4 t o c b n w x k)/\h[γ.p.tb i]?=some (FG γ.p.R i (γ.p.wk i) (γ.p.sd i) v (A4 t o c b n w x k) false):=by
 obtain⟨s,M,g⟩:=T.gi
 obtain⟨a1,a2,a3,a4,a5,a6,a7,a8,a9,NU,R0,VA,_⟩:=Dk γ.p i
 obtain⟨v,a,h1,h2⟩:=g.JV (i:=i) (by rw [Cc.1];exact T.lt)
 obtain⟨_,t,o,c,b,n,w,x,k,rfl⟩:=h1.form
 refine⟨v,t,o,c,b,n,w,x,k,?_,?_⟩
 ·rw [<-R0];exact h1
 ·rw [<-a4,<-a1,<-a5,<-a6,<-T.live,<-VA];exact h2
theorem GB.yM(T:GB X i γ u L h):∃s,h[γ.p.R]?=some (DC s γ.p.mb false):=by
 obtain⟨s,M,g⟩:=T.gi
 obtain⟨a1,a2,a3,a4,a5,a6,a7,a8,a9,NU,R0,VA,nX,pV,pU,nU,_⟩:=Dk γ.p i
 refine⟨s,?_⟩
 rw [<-a1,<-a2,<-T.go,<-nU];exact g.GH
abbrev Pv:Value:=.iface 208 (.agg #[])
theorem WN{r:Rq}(hX:X.Ok)(T:GB X i γ u L h)(hr:JJ X r)(hQ:X.Q i (Bm i (γ.p.acc i).log) (.Bp r) u)(hJ:X.J (γ.p.acc i).log u (γ.p.acc i).val):
  AY Tryz.prog false (ED Tryz.prog (PX X) (i+1)) 84 #[ptr (γ.p.tb i),ptr r.b,.agg (KV i r).toArray] h ⟨0,γ⟩ (Ge (fun _ h' AW=>∃Ae,AW=⟨0,Ae⟩/\Ae.p.stops=false/\View X i (γ.p.GQ i u L (.Bp r) false) Ae.p/\P1 X i Ae h')
   (fun ps h' AW=>∃Ae,AW=⟨0,Ae⟩/\Stp X i Ae h'/\View X i (γ.p.GQ i u L (.Bp r) false) Ae.p/\ps=[{v:=Pv,recovered:=false}])):=by
 refine CK (n:=41) ?_
 repeat(first|refine AI ?_|refine AH ?_|refine AE ?_|refine AV ?_|refine Bc ?_|refine Az ?_|refine DO ?_)
 refine A6 (fun h'=>GB X i γ u L h'/\A0 h' h.size 0 (KV i r)) ⟨T.A5 hX (AN.push _ _),C0 (by exact AG _ _)⟩ ?_
 generalize h.size=x
 clear T
 rintro h0 ⟨T,bx⟩
 obtain⟨v,t,o,c,b,n,w,y,k,Gp,CR⟩:=T.row
 obtain⟨s0,Be⟩:=T.yM
 have c0:AF h0 ⟨γ.p.tb i,0,none⟩=some (ptr γ.p.R):=AD CR rfl
 have c6:AF h0 ⟨γ.p.R,6,none⟩=some (.bool false):=AD Be rfl
 repeat(first|refine AI ?_|refine AE ?_|refine Bc ?_|refine Az ?_|refine Df ?_|refine B9 ?_|refine BU ?_)
 have live:γ.p.st i≠ .over\/True:=.inr trivial
 refine BO (fun h'=>A0 h' x 0 (KV i r)) ?_
 have wO:x≠γ.p.tb i:=fun e=>by
  have h1:=bx 0 _ rfl
  rw [e]at h1
  have h2:AF h0 ⟨γ.p.tb i,0+0,none⟩=some (ptr γ.p.R):=AD CR rfl
  rw [h2]at h1
  cases h1
 have hZ:=bx
 refine AU 0 hZ ?_
 refine AU 1 hZ ?_
 refine AU 2 hZ ?_
 refine EP (vs:=KV i r) 3 rfl (by kernel_rfl) rfl rfl rfl rfl rfl (fun _ hz=>hz) hZ ?_
 refine BE 4 hZ ?_
 refine Ag 5 hZ ?_
 have hS:∀o,o≠3->¬(ED Tryz.prog (PX X) (i+1)).still γ ⟨γ.p.tb i,o,none⟩:=fun o ho=>T.VZ ho
 refine Fy (h':=Af h0 ⟨γ.p.tb i,4,none⟩ (ptr r.b)) 6 rfl (by kernel_rfl) rfl rfl (fun ρ Q X Aa hq=>BG (Aa _ _ rfl) (Aa _ _ rfl) ⟨nofun,nofun⟩ ⟨_,AD CR rfl⟩ (AS CR) (hS _ (by decide)) hq) ?_ ?_
 ·exact fun j v hj=>(L8 wO).trans (bx j v hj)
 have hZ:A0 (Af h0 ⟨γ.p.tb i,4,none⟩ (ptr r.b)) x 0 (KV i r):=fun j v hj=>(L8 wO).trans (bx j v hj)
 rw [As CR]at hZ⊢
 have Gh:=AJ CR (o':=.cells ((ptr γ.p.R:: .int .i64 i:: .chan (some (γ.p.wk i)):: .chan (some (γ.p.sd i))::v::(A4 t o c b n w y k++[.bool false])).toArray.setIfInBounds 4 (ptr r.b)) 117 (0,0))
 refine BE 7 hZ ?_
 refine Ag 8 hZ ?_
 have er:Cm (h0.setIfInBounds (γ.p.tb i) (.cells ((ptr γ.p.R:: .int .i64 i:: .chan (some (γ.p.wk i)):: .chan (some (γ.p.sd i))::v::(A4 t o c b n w y k++[.bool false])).toArray.setIfInBounds 4 (ptr r.b)) 117 (0,0))) (γ.p.tb i) 5 (KV i r)=h0.setIfInBounds (γ.p.tb i) (FG γ.p.R i (γ.p.wk i) (γ.p.sd i) (ptr r.b) (KV i r) false):=by
  rw [FT (KV i r) 5 _ (ptr γ.p.R:: .int .i64 i:: .chan (some (γ.p.wk i)):: .chan (some (γ.p.sd i))::ptr r.b::(A4 t o c b n w y k++[.bool false])) Gh (by show 5+8<=14;omega)]
  exact Array.setIfInBounds_setIfInBounds _
 refine Fy (h':=h0.setIfInBounds (γ.p.tb i) (FG γ.p.R i (γ.p.wk i) (γ.p.sd i) (ptr r.b) (KV i r) false)) 9 rfl (by kernel_rfl) rfl rfl (fun ρ Q X Aa hq=>B6 (vs:=KV i r) (Aa _ _ rfl) (Aa _ _ rfl) rfl (by simp [KV,A4,OneCell]) (fun j hj=>⟨?_,AS Gh,hS _ (by omega)⟩) (by rw [er];exact hq)) ?_ ?_
 ·have Dm:j<8:=hj
  rcases (show j=0\/j=1\/j=2\/j=3\/j=4\/j=5\/j=6\/j=7 by omega)with rfl|rfl|rfl|rfl|rfl|rfl|rfl|rfl <;> exact⟨_,AD Gh rfl⟩
 ·exact fun j v hj=>(CB _ (Ne.symm wO)).trans (bx j v hj)
 refine BF ?_
 obtain⟨s,M,g⟩:=T.gi
 obtain⟨a1,a2,a3,a4,a5,a6,a7,a8,a9,NU,R0,VA,nX,pV,pU,nU,xq⟩:=Dk γ.p i
 have Cg:i<({γ.p.acc i with u:=u,CZ:=ut (γ.p.acc i).CZ i L}:PS X.U).num:=by rw [Cc.1];exact T.lt
 have g1:=g.row Cg (t:=.Bp r) (v:=ptr r.b) (a:=KV i r) ⟨rfl,rfl⟩ false
 have g2:GI X (PY γ.W γ.base) (γ.p.GQ i u L (.Bp r) false) (Ab (γ.p.GQ i u L (.Bp r) false).log) s (M.set (.t i) (FG (γ.p.acc i).R i ((γ.p.acc i).wk i) ((γ.p.acc i).sd i) (ptr r.b) (KV i r) false)) (h0.setIfInBounds ((γ.p.acc i).tb i) (FG (γ.p.acc i).R i ((γ.p.acc i).wk i) ((γ.p.acc i).sd i) (ptr r.b) (KV i r) false)):=g1
 clear g1
 rw [a1,a4,a5,a6]at g2
 have x1:=g.all (.t i) Cg
 have et:M.B (.t i)=γ.p.tb i:=x1.2.1.trans (congrFun Cc.2.1 i)
 have I2:X.I u (h0.setIfInBounds (γ.p.tb i) (FG γ.p.R i (γ.p.wk i) (γ.p.sd i) (ptr r.b) (KV i r) false)):=hX.loc _ _ _ (fun b hb=>AX _ (fun e=>(g.apart _ x1.1).2 (by rw [et,e];exact hb))) T.I
 have u2:AN γ.W γ.base (h0.setIfInBounds (γ.p.tb i) (FG γ.p.R i (γ.p.wk i) (γ.p.sd i) (ptr r.b) (KV i r) false)):=Qo T.upd _ (et▸g.wide _ x1.1)
 have r2:=AJ CR (o':=FG γ.p.R i (γ.p.wk i) (γ.p.sd i) (ptr r.b) (KV i r) false)
 clear hZ Gh er CR c0 c6 bx
 generalize h0.setIfInBounds (γ.p.tb i) (FG γ.p.R i (γ.p.wk i) (γ.p.sd i) (ptr r.b) (KV i r) false)=h1 at g2 I2 u2 r2⊢
 have c3:AF h1 ⟨γ.p.tb i,3,none⟩=some (.chan (some (γ.p.sd i))):=AD r2 rfl
 have c2:AF h1 ⟨γ.p.tb i,2,none⟩=some (.chan (some (γ.p.wk i))):=AD r2 rfl
 repeat(first|refine AI ?_|refine AH ?_|refine AV ?_|refine Bc ?_|refine Az ?_|refine Df ?_)
 refine Cr (cells:=#[]) rfl rfl rfl rfl ?_
 have hB:∀a,(cT γ i a).isSome=true->a.block<γ.p.tb i+γ.p.bx i+1:=fun a ha=>by
  unfold cT at ha
  split at ha
  ·rename_i e;rw [e];dsimp only;omega
  ·split at ha
   ·rename_i e;rw [e];dsimp only;omega
   ·cases ha
 have ec:cT {γ with p:=γ.p.GQ i u L (.Bp r) false} i=cT γ i:=by
  funext a
  unfold cT
  show(if a=⟨(γ.p.acc i).tb i,2,none⟩then some (Value.chan (some ((γ.p.acc i).wk i)))else if a=⟨(γ.p.acc i).bx i,0,none⟩then some (.pointer (some ⟨(γ.p.acc i).tb i,0,none⟩))else none)=_
  rw [a4,a5,a7]
 have JQ:i<(γ.p.GQ i u L (.Bp r) false).num:=Cg
 refine Y2 (X:=PX X) (i:=i+1) (j:=0) (c:=γ.p.sd i) (c':=γ.p.wk i) (B:=γ.p.tb i+γ.p.bx i+1) (γ₁:={γ with p:=γ.p.GQ i u L (.Bp r) false}) rfl (fun _ _ _ _ x=>x) rfl rfl rfl rfl (by omega) (Nat.succ_pos _) ?a1 ?a2 ?a3 ?a4 ?a5 ?a6 ?a7 ?a8 ?vL
 case a1=>show some (γ.p.sd γ.run)=_;rw [T.run]
 case a2=>show(γ.p.acc i).num+1=γ.p.num+1;rw [a3]
 case a3=>
  intro x hx hl
  cases x with
  | zero=>
   refine⟨?_,?_,rfl,rfl,rfl,rfl⟩
   ·show some ((γ.p.acc i).sd γ.run)=some (γ.p.sd γ.run);rw [a6]
   ·show cM _=cM γ
    funext a
    show(if a=⟨(γ.p.acc i).tb γ.run,3,none⟩then some (Value.chan (some ((γ.p.acc i).sd γ.run)))else none)=(if a=⟨γ.p.tb γ.run,3,none⟩then some (Value.chan (some (γ.p.sd γ.run)))else none)
    rw [a4,a6]
  | succ j=>
   have hj:j≠i:=fun e=>hx (by rw [e])
   refine⟨?_,?_,QE hj (T.V j hj) _ _ _⟩
   ·show(if ut (γ.p.acc i).gone i false j=true then none else some ((γ.p.acc i).wk j))=(if γ.p.gone j=true then none else some (γ.p.wk j))
    rw [Ai _ _ hj,VA,a5]
   ·show cT _ j=cT γ j
    funext a
    show(if a=⟨(γ.p.acc i).tb j,2,none⟩then some (Value.chan (some ((γ.p.acc i).wk j)))else if a=⟨(γ.p.acc i).bx j,0,none⟩then some (.pointer (some ⟨(γ.p.acc i).tb j,0,none⟩))else none)=(if a=⟨γ.p.tb j,2,none⟩then some (Value.chan (some (γ.p.wk j)))else if a=⟨γ.p.bx j,0,none⟩then some (.pointer (some ⟨γ.p.tb j,0,none⟩))else none)
    rw [a4,a5,a7]
 case a4=>
  refine⟨by show γ.run<_;rw [T.run];exact JQ,.inl ⟨by rw [T.Dl];exact T.go,u,L,.Bp r,?_,nofun,fun r' e=>?_⟩,⟨s,_,g2⟩,I2,hJ,fun x=>?_,u2⟩
  ·show γ.p.GQ i u L (.Bp r) false=γ.Dl.GQ γ.run u L (.Bp r) false
   rw [T.Dl,T.run]
  ·cases e;exact hr
  ·show X.Q x (Bm x (γ.p.acc i).log) (ut (γ.p.acc i).st i (.Bp r) x) u
   by_cases e:x=i
   ·subst e;rw [AL];exact hQ
   ·rw [Ai _ _ e,Ra _ _ e,R0]
    exact hX.R3 _ _ _ _ _ (T.V x e) (T.Q x)
 case a5=>show(if ut (γ.p.acc i).gone i false i=true then none else some ((γ.p.acc i).wk i))=_;rw [AL,a5];rfl
 case a6=>
  intro a v hv
  change cT _ i a=some v at hv
  rw [ec]at hv
  unfold cT at hv
  split at hv
  ·rename_i e;rw [e];cases hv;exact c2
  ·split at hv
   ·rename_i e;rw [e];cases hv
    have:=g2.Qw JQ
    change h1[(γ.p.acc i).bx i]?=some (.cells #[ptr ((γ.p.acc i).tb i)] _ _)at this
    rw [a7,a4]at this
    exact AD this rfl
   ·cases hv
 case a7=>have:=g2.pd JQ;change ∃k,h1[(γ.p.acc i).wk i]?=_ at this;rw [a5]at this;exact this
 case a8=>
  intro x hx hl e
  have wi:=g2.all (.wk i) JQ
  cases x with
  | zero=>
   have e':(γ.p.acc i).sd γ.run=γ.p.wk i:=D4 e
   rw [T.run]at e'
   have si:=g2.all (.sd i) JQ
   refine g2.ne wi.1 si.1 nofun (wi.2.1.trans (Eq.trans ?_ si.2.1.symm))
   show(γ.p.acc i).wk i=(γ.p.acc i).sd i
   rw [e',a5]
  | succ j=>
   change (if ut (γ.p.acc i).gone i false j=true then none else some ((γ.p.acc i).wk j))=some (γ.p.wk i)at e
   split at e
   ·cases e
   ·have e':=D4 e
    have hj:j≠i:=fun e=>hx (by rw [e])
    have uL:j<(γ.p.GQ i u L (.Bp r) false).num:=OF hl
    have wj:=g2.all (.wk j) uL
    refine g2.ne wj.1 wi.1 (fun z=>hj (by injection z)) (wj.2.1.trans (Eq.trans ?_ wi.2.1.symm))
    show(γ.p.acc i).wk j=(γ.p.acc i).wk i
    rw [e',a5]
 case vL=>
  intro kind hk cs
  rw [show(PX X).cells {γ with p:=γ.p.GQ i u L (.Bp r) false} (i+1)=cT γ i from ec]
  refine UI hB (RA hB ?_)
  refine Y9 hB hk rfl rfl rfl ?_
  refine UH hB hk rfl rfl rfl ?_
  refine UG hB hk rfl rfl rfl ?_
  refine Q9 (v:=.chan (some (γ.p.wk i))) hB hk rfl rfl rfl (by unfold cT;exact if_pos rfl) ?_
  refine Y1 hB hk rfl rfl rfl ?_
  intro BK DT hR hP
  have hV:View X i (γ.p.GQ i u L (.Bp r) false) BK.p:=hR
  have nJ:P1 X i BK DT:=hP
  obtain⟨q1,q2,q3,q4,q5,q6,q7⟩:=nJ
  obtain⟨s2,M2,k2⟩:=q5.gi
  obtain⟨v2,z2,hz,FH⟩:=k2.JV q2
  have bu:=k2.GH
  have eR:BK.p.R=γ.p.R:=hV.R.trans a1
  have eT:BK.p.tb i=γ.p.tb i:=hV.tb.trans (congrFun a4 i)
  rw [eT,eR]at FH
  rw [eR]at bu
  have d0:AF DT ⟨γ.p.tb i,0,none⟩=some (ptr γ.p.R):=AD FH rfl
  have d6:AF DT ⟨γ.p.R,6,none⟩=some (.bool BK.p.stops):=AD bu rfl
  cases es:BK.p.stops with
  | false=>
   rw [es]at d6 bu
   repeat(first|refine AI ?_|refine AH ?_|refine AE ?_|refine Ar ?_|refine AV ?_|refine Bc ?_|refine Az ?_|refine Df ?_|refine Am ?_)
   exact FQ (Eu rfl ⟨BK,rfl,es,hV,q1,q2,q3,q4,q5,q6,q7⟩)
  | true=>
   rw [es]at d6 bu
   repeat(first|refine AI ?_|refine AH ?_|refine AE ?_|refine AV ?_|refine Bc ?_|refine Az ?_|refine Df ?_|refine BU ?_)
   refine Cr (cells:=#[]) rfl rfl rfl rfl ?_
   refine Q8 Tryz.underlying208 rfl rfl rfl (fun _ e=>by cases e) ?_
   exact lS rfl rfl ⟨BK,rfl,⟨es,q1,q2,q3,q4,q5,q6,q7⟩,hV,rfl⟩
end
end
section
section
variable{X:Us}{W:Nat->Prop}{p:PS X.U}{ns:List Nat}{s:Pu}{M:Mem Nm}{h h':Hp}{i:Nat}{γ:GG X}{u:X.U}{L:List (Nat×Obj)}
theorem Jz{Γ:Type}{main:Bool}{S:Cp Γ}{δ:Ix Γ}{t R:Nat}(h0:AF h ⟨t,0,none⟩=some (ptr R))(h1:AF h ⟨t,13,none⟩=some (.bool false)):AY Tryz.prog main S 58 #[ptr t] h δ (CJ (Gb (.bool true) h δ)):=by
 refine CK (n:=19) ?_
 repeat(first|refine AI ?_|refine AH ?_|refine AE ?_|refine AV ?_|refine Aq ?_|refine Bc ?_|refine Az ?_|refine Lm rfl rfl rfl rfl rfl ?_|refine B9 ?_|refine Bl ?_|refine AQ ?_|refine Av rfl (by assumption) ?_)
 exact DQ El
theorem GI.loose(g:GI X W p ns s M h){x:Nat}(h1:∀k,M.ok k->M.B k≠x)(h2:¬X.FC x)(h3:∀j,j<p.num->∀q,q∈p.CZ j->q.1≠x)(o:Obj):GI X W p ns s M (h.setIfInBounds x o):=by
 refine⟨g.Ju.upd (AN.set (T:=fun y=>y=x) h x o rfl) h1,g.all,g.wide,fun b hb=>?_,g.apart,fun b hb=>?_,g.num,g.JG,fun j hj q hq=>?_,g.Ir⟩
 ·rw [AX _ (fun e:x=b=>h2 (by rw [e];exact hb))];exact g.Fu b hb
 ·rw [JY];exact g.Hg b hb
 ·rw [AX _ (Ne.symm (h3 j hj q hq))];exact g.CZ j hj q hq
theorem Lz(t o c a n w x:Int)(k:Bool):Instr.fill (fun i=>some (i*8,8)) #[.int .i64 0,.int .i8 0,.int .i64 0,.int .i64 0,.int .i64 0,.int .i64 0,.int .i64 0,.bool false] [(0,.agg (A4 t o c a n w x k).toArray)]=some (A4 t o c a n w x k).toArray:=by
 kernel_rfl
abbrev CE(o:List Value):Obj:=.cells o.toArray 38 (0,0)
structure KW(X:Us)(γ:GG X)(i:Nat)(p:PS X.U)(ns:List Nat)(x:Nat)(o:List Value)(h:Hp):Prop where
 gi:∃s M,GI X (PY γ.W γ.base) p ns s M h/\∀k,M.ok k->M.B k≠x
 lx:h[x]?=some (CE o)
 nc:¬X.FC x
 nd:¬X.HE p.u x
 np:∀j,j<p.num->∀q,q∈p.CZ j->q.1≠x
 wx:PY γ.W γ.base x
 I:X.I p.u h
 upd:AN γ.W γ.base h
 run:γ.run=i
 lt:i<γ.p.num
 st:p.num=γ.p.num/\p.tb=γ.p.tb/\p.bx=γ.p.bx
 R:p.R=γ.p.R
 mb:p.mb=γ.p.mb
 go:p.stops=false
variable{x:Nat}{o:List Value}
theorem KW.still(m:KW X γ i p ns x o h){b c:Nat}(hb:b=x\/X.FC b\/b=γ.p.R\/b=γ.p.mb\/h.size<=b):¬(ED Tryz.prog (PX X) (i+1)).still γ ⟨b,c,none⟩:=by
 obtain⟨s,M,g,nx⟩:=m.gi
 intro y
 have key:∀k,M.ok k->(∃j,k= .t j\/k= .bx j)->M.B k≠b:=fun k hk hj e=>by
  rcases hb with rfl|hb|hb|hb|hb
  ·exact nx k hk e
  ·exact(g.apart k hk).1 (by rw [e];exact hb)
  ·have:=g.all .run
   refine g.ne hk this.1 ?_ (e.trans (hb.trans (m.R.symm.trans this.2.1.symm)))
   rcases hj with⟨j,rfl|rfl⟩ <;> exact nofun
  ·have:=g.all .map
   refine g.ne hk this.1 ?_ (e.trans (hb.trans (m.mb.symm.trans this.2.1.symm)))
   rcases hj with⟨j,rfl|rfl⟩ <;> exact nofun
  ·have:=g.lt hk;omega
 obtain⟨p1,p2,p3⟩:=m.st
 rcases Jg m.run y with e|⟨j,_,hj,e|e⟩
 ·have:=g.all (.t i) (by rw [p1];exact m.lt)
  refine key _ this.1 ⟨_,.inl rfl⟩ ?_
  rw [this.2.1,p2];injection e with e;exact e.symm
 ·have:=g.all (.t j) (by rw [p1];exact hj)
  refine key _ this.1 ⟨_,.inl rfl⟩ ?_
  rw [this.2.1,p2];injection e with e;exact e.symm
 ·have:=g.all (.bx j) (by rw [p1];exact hj)
  refine key _ this.1 ⟨_,.inr rfl⟩ ?_
  rw [this.2.1,p3];injection e with e;exact e.symm
theorem KW.row(m:KW X γ i p ns x o h):AF h ⟨γ.p.tb i,0,none⟩=some (ptr γ.p.R):=by
 obtain⟨s,M,g,nx⟩:=m.gi
 obtain⟨v,a,_,hr⟩:=g.JV (i:=i) (by rw [m.st.1];exact m.lt)
 rw [m.st.2.1,m.R]at hr
 exact AD hr rfl
theorem KW.Fu(m:KW X γ i p ns x o h){b:Nat}(hb:X.FC b):h[b]?=some (Ay (p.val b)):=by
 obtain⟨s,M,g,nx⟩:=m.gi
 exact(g.Fu b hb).1
theorem KW.V6(m:KW X γ i p ns x o h)(hX:X.Ok)(o':List Value):KW X γ i p ns x o' (h.setIfInBounds x (CE o')):=by
 obtain⟨s,M,g,nx⟩:=m.gi
 exact⟨⟨s,M,g.loose nx m.nc m.np _,nx⟩,AJ m.lx,m.nc,m.nd,m.np,m.wx,hX.loc _ _ _ (fun b hb=>AX _ (fun e:x=b=>m.nd (by rw [e];exact hb))) m.I,Qo m.upd _ m.wx,m.run,m.lt,m.st,m.R,m.mb,m.go⟩
theorem KW.cell(m:KW X γ i p ns x o h)(hX:X.Ok){b:Nat}(hb:X.FC b)(v:Int):KW X γ i {p with val:=ut p.val b v} ns x o (h.setIfInBounds b (Ay v)):=by
 obtain⟨s,M,g,nx⟩:=m.gi
 exact⟨⟨s,M,g.cell hb v,nx⟩,(AX _ (fun e:b=x=>m.nc (by rw [<-e];exact hb))).trans m.lx,m.nc,m.nd,m.np,m.wx,hX.loc _ _ _ (fun c hc=>AX _ (fun e:b=c=>hX.Td _ _ hc (by rw [<-e];exact hb))) m.I,Qo m.upd _ (g.Fu b hb).2,m.run,m.lt,m.st,m.R,m.mb,m.go⟩
theorem KW.same(m:KW X γ i p ns x o h){b:Nat}:KW X γ i {p with val:=ut p.val b (p.val b)} ns x o h:=by
 rw [FU];exact m
theorem KW.map(m:KW X γ i p ns x o h):∃es c,h[γ.p.mb]?=some (.map es c)/\F1 es (DY ns 0)/\(∀q,q∈DY ns 0->Plain h q.1.block):=by
 obtain⟨s,M,g,nx⟩:=m.gi
 obtain⟨x1,x2,es,c,x3,x4⟩:=g.all .map
 refine⟨es,c,?_,x4,fun q hq=>?_⟩
 ·rw [<-m.mb,<-x2,<-x3];exact g.Ju.has _ x1
 ·exact⟨_,_,(g.Fu _ (g.num _ (Ii _ _ _ hq))).1⟩
theorem KW.UA(m:KW X γ i p ns x o h)(hX:X.Ok){b:Nat}(hb:X.FC b){es:Array MapEntry}{c:Nat}(hm:h[γ.p.mb]?=some (.map es c))(hk:F1 es (DY ns 0)):
  KW X γ i p (ns++[b]) x o (h.setIfInBounds γ.p.mb (.map (es.push {key:=.pointer (some ⟨b,0,none⟩),val:=.int .i64 (ns.length:Int),born:=c}) (c+1))):=by
 obtain⟨s,M,g,nx⟩:=m.gi
 obtain⟨x1,x2,Ps,c',x3,x4⟩:=g.all .map
 have hM:M.O .map= .map es c:=by
  have:=g.Ju.has _ x1
  rw [x2,m.mb,hm]at this
  exact(D4 this).symm
 have g':=g.UA hb hM hk
 rw [m.mb]at g'
 have nR:γ.p.mb≠x:=fun e=>nx .map x1 (x2.trans (m.mb.trans e))
 exact⟨⟨s,_,g',nx⟩,(AX _ nR).trans m.lx,m.nc,m.nd,m.np,m.wx,hX.loc _ _ _ (fun d hd=>AX _ (fun e:γ.p.mb=d=>(g.apart .map x1).2 (by rw [x2,m.mb,e];exact hd))) m.I,Qo m.upd _ (by rw [<-m.mb,<-x2];exact g.wide _ x1),m.run,m.lt,m.st,m.R,m.mb,m.go⟩
theorem Un{es:Array MapEntry}{l:List (Addr×Value)}(hk:F1 es l):es.size=l.length:=by
 have:=congrArg List.length hk
 simpa using this
theorem JC:∀(l:List Nat) (j:Nat),(DY l j).length=l.length
 | [],_=>rfl
 | _::l,j=>by simp [DY,JC l]
theorem KW.yL(m:KW X γ i p ns x o h):∃s,h[γ.p.R]?=some (DC s γ.p.mb false):=by
 obtain⟨s,M,g,nx⟩:=m.gi
 refine⟨s,?_⟩
 rw [<-m.R,<-m.mb,<-m.go];exact g.GH
theorem Ya{r:Rq}{Ae:GG X}(hX:X.Ok)(hs:Ae.p.stops=false)(hP:P1 X i Ae h')(Dn:Ae.p.st i= .Bp r)
  (g:∃s M,GI X (PY Ae.W Ae.base) {Ae.p with CZ:=ut Ae.p.CZ i L,val:=ut Ae.p.val r.b (behind r.op (Ae.p.val r.b) r.arg r.new).1,log:=Ae.p.log++[Co i r (Ae.p.val r.b)]} (Ab (Ae.p.log++[Co i r (Ae.p.val r.b)])) s M h) (hI:X.I Ae.p.u h) (hu:AN Ae.W Ae.base h):GB X i Ae Ae.p.u L h:=by
 refine⟨hP.run,hP.lt,hP.live,hs,hP.Dl,?_,hI,hP.held.J,hP.held.Q,fun _ _=>hX.Lg _ _,hu,hP.len hs⟩
 rw [Ig _ _ Dn]
 exact g
structure HQ(X:Us)(i:Nat)(γ:GG X)(u:X.U)(r:Rq)(Ae:GG X):Prop where
 st:Ae.p.st i= .Bp r
 al:Gk X i γ.p Ae.p
 own:Bm i Ae.p.log=Bm i (γ.p.acc i).log
 V:X.V i u Ae.p.u
theorem HQ.of{r:Rq}{Ae:GG X}(hV:View X i (γ.p.GQ i u L (.Bp r) false) Ae.p):HQ X i γ u r Ae:=
 ⟨hV.st.trans (AL _ _ _),⟨hV.tb.trans (congrFun (Dk γ.p i).2.2.2.1 i),hV.bx.trans (congrFun (Dk γ.p i).2.2.2.2.2.2.1 i),hV.br.trans (congrFun (Dk γ.p i).2.2.2.2.2.2.2.2.1 i),hV.R.trans (Dk γ.p i).1⟩,hV.own,hV.V⟩
theorem HQ.tb{r:Rq}{Ae:GG X}(x:HQ X i γ u r Ae):Ae.p.tb i=γ.p.tb i:=x.al.tb
theorem HQ.after{r:Rq}{Ae:GG X}(x:HQ X i γ u r Ae):Bm i (Ae.p.acc i).log=Bm i (γ.p.acc i).log++[Co i r (Ae.p.val r.b)]:=by
 rw [Ig _ _ x.st]
 show Bm i (Ae.p.log++[_])=_
 rw [Sq,if_pos (show(Co i r (Ae.p.val r.b)).BI=i from rfl),x.own]
theorem GB.alloc(hX:X.Ok)(T:GB X i γ u L h)(o:Obj):GB X i γ u ((h.size,o)::L) (h.push o):=by
 obtain⟨s,M,g⟩:=T.gi
 have N0:∀b,X.HE u b->b<h.size:=fun b hb=>(g.Hg b hb).1
 refine T.user hX (AN.push h o) (fun b hb=>⟨.inl hb,by rw [CH];have:=N0 b hb;omega⟩) (fun q hq=>?_) (hX.loc _ _ _ (fun b hb=>(AN.push (T:=fun _=>False) h o).2 b (N0 b hb) (fun x=>x)) T.I) (fun _ _=>hX.Lg _ _)
 rcases Ew.1 hq with rfl|hq
 ·exact⟨AG _ _,.inr (Nat.le_refl _),fun y=>by have:=N0 _ y;dsimp only at this;omega⟩
 ·have:=g.CZ i (by rw [Cc.1];exact T.lt) q (by show q∈ut (γ.p.acc i).CZ i L i;rw [AL];exact hq)
  exact⟨Ao _ this.1,.inl ⟨q,hq,rfl⟩,this.2.2.2.2⟩
theorem KW.of{Ae:GG X}{r:Rq}(hX:X.Ok)(hx:∀q,q∈L->q.1≠x)(hs:Ae.p.stops=false)(hV:View X i (γ.p.GQ i u ((x,CE o)::L) (.Bp r) false) Ae.p)(hP:P1 X i Ae h):KW X Ae i {Ae.p with CZ:=ut Ae.p.CZ i L} (Ab Ae.p.log) x o h:=by
 obtain⟨q1,q2,q3,q4,q5,q6,q7⟩:=hP
 obtain⟨s,M,g⟩:=q5.gi
 have eL:Ae.p.CZ i=(x,CE o)::L:=hV.CZ.trans (AL _ _ _)
 obtain⟨y1,y2,y3,y4,y5⟩:=g.CZ i q2 (x,CE o) (by rw [eL];simp)
 have g':=g.user q2 (u':=Ae.p.u) (L':=L) (h':=h) (AN.refl _ _) (fun b hb=>⟨.inl hb,(g.Hg b hb).1⟩) (fun q hq=>by
  have:=g.CZ i q2 q (by rw [eL];simp [hq])
  exact⟨this.1,.inl ⟨q,by rw [eL];simp [hq],rfl⟩,this.2.2.2.2⟩) hX
 refine⟨⟨s,M,g',y3⟩,y1,y4,y5,fun j hj q hq=>?_,y2,q5.I,q5.upd,q1,q2,⟨rfl,rfl,rfl⟩,rfl,rfl,hs⟩
 change q∈ut Ae.p.CZ i L j at hq
 by_cases e:j=i
 ·subst e;rw [AL]at hq;exact hx q hq
 ·rw [Ai _ _ e]at hq
  exact fun ex=>g.Ir i j q2 hj (Ne.symm e) (x,CE o) q (by rw [eL];simp) hq ex.symm
end
end
section
section
variable{X:Us}{h:Hp}{i:Nat}{γ:GG X}{u:X.U}{L:List (Nat×Obj)}
theorem Se{W:Nat->Prop}{p:PS X.U}{ns:List Nat}{s:Pu}{M:Mem Nm}(hr:γ.run=i)(hl:i<γ.p.num)(g:GI X W p ns s M h)(st:p.num=γ.p.num/\p.tb=γ.p.tb/\p.bx=γ.p.bx){k:Nm}(hk:M.ok k)(B7:∀j,k≠ .t j/\k≠ .bx j){c:Nat}:¬(ED Tryz.prog (PX X) (i+1)).still γ ⟨M.B k,c,none⟩:=by
 intro y
 obtain⟨p1,p2,p3⟩:=st
 rcases Jg hr y with e|⟨j,_,hj,e|e⟩
 ·have:=g.all (.t i) (by rw [p1];exact hl)
  refine g.ne hk this.1 (B7 i).1 ?_
  rw [this.2.1,p2];injection e with e
 ·have:=g.all (.t j) (by rw [p1];exact hj)
  refine g.ne hk this.1 (B7 j).1 ?_
  rw [this.2.1,p2];injection e with e
 ·have:=g.all (.bx j) (by rw [p1];exact hj)
  refine g.ne hk this.1 (B7 j).2 ?_
  rw [this.2.1,p3];injection e with e
theorem Zp{l:List Ev}{e:Ev}(h:e.b∈Ab l):Ab (l++[e])=Ab l:=by rw [Fl,if_pos h]
theorem Zq{l:List Ev}{e:Ev}(h:e.b∉Ab l):Ab (l++[e])=Ab l++[e.b]:=by rw [Fl,if_neg h]
theorem Ox{b:Nat}:∀{l:List Nat},b∉l->(l++[b]).idxOf b=l.length
 | [],_=>by simp
 | x::l,h=>by
  have e':(x==b)=false:=by
   have:x≠b:=fun y=>h (by simp [y])
   simpa using this
  rw [List.cons_append,List.idxOf_cons,e']
  simp only [cond_false,List.length_cons]
  rw [Ox (fun y=>h (by simp [y]))]
theorem GB.lts(T:GB X i γ u L h):∀q,q∈L->q.1<h.size:=fun q hq=>by
 obtain⟨s,M,g⟩:=T.gi
 exact Ap (g.CZ i (by rw [Cc.1];exact T.lt) q (by show q∈ut (γ.p.acc i).CZ i L i;rw [AL];exact hq)).1
theorem F3{Γ:Type}{P:Program}{main:Bool}{S:Cp Γ}{f:FuncId}{n:Nat}{c:Item}{k:List Item}{env:Env}{ds:List Deferred}{h:Hp}{δ:Ix Γ}{R:Cv Γ}{σ:Type}(E:σ->Env)(I:σ->Hp->Ix Γ->Prop)(h1:∀k,(∀s h' AW,I s h' AW->EK P main S f n k (E s) ds h' AW R)->EK P main S f n (c::k) env ds h δ R)(h2:∀s h' AW,I s h' AW->EK P main S f n k (E s) ds h' AW R):EK P main S f n (c::k) env ds h δ R:=h1 k h2
theorem NZ{r:Rq}(hX:X.Ok)(T:GB X i γ u L h)(hr:JJ X r)(hQ:X.Q i (Bm i (γ.p.acc i).log) (.Bp r) u)(hJ:X.J (γ.p.acc i).log u (γ.p.acc i).val):
  AY Tryz.prog false (ED Tryz.prog (PX X) (i+1)) 59 #[ptr (γ.p.tb i),ptr r.b,.int .i8 r.op,.int .i64 r.arg,.int .i64 r.new] h ⟨0,γ⟩
   (Ge (fun w h' AW=>∃Ae,AW=⟨0,Ae⟩/\GB X i Ae Ae.p.u L h'/\HQ X i γ u r Ae/\w= .tuple #[.int .i64 (Ae.p.val r.b),.int .i64 (behind r.op (Ae.p.val r.b) r.arg r.new).1,.bool (behind r.op (Ae.p.val r.b) r.arg r.new).2])
    (fun ps h' AW=>∃Ae,AW=⟨0,Ae⟩/\Stp X i Ae h'/\HQ X i γ u r Ae/\ps=[{v:=Pv,recovered:=false}])):=by
 obtain⟨op,b,arg,new⟩:=r
 obtain⟨hC,h1,h2,h3,h4⟩:=id hr
 dsimp only at hC h1 h2 h3 h4⊢
 obtain⟨v,t,o,c,b0,n,w,y,k,Gp,CR⟩:=T.row
 have c0:AF h ⟨γ.p.tb i,0,none⟩=some (ptr γ.p.R):=AD CR rfl
 have c1:AF h ⟨γ.p.tb i,1,none⟩=some (.int .i64 i):=AD CR rfl
 have Rm:AF h ⟨γ.p.tb i,13,none⟩=some (.bool false):=AD CR rfl
 refine CK (n:=127) ?_
 repeat(first|refine AI ?_|refine AH ?_|refine AE ?_|refine AV ?_|refine Aq ?_)
 refine Bx rfl (Jz c0 Rm) ?_
 repeat(first|refine AI ?_|refine AH ?_|refine AE ?_|refine Ar ?_|refine AV ?_|refine P9 rfl rfl rfl rfl rfl ?_|refine B9 ?_|refine Bd ?_|refine Bg ?_|refine Am ?_)
 refine OQ rfl rfl rfl rfl rfl rfl ?_
 repeat(first|refine AE ?_|refine AI ?_)
 refine F3 (fun _:Unit=>[(4,.int .i64 new),(3,.int .i64 arg),(2,.int .i8 op),(1,ptr b),(0,ptr (γ.p.tb i))]) (fun _ h' AW=>h=h'/\AW=⟨0,γ⟩) (fun _ key=>?_) ?_
 ·refine YX rfl (fun e=>?_) (fun _=>?_)
  ·have e1:op=1:=SO e
   obtain rfl:=h3 e1
   repeat(first|refine AH ?_|refine AE ?_|refine Aq ?_)
   exact Ah (key () _ _ ⟨rfl,rfl⟩) ⟨rfl,rfl,rfl,rfl,rfl,trivial⟩
  ·(repeat refine Ar ?_)
   exact Ah (key () _ _ ⟨rfl,rfl⟩) ⟨rfl,rfl,rfl,rfl,rfl,trivial⟩
 rintro _ _ _ ⟨rfl,rfl⟩
 repeat(first|refine AI ?_|refine AH ?_|refine AV ?_)
 refine OQ rfl rfl rfl rfl rfl rfl ?_
 repeat(first|refine AE ?_|refine AI ?_)
 refine F3 (fun _:Unit=>[(4,.int .i64 new),(3,.int .i64 arg),(2,.int .i8 op),(1,ptr b),(0,ptr (γ.p.tb i))]) (fun _ h' AW=>h=h'/\AW=⟨0,γ⟩) (fun _ key=>?_) ?_
 ·refine YX rfl (fun e=>?_) (fun _=>?_)
  ·have e1:op≠3:=SO e
   obtain rfl:=h4 e1
   repeat(first|refine AH ?_|refine AE ?_|refine Aq ?_)
   exact Ah (key () _ _ ⟨rfl,rfl⟩) ⟨rfl,rfl,rfl,rfl,rfl,trivial⟩
  ·(repeat refine Ar ?_)
   exact Ah (key () _ _ ⟨rfl,rfl⟩) ⟨rfl,rfl,rfl,rfl,rfl,trivial⟩
 rintro _ _ _ ⟨rfl,rfl⟩
 repeat(first|refine AI ?_|refine AH ?_|refine AV ?_|refine Bc ?_|refine Az ?_|refine Df ?_)
 refine Cr (cells:=(KV i ⟨op,b,arg,new⟩).toArray) rfl rfl rfl rfl ?_
 (repeat refine Cn ?_)
 refine Bz (vs:=KV i ⟨op,b,arg,new⟩) rfl rfl (by simp [KV,A4,OneCell]) (fun j hj=>⟨?_,AS (AG _ _),T.free (.inr (.inr (.inr (Nat.le_refl _))))⟩) ?_
 ·have Dm:j<8:=hj
  rcases (show j=0\/j=1\/j=2\/j=3\/j=4\/j=5\/j=6\/j=7 by omega)with rfl|rfl|rfl|rfl|rfl|rfl|rfl|rfl <;> exact⟨_,AD (AG _ _) rfl⟩
 rw [Bw (c:=[.int .i64 0,.int .i8 0,.int .i64 0,.int .i64 0,.int .i64 0,.int .i64 0,.int .i64 0,.bool false]) (vs:=KV i ⟨op,b,arg,new⟩) rfl]
 have T1:=T.alloc hX (CE (KV i ⟨op,b,arg,new⟩))
 have hx:=T.lts
 repeat(first|refine AI ?_|refine AH ?_|refine AE ?_|refine AV ?_)
 refine C5 (vs:=KV i ⟨op,b,arg,new⟩) rfl (C0 (by exact AG _ _)) ?_
 refine Dr rfl rfl rfl rfl rfl (WN hX T1 hr hQ hJ) ?_ ?_
 ·rintro ps h' AW ⟨Ae,rfl,hS,hV,rfl⟩
  exact⟨Ae,rfl,hS,HQ.of hV,rfl⟩
 rintro w h1 H0 ⟨Ae,rfl,hs,hV,hP⟩
 have m:=KW.of hX (fun q hq=>Nat.ne_of_lt (hx q hq)) hs hV hP
 have et:Ae.p.tb i=γ.p.tb i:=(HQ.of hV).tb
 have Dn:Ae.p.st i= .Bp ⟨op,b,arg,new⟩:=(HQ.of hV).st
 generalize h.size=x at m hV⊢
 have cb:h1[b]?=some (Ay (Ae.p.val b)):=m.Fu hC
 repeat(first|refine AI ?_|refine AH ?_|refine AE ?_|refine AV ?_)
 refine Bx rfl (Jk (v:=Ae.p.val b) (AD cb rfl)) ?_
 (repeat refine Az ?_)
 refine CS rfl ⟨nofun,nofun⟩ ⟨_,AD m.lx rfl⟩ (AS m.lx) (m.still (.inl rfl)) ?_
 refine A6 (fun h'=>KW X Ae i {Ae.p with CZ:=ut Ae.p.CZ i L} (Ab Ae.p.log) x (A4 i op (-1) arg new (Ae.p.val b) 0 false) h') (by rw [As m.lx];exact m.V6 hX _) ?_
 clear m cb
 rintro h2 m
 have cb:h2[b]?=some (Ay (Ae.p.val b)):=m.Fu hC
 repeat(first|refine AE ?_|refine AI ?_|refine AH ?_|refine AV ?_)
 refine F3 (fun _:Int×Bool=>[(13,ptr x),(4,.int .i64 new),(3,.int .i64 arg),(2,.int .i8 op),(1,ptr b),(0,ptr (γ.p.tb i))]) (fun w h' AW=>AW=⟨0,Ae⟩/\behind op (Ae.p.val b) arg new=w/\KW X Ae i {Ae.p with CZ:=ut Ae.p.CZ i L,val:=ut Ae.p.val b w.1} (Ab Ae.p.log) x (A4 i op (-1) arg new (Ae.p.val b) 0 w.2) h') (fun _ key=>?_) ?_
 ·rcases (show op=1\/op=2\/op=3\/op=4\/op=5 by omega)with rfl|rfl|rfl|rfl|rfl
  ·obtain rfl:=h3 rfl
   obtain rfl:=h4 (by decide)
   replace m:=m.same (b:=b)
   repeat(first|refine AI ?_|refine AH ?_|refine AE ?_|refine Ar ?_|refine Ak ?_|refine Bb ?_|refine Aq ?_|refine Bg ?_|refine Am ?_)
   exact Ah (key (Ae.p.val b,false) _ _ ⟨rfl,rfl,m⟩) ⟨rfl,rfl,rfl,rfl,rfl,rfl,trivial⟩
  ·obtain rfl:=h4 (by decide)
   repeat(first|refine AI ?_|refine AH ?_|refine AE ?_|refine Ar ?_|refine Ak ?_|refine AV ?_|refine Aq ?_|refine Bs ?_|refine BU ?_)
   refine Bx rfl (KD (v:=Ae.p.val b) (x:=arg) (AD cb rfl) (AS cb) (m.still (.inr (.inl hC)))) ?_
   replace m:=m.cell hX hC arg
   repeat(first|refine AE ?_|refine Bb ?_)
   exact Ah (key (arg,false) _ _ ⟨rfl,rfl,by rw [GZ cb];exact m⟩) ⟨rfl,rfl,rfl,rfl,rfl,rfl,trivial⟩
  ·skip
   repeat(first|refine AI ?_|refine AH ?_|refine AE ?_|refine Ak ?_|refine AV ?_|refine Aq ?_|refine Bs ?_|refine Bg ?_|refine BU ?_|refine Am ?_)
   by_cases hc:Ae.p.val b=arg
   ·subst hc
    refine Bx rfl (S3 (v:=Ae.p.val b) (x:=new) (AD cb rfl) (AS cb) (m.still (.inr (.inl hC)))) ?_
    refine A6 (fun h'=>KW X Ae i {Ae.p with CZ:=ut Ae.p.CZ i L,val:=ut Ae.p.val b new} (Ab Ae.p.log) x (A4 i 3 (-1) (Ae.p.val b) new (Ae.p.val b) 0 false) h') (by rw [GZ cb];exact m.cell hX hC _) ?_
    clear m
    rintro h3 m
    (repeat refine Az ?_)
    refine CS rfl ⟨nofun,nofun⟩ ⟨_,AD m.lx rfl⟩ (AS m.lx) (m.still (.inl rfl)) ?_
    repeat(first|refine AE ?_|refine Bb ?_)
    exact Ah (key (new,true) _ _ ⟨rfl,by simp [behind],by rw [As m.lx];exact m.V6 hX _⟩) ⟨rfl,rfl,rfl,rfl,rfl,rfl,trivial⟩
   ·refine Bx rfl (Vn (v:=Ae.p.val b) (x:=new) hc (AD cb rfl) (AS cb) (m.still (.inr (.inl hC)))) ?_
    replace m:=m.same (b:=b)
    (repeat refine Az ?_)
    refine CS rfl ⟨nofun,nofun⟩ ⟨_,AD m.lx rfl⟩ (AS m.lx) (m.still (.inl rfl)) ?_
    repeat(first|refine AE ?_|refine Bb ?_)
    exact Ah (key (Ae.p.val b,false) _ _ ⟨rfl,by simp [behind,hc],by rw [As m.lx];exact m.V6 hX _⟩) ⟨rfl,rfl,rfl,rfl,rfl,rfl,trivial⟩
  ·obtain rfl:=h4 (by decide)
   repeat(first|refine AI ?_|refine AH ?_|refine AE ?_|refine Ak ?_|refine AV ?_|refine Aq ?_|refine Bs ?_|refine Bg ?_|refine BU ?_|refine Am ?_)
   refine Bx rfl (eS (v:=Ae.p.val b) (x:=arg) (r:=IntKind.i64.wrap (Ae.p.val b+arg)) rfl (AD cb rfl) (AS cb) (m.still (.inr (.inl hC)))) ?_
   replace m:=m.cell hX hC (IntKind.i64.wrap (Ae.p.val b+arg))
   repeat(first|refine AE ?_|refine Bb ?_)
   exact Ah (key (IntKind.i64.wrap (Ae.p.val b+arg),false) _ _ ⟨rfl,rfl,by rw [GZ cb];exact m⟩) ⟨rfl,rfl,rfl,rfl,rfl,rfl,trivial⟩
  ·obtain rfl:=h4 (by decide)
   repeat(first|refine AI ?_|refine AH ?_|refine AE ?_|refine Ak ?_|refine AV ?_|refine Aq ?_|refine Bs ?_|refine Bg ?_|refine BU ?_|refine Am ?_)
   refine Bx rfl (KD (v:=Ae.p.val b) (x:=arg) (AD cb rfl) (AS cb) (m.still (.inr (.inl hC)))) ?_
   replace m:=m.cell hX hC arg
   repeat(first|refine AE ?_|refine Bb ?_)
   exact Ah (key (arg,false) _ _ ⟨rfl,rfl,by rw [GZ cb];exact m⟩) ⟨rfl,rfl,rfl,rfl,rfl,rfl,trivial⟩
 clear cb
 rintro w h3 _ ⟨rfl,m4,m⟩
 have cb:h3[b]?=some (Ay w.1):=(m.Fu hC).trans (congrArg (fun v=>some (Ay v)) (AL _ _ _))
 repeat(first|refine AI ?_|refine AH ?_|refine AV ?_)
 refine Bx rfl (Jk (v:=w.1) (AD cb rfl)) ?_
 (repeat refine Az ?_)
 refine CS rfl ⟨nofun,nofun⟩ ⟨_,AD m.lx rfl⟩ (AS m.lx) (m.still (.inl rfl)) ?_
 refine A6 (fun h'=>KW X Ae i {Ae.p with CZ:=ut Ae.p.CZ i L,val:=ut Ae.p.val b w.1} (Ab Ae.p.log) x (A4 i op (-1) arg new (Ae.p.val b) w.1 w.2) h') (by rw [As m.lx];exact m.V6 hX _) ?_
 clear m cb
 rintro h4 m
 have cb:h4[b]?=some (Ay w.1):=(m.Fu hC).trans (congrArg (fun v=>some (Ay v)) (AL _ _ _))
 have d0:=m.row
 obtain⟨s1,d1⟩:=m.yL
 rw [et]at d0
 obtain⟨es,c',hm,hk,Qk⟩:=m.map
 repeat(first|refine AI ?_|refine AH ?_|refine AE ?_|refine AV ?_|refine Bc ?_|refine Az ?_|refine Df ?_|refine Av rfl (by assumption) ?_)
 by_cases hb:b∈Ab Ae.p.log
 ·refine Yz (v:=.tuple #[.int .i64 ((Ab Ae.p.log).idxOf b:Int),.bool true]) rfl rfl rfl rfl (by decide) hm ⟨_,_,cb⟩ Qk hk (by rw [HT,if_pos hb];simp) ?_
  clear d1 hm hk Qk
  repeat(first|refine AI ?_|refine AH ?_|refine AE ?_|refine Ar ?_|refine AV ?_|refine Aq ?_|refine Az ?_|refine B9 ?_|refine Eo ?_|refine Am ?_)
  have hN:=Zp (e:=Co i ⟨op,b,arg,new⟩ (Ae.p.val b)) hb
  have he:=hb
  revert m hN he
  generalize h4=h5,eNS:Ab Ae.p.log=NS
  intro m hN he
  clear cb eNS
  refine CS rfl ⟨nofun,nofun⟩ ⟨_,AD m.lx rfl⟩ (AS m.lx) (m.still (.inl rfl)) ?_
  refine A6 (fun h'=>KW X Ae i {Ae.p with CZ:=ut Ae.p.CZ i L,val:=ut Ae.p.val b w.1} NS x (A4 i op (NS.idxOf b) arg new (Ae.p.val b) w.1 w.2) h') (by rw [As m.lx];exact m.V6 hX _) ?_
  clear m d0
  rintro h6 m
  obtain⟨s2,M2,g2,nu⟩:=m.gi
  have d0:=m.row
  rw [et]at d0
  have d1:h6[Ae.p.R]?=some (DC s2 Ae.p.mb Ae.p.stops):=g2.GH
  have lx:=m.lx
  repeat(first|refine AI ?_|refine AE ?_)
  refine D7 (fun h'=>AF h' ⟨γ.p.tb i,0,none⟩=some (ptr Ae.p.R)/\AF h' ⟨Ae.p.R,2,none⟩=some s2.L/\A0 h' x 0 (A4 i op (NS.idxOf b) arg new (Ae.p.val b) w.1 w.2)) 16 ?_
  have jI:A0 h6 x 0 (A4 i op (NS.idxOf b) arg new (Ae.p.val b) w.1 w.2):=C0 (by exact lx)
  have hZ:=And.intro d0 (And.intro (AD d1 rfl:AF h6 ⟨Ae.p.R,2,none⟩=some s2.L) jI)
  refine AU 0 hZ ?_
  refine BE 1 hZ ?_
  refine Ag 2 hZ ?_
  refine A8 3 (fun _ hz=>hz.1) hZ ?_
  refine AU 4 hZ ?_
  refine BE 5 hZ ?_
  refine Ag 6 hZ ?_
  refine A8 7 (fun _ hz=>hz.1) hZ ?_
  refine BE 8 hZ ?_
  refine Ag 9 hZ ?_
  refine A8 10 (fun _ hz=>hz.2.1) hZ ?_
  refine EP (vs:=A4 i op (NS.idxOf b) arg new (Ae.p.val b) w.1 w.2) 11 rfl (by kernel_rfl) rfl rfl rfl rfl rfl (fun _ hz=>hz.2.2) hZ ?_
  have NB:_/\_/\_:=⟨A7 (o:=CE (A4 i op (NS.idxOf b) arg new (Ae.p.val b) w.1 w.2)) hZ.1,A7 (o:=CE (A4 i op (NS.idxOf b) arg new (Ae.p.val b) w.1 w.2)) hZ.2.1,fun j v hj=>A7 (o:=CE (A4 i op (NS.idxOf b) arg new (Ae.p.val b) w.1 w.2)) (hZ.2.2 j v hj)⟩
  refine CQ (v:=.slice (some ⟨h6.size,0,none⟩) 1 1) (h':=h6.push (CE (A4 i op (NS.idxOf b) arg new (Ae.p.val b) w.1 w.2))) 12 rfl (by kernel_rfl) (fun ρ Q X Aa hq=>BW (z:=.agg #[.int .i64 0,.int .i8 0,.int .i64 0,.int .i64 0,.int .i64 0,.int .i64 0,.int .i64 0,.bool false]) (sz:=8) Aa rfl (by omega) (by omega) rfl (Lz _ _ _ _ _ _ _ _) hq) NB ?_
  have g3:=g2.A5 (AN.push h6 (CE (A4 i op (NS.idxOf b) arg new (Ae.p.val b) w.1 w.2)))
  have hlen:=hP.len hs
  have d3:=(AN.push (T:=fun _=>False) h6 (CE (A4 i op (NS.idxOf b) arg new (Ae.p.val b) w.1 w.2))).get d1 (fun x=>x)
  have oF:=(AN.push (T:=fun _=>False) h6 (CE (A4 i op (NS.idxOf b) arg new (Ae.p.val b) w.1 w.2))).get lx (fun x=>x)
  have u3:=A2 m.upd (AN.push (T:=fun _=>False) h6 (CE (A4 i op (NS.idxOf b) arg new (Ae.p.val b) w.1 w.2))) (fun _ _ x=>x.elim)
  have I3:=hX.loc _ _ _ (fun c hc=>(AN.push (T:=fun _=>False) h6 (CE (A4 i op (NS.idxOf b) arg new (Ae.p.val b) w.1 w.2))).2 c (g2.Hg c hc).1 (fun x=>x)) m.I
  have KQ:M2.Sl .log s2.L 38 8 Ae.p.log.length (Ae.p.log.flatMap (CF NS)):=g3.all .log
  have Be:=g3.all .run
  refine F5 (new:=A4 i op (NS.idxOf b) arg new (Ae.p.val b) w.1 w.2) 13 rfl (by kernel_rfl) rfl rfl rfl rfl rfl (KQ.slice g3.Ju) (AG _ _) rfl (by simp [A4,OneCell]) (by omega) (by omega) rfl (fun c o hc=>?_) ?_
  ·obtain⟨hk,e⟩:=KQ.blk hc
   rw [e];exact Se m.run m.lt g3 m.st hk (fun j=>⟨nofun,nofun⟩)
  intro s' h7 bS u7 Vy
  have nl:∀k,k≠ .log->M2.ok k->¬blk s2.L=some (M2.B k):=fun k hk ok e=>by
   obtain⟨Dh,e'⟩:=KQ.blk e
   exact g3.ne ok Dh hk e'
  have oN:=g3.all (.t i) (by show i<Ae.p.num;exact hP.lt)
  have n6:¬blk s2.L=some (γ.p.tb i):=by rw [<-et];have:=nl (.t i) nofun oN.1;rwa [oN.2.1]at this
  have nR:¬blk s2.L=some Ae.p.R:=by have:=nl .run nofun Be.1;rwa [Be.2.1]at this
  have iN:¬blk s2.L=some x:=fun e=>by
   obtain⟨Dh,e'⟩:=KQ.blk e
   exact nu _ Dh e'.symm
  have d7:=u7.get d3 nR
  have oB:=u7.get oF iN
  have bg:AF h7 ⟨γ.p.tb i,0,none⟩=some (ptr Ae.p.R)/\AF h7 ⟨Ae.p.R,2,none⟩=some s2.L/\A0 h7 x 0 (A4 i op (NS.idxOf b) arg new (Ae.p.val b) w.1 w.2):=⟨u7.AF NB.1 n6,AD d7 rfl,fun j v hj=>u7.AF (NB.2.2 j v hj) iN⟩
  refine⟨bg,?_⟩
  refine CQ 14 rfl (by kernel_rfl) (fun ρ Q X Aa hq=>BY (Aa _ _ rfl) hq) bg ?_
  have hZ:=bg
  refine Ag 15 hZ ?_
  have WG:CF NS (Co i ⟨op,b,arg,new⟩ (Ae.p.val b))=A4 i op (NS.idxOf b) arg new (Ae.p.val b) w.1 w.2:=by
   show A4 _ _ _ _ _ _ (behind op (Ae.p.val b) arg new).1 (behind op (Ae.p.val b) arg new).2=_
   rw [m4]
   rfl
  obtain⟨as7,ks7,xc⟩:=bS.val
  have WH:OneCell s':=by rw [xc];exact⟨nofun,nofun⟩
  rw [<-WG]at bS
  obtain⟨M',g8⟩:=g3.Yi (e:=Co i ⟨op,b,arg,new⟩ (Ae.p.val b)) he bS u7 Vy (fun c hc=>.inr (Dt u3.size hc))
  have I7:X.I Ae.p.u h7:=hX.loc _ _ _ (fun c hc=>u7.2 c (g3.Hg c hc).1 (fun e=>by
   obtain⟨Dh,e'⟩:=KQ.blk e
   exact(g3.apart _ Dh).2 (by rw [<-e'];exact hc))) I3
  have I8:X.I Ae.p.u (h7.setIfInBounds Ae.p.R (DC {s2 with L:=s'} Ae.p.mb Ae.p.stops)):=hX.loc _ _ _ (fun c hc=>AX _ (fun e:Ae.p.R=c=>(g3.apart _ Be.1).2 (by rw [Be.2.1];show X.HE Ae.p.u Ae.p.R;rw [e];exact hc))) I7
  have u8:AN Ae.W Ae.base (h7.setIfInBounds Ae.p.R (DC {s2 with L:=s'} Ae.p.mb Ae.p.stops)):=Qo (A2 u3 u7 (fun c hc e=>by
   obtain⟨Dh,e'⟩:=KQ.blk e
   have:=g3.wide _ Dh
   rw [<-e']at this
   exact this.resolve_right (by omega))) _ (by have:=g3.wide _ Be.1;rw [Be.2.1]at this;exact this)
  have oA:(h7.setIfInBounds Ae.p.R (DC {s2 with L:=s'} Ae.p.mb Ae.p.stops))[x]?=some (CE (A4 i op (NS.idxOf b) arg new (Ae.p.val b) w.1 w.2)):=(AX _ (fun e:Ae.p.R=x=>nu _ Be.1 (Be.2.1.trans e))).trans oB
  refine D6 (h':=h7.setIfInBounds Ae.p.R (DC {s2 with L:=s'} Ae.p.mb Ae.p.stops)) 16 rfl (by kernel_rfl) rfl rfl rfl (fun ρ Q X Aa hq=>BG (Aa _ _ rfl) (Aa _ _ rfl) WH ⟨_,AD d7 rfl⟩ (AS d7) (m.still (.inr (.inr (.inl rfl)))) (by rw [As d7];exact hq)) ?_
  refine BF ?_
  clear hZ bg NB u7 d7 oB I7 bS Vy nl n6 nR iN d3 oF u3 I3
  generalize h7.setIfInBounds Ae.p.R (DC {s2 with L:=s'} Ae.p.mb Ae.p.stops)=h8 at g8 I8 u8 oA⊢
  (repeat refine AI ?_)
  refine BO (fun h'=>A0 h' x 0 (A4 i op (NS.idxOf b) arg new (Ae.p.val b) w.1 w.2)) ?_
  have hZ:A0 h8 x 0 (A4 i op (NS.idxOf b) arg new (Ae.p.val b) w.1 w.2):=C0 (by exact oA)
  refine Ag 0 hZ ?_
  refine D8 1 rfl (by kernel_rfl) (fun _ hz=>hz 5 _ rfl) hZ ?_
  refine Ag 2 hZ ?_
  refine D8 3 rfl (by kernel_rfl) (fun _ hz=>hz 6 _ rfl) hZ ?_
  refine Ag 4 hZ ?_
  refine D8 5 rfl (by kernel_rfl) (fun _ hz=>hz 7 _ rfl) hZ ?_
  refine Dp 6 hZ ?_
  refine Dp 7 hZ ?_
  refine Dp 8 hZ ?_
  refine BF ?_
  (repeat refine AQ ?_)
  refine SK rfl rfl rfl rfl ⟨Ae,rfl,Ya hX hs hP Dn ⟨{s2 with L:=s'},M',?_⟩ I8 u8,HQ.of hV,?_⟩
  ·show GI X _ {Ae.p with CZ:=ut Ae.p.CZ i L,val:=ut Ae.p.val b (behind op (Ae.p.val b) arg new).1,log:=_} _ _ _ _
   rw [m4,hN]
   exact g8
  ·show _=Value.tuple #[.int .i64 (Ae.p.val b),.int .i64 (behind op (Ae.p.val b) arg new).1,.bool (behind op (Ae.p.val b) arg new).2]
   rw [m4]
 ·refine Yz (v:=.tuple #[.int .i64 0,.bool false]) rfl rfl rfl rfl (by decide) hm ⟨_,_,cb⟩ Qk hk (by rw [HT,if_neg hb]) ?_
  repeat(first|refine AI ?_|refine AH ?_|refine AE ?_|refine AV ?_|refine Aq ?_|refine Bc ?_|refine Az ?_|refine Df ?_|refine B9 ?_|refine Eo ?_|refine BU ?_|refine Av rfl (by assumption) ?_)
  have hi:=Ox hb
  refine lT (v:=(Ab Ae.p.log++[b]).idxOf b) rfl rfl rfl hm (by rw [Un hk,JC,hi]) ?_
  repeat(first|refine AH ?_|refine AE ?_|refine AV ?_|refine Aq ?_|refine Bc ?_|refine Az ?_|refine Df ?_|refine Av rfl (by assumption) ?_)
  refine lU rfl rfl rfl rfl (by decide) hm ⟨_,_,cb⟩ Qk hk (by rw [HT,if_neg hb]) ?_
  refine A6 (fun h'=>KW X Ae i {Ae.p with CZ:=ut Ae.p.CZ i L,val:=ut Ae.p.val b w.1} (Ab Ae.p.log++[b]) x (A4 i op (-1) arg new (Ae.p.val b) w.1 w.2) h') (by rw [hi];exact m.UA hX hC hm hk) ?_
  clear m d1 hm hk Qk d0 hi cb
  rintro h5 m
  have hN:=Zq (e:=Co i ⟨op,b,arg,new⟩ (Ae.p.val b)) hb
  have he:b∈Ab Ae.p.log++[b]:=by simp
  change Ab (Ae.p.log++[Co i ⟨op,b,arg,new⟩ (Ae.p.val b)])=Ab Ae.p.log++[b]at hN
  revert m hN he
  generalize Ab Ae.p.log++[b]=NS
  intro m he hN
  have d0:=m.row
  rw [et]at d0
  repeat(first|refine AI ?_|refine AH ?_|refine AE ?_|refine AV ?_|refine Az ?_)
  refine CS rfl ⟨nofun,nofun⟩ ⟨_,AD m.lx rfl⟩ (AS m.lx) (m.still (.inl rfl)) ?_
  refine A6 (fun h'=>KW X Ae i {Ae.p with CZ:=ut Ae.p.CZ i L,val:=ut Ae.p.val b w.1} NS x (A4 i op (NS.idxOf b) arg new (Ae.p.val b) w.1 w.2) h') (by rw [As m.lx];exact m.V6 hX _) ?_
  clear m d0
  rintro h6 m
  obtain⟨s2,M2,g2,nu⟩:=m.gi
  have d0:=m.row
  rw [et]at d0
  have d1:h6[Ae.p.R]?=some (DC s2 Ae.p.mb Ae.p.stops):=g2.GH
  have lx:=m.lx
  repeat(first|refine AI ?_|refine AE ?_)
  refine D7 (fun h'=>AF h' ⟨γ.p.tb i,0,none⟩=some (ptr Ae.p.R)/\AF h' ⟨Ae.p.R,2,none⟩=some s2.L/\A0 h' x 0 (A4 i op (NS.idxOf b) arg new (Ae.p.val b) w.1 w.2)) 16 ?_
  have jI:A0 h6 x 0 (A4 i op (NS.idxOf b) arg new (Ae.p.val b) w.1 w.2):=C0 (by exact lx)
  have hZ:=And.intro d0 (And.intro (AD d1 rfl:AF h6 ⟨Ae.p.R,2,none⟩=some s2.L) jI)
  refine AU 0 hZ ?_
  refine BE 1 hZ ?_
  refine Ag 2 hZ ?_
  refine A8 3 (fun _ hz=>hz.1) hZ ?_
  refine AU 4 hZ ?_
  refine BE 5 hZ ?_
  refine Ag 6 hZ ?_
  refine A8 7 (fun _ hz=>hz.1) hZ ?_
  refine BE 8 hZ ?_
  refine Ag 9 hZ ?_
  refine A8 10 (fun _ hz=>hz.2.1) hZ ?_
  refine EP (vs:=A4 i op (NS.idxOf b) arg new (Ae.p.val b) w.1 w.2) 11 rfl (by kernel_rfl) rfl rfl rfl rfl rfl (fun _ hz=>hz.2.2) hZ ?_
  have NB:_/\_/\_:=⟨A7 (o:=CE (A4 i op (NS.idxOf b) arg new (Ae.p.val b) w.1 w.2)) hZ.1,A7 (o:=CE (A4 i op (NS.idxOf b) arg new (Ae.p.val b) w.1 w.2)) hZ.2.1,fun j v hj=>A7 (o:=CE (A4 i op (NS.idxOf b) arg new (Ae.p.val b) w.1 w.2)) (hZ.2.2 j v hj)⟩
  refine CQ (v:=.slice (some ⟨h6.size,0,none⟩) 1 1) (h':=h6.push (CE (A4 i op (NS.idxOf b) arg new (Ae.p.val b) w.1 w.2))) 12 rfl (by kernel_rfl) (fun ρ Q X Aa hq=>BW (z:=.agg #[.int .i64 0,.int .i8 0,.int .i64 0,.int .i64 0,.int .i64 0,.int .i64 0,.int .i64 0,.bool false]) (sz:=8) Aa rfl (by omega) (by omega) rfl (Lz _ _ _ _ _ _ _ _) hq) NB ?_
  have g3:=g2.A5 (AN.push h6 (CE (A4 i op (NS.idxOf b) arg new (Ae.p.val b) w.1 w.2)))
  have hlen:=hP.len hs
  have d3:=(AN.push (T:=fun _=>False) h6 (CE (A4 i op (NS.idxOf b) arg new (Ae.p.val b) w.1 w.2))).get d1 (fun x=>x)
  have oF:=(AN.push (T:=fun _=>False) h6 (CE (A4 i op (NS.idxOf b) arg new (Ae.p.val b) w.1 w.2))).get lx (fun x=>x)
  have u3:=A2 m.upd (AN.push (T:=fun _=>False) h6 (CE (A4 i op (NS.idxOf b) arg new (Ae.p.val b) w.1 w.2))) (fun _ _ x=>x.elim)
  have I3:=hX.loc _ _ _ (fun c hc=>(AN.push (T:=fun _=>False) h6 (CE (A4 i op (NS.idxOf b) arg new (Ae.p.val b) w.1 w.2))).2 c (g2.Hg c hc).1 (fun x=>x)) m.I
  have KQ:M2.Sl .log s2.L 38 8 Ae.p.log.length (Ae.p.log.flatMap (CF NS)):=g3.all .log
  have Be:=g3.all .run
  refine F5 (new:=A4 i op (NS.idxOf b) arg new (Ae.p.val b) w.1 w.2) 13 rfl (by kernel_rfl) rfl rfl rfl rfl rfl (KQ.slice g3.Ju) (AG _ _) rfl (by simp [A4,OneCell]) (by omega) (by omega) rfl (fun c o hc=>?_) ?_
  ·obtain⟨hk,e⟩:=KQ.blk hc
   rw [e];exact Se m.run m.lt g3 m.st hk (fun j=>⟨nofun,nofun⟩)
  intro s' h7 bS u7 Vy
  have nl:∀k,k≠ .log->M2.ok k->¬blk s2.L=some (M2.B k):=fun k hk ok e=>by
   obtain⟨Dh,e'⟩:=KQ.blk e
   exact g3.ne ok Dh hk e'
  have oN:=g3.all (.t i) (by show i<Ae.p.num;exact hP.lt)
  have n6:¬blk s2.L=some (γ.p.tb i):=by rw [<-et];have:=nl (.t i) nofun oN.1;rwa [oN.2.1]at this
  have nR:¬blk s2.L=some Ae.p.R:=by have:=nl .run nofun Be.1;rwa [Be.2.1]at this
  have iN:¬blk s2.L=some x:=fun e=>by
   obtain⟨Dh,e'⟩:=KQ.blk e
   exact nu _ Dh e'.symm
  have d7:=u7.get d3 nR
  have oB:=u7.get oF iN
  have bg:AF h7 ⟨γ.p.tb i,0,none⟩=some (ptr Ae.p.R)/\AF h7 ⟨Ae.p.R,2,none⟩=some s2.L/\A0 h7 x 0 (A4 i op (NS.idxOf b) arg new (Ae.p.val b) w.1 w.2):=⟨u7.AF NB.1 n6,AD d7 rfl,fun j v hj=>u7.AF (NB.2.2 j v hj) iN⟩
  refine⟨bg,?_⟩
  refine CQ 14 rfl (by kernel_rfl) (fun ρ Q X Aa hq=>BY (Aa _ _ rfl) hq) bg ?_
  have hZ:=bg
  refine Ag 15 hZ ?_
  have WG:CF NS (Co i ⟨op,b,arg,new⟩ (Ae.p.val b))=A4 i op (NS.idxOf b) arg new (Ae.p.val b) w.1 w.2:=by
   show A4 _ _ _ _ _ _ (behind op (Ae.p.val b) arg new).1 (behind op (Ae.p.val b) arg new).2=_
   rw [m4]
   rfl
  obtain⟨as7,ks7,xc⟩:=bS.val
  have WH:OneCell s':=by rw [xc];exact⟨nofun,nofun⟩
  rw [<-WG]at bS
  obtain⟨M',g8⟩:=g3.Yi (e:=Co i ⟨op,b,arg,new⟩ (Ae.p.val b)) he bS u7 Vy (fun c hc=>.inr (Dt u3.size hc))
  have I7:X.I Ae.p.u h7:=hX.loc _ _ _ (fun c hc=>u7.2 c (g3.Hg c hc).1 (fun e=>by
   obtain⟨Dh,e'⟩:=KQ.blk e
   exact(g3.apart _ Dh).2 (by rw [<-e'];exact hc))) I3
  have I8:X.I Ae.p.u (h7.setIfInBounds Ae.p.R (DC {s2 with L:=s'} Ae.p.mb Ae.p.stops)):=hX.loc _ _ _ (fun c hc=>AX _ (fun e:Ae.p.R=c=>(g3.apart _ Be.1).2 (by rw [Be.2.1];show X.HE Ae.p.u Ae.p.R;rw [e];exact hc))) I7
  have u8:AN Ae.W Ae.base (h7.setIfInBounds Ae.p.R (DC {s2 with L:=s'} Ae.p.mb Ae.p.stops)):=Qo (A2 u3 u7 (fun c hc e=>by
   obtain⟨Dh,e'⟩:=KQ.blk e
   have:=g3.wide _ Dh
   rw [<-e']at this
   exact this.resolve_right (by omega))) _ (by have:=g3.wide _ Be.1;rw [Be.2.1]at this;exact this)
  have oA:(h7.setIfInBounds Ae.p.R (DC {s2 with L:=s'} Ae.p.mb Ae.p.stops))[x]?=some (CE (A4 i op (NS.idxOf b) arg new (Ae.p.val b) w.1 w.2)):=(AX _ (fun e:Ae.p.R=x=>nu _ Be.1 (Be.2.1.trans e))).trans oB
  refine D6 (h':=h7.setIfInBounds Ae.p.R (DC {s2 with L:=s'} Ae.p.mb Ae.p.stops)) 16 rfl (by kernel_rfl) rfl rfl rfl (fun ρ Q X Aa hq=>BG (Aa _ _ rfl) (Aa _ _ rfl) WH ⟨_,AD d7 rfl⟩ (AS d7) (m.still (.inr (.inr (.inl rfl)))) (by rw [As d7];exact hq)) ?_
  refine BF ?_
  clear hZ bg NB u7 d7 oB I7 bS Vy nl n6 nR iN d3 oF u3 I3
  generalize h7.setIfInBounds Ae.p.R (DC {s2 with L:=s'} Ae.p.mb Ae.p.stops)=h8 at g8 I8 u8 oA⊢
  (repeat refine AI ?_)
  refine BO (fun h'=>A0 h' x 0 (A4 i op (NS.idxOf b) arg new (Ae.p.val b) w.1 w.2)) ?_
  have hZ:A0 h8 x 0 (A4 i op (NS.idxOf b) arg new (Ae.p.val b) w.1 w.2):=C0 (by exact oA)
  refine Ag 0 hZ ?_
  refine D8 1 rfl (by kernel_rfl) (fun _ hz=>hz 5 _ rfl) hZ ?_
  refine Ag 2 hZ ?_
  refine D8 3 rfl (by kernel_rfl) (fun _ hz=>hz 6 _ rfl) hZ ?_
  refine Ag 4 hZ ?_
  refine D8 5 rfl (by kernel_rfl) (fun _ hz=>hz 7 _ rfl) hZ ?_
  refine Dp 6 hZ ?_
  refine Dp 7 hZ ?_
  refine Dp 8 hZ ?_
  refine BF ?_
  (repeat refine AQ ?_)
  refine SK rfl rfl rfl rfl ⟨Ae,rfl,Ya hX hs hP Dn ⟨{s2 with L:=s'},M',?_⟩ I8 u8,HQ.of hV,?_⟩
  ·show GI X _ {Ae.p with CZ:=ut Ae.p.CZ i L,val:=ut Ae.p.val b (behind op (Ae.p.val b) arg new).1,log:=_} _ _ _ _
   rw [m4,hN]
   exact g8
  ·show _=Value.tuple #[.int .i64 (Ae.p.val b),.int .i64 (behind op (Ae.p.val b) arg new).1,.bool (behind op (Ae.p.val b) arg new).2]
   rw [m4]
end
end
section
section
variable{X:Us}{h:Hp}{i:Nat}{γ:GG X}{u:X.U}{L:List (Nat×Obj)}
instance:Es Tryz.prog 20 (.interface #[]):=⟨Tryz.underlying20⟩
theorem Yb{γ₁:GG X}{f n:Nat}{k:List Item}{env:Env}{cs:List Frame}{ops:Array Oper}{x y:Operand}{ty:TypeId}{pos:String}{af:Array Edge}{g:Option (Nat×Bool)}(hr:γ.run=i)(hw:Al ops env g=some true)(hx:ev env x=some (.chan (some (γ.p.sd i))))(hy:ev env y=some tok)
  (hn:γ₁.p.num=γ.p.num) (ho:HR (PX X) (i+1) γ γ₁) (hp:P0 X γ₁ h) (hc:γ₁.p.gone i=true) (hq:∀a,Kn n env [] a->QuitsD Tryz.prog 5 0 (G ((fb f .deferred).at a (.inRegion ops []::k)) cs)):
  TR Tryz.prog false (ED Tryz.prog (PX X) (i+1)) (MH Tryz.prog (PX X) (i+1)) f n .deferred cs ops [⟨none,.send x y,ty,pos,af,g⟩] k env [] h ⟨0,γ⟩:=by
 intro rest IQ a ka
 obtain⟨m,r,rfl,ho',IQ⟩:=G4 IQ
 have:r=[]:=by simpa using IQ
 subst this
 refine .stop ⟨rfl,γ₁,γ.p.sd i,_,by omega,Nat.succ_pos _,by show some (γ.p.sd γ.run)=_;rw [hr],Vl ho' (CN ka (o:=⟨none,.send x y,ty,pos,af,g⟩) hw) (by decide) (ka.eval hx) (ka.eval hy),by show γ₁.p.num+1=γ.p.num+1;rw [hn],ho,hp,?_,5,?_⟩
 ·show(if γ₁.p.gone i=true then none else some (γ₁.p.wk i))=none
  rw [if_pos hc]
 ·rw [Mk ho' rfl];exact hq a ka
theorem GB.drop(hX:X.Ok)(T:GB X i γ u L h):GB X i γ u [] h:=by
 obtain⟨s,M,g⟩:=T.gi
 exact T.user hX (AN.refl _ _) (fun b hb=>⟨.inl hb,(g.Hg b hb).1⟩) (fun q hq=>by cases hq) T.I (fun _ _=>hX.Lg _ _)
theorem TH(T:GB X i γ u L h):HR (PX X) (i+1) γ {γ with p:=γ.p.GQ i u L .over true}:=by
 obtain⟨a1,a2,a3,a4,a5,a6,a7,a8,a9,NU,R0,VA,nX,pV,pU,nU,xq⟩:=Dk γ.p i
 intro x hx hl
 cases x with
 | zero=>
  refine⟨?_,?_,rfl,rfl,rfl,rfl⟩
  ·show some ((γ.p.acc i).sd γ.run)=some (γ.p.sd γ.run);rw [a6]
  ·show cM _=cM γ
   funext a
   show(if a=⟨(γ.p.acc i).tb γ.run,3,none⟩then some (Value.chan (some ((γ.p.acc i).sd γ.run)))else none)=(if a=⟨γ.p.tb γ.run,3,none⟩then some (Value.chan (some (γ.p.sd γ.run)))else none)
   rw [a4,a6]
 | succ j=>
  have hj:j≠i:=fun e=>hx (by rw [e])
  refine⟨?_,?_,QE hj (T.V j hj) _ _ _⟩
  ·show(if ut (γ.p.acc i).gone i true j=true then none else some ((γ.p.acc i).wk j))=(if γ.p.gone j=true then none else some (γ.p.wk j))
   rw [Ai _ _ hj,VA,a5]
  ·show cT _ j=cT γ j
   funext a
   show(if a=⟨(γ.p.acc i).tb j,2,none⟩then some (Value.chan (some ((γ.p.acc i).wk j)))else if a=⟨(γ.p.acc i).bx j,0,none⟩then some (.pointer (some ⟨(γ.p.acc i).tb j,0,none⟩))else none)=(if a=⟨γ.p.tb j,2,none⟩then some (Value.chan (some (γ.p.wk j)))else if a=⟨γ.p.bx j,0,none⟩then some (.pointer (some ⟨γ.p.tb j,0,none⟩))else none)
   rw [a4,a5,a7]
theorem TG(hX:X.Ok):HR (PX X) (i+1) γ {γ with p:={γ.p with gone:=ut γ.p.gone i true} }:=by
 intro x hx hl
 cases x with
 | zero=>exact⟨rfl,rfl,rfl,rfl,rfl,rfl⟩
 | succ j=>
  have hj:j≠i:=fun e=>hx (by rw [e])
  have e1:ut γ.p.gone i true j=γ.p.gone j:=Ai _ _ hj
  refine⟨?_,rfl,⟨CY _,rfl,rfl,rfl,rfl,rfl,rfl,rfl,rfl,rfl,e1,rfl,rfl,hX.Lg _ _⟩⟩
  show(if ut γ.p.gone i true j=true then none else some (γ.p.wk j))=_
  rw [e1];rfl
theorem GB.ends(hX:X.Ok)(T:GB X i γ u L h)(hQ:X.Q i (Bm i (γ.p.acc i).log) .over u)(hJ:X.J (γ.p.acc i).log u (γ.p.acc i).val):
  P0 X {γ with p:=γ.p.GQ i u L .over true} (Af h ⟨γ.p.tb i,13,none⟩ (.bool true))/\AF (Af h ⟨γ.p.tb i,13,none⟩ (.bool true)) ⟨γ.p.tb i,3,none⟩=some (.chan (some (γ.p.sd i)))/\AF (Af h ⟨γ.p.tb i,13,none⟩ (.bool true)) ⟨γ.p.bx i,0,none⟩=some (ptr (γ.p.tb i)):=by
 obtain⟨v,t,o,c,b,n,w,y,k,Gp,A0⟩:=T.row
 have er:Af h ⟨γ.p.tb i,13,none⟩ (.bool true)=h.setIfInBounds (γ.p.tb i) (FG γ.p.R i (γ.p.wk i) (γ.p.sd i) v (A4 t o c b n w y k) true):=As A0 _
 rw [er]
 obtain⟨s,M,g⟩:=T.gi
 obtain⟨a1,a2,a3,a4,a5,a6,a7,a8,a9,NU,R0,VA,nX,pV,pU,nU,xq⟩:=Dk γ.p i
 have Cg:i<({γ.p.acc i with u:=u,CZ:=ut (γ.p.acc i).CZ i L}:PS X.U).num:=by rw [Cc.1];exact T.lt
 have g1:=g.row Cg (t:=.over) (v:=v) (a:=A4 t o c b n w y k) Gp.rs true
 have g2:GI X (PY γ.W γ.base) (γ.p.GQ i u L .over true) (Ab (γ.p.GQ i u L .over true).log) s (M.set (.t i) (FG (γ.p.acc i).R i ((γ.p.acc i).wk i) ((γ.p.acc i).sd i) v (A4 t o c b n w y k) true)) (h.setIfInBounds ((γ.p.acc i).tb i) (FG (γ.p.acc i).R i ((γ.p.acc i).wk i) ((γ.p.acc i).sd i) v (A4 t o c b n w y k) true)):=g1
 clear g1
 rw [a1,a4,a5,a6]at g2
 have x1:=g.all (.t i) Cg
 have et:M.B (.t i)=γ.p.tb i:=x1.2.1.trans (congrFun Cc.2.1 i)
 have r2:=AJ A0 (o':=FG γ.p.R i (γ.p.wk i) (γ.p.sd i) v (A4 t o c b n w y k) true)
 have vD:(h.setIfInBounds (γ.p.tb i) (FG γ.p.R i (γ.p.wk i) (γ.p.sd i) v (A4 t o c b n w y k) true))[(γ.p.acc i).bx i]?=some (Obj.cells #[ptr ((γ.p.acc i).tb i)] 48 (0,0)):=g2.Qw (i:=i) Cg
 rw [a7,a4]at vD
 refine⟨⟨by show γ.run<_;rw [T.run];exact Cg,.inl ⟨by rw [T.Dl];exact T.go,u,L,.over,?_,nofun,nofun⟩,⟨s,_,g2⟩,hX.loc _ _ _ (fun b hb=>AX _ (fun e=>(g.apart _ x1.1).2 (by rw [et,e];exact hb))) T.I,hJ,fun x=>?_,Qo T.upd _ (et▸g.wide _ x1.1)⟩,AD r2 rfl,AD vD rfl⟩
 ·show γ.p.GQ i u L .over true=γ.Dl.GQ γ.run u L .over true
  rw [T.Dl,T.run]
 ·show X.Q x (Bm x (γ.p.acc i).log) (ut (γ.p.acc i).st i .over x) u
  by_cases e:x=i
  ·subst e;rw [AL];exact hQ
  ·rw [Ai _ _ e,Ra _ _ e,R0]
   exact hX.R3 _ _ _ _ _ (T.V x e) (T.Q x)
theorem Stp.row(T:Stp X i γ h):∃v t o c b n w x k,Lf i (γ.p.st i) v (A4 t o c b n w x k)/\h[γ.p.tb i]?=some (FG γ.p.R i (γ.p.wk i) (γ.p.sd i) v (A4 t o c b n w x k) false):=by
 obtain⟨s,M,g⟩:=T.P.held.gi
 obtain⟨v,a,h1,h2⟩:=g.JV T.P.lt
 obtain⟨_,t,o,c,b,n,w,x,k,rfl⟩:=h1.form
 exact⟨v,t,o,c,b,n,w,x,k,h1,by rw [<-T.P.live];exact h2⟩
theorem Stp.ends(hX:X.Ok)(T:Stp X i γ h):
  P0 X {γ with p:={γ.p with gone:=ut γ.p.gone i true} } (Af h ⟨γ.p.tb i,13,none⟩ (.bool true))/\AF (Af h ⟨γ.p.tb i,13,none⟩ (.bool true)) ⟨γ.p.tb i,3,none⟩=some (.chan (some (γ.p.sd i)))/\AF (Af h ⟨γ.p.tb i,13,none⟩ (.bool true)) ⟨γ.p.bx i,0,none⟩=some (ptr (γ.p.tb i)):=by
 obtain⟨v,t,o,c,b,n,w,y,k,Gp,A0⟩:=T.row
 have er:Af h ⟨γ.p.tb i,13,none⟩ (.bool true)=h.setIfInBounds (γ.p.tb i) (FG γ.p.R i (γ.p.wk i) (γ.p.sd i) v (A4 t o c b n w y k) true):=As A0 _
 rw [er]
 obtain⟨s,M,g⟩:=T.P.held.gi
 have g1:=g.row T.P.lt (t:=γ.p.st i) (v:=v) (a:=A4 t o c b n w y k) Gp true
 rw [FU]at g1
 have x1:=g.all (.t i) T.P.lt
 have et:M.B (.t i)=γ.p.tb i:=x1.2.1
 have r2:=AJ A0 (o':=FG γ.p.R i (γ.p.wk i) (γ.p.sd i) v (A4 t o c b n w y k) true)
 have vD:=g1.Qw (i:=i) T.P.lt
 refine⟨⟨by show γ.run<_;rw [T.P.run];exact T.P.lt,.inr ⟨by rw [T.P.Dl];exact T.stops,?_⟩,⟨s,_,g1⟩,hX.loc _ _ _ (fun b hb=>AX _ (fun e=>(g.apart _ x1.1).2 (by rw [et,e];exact hb))) T.P.held.I,T.P.held.J,T.P.held.Q,Qo T.P.held.upd _ (et▸g.wide _ x1.1)⟩,AD r2 rfl,AD vD rfl⟩
 show({γ.p with gone:=ut γ.p.gone i true}:PS X.U)={γ.Dl with gone:=ut γ.Dl.gone γ.run true}
 rw [T.P.Dl,T.P.run]
end
end
section
section
variable{X:Us}{h:Hp}{i:Nat}{γ:GG X}{u:X.U}{L:List (Nat×Obj)}
theorem GB.bxC(T:GB X i γ u L h):AF h ⟨γ.p.bx i,0,none⟩=some (ptr (γ.p.tb i)):=by
 obtain⟨s,M,g⟩:=T.gi
 have:=g.Qw (i:=i) (by rw [Cc.1];exact T.lt)
 rw [Cc.2.2,Cc.2.1]at this
 exact AD this rfl
theorem Zo(hX:X.Ok){a1:Act}{todo:List Item}{rb bx:Nat}(hd:a1.defers=[])(T:GB X i γ u L h)(hb:bx=γ.p.bx i)(hQ:X.Q i (Bm i (γ.p.acc i).log) .over u)(hJ:X.J (γ.p.acc i).log u (γ.p.acc i).val):
  Dq Tryz.prog false (ED Tryz.prog (PX X) (i+1)) (MH Tryz.prog (PX X) (i+1)) (G (Frame.enter Tryz.prog 94 #[ptr rb,ptr bx] .deferred) [{(fb 93 .deferred).at a1 todo with mode:=.returning},GU Tryz.prog]) h ⟨0,γ⟩:=by
 subst hb
 have hk:CallKind.deferred≠ .early:=by decide
 obtain⟨v,t,o,c,b,n,w,y,k,Gp,A0⟩:=T.row
 obtain⟨p0,e1,e0⟩:=T.ends hX hQ hJ
 have w0:=T.bxC
 refine Y7 (n:=30) rfl rfl ?_
 repeat' refine K6 ?_
 refine Hu ?_
 refine lm rfl rfl rfl rfl rfl ?_
 refine CM hk rfl rfl (fun ρ Q X Aa hq=>Ee (Aa _ _ rfl) hq) ?_
 refine IY (K6 (Hu ?_))
 refine CM hk rfl rfl (fun ρ Q X Aa hq=>Ji (Aa _ _ rfl) hq) ?_
 refine CM hk rfl rfl (fun ρ Q X Aa hq=>QK (Aa _ _ rfl) (Aa _ _ rfl) (.inl ⟨rfl,rfl⟩) hq) ?_
 refine CM hk rfl rfl (fun ρ Q X Aa hq=>Ji (Aa _ _ rfl) hq) ?_
 refine OO rfl rfl (OO rfl rfl (OO rfl rfl (OO rfl rfl (OO rfl rfl ?_))))
 refine CM (v:=.bool false) hk rfl rfl (fun ρ Q X Aa hq=>Ls (b:=false) (Aa _ _ rfl) (by show ρ _=_;exact Aa _ _ rfl) hq) ?_
 refine IY (UF (t:=false) rfl (Y6 (K6 (Hu ?_))))
 refine CM hk rfl rfl (fun ρ Q X Aa hq=>EB (Aa _ _ rfl) w0 hq) ?_
 refine CM hk rfl rfl (fun ρ Q X Aa hq=>BY (Aa _ _ rfl) hq) ?_
 refine CM hk rfl rfl (fun ρ Q X Aa hq=>Ce (Aa _ _ rfl) hq) ?_
 refine Y4 (h':=Af h ⟨γ.p.tb i,13,none⟩ (.bool true)) hk rfl (fun ρ Q X Aa hq=>BG (Aa _ _ rfl) (Aa _ _ rfl) (by simp [OneCell]) ⟨_,AD A0 rfl⟩ (AS A0) (T.VZ (by decide)) hq) ?_
 refine IY (Hu ?_)
 refine CM hk rfl rfl (fun ρ Q X Aa hq=>EB (Aa _ _ rfl) e0 hq) ?_
 refine CM hk rfl rfl (fun ρ Q X Aa hq=>BY (Aa _ _ rfl) hq) ?_
 refine CM hk rfl rfl (fun ρ Q X Aa hq=>Ce (Aa _ _ rfl) hq) ?_
 refine CM hk rfl rfl (fun ρ Q X Aa hq=>EB (Aa _ _ rfl) e1 hq) ?_
 refine CM hk rfl rfl (fun ρ Q X Aa hq=>De (cells:=#[]) Aa rfl rfl hq) ?_
 exact Yb T.run rfl rfl rfl (Dk γ.p i).2.2.1 (TH T) p0 (AL _ _ _) (fun a ka=>QT rfl rfl ka.defers hd (.inl rfl))
theorem ZO(hX:X.Ok){a1:Act}{todo:List Item}{rb bx:Nat}(hd:a1.defers=[])(T:Stp X i γ h)(hb:bx=γ.p.bx i)(DN:rb=γ.p.br i):
  Dq Tryz.prog false (ED Tryz.prog (PX X) (i+1)) (MH Tryz.prog (PX X) (i+1)) (G (Frame.enter Tryz.prog 94 #[ptr rb,ptr bx] .deferred) [{(fb 93 .deferred).at a1 todo with mode:=.panicking [{v:=Pv,recovered:=false}]},GU Tryz.prog]) h ⟨0,γ⟩:=by
 subst hb DN
 have hk:CallKind.deferred≠ .early:=by decide
 obtain⟨v,t,o,c,b,n,w,y,k,Gp,A0⟩:=T.row
 obtain⟨p0,e1,e0⟩:=T.ends hX
 obtain⟨s,M,g⟩:=T.P.held.gi
 have w0:AF h ⟨γ.p.bx i,0,none⟩=some (ptr (γ.p.tb i)):=AD (g.Qw T.P.lt) rfl
 have w1:AF h ⟨γ.p.br i,0,none⟩=some (ptr γ.p.R):=AD (g.ql T.P.lt) rfl
 have Be:=g.GH
 rw [T.stops]at Be
 have w2:AF h ⟨γ.p.R,6,none⟩=some (.bool true):=AD Be rfl
 have Dn:¬(ED Tryz.prog (PX X) (i+1)).still γ ⟨γ.p.tb i,13,none⟩:=by
  intro x
  have hi:=g.all (.t i) T.P.lt
  rcases Jg T.P.run x with e|⟨j,M9,hj,e|e⟩
  ·injection e with _ e _;exact absurd e (by decide)
  ·have Dm:=g.all (.t j) hj
   injection e with e _ _
   exact g.ne hi.1 Dm.1 (fun y=>M9 (by injection y with y;exact y.symm)) (hi.2.1.trans (e.trans Dm.2.1.symm))
  ·have Dm:=g.all (.bx j) hj
   injection e with e _ _
   exact g.ne hi.1 Dm.1 nofun (hi.2.1.trans (e.trans Dm.2.1.symm))
 refine Y7 (n:=30) rfl rfl ?_
 repeat' refine K6 ?_
 refine Hu ?_
 refine lj rfl rfl rfl rfl rfl ?_
 refine CM hk rfl rfl (fun ρ Q X Aa hq=>Ee (Aa _ _ rfl) hq) ?_
 refine IY (K6 (Hu ?_))
 refine CM hk rfl rfl (fun ρ Q X Aa hq=>Ji (Aa _ _ rfl) hq) ?_
 refine CM hk rfl rfl (fun ρ Q X Aa hq=>QK (b:=true) (Aa _ _ rfl) (Aa _ _ rfl) (.inr ⟨_,_,rfl,rfl⟩) hq) ?_
 refine CM hk rfl rfl (fun ρ Q X Aa hq=>Ji (Aa _ _ rfl) hq) ?_
 refine CM hk rfl rfl (fun ρ Q X Aa hq=>EB (Aa _ _ rfl) w1 hq) ?_
 refine CM hk rfl rfl (fun ρ Q X Aa hq=>BY (Aa _ _ rfl) hq) ?_
 refine CM hk rfl rfl (fun ρ Q X Aa hq=>Ce (Aa _ _ rfl) hq) ?_
 refine CM hk rfl rfl (fun ρ Q X Aa hq=>EB (Aa _ _ rfl) w2 hq) ?_
 refine CM hk rfl rfl (fun ρ Q X Aa hq=>Sg (Aa _ _ rfl) hq) ?_
 refine CM (v:=.bool false) hk rfl rfl (fun ρ Q X Aa hq=>Ls (b:=true) (Aa _ _ rfl) (by show ρ _=_;exact Aa _ _ rfl) hq) ?_
 refine IY (UF (t:=false) rfl (Y6 (K6 (Hu ?_))))
 refine CM hk rfl rfl (fun ρ Q X Aa hq=>EB (Aa _ _ rfl) w0 hq) ?_
 refine CM hk rfl rfl (fun ρ Q X Aa hq=>BY (Aa _ _ rfl) hq) ?_
 refine CM hk rfl rfl (fun ρ Q X Aa hq=>Ce (Aa _ _ rfl) hq) ?_
 refine Y4 (h':=Af h ⟨γ.p.tb i,13,none⟩ (.bool true)) hk rfl (fun ρ Q X Aa hq=>BG (Aa _ _ rfl) (Aa _ _ rfl) (by simp [OneCell]) ⟨_,AD A0 rfl⟩ (AS A0) Dn hq) ?_
 refine IY (Hu ?_)
 refine CM hk rfl rfl (fun ρ Q X Aa hq=>EB (Aa _ _ rfl) e0 hq) ?_
 refine CM hk rfl rfl (fun ρ Q X Aa hq=>BY (Aa _ _ rfl) hq) ?_
 refine CM hk rfl rfl (fun ρ Q X Aa hq=>Ce (Aa _ _ rfl) hq) ?_
 refine CM hk rfl rfl (fun ρ Q X Aa hq=>EB (Aa _ _ rfl) e1 hq) ?_
 refine CM hk rfl rfl (fun ρ Q X Aa hq=>De (cells:=#[]) Aa rfl rfl hq) ?_
 exact Yb (γ₁:={γ with p:={γ.p with gone:=ut γ.p.gone i true} }) T.P.run rfl rfl rfl rfl (TG hX) p0 (AL _ _ _) (fun a ka=>QT (b1:=93) (b2:=94) (a1:=a1) (todo:=todo) (mode:=.panicking [{v:=Pv,recovered:=true}]) rfl rfl ka.defers hd (.inr ⟨_,rfl⟩))
def Body(X:Us)(i:Nat)(b:FuncId)(cap:Array Value):Prop:=
 ∀h γ,GB X i γ γ.p.u [] h->γ.p.st i= .born->Bm i γ.p.log=[]->AY Tryz.prog false (ED Tryz.prog (PX X) (i+1)) b (#[ptr (γ.p.tb i)]++cap) h ⟨0,γ⟩
  (Ge (fun _ h' AW=>∃Ae u L,AW=⟨0,Ae⟩/\Gk X i γ.p Ae.p/\GB X i Ae u L h'/\X.Q i (Bm i (Ae.p.acc i).log) .over u/\X.J (Ae.p.acc i).log u (Ae.p.acc i).val)
   (fun ps h' AW=>∃Ae,AW=⟨0,Ae⟩/\Gk X i γ.p Ae.p/\Stp X i Ae h'/\ps=[{v:=Pv,recovered:=false}]))
theorem ZN{γ:GG X}{h:Hp}(hX:X.Ok)(hP:P1 X i γ h)(hb:γ.p.st i= .born)(hL:γ.p.CZ i=[]):GB X i γ γ.p.u [] h:=by
 refine⟨hP.run,hP.lt,hP.live,hP.born hb,hP.Dl,?_,hP.held.I,hP.held.J,hP.held.Q,fun _ _=>hX.Lg _ _,hP.held.upd,hP.len (hP.born hb)⟩
 rw [L3 _ _ hb]
 have:ut γ.p.CZ i []=γ.p.CZ:=by rw [<-hL];exact FU _ _
 rw [this]
 exact hP.held.gi
theorem lM(hX:X.Ok){W:Nat->Prop}{ns:List Nat}{s:Pu}{M:Mem Nm}{b:FuncId}{cap:Array Value}[AT Tryz.prog b](g:GI X W γ.p ns s M h)(hi:i<γ.p.num)(hl:γ.p.gone i=false)(hb:γ.p.st i= .born)(hL:γ.p.CZ i=[])(ho:Bm i γ.p.log=[])(hf:γ.p.fn i= .func (.func b) #[] cap)
  (B7:∀x,x≠i+1->x<γ.p.num+1->(PX X).ch γ x≠some (γ.p.wk i)) (N9:Body X i b cap):
  Gy Tryz.prog (PX X) (i+1) γ h (born Tryz.prog {target:=.fn (.func 93) #[ptr (γ.p.br i),ptr (γ.p.bx i),ptr (γ.p.bf i)],args:=#[]})
   (Dq Tryz.prog false (ED Tryz.prog (PX X) (i+1)) (MH Tryz.prog (PX X) (i+1))):=by
 have hB:∀a,((PX X).cells γ (i+1) a).isSome=true->a.block<γ.p.tb i+γ.p.bx i+1:=fun a ha=>by
  change (cT γ i a).isSome=true at ha
  unfold cT at ha
  split at ha
  ·rename_i e;rw [e];dsimp only;omega
  ·split at ha
   ·rename_i e;rw [e];dsimp only;omega
   ·cases ha
 have hx:γ.p.bx i≠γ.p.tb i:=by
  have x1:=g.all (.bx i) hi
  have x2:=g.all (.t i) hi
  exact fun e=>g.ne x1.1 x2.1 nofun (x1.2.1.trans (e.trans x2.2.1.symm))
 have k0:(PX X).cells γ (i+1) ⟨γ.p.bx i,0,none⟩=some (ptr (γ.p.tb i)):=by
  show cT γ i _=_
  unfold cT
  rw [if_neg (by simp),if_pos rfl]
 have k1:(PX X).cells γ (i+1) ⟨γ.p.tb i,2,none⟩=some (.chan (some (γ.p.wk i))):=by
  show cT γ i _=_
  unfold cT
  rw [if_pos rfl]
 have hk:CallKind.deferred≠ .early:=by decide
 obtain⟨v,a,Gp,A0⟩:=g.JV hi
 refine ZB (main:=false) (c:=γ.p.wk i) (B:=γ.p.tb i+γ.p.bx i+1) rfl (by show(if γ.p.gone i=true then none else some (γ.p.wk i))=_;rw [hl];rfl) (fun a v hv=>?_) (g.pd hi) B7 (Way.born hB (Way.enter (n:=14) rfl rfl ?_))
 ·change cT γ i a=some v at hv
  unfold cT at hv
  split at hv
  ·rename_i e;rw [e];cases hv;exact AD A0 rfl
  ·split at hv
   ·rename_i e;rw [e];cases hv;exact AD (g.Qw hi) rfl
   ·cases hv
 refine ZA hB (RA hB ?_)
 refine lr hB hk rfl rfl (fun ρ Aa=>⟨C4 Aa (vs:=[]) rfl,C4 Aa (vs:=[ptr (γ.p.br i),ptr (γ.p.bx i)]) rfl⟩) ?_
 refine lu (dd:={target:=.fn (.func 94) #[ptr (γ.p.br i),ptr (γ.p.bx i)],args:=#[]}) hB hk rfl (fun ρ Aa=>?_) ?_
 ·show FM _ _ (Deferred.ofValue (ρ (.tmp 3)) ((#[]:Array Operand).map ρ) >>= fun d=>pure (Next.defer d)) _
  rw [Aa (.tmp 3) _ rfl]
  show Next.defer {target:=.fn (.func 94) #[ptr (γ.p.br i),ptr (γ.p.bx i)],args:=#[]++(#[]:Array Operand).map ρ}=_
  simp
 refine UI hB (ZA hB (RA hB ?_))
 refine Q9 hB hk rfl rfl rfl k0 ?_
 refine UH hB hk rfl rfl rfl ?_
 refine UG hB hk rfl rfl rfl ?_
 refine Q9 hB hk rfl rfl rfl k1 ?_
 refine Y8 (Es.out (P:=Tryz.prog)) hB hk rfl rfl rfl fun rest hr a ka BK DT hR hP=>?_
 refine(?_:TR Tryz.prog false (ED Tryz.prog (PX X) (i+1)) (MH Tryz.prog (PX X) (i+1)) _ _ .deferred _ _ _ _ _ _ DT ⟨0,BK⟩) rest hr a ka
 have hV:View X i γ.p BK.p:=hR
 have nJ:P1 X i BK DT:=hP
 have T:GB X i BK BK.p.u [] DT:=ZN hX nJ (hV.st.trans hb) (hV.CZ.trans hL)
 obtain⟨s2,M2,g2⟩:=nJ.held.gi
 have wf:AF DT ⟨γ.p.bf i,0,none⟩=some (.func (.func b) #[] cap):=by
  have:=g2.zc nJ.lt
  rw [hV.bf,hV.fn,hf]at this
  exact AD this rfl
 have w0:AF DT ⟨γ.p.bx i,0,none⟩=some (ptr (γ.p.tb i)):=by
  have:=g2.Qw nJ.lt
  rw [hV.bx,hV.tb]at this
  exact AD this rfl
 refine IY (K6 (Hu ?_))
 refine CM hk rfl rfl (fun ρ Q X Aa hq=>EB (Aa _ _ rfl) wf hq) ?_
 refine CM hk rfl rfl (fun ρ Q X Aa hq=>Si (r:=false) (Aa _ _ rfl) (Aa _ _ rfl) rfl hq) ?_
 refine IY (UF (t:=true) rfl (Hu ?_))
 refine CM hk rfl rfl (fun ρ Q X Aa hq=>EB (Aa _ _ rfl) wf hq) ?_
 refine CM hk rfl rfl (fun ρ Q X Aa hq=>EB (Aa _ _ rfl) w0 hq) ?_
 have uZ:=N9 DT BK T (hV.st.trans hb) (hV.own.trans ho)
 rw [hV.tb]at uZ
 refine ln hk rfl rfl (fun ρ Q X Aa hq=>Ot rfl (Aa _ _ rfl) (C4 Aa (vs:=[ptr (γ.p.tb i)]) rfl) (by rw [Array.empty_append];exact hq)) uZ ?_ ?_
 ·rintro v yZ YA ⟨Ae,u',L',rfl,al,T',hQ,hJ⟩
  refine IY (lp (Y3 (by simp) fun a todo ka=>?_))
  exact Zo hX ka.defers T' (hV.bx.symm.trans al.bx.symm) hQ hJ
 ·rintro ps yZ YA ⟨Ae,rfl,al,T',rfl⟩
  refine Y3 (by simp) fun a todo ka=>?_
  exact ZO hX ka.defers T' (hV.bx.symm.trans al.bx.symm) (hV.br.symm.trans al.br.symm)
end
end
section
section
variable{X:Us}{W:Nat->Prop}{p:PS X.U}{ns:List Nat}{s:Pu}{M:Mem Nm}{h:Hp}{γ:GG X}{j:Nat}
def Fw(X:Us)(p0 p:PS X.U):Prop:=(∃a b c,p={p0 with Ax:=a,Da:=b,stops:=c})\/(p0.num=0/\p.num=0)
theorem Fw.refl(p:PS X.U):Fw X p p:=.inl ⟨p.Ax,p.Da,p.stops,rfl⟩
theorem Fw.num{p0:PS X.U}(m:Fw X p0 p):p.num=p0.num:=by
 rcases m with⟨a,b,c,rfl⟩|⟨h1,h2⟩
 ·rfl
 ·rw [h1,h2]
theorem Fw.more{p0 p':PS X.U}(m:Fw X p0 p){a b:List Nat}{c:Bool}(e:p'={p with Ax:=a,Da:=b,stops:=c}):Fw X p0 p':=by
 subst e
 rcases m with⟨_,_,_,rfl⟩|⟨h1,h2⟩
 ·exact .inl ⟨a,b,c,rfl⟩
 ·exact .inr ⟨h1,h2⟩
theorem Fw.view(hX:X.Ok){p0:PS X.U}(m:Fw X p0 p){x:Nat}(hx:x<p0.num):View X x p0 p:=by
 rcases m with⟨a,b,c,rfl⟩|⟨h1,_⟩
 ·exact⟨CY _,rfl,rfl,rfl,rfl,rfl,rfl,rfl,rfl,rfl,rfl,rfl,rfl,hX.Lg _ _⟩
 ·omega
theorem J5{a:Addr}(x:(PX X).still 0 γ a):∃j,j<γ.p.num/\γ.p.gone j=false/\(a=⟨γ.p.tb j,2,none⟩\/a=⟨γ.p.bx j,0,none⟩):=by
 obtain⟨j,h1,h2,h3,h4⟩:=x
 cases j with
 | zero=>exact absurd rfl h1
 | succ j=>
  change (cT γ j a).isSome=true at h4
  change (if γ.p.gone j=true then none else some (γ.p.wk j)).isSome=true at h3
  have hj:j<γ.p.num:=OF h2
  have hg:γ.p.gone j=false:=by
   cases e:γ.p.gone j with
   | false=>rfl
   | true=>rw [e]at h3;cases h3
  refine⟨j,hj,hg,?_⟩
  unfold cT at h4
  split at h4
  ·rename_i e;exact .inl e
  ·split at h4
   ·rename_i e;exact .inr e
   ·cases h4
theorem E8(hv:Fw X γ.p p)(g:GI X W p ns s M h){k:Nm}(hk:M.ok k)(B7:∀j,k≠ .t j/\k≠ .bx j){c:Nat}:¬(Ez Tryz.prog (PX X)).still γ ⟨M.B k,c,none⟩:=by
 intro y
 obtain⟨j,hj,_,e⟩:=J5 y
 obtain⟨a,b,d,rfl⟩:=hv.resolve_right (fun x=>by omega)
 rcases e with e|e
 ·have:=g.all (.t j) hj
  refine g.ne hk this.1 (B7 j).1 ?_
  rw [this.2.1];injection e with e
 ·have:=g.all (.bx j) hj
  refine g.ne hk this.1 (B7 j).2 ?_
  rw [this.2.1];injection e with e
theorem On(hv:Fw X γ.p p)(g:GI X W p ns s M h){b:Nat}(hb:∀k,M.ok k->M.B k≠b){c:Nat}:¬(Ez Tryz.prog (PX X)).still γ ⟨b,c,none⟩:=by
 intro y
 obtain⟨j,hj,_,e⟩:=J5 y
 obtain⟨a,b',d,rfl⟩:=hv.resolve_right (fun x=>by omega)
 rcases e with e|e
 ·have:=g.all (.t j) hj
  exact hb _ this.1 (this.2.1.trans (by injection e with e;exact e.symm))
 ·have:=g.all (.bx j) hj
  exact hb _ this.1 (this.2.1.trans (by injection e with e;exact e.symm))
theorem LC(hv:Fw X γ.p p)(g:GI X W p ns s M h){b:Nat}(hb:h.size<=b){c:Nat}:¬(Ez Tryz.prog (PX X)).still γ ⟨b,c,none⟩:=
 On hv g (fun k hk e=>by have:=g.lt hk;omega)
def NL(X:Us)(p:PS X.U)(M:Mem Nm)(b:Nat):Prop:=(∃k,M.ok k/\M.B k=b)\/X.FC b\/X.HE p.u b\/∃i,i<p.num/\∃q,q∈p.CZ i/\q.1=b
theorem GI.ours(g:GI X W p ns s M h):GI X (NL X p M) p ns s M h:=
 ⟨g.Ju,g.all,fun k hk=>.inl ⟨k,hk,rfl⟩,fun b hb=>⟨(g.Fu b hb).1,.inr (.inl hb)⟩,g.apart,fun b hb=>⟨(g.Hg b hb).1,.inr (.inr (.inl hb))⟩,g.num,g.JG,fun i hi q hq=>⟨(g.CZ i hi q hq).1,.inr (.inr (.inr ⟨i,hi,q,hq,rfl⟩)),(g.CZ i hi q hq).2.2⟩,g.Ir⟩
theorem Jl{Dl p:PS X.U}{i:Nat}(x:UK X Dl p i):p.R=Dl.R/\p.mb=Dl.mb/\p.num=Dl.num/\p.fl=Dl.fl/\p.tb=Dl.tb/\p.wk=Dl.wk/\p.sd=Dl.sd/\p.bx=Dl.bx/\p.bf=Dl.bf/\p.br=Dl.br/\p.fn=Dl.fn/\p.Ax=Dl.Ax/\p.Da=Dl.Da/\p.stops=Dl.stops:=by
 rcases x with⟨_,u,L,t,rfl,_⟩|⟨_,rfl⟩
 ·obtain⟨a1,a2,a3,a4,a5,a6,a7,a8,a9,NU,R0,VA,nX,pV,pU,nU,xq,a18⟩:=Dk Dl i
  exact⟨a1,a2,a3,a18,a4,a5,a6,a7,a8,a9,NU,pV,pU,nU⟩
 ·exact⟨rfl,rfl,rfl,rfl,rfl,rfl,rfl,rfl,rfl,rfl,rfl,rfl,rfl,rfl⟩
theorem YS(hX:X.Ok)(hv:Fw X γ.p p)(g:GI X W p (Ab p.log) s M h)(hI:X.I p.u h)(hJ:X.J p.log p.u p.val)(hQ:∀x,X.Q x (Bm x p.log) (p.st x) p.u)(hj:j<p.num)(hl:p.gone j=false)(hlen:p.stops=false->p.log.length<65536)(Tb:p.st j= .born->p.stops=false):
  AY Tryz.prog true (Ez Tryz.prog (PX X)) 71 #[ptr (p.tb j)] h ⟨0,γ⟩ (CJ fun _ h' AW=>∃Ae,AW=⟨0,Ae⟩/\Ae.Dl=p/\Ae.base=h/\Ae.W=W/\Ae.run=j/\P0 X Ae h'):=by
 have hB:∀a,(cM {p:=p,Dl:=p,base:=h,W:=W,run:=j} a).isSome=true->a.block<p.tb j+1:=fun a ha=>by
  unfold cM at ha
  split at ha
  ·rename_i e;rw [e];exact SQ _
  ·cases ha
 obtain⟨v,a,Gp,A0⟩:=g.JV hj
 have w1:AF h ⟨p.tb j,2,none⟩=some (.chan (some (p.wk j))):=AD A0 rfl
 have w2:AF h ⟨p.tb j,3,none⟩=some (.chan (some (p.sd j))):=AD A0 rfl
 clear A0 Gp
 have rP:=fun {x}=>hv.view hX (x:=x)
 have hv:=hv.resolve_right (fun x=>by omega)
 have bE:p.num=γ.p.num/\p.gone=γ.p.gone/\p.wk=γ.p.wk/\p.tb=γ.p.tb/\p.bx=γ.p.bx:=by
  obtain⟨a,b,c,rfl⟩:=hv
  exact⟨rfl,rfl,rfl,rfl,rfl⟩
 obtain⟨v1,v2,v3,v4,v5⟩:=bE
 refine CK (n:=12) ?_
 repeat(first|refine AI ?_|refine AH ?_|refine AV ?_|refine Bc ?_|refine Az ?_)
 refine Av rfl w1 ?_
 refine Cr (cells:=#[]) rfl rfl rfl rfl ?_
 refine Y2 (X:=PX X) (i:=0) (j:=j+1) (c:=p.wk j) (c':=p.sd j) (B:=p.tb j+1) (γ₁:={p:=p,Dl:=p,base:=h,W:=W,run:=j}) rfl (fun _ _ _ _ x=>Or.inl ⟨j+1,x⟩) rfl rfl rfl rfl (Nat.succ_ne_zero _) ?a1 ?a2 ?a3 ?a4 ?a5 rfl ?a6 (g.yJ hj) ?a7 ?vL
 case a1=>show j+1<γ.p.num+1;rw [<-v1];exact Nat.succ_lt_succ hj
 case a2=>show(if γ.p.gone j=true then none else some (γ.p.wk j))=_;rw [<-v2,<-v3,hl];rfl
 case a3=>show p.num+1=γ.p.num+1;rw [v1]
 case a4=>
  intro x hx Cg
  cases x with
  | zero=>exact absurd rfl hx
  | succ k=>
   refine⟨?_,?_,rP (OF Cg)⟩
   ·show(if p.gone k=true then none else some (p.wk k))=(if γ.p.gone k=true then none else some (γ.p.wk k));rw [v2,v3]
   ·show cT _ k=cT γ k
    funext a
    show(if a=⟨p.tb k,2,none⟩then some (Value.chan (some (p.wk k)))else if a=⟨p.bx k,0,none⟩then some (.pointer (some ⟨p.tb k,0,none⟩))else none)=(if a=⟨γ.p.tb k,2,none⟩then some (Value.chan (some (γ.p.wk k)))else if a=⟨γ.p.bx k,0,none⟩then some (.pointer (some ⟨γ.p.tb k,0,none⟩))else none)
    rw [v3,v4,v5]
 case a5=>exact⟨rfl,hj,hl,rfl,⟨⟨s,M,g.Pw (fun _ x=>.inl x)⟩,hI,hJ,hQ,AN.refl _ _⟩,hlen,Tb⟩
 case a6=>
  intro a v hv
  change cM _ a=some v at hv
  unfold cM at hv
  split at hv
  ·rename_i e;rw [e];cases hv;exact w2
  ·cases hv
 case a7=>
  intro x hx Cg e
  cases x with
  | zero=>exact absurd rfl hx
  | succ k=>
   change (if p.gone k=true then none else some (p.wk k))=some (p.sd j)at e
   split at e
   ·cases e
   ·have e':=D4 e
    have wi:=g.all (.wk k) (OF Cg)
    have si:=g.all (.sd j) hj
    exact g.ne wi.1 si.1 nofun (wi.2.1.trans (e'.trans si.2.1.symm))
 case vL=>
  intro kind hk cs
  refine UI hB (RA hB ?_)
  refine Y9 hB hk rfl rfl rfl ?_
  refine UH hB hk rfl rfl rfl ?_
  refine UG hB hk rfl rfl rfl ?_
  refine Q9 (v:=.chan (some (p.sd j))) hB hk rfl rfl rfl (by show cM _ _=_;unfold cM;rw [if_pos rfl]) ?_
  refine Y1 hB hk rfl rfl rfl ?_
  intro BK DT hR hP
  obtain⟨r1,r2,r3,r4⟩:=hR
  (repeat refine AE ?_)
  exact FQ (Eu rfl ⟨BK,rfl,r1,r2,r3,r4,hP⟩)
end
end
section
def PS.NI{U:Type}(p:PS U)(t w sd bx bf br:Nat)(fv:Value):PS U:={p with num:=p.num+1,tb:=ut p.tb p.num t,wk:=ut p.wk p.num w,sd:=ut p.sd p.num sd,bx:=ut p.bx p.num bx,bf:=ut p.bf p.num bf,br:=ut p.br p.num br,fn:=ut p.fn p.num fv,st:=ut p.st p.num .born,gone:=ut p.gone p.num false,CZ:=ut p.CZ p.num []}
section
variable{X:Us}{W:Nat->Prop}{p:PS X.U}{ns:List Nat}{s:Pu}{M:Mem Nm}{h:Hp}{n0:Nat}
structure iE(p:PS X.U)(M:Mem Nm)(t w sd bx bf br:Nat)(fv:Value):Prop where
 nt:M.ok (.t p.num)/\M.B (.t p.num)=t/\M.O (.t p.num)=FG p.R p.num w sd (.pointer none) (A4 0 0 0 0 0 0 0 false) false
 vm:M.ok (.wk p.num)/\M.B (.wk p.num)=w/\M.O (.wk p.num)=Is
 vn:M.ok (.sd p.num)/\M.B (.sd p.num)=sd/\M.O (.sd p.num)=Is
 n7:M.ok (.bx p.num)/\M.B (.bx p.num)=bx/\M.O (.bx p.num)= .cells #[ptr t] 48 (0,0)
 vq:M.ok (.bf p.num)/\M.B (.bf p.num)=bf/\M.O (.bf p.num)= .cells #[fv] 49 (0,0)
 n8:M.ok (.br p.num)/\M.B (.br p.num)=br/\M.O (.br p.num)= .cells #[ptr p.R] 106 (0,0)
theorem K4{M:Mem Nm}{k:Nm}{b:Nat}{o:Obj}:(M.put k b o).ok k/\(M.put k b o).B k=b/\(M.put k b o).O k=o:=⟨.inl rfl,AL M.B _ _,AL M.O _ _⟩
theorem FY{M:Mem Nm}{k k':Nm}{b b':Nat}{o o':Obj}(hk:k'≠k)(x:M.ok k'/\M.B k'=b'/\M.O k'=o'):(M.put k b o).ok k'/\(M.put k b o).B k'=b'/\(M.put k b o).O k'=o':=⟨.inr x.1,(Ai M.B _ hk).trans x.2.1,(Ai M.O _ hk).trans x.2.2⟩
theorem GI.kg(g:GI X W p ns s M h){t w sd bx bf br:Nat}{fv:Value}(o1:h[t]?=some (FG p.R p.num w sd (.pointer none) (A4 0 0 0 0 0 0 0 false) false))(o2:h[w]?=some Is)(o3:h[sd]?=some Is)(o4:h[bx]?=some (.cells #[ptr t] 48 (0,0)))(o5:h[bf]?=some (.cells #[fv] 49 (0,0)))(o6:h[br]?=some (.cells #[ptr p.R] 106 (0,0)))
  (B7:w≠sd) (f1:n0<=t) (f2:n0<=w) (f3:n0<=sd) (f4:n0<=bx) (f5:n0<=bf) (f6:n0<=br) (old:∀k,M.ok k->M.B k<n0) (oC:∀b,X.FC b->b<n0) (oD:∀b,X.HE p.u b->b<n0) (oP:∀i,i<p.num->∀q,q∈p.CZ i->q.1<n0) (hW:∀b,n0<=b->W b):
  ∃M',GI X W p ns s M' h/\iE p M' t w sd bx bf br fv:=by
 have me:∀{P:Prop},p.num<p.num->P:=fun x=>absurd x (Nat.lt_irrefl _)
 have nC:∀b,n0<=b->¬X.FC b:=fun b hb x=>by have:=oC b x;omega
 have nD:∀b,n0<=b->¬X.HE p.u b:=fun b hb x=>by have:=oD b x;omega
 have nP:∀b,n0<=b->∀i,i<p.num->∀q,q∈p.CZ i->q.1≠b:=fun b hb i hi q hq e=>by have:=oP i hi q hq;omega
 have obj:∀{a b:Nat} {x y:Obj},h[a]?=some x->h[b]?=some y->x≠y->a≠b:=fun {a b x y} ha hb wM e=>wM (D4 (ha.symm.trans ((congrArg (h[·]?) e).trans hb)))
 have bk:∀{N:Mem Nm} {k:Nm} {b:Nat} {o:Obj} {c:Nat},(∀k',N.ok k'->N.B k'≠c)->b≠c->∀k',(N.put k b o).ok k'->(N.put k b o).B k'≠c:=fun {N k b o c} hN hb k' Dh=>by
  by_cases e:k'=k
  ·subst e;rw [show(N.put k' b o).B k'=b from AL N.B _ _];exact hb
  ·rw [show(N.put k b o).B k'=N.B k' from Ai N.B _ e];exact hN k' (Dh.resolve_left e)
 have b0:∀c,n0<=c->∀k',M.ok k'->M.B k'≠c:=fun c hc k' Dh e=>by have:=old k' Dh;omega
 have g1:=g.putAt (k:=.t p.num) o1 (fun k' Dh _=>b0 t f1 k' Dh) (hW _ f1) (nC _ f1) (nD _ f1) (nP _ f1) me
 have g2:=g1.putAt (k:=.wk p.num) o2 (fun k' Dh _=>bk (b0 w f2) (obj o1 o2 nofun) k' Dh) (hW _ f2) (nC _ f2) (nD _ f2) (nP _ f2) me
 have g3:=g2.putAt (k:=.sd p.num) o3 (fun k' Dh _=>bk (bk (b0 sd f3) (obj o1 o3 nofun)) B7 k' Dh) (hW _ f3) (nC _ f3) (nD _ f3) (nP _ f3) me
 have g4:=g3.putAt (k:=.bx p.num) o4 (fun k' Dh _=>bk (bk (bk (b0 bx f4) (obj o1 o4 (by unfold FG;intro e;injection e with _ e _;revert e;decide))) (obj o2 o4 nofun)) (obj o3 o4 nofun) k' Dh) (hW _ f4) (nC _ f4) (nD _ f4) (nP _ f4) me
 have g5:=g4.putAt (k:=.bf p.num) o5 (fun k' Dh _=>bk (bk (bk (bk (b0 bf f5) (obj o1 o5 (by unfold FG;intro e;injection e with _ e _;revert e;decide))) (obj o2 o5 nofun)) (obj o3 o5 nofun)) (obj o4 o5 (by intro e;injection e with _ e _;revert e;decide)) k' Dh) (hW _ f5) (nC _ f5) (nD _ f5) (nP _ f5) me
 have g6:=g5.putAt (k:=.br p.num) o6 (fun k' Dh _=>bk (bk (bk (bk (bk (b0 br f6) (obj o1 o6 (by unfold FG;intro e;injection e with _ e _;revert e;decide))) (obj o2 o6 nofun)) (obj o3 o6 nofun)) (obj o4 o6 (by intro e;injection e with _ e _;revert e;decide))) (obj o5 o6 (by intro e;injection e with _ e _;revert e;decide)) k' Dh) (hW _ f6) (nC _ f6) (nD _ f6) (nP _ f6) me
 refine⟨_,g6,?_,?_,?_,?_,?_,K4⟩
 ·exact FY nofun (FY nofun (FY nofun (FY nofun (FY nofun K4))))
 ·exact FY nofun (FY nofun (FY nofun (FY nofun K4)))
 ·exact FY nofun (FY nofun (FY nofun K4))
 ·exact FY nofun (FY nofun K4)
 ·exact FY nofun K4
theorem dZ(g:GI X W p ns s M h){t w sd bx bf br:Nat}{fv:Value}(N:iE p M t w sd bx bf br fv)(s':Value)(k':Nm)(h1:k'≠ .BI)(h2:k'≠ .run):K1 (p.NI t w sd bx bf br fv) ns {s with T:=s'} M k':=by
 have y:=g.all k'
 have sp:∀{i},i<p.num+1->i=p.num\/(i<p.num/\i≠p.num):=fun {i} hi=>by omega
 cases k' with
 | BI=>exact absurd rfl h1
 | run=>exact absurd rfl h2
 | t i=>
  intro hi
  rcases sp hi with rfl|⟨hl,hn⟩
  ·refine⟨N.nt.1,N.nt.2.1.trans (AL _ _ _).symm,.pointer none,A4 0 0 0 0 0 0 0 false,?_,?_⟩
   ·show Lf _ (ut p.st p.num .born p.num) _ _;rw [AL];exact⟨rfl,rfl⟩
   ·show _=FG p.R p.num (ut p.wk p.num w p.num) (ut p.sd p.num sd p.num) _ _ (ut p.gone p.num false p.num)
    rw [AL,AL,AL];exact N.nt.2.2
  ·obtain⟨y1,y2,v,a,y3,y4⟩:=y hl
   refine⟨y1,y2.trans (Ai _ _ hn).symm,v,a,?_,?_⟩
   ·show Lf _ (ut p.st p.num .born i) _ _;rw [Ai _ _ hn];exact y3
   ·show _=FG p.R i (ut p.wk p.num w i) (ut p.sd p.num sd i) _ _ (ut p.gone p.num false i)
    rw [Ai _ _ hn,Ai _ _ hn,Ai _ _ hn];exact y4
 | wk i=>
  intro hi
  rcases sp hi with rfl|⟨hl,hn⟩
  ·exact⟨N.vm.1,N.vm.2.1.trans (AL _ _ _).symm,0,N.vm.2.2⟩
  ·obtain⟨y1,y2,y3⟩:=y hl;exact⟨y1,y2.trans (Ai _ _ hn).symm,y3⟩
 | sd i=>
  intro hi
  rcases sp hi with rfl|⟨hl,hn⟩
  ·exact⟨N.vn.1,N.vn.2.1.trans (AL _ _ _).symm,0,N.vn.2.2⟩
  ·obtain⟨y1,y2,y3⟩:=y hl;exact⟨y1,y2.trans (Ai _ _ hn).symm,y3⟩
 | bx i=>
  intro hi
  rcases sp hi with rfl|⟨hl,hn⟩
  ·refine⟨N.n7.1,N.n7.2.1.trans (AL _ _ _).symm,?_⟩
   show _=Obj.cells #[ptr (ut p.tb p.num t p.num)] _ _
   rw [AL];exact N.n7.2.2
  ·obtain⟨y1,y2,y3⟩:=y hl
   refine⟨y1,y2.trans (Ai _ _ hn).symm,?_⟩
   show _=Obj.cells #[ptr (ut p.tb p.num t i)] _ _
   rw [Ai _ _ hn];exact y3
 | bf i=>
  intro hi
  rcases sp hi with rfl|⟨hl,hn⟩
  ·refine⟨N.vq.1,N.vq.2.1.trans (AL _ _ _).symm,?_⟩
   show _=Obj.cells #[ut p.fn p.num fv p.num] _ _
   rw [AL];exact N.vq.2.2
  ·obtain⟨y1,y2,y3⟩:=y hl
   refine⟨y1,y2.trans (Ai _ _ hn).symm,?_⟩
   show _=Obj.cells #[ut p.fn p.num fv i] _ _
   rw [Ai _ _ hn];exact y3
 | br i=>
  intro hi
  rcases sp hi with rfl|⟨hl,hn⟩
  ·exact⟨N.n8.1,N.n8.2.1.trans (AL _ _ _).symm,N.n8.2.2⟩
  ·obtain⟨y1,y2,y3⟩:=y hl;exact⟨y1,y2.trans (Ai _ _ hn).symm,y3⟩
 | _=>exact y
end
end
section
theorem df{e env:Env}(hs:Nu e env){x:Operand}{v:Value}(hx:ev e x=some v):ev env x=some v:=by
 cases x with
 | tmp t=>exact QI hs hx
 | const c=>exact hx
 | global g=>exact hx
 | func f=>exact hx
section
variable{X:Us}{W:Nat->Prop}{s:Pu}{M:Mem Nm}{h:Hp}{γ:GG X}
theorem lO(hX:X.Ok){p0:PS X.U}(hv:Fw X γ.p p0){b:FuncId}{cap:Array Value}[AT Tryz.prog b](g:GI X W p0 (Ab p0.log) s M h)(hI:X.I p0.u h)(hJ:X.J p0.log p0.u p0.val)(hQ:∀x,X.Q x (Bm x p0.log) (p0.st x) p0.u)(hs:p0.stops=false)(KQ:p0.log=[])(hn:p0.num<64)(oh:p0.fl=p0.num)(hW:∀c,h.size<=c->W c)
  (N9:Body X p0.num b cap) (hQ0:p0.st p0.num= .born):
  AY Tryz.prog true (Ez Tryz.prog (PX X)) 69 #[ptr p0.R,.func (.func b) #[] cap] h ⟨0,γ⟩ (CJ fun _ h' AW=>∃Ae t w sd bx bf br,AW=⟨0,Ae⟩/\Ae.Dl={p0.NI t w sd bx bf br (.func (.func b) #[] cap)with fl:=p0.fl+1}/\Ae.W=W/\Ae.run=p0.num/\P0 X Ae h'/\AN W h h'/\h.size<=Ae.base.size):=by
 obtain⟨n,aR⟩:∃n,n=p0.num:=⟨_,rfl⟩
 obtain⟨R,Vz⟩:∃R,R=p0.R:=⟨_,rfl⟩
 have Be:=g.GH
 have LZ:=g.all .BI
 obtain⟨aT,kT,eT⟩:=Mem.Sl.val LZ
 have Ka:=g.all .IS
 obtain⟨aF,kF,eF⟩:=Mem.Sl.val Ka
 have Gu:∀{c o},h.size<=c->¬(Ez Tryz.prog (PX X)).still γ ⟨c,o,none⟩:=fun {c o} hc=>LC hv g hc
 have ig:∀o,¬(Ez Tryz.prog (PX X)).still γ ⟨R,o,none⟩:=fun o=>by
  have x:=g.all .run
  rw [Vz,<-x.2.1];exact E8 hv g x.1 (fun j=>⟨nofun,nofun⟩)
 have hTs:∀c o,blk s.T=some c->¬(Ez Tryz.prog (PX X)).still γ ⟨c,o,none⟩:=fun c o hc=>by
  obtain⟨x1,x2⟩:=Mem.Sl.blk LZ hc
  rw [x2];exact E8 hv g x1 (fun j=>⟨nofun,nofun⟩)
 have hFs:∀c o,blk s.F=some c->¬(Ez Tryz.prog (PX X)).still γ ⟨c,o,none⟩:=fun c o hc=>by
  obtain⟨x1,x2⟩:=Mem.Sl.blk Ka hc
  rw [x2];exact E8 hv g x1 (fun j=>⟨nofun,nofun⟩)
 rw [<-Vz]at Be⊢
 have pA:AF h ⟨R,0,none⟩=some (.slice aT n kT):=by rw [aR,<-eT];exact AD Be rfl
 have AFf:=Ap Be
 refine CK (n:=39) ?_
 clear LZ Ka
 repeat(first|refine AI ?_|refine AH ?_|refine AE ?_|refine Aq ?_|refine VL rfl rfl rfl ?_)
 refine D7 (fun h'=>AF h' ⟨h.size,0,none⟩=some (ptr R)/\AF h' ⟨R,0,none⟩=some (.slice aT n kT)) 11 ?_
 have hZ:AF ((h.push (.cells (ptr R).cells 106)).push (.cells (Value.func (.func b) #[] cap).cells 49)) ⟨h.size,0,none⟩=some (ptr R)/\AF ((h.push (.cells (ptr R).cells 106)).push (.cells (Value.func (.func b) #[] cap).cells 49)) ⟨R,0,none⟩=some (.slice aT n kT):=
  ⟨A7 (AD (AG _ _) rfl),A7 (A7 pA)⟩
 refine A8 0 (fun _ hz=>hz.1) hZ ?_
 refine A8 1 (fun _ hz=>hz.1) hZ ?_
 refine BE 2 hZ ?_
 refine Ag 3 hZ ?_
 refine A8 4 (fun _ hz=>hz.2) hZ ?_
 refine Er 5 rfl (by kernel_rfl) rfl rfl rfl rfl hZ ?_
 refine lb (l':=W1 false false false false false) (by kernel_rfl) ?_
 refine lZ (h0:=(h.push (.cells (ptr R).cells 106)).push (.cells (Value.func (.func b) #[] cap).cells 49)) (D:=fun i=>if i=10 then 5 else i+6) (e0:=fun i=>if i=2 then some (ptr h.size)else if i=3 then some (ptr (h.size+1))else if i=6 then some (ptr R)else if i=11 then some (.int .i64 n)else none) (F:=fun _=>none) (tc:=114) (ts:=117) (ta:=48)
  (cells:=fun w q=>#[ptr R,.int .i64 n,.chan (some w),.chan (some q),.pointer none,.int .i64 0,.int .i8 0,.int .i64 0,.int .i64 0,.int .i64 0,.int .i64 0,.int .i64 0,.bool false,.bool false])
  (by exact rfl) (by exact rfl) (by exact rfl) (by exact rfl) (by exact rfl) ?hr ?hD ?il ?xF ?hZ ?hb ?fin 6 false false false false false _ _ rfl ?inv hZ
 case hr=>intro a b c d e;cases a <;> cases b <;> cases c <;> cases d <;> cases e <;> kernel_rfl
 case hD=>intro i j a1 a2 a3 a4 e;split at e <;> split at e <;> omega
 case il=>intro i a1 a2;rcases (show i=6\/i=7\/i=8\/i=9\/i=10 by omega)with rfl|rfl|rfl|rfl|rfl <;> rfl
 case xF=>intro i a1 a2;rcases (show i=6\/i=7\/i=8\/i=9\/i=10 by omega)with rfl|rfl|rfl|rfl|rfl <;> rfl
 case hZ=>exact fun h o x=>⟨A7 x.1,A7 x.2⟩
 case inv=>
  refine⟨Made.none _,fun i v e=>?_,fun x=>(by cases x),fun x=>(by cases x),fun x=>(by cases x),fun x=>(by cases x),fun x=>(by cases x),fun x=>(by cases x),fun x=>(by cases x)⟩
  split at e
  ·rename_i e';subst e';exact e
  ·split at e
   ·rename_i e';subst e';rw [<-e,show h.size+1=(h.push (.cells (ptr R).cells 106)).size by simp];rfl
   ·split at e
    ·rename_i e';subst e';exact e
    ·split at e
     ·rename_i e';subst e';exact e
     ·cases e
 case hb=>
  intro env w q ho hw hs ρ h' Q X Aa hq
  have Qs:Nu [(6,ptr R),(11,.int .i64 n),(12,.chan (some w)),(13,.chan (some q))] env:=⟨ho 6 _ rfl,ho 11 _ rfl,hw,hs,trivial⟩
  exact De (env:=[(6,ptr R),(11,.int .i64 n),(12,.chan (some w)),(13,.chan (some q))]) (fun x v hx=>Aa x v (df Qs hx)) rfl rfl hq
 case fin=>
  intro env h1 F I hz
  obtain⟨w,q,t,f6,f7,f9,l9⟩:=I.d1 rfl
  obtain⟨p,f10,l10⟩:=I.e1 rfl
  have Qs:Nu [(2,ptr h.size),(3,ptr (h.size+1)),(5,ptr p),(15,ptr t)] env:=⟨I.old 2 _ rfl,I.old 3 _ rfl,l10,l9,trivial⟩
  refine lf Qs ?_
  obtain⟨g6,b6⟩:=I.made.has _ _ _ f6
  obtain⟨g7,b7⟩:=I.made.has _ _ _ f7
  obtain⟨g9,b9⟩:=I.made.has _ _ _ f9
  obtain⟨LP,fO⟩:=I.made.has _ _ _ f10
  have n67:w≠q:=fun e=>absurd (I.made.inj 6 7 _ _ _ f6 (by rw [e];exact f7)) (by decide)
  have yV:w≠p:=fun e=>absurd (I.made.inj 6 10 _ _ _ f6 (by rw [e];exact f10)) (by decide)
  have yU:q≠p:=fun e=>absurd (I.made.inj 7 10 _ _ _ f7 (by rw [e];exact f10)) (by decide)
  have yT:t≠p:=fun e=>absurd (I.made.inj 9 10 _ _ _ f9 (by rw [e];exact f10)) (by decide)
  simp only [Array.size_push]at g6 g7 g9 LP
  have uA:AN (fun _=>False) h h1:=((AN.push h _).trans (AN.push _ _)).trans I.made.upd
  have c1:h1[h.size]?=some (.cells #[ptr R] 106 (0,0)):=I.made.upd.get (Ao _ (AG _ _)) (fun x=>x)
  have c2:h1[h.size+1]?=some (.cells #[.func (.func b) #[] cap] 49 (0,0)):=I.made.upd.get (by
   have:=AG (h.push (.cells (ptr R).cells 106)) (.cells (Value.func (.func b) #[] cap).cells 49)
   rw [CH]at this
   exact this) (fun x=>x)
  have G7:∀{c o},h.size<=c->¬(Ez Tryz.prog (PX X)).still γ ⟨c,o,none⟩:=Gu
  refine D6 (h':=Af h1 ⟨p,0,none⟩ (ptr t)) 11 rfl (by kernel_rfl) rfl rfl rfl (fun ρ Q X Aa hq=>BG (Aa _ _ rfl) (Aa _ _ rfl) ⟨nofun,nofun⟩ ⟨_,AD fO rfl⟩ (AS fO) (G7 (by omega)) hq) ?_
  refine BF ?_
  rw [As fO]
  have qC:∀k,M.ok k->M.B k<h.size:=fun k hk=>g.lt hk
  have oC:∀b,X.FC b->b<h.size:=fun b hb=>Ap (g.Fu b hb).1
  have oD:∀b,X.HE p0.u b->b<h.size:=fun b hb=>(g.Hg b hb).1
  have oP:∀i,i<p0.num->∀q,q∈p0.CZ i->q.1<h.size:=fun i hi q hq=>Ap (g.CZ i hi q hq).1
  have gA:=(g.A5 uA).loose (x:=p) (fun k hk e=>by have:=qC k hk;omega) (fun hc=>by have:=oC _ hc;omega) (fun i hi q hq e=>by have:=oP i hi q hq;omega) (.cells (#[.pointer none].setIfInBounds 0 (ptr t)) 48 (0,0))
  have uB:=uA.over (AN.set (T:=fun b=>b=p) h1 p (.cells (#[.pointer none].setIfInBounds 0 (ptr t)) 48 (0,0)) rfl) (fun b hb=>by omega)
  have d6:=(AX (.cells (#[.pointer none].setIfInBounds 0 (ptr t)) 48 (0,0)) (Ne.symm yV)).trans b6
  have d7:=(AX (.cells (#[.pointer none].setIfInBounds 0 (ptr t)) 48 (0,0)) (Ne.symm yU)).trans b7
  have d9:=(AX (.cells (#[.pointer none].setIfInBounds 0 (ptr t)) 48 (0,0)) (Ne.symm yT)).trans b9
  have d1:=(AX (.cells (#[.pointer none].setIfInBounds 0 (ptr t)) 48 (0,0)) (show p≠h.size by omega)).trans c1
  have d2:=(AX (.cells (#[.pointer none].setIfInBounds 0 (ptr t)) 48 (0,0)) (show p≠h.size+1 by omega)).trans c2
  have d10:(h1.setIfInBounds p (.cells (#[.pointer none].setIfInBounds 0 (ptr t)) 48 (0,0)))[p]?=some (.cells #[ptr t] 48 (0,0)):=AJ fO
  generalize h1.setIfInBounds p (.cells (#[.pointer none].setIfInBounds 0 (ptr t)) 48 (0,0))=h2 at gA uB d6 d7 d9 d1 d2 d10⊢
  rw [Vz]at d1
  have e9:h2[t]?=some (FG p0.R p0.num w q (.pointer none) (A4 0 0 0 0 0 0 0 false) false):=by rw [<-Vz,<-aR];exact d9
  obtain⟨M1,gB,N⟩:=gA.kg (n0:=h.size) e9 d6 d7 d10 d2 d1 n67 (by omega) (by omega) (by omega) (by omega) (by omega) (by omega) qC oC oD oP hW
  rw [<-Vz]at d1
  clear hz c1 c2 b6 b7 b9 fO uA I d6 d7 d9 e9 gA
  (repeat refine AI ?_)
  have VF:=gB.GH
  rw [<-Vz]at VF
  have z1:AF h2 ⟨h.size,0,none⟩=some (ptr R):=AD d1 rfl
  have z2:AF h2 ⟨R,0,none⟩=some (.slice aT n kT):=by rw [aR,<-eT];exact AD VF rfl
  have z3:AF h2 ⟨p,0,none⟩=some (ptr t):=AD d10 rfl
  refine D7 (fun h'=>AF h' ⟨h.size,0,none⟩=some (ptr R)/\AF h' ⟨R,0,none⟩=some (.slice aT n kT)/\AF h' ⟨p,0,none⟩=some (ptr t)) 10 ?_
  have hZ:AF h2 ⟨h.size,0,none⟩=some (ptr R)/\AF h2 ⟨R,0,none⟩=some (.slice aT n kT)/\AF h2 ⟨p,0,none⟩=some (ptr t):=⟨z1,z2,z3⟩
  refine A8 0 (fun _ hz=>hz.1) hZ ?_
  refine A8 1 (fun _ hz=>hz.1) hZ ?_
  refine BE 2 hZ ?_
  refine Ag 3 hZ ?_
  refine A8 4 (fun _ hz=>hz.2.1) hZ ?_
  refine A8 5 (fun _ hz=>hz.2.2) hZ ?_
  have NB:_/\_/\_:=⟨A7 (o:=.cells #[ptr t] 48) z1,A7 (o:=.cells #[ptr t] 48) z2,A7 (o:=.cells #[ptr t] 48) z3⟩
  refine CQ (v:=.slice (some ⟨h2.size,0,none⟩) 1 1) (h':=h2.push (.cells #[ptr t] 48)) 6 rfl (by kernel_rfl) (fun ρ Q X Aa hq=>BW (sz:=1) Aa rfl (by omega) (by omega) rfl rfl hq) NB ?_
  have nQ:=gB.A5 (AN.push h2 (.cells #[ptr t] 48))
  have vS:=uB.trans (AN.push h2 (.cells #[ptr t] 48))
  have LZ:M1.Sl .BI (.slice aT n kT) 48 1 n ((List.range n).map fun i=>ptr (p0.tb i)):=by
   have:=gB.all .BI
   rw [aR,<-eT];exact this
  have R9:=uB.size
  have je:∀c,blk (.slice aT n kT)=some c->∃k,M.ok k/\M.B k=c/\∀j,k≠ .t j/\k≠ .bx j:=fun c hc=>by
   have h0:M.Sl .BI s.T 48 1 p0.num ((List.range p0.num).map fun i=>ptr (p0.tb i)):=g.all .BI
   rw [eT,<-aR]at h0
   obtain⟨y1,y2⟩:=h0.blk hc
   exact⟨_,y1,y2.symm,fun j=>⟨nofun,nofun⟩⟩
  refine F5 (new:=[ptr t]) 7 rfl (by kernel_rfl) rfl rfl rfl rfl rfl (LZ.slice nQ.Ju) (AG _ _) rfl (by simp [OneCell]) (by omega) (by omega) rfl (fun c o hc=>?_) ?_
  ·obtain⟨k,hk,e,B7⟩:=je c hc
   rw [<-e];exact E8 hv g hk B7
  intro s3 h3 Me u3 nE
  have iP:∀c,(∀k,M1.ok k->k≠ .BI->M1.B k=c->¬blk (.slice aT n kT)=some c):=fun c k hk B7 e hc=>by
   obtain⟨y1,y2⟩:=LZ.blk hc
   exact nQ.ne hk y1 B7 (e.trans y2)
  have mo:=nQ.all .run
  have vu:¬blk (.slice aT n kT)=some R:=iP R .run mo.1 nofun (mo.2.1.trans Vz.symm)
  have qF:¬blk (.slice aT n kT)=some h.size:=iP _ _ N.n8.1 nofun N.n8.2.1
  have qD:¬blk (.slice aT n kT)=some p:=iP _ _ N.n7.1 nofun N.n7.2.1
  have XN:=u3.AF NB.1 qF
  have Vq:=u3.AF NB.2.1 vu
  have mM:=u3.AF NB.2.2 qD
  have Py:=u3.get ((AN.push (T:=fun _=>False) h2 (.cells #[ptr t] 48)).get VF (fun x=>x)) vu
  refine⟨⟨XN,Vq,mM⟩,?_⟩
  obtain⟨aA,kA,eA⟩:=Me.val
  refine CQ 8 rfl (by kernel_rfl) (fun ρ Q X Aa hq=>BY (Aa _ _ rfl) hq) ⟨XN,Vq,mM⟩ ?_
  have hZ:=And.intro XN (And.intro Vq mM)
  refine Ag 9 hZ ?_
  refine D6 (h':=Af h3 ⟨R,0,none⟩ s3) 10 rfl (by kernel_rfl) rfl rfl rfl (fun ρ Q X Aa hq=>BG (Aa _ _ rfl) (Aa _ _ rfl) (by rw [eA];exact⟨nofun,nofun⟩) ⟨_,Vq⟩ (AS Py) (ig _) hq) ?_
  refine BF ?_
  obtain⟨M2,gC⟩:=nQ.app (p':=p0.NI t w q p (h.size+1) h.size (.func (.func b) #[] cap)) (sl:={s with T:=s3}) .BI LZ Me u3 nE (fun c hc=>hW c (Dt vS.size hc)) nofun rfl rfl (fun i hi x hx=>by
   change x∈ut p0.CZ p0.num [] i at hx
   have Dc:i<p0.num+1:=hi
   by_cases e:i=p0.num
   ·rw [e,AL]at hx;cases hx
   ·rw [Ai _ _ e]at hx;exact⟨by omega,hx⟩) rfl rfl rfl (fun k' h1 h2=>dZ nQ N s3 k' h1 h2) (fun N' y=>by
   show N'.Sl .BI s3 48 1 (p0.num+1) ((List.range (p0.num+1)).map fun i=>ptr (ut p0.tb p0.num t i))
   rw [List.range_succ,EF,List.map_singleton,AL]
   rw [aR]at y
   have:(List.range p0.num).map (fun i=>ptr (ut p0.tb p0.num t i))=(List.range p0.num).map fun i=>ptr (p0.tb i):=QC fun i hi=>by
    rw [Ai _ _ (by have:=Iv.1 hi;omega)]
   rw [this];exact y) g.JG
  rw [<-Vz]at gC
  have eC:Af h3 ⟨R,0,none⟩ s3=h3.setIfInBounds R (DC {s with T:=s3} p0.mb p0.stops):=As Py _
  rw [eC]
  have u4:AN (fun c=>blk (.slice aT n kT)=some c\/c=R) h (h3.setIfInBounds R (DC {s with T:=s3} p0.mb p0.stops)):=((vS.mono (T':=fun c=>blk (.slice aT n kT)=some c\/c=R) fun _ _ x=>x.elim).trans (u3.mono fun _ _ x=>.inl x)).trans (AN.set _ _ _ (.inr rfl))
  generalize h3.setIfInBounds R (DC {s with T:=s3} p0.mb p0.stops)=h4 at gC u4⊢
  clear hZ NB z1 z2 z3 XN Vq mM gB nQ uB vS Me u3 nE VF Py eC d1 d10 N iP vu qF qD mo eA LZ
  (repeat refine AI ?_)
  have YI:h4[R]?=some (DC {s with T:=s3} p0.mb p0.stops):=by rw [Vz];exact gC.GH
  have qb:h4[h.size]?=some (.cells #[ptr R] 106 (0,0)):=by
   have:=gC.ql (i:=p0.num) (SQ _)
   rw [show(p0.NI t w q p (h.size+1) h.size (.func (.func b) #[] cap)).br p0.num=h.size from AL _ _ _]at this
   rw [Vz];exact this
  have z1:AF h4 ⟨h.size,0,none⟩=some (ptr R):=AD qb rfl
  have z2:AF h4 ⟨R,5,none⟩=some (.slice aF n kF):=by rw [aR,<-oh,<-eF];exact AD YI rfl
  refine D7 (fun h'=>AF h' ⟨h.size,0,none⟩=some (ptr R)/\AF h' ⟨R,5,none⟩=some (.slice aF n kF)) 9 ?_
  have hZ:=And.intro z1 z2
  refine A8 0 (fun _ hz=>hz.1) hZ ?_
  refine A8 1 (fun _ hz=>hz.1) hZ ?_
  refine BE 2 hZ ?_
  refine Ag 3 hZ ?_
  refine A8 4 (fun _ hz=>hz.2) hZ ?_
  have NB:_/\_:=⟨A7 (o:=.cells #[.bool false] 4) z1,A7 (o:=.cells #[.bool false] 4) z2⟩
  refine CQ (v:=.slice (some ⟨h4.size,0,none⟩) 1 1) (h':=h4.push (.cells #[.bool false] 4)) 5 rfl (by kernel_rfl) (fun ρ Q X Aa hq=>BW (sz:=1) Aa rfl (by omega) (by omega) rfl rfl hq) NB ?_
  have gD:=gC.A5 (AN.push h4 (.cells #[.bool false] 4))
  have uD:=u4.trans (AN.push h4 (.cells #[.bool false] 4))
  have Ka:M2.Sl .IS (.slice aF n kF) 4 1 n (List.replicate n (.bool false)):=by
   have:=gC.all .IS
   rw [aR,<-oh,<-eF];exact this
  have YR:∀c,blk (.slice aF n kF)=some c->∃k,M.ok k/\M.B k=c/\∀j,k≠ .t j/\k≠ .bx j:=fun c hc=>by
   have h0:M.Sl .IS s.F 4 1 p0.fl (List.replicate p0.fl (.bool false)):=g.all .IS
   rw [eF,oh,<-aR]at h0
   obtain⟨y1,y2⟩:=h0.blk hc
   exact⟨_,y1,y2.symm,fun j=>⟨nofun,nofun⟩⟩
  refine F5 (new:=[.bool false]) 6 rfl (by kernel_rfl) rfl rfl rfl rfl rfl (Ka.slice gD.Ju) (AG _ _) rfl (by simp [OneCell]) (by omega) (by omega) rfl (fun c o hc=>?_) ?_
  ·obtain⟨k,hk,e,B7⟩:=YR c hc
   rw [<-e];exact E8 hv g hk B7
  intro s5 h5 HY u5 MB
  have vr:∀c,(∀k,M2.ok k->k≠ .IS->M2.B k=c->¬blk (.slice aF n kF)=some c):=fun c k hk B7 e hc=>by
   obtain⟨y1,y2⟩:=Ka.blk hc
   exact gD.ne hk y1 B7 (e.trans y2)
  have we:=gD.all .run
  have jd:=gD.all (.br p0.num) (SQ _)
  have vt:¬blk (.slice aF n kF)=some R:=vr R .run we.1 nofun (we.2.1.trans Vz.symm)
  have qE:¬blk (.slice aF n kF)=some h.size:=vr _ _ jd.1 nofun (jd.2.1.trans (AL _ _ _))
  have XN:=u5.AF NB.1 qE
  have Vq:=u5.AF NB.2 vt
  have YJ:=u5.get ((AN.push (T:=fun _=>False) h4 (.cells #[.bool false] 4)).get YI (fun x=>x)) vt
  refine⟨⟨XN,Vq⟩,?_⟩
  obtain⟨aA,kA,eA⟩:=HY.val
  refine CQ 7 rfl (by kernel_rfl) (fun ρ Q X Aa hq=>BY (Aa _ _ rfl) hq) ⟨XN,Vq⟩ ?_
  have hZ:=And.intro XN Vq
  refine Ag 8 hZ ?_
  refine D6 (h':=Af h5 ⟨R,5,none⟩ s5) 9 rfl (by kernel_rfl) rfl rfl rfl (fun ρ Q X Aa hq=>BG (Aa _ _ rfl) (Aa _ _ rfl) (by rw [eA];exact⟨nofun,nofun⟩) ⟨_,Vq⟩ (AS YJ) (ig _) hq) ?_
  refine BF ?_
  obtain⟨M3,gE⟩:=gD.app (p':={p0.NI t w q p (h.size+1) h.size (.func (.func b) #[] cap)with fl:=p0.fl+1}) (sl:={s with T:=s3,F:=s5}) .IS Ka HY u5 MB (fun c hc=>hW c (Dt uD.size hc)) nofun rfl rfl (fun i hi x hx=>⟨hi,hx⟩) rfl rfl rfl (fun k' h1 h2=>by
   have y:=gD.all k'
   cases k' with
   | IS=>exact absurd rfl h1
   | run=>exact absurd rfl h2
   | _=>exact y) (fun N' y=>by
   show N'.Sl .IS s5 4 1 (p0.fl+1) (List.replicate (p0.fl+1) (.bool false))
   rw [List.replicate_succ',oh,<-aR];exact y) gD.JG
  have eE:Af h5 ⟨R,5,none⟩ s5=h5.setIfInBounds R (DC {s with T:=s3,F:=s5} p0.mb p0.stops):=As YJ _
  have eRn:(p0.NI t w q p (h.size+1) h.size (.func (.func b) #[] cap)).R=R:=Vz.symm
  have e6:h5.setIfInBounds (p0.NI t w q p (h.size+1) h.size (.func (.func b) #[] cap)).R (DC {s with T:=s3,F:=s5} (p0.NI t w q p (h.size+1) h.size (.func (.func b) #[] cap)).mb (p0.NI t w q p (h.size+1) h.size (.func (.func b) #[] cap)).stops)=h5.setIfInBounds R (DC {s with T:=s3,F:=s5} p0.mb p0.stops):=by rw [eRn];rfl
  rw [e6]at gE
  rw [eE]
  have u6:AN (fun c=>(∃k,M.ok k/\M.B k=c)) h (h5.setIfInBounds R (DC {s with T:=s3,F:=s5} p0.mb p0.stops)):=by
   have hR':∃k,M.ok k/\M.B k=R:=⟨.run,(g.all .run).1,(g.all .run).2.1.trans Vz.symm⟩
   refine((uD.mono fun c _ hc=>?_).trans (u5.mono fun c _ hc=>?_)).trans (AN.set _ _ _ hR')
   ·rcases hc with hc|rfl
    ·obtain⟨k,hk,e,_⟩:=je c hc;exact⟨k,hk,e⟩
    ·exact hR'
   ·obtain⟨k,hk,e,_⟩:=YR c hc;exact⟨k,hk,e⟩
  generalize h5.setIfInBounds R (DC {s with T:=s3,F:=s5} p0.mb p0.stops)=h6 at gE u6⊢
  clear hZ NB z1 z2 XN Vq gC gD uD HY u5 MB YI YJ eE vr vt qE we jd eA Ka je YR u4 qb
  obtain⟨p2,Ql⟩:∃p2:PS X.U,p2={p0.NI t w q p (h.size+1) h.size (.func (.func b) #[] cap)with fl:=p0.fl+1}:=⟨_,rfl⟩
  have k1:p2.num=p0.num+1:=by rw [Ql];rfl
  have k2:p2.R=p0.R:=by rw [Ql];rfl
  have k3:p2.tb=ut p0.tb p0.num t:=by rw [Ql];rfl
  have k4:p2.wk=ut p0.wk p0.num w:=by rw [Ql];rfl
  have k5:p2.sd=ut p0.sd p0.num q:=by rw [Ql];rfl
  have k6:p2.bx=ut p0.bx p0.num p:=by rw [Ql];rfl
  have k7:p2.bf=ut p0.bf p0.num (h.size+1):=by rw [Ql];rfl
  have k8:p2.br=ut p0.br p0.num h.size:=by rw [Ql];rfl
  have k9:p2.fn=ut p0.fn p0.num (.func (.func b) #[] cap):=by rw [Ql];rfl
  have ax:p2.st=ut p0.st p0.num .born:=by rw [Ql];rfl
  have au:p2.gone=ut p0.gone p0.num false:=by rw [Ql];rfl
  have mc:p2.CZ=ut p0.CZ p0.num []:=by rw [Ql];rfl
  have oH:p2.log=p0.log:=by rw [Ql];rfl
  have te:p2.u=p0.u:=by rw [Ql];rfl
  have k15:p2.val=p0.val:=by rw [Ql];rfl
  have k16:p2.stops=p0.stops:=by rw [Ql];rfl
  have gF:GI X W p2 (Ab p2.log) {s with T:=s3,F:=s5} M3 h6:=by rw [Ql];exact gE
  have hP2:p2={p0.NI t w q p (h.size+1) h.size (.func (.func b) #[] cap)with fl:=p0.fl+1}:=Ql
  clear gE Ql
  have JQ:p0.num<p2.num:=by rw [k1];exact SQ _
  repeat(first|refine AI ?_|refine AH ?_)
  refine SN (fv:=#[]) (cv:=#[ptr h.size,ptr p,ptr (h.size+1)]) rfl rfl (fun ρ Aa=>⟨C4 Aa (vs:=[]) rfl,C4 Aa (vs:=[ptr h.size,ptr p,ptr (h.size+1)]) rfl⟩) ?_
  refine lh (X:=PX X) (γ₁:={γ with p:=p2,run:=p0.num}) rfl rfl rfl (by show p2.num+1=γ.p.num+1+1;rw [k1,hv.num]) ?Mw ?vX ?_
  case Mw=>
   intro x hx hl
   cases x with
   | zero=>exact absurd rfl hx
   | succ j=>
    have Rs:j<γ.p.num:=OF hl
    have hj:j≠p0.num:=by rw [hv.num];omega
    have v1:=hv.view hX Rs
    have v2:View X j p0 p2:=⟨by rw [k1];omega,k2,(congrFun k3 j).trans (Ai _ _ hj),(congrFun k4 j).trans (Ai _ _ hj),(congrFun k5 j).trans (Ai _ _ hj),(congrFun k6 j).trans (Ai _ _ hj),(congrFun k7 j).trans (Ai _ _ hj),(congrFun k8 j).trans (Ai _ _ hj),(congrFun k9 j).trans (Ai _ _ hj),(congrFun ax j).trans (Ai _ _ hj),(congrFun au j).trans (Ai _ _ hj),(congrFun mc j).trans (Ai _ _ hj),by rw [oH],by rw [te];exact hX.Lg _ _⟩
    have v:=v1.trans hX v2
    refine⟨?_,?_,v⟩
    ·show(if p2.gone j=true then none else some (p2.wk j))=(if γ.p.gone j=true then none else some (γ.p.wk j))
     rw [v.gone,v.wk]
    ·show cT _ j=cT γ j
     funext a
     show(if a=⟨p2.tb j,2,none⟩then some (Value.chan (some (p2.wk j)))else if a=⟨p2.bx j,0,none⟩then some (.pointer (some ⟨p2.tb j,0,none⟩))else none)=(if a=⟨γ.p.tb j,2,none⟩then some (Value.chan (some (γ.p.wk j)))else if a=⟨γ.p.bx j,0,none⟩then some (.pointer (some ⟨γ.p.tb j,0,none⟩))else none)
     rw [v.tb,v.wk,v.bx]
  case vX=>
   rw [show(PX X).num γ=p0.num+1 by show γ.p.num+1=_;rw [hv.num]]
   have:=lM (γ:={γ with p:=p2,run:=p0.num}) (i:=p0.num) (b:=b) (cap:=cap) hX gF JQ (by show p2.gone _=_;rw [au,AL]) (by show p2.st _=_;rw [ax,AL]) (by show p2.CZ _=_;rw [mc,AL]) (by show Bm _ p2.log=_;rw [oH,KQ];rfl) (by show p2.fn _=_;rw [k9,AL]) ?_ N9
   ·dsimp only at this
    rw [k8,k6,k7,AL,AL,AL]at this
    exact this
   ·intro x hx hl e
    have wn:=gF.all (.wk p0.num) JQ
    cases x with
    | zero=>
     have e':p2.sd p0.num=p2.wk p0.num:=D4 e
     have sn:=gF.all (.sd p0.num) JQ
     exact gF.ne wn.1 sn.1 nofun (wn.2.1.trans (e'.symm.trans sn.2.1.symm))
    | succ j=>
     change (if p2.gone j=true then none else some (p2.wk j))=some (p2.wk p0.num)at e
     split at e
     ·cases e
     ·have e':=D4 e
      have hj:j≠p0.num:=fun e=>hx (by rw [e])
      have wj:=gF.all (.wk j) (OF hl)
      exact gF.ne wj.1 wn.1 (fun z=>hj (by injection z)) (wj.2.1.trans (e'.trans wn.2.1.symm))
  have z5:AF h6 ⟨p,0,none⟩=some (ptr (p2.tb p0.num)):=by
   have:=gF.Qw JQ
   rw [k6,AL]at this
   exact AD this rfl
  have I6:X.I p2.u h6:=by
   rw [te]
   exact hX.loc _ _ _ (fun c hc=>u6.2 c (g.Hg c hc).1 (fun⟨k,hk,e⟩=>(g.apart k hk).2 (e▸hc))) hI
  repeat(first|refine AI ?_|refine AH ?_|refine AE ?_)
  refine Av rfl z5 ?_
  refine BV rfl (YS (γ:={γ with p:=p2,run:=p0.num}) (j:=p0.num) hX (Fw.refl _) gF I6 (by rw [oH,te,k15];exact hJ) (fun x=>?_) JQ (by rw [au,AL]) (fun _=>by rw [oH,KQ];decide) (fun _=>k16.trans hs)) ?_
  ·have e:ut p0.st p0.num .born=p0.st:=by rw [<-hQ0];exact FU _ _
   rw [oH,ax,te,e];exact hQ x
  rintro v h7 Nl ⟨Ae,rfl,e1,e2,e3,e4,hP⟩
  have hP':=hP
  obtain⟨y1,y2,y3⟩:=hP'
  obtain⟨s7,M7,g7⟩:=y3.gi
  obtain⟨t1,t2,t3,t4,t5,t6,t7,t8,_⟩:=Jl y2
  have z7:AF h7 ⟨p,0,none⟩=some (ptr (Ae.p.tb p0.num)):=by
   have:=g7.Qw (i:=p0.num) (by rw [t3,e1];exact JQ)
   rw [t8,e1,k6,AL]at this
   exact AD this rfl
  repeat(first|refine AI ?_|refine AH ?_|refine AE ?_)
  refine Av rfl z7 ?_
  repeat(first|refine AE ?_|refine Aq ?_|refine AQ ?_)
  refine CL rfl ⟨Ae,t,w,q,p,h.size+1,h.size,rfl,e1.trans hP2,e3,e4,hP,?_,by rw [e2];exact u6.size⟩
  have u7:=y3.upd
  rw [e2,e3]at u7
  exact(u6.mono fun c _ ⟨k,hk,e⟩=>e▸g.wide k hk).trans u7
end
end
section
section
variable{X:Us}{W:Nat->Prop}{p:PS X.U}{ns:List Nat}{s:Pu}{M:Mem Nm}{h:Hp}{γ:GG X}
def PS.live{U:Type}(p:PS U)(k:Nat):List Nat:=(List.range k).filter (fun j=>!p.gone j)
theorem Oc{U:Type}{p:PS U}{k:Nat}(hg:p.gone k=false):p.live (k+1)=p.live k++[k]:=by
 unfold PS.live
 rw [List.range_succ,List.filter_append]
 simp [hg]
theorem RR{U:Type}{p:PS U}{k:Nat}(hg:p.gone k=true):p.live (k+1)=p.live k:=by
 unfold PS.live
 rw [List.range_succ,List.filter_append]
 simp [hg]
section
variable{Γ:Type}{main:Bool}{S:Cp Γ}{δ:Ix Γ}
theorem S2{t:Nat}(h1:AF h ⟨t,13,none⟩=some (.bool true)):AY Tryz.prog main S 95 #[ptr t] h δ (CJ (Gb (.bool false) h δ)):=by
 refine CK (n:=29) ?_
 repeat(first|refine AI ?_|refine AH ?_|refine AE ?_|refine Aq ?_)
 refine D7 (fun h'=>AF h' ⟨t,13,none⟩=some (.bool true)) 26 ?_
 have hZ:=h1
 refine AU 0 hZ ?_
 refine BE 1 hZ ?_
 refine Ag 2 hZ ?_
 refine A8 3 (fun _ hz=>hz) hZ ?_
 refine KN 4 hZ ?_
 refine AU 5 hZ ?_
 refine BB 6 hZ ?_
 refine BB 7 hZ ?_
 refine BB 8 hZ ?_
 refine BB 9 hZ ?_
 refine BB 10 hZ ?_
 refine BB 11 hZ ?_
 refine BB 12 hZ ?_
 refine BB 13 hZ ?_
 refine BB 14 hZ ?_
 refine BB 15 hZ ?_
 refine BB 16 hZ ?_
 refine BB 17 hZ ?_
 refine BB 18 hZ ?_
 refine BB 19 hZ ?_
 refine BB 20 hZ ?_
 refine BB 21 hZ ?_
 refine BB 22 hZ ?_
 refine BB 23 hZ ?_
 refine BB 24 hZ ?_
 refine Dz 25 hZ ?_
 refine Dp 26 hZ ?_
 refine BF ?_
 (repeat refine AQ ?_)
 exact DQ El
theorem S1{t:Nat}{o:Int}(h1:AF h ⟨t,13,none⟩=some (.bool false))(h2:AF h ⟨t,6,none⟩=some (.int .i8 o))(ho:o≠6):AY Tryz.prog main S 95 #[ptr t] h δ (CJ (Gb (.bool true) h δ)):=by
 refine CK (n:=29) ?_
 repeat(first|refine AI ?_|refine AH ?_|refine AE ?_|refine Aq ?_)
 refine D7 (fun h'=>AF h' ⟨t,13,none⟩=some (.bool false)/\AF h' ⟨t,6,none⟩=some (.int .i8 o)) 26 ?_
 have hZ:=And.intro h1 h2
 refine AU 0 hZ ?_
 refine BE 1 hZ ?_
 refine Ag 2 hZ ?_
 refine A8 3 (fun _ hz=>hz.1) hZ ?_
 refine KN 4 hZ ?_
 refine AU 5 hZ ?_
 refine AU 6 hZ ?_
 refine BE 7 hZ ?_
 refine Ag 8 hZ ?_
 refine Ag 9 hZ ?_
 refine A8 10 (fun _ hz=>hz.2) hZ ?_
 refine G8 11 hZ ?_
 refine AU 12 hZ ?_
 refine BB 13 hZ ?_
 refine BB 14 hZ ?_
 refine BB 15 hZ ?_
 refine BB 16 hZ ?_
 refine BB 17 hZ ?_
 refine BB 18 hZ ?_
 refine BB 19 hZ ?_
 refine BB 20 hZ ?_
 refine BB 21 hZ ?_
 refine BB 22 hZ ?_
 refine BB 23 hZ ?_
 refine IR 24 hZ ?_
 refine IR 25 hZ ?_
 refine Dp 26 hZ ?_
 refine BF ?_
 (repeat refine AQ ?_)
 exact DQ El
end
theorem GI.RF(g:GI X W p ns s M h){i:Nat}(hi:i<p.num):∃b k,s.T= .slice (some ⟨b,0,none⟩) p.num k/\AF h ⟨b,0+i*1,none⟩=some (ptr (p.tb i))/\M.ok .BI/\b=M.B .BI:=by
 have x:M.Sl .BI s.T 48 1 p.num ((List.range p.num).map fun i=>ptr (p.tb i)):=g.all .BI
 obtain⟨cap,e,hk,hc,_⟩:=x.cell g.Ju (by omega)
 refine⟨_,cap,e,?_,hk,rfl⟩
 rw [Nat.zero_add,Nat.mul_one]
 refine hc i _ ?_
 simp [hi]
theorem sR(hv:Fw X γ.p p)(g:GI X W p ns s M h)(hn:p.num<=64)(Dn:∀j,j<p.num->p.gone j=false->∃r,p.st j= .Bp r/\JJ X r):
  AY Tryz.prog true (Ez Tryz.prog (PX X)) 70 #[ptr p.R] h ⟨0,γ⟩ (CJ fun v h' AW=>AW=⟨0,γ⟩/\∃lv,v= .tuple #[lv,.bool (p.live p.num).isEmpty]/\AN (fun _=>False) h h'/\AR h' lv 48 1 (p.live p.num).length ((p.live p.num).map fun j=>ptr (p.tb j))/\∀b,blk lv=some b->h.size<=b):=by
 obtain⟨aT,kT,eT⟩:=Mem.Sl.val (show M.Sl .BI s.T 48 1 p.num ((List.range p.num).map fun i=>ptr (p.tb i))from g.all .BI)
 have Be:=g.GH
 have pA:AF h ⟨p.R,0,none⟩=some (.slice aT p.num kT):=by rw [<-eT];exact AD Be rfl
 refine CK (n:=31) ?_
 clear Be
 repeat(first|refine AI ?_|refine AH ?_|refine AE ?_|refine Ak ?_|refine AV ?_|refine Aq ?_|refine Bc ?_|refine Az ?_|refine BN ?_|refine Av rfl (by assumption) ?_)
 refine B1 (fun q:Nat×Value=>[(11,.int .i64 q.1),(2,q.2),(3,.bool (p.live q.1).isEmpty),(9,.slice aT p.num kT),(10,.int .i64 p.num)]) (fun q h' AW=>q.1<=p.num/\AW=⟨0,γ⟩/\AN (fun _=>False) h h'/\AR h' q.2 48 1 (p.live q.1).length ((p.live q.1).map fun j=>ptr (p.tb j))/\∀b,blk q.2=some b->h.size<=b) (fun q=>p.num-q.1) (0,AK) ⟨rfl,rfl,rfl,rfl,rfl,trivial⟩ ⟨Bv _,rfl,AN.refl _ _,AR.nil,fun b hb=>by cases hb⟩ ?_
 rintro⟨i,lv⟩ h1 H0 ⟨hi,DL,u1,sl,hb⟩ again
 dsimp only at hi sl hb again DL⊢
 subst DL
 by_cases CO:i<p.num
 ·obtain⟨b,k,fK,hc,hk,ebT⟩:=g.RF CO
  rw [eT]at fK
  injection fK with e1 e2 e3
  subst e1
  obtain⟨v,a,Gp,A0⟩:=g.JV CO
  have xI:=u1.AF hc (fun x=>x)
  have CR:=u1.get A0 (fun x=>x)
  obtain⟨_,t,o,c,b0,n,w,x,kk,rfl⟩:=Gp.form
  have d13:AF h1 ⟨p.tb i,13,none⟩=some (.bool (p.gone i)):=AD CR rfl
  have hlen:(p.live i).length<=i:=by
   unfold PS.live
   have:=List.length_filter_le (fun j=>!p.gone j) (List.range i)
   simpa using this
  have hSl:∀c o,blk lv=some c->¬(Ez Tryz.prog (PX X)).still γ ⟨c,o,none⟩:=fun c o hc=>LC hv g (hb c hc)
  cases hg:p.gone i with
  | true=>
   rw [hg]at d13 CR
   rw [<-RR hg]at sl
   have el:=RR hg
   cases hl:(p.live i).isEmpty with
   | true=>
    repeat(first|refine AI ?_|refine AH ?_|refine AE ?_|refine Ar ?_|refine Ak ?_|refine AV ?_|refine Aq ?_|refine Bc ?_|refine Az ?_|refine Df ?_|refine Bl ?_|refine Bs ?_|refine Cd ?_|refine BU ?_|refine Av rfl (by assumption) ?_)
    refine Bx rfl (S2 d13) ?_
    repeat(first|refine AH ?_|refine AE ?_|refine Ar ?_|refine Bb ?_|refine AV ?_|refine BR (kd:=.i64) rfl (i64_in (by omega) (by omega)) ?_|refine Am ?_)
    refine Ah (again (i+1,lv) _ _ (by dsimp only;omega) ⟨by dsimp only;omega,rfl,u1,sl,hb⟩) ⟨rfl,rfl,?_,rfl,rfl,trivial⟩
    dsimp only;rw [el,hl];rfl
   | false=>
    repeat(first|refine AI ?_|refine AH ?_|refine AE ?_|refine Ar ?_|refine Ak ?_|refine AV ?_|refine Aq ?_|refine CW ?_|refine Bd ?_|refine Bs ?_|refine Cd ?_|refine BU ?_|refine Av rfl (by assumption) ?_)
    refine Bx rfl (S2 d13) ?_
    repeat(first|refine AH ?_|refine AE ?_|refine Ar ?_|refine Bb ?_|refine AV ?_|refine BR (kd:=.i64) rfl (i64_in (by omega) (by omega)) ?_|refine Am ?_)
    refine Ah (again (i+1,lv) _ _ (by dsimp only;omega) ⟨by dsimp only;omega,rfl,u1,sl,hb⟩) ⟨rfl,rfl,?_,rfl,rfl,trivial⟩
    dsimp only;rw [el,hl];rfl
  | false=>
   rw [hg]at d13 CR
   obtain⟨r,M0,iU⟩:=Dn i CO hg
   rw [M0]at Gp
   have eo:o=r.op:=by have:=Gp.2;unfold KV A4 at this;injection this with _ this;injection this with this _;injection this
   have d6:AF h1 ⟨p.tb i,6,none⟩=some (.int .i8 o):=AD CR rfl
   have ho:o≠6:=by have:=iU.mU;omega
   have el:=Oc hg
   have em:(p.live (i+1)).isEmpty=false:=by rw [el];simp
   cases hl:(p.live i).isEmpty with
   | true=>
    repeat(first|refine AI ?_|refine AH ?_|refine AE ?_|refine Ar ?_|refine Ak ?_|refine AV ?_|refine Aq ?_|refine Bc ?_|refine Az ?_|refine Df ?_|refine Bl ?_|refine Bs ?_|refine Cd ?_|refine BU ?_|refine Av rfl (by assumption) ?_)
    refine Bx rfl (S1 d13 d6 ho) ?_
    repeat(first|refine AH ?_|refine AE ?_|refine AV ?_|refine BU ?_)
    refine LA (cells:=#[ptr (p.tb i)]) rfl rfl rfl (by omega) (by omega) (by rfl) rfl ?_
    refine D9 (new:=[ptr (p.tb i)]) rfl rfl rfl rfl (sl.upd (AN.push (T:=fun _=>False) h1 _) (fun _ _ x=>x)) (AG _ _) rfl (by simp [OneCell]) (by omega) (by omega) (by rfl) hSl ?_
    intro s2 h2 PH u2 XD
    have XO:AN (fun _=>False) h h2:=(u1.trans (AN.push h1 _)).over u2 hb
    repeat(first|refine AH ?_|refine AE ?_|refine Bb ?_|refine AV ?_|refine Aq ?_|refine BR (kd:=.i64) rfl (i64_in (by omega) (by omega)) ?_)
    refine Ah (again (i+1,s2) _ _ (by dsimp only;omega) ⟨by dsimp only;omega,rfl,XO,?_,fun b' DN=>?_⟩) ⟨rfl,rfl,?_,rfl,rfl,trivial⟩
    ·dsimp only;rw [el];simpa using PH
    ·rcases XD b' DN with y|y
     ·exact hb _ y
     ·have:=u1.size;rw [CH]at y;omega
    ·dsimp only;rw [em];rfl
   | false=>
    repeat(first|refine AI ?_|refine AH ?_|refine AE ?_|refine Ar ?_|refine Ak ?_|refine AV ?_|refine Aq ?_|refine CW ?_|refine Bd ?_|refine Bs ?_|refine Cd ?_|refine BU ?_|refine Av rfl (by assumption) ?_)
    refine Bx rfl (S1 d13 d6 ho) ?_
    repeat(first|refine AH ?_|refine AE ?_|refine AV ?_|refine BU ?_)
    refine LA (cells:=#[ptr (p.tb i)]) rfl rfl rfl (by omega) (by omega) (by rfl) rfl ?_
    refine D9 (new:=[ptr (p.tb i)]) rfl rfl rfl rfl (sl.upd (AN.push (T:=fun _=>False) h1 _) (fun _ _ x=>x)) (AG _ _) rfl (by simp [OneCell]) (by omega) (by omega) (by rfl) hSl ?_
    intro s2 h2 PH u2 XD
    have XO:AN (fun _=>False) h h2:=(u1.trans (AN.push h1 _)).over u2 hb
    repeat(first|refine AH ?_|refine AE ?_|refine Bb ?_|refine AV ?_|refine Aq ?_|refine BR (kd:=.i64) rfl (i64_in (by omega) (by omega)) ?_)
    refine Ah (again (i+1,s2) _ _ (by dsimp only;omega) ⟨by dsimp only;omega,rfl,XO,?_,fun b' DN=>?_⟩) ⟨rfl,rfl,?_,rfl,rfl,trivial⟩
    ·dsimp only;rw [el];simpa using PH
    ·rcases XD b' DN with y|y
     ·exact hb _ y
     ·have:=u1.size;rw [CH]at y;omega
    ·dsimp only;rw [em];rfl
 ·obtain rfl:i=p.num:=by omega
  clear again
  repeat(first|refine AI ?_|refine AH ?_|refine AE ?_|refine AV ?_|refine Aq ?_|refine Bg ?_|refine Am ?_|refine AQ ?_|refine B8 ?_)
  exact EL rfl rfl rfl ⟨rfl,lv,rfl,u1,sl,hb⟩
end
end
section
def OH(x:Int)(l:List Nat):Nat:=l.getD (x % (l.length:Int)).toNat 0
def roundOf(l:List Nat)(last:Int):Nat:=(l.find? (fun(j:Nat)=>decide (last<(j:Int)))).getD (l.headD 0)
def Gx(Ax:List Nat):Int:=match Ax.getLast? with
 | some j=>j
 | none=>-1
def FI(AZ:List Int)(Ax l:List Nat):Nat:=match AZ[Ax.length]? with
 | some x=>OH x l
 | none=>roundOf l (Gx Ax)
theorem Om(x:Int){m:Int}(hm:0<m):(x.tmod m+m).tmod m=x % m:=by
 have h1:=Int.lt_tmod_of_pos x hm
 rw [Int.tmod_eq_emod_of_nonneg (by omega),Int.add_emod_right]
 have h:=Int.mul_tdiv_add_tmod x m
 have:x.tmod m=x-m*x.tdiv m:=by omega
 rw [this,Int.sub_mul_emod_self_left]
theorem LI(x:Int){l:List Nat}(hl:l≠[]):∃k,k<l.length/\l[k]?=some (OH x l)/\(x % (l.length:Int)).toNat=k:=by
 have hp:0<l.length:=OE.2 hl
 have h1:=Int.emod_nonneg x (b:=(l.length:Int)) (by omega)
 have h2:=Int.emod_lt_of_pos x (b:=(l.length:Int)) (by omega)
 refine⟨(x % (l.length:Int)).toNat,by omega,?_,rfl⟩
 unfold OH
 rw [List.getD_eq_getElem?_getD,Cl (show(x % (l.length:Int)).toNat<l.length by omega)]
 rfl
theorem OX{l:List Nat}{last:Int}{i j:Nat}(hi:l[i]?=some j)(hj:last<(j:Int))(hb:∀(k x:Nat),k<i->l[k]?=some x->(x:Int)<=last):roundOf l last=j:=by
 unfold roundOf
 have:l.find? (fun(j:Nat)=>decide (last<(j:Int)))=some j:=by
  have Cg:i<l.length:=by
   rcases EM i l.length with y|y
   ·exact y
   ·rw [Iz y]at hi;cases hi
  refine List.find?_eq_some_iff_append.2 ⟨by simpa using hj,l.take i,l.drop (i+1),?_,fun a ha=>?_⟩
  ·have e:l[i]=j:=by rw [Cl Cg]at hi;exact D4 hi
   rw [<-e,List.getElem_cons_drop,List.take_append_drop]
  ·obtain⟨k,hk,rfl⟩:=JZ.1 ha
   have Dh:k<i:=by simp at hk;omega
   have:=hb k l[k] Dh (Cl (by omega))
   simp only [List.getElem_take]
   simpa using this
 rw [this];rfl
theorem LH{l:List Nat}{last:Int}(hb:∀(k x:Nat),l[k]?=some x->(x:Int)<=last):roundOf l last=l.headD 0:=by
 unfold roundOf
 have:l.find? (fun(j:Nat)=>decide (last<(j:Int)))=none:=List.find?_eq_none.2 fun x hx=>by
  obtain⟨k,hk,rfl⟩:=JZ.1 hx
  have:=hb k _ (Cl hk)
  simpa using this
 rw [this];rfl
structure Hh(h:Hp)(s:Value)(vs:List Value):Prop where
 val:∃a k,s= .slice a vs.length k
 cell:∀i v,vs[i]?=some v->∃b o k,s= .slice (some ⟨b,o,none⟩) vs.length k/\TJ.AF h ⟨b,o+i*1,none⟩=some v
theorem Hh.lt{h:Hp}{s:Value}{vs:List Value}(x:Hh h s vs)(hn:vs≠[]):∀b,blk s=some b->b<h.size:=by
 intro b hb
 cases vs with
 | nil=>exact absurd rfl hn
 | cons v vs=>
  obtain⟨b',o,k,e,hc⟩:=x.cell 0 v rfl
  rw [e]at hb
  cases hb
  obtain⟨c,e',f,h1,-⟩:=DG hc
  exact Ap h1
theorem Hh.upd{h h':Hp}{s:Value}{vs:List Value}(x:Hh h s vs){T:Nat->Prop}(u:AN T h h')(hT:vs≠[]->∀b,blk s=some b->¬T b):Hh h' s vs:=by
 refine⟨x.val,fun i v hv=>?_⟩
 obtain⟨b,o,k,e,hc⟩:=x.cell i v hv
 refine⟨b,o,k,e,u.AF hc (hT (fun y=>by rw [y]at hv;cases hv) b (by rw [e];rfl))⟩
theorem IX{h:Hp}{s:Value}{e n:Nat}{vs:List Value}(x:AR h s e 1 n vs):Hh h s vs:=by
 have hl:vs.length=n:=by have:=x.1;omega
 obtain⟨a,k,ev⟩:=x.val
 refine⟨⟨a,k,by rw [hl];exact ev⟩,fun i v hv=>?_⟩
 have hi:i<vs.length:=by
  rcases EM i vs.length with y|y
  ·exact y
  ·rw [Iz y]at hv;cases hv
 obtain⟨b,k',e',hc,-⟩:=x.cell (by omega)
 exact⟨b,0,k',by rw [hl];exact e',by rw [Nat.zero_add,Nat.mul_one];exact hc i v hv⟩
section
variable{Γ:Type}{main:Bool}{S:Cp Γ}{δ:Ix Γ}{h:Hp}
theorem kJ{AZ:List Int}{Ax l:List Nat}{tb:Nat->Nat}{sP sW lv:Value}{bP bR R:Nat}(hP:Hh h sP (AZ.map fun x=>.int .i64 x))(AFe:AF h ⟨bP,0,none⟩=some sP)(hr:AF h ⟨bR,0,none⟩=some (ptr R))(hw:AF h ⟨R,3,none⟩=some sW)
  (hW:AR h sW 3 1 Ax.length (Ax.map fun(n:Nat)=>Value.int .i64 (n:Int))) (hl:AR h lv 48 1 l.length (l.map fun j=>ptr (tb j))) (B7:l≠[]) (hlen:l.length<=64) (bB:Ax.length<=65536) (JH:∀j,j∈l->AF h ⟨tb j,1,none⟩=some (.int .i64 (j:Int))):
  AY Tryz.prog main S 40 #[.int .i64 Ax.length,lv,ptr bP,ptr bR] h δ (CJ (Gb (ptr (tb (FI AZ Ax l))) h δ)):=by
 have SA:0<l.length:=OE.2 B7
 obtain⟨aP,kP,eP⟩:=hP.val
 rw [Ca]at eP
 subst eP
 obtain⟨bL,kL,rfl,hL,_⟩:=hl.cell SA
 have ug:∀k j,l[k]?=some j->AF h ⟨bL,0+k*1,none⟩=some (ptr (tb j)):=fun k j hk=>by
  rw [Nat.zero_add,Nat.mul_one];exact hL k _ (by rw [EQ,hk];rfl)
 refine CK (n:=57) ?_
 by_cases Cg:Ax.length<AZ.length
 ·obtain⟨x,hx⟩:∃x,AZ[Ax.length]?=some x:=⟨_,Cl Cg⟩
  obtain⟨bq,oq,kq,e,hxc⟩:=hP.cell Ax.length (.int .i64 x) (by rw [EQ,hx];rfl)
  injection e with e1 e2 e3
  subst e1 e3
  obtain⟨k,hk,mw,hk3⟩:=LI x B7
  have h1:=Int.lt_tmod_of_pos x (b:=(l.length:Int)) (by omega)
  have h2:=Int.tmod_lt_of_pos x (b:=(l.length:Int)) (by omega)
  have h3:=Int.emod_nonneg x (b:=(l.length:Int)) (by omega)
  have h4:=Int.emod_lt_of_pos x (b:=(l.length:Int)) (by omega)
  have hc:=ug k _ mw
  repeat(first|refine AI ?_|refine AH ?_|refine AE ?_|refine AV ?_|refine Aq ?_|refine Bs ?_|refine BN ?_|refine Cd ?_|refine BU ?_|refine Av rfl (by assumption) ?_)
  refine SL (r:=x.tmod (l.length:Int)) rfl rfl rfl rfl (by omega) rfl ?_
  repeat(first|refine AV ?_|refine BR (kd:=.i64) rfl (i64_in (by omega) (by omega)) ?_|refine BN ?_)
  refine SL (r:=x % (l.length:Int)) rfl rfl rfl rfl (by omega) (Om x (by omega)) ?_
  refine gP rfl rfl rfl rfl h3 h4 ?_
  rw [hk3]
  repeat(first|refine AE ?_|refine Aq ?_|refine AQ ?_|refine Av rfl (by assumption) ?_)
  refine DQ ?_
  rw [show FI AZ Ax l=OH x l by unfold FI;rw [hx]]
  exact El
 ·have hx:AZ[Ax.length]?=none:=Iz (by omega)
  have rW:FI AZ Ax l=roundOf l (Gx Ax):=by unfold FI;rw [hx]
  rw [rW]
  have e0:l[0]?=some (l.headD 0):=by cases l with|nil=>exact absurd rfl B7|cons a t=>rfl
  have uX:=ug 0 _ e0
  obtain⟨last,YO⟩:∃last,last=Gx Ax:=⟨_,rfl⟩
  rw [<-YO]
  by_cases hw0:0<Ax.length
  ·obtain⟨bw,kw,rfl,hWc,_⟩:=hW.cell hw0
   have hwc:AF h ⟨bw,0+((Ax.length:Int)-1).toNat*1,none⟩=some (.int .i64 last):=by
    rw [Nat.zero_add,Nat.mul_one,show((Ax.length:Int)-1).toNat=Ax.length-1 by omega]
    refine hWc _ _ ?_
    rw [EQ,YO]
    unfold Gx
    rw [List.getLast?_eq_getElem?,Cl (show Ax.length-1<Ax.length by omega)]
    rfl
   repeat(first|refine AI ?_|refine AH ?_|refine AE ?_|refine Ar ?_|refine Ak ?_|refine AV ?_|refine Aq ?_|refine Bc ?_|refine Az ?_|refine Bs ?_|refine Bg ?_|refine SM (kd:=.i64) rfl rfl rfl rfl (i64_in (by omega) (by omega)) ?_|refine BN ?_|refine Cd ?_|refine BU ?_|refine Am ?_|refine Av rfl (by assumption) ?_)
   refine B1 (fun i:Nat=>[(42,.int .i64 i),(41,.int .i64 l.length),(40,.slice (some ⟨bL,0,none⟩) l.length kL),(7,.int .i64 last),(1,.slice (some ⟨bL,0,none⟩) l.length kL)]) (fun i h' AW=>i<=l.length/\h'=h/\AW=δ/\∀(k x:Nat),k<i->l[k]?=some x->(x:Int)<=last) (fun i=>l.length-i) 0 ⟨rfl,rfl,rfl,rfl,rfl,trivial⟩ ⟨Bv _,rfl,rfl,fun k x hk=>by omega⟩ ?_
   rintro i h1 H0 ⟨hi,rfl,rfl,hb⟩ again
   by_cases CO:i<l.length
   ·obtain⟨j,hj⟩:∃j,l[i]?=some j:=⟨_,Cl CO⟩
    have hc:=ug i j hj
    have hn:=JH j (Fg hj)
    by_cases od:last<(j:Int)
    ·repeat(first|refine AI ?_|refine AH ?_|refine AE ?_|refine Ar ?_|refine Ak ?_|refine AV ?_|refine Aq ?_|refine Bc ?_|refine Az ?_|refine Bs ?_|refine Cd ?_|refine BU ?_|refine AQ ?_|refine Av rfl (by assumption) ?_)
     refine DQ ?_
     rw [OX hj od hb]
     exact El
    ·repeat(first|refine AI ?_|refine AH ?_|refine AE ?_|refine Ar ?_|refine Ak ?_|refine Bb ?_|refine AV ?_|refine Aq ?_|refine Bc ?_|refine Az ?_|refine Bs ?_|refine Bg ?_|refine BR (kd:=.i64) rfl (i64_in (by omega) (by omega)) ?_|refine Cd ?_|refine BU ?_|refine Am ?_|refine Av rfl (by assumption) ?_)
     refine Ah (again (i+1) _ _ (by omega) ⟨by omega,rfl,rfl,fun k x hk hx=>?_⟩) ⟨rfl,rfl,rfl,rfl,rfl,trivial⟩
     by_cases e:k=i
     ·subst e
      rw [hj]at hx;cases hx;omega
     ·exact hb k x (by omega) hx
   ·obtain rfl:i=l.length:=by omega
    clear again
    repeat(first|refine AI ?_|refine AH ?_|refine AE ?_|refine AV ?_|refine Aq ?_|refine Bg ?_|refine Cd ?_|refine Am ?_|refine AQ ?_|refine B8 ?_|refine Av rfl (by assumption) ?_)
    refine DQ ?_
    rw [LH (fun k x hx=>hb k x (by
     rcases EM k l.length with y|y
     ·exact y
     ·rw [Iz y]at hx;cases hx) hx)]
    exact El
  ·have:Ax=[]:=by
    cases Ax with
    | nil=>rfl
    | cons a t=>simp at hw0
   subst this
   have oW:last= -1:=YO
   subst oW
   repeat(first|refine AI ?_|refine AH ?_|refine AE ?_|refine Ar ?_|refine Ak ?_|refine AV ?_|refine Aq ?_|refine Bg ?_|refine BN ?_|refine Am ?_|refine Av rfl (by assumption) ?_)
   generalize (-1:Int)=last
   refine B1 (fun i:Nat=>[(42,.int .i64 i),(41,.int .i64 l.length),(40,.slice (some ⟨bL,0,none⟩) l.length kL),(7,.int .i64 last),(1,.slice (some ⟨bL,0,none⟩) l.length kL)]) (fun i h' AW=>i<=l.length/\h'=h/\AW=δ/\∀(k x:Nat),k<i->l[k]?=some x->(x:Int)<=last) (fun i=>l.length-i) 0 ⟨rfl,rfl,rfl,rfl,rfl,trivial⟩ ⟨Bv _,rfl,rfl,fun k x hk=>by omega⟩ ?_
   rintro i h1 H0 ⟨hi,rfl,rfl,hb⟩ again
   by_cases CO:i<l.length
   ·obtain⟨j,hj⟩:∃j,l[i]?=some j:=⟨_,Cl CO⟩
    have hc:=ug i j hj
    have hn:=JH j (Fg hj)
    by_cases od:last<(j:Int)
    ·repeat(first|refine AI ?_|refine AH ?_|refine AE ?_|refine Ar ?_|refine Ak ?_|refine AV ?_|refine Aq ?_|refine Bc ?_|refine Az ?_|refine Bs ?_|refine Cd ?_|refine BU ?_|refine AQ ?_|refine Av rfl (by assumption) ?_)
     refine DQ ?_
     rw [OX hj od hb]
     exact El
    ·repeat(first|refine AI ?_|refine AH ?_|refine AE ?_|refine Ar ?_|refine Ak ?_|refine Bb ?_|refine AV ?_|refine Aq ?_|refine Bc ?_|refine Az ?_|refine Bs ?_|refine Bg ?_|refine BR (kd:=.i64) rfl (i64_in (by omega) (by omega)) ?_|refine Cd ?_|refine BU ?_|refine Am ?_|refine Av rfl (by assumption) ?_)
     refine Ah (again (i+1) _ _ (by omega) ⟨by omega,rfl,rfl,fun k x hk hx=>?_⟩) ⟨rfl,rfl,rfl,rfl,rfl,trivial⟩
     by_cases e:k=i
     ·subst e
      rw [hj]at hx;cases hx;omega
     ·exact hb k x (by omega) hx
   ·obtain rfl:i=l.length:=by omega
    clear again
    repeat(first|refine AI ?_|refine AH ?_|refine AE ?_|refine AV ?_|refine Aq ?_|refine Bg ?_|refine Cd ?_|refine Am ?_|refine AQ ?_|refine B8 ?_|refine Av rfl (by assumption) ?_)
    refine DQ ?_
    rw [LH (fun k x hx=>hb k x (by
     rcases EM k l.length with y|y
     ·exact y
     ·rw [Iz y]at hx;cases hx) hx)]
    exact El
end
end
section
inductive Ej (X:Us) (v0:Nat->Int):List Ev->(Nat->Int)->Prop
 | nil:Ej X v0 [] v0
 | snoc {l:List Ev} {v:Nat->Int} (i:Nat) (r:Rq):Ej X v0 l v->JJ X r->Ej X v0 (l++[Co i r (v r.b)]) (ut v r.b (behind r.op (v r.b) r.arg r.new).1)
def E7{U:Type}(p:PS U)(k:Nat):List Nat:=(List.range p.num).filter (fun j=>!p.gone j||(p.log.drop k).any (fun e=>e.BI==j))
structure fQ(X:Us)(v0:Nat->Int)(AZ:List Int)(nb:Nat)(p:PS X.U):Prop where
 num:p.num=nb
 fl:p.fl=nb
 stops:p.stops=false
 Ax:p.Ax=p.log.map (·.BI)
 Da:p.Da.length=p.log.length
 alive:∀j,j<nb->(p.gone j=false/\∃r,p.st j= .Bp r/\JJ X r)\/(p.gone j=true/\p.st j= .over)
 chain:Ej X v0 p.log p.val
 turns:∀(k:Nat) (e:Ev),p.log[k]?=some e->p.Da[k]?=some (E7 p k).length/\e.BI=FI AZ ((p.log.take k).map (·.BI)) (E7 p k)/\e.BI∈E7 p k
section
variable{X:Us}{v0:Nat->Int}{AZ:List Int}{nb:Nat}{p:PS X.U}
theorem Hn{U:Type}{p:PS U}{k:Nat}(hk:p.log.length<=k):E7 p k=p.live p.num:=by
 unfold E7 PS.live
 rw [List.drop_eq_nil_of_le hk]
 simp
theorem F8{U:Type}{p:PS U}{n j:Nat}:j∈p.live n↔j<n/\p.gone j=false:=by
 unfold PS.live
 simp
theorem Sp{l:List Nat}(hl:l≠[])(AZ:List Int)(Ax:List Nat):FI AZ Ax l∈l:=by
 unfold FI
 split
 ·rename_i x _
  obtain⟨k,_,h,_⟩:=LI x hl
  exact Fg h
 ·unfold roundOf
  cases h:l.find? (fun(j:Nat)=>decide (Gx Ax<(j:Int)))with
  | some y=>exact List.mem_of_find?_eq_some h
  | none=>cases l with
   | nil=>exact absurd rfl hl
   | cons a t=>simp
theorem fQ.GQ(R:fQ X v0 AZ nb p){j:Nat}(hj:j=FI AZ p.Ax (p.live nb))(hl:p.live nb≠[]){u:X.U}{L:List (Nat×Obj)}{t:Ph}(ht:t≠ .born)(aM:∀r,t= .Bp r->JJ X r):
  fQ X v0 AZ nb (PS.GQ {p with Ax:=p.Ax++[j],Da:=p.Da++[(p.live nb).length]} j u L t (Ja t)):=by
 have oY:j∈p.live nb:=by rw [hj];exact Sp hl _ _
 obtain⟨U8,uM⟩:=F8.1 oY
 obtain⟨r,hr,yp⟩:∃r,p.st j= .Bp r/\JJ X r:=by
  rcases R.alive j U8 with⟨_,r,h1,h2⟩|⟨h1,_⟩
  ·exact⟨r,h1,h2⟩
  ·rw [uM]at h1;cases h1
 have ea:PS.acc {p with Ax:=p.Ax++[j],Da:=p.Da++[(p.live nb).length]} j={p with Ax:=p.Ax++[j],Da:=p.Da++[(p.live nb).length],log:=p.log++[Co j r (p.val r.b)],val:=ut p.val r.b (behind r.op (p.val r.b) r.arg r.new).1}:=Ig _ _ hr
 unfold PS.GQ
 rw [ea]
 dsimp only
 have hg:∀x,ut p.gone j (Ja t) x=if x=j then Ja t else p.gone x:=fun x=>rfl
 have al:∀k,k<=p.log.length->E7 {p with u:=u,CZ:=ut p.CZ j L,st:=ut p.st j t,gone:=ut p.gone j (Ja t),Ax:=p.Ax++[j],Da:=p.Da++[(p.live nb).length],log:=p.log++[Co j r (p.val r.b)],val:=ut p.val r.b (behind r.op (p.val r.b) r.arg r.new).1} k=E7 p k:=fun k hk=>by
  unfold E7
  dsimp only
  refine List.filter_congr fun x hx=>?_
  rw [List.drop_append_of_le_length hk,List.any_append,hg]
  by_cases e:x=j
  ·subst e
   rw [uM]
   simp [Co]
  ·rw [if_neg e]
   have:(([Co j r (p.val r.b)]:List Ev).any fun e=>e.BI==x)=false:=by
    simp only [List.any_cons,List.any_nil,Bool.or_false]
    show(j==x)=false
    simpa using Ne.symm e
   rw [this,Bool.or_false]
 refine⟨R.num,R.fl,R.stops,?_,?_,fun x hx=>?_,Ej.snoc j r R.chain yp,fun k e hk=>?_⟩
 ·rw [EF,R.Ax];rfl
 ·simp [R.Da]
 ·dsimp only
  by_cases e:x=j
  ·subst e
   rw [AL,AL]
   cases t with
   | born=>exact absurd rfl ht
   | Bp r=>exact .inl ⟨rfl,r,rfl,aM r rfl⟩
   | over=>exact .inr ⟨rfl,rfl⟩
  ·rw [Ai _ _ e,Ai _ _ e];exact R.alive x hx
 ·dsimp only at hk
  rcases EM k p.log.length with y|y
  ·rw [Iy y]at hk
   obtain⟨h1,h2,h3⟩:=R.turns k e hk
   rw [al k (by omega)]
   dsimp only
   rw [Iy (by rw [R.Da];exact y),List.take_append_of_le_length (by omega)]
   exact⟨h1,h2,h3⟩
  ·have mw:k<(p.log++[Co j r (p.val r.b)]).length:=by
    rcases EM k (p.log++[Co j r (p.val r.b)]).length with z|z
    ·exact z
    ·rw [Iz z]at hk;cases hk
   obtain rfl:k=p.log.length:=by simp at mw;omega
   rw [IB (CY _),Nat.sub_self]at hk
   obtain rfl:Co j r (p.val r.b)=e:=by simpa using hk
   rw [al _ (CY _),Hn (CY _),R.num]
   dsimp only
   refine⟨?_,?_,oY⟩
   ·rw [<-R.Da,IB (CY _),Nat.sub_self];rfl
   ·rw [List.take_left,<-R.Ax];exact hj
end
end
section
section
variable{X:Us}{h:Hp}{γ:GG X}
structure XK(X:Us)(W:Nat->Prop)(h0:Hp)(R:Nat)(p:PS X.U)(h:Hp):Prop where
 gi:∃s M,GI X W p (Ab p.log) s M h
 I:X.I p.u h
 J:X.J p.log p.u p.val
 Q:∀x,X.Q x (Bm x p.log) (p.st x) p.u
 R:p.R=R
 upd:AN W h0 h
theorem iF(hX:X.Ok){W T:Nat->Prop}{p:PS X.U}{ns:List Nat}{s:Pu}{M:Mem Nm}{h h':Hp}(g:GI X W p ns s M h)(u:AN T h h')(hT:∀c,T c->∃k,M.ok k/\M.B k=c)(hI:X.I p.u h):X.I p.u h':=
 hX.loc _ _ _ (fun b hb=>u.2 b (g.Hg b hb).1 (fun x=>by
  obtain⟨k,hk,e⟩:=hT b x
  exact(g.apart k hk).2 (by rw [e];exact hb))) hI
theorem XK.of{W:Nat->Prop}{h0 h':Hp}{R:Nat}{Ae:GG X}(hW:∀c,h0.size<=c->W c)(hP:P0 X Ae h')(e3:Ae.W=W)(hb:h0.size<=Ae.base.size)(u:AN W h0 h')(eR:Ae.Dl.R=R):XK X W h0 R Ae.p h':=by
 obtain⟨y1,y2,y3⟩:=hP
 obtain⟨s,M,g⟩:=y3.gi
 have hwd:∀b,PY Ae.W Ae.base b->W b:=fun b DN=>by
  rw [e3]at DN
  exact DN.elim id fun y=>hW b (Dt hb y)
 exact⟨⟨s,M,g.Pw hwd⟩,y3.I,y3.J,y3.Q,(Jl y2).1.trans eR,u⟩
theorem begun{Ae:GG X}{i:Nat}{p:PS X.U}{t w sd bx bf br:Nat}{fv:Value}(hi:p.num=i)(hs:p.stops=false)(hl:p.log=[])(ew:Ae.Dl={p.NI t w sd bx bf br fv with fl:=p.fl+1})(hT:UK X Ae.Dl Ae.p i):
  Ae.p.num=i+1/\Ae.p.fl=p.fl+1/\Ae.p.log=[]/\Ae.p.Ax=p.Ax/\Ae.p.Da=p.Da/\Ae.p.stops=false/\Ae.p.val=p.val/\(∀j,i+1<=j->Ae.p.st j=p.st j)/\(∀j,j<i->Ae.p.st j=p.st j/\Ae.p.gone j=p.gone j)/\((Ae.p.gone i=false/\∃r,Ae.p.st i= .Bp r/\JJ X r)\/(Ae.p.gone i=true/\Ae.p.st i= .over)):=by
 subst hi
 rcases hT with⟨_,u,L,z,e,hz,hr⟩|⟨h1,_⟩
 ·have hb:Ae.Dl.st p.num= .born:=by rw [ew];exact AL _ _ _
  have ea:=L3 Ae.Dl p.num hb
  unfold PS.GQ at e
  rw [ea,ew]at e
  rw [e]
  refine⟨rfl,rfl,hl,rfl,rfl,hs,rfl,fun j hj=>?_,fun j hj=>⟨?_,?_⟩,?_⟩
  ·show ut (ut p.st p.num .born) p.num z j=_
   rw [Ai _ _ (by omega),Ai _ _ (by omega)]
  ·show ut (ut p.st p.num .born) p.num z j=_
   rw [Ai _ _ (by omega),Ai _ _ (by omega)]
  ·show ut (ut p.gone p.num false) p.num (Ja z) j=_
   rw [Ai _ _ (by omega),Ai _ _ (by omega)]
  ·show(ut (ut p.gone p.num false) p.num (Ja z) p.num=false/\∃r,ut (ut p.st p.num .born) p.num z p.num= .Bp r/\JJ X r)\/(ut (ut p.gone p.num false) p.num (Ja z) p.num=true/\ut (ut p.st p.num .born) p.num z p.num= .over)
   rw [AL,AL]
   cases z with
   | born=>exact absurd rfl hz
   | Bp r=>exact .inl ⟨rfl,r,rfl,hr r rfl⟩
   | over=>exact .inr ⟨rfl,rfl⟩
 ·rw [ew]at h1
  have bi:p.stops=true:=h1
  rw [hs]at bi;cases bi
theorem kE(hX:X.Ok){p0:PS X.U}(ml:Fw X γ.p p0){W:Nat->Prop}{R bP bR:Nat}{sP:Value}{AZ:List Int}{most:Nat}{Di:List (FuncId×Array Value)}{sB:Value}(hW:∀c,h.size<=c->W c)(s0:XK X W h R p0 h)
  (Dn:p0.num=0/\p0.fl=0/\p0.log=[]/\p0.Ax=[]/\p0.Da=[]/\p0.stops=false/\∀j,p0.st j= .born) (hm:most<=65536) (Rj:Di.length<=64)
  (hB:AR h sB 49 1 Di.length (Di.map fun q=>.func (.func q.1) #[] q.2)) (hBW:∀c,blk sB=some c->¬W c) (hP:∀u h',X.I u h'->AN W h h'->Hh h' sP (AZ.map fun x=>.int .i64 x))
  (hbP:AF h ⟨bP,0,none⟩=some sP) (zM:¬W bP) (hbR:AF h ⟨bR,0,none⟩=some (ptr R)) (zL:¬W bR) (N9:∀(k:Nat) (q:FuncId×Array Value),Di[k]?=some q->AT Tryz.prog q.1/\Body X k q.1 q.2):
  AY Tryz.prog true (Ez Tryz.prog (PX X)) 39 #[ptr R,.int .i64 most,sB,.func (.func 40) #[] #[ptr bP,ptr bR]] h ⟨0,γ⟩
   (CJ fun v h' AW=>∃Ae p' e,AW=⟨0,Ae⟩/\Fw X Ae.p p'/\XK X W h R p' h'/\fQ X p0.val AZ Di.length p'/\v= .tuple #[.int .i8 e,.bool true]/\((e=1/\p'.live Di.length=[]/\p'.log.length<=most)\/(e=2/\p'.live Di.length≠[]/\p'.log.length=most))):=by
 obtain⟨b1,b2,b3,b4,b5,b6,b7⟩:=Dn
 obtain⟨aB,kB,eB⟩:=hB.val
 subst eB
 refine CK (n:=80) ?_
 repeat(first|refine AI ?_|refine AH ?_|refine AE ?_|refine Ak ?_|refine AV ?_|refine Aq ?_|refine BN ?_)
 refine B1 (fun q:Nat×GG X×PS X.U=>[(17,.int .i64 q.1),(15,.slice aB Di.length kB),(16,.int .i64 Di.length),(0,ptr R),(1,.int .i64 most),(3,.func (.func 40) #[] #[ptr bP,ptr bR])]) (fun q h' AW=>q.1<=Di.length/\AW=⟨0,q.2.1⟩/\Fw X q.2.1.p q.2.2/\XK X W h R q.2.2 h'/\q.2.2.num=q.1/\q.2.2.fl=q.1/\q.2.2.log=[]/\q.2.2.Ax=[]/\q.2.2.Da=[]/\q.2.2.stops=false/\q.2.2.val=p0.val/\(∀j,q.1<=j->q.2.2.st j= .born)/\∀j,j<q.1->(q.2.2.gone j=false/\∃r,q.2.2.st j= .Bp r/\JJ X r)\/(q.2.2.gone j=true/\q.2.2.st j= .over))
  (fun q=>Di.length-q.1) (0,γ,p0) ⟨rfl,rfl,rfl,rfl,rfl,rfl,trivial⟩ ⟨Bv _,rfl,ml,s0,b1,b2,b3,b4,b5,b6,rfl,fun j _=>b7 j,fun j hj=>by omega⟩ ?_
 rintro⟨i,E5,p1⟩ h1 H0 ⟨hi,DL,hv,sa,c1,c2,c3,c4,c5,c6,c7,c8,c9⟩ again
 dsimp only at hi hv sa c1 c2 c3 c4 c5 c6 c7 c8 c9 again DL⊢
 subst DL
 by_cases CO:i<Di.length
 ·obtain⟨bb,kk,e,hBc,_⟩:=hB.cell (by omega)
  injection e with e1 e2 e3
  subst e1 e3
  obtain⟨⟨fb,cap⟩,hq⟩:∃q,Di[i]?=some q:=⟨_,Cl CO⟩
  obtain⟨hasB,uZ⟩:=N9 i _ hq
  have hc:AF h1 ⟨bb,0+i*1,none⟩=some (.func (.func fb) #[] cap):=by
   rw [Nat.zero_add,Nat.mul_one]
   exact sa.upd.AF (hBc i _ (by rw [EQ,hq];rfl)) (hBW bb rfl)
  obtain⟨s,M,g⟩:=sa.gi
  have Yo:=lO (γ:=E5) (p0:=p1) hX hv (b:=fb) (cap:=cap) g sa.I sa.J sa.Q c6 c3 (by omega) (by rw [c1,c2]) (fun c hc=>hW c (Dt sa.upd.size hc)) (by rw [c1];exact uZ) (by rw [c1];exact c8 i (CY _))
  rw [sa.R]at Yo
  repeat(first|refine AI ?_|refine AH ?_|refine AE ?_|refine Ar ?_|refine Ak ?_|refine AV ?_|refine Aq ?_|refine Bs ?_|refine Cd ?_|refine BU ?_|refine Av rfl (by assumption) ?_)
  refine BV rfl Yo ?_
  rintro v h2 FJ ⟨KF,t,w,sd,bx,bf,br,rfl,ew,eW,er,Xg,u2,ow⟩
  have hT:=Xg.2.1
  rw [er,c1]at hT
  obtain⟨d1,d2,d3,d4,d5,d6,d7,d8,d9,d10⟩:=begun c1 c6 c3 ew hT
  have sb:XK X W h R KF.p h2:=XK.of hW Xg eW (Dt sa.upd.size ow) (sa.upd.trans u2) (by rw [ew];exact sa.R)
  repeat(first|refine AH ?_|refine AE ?_|refine Bb ?_|refine AV ?_|refine BR (kd:=.i64) rfl (i64_in (by omega) (by omega)) ?_)
  refine Ah (again (i+1,KF,KF.p) _ _ (by dsimp only;omega) ⟨by dsimp only;omega,rfl,Fw.refl _,sb,d1,by rw [d2,c2],d3,d4.trans c4,d5.trans c5,d6,d7.trans c7,fun j hj=>(d8 j hj).trans (c8 j (by dsimp only at hj;omega)),fun j hj=>?_⟩) ⟨rfl,rfl,rfl,rfl,rfl,rfl,trivial⟩
  dsimp only at hj⊢
  by_cases e:j=i
  ·subst e;exact d10
  ·obtain⟨q1,q2⟩:=d9 j (by omega)
   rw [q1,q2];exact c9 j (by omega)
 ·obtain rfl:i=Di.length:=by omega
  clear again
  repeat(first|refine AI ?_|refine AH ?_|refine AE ?_|refine Ak ?_|refine Bg ?_|refine Am ?_|refine B8 ?_)
  have pt:fQ X p0.val AZ Di.length p1:=⟨c1,c2,c6,by rw [c4,c3];rfl,by rw [c5,c3];rfl,c9,by rw [c3,c7];exact Ej.nil,fun k e hk=>by rw [c3]at hk;simp at hk⟩
  refine B1 (fun _:GG X×PS X.U=>[(0,ptr R),(1,.int .i64 most),(3,.func (.func 40) #[] #[ptr bP,ptr bR])]) (fun q h' AW=>AW=⟨0,q.1⟩/\Fw X q.1.p q.2/\XK X W h R q.2 h'/\fQ X p0.val AZ Di.length q.2/\q.2.log.length<=most)
   (fun q=>most-q.2.log.length) (E5,p1) ⟨rfl,rfl,rfl,trivial⟩ ⟨rfl,hv,sa,pt,by rw [c3];exact Bv _⟩ ?_
  clear sa pt c1 c2 c3 c4 c5 c6 c7 c8 c9 hi CO hv h1 p1 E5
  rintro⟨E5,p1⟩ h1 H0 ⟨DL,hv,sa,rg,oU⟩ again
  dsimp only at hv sa rg oU again DL⊢
  subst DL
  obtain⟨s,M,g⟩:=sa.gi
  have JH:=rg.num
  have gK:=sR (p:=p1) (γ:=E5) hv g (by rw [JH];exact Rj) (fun j hj hg=>by
   rcases rg.alive j (by rw [<-JH];exact hj)with⟨_,r,y1,y2⟩|⟨y,_⟩
   ·exact⟨r,y1,y2⟩
   ·rw [hg]at y;cases y)
  rw [sa.R,JH]at gK
  repeat(first|refine AI ?_|refine AH ?_|refine Ak ?_|refine AV ?_)
  refine BV rfl gK ?_
  rintro _ h2 FJ ⟨rfl,lv,rfl,u2,sl,xA⟩
  obtain⟨aL,kL,eL⟩:=sl.val
  subst eL
  have g2:=g.A5 u2
  have nh:AN W h h2:=sa.upd.trans (u2.mono fun _ _ x=>x.elim)
  have I2:X.I p1.u h2:=hX.loc _ _ _ (fun b hb=>u2.2 b (g.Hg b hb).1 (fun x=>x)) sa.I
  have sb:XK X W h R p1 h2:=⟨⟨s,M,g2⟩,I2,sa.J,sa.Q,sa.R,nh⟩
  cases hl:p1.live Di.length with
  | nil=>
   rw [hl]at sl xA
   repeat(first|refine AI ?_|refine AH ?_|refine AE ?_|refine Ak ?_|refine AV ?_|refine Aq ?_|refine Eo ?_|refine BU ?_|refine AQ ?_)
   exact EL rfl rfl rfl ⟨E5,p1,1,rfl,hv,sb,rg,rfl,.inl ⟨rfl,hl,oU⟩⟩
  | cons j0 lt=>
   have Xx:p1.live Di.length≠[]:=by rw [hl];exact nofun
   have ABx:0<(p1.live Di.length).length:=OE.2 Xx
   have zE:(j0::lt).isEmpty=false:=rfl
   rw [zE]
   rw [<-hl]
   have ks:(p1.live Di.length).length<=64:=by
    unfold PS.live
    have:=List.length_filter_le (fun j=>!p1.gone j) (List.range Di.length)
    rw [List.length_range]at this;omega
   obtain⟨aW,kW,eW⟩:=Mem.Sl.val (show M.Sl .Ax s.W 3 1 p1.Ax.length (p1.Ax.map fun(n:Nat)=>Value.int .i64 (n:Int))from g.all .Ax)
   have YL:=g2.GH
   rw [sa.R]at YL
   have w3:AF h2 ⟨R,3,none⟩=some (.slice aW p1.Ax.length kW):=by rw [<-eW];exact AD YL rfl
   have bB:p1.Ax.length=p1.log.length:=by rw [rg.Ax,Ca]
   clear YL
   by_cases jb:p1.Ax.length=most
   ·repeat(first|refine AI ?_|refine AH ?_|refine AE ?_|refine Ak ?_|refine AV ?_|refine Aq ?_|refine Bc ?_|refine Az ?_|refine Eo ?_|refine Bs ?_|refine Bg ?_|refine BN ?_|refine BU ?_|refine Am ?_|refine AQ ?_|refine Av rfl (by assumption) ?_)
    exact EL rfl rfl rfl ⟨E5,p1,2,rfl,hv,sb,rg,rfl,.inr ⟨rfl,Xx,bB.symm.trans jb⟩⟩
   ·have oY:=Sp Xx AZ p1.Ax
    have jU:=kJ (main:=true) (S:=Ez Tryz.prog (PX X)) (δ:=⟨0,E5⟩) (AZ:=AZ) (Ax:=p1.Ax) (l:=p1.live Di.length) (tb:=p1.tb) (hP _ _ I2 nh) (nh.AF hbP zM) (nh.AF hbR zL) w3 (by rw [<-eW];exact Mem.Sl.slice g2.Ju (g2.all .Ax)) sl Xx ks (by omega) (fun j hj=>by
     obtain⟨v,a,_,A0⟩:=g2.JV (i:=j) (by rw [JH];exact(F8.1 hj).1)
     exact AD A0 rfl)
    obtain⟨j,hj⟩:∃j,j=FI AZ p1.Ax (p1.live Di.length):=⟨_,rfl⟩
    rw [<-hj]at jU oY
    obtain⟨U8,uM⟩:=F8.1 oY
    have jY:j<p1.num:=by rw [JH];exact U8
    have wj:AF h2 ⟨p1.tb j,1,none⟩=some (.int .i64 j):=by
     obtain⟨v,a,_,A0⟩:=g2.JV jY
     exact AD A0 rfl
    have ig:∀o,¬(Ez Tryz.prog (PX X)).still E5 ⟨R,o,none⟩:=fun o=>by
     have x:=g2.all .run
     rw [<-sa.R,<-x.2.1];exact E8 hv g2 x.1 (fun j=>⟨nofun,nofun⟩)
    have N8:M.Sl .Ax (.slice aW p1.Ax.length kW) 3 1 p1.Ax.length (p1.Ax.map fun(n:Nat)=>Value.int .i64 (n:Int)):=by
     have:=g2.all .Ax
     rw [<-eW];exact this
    repeat(first|refine AI ?_|refine AH ?_|refine AE ?_|refine Ar ?_|refine Ak ?_|refine Bb ?_|refine AV ?_|refine Aq ?_|refine Bc ?_|refine Az ?_|refine Eo ?_|refine Bg ?_|refine BN ?_|refine Am ?_|refine Av rfl (by assumption) ?_)
    refine Bx rfl jU ?_
    repeat(first|refine AI ?_|refine AH ?_|refine AE ?_|refine Ar ?_|refine AV ?_|refine Aq ?_|refine P9 rfl rfl rfl rfl rfl ?_|refine Am ?_)
    refine D7 (fun h'=>AF h' ⟨R,3,none⟩=some (.slice aW p1.Ax.length kW)/\AF h' ⟨p1.tb j,1,none⟩=some (.int .i64 j)) 13 ?_
    have hZ:=And.intro w3 wj
    refine AU 0 hZ ?_
    refine AU 1 hZ ?_
    refine BE 2 hZ ?_
    refine Ag 3 hZ ?_
    refine A8 4 (fun _ hz=>hz.1) hZ ?_
    refine AU 5 hZ ?_
    refine BE 6 hZ ?_
    refine Ag 7 hZ ?_
    refine A8 8 (fun _ hz=>hz.2) hZ ?_
    have NB:_/\_:=⟨A7 (o:=.cells #[.int .i64 j] 3) w3,A7 (o:=.cells #[.int .i64 j] 3) wj⟩
    refine CQ (v:=.slice (some ⟨h2.size,0,none⟩) 1 1) (h':=h2.push (.cells #[.int .i64 j] 3)) 9 rfl (by kernel_rfl) (fun ρ Q X Aa hq=>BW (sz:=1) Aa rfl (by omega) (by omega) rfl rfl hq) NB ?_
    have g3:=g2.A5 (AN.push h2 (.cells #[.int .i64 j] 3))
    refine F5 (new:=[.int .i64 j]) 10 rfl (by kernel_rfl) rfl rfl rfl rfl rfl (N8.slice g3.Ju) (AG _ _) rfl (by simp [OneCell]) (by omega) (by omega) rfl (fun c o hc=>?_) ?_
    ·obtain⟨y1,y2⟩:=N8.blk hc
     rw [y2];exact E8 hv g2 y1 (fun j=>⟨nofun,nofun⟩)
    intro s4 h4 Kq u4 Rk
    have nW:∀k,M.ok k->k≠ .Ax->¬blk (.slice aW p1.Ax.length kW)=some (M.B k):=fun k hk B7 e=>by
     obtain⟨y1,y2⟩:=N8.blk e
     exact g3.ne hk y1 B7 y2
    have iT:=g3.all .run
    have Py:(h2.push (.cells #[.int .i64 j] 3))[R]?=some (DC s p1.mb p1.stops):=by rw [<-sa.R];exact g3.GH
    have nR:¬blk (.slice aW p1.Ax.length kW)=some R:=by have:=nW .run iT.1 nofun;rwa [iT.2.1,sa.R]at this
    have wX:=g3.all (.t j) jY
    have nT:¬blk (.slice aW p1.Ax.length kW)=some (p1.tb j):=by have:=nW (.t j) wX.1 nofun;rwa [wX.2.1]at this
    have YK:=u4.get Py nR
    have bh:=And.intro (u4.AF NB.1 nR) (u4.AF NB.2 nT)
    refine⟨bh,?_⟩
    obtain⟨aQ,kQ,eQ⟩:=Kq.val
    refine CQ 11 rfl (by kernel_rfl) (fun ρ Q X Aa hq=>BY (Aa _ _ rfl) hq) bh ?_
    have hZ:=bh
    refine Ag 12 hZ ?_
    refine D6 (h':=Af h4 ⟨R,3,none⟩ s4) 13 rfl (by kernel_rfl) rfl rfl rfl (fun ρ Q X Aa hq=>BG (Aa _ _ rfl) (Aa _ _ rfl) (by rw [eQ];exact⟨nofun,nofun⟩) ⟨_,bh.1⟩ (AS YK) (ig _) hq) ?_
    refine BF ?_
    have vR:=nh.trans (AN.push (T:=W) h2 (.cells #[.int .i64 j] 3))
    obtain⟨M5,g5⟩:=g3.app (p':={p1 with Ax:=p1.Ax++[j]}) (sl:={s with W:=s4}) .Ax N8 Kq u4 Rk (fun c hc=>hW c (Dt vR.size hc)) nofun rfl rfl (fun i hi x hx=>⟨hi,hx⟩) rfl rfl rfl (fun k' h1 h2=>by
     have y:=g3.all k'
     cases k' with
     | Ax=>exact absurd rfl h1
     | run=>exact absurd rfl h2
     | _=>exact y) (fun N' y=>by
     show N'.Sl .Ax s4 3 1 (p1.Ax++[j]).length ((p1.Ax++[j]).map fun(n:Nat)=>Value.int .i64 (n:Int))
     rw [C1,EF];exact y) g3.JG
    rw [show h4.setIfInBounds p1.R (DC {s with W:=s4} p1.mb p1.stops)=h4.setIfInBounds R (DC {s with W:=s4} p1.mb p1.stops) by rw [sa.R]]at g5
    have e5:Af h4 ⟨R,3,none⟩ s4=h4.setIfInBounds R (DC {s with W:=s4} p1.mb p1.stops):=As YK _
    rw [e5]
    have o7:∀c,blk (.slice aW p1.Ax.length kW)=some c->W c:=fun c hc=>by
     obtain⟨y1,y2⟩:=N8.blk hc
     rw [y2];exact g3.wide _ y1
    have xJ:W R:=by have:=g3.wide _ iT.1;rwa [iT.2.1,sa.R]at this
    have u5:AN W h (h4.setIfInBounds R (DC {s with W:=s4} p1.mb p1.stops)):=(vR.trans (u4.mono fun c _ hc=>o7 c hc)).trans (AN.set _ _ _ xJ)
    have v5:AN (fun c=>∃k,M.ok k/\M.B k=c) h2 (h4.setIfInBounds R (DC {s with W:=s4} p1.mb p1.stops)):=((AN.push h2 (.cells #[.int .i64 j] 3)).trans (u4.mono fun c _ hc=>by
     obtain⟨y1,y2⟩:=N8.blk hc
     exact⟨_,y1,y2.symm⟩)).trans (AN.set _ _ _ ⟨_,iT.1,iT.2.1.trans sa.R⟩)
    have I5:=iF hX g2 v5 (fun c x=>x) I2
    generalize h4.setIfInBounds R (DC {s with W:=s4} p1.mb p1.stops)=h5 at g5 u5 I5⊢
    clear hZ NB bh u4 Kq Rk nW iT Py nR wX nT YK eQ vR e5 o7 w3 wj jU N8 v5
    obtain⟨aY,kY,eY⟩:=Mem.Sl.val (show M5.Sl .Da s.Y 3 1 p1.Da.length (p1.Da.map fun(n:Nat)=>Value.int .i64 (n:Int))from g5.all .Da)
    have y4:AF h5 ⟨R,4,none⟩=some (.slice aY p1.Da.length kY):=by
     have:=g5.GH
     rw [<-eY,<-sa.R];exact AD this rfl
    have Ts:M5.Sl .Da (.slice aY p1.Da.length kY) 3 1 p1.Da.length (p1.Da.map fun(n:Nat)=>Value.int .i64 (n:Int)):=by
     have:=g5.all .Da
     rw [<-eY];exact this
    have hrl:p1.Da.length<=65536:=by rw [rg.Da];omega
    have mn:Fw X E5.p {p1 with Ax:=p1.Ax++[j]}:=hv.more rfl
    repeat(first|refine AI ?_|refine AH ?_|refine AV ?_|refine Bc ?_|refine Az ?_|refine BN ?_|refine Av rfl (by assumption) ?_)
    refine LA (cells:=#[.int .i64 ((p1.live Di.length).length:Int)]) rfl rfl rfl (by omega) (by omega) (by rfl) rfl ?_
    have g6:=g5.A5 (AN.push h5 (.cells #[.int .i64 ((p1.live Di.length).length:Int)] 3))
    refine D9 (new:=[.int .i64 ((p1.live Di.length).length:Int)]) rfl rfl rfl rfl (Ts.slice g6.Ju) (AG _ _) rfl (by simp [OneCell]) (by omega) (by omega) (by rfl) (fun c o hc=>?_) ?_
    ·obtain⟨y1,y2⟩:=Ts.blk hc
     rw [y2];exact E8 mn g5 y1 (fun j=>⟨nofun,nofun⟩)
    intro s7 h7 XQ u7 Vy
    have oS:=g6.all .run
    have nR:¬blk (.slice aY p1.Da.length kY)=some R:=fun e=>by
     obtain⟨y1,y2⟩:=Ts.blk e
     exact g6.ne oS.1 y1 nofun ((oS.2.1.trans sa.R).trans y2)
    have fw:(h5.push (.cells #[.int .i64 ((p1.live Di.length).length:Int)] 3))[R]?=some (DC {s with W:=s4} p1.mb p1.stops):=by rw [<-sa.R];exact g6.GH
    have VG:=u7.get fw nR
    have y7:AF h7 ⟨R,4,none⟩=some s.Y:=AD VG rfl
    have hz7:Bf h7 ⟨R,4,none⟩=false:=AS VG
    obtain⟨aQ,kQ,eQ⟩:=XQ.val
    have WH:OneCell s7:=by rw [eQ];exact⟨nofun,nofun⟩
    have e8:Af h7 ⟨R,4,none⟩ s7=h7.setIfInBounds R (DC {s with W:=s4,Y:=s7} p1.mb p1.stops):=As VG _
    have vQ:=u5.trans (AN.push (T:=W) h5 (.cells #[.int .i64 ((p1.live Di.length).length:Int)] 3))
    obtain⟨M8,g8⟩:=g6.app (p':={p1 with Ax:=p1.Ax++[j],Da:=p1.Da++[(p1.live Di.length).length]}) (sl:={s with W:=s4,Y:=s7}) .Da Ts XQ u7 Vy (fun c hc=>hW c (Dt vQ.size hc)) nofun rfl rfl (fun i hi x hx=>⟨hi,hx⟩) rfl rfl rfl (fun k' h1 h2=>by
     have y:=g6.all k'
     cases k' with
     | Da=>exact absurd rfl h1
     | run=>exact absurd rfl h2
     | _=>exact y) (fun N' y=>by
     show N'.Sl .Da s7 3 1 (p1.Da++[(p1.live Di.length).length]).length ((p1.Da++[(p1.live Di.length).length]).map fun(n:Nat)=>Value.int .i64 (n:Int))
     rw [C1,EF];exact y) g6.JG
    rw [show h7.setIfInBounds ({p1 with Ax:=p1.Ax++[j]}:PS X.U).R (DC {s with W:=s4,Y:=s7} p1.mb p1.stops)=h7.setIfInBounds R (DC {s with W:=s4,Y:=s7} p1.mb p1.stops) by show h7.setIfInBounds p1.R _=_;rw [sa.R]]at g8
    have o7:∀c,blk (.slice aY p1.Da.length kY)=some c->W c:=fun c hc=>by
     obtain⟨y1,y2⟩:=Ts.blk hc
     rw [y2];exact g6.wide _ y1
    have u8:AN W h (h7.setIfInBounds R (DC {s with W:=s4,Y:=s7} p1.mb p1.stops)):=(vQ.trans (u7.mono fun c _ hc=>o7 c hc)).trans (AN.set _ _ _ xJ)
    have v8:AN (fun c=>∃k,M5.ok k/\M5.B k=c) h5 (h7.setIfInBounds R (DC {s with W:=s4,Y:=s7} p1.mb p1.stops)):=((AN.push h5 (.cells #[.int .i64 ((p1.live Di.length).length:Int)] 3)).trans (u7.mono fun c _ hc=>by
     obtain⟨y1,y2⟩:=Ts.blk hc
     exact⟨_,y1,y2.symm⟩)).trans (AN.set _ _ _ ⟨_,oS.1,oS.2.1.trans sa.R⟩)
    have I8:=iF hX g5 v8 (fun c x=>x) I5
    clear fw VG
    repeat(first|refine Bc ?_|refine Az ?_)
    refine CS rfl WH ⟨_,y7⟩ hz7 (ig _) ?_
    rw [e8]
    clear e8 y7 hz7 u7 XQ Vy vQ v8 g6 oS eQ WH o7 Ts y4 g5 u5 I5
    generalize h7.setIfInBounds R (DC {s with W:=s4,Y:=s7} p1.mb p1.stops)=h8 at g8 u8 I8⊢
    have mn2:Fw X E5.p {p1 with Ax:=p1.Ax++[j],Da:=p1.Da++[(p1.live Di.length).length]}:=hv.more (c:=p1.stops) rfl
    repeat(first|refine AH ?_|refine AE ?_|refine AV ?_)
    refine BV rfl (YS (γ:=E5) (p:={p1 with Ax:=p1.Ax++[j],Da:=p1.Da++[(p1.live Di.length).length]}) (j:=j) hX mn2 g8 I8 sa.J sa.Q jY uM (fun _=>by show p1.log.length<65536;omega) (fun _=>rg.stops)) ?_
    rintro v h9 Vp ⟨KT,rfl,e1,e2,e3,e4,Xg⟩
    have hT:=Xg.2.1
    rw [e1,e4]at hT
    have sc:XK X W h R KT.p h9:=XK.of hW Xg e3 (by rw [e2];exact u8.size) (u8.trans (by have:=Xg.2.2.upd;rw [e2,e3]at this;exact this)) (by rw [e1];exact sa.R)
    have rg3:fQ X p0.val AZ Di.length KT.p:=by
     rcases hT with⟨_,u',L,z,e,hz,hr⟩|⟨h1,_⟩
     ·rw [e];exact rg.GQ hj Xx hz hr
     ·have bi:p1.stops=true:=h1
      rw [rg.stops]at bi;cases bi
    have ABw:KT.p.log.length=p1.log.length+1:=by
     have y1:KT.p.Ax=p1.Ax++[j]:=(Jl hT).2.2.2.2.2.2.2.2.2.2.2.1
     have y2:=rg3.Ax
     rw [y1]at y2
     have:=congrArg List.length y2
     simp only [List.length_append,List.length_map,List.length_cons,List.length_nil]at this
     omega
    repeat(first|refine AE ?_|refine Bb ?_)
    exact Ah (again (KT,KT.p) _ _ (by dsimp only;omega) ⟨rfl,Fw.refl _,sc,rg3,by dsimp only;omega⟩) ⟨rfl,rfl,rfl,trivial⟩
end
end
end Go.Proofs.YtfkalocplonkiaaGreat
