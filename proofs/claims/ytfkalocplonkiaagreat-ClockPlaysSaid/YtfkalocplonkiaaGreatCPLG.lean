/- Steps of the walk and of the plain law (CpV to CqT). Conditions: as each lemma says. -/
import Derived.Test.YtfkalocplonkiaaGreatCPLF
set_option linter.unusedSectionVars false
set_option linter.unusedVariables false
set_option linter.unusedSimpArgs false
set_option maxHeartbeats 16000000
set_option maxRecDepth 8000
namespace Go.Proofs.YtfkalocplonkiaaGreat
open Go Go.TJ Go.Conc Go.Proofs
section
section
variable{Γ:Type}{main:Bool}{S:Cp Γ}{δ:Ix Γ}{b:RW}{TB n0 x i hd:Nat}{T0:TL}{pf:Pr It}{Bh:WR}{p:PA}{k:Int->PA}{g:RG}{h h':Hp}{l l':List Ev}{o:List It}
theorem Ut{R:Rec}{A:Type}{i:Nat}{a:A}{k pf:Pr A}{l:List Ev}{o:List A}(Db:PF R i pf)(g:Goes i (.emit a k) l o pf):∃o',o=a::o'/\Goes i k l o' pf:=by
 generalize hp:Pr.emit a k=p at g
 cases g with
 | nil=>exact absurd hp.symm (Db.emit a k)
 | emit g=>
  injection hp with h1 h2
  subst h1 h2
  exact⟨_,rfl,g⟩
 | step=>cases hp
theorem LQ.emit{R:Rec}{nm:Nat->D5}{lL lW lY lV:Value}{h0:Hp}{W:Nat}{s:WS}{A:Type}{a:A}{pf k:Pr A}{x:Nat}{o:List A}(Db:PF R i pf)(w:LQ R nm lL lW lY lV h0 W s pf x i (.emit a k) l o h):∃o',o=a::o'/\LQ R nm lL lW lY lV h0 W s pf x i k l o' h:=by
 obtain⟨o',h1,h2⟩:=Ut Db w.at_.goes
 exact⟨o',h1,w.all,⟨w.at_.at_,h2⟩,w.x0⟩
theorem RT.jH(r:RT b TB n0 x i hd T0 pf Bh p g h){S:Nat->Prop}(u:AN S h h')(hS:∀y,S y->(∃j,j<b.c.nT/\blk (g.tv j)=some y)\/(y<h.size->∃a t,h[y]?=some (.cells a t (0,0))/\t≠89)){Vr:Nat->Value}(W5:∀j y,j<b.c.nT->blk (Vr j)=some y->blk (g.tv j)=some y\/h.size<=y):∀y,y∈T0.L->(∃a,h'[y]?=some (.cells a 89 (0,0))/\a.size=6)/\(∀j,j<b.c.nT->¬blk (Vr j)=some y):=fun y hy=>by
 obtain⟨⟨a,h1,h2⟩,h3⟩:=r.own y hy
 refine⟨⟨a,u.get h1 fun hs=>?_,h2⟩,fun j hj e=>?_⟩
 ·rcases hS y hs with⟨j,hj,e⟩|z
  ·exact h3 j hj e
  ·obtain⟨a',t',e,q⟩:=z (Ap h1)
   rw [h1]at e
   injection e with e
   injection e with _ e _
   exact q e.symm
 ·rcases W5 j y hj e with z|z
  ·exact h3 j hj z
  ·have:=Ap h1;omega
theorem RT.known(Db:PF b.R i pf){q:FK}{s s':Nat}(r:RT b TB n0 x i hd T0 pf Bh (.Hd q s p) g h)(CO:AF h ⟨x,2,none⟩=some (.bool false))(hq:Eb g.K q=some s'):RT b TB n0 x i hd T0 pf Bh p g h:=by
 rcases r.cases with⟨-,hw,l,o,z⟩|⟨e,-⟩
 ·obtain⟨o',e,w'⟩:=LQ.emit Db z.w
  subst e
  have hk:HA g.K q s=g.K:=by unfold HA;rw [hq]
  refine⟨r.mem,r.Mw,r.own,r.Jv,r.n0,r.tl,r.lt,r.hd,.inl ⟨hw,l,o',w',?_,?_,?_,fun q' s' h=>z.kn q' s' (C2 _ h)⟩⟩
  ·have:=z.K;change (B2 o' (HA g.K q s)).K=_ at this;rwa [hk]at this
  ·have:=z.t;change _++(B2 o' (HA g.K q s)).t=_ at this;rwa [hk]at this
  ·have:=z.wt;change (B2 o' (HA g.K q s)).w=_ at this;rwa [hk]at this
 ·rw [CO]at e;cases e
theorem ZF{fv Nq:Value}{wait Fx w' g':Bool}:(((NE b TB fv wait Fx).toArray.setIfInBounds 15 Nq).setIfInBounds 17 (.bool g'))=(NE b TB Nq wait g').toArray:=by simp [NE]
theorem RT.kj(_ok:b.Ok)(Db:PF b.R i pf){q:FK}{s:Nat}(r:RT b TB n0 x i hd T0 pf Bh (.Hd q s p) g h)(CO:AF h ⟨x,2,none⟩=some (.bool false))(hq:Eb g.K q=none){h1:Hp}{Nq:Value}(u:AN (fun y=>blk g.fv=some y) h h1)(sl:AR h1 Nq 131 16 (g.K.length+1) (g.K.flatMap E0++E0 (q,s)))(hb:∀y,blk Nq=some y->blk g.fv=some y\/h.size<=y):
  RT b TB n0 x i hd T0 pf Bh p {g with K:=g.K++[(q,s)],fv:=Nq} (Af (Af h1 ⟨b.Wd,15,none⟩ Nq) ⟨b.Wd,17,none⟩ (.bool true))/\Kp h (Af (Af h1 ⟨b.Wd,15,none⟩ Nq) ⟨b.Wd,17,none⟩ (.bool true)):=by
 have I:=r.mem
 have o1:=u.get I.row (Ac I.IN I.row (by decide) _ · rfl)
 have e1:Af h1 ⟨b.Wd,15,none⟩ Nq=h1.setIfInBounds b.Wd (.cells ((NE b TB g.fv g.wait (decide (n0<g.K.length))).toArray.setIfInBounds 15 Nq) 83 (0,0)):=As o1 _
 have o2:(Af h1 ⟨b.Wd,15,none⟩ Nq)[b.Wd]?=some (.cells ((NE b TB g.fv g.wait (decide (n0<g.K.length))).toArray.setIfInBounds 15 Nq) 83 (0,0)):=by rw [e1];exact AJ o1
 have e2:Af (Af h1 ⟨b.Wd,15,none⟩ Nq) ⟨b.Wd,17,none⟩ (.bool true)=(Af h1 ⟨b.Wd,15,none⟩ Nq).setIfInBounds b.Wd (Ns b TB Nq g.wait true):=by
  rw [As o2,ZF (w':=true)]
 have u2:AN (fun y=>y=b.Wd) h1 (Af (Af h1 ⟨b.Wd,15,none⟩ Nq) ⟨b.Wd,17,none⟩ (.bool true)):=(AN.Af (T:=fun y=>y=b.Wd) h1 ⟨b.Wd,15,none⟩ Nq rfl).trans (AN.Af (T:=fun y=>y=b.Wd) _ ⟨b.Wd,17,none⟩ _ rfl)
 have o3:(Af (Af h1 ⟨b.Wd,15,none⟩ Nq) ⟨b.Wd,17,none⟩ (.bool true))[b.Wd]?=some (Ns b TB Nq g.wait true):=by rw [e2];exact AJ o2
 generalize Af (Af h1 ⟨b.Wd,15,none⟩ Nq) ⟨b.Wd,17,none⟩ (.bool true)=h3 at u2 o3⊢
 clear e1 e2 o1 o2
 have uu:AN (fun y=>blk g.fv=some y\/y=b.Wd) h h3:=(u.mono fun _ _ z=>Or.inl z).trans (u2.mono fun _ _ z=>Or.inr z)
 have hS:∀y,(blk g.fv=some y\/y=b.Wd)->b.h0.size<=y/\(y<h.size->∃a t,h[y]?=some (.cells a t (0,0))/\(t=83\/t=131)):=fun y hy=>by
  rcases hy with hy|rfl
  ·obtain⟨a,e⟩:=IU I.IN y hy
   exact⟨I.nF y hy,fun _=>⟨a,_,e,.inr rfl⟩⟩
  ·exact⟨I.nW,fun _=>⟨_,_,I.row,.inl rfl⟩⟩
 have ik:T5 h b.h0 (fun y=>blk g.fv=some y\/y=b.Wd):=fun y hy=>by
  obtain⟨z1,z2⟩:=hS y hy
  refine⟨z1,fun hl=>?_⟩
  obtain⟨a,t,e,z⟩:=z2 hl
  refine⟨a,t,e,?_⟩
  rcases z with rfl|rfl <;> decide
 obtain⟨p1,-,-,p4,p5,p6⟩:=I.parts (P:=fun t=>t=83\/t=131) uu hS
 have kp:Kp h h3:=Jd uu fun y hy hl=>by
  obtain⟨a,t,e,z⟩:=(hS y hy).2 hl
  exact⟨a,t,e,z.elim (fun z=>.inr (.inr (.inr (.inl z)))) fun z=>.inr (.inr (.inr (.inr (.inl z))))⟩
 have Ey:=u.size
 have I2:PD b TB n0 {g with K:=g.K++[(q,s)],fv:=Nq} h3:=by
  refine⟨p1,?_,?_,p4 (by decide),p5 (by decide),I.inj,p6 (by decide),I.tok,I.nW,I.nB,fun y hy=>?_,I.nV⟩
  ·show h3[b.Wd]?=some (Ns b TB Nq g.wait (decide (n0<(g.K++[(q,s)]).length)))
   rw [o3,C1,List.length_singleton,H9 (by have:=r.n0;omega)]
  ·show AR h3 Nq _ 16 (g.K++[(q,s)]).length ((g.K++[(q,s)]).flatMap E0)
   rw [C1,List.length_singleton,Ln]
   have:[(q,s)].flatMap E0=E0 (q,s):=by simp
   rw [this]
   exact sl.upd u2 fun y hy e=>by
    rcases hb y hy with z|z
    ·exact Ac I.IN I.row (by decide) y z e
    ·have:=Ap I.row;omega
  ·rcases hb y hy with z|z
   ·exact I.nF y z
   ·have:=I.up.size;omega
 rcases r.cases with⟨-,hw,l,o,z⟩|⟨e,-⟩
 ·obtain⟨o',e,w'⟩:=LQ.emit Db z.w
  subst e
  have hk:HA g.K q s=g.K++[(q,s)]:=by unfold HA;rw [hq]
  refine⟨⟨I2,r.Mw,r.jH uu (fun y hy=>.inr fun hl=>by obtain⟨a,t,e,z⟩:=(hS y hy).2 hl;exact⟨a,t,e,by rcases z with rfl|rfl <;> decide⟩) (fun _ _ _ e=>.inl e),?_,?_,r.tl,r.lt,kp.2 _ _ _ r.hd OG,.inl ⟨hw,l,o',w'.JO uu ik,?_,?_,?_,fun q' s' h=>z.kn q' s' (C2 _ h)⟩⟩,kp⟩
  ·show R1 b.fs (g.K++[(q,s)])
   rw [<-hk]
   exact r.Jv.add (z.kn q s BJ)
  ·show n0<=(g.K++[(q,s)]).length
   rw [C1];have:=r.n0;omega
  ·have:=z.K;change (B2 o' (HA g.K q s)).K=_ at this;rwa [hk]at this
  ·have:=z.t;change _++(B2 o' (HA g.K q s)).t=_ at this;rwa [hk]at this
  ·have:=z.wt;change (B2 o' (HA g.K q s)).w=_ at this;rwa [hk]at this
 ·rw [CO]at e;cases e
theorem Ij{y:Nat}:∀{vs:List Value} {off:Nat},TJ.A0 h y off vs->Cm h y off vs=h
 | [],_,_=>rfl
 | v::vs,off,hr=>by
  show Cm (Af h ⟨y,off,none⟩ v) y (off+1) vs=h
  rw [Fo (show AF h ⟨y,off,none⟩=some v from hr 0 v rfl)]
  exact Ij (off:=off+1) fun j w hw=>by
   have:=hr (j+1) w hw
   rwa [show off+(j+1)=off+1+j by omega]at this
theorem RT.asks(ok:b.Ok)(Db:PF b.R i pf){q:FK}{s:Nat}{kk:Nat->PA}(r:RT b TB n0 x i hd T0 pf Bh (.ask q kk) g h)(CO:AF h ⟨x,2,none⟩=some (.bool false))(hq:Eb g.K q=some s):RT b TB n0 x i hd T0 pf Bh (kk s) g h:=by
 have hF:b.F q=s:=ok.xV q s (r.Jv.sub _ (Ng hq))
 rcases r.cases with⟨-,hw,l,o,z⟩|⟨e,-⟩
 ·obtain⟨o',e,w'⟩:=LQ.emit Db z.w
  subst e
  rw [hF]at w'
  refine⟨r.mem,r.Mw,r.own,r.Jv,r.n0,r.tl,r.lt,r.hd,.inl ⟨hw,l,o',w',?_,?_,?_,fun q' s' h=>z.kn q' s' (C2 _ h)⟩⟩
  ·have:=z.K;unfold B2 at this;rw [hq]at this;exact this
  ·have:=z.t;unfold B2 at this;rw [hq]at this;exact this
  ·have:=z.wt;unfold B2 at this;rw [hq]at this;exact this
 ·rw [CO]at e;cases e
theorem QD{fv:Value}{wait Fx w':Bool}:(NE b TB fv wait Fx).toArray.setIfInBounds 16 (.bool w')=(NE b TB fv w' Fx).toArray:=by simp [NE]
theorem RT.waits{p':PA}(Db:PF b.R i pf){q:FK}{kk:Nat->PA}(r:RT b TB n0 x i hd T0 pf Bh (.ask q kk) g h)(CO:AF h ⟨x,2,none⟩=some (.bool false))(hq:Eb g.K q=none):
  RT b TB n0 x i hd T0 pf Bh p' {g with wait:=true} (Af (Af h ⟨b.Wd,16,none⟩ (.bool true)) ⟨x,2,none⟩ (.bool true))/\Kp h (Af (Af h ⟨b.Wd,16,none⟩ (.bool true)) ⟨x,2,none⟩ (.bool true))/\AF (Af (Af h ⟨b.Wd,16,none⟩ (.bool true)) ⟨x,2,none⟩ (.bool true)) ⟨x,2,none⟩=some (.bool true):=by
 have I:=r.mem
 obtain⟨hw,l,o,z⟩:g.wait=false/\∃l o,fR b Bh pf x i (.ask q kk) g h l o:=by
  rcases r.cases with⟨-,z⟩|⟨e,-⟩
  ·exact z
  ·rw [CO]at e;cases e
 obtain⟨o',e,w'⟩:=LQ.emit Db z.w
 subst e
 obtain⟨t,h1,h2,h3⟩:=z.w.at_.at_
 have x0:=z.w.x0
 have B7:x≠b.Wd:=fun e=>by
  have:=I.row
  rw [<-e,h3]at this
  injection this with this
  injection this with _ this _
  revert this;decide
 have e1:Af h ⟨b.Wd,16,none⟩ (.bool true)=h.setIfInBounds b.Wd (Ns b TB g.fv true (decide (n0<g.K.length))):=by
  rw [As I.row,QD]
 have o1:(Af h ⟨b.Wd,16,none⟩ (.bool true))[b.Wd]?=some (Ns b TB g.fv true (decide (n0<g.K.length))):=by rw [e1];exact AJ I.row
 have o2:(Af h ⟨b.Wd,16,none⟩ (.bool true))[x]?=some (GD b.W i false t):=by rw [e1,AX _ (Ne.symm B7)];exact h3
 have e2:Af (Af h ⟨b.Wd,16,none⟩ (.bool true)) ⟨x,2,none⟩ (.bool true)=(Af h ⟨b.Wd,16,none⟩ (.bool true)).setIfInBounds x (GD b.W i true t):=by
  rw [As o2];rfl
 have o3:(Af (Af h ⟨b.Wd,16,none⟩ (.bool true)) ⟨x,2,none⟩ (.bool true))[x]?=some (GD b.W i true t):=by rw [e2];exact AJ o2
 have o4:(Af (Af h ⟨b.Wd,16,none⟩ (.bool true)) ⟨x,2,none⟩ (.bool true))[b.Wd]?=some (Ns b TB g.fv true (decide (n0<g.K.length))):=by rw [e2,AX _ B7];exact o1
 have u1:AN (fun y=>y=b.Wd) h (Af h ⟨b.Wd,16,none⟩ (.bool true)):=AN.Af (T:=fun y=>y=b.Wd) h ⟨b.Wd,16,none⟩ _ rfl
 have u2:AN (fun y=>y=x) (Af h ⟨b.Wd,16,none⟩ (.bool true)) (Af (Af h ⟨b.Wd,16,none⟩ (.bool true)) ⟨x,2,none⟩ (.bool true)):=AN.Af (T:=fun y=>y=x) _ ⟨x,2,none⟩ _ rfl
 generalize Af (Af h ⟨b.Wd,16,none⟩ (.bool true)) ⟨x,2,none⟩ (.bool true)=h9 at u2 o3 o4⊢
 generalize Af h ⟨b.Wd,16,none⟩ (.bool true)=h8 at u1 u2 o2
 clear e1 e2 o1
 have uu:AN (fun y=>y=b.Wd\/y=x) h h9:=(u1.mono fun _ _ z=>Or.inl z).trans (u2.mono fun _ _ z=>Or.inr z)
 have hS:∀y,(y=b.Wd\/y=x)->b.h0.size<=y/\(y<h.size->∃a t,h[y]?=some (.cells a t (0,0))/\(t=83\/t=183)):=fun y hy=>by
  rcases hy with rfl|rfl
  ·exact⟨I.nW,fun _=>⟨_,_,I.row,.inl rfl⟩⟩
  ·exact⟨x0,fun _=>⟨_,_,h3,.inr rfl⟩⟩
 obtain⟨p1,-,p3,p4,p5,p6⟩:=I.parts (P:=fun t=>t=83\/t=183) uu hS
 have kp:Kp h h9:=Jd uu fun y hy hl=>by
  obtain⟨a,t,e,z⟩:=(hS y hy).2 hl
  exact⟨a,t,e,z.elim (fun z=>.inr (.inr (.inr (.inl z)))) fun z=>.inr (.inr (.inl z))⟩
 have I2:PD b TB n0 {g with wait:=true} h9:=⟨p1,o4,p3 (by decide),p4 (by decide),p5 (by decide),I.inj,p6 (by decide),I.tok,I.nW,I.nB,I.nF,I.nV⟩
 have hK:g.K=Bh.K:=by have:=z.K;unfold B2 at this;rw [hq]at this;exact this
 have ht:(g.T i).map TE.p=Bh.t:=by have:=z.t;unfold B2 at this;rw [hq]at this;dsimp only at this;rwa [List.append_nil]at this
 have mj:true=Bh.w:=by have:=z.wt;unfold B2 at this;rw [hq]at this;exact this
 have ze:E6 b.R b.nm b.lL b.lW b.lY b.lV b.h0 b.W b.s h9:=by
  have a8:E6 b.R b.nm b.lL b.lW b.lY b.lV b.h0 b.W b.s h8:=z.w.all.JO u1 fun y hy=>by
   subst hy
   exact⟨I.nW,fun _=>⟨_,_,I.row,by decide⟩⟩
  obtain⟨qq,Iw,N⟩:=a8
  refine⟨qq,?_,N⟩
  have hx8:x<h8.size:=Ap o2
  have:=Iw.other (y:=x) (a:=#[ptr b.W,.int .i64 i,.bool false,.int .i64 t]) o2 x0 (by decide) (by decide) (by decide) (by decide) (GD b.W i true t)
  have u3:AN (fun _=>False) (h8.setIfInBounds x (GD b.W i true t)) h9:=by
   refine⟨by rw [JY];exact u2.size,fun y hy _=>?_⟩
   rw [JY]at hy
   by_cases e:y=x
   ·subst e;rw [AJ o2];exact o3
   ·rw [AX _ (Ne.symm e)];exact u2.2 y hy e
  exact this.A5 u3
 exact⟨⟨I2,r.Mw,r.jH uu (fun y hy=>.inr fun hl=>by obtain⟨a,t,e,z⟩:=(hS y hy).2 hl;exact⟨a,t,e,by rcases z with rfl|rfl <;> decide⟩) (fun _ _ _ e=>.inl e),r.Jv,r.n0,r.tl,r.lt,kp.2 _ _ _ r.hd OG,.inr ⟨mj,⟨ze,x0,t,h1,o3,fun e=>by rw [<-mj]at e;cases e⟩,hK,ht⟩⟩,kp,AD o3 rfl⟩
theorem RT.keep(r:RT b TB n0 x i hd T0 pf Bh p g h)(vs:List Int):RT b TB n0 x i hd T0 pf Bh p {g with kept:=g.kept++[(h.size,Cy vs)]} (h.push (Cy vs)):=by
 have r1:=r.A5 (AN.push h (Cy vs))
 have I:=r1.mem
 refine⟨⟨I.up,I.row,I.IN,I.out,I.NQ,I.inj,fun q hq=>?_,fun j e he=>(I.tok j e he).mono fun q hq=>GR _ hq,I.nW,I.nB,I.nF,I.nV⟩,r1.Mw,r1.own,r1.Jv,r1.n0,r1.tl,r1.lt,r1.hd,r1.st.imp (fun⟨e,l,o,z⟩=>⟨e,l,o,z.w,z.K,z.t,z.wt,z.kn⟩) fun z=>z⟩
 rcases Ff.1 hq with z|z
 ·exact I.kept q z
 ·rw [DD.1 z]
  exact⟨AG _ _,vs,rfl⟩
theorem O8{n i:Nat}(hi:i<n)(f:Nat->Value)(v:Value):((List.range n).map f).toArray.setIfInBounds i v=((List.range n).map (ut f i v)).toArray:=by
 rw [List.setIfInBounds_toArray]
 congr 1
 refine List.ext_getElem? fun j=>?_
 by_cases e:i=j
 ·subst e
  rw [List.getElem?_set_self (by simpa using hi),List.getElem?_map,List.getElem?_range hi]
  show some v=some (ut f i v i)
  rw [AL]
 ·rw [OD e]
  simp only [List.getElem?_map]
  rcases EM j n with y|y
  ·rw [List.getElem?_range y]
   show some (f j)=some (ut f i v j)
   rw [Ai _ _ (Ne.symm e)]
  ·rw [List.getElem?_eq_none (by simpa using y)];rfl
theorem RT.qx(Db:PF b.R i pf){e:TE}(r:RT b TB n0 x i hd T0 pf Bh (.emit e.p p) g h)(CO:AF h ⟨x,2,none⟩=some (.bool false))(he:N3 g.kept e){h1:Hp}{s':Value}(u:AN (fun y=>blk (g.tv i)=some y) h h1)(sl:AR h1 s' 89 6 ((g.T i).length+1) ((g.T i).flatMap Ex++Ex e))(hb:∀y,blk s'=some y->blk (g.tv i)=some y\/h.size<=y):
  RT b TB n0 x i hd T0 pf Bh p {g with T:=ut g.T i (g.T i++[e]),tv:=ut g.tv i s'} (Af h1 ⟨TB,0+i*1,none⟩ s')/\Kp h (Af h1 ⟨TB,0+i*1,none⟩ s'):=by
 have I:=r.mem
 have hi:=r.lt
 have o1:=u.get I.out (Ac (I.NQ i hi) I.out (by decide) _ · rfl)
 have e1:Af h1 ⟨TB,0+i*1,none⟩ s'=h1.setIfInBounds TB (.cells ((List.range b.c.nT).map (ut g.tv i s')).toArray 73 (0,0)):=by
  rw [As o1,show 0+i*1=i by omega,O8 hi]
 have o2:(Af h1 ⟨TB,0+i*1,none⟩ s')[TB]?=some (.cells ((List.range b.c.nT).map (ut g.tv i s')).toArray 73 (0,0)):=by rw [e1];exact AJ o1
 have u2:AN (fun y=>y=TB) h1 (Af h1 ⟨TB,0+i*1,none⟩ s'):=AN.Af (T:=fun y=>y=TB) h1 ⟨TB,0+i*1,none⟩ s' rfl
 generalize Af h1 ⟨TB,0+i*1,none⟩ s'=h3 at u2 o2⊢
 clear e1 o1
 have uu:AN (fun y=>blk (g.tv i)=some y\/y=TB) h h3:=(u.mono fun _ _ z=>Or.inl z).trans (u2.mono fun _ _ z=>Or.inr z)
 have hS:∀y,(blk (g.tv i)=some y\/y=TB)->b.h0.size<=y/\(y<h.size->∃a t,h[y]?=some (.cells a t (0,0))/\(t=89\/t=73)):=fun y hy=>by
  rcases hy with hy|rfl
  ·obtain⟨a,e⟩:=IU (I.NQ i hi) y hy
   exact⟨I.nV i y hi hy,fun _=>⟨a,_,e,.inl rfl⟩⟩
  ·exact⟨I.nB,fun _=>⟨_,_,I.out,.inr rfl⟩⟩
 have ik:T5 h b.h0 (fun y=>blk (g.tv i)=some y\/y=TB):=fun y hy=>by
  obtain⟨z1,z2⟩:=hS y hy
  refine⟨z1,fun hl=>?_⟩
  obtain⟨a,t,e,z⟩:=z2 hl
  refine⟨a,t,e,?_⟩
  rcases z with rfl|rfl <;> decide
 obtain⟨p1,p2,p3,-,-,p6⟩:=I.parts (P:=fun t=>t=89\/t=73) uu hS
 have kp:Kp h h3:=Jd uu fun y hy hl=>by
  obtain⟨a,t,e,z⟩:=(hS y hy).2 hl
  exact⟨a,t,e,z.elim (fun z=>.inr (.inr (.inr (.inr (.inr (.inl z)))))) fun z=>.inr (.inr (.inr (.inr (.inr (.inr z)))))⟩
 have Gu:∀j y,j<b.c.nT->blk (ut g.tv i s' j)=some y->(blk (g.tv j)=some y)\/(j=i/\h.size<=y):=fun j y hj hy=>by
  by_cases ej:j=i
  ·subst ej
   rw [AL]at hy
   exact(hb y hy).imp id fun z=>⟨rfl,z⟩
  ·rw [Ai _ _ ej]at hy;exact .inl hy
 have ub:=Ap I.out
 have I2:PD b TB n0 {g with T:=ut g.T i (g.T i++[e]),tv:=ut g.tv i s'} h3:=by
  refine⟨p1,p2 (by decide),p3 (by decide),o2,fun j hj=>?_,fun j k y hj hk bi ui=>?_,p6 (by decide),fun j e' iZ=>?_,I.nW,I.nB,I.nF,fun j y hj hy=>?_⟩
  ·show AR h3 (ut g.tv i s' j) _ 6 (ut g.T i (g.T i++[e]) j).length ((ut g.T i (g.T i++[e]) j).flatMap Ex)
   by_cases ej:j=i
   ·subst ej
    rw [AL,AL,C1,Ln]
    have:[e].flatMap Ex=Ex e:=by simp
    rw [this]
    exact sl.upd u2 fun y hy ey=>by
     rcases hb y hy with z|z
     ·exact Ac (I.NQ j hj) I.out (by decide) y z ey
     ·omega
   ·rw [Ai _ _ ej,Ai _ _ ej]
    exact(I.NQ j hj).upd uu fun y hy hz=>hz.elim (fun z=>ej (I.inj j i y hj hi hy z)) fun z=>Ac (I.NQ j hj) I.out (by decide) y hy z
  ·rcases Gu j y hj bi with z1|⟨z1,z2⟩
   ·rcases Gu k y hk ui with z3|⟨z3,z4⟩
    ·exact I.inj j k y hj hk z1 z3
    ·have:=(I.NQ j hj).lt z1;omega
   ·rcases Gu k y hk ui with z3|⟨z3,z4⟩
    ·have:=(I.NQ k hk).lt z3;omega
    ·rw [z1,z3]
  ·have uS:e'∈ut g.T i (g.T i++[e]) j:=iZ
   by_cases ej:j=i
   ·subst ej
    rw [AL]at uS
    rcases Ff.1 uS with z|z
    ·exact I.tok j e' z
    ·rw [DD.1 z];exact he
   ·rw [Ai _ _ ej]at uS;exact I.tok j e' uS
  ·rcases Gu j y hj hy with z|⟨-,z⟩
   ·exact I.nV j y hj z
   ·have:=I.up.size;omega
 rcases r.cases with⟨-,hw,l,o,z⟩|⟨e,-⟩
 ·obtain⟨o',e',w'⟩:=LQ.emit Db z.w
  subst e'
  refine⟨⟨I2,fun j hj=>(Ai _ _ hj).trans (r.Mw j hj),r.jH uu (fun y hy=>hy.elim (fun z=>.inl ⟨i,hi,z⟩) fun z=>.inr fun _=>by subst z;exact⟨_,_,I.out,by decide⟩) (fun j y hj e=>(Gu j y hj e).imp id fun z=>z.2),r.Jv,r.n0,r.tl,r.lt,kp.2 _ _ _ r.hd OG,.inl ⟨hw,l,o',w'.JO uu ik,z.K,?_,z.wt,fun q' s' h=>z.kn q' s' (C2 _ h)⟩⟩,kp⟩
  show(ut g.T i (g.T i++[e]) i).map TE.p++_=_
  rw [AL,EF,Ke]
  exact z.t
 ·rw [CO]at e;cases e
theorem RT.dG(r:RT b TB n0 x i hd T0 pf Bh p g h):(g.T i).length<=3000000:=by
 have h1:=r.tl
 rcases r.st with⟨-,l,o,z⟩|z
 ·have:=congrArg List.length z.t
  rw [C1,Ca]at this
  omega
 ·have:=congrArg List.length z.2.2.2
  rw [Ca]at this
  omega
theorem RT.loc(r:RT b TB n0 x i hd T0 pf Bh p g h){y:Nat}{a:Array Value}{t:TypeId}(u:AN (fun z=>z=y) h h')(gy:h[y]?=some (.cells a t (0,0)))(KG:b.h0.size<=y)(ht:t≠83/\t≠73/\t≠2/\t≠146/\t≠134/\t≠4/\t≠183/\t≠141)(hF:¬blk g.fv=some y)(hT:∀j,j<b.c.nT->¬blk (g.tv j)=some y)(hL:y∈T0.L->∃a',h'[y]?=some (.cells a' 89 (0,0))/\a'.size=6):RT b TB n0 x i hd T0 pf Bh p g h':=by
 obtain⟨t1,t2,t3,t4,t5,t6,t7,t8⟩:=ht
 have I:=r.mem
 have ne:∀{z:Nat} {a':Array Value} {t':TypeId},h[z]?=some (.cells a' t' (0,0))->t'≠t->z≠y:=fun {z a' t'} hz B7 e=>by
  rw [e,gy]at hz
  injection hz with hz
  injection hz with _ hz _
  exact B7 hz.symm
 have ik:T5 h b.h0 (fun z=>z=y):=fun z hz=>by
  subst hz
  exact⟨KG,fun _=>⟨a,t,gy,t4,t5,t6,t3,t7⟩⟩
 refine⟨⟨I.up.over u (fun z e=>by rw [e];exact KG),u.get I.row (ne I.row (Ne.symm t1)),I.IN.upd u fun z hz e=>hF (e▸hz),u.get I.out (ne I.out (Ne.symm t2)),fun j hj=>(I.NQ j hj).upd u fun z hz e=>hT j hj (e▸hz),I.inj,fun q hq=>?_,I.tok,I.nW,I.nB,I.nF,I.nV⟩,r.Mw,fun z hz=>⟨?_,(r.own z hz).2⟩,r.Jv,r.n0,r.tl,r.lt,u.get r.hd (ne r.hd (Ne.symm t8)),r.st.imp (fun⟨e,l,o,z⟩=>⟨e,l,o,z.w.JO u ik,z.K,z.t,z.wt,z.kn⟩) fun⟨e,z,z2⟩=>⟨e,⟨z.all.JO u ik,z.x0,?_⟩,z2⟩⟩
 ·obtain⟨q1,l,q2⟩:=I.kept q hq
  refine⟨?_,l,q2⟩
  rw [q2]at q1⊢
  exact u.get q1 (ne q1 (Ne.symm t3))
 ·by_cases e:z=y
  ·subst e;exact hL hz
  ·obtain⟨⟨a',h1,h2⟩,-⟩:=r.own z hz
   exact⟨a',u.get h1 e,h2⟩
 ·obtain⟨t',q1,q2,q3⟩:=z.at_
  exact⟨t',q1,VQ q2 u ik,q3⟩
theorem RT.YF(r:RT b TB n0 x i hd T0 pf Bh p g h)(a:Array Value)(ha:a.size=6):RT b TB n0 x i hd ⟨T0.T,h.size::T0.L⟩ pf Bh p g (h.push (.cells a 89 (0,0))):=by
 have r1:=r.A5 (AN.push h (.cells a 89))
 refine⟨r1.mem,r1.Mw,fun y hy=>?_,r1.Jv,r1.n0,r1.tl,r1.lt,r1.hd,r1.st⟩
 rcases Ew.1 hy with rfl|z
 ·exact⟨⟨a,AG _ _,ha⟩,fun j hj e=>by have:=(r.mem.NQ j hj).lt e;omega⟩
 ·exact r1.own y z
theorem RT.py{y:Nat}{L:List Nat}{T:Nat->List TE}(r:RT b TB n0 x i hd ⟨T,y::L⟩ pf Bh p g h):RT b TB n0 x i hd ⟨T,L⟩ pf Bh p g h:=
 ⟨r.mem,r.Mw,fun z hz=>r.own z (C2 _ hz),r.Jv,r.n0,r.tl,r.lt,r.hd,r.st⟩
end
end
section
abbrev Fe(l:List Value):Obj:=.cells l.toArray 131 (0,0)
def EE:List Value:=[.int .i64 0,.int .i64 0,.int .i64 0,.int .i64 0,.int .i64 0,.int .i64 0,.int .i64 0,.int .i64 0,.int .i64 0,.int .i64 0,AK,.int .i64 0,.int .i64 0,.int .i64 0,.int .i64 0,AK]
theorem lE(v0 v1 v2 v3 v4 v5 v6 v7 v8 v9 v10 v11 v12 z9 z8 zy:Value):Instr.fill (fun i=>some (i*16,16)) EE.toArray [(0,.agg #[v0,v1,v2,v3,v4,v5,v6,v7,v8,v9,v10,v11,v12,z9,z8,zy])]=some #[v0,v1,v2,v3,v4,v5,v6,v7,v8,v9,v10,v11,v12,z9,z8,zy]:=by kernel_rfl
section
variable{Γ:Type}{main:Bool}{S:Cp Γ}{δ:Ix Γ}{b:RW}{TB n0 x i hd:Nat}{T0:TL}{pf:Pr It}{Bh:WR}{p:PA}{k:Int->PA}{g:RG}{h h':Hp}{l l':List Ev}{o:List It}
theorem J9(q:FK×Nat):∀v∈E0 q,OneCell v:=by simp [E0,OneCell]
theorem Zf(ok:b.Ok)(Db:PF b.R i pf){c j:Nat}{r:Int}{s:Nat}(rt:RT b TB n0 x i hd T0 pf Bh (.Hd (c,j,r) s p) g h)(CO:AF h ⟨x,2,none⟩=some (.bool false)):
  AY Tryz.prog main (Fb (Γ:=Γ)) 48 #[ptr b.Wd,.agg (E0 ((c,j,r),s)).toArray] h δ (CJ fun _ h' AW=>AW=δ/\Kp h h'/\∃g',RT b TB n0 x i hd T0 pf Bh p g' h'):=by
 have hK:g.K.length<=32768:=Dt rt.Jv.len ok.uy
 refine CK (n:=35) ?_
 obtain⟨y,hy⟩:∃y,y=h.size:=⟨_,rfl⟩
 have wJ:¬blk g.fv=some y:=fun e=>by have:=rt.mem.IN.lt e;omega
 refine AI ?_
 refine AH ?_
 refine DO ?_
 refine AE ?_
 refine F4 (fun h'=>Kp h h'/\RT b TB n0 x i hd T0 pf Bh (.Hd (c,j,r) s p) g h'/\AF h' ⟨x,2,none⟩=some (.bool false)/\h'[y]?=some (Fe (E0 ((c,j,r),s)))) ⟨BA (AN.push _ _),rt.A5 (AN.push _ _),(AN.push (T:=fun _=>False) _ _).AF CO (fun z=>z),by rw [hy];exact AG _ _⟩ ?_
 rw [<-hy]
 clear rt CO hy
 rintro h1 ⟨W3,rt,CO,gy⟩
 have y0:AF h1 ⟨y,0,none⟩=some (.int .i64 (2000000+(c:Int))):=AD gy rfl
 have y1:AF h1 ⟨y,1,none⟩=some (.int .i64 (j:Int)):=AD gy rfl
 have y2:AF h1 ⟨y,2,none⟩=some (.int .i64 r):=AD gy rfl
 repeat(first|refine AI ?_|refine AH ?_|refine AV ?_|refine Az ?_|refine Df ?_)
 refine BV rfl (Sm rt.mem hK) ?_
 rintro _ h2 FJ ⟨rfl,e2,⟨rfl,G7⟩|⟨n,s',rfl,hn,cJ⟩⟩ <;> rw [e2] <;> clear e2 h2
 ·clear y0 y1 y2
  have I:=rt.mem
  obtain⟨aF,kF,eF⟩:=I.IN.val
  have Tf:AF h1 ⟨b.Wd,15,none⟩=some g.fv:=AD I.row rfl
  have ry:TJ.A0 h1 y 0 (E0 ((c,j,r),s)):=C0 (by exact gy)
  obtain⟨RQ,LV⟩:∃RQ,RQ=E0 ((c,j,r),s):=⟨_,rfl⟩
  have o9:Instr.fill (fun i=>some (i*16,16)) EE.toArray [(0,.agg RQ.toArray)]=some RQ.toArray:=by rw [LV];exact lE _ _ _ _ _ _ _ _ _ _ _ _ _ _ _ _
  have Pp:RQ.length=16:=by rw [LV];rfl
  have ij:∀v∈RQ,OneCell v:=by rw [LV];exact J9 _
  rw [<-LV]at ry
  repeat(first|refine AI ?_|refine AH ?_|refine AE ?_|refine AV ?_|refine Aq ?_|refine Bs ?_|refine BU ?_)
  refine D7 (fun h'=>AF h' ⟨b.Wd,15,none⟩=some g.fv/\TJ.A0 h' y 0 RQ) 10 ?_
  have hZ:_/\_:=And.intro Tf ry
  refine AU 0 hZ ?_
  refine AU 1 hZ ?_
  refine BE 2 hZ ?_
  refine Ag 3 hZ ?_
  refine A8 4 (fun _ hz=>hz.1) hZ ?_
  refine EP (vs:=RQ) 5 rfl (by kernel_rfl) rfl rfl rfl rfl Pp (fun _ hz=>hz.2) hZ ?_
  have up:=AN.push (T:=fun _=>False) h1 (Fe RQ)
  have Jt:=rt.A5 up
  have ae:_/\_:=And.intro (up.AF Tf (fun x=>x)) (fun(q:Nat) (v:Value) hv=>up.AF (ry q v hv) (fun x=>x):TJ.A0 (h1.push (Fe RQ)) y 0 RQ)
  refine CQ (v:=.slice (some ⟨h1.size,0,none⟩) 1 1) (h':=h1.push (Fe RQ)) 6 rfl (by kernel_rfl) (fun ρ Q X Aa hq=>BW (sz:=16) (parts:=[(0,.agg RQ.toArray)]) Aa rfl (by omega) (by omega) rfl (by exact o9) hq) ae ?_
  refine F5 (new:=RQ) 7 rfl (by kernel_rfl) rfl rfl rfl rfl rfl Jt.mem.IN (AG _ _) Pp ij (by omega) (by omega) rfl (fun _ _ _ x=>x) ?_
  intro s6 h4 PG u6 Tc
  have o1:=u6.get Jt.mem.row (Ac Jt.mem.IN Jt.mem.row (by decide) _ · rfl)
  have hZ:_/\_:=And.intro (AD o1 rfl:AF h4 ⟨b.Wd,15,none⟩=some g.fv) (fun(q:Nat) (v:Value) hv=>u6.AF (ae.2 q v hv) wJ:TJ.A0 h4 y 0 RQ)
  refine⟨hZ,?_⟩
  obtain⟨a4,k4,e4⟩:=PG.val
  refine CQ 8 rfl (by kernel_rfl) (fun ρ Q X Aa hq=>BY (Aa _ _ rfl) hq) hZ ?_
  refine Ag 9 hZ ?_
  refine D6 (h':=Af h4 ⟨b.Wd,15,none⟩ s6) 10 rfl (by kernel_rfl) rfl rfl rfl (fun ρ Q X Aa hq=>BG (Aa _ _ rfl) (Aa _ _ rfl) (by rw [e4];exact⟨nofun,nofun⟩) ⟨_,hZ.1⟩ (AS o1) (fun x=>x) hq) ?_
  refine BF ?_
  obtain⟨W0,Ri⟩:=Jt.kj ok Db (up.AF CO (fun x=>x)) G7 u6 (by rw [<-LV];exact PG) (fun z hz=>(Tc z hz).imp id fun e=>by rw [e];exact CY _)
  have o5:∃v,AF (Af h4 ⟨b.Wd,15,none⟩ s6) ⟨b.Wd,17,none⟩=some v/\Bf (Af h4 ⟨b.Wd,15,none⟩ s6) ⟨b.Wd,17,none⟩=false:=by
   rw [As o1]
   have:(h4.setIfInBounds b.Wd (.cells ((NE b TB g.fv g.wait (decide (n0<g.K.length))).toArray.setIfInBounds 15 s6) 83 (0,0)))[b.Wd]?=some (.cells ((NE b TB g.fv g.wait (decide (n0<g.K.length))).toArray.setIfInBounds 15 s6) 83 (0,0)):=AJ o1
   exact⟨_,AD this (by simp [NE];rfl),AS this⟩
  obtain⟨v5,o5,f5⟩:=o5
  repeat(first|refine AI ?_|refine AH ?_|refine AV ?_|refine Bc ?_|refine Az ?_)
  refine CS rfl ⟨nofun,nofun⟩ ⟨_,o5⟩ f5 (fun x=>x) ?_
  repeat(first|refine AE ?_|refine AQ ?_)
  exact Eu rfl ⟨rfl,W3.trans ((BA up).trans Ri),_,W0⟩
 ·clear y0 y1 y2
  have I:=rt.mem
  obtain⟨aF,kF,eF⟩:=I.IN.val
  have IN:=I.IN
  rw [eF]at IN
  obtain⟨bF,ea,A0,xE⟩:=Bt MY IN hn
  subst ea
  have Tf:AF h1 ⟨b.Wd,15,none⟩=some g.fv:=AD I.row rfl
  rw [eF]at Tf
  have XZ:=(Gv.1 hn).1
  have ry:TJ.A0 h1 y 0 (E0 ((c,j,r),s)):=C0 (by exact gy)
  have hs:s'=s:=by
   have bi:b.F (c,j,r)=s':=ok.xV _ _ (rt.Jv.sub _ (Ng cJ))
   rcases rt.cases with⟨-,-,l,o,z⟩|⟨e,-⟩
   ·obtain⟨o',e,w'⟩:=LQ.emit Db z.w
    have ui:b.F (c,j,r)=s:=ok.xV _ _ (z.kn (c,j,r) s (by rw [e];exact BJ))
    rw [<-bi,ui]
   ·rw [CO]at e;cases e
  subst hs
  have W0:=rt.known Db CO cJ
  obtain⟨RQ,LV⟩:∃RQ,RQ=E0 ((c,j,r),s'):=⟨_,rfl⟩
  have Pp:RQ.length=16:=by rw [LV];rfl
  have ij:∀v∈RQ,OneCell v:=by rw [LV];exact J9 _
  rw [<-LV]at ry A0
  repeat(first|refine AI ?_|refine AH ?_|refine AE ?_|refine Ar ?_|refine AV ?_|refine Aq ?_|refine Bg ?_|refine Am ?_)
  refine D7 (fun h'=>AF h' ⟨b.Wd,15,none⟩=some (.slice (some ⟨bF,0,none⟩) g.K.length kF)/\TJ.A0 h' y 0 RQ) 7 ?_
  have hZ:_/\_:=And.intro Tf ry
  refine AU 0 hZ ?_
  refine BE 1 hZ ?_
  refine Ag 2 hZ ?_
  refine A8 3 (fun _ hz=>hz.1) hZ ?_
  refine AU 4 hZ ?_
  refine EP (vs:=RQ) 5 rfl (by kernel_rfl) rfl rfl rfl rfl Pp (fun _ hz=>hz.2) hZ ?_
  refine CQ 6 rfl (by kernel_rfl) (fun ρ Q X Aa hq=>E4 (Aa _ _ rfl) (Aa _ _ rfl) (by omega) (by omega) hq) hZ ?_
  refine D6 (h':=h1) 7 rfl (by kernel_rfl) rfl rfl rfl (fun ρ Q X Aa hq=>B6 (vs:=RQ) (Aa _ _ rfl) (Aa _ _ rfl) Pp ij (fun q hq=>⟨⟨_,A0 q _ (Cl (show q<RQ.length by rw [Pp];exact hq))⟩,xE _,fun x=>x⟩) (by show Q _ (Cm h1 bF (0+n*16) RQ) _;rw [Ij A0];exact hq)) ?_
  refine BF ?_
  skip
  exact FQ (Eu rfl ⟨rfl,W3,_,W0⟩)
theorem dW(ok:b.Ok)(Db:PF b.R i pf){c j:Nat}{r:Int}{kk:Nat->PA}(rt:RT b TB n0 x i hd T0 pf Bh (.ask (c,j,r) kk) g h)(CO:AF h ⟨x,2,none⟩=some (.bool false)):
  AY Tryz.prog main (Fb (Γ:=Γ)) 189 #[ptr b.Wd,ptr hd,.int .i64 (2000000+(c:Int)),.int .i64 (j:Int),.int .i64 r] h δ (CJ fun v h' AW=>AW=δ/\Kp h h'/\((∃s:Nat,v= .agg (E0 ((c,j,r),s)).toArray/\RT b TB n0 x i hd T0 pf Bh (kk s) g h'/\AF h' ⟨x,2,none⟩=some (.bool false))\/(v= .agg EE.toArray/\AF h' ⟨x,2,none⟩=some (.bool true)/\∃g',∀p',RT b TB n0 x i hd T0 pf Bh p' g' h'))):=by
 have hK:g.K.length<=32768:=Dt rt.Jv.len ok.uy
 refine CK (n:=36) ?_
 obtain⟨y,hy⟩:∃y,y=h.size:=⟨_,rfl⟩
 have wJ:¬blk g.fv=some y:=fun e=>by have:=rt.mem.IN.lt e;omega
 have wH:∀q,q<b.c.nT->¬blk (g.tv q)=some y:=fun q hq e=>by have:=(rt.mem.NQ q hq).lt e;omega
 have KG:b.h0.size<=y:=by rw [hy];exact rt.mem.up.size
 refine AI ?_
 refine AH ?_
 refine Cn ?_
 refine AE ?_
 refine F4 (fun h'=>Kp h h'/\RT b TB n0 x i hd T0 pf Bh (.ask (c,j,r) kk) g h'/\AF h' ⟨x,2,none⟩=some (.bool false)/\h'[y]?=some (Fe EE)) ⟨BA (AN.push _ _),rt.A5 (AN.push _ _),(AN.push (T:=fun _=>False) _ _).AF CO (fun z=>z),by rw [hy];exact AG _ _⟩ ?_
 rw [<-hy]
 clear rt CO hy
 rintro h1 ⟨W3,rt,CO,gy⟩
 repeat(first|refine AI ?_|refine AH ?_|refine AV ?_)
 refine BV rfl (Sm rt.mem hK) ?_
 rintro _ h2 FJ ⟨rfl,e2,⟨rfl,G7⟩|⟨n,s',rfl,hn,cJ⟩⟩ <;> rw [e2] <;> clear e2 h2
 ·have I:=rt.mem
  obtain⟨rw1,kpw,cZ⟩:=rt.waits (p':=.done) Db CO G7
  have rw2:∀p',RT b TB n0 x i hd T0 pf Bh p' {g with wait:=true} (Af (Af h1 ⟨b.Wd,16,none⟩ (.bool true)) ⟨x,2,none⟩ (.bool true)):=fun p'=>(rt.waits (p':=p') Db CO G7).1
  have cX:=rt.X
  have e1:AF h1 ⟨b.Wd,16,none⟩=some (.bool g.wait):=AD I.row rfl
  have f1:Bf h1 ⟨b.Wd,16,none⟩=false:=AS I.row
  have B7:hd≠b.Wd:=fun e=>by
   have:=rt.hd
   rw [e,I.row]at this
   injection this with this
   injection this with _ this _
   revert this;decide
  have cX2:AF (Af h1 ⟨b.Wd,16,none⟩ (.bool true)) ⟨hd,0,none⟩=some (ptr x):=(AN.Af (T:=fun z=>z=b.Wd) h1 ⟨b.Wd,16,none⟩ _ rfl).AF cX B7
  obtain⟨t,q1,q2,q3⟩:∃t out,h1[x]?=some (GD b.W i out t)/\x≠b.Wd:=by
   rcases rt.cases with⟨-,-,l,o,z⟩|⟨e,-⟩
   ·obtain⟨t,z1,z2,z3⟩:=z.w.at_.at_
    refine⟨t,false,z3,fun e=>?_⟩
    rw [e,I.row]at z3
    injection z3 with z3
    injection z3 with _ z3 _
    revert z3;decide
   ·rw [CO]at e;cases e
  have e3:(Af h1 ⟨b.Wd,16,none⟩ (.bool true))[x]?=some (GD b.W i q1 t):=(AN.Af (T:=fun z=>z=b.Wd) h1 ⟨b.Wd,16,none⟩ _ rfl).get q2 q3
  have e4:AF (Af h1 ⟨b.Wd,16,none⟩ (.bool true)) ⟨x,2,none⟩=some (.bool q1):=AD e3 rfl
  have XF:(Af (Af h1 ⟨b.Wd,16,none⟩ (.bool true)) ⟨x,2,none⟩ (.bool true))[y]?=some (Fe EE):=by
   have n1:y≠b.Wd:=fun e=>by
    rw [e,I.row]at gy
    injection gy with gy
    injection gy with _ gy _
    revert gy;decide
   have n2:y≠x:=fun e=>by
    rw [e,q2]at gy
    injection gy with gy
    injection gy with _ gy _
    revert gy;decide
   exact(AN.Af (T:=fun z=>z=x) _ ⟨x,2,none⟩ _ rfl).get ((AN.Af (T:=fun z=>z=b.Wd) h1 ⟨b.Wd,16,none⟩ _ rfl).get gy n1) n2
  clear rw1
  repeat(first|refine AI ?_|refine AH ?_|refine AE ?_|refine AV ?_|refine Aq ?_|refine Bc ?_|refine Az ?_|refine Bs ?_|refine BU ?_)
  refine CS rfl ⟨nofun,nofun⟩ ⟨_,e1⟩ f1 (fun x=>x) ?_
  repeat(first|refine AI ?_|refine AH ?_|refine AE ?_|refine AV ?_|refine Bc ?_|refine Az ?_|refine Av rfl (by assumption) ?_)
  refine CS rfl ⟨nofun,nofun⟩ ⟨_,e4⟩ (AS e3) (fun x=>x) ?_
  repeat(first|refine AI ?_|refine AH ?_|refine AE ?_)
  refine Cr (cells:=EE.toArray) rfl rfl (by rfl) (by kernel_rfl) ?_
  refine Bz (vs:=EE) rfl rfl (by simp [EE,OneCell]) (A3 (c:=EE) XF rfl (fun _ x=>x)) ?_
  rw [Ij (CA (vs:=EE) (rest:=[]) (by rw [DI];exact XF))]
  repeat(first|refine AE ?_|refine AQ ?_)
  exact BD (vs:=EE) rfl rfl rfl (C0 (by exact XF)) ⟨rfl,W3.trans kpw,.inr ⟨rfl,cZ,_,rw2⟩⟩
 ·have I:=rt.mem
  obtain⟨aF,kF,eF⟩:=I.IN.val
  have IN:=I.IN
  rw [eF]at IN
  obtain⟨bF,ea,A0,xE⟩:=Bt MY IN hn
  subst ea
  have Tf:AF h1 ⟨b.Wd,15,none⟩=some g.fv:=AD I.row rfl
  rw [eF]at Tf
  have XZ:=(Gv.1 hn).1
  have W0:=rt.asks ok Db CO cJ
  obtain⟨RQ,LV⟩:∃RQ,RQ=E0 ((c,j,r),s'):=⟨_,rfl⟩
  have Pp:RQ.length=16:=by rw [LV];rfl
  have ij:∀v∈RQ,OneCell v:=by rw [LV];exact J9 _
  rw [<-LV]at A0
  repeat(first|refine AI ?_|refine AH ?_|refine AE ?_|refine Ar ?_|refine AV ?_|refine Aq ?_|refine Bc ?_|refine Az ?_|refine Bg ?_|refine Cd ?_|refine Am ?_|refine Av rfl (by assumption) ?_)
  refine gf (vs:=RQ) rfl rfl rfl Pp A0 ?_
  refine Bz (vs:=RQ) rfl Pp ij (A3 (c:=EE) gy rfl (fun _ x=>x)) ?_
  rw [Au (c:=EE) (vs:=RQ) gy (by rw [Pp];rfl)]
  have u9:AN (fun z=>z=y) h1 (h1.setIfInBounds y (Fe RQ)):=AN.set _ _ _ rfl
  have Pn:=W0.loc u9 gy KG (by decide) wJ wH (fun hL=>by obtain⟨⟨a,q,-⟩,-⟩:=W0.own y hL;rw [gy]at q;injection q with q;injection q with _ q _;exact absurd q (by decide))
  have yx:AF (h1.setIfInBounds y (Fe RQ)) ⟨x,2,none⟩=some (.bool false):=u9.AF CO fun e=>by
   rcases rt.cases with⟨-,-,l,o,z⟩|⟨e',-⟩
   ·obtain⟨t,z1,z2,z3⟩:=z.w.at_.at_
    change x=y at e
    rw [e,gy]at z3
    injection z3 with z3
    injection z3 with _ z3 _
    revert z3;decide
   ·rw [CO]at e';cases e'
  have Mx:Kp h1 (h1.setIfInBounds y (Fe RQ)):=Jd u9 fun z hz _=>by rw [hz];exact⟨_,_,gy,.inr (.inr (.inr (.inr (.inl rfl))))⟩
  repeat(first|refine AE ?_|refine AQ ?_)
  exact BD (vs:=RQ) rfl rfl Pp (C0 (by exact AJ gy)) ⟨rfl,W3.trans Mx,.inl ⟨s',by rw [LV],Pn,yx⟩⟩
theorem Sk(Db:PF b.R i pf){e:TE}(rt:RT b TB n0 x i hd T0 pf Bh (.emit e.p p) g h)(he:N3 g.kept e)(Ky:∀v∈Ex e,OneCell v):
  AY Tryz.prog main (Fb (Γ:=Γ)) 99 #[ptr b.Wd,ptr hd,.agg (Ex e).toArray] h δ (CJ fun _ h' AW=>AW=δ/\Kp h h'/\∃g',RT b TB n0 x i hd T0 pf Bh p g' h'):=by
 refine CK (n:=36) ?_
 obtain⟨y,hy⟩:∃y,y=h.size:=⟨_,rfl⟩
 obtain⟨RQ,LV⟩:∃RQ,RQ=Ex e:=⟨_,rfl⟩
 have Pp:RQ.length=6:=by rw [LV];rfl
 rw [<-LV]at Ky⊢
 have wH:∀q,q<b.c.nT->¬blk (g.tv q)=some y:=fun q hq e=>by have:=(rt.mem.NQ q hq).lt e;omega
 refine AI ?_
 refine AH ?_
 refine DO ?_
 refine AE ?_
 refine F4 (fun h'=>Kp h h'/\RT b TB n0 x i hd T0 pf Bh (.emit e.p p) g h'/\h'[y]?=some (A9 RQ)) ⟨BA (AN.push _ _),rt.A5 (AN.push _ _),by rw [hy];exact AG _ _⟩ ?_
 rw [<-hy]
 clear rt hy
 rintro h1 ⟨W3,rt,gy⟩
 have cX:=rt.X
 have cT:AF h1 ⟨hd,1,none⟩=some (.int .i64 i):=AD rt.hd rfl
 have I:=rt.mem
 have c3:AF h1 ⟨b.Wd,3,none⟩=some (.slice (some ⟨TB,0,none⟩) b.c.nT b.c.nT):=AD I.row rfl
 have hi:=rt.lt
 have ct:AF h1 ⟨TB,0+i*1,none⟩=some (g.tv i):=AD I.out (by simp [hi])
 rcases rt.cases with⟨hf,hw,l,o,z⟩|⟨hf,ho⟩
 ·have oM:=rt.dG
  have ry:TJ.A0 h1 y 0 RQ:=C0 (by exact gy)
  have o9:Instr.fill (fun i=>some (i*6,6)) #[.int .i64 0,.int .i64 0,AK,.int .i64 0,.int .i64 0,AK] [(0,.agg RQ.toArray)]=some RQ.toArray:=by rw [LV];rfl
  repeat(first|refine AI ?_|refine AH ?_|refine AE ?_|refine AV ?_|refine Bc ?_|refine Az ?_|refine B9 ?_|refine BU ?_|refine Av rfl (by assumption) ?_)
  refine D7 (fun h'=>AF h' ⟨hd,1,none⟩=some (.int .i64 i)/\AF h' ⟨b.Wd,3,none⟩=some (.slice (some ⟨TB,0,none⟩) b.c.nT b.c.nT)/\AF h' ⟨TB,0+i*1,none⟩=some (g.tv i)/\TJ.A0 h' y 0 RQ) 22 ?_
  have hZ:_/\_/\_/\_:=And.intro cT ⟨c3,ct,ry⟩
  refine AU 0 hZ ?_
  refine BE 1 hZ ?_
  refine Ag 2 hZ ?_
  refine A8 3 (fun _ hz=>hz.2.1) hZ ?_
  refine AU 4 hZ ?_
  refine BE 5 hZ ?_
  refine Ag 6 hZ ?_
  refine A8 7 (fun _ hz=>hz.1) hZ ?_
  refine AU 8 hZ ?_
  refine BE 9 hZ ?_
  refine Ag 10 hZ ?_
  refine A8 11 (fun _ hz=>hz.2.1) hZ ?_
  refine AU 12 hZ ?_
  refine BE 13 hZ ?_
  refine Ag 14 hZ ?_
  refine A8 15 (fun _ hz=>hz.1) hZ ?_
  refine GP 16 hZ ?_
  refine A8 17 (fun _ hz=>hz.2.2.1) hZ ?_
  refine EP (vs:=RQ) 18 rfl (by kernel_rfl) rfl rfl rfl rfl Pp (fun _ hz=>hz.2.2.2) hZ ?_
  have up:=AN.push (T:=fun _=>False) h1 (A9 RQ)
  have Jt:=rt.A5 up
  have ae:_/\_/\_/\_:=And.intro (up.AF cT (fun x=>x)) ⟨up.AF c3 (fun x=>x),up.AF ct (fun x=>x),(fun(q:Nat) (v:Value) hv=>up.AF (ry q v hv) (fun x=>x):TJ.A0 (h1.push (A9 RQ)) y 0 RQ)⟩
  refine CQ (v:=.slice (some ⟨h1.size,0,none⟩) 1 1) (h':=h1.push (A9 RQ)) 19 rfl (by kernel_rfl) (fun ρ Q X Aa hq=>BW (sz:=6) (parts:=[(0,.agg RQ.toArray)]) Aa rfl (by omega) (by omega) rfl (by exact o9) hq) ae ?_
  refine F5 (new:=RQ) 20 rfl (by kernel_rfl) rfl rfl rfl rfl rfl (Jt.mem.NQ i hi) (AG _ _) Pp Ky (by omega) (by omega) rfl (fun _ _ _ x=>x) ?_
  intro s6 h4 PG u6 Tc
  have o1:=u6.get Jt.mem.out (Ac (Jt.mem.NQ i hi) Jt.mem.out (by decide) _ · rfl)
  have o2:=u6.get Jt.mem.row (Ac (Jt.mem.NQ i hi) Jt.mem.row (by decide) _ · rfl)
  have o3:=u6.get Jt.hd (Ac (Jt.mem.NQ i hi) Jt.hd (by decide) _ · rfl)
  have fH:_/\_/\_/\_:=And.intro (AD o3 rfl:AF h4 ⟨hd,1,none⟩=some (.int .i64 i)) ⟨(AD o2 rfl:AF h4 ⟨b.Wd,3,none⟩=some (.slice (some ⟨TB,0,none⟩) b.c.nT b.c.nT)),(AD o1 (by simp [hi]):AF h4 ⟨TB,0+i*1,none⟩=some (g.tv i)),(fun(q:Nat) (v:Value) hv=>u6.AF (ae.2.2.2 q v hv) (wH i hi):TJ.A0 h4 y 0 RQ)⟩
  refine⟨fH,?_⟩
  obtain⟨a4,k4,e4⟩:=PG.val
  refine CQ 21 rfl (by kernel_rfl) (fun ρ Q X Aa hq=>E4 (Aa _ _ rfl) (Aa _ _ rfl) (by omega) (by omega) hq) fH ?_
  refine D6 (h':=Af h4 ⟨TB,0+i*1,none⟩ s6) 22 rfl (by kernel_rfl) rfl rfl rfl (fun ρ Q X Aa hq=>BG (Aa _ _ rfl) (Aa _ _ rfl) (by rw [e4];exact⟨nofun,nofun⟩) ⟨_,fH.2.2.1⟩ (AS o1) (fun x=>x) hq) ?_
  refine BF ?_
  obtain⟨W0,Ri⟩:=Jt.qx Db (up.AF hf (fun x=>x)) he u6 (by rw [<-LV];exact PG) (fun z hz=>(Tc z hz).imp id fun e=>by rw [e];exact CY _)
  skip
  exact FQ (Eu rfl ⟨rfl,W3.trans ((BA up).trans Ri),_,W0⟩)
 ·have W0:RT b TB n0 x i hd T0 pf Bh p g h1:=rt.F6 ho
  clear ct
  repeat(first|refine AI ?_|refine AH ?_|refine AE ?_|refine Ar ?_|refine AV ?_|refine Bc ?_|refine Az ?_|refine B9 ?_|refine Am ?_|refine Av rfl (by assumption) ?_)
  exact FQ (Eu rfl ⟨rfl,W3,_,W0⟩)
end
end
section
section
variable{Γ:Type}{main:Bool}{S:Cp Γ}{δ:Ix Γ}{b:RW}{TB n0 x i hd:Nat}{T0:TL}{pf:Pr It}{Bh:WR}{p:PA}{g:RG}{h h':Hp}{l l':List Ev}{o:List It}{id:Nat}
theorem Ub{a kd n:Int}(gh:h[hd]?=some (PR x i)):AY Tryz.prog main S 136 #[ptr hd,.int .i64 a,.int .i64 kd,.int .i64 n] h δ (CJ (Gb (.int .i64 (if 0<=a/\a<n then a else -1)) h δ)):=by
 have c3:AF h ⟨hd,3,none⟩=some AK:=AD gh rfl
 refine CK (n:=53) ?_
 by_cases h1:0<=a
 ·by_cases h2:a<n
  ·rw [if_pos ⟨h1,h2⟩]
   repeat(first|refine AI ?_|refine AH ?_|refine AE ?_|refine AV ?_|refine Aq ?_|refine Bl ?_|refine Bs ?_|refine BU ?_|refine AQ ?_)
   exact DQ El
  ·rw [if_neg fun z=>h2 z.2]
   repeat(first|refine AI ?_|refine AH ?_|refine AE ?_|refine Ar ?_|refine AV ?_|refine Aq ?_|refine CW ?_|refine Bl ?_|refine Bd ?_|refine Bs ?_|refine Bg ?_|refine Am ?_|refine AQ ?_)
   exact DQ El
 ·rw [if_neg fun z=>h1 z.1]
  repeat(first|refine AI ?_|refine AH ?_|refine AE ?_|refine Ar ?_|refine AV ?_|refine Aq ?_|refine Bc ?_|refine Az ?_|refine Df ?_|refine CW ?_|refine Bd ?_|refine Bs ?_|refine Bg ?_|refine BN ?_|refine Am ?_)
  refine tC (kd:=.i64) (r:=0) rfl rfl rfl (by rfl) ?_
  repeat(first|refine AI ?_|refine AH ?_|refine AE ?_|refine Ar ?_|refine AV ?_|refine Aq ?_|refine CW ?_|refine Bl ?_|refine Bd ?_|refine Bg ?_|refine Am ?_|refine AQ ?_)
  exact DQ El
theorem RT.jh(ok:b.Ok)(Db:PF b.R i pf){c:Prop}[Decidable c](r:RT b TB n0 x i hd T0 pf Bh (if c then p else stuck) g h):RT b TB n0 x i hd T0 pf Bh p g h/\(AF h ⟨x,2,none⟩=some (.bool false)->c):=by
 obtain⟨h1,h2⟩:=r.grd ok Db
 refine⟨h1,fun hf=>h2.elim id fun⟨_,z,_⟩=>?_⟩
 obtain⟨t,q1,q2,q3⟩:=z.at_
 have q4:AF h ⟨x,2,none⟩=some (.bool true):=AD q2 rfl
 rw [hf]at q4
 cases q4
theorem G2(ok:b.Ok)(CI:id<b.c.nC){j:Nat}(hj:j<34):b.nm (b.c.blk (cc id j))=G9 id j:=by
 rw [OM (F0 CI ok.c.nC) hj];exact ok.nmC id j CI hj
theorem WY(ok:b.Ok)(Db:PF b.R i pf){s r:Int}{k:Bool->PA}(rt:RT b TB n0 x i hd T0 pf Bh (FD id s r k) g h)(CI:id<b.c.nC):
  AY Tryz.prog main (Fb (Γ:=Γ)) 144 #[ptr b.Wd,ptr hd,.int .i64 (id:Int),.int .i64 s,.int .i64 r] h δ (CJ fun v h' AW=>AW=δ/\Kp h h'/\∃q:Bool,v= .bool q/\RT b TB n0 x i hd T0 pf Bh (k q) g h'):=by
 have XY:=ok.c.nC
 refine CK (n:=39) ?_
 have bQ:0<=r->r.tmod 4=r % 4:=HG
 unfold FD at rt
 by_cases h1:s<0
 ·rw [if_neg (by omega)]at rt
  repeat(first|refine AI ?_|refine AH ?_|refine AE ?_|refine AV ?_|refine Aq ?_|refine CW ?_|refine Bl ?_|refine Bs ?_|refine BU ?_|refine AQ ?_)
  exact CL rfl ⟨rfl,Kp.refl _,_,rfl,rt⟩
 by_cases h2:16<=s
 ·rw [if_neg (by omega)]at rt
  repeat(first|refine AI ?_|refine AH ?_|refine AE ?_|refine AV ?_|refine Aq ?_|refine CW ?_|refine Bl ?_|refine Bd ?_|refine Bs ?_|refine Bg ?_|refine BU ?_|refine AQ ?_)
  exact CL rfl ⟨rfl,Kp.refl _,_,rfl,rt⟩
 by_cases h3:r<0
 ·rw [if_neg (by omega)]at rt
  repeat(first|refine AI ?_|refine AH ?_|refine AE ?_|refine AV ?_|refine Aq ?_|refine CW ?_|refine Bl ?_|refine Bd ?_|refine Bs ?_|refine Bg ?_|refine BU ?_|refine AQ ?_)
  exact CL rfl ⟨rfl,Kp.refl _,_,rfl,rt⟩
 have To:=bQ (by omega)
 clear bQ
 by_cases h4:r.tmod 4=2
 case neg=>
  rw [if_neg (by omega)]at rt
  clear To
  repeat(first|refine AI ?_|refine AH ?_|refine AE ?_|refine AV ?_|refine Aq ?_|refine Bd ?_|refine Bs ?_|refine Bg ?_|refine JN (kd:=.i64) ?_|refine BU ?_|refine AQ ?_)
  exact CL rfl ⟨rfl,Kp.refl _,_,rfl,rt⟩
 rw [if_pos (by omega)]at rt
 clear To
 obtain⟨j,rfl⟩:∃j:Nat,s=j:=⟨s.toNat,by omega⟩
 change RT b TB n0 x i hd T0 pf Bh (.step ⟨3,cc id (2+2*j),r,IntKind.i64.wrap (r+2)⟩ fun w=>k (decide (w=r))) g h at rt
 have cX:=rt.X
 repeat(first|refine AI ?_|refine AH ?_|refine AE ?_|refine Ar ?_|refine AV ?_|refine Aq ?_|refine Bd ?_|refine Bg ?_|refine JN (kd:=.i64) ?_|refine Am ?_)
 refine BO (fun h'=>AF h' ⟨hd,0,none⟩=some (ptr x)) ?_
 have hZ:=cX
 refine AU 0 hZ ?_
 refine BE 1 hZ ?_
 refine Ag 2 hZ ?_
 refine A8 3 (fun _ hz=>hz) hZ ?_
 refine AU 4 hZ ?_
 refine AU 5 hZ ?_
 refine Hv (kd:=.i64) 6 rfl (by kernel_rfl) rfl rfl rfl rfl rfl (i64_in (by omega) (by omega)) hZ ?_
 refine EW (kd:=.i64) 7 rfl (by kernel_rfl) rfl rfl rfl rfl rfl (i64_in (by omega) (by omega)) hZ ?_
 refine AU 9 hZ ?_
 refine AU 10 hZ ?_
 (first|refine EW (kd:=.i64) 11 rfl (by kernel_rfl) rfl rfl rfl rfl rfl rfl hZ ?_|refine Kd (kd:=.i64) 11 rfl (by kernel_rfl) rfl rfl rfl rfl rfl rfl hZ ?_)
 refine Bj 8 rfl (by kernel_rfl) rfl rfl rfl rfl rfl rfl (DX ⟨by omega,by omega⟩ ⟨by omega,by omega⟩ (fun _ x=>x)) ?_
 rintro _ h8 Qh ⟨rfl,rfl,u8⟩
 have iL:=rt.A5 u8
 refine⟨iL.X,?_⟩
 have hZ:=iL.X
 refine Bj 12 rfl (by kernel_rfl) rfl rfl rfl rfl rfl rfl (bz ok Db iL (by rw [G2 ok CI (by omega)];unfold G9;congr 1 <;> omega)) ?_
 rintro _ h9 Vp ⟨rfl,Mx,hc⟩
 have kp:=(BA u8).trans Mx
 rcases hc with⟨rfl,Pn,-⟩|⟨rfl,z,hz,Pn⟩
 ·rw [H9 rfl]at Pn
  refine⟨Pn.X,?_⟩
  have hZ:=Pn.X
  refine CQ 13 rfl (by kernel_rfl) (fun ρ Q X Aa hq=>Ee (Aa _ _ rfl) hq) hZ ?_
  refine BF ?_
  (repeat refine AQ ?_)
  exact CL rfl ⟨rfl,kp,_,rfl,Pn⟩
 ·rw [Gj hz]at Pn
  refine⟨Pn.X,?_⟩
  have hZ:=Pn.X
  refine CQ 13 rfl (by kernel_rfl) (fun ρ Q X Aa hq=>Ee (Aa _ _ rfl) hq) hZ ?_
  refine BF ?_
  (repeat refine AQ ?_)
  exact CL rfl ⟨rfl,kp,_,rfl,Pn⟩
end
end
section
abbrev cE(s:Int):Obj:=.cells (Kw s).toArray 127 (0,0)
theorem Q1:¬Tj 127:=by unfold Tj;decide
theorem ZX{id:Nat}{due:Int}{s:Nat}{k:Int->Int->Int->PA}:KP id due s k (16-16)=k 0 0 12:=rfl
theorem sN(c j r s:Int):Instr.fill (fun i=>[(0,1),(1,1),(2,1),(3,8),(11,1),(12,4)].toArray[i]?) EE.toArray [(0,.int .i64 c),(1,.int .i64 j),(2,.int .i64 r),(3,.agg #[.int .i64 3,.int .i64 0,.int .i64 s,.int .i64 0,.int .i64 0,.int .i64 0,.int .i64 0,AK])]=some #[.int .i64 c,.int .i64 j,.int .i64 r,.int .i64 3,.int .i64 0,.int .i64 s,.int .i64 0,.int .i64 0,.int .i64 0,.int .i64 0,AK,.int .i64 0,.int .i64 0,.int .i64 0,.int .i64 0,AK]:=by kernel_rfl
section
variable{Γ:Type}{main:Bool}{S:Cp Γ}{δ:Ix Γ}{b:RW}{TB n0 x i hd:Nat}{T0:TL}{pf:Pr It}{Bh:WR}{p:PA}{g:RG}{h h':Hp}{l l':List Ev}{o:List It}{id:Nat}
theorem Zb(ok:b.Ok)(Db:PF b.R i pf){due:Int}{s:Nat}{k:Int->Int->Int->PA}(rt:RT b TB n0 x i hd T0 pf Bh (KP id due s k 16) g h)(CI:id<b.c.nC):
  AY Tryz.prog main (Fb (Γ:=Γ)) 141 #[ptr b.Wd,ptr hd,.int .i64 (id:Int),.int .i64 due,.agg (Kw (s:Int)).toArray] h δ (CJ fun v h' AW=>AW=δ/\Kp h h'/\∃(g':RG) (a r e:Int),v= .tuple #[.int .i64 a,.int .i64 r,.int .i64 e]/\RT b TB n0 x i hd T0 pf Bh (k a r e) g' h'):=by
 have XY:=ok.c.nC
 refine CK (n:=100) ?_
 obtain⟨y,hy⟩:∃y,y=h.size:=⟨_,rfl⟩
 refine AI ?_
 refine AH ?_
 refine DO ?_
 refine A6 (fun h'=>Kp h h'/\RT b TB n0 x i hd T0 pf Bh (KP id due s k 16) g h'/\h'[y]?=some (cE s)) ⟨BA (AN.push _ _),rt.A5 (AN.push _ _),by rw [hy];exact AG _ _⟩ ?_
 rw [<-hy]
 clear rt hy
 rintro h1 ⟨kp,rt,gy⟩
 repeat(first|refine AI ?_|refine AH ?_|refine AE ?_|refine Ak ?_|refine Aq ?_)
 refine B1 (fun q:Nat×RG=>[(13,.int .i64 q.1),(0,ptr b.Wd),(1,ptr hd),(2,.int .i64 (id:Int)),(3,.int .i64 due),(9,ptr y)]) (fun q h' AW=>AW=δ/\q.1<=16/\Kp h h'/\RT b TB n0 x i hd T0 pf Bh (KP id due s k (16-q.1)) q.2 h'/\h'[y]?=some (cE s)) (fun q=>16-q.1) (0,g) ⟨rfl,rfl,rfl,rfl,rfl,rfl,trivial⟩ ⟨rfl,Bv _,kp,rt,gy⟩ ?_
 clear rt kp gy
 rintro⟨q,g1⟩ h2 FJ ⟨DL,hq,kp,rt,gy⟩ again
 dsimp only at DL hq kp rt again⊢
 subst DL
 have cX:=rt.X
 by_cases Eh:q=16
 ·subst Eh
  rw [ZX]at rt
  repeat(first|refine AI ?_|refine AH ?_|refine AE ?_|refine AV ?_|refine Aq ?_|refine CW ?_|refine Bd ?_|refine Bg ?_|refine Am ?_|refine AQ ?_|refine B8 ?_)
  exact SK rfl rfl rfl rfl ⟨rfl,kp,g1,0,0,12,rfl,rt⟩
 have Nn:q<16:=by omega
 rcases rt.cases.symm with⟨hf,ho⟩|⟨hf,-⟩
 ·replace rt:RT b TB n0 x i hd T0 pf Bh (k 0 0 12) g1 h2:=rt.F6 ho
  repeat(first|refine AI ?_|refine AH ?_|refine AE ?_|refine AV ?_|refine Aq ?_|refine Bc ?_|refine Az ?_|refine B9 ?_|refine Bl ?_|refine Bs ?_|refine Am ?_|refine AQ ?_|refine B8 ?_|refine Av rfl (by assumption) ?_)
  exact SK rfl rfl rfl rfl ⟨rfl,kp,g1,0,0,12,rfl,rt⟩
 rw [VW Nn]at rt
 repeat(first|refine AI ?_|refine AH ?_|refine AE ?_|refine Ar ?_|refine Ak ?_|refine AV ?_|refine Bc ?_|refine Az ?_|refine B9 ?_|refine Bl ?_|refine Bs ?_|refine BU ?_|refine Av rfl (by assumption) ?_)
 refine BO (fun h'=>AF h' ⟨hd,0,none⟩=some (ptr x)) ?_
 have hZ:=cX
 refine AU 0 hZ ?_
 refine BE 1 hZ ?_
 refine Ag 2 hZ ?_
 refine A8 3 (fun _ hz=>hz) hZ ?_
 refine AU 4 hZ ?_
 refine AU 5 hZ ?_
 refine Hv (kd:=.i64) 6 rfl (by kernel_rfl) rfl rfl rfl rfl rfl (i64_in (by omega) (by omega)) hZ ?_
 refine EW (kd:=.i64) 7 rfl (by kernel_rfl) rfl rfl rfl rfl rfl (i64_in (by omega) (by omega)) hZ ?_
 refine Bj 8 rfl (by kernel_rfl) rfl rfl rfl rfl rfl rfl (DX ⟨by omega,by omega⟩ ⟨by omega,by omega⟩ (fun _ x=>x)) ?_
 rintro _ h8 Qh ⟨rfl,rfl,u8⟩
 replace kp:=kp.trans (BA u8)
 replace rt:=rt.A5 u8
 replace gy:=u8.get gy (fun x=>x)
 clear u8
 refine⟨rt.X,?_⟩
 have hZ:=rt.X
 refine Bj 9 rfl (by kernel_rfl) rfl rfl rfl rfl rfl rfl (SF ok Db rt (by rw [G2 ok CI (by omega)];unfold G9;congr 1 <;> omega)) ?_
 rintro _ h9 Vp ⟨rfl,Mx,z,rfl,Pn,-⟩
 replace kp:=kp.trans Mx
 replace gy:=Mx.2 _ _ _ gy Q1
 obtain⟨rt,hc⟩:=Pn.jh ok Db
 clear Pn hZ hf
 refine⟨rt.X,?_⟩
 have hZ:=rt.X
 refine Dp 10 hZ ?_
 refine BF ?_
 have cX:=rt.X
 rcases rt.cases.symm with⟨hf,ho⟩|⟨hf,-⟩
 ·replace rt:=rt.F6 (p':=KP id due s k (16-(q+1))) ho
  clear hc
  repeat(first|refine AI ?_|refine AH ?_|refine AE ?_|refine AV ?_|refine Aq ?_|refine Bc ?_|refine Az ?_|refine CW ?_|refine Bl ?_|refine BR (kd:=.i64) rfl (i64_in (by omega) (by omega)) ?_|refine BU ?_|refine B8 ?_|refine Av rfl (by assumption) ?_)
  exact Ah (again (q+1,g1) _ _ (by show 16-(q+1)<16-q;omega) ⟨rfl,by show q+1<=16;omega,kp,rt,gy⟩) ⟨rfl,rfl,rfl,rfl,rfl,rfl,trivial⟩
 have Dn:=hc hf
 have bQ:=HG Dn.1
 clear hc
 by_cases hm:z.tmod 4=0
 case neg=>
  rw [if_neg (by omega)]at rt
  repeat(first|refine AI ?_|refine AH ?_|refine AE ?_|refine AV ?_|refine Aq ?_|refine Bc ?_|refine Az ?_|refine Bd ?_|refine Bs ?_|refine BR (kd:=.i64) rfl (i64_in (by omega) (by omega)) ?_|refine JN (kd:=.i64) ?_|refine BU ?_|refine B8 ?_|refine Av rfl (by assumption) ?_)
  exact Ah (again (q+1,g1) _ _ (by show 16-(q+1)<16-q;omega) ⟨rfl,by show q+1<=16;omega,kp,rt,gy⟩) ⟨rfl,rfl,rfl,rfl,rfl,rfl,trivial⟩
 rw [if_pos (by omega)]at rt
 repeat(first|refine AI ?_|refine AH ?_|refine AE ?_|refine Ar ?_|refine AV ?_|refine Bc ?_|refine Az ?_|refine Bd ?_|refine Bg ?_|refine JN (kd:=.i64) ?_|refine Am ?_|refine Av rfl (by assumption) ?_)
 refine BO (fun h'=>AF h' ⟨hd,0,none⟩=some (ptr x)) ?_
 have hZ:=cX
 refine AU 0 hZ ?_
 refine BE 1 hZ ?_
 refine Ag 2 hZ ?_
 refine A8 3 (fun _ hz=>hz) hZ ?_
 refine AU 4 hZ ?_
 refine AU 5 hZ ?_
 refine Hv (kd:=.i64) 6 rfl (by kernel_rfl) rfl rfl rfl rfl rfl (i64_in (by omega) (by omega)) hZ ?_
 refine EW (kd:=.i64) 7 rfl (by kernel_rfl) rfl rfl rfl rfl rfl (i64_in (by omega) (by omega)) hZ ?_
 refine AU 9 hZ ?_
 refine AU 10 hZ ?_
 refine EW (kd:=.i64) 11 rfl (by kernel_rfl) rfl rfl rfl rfl rfl (i64_in (by omega) (by omega)) hZ ?_
 refine Bj 8 rfl (by kernel_rfl) rfl rfl rfl rfl rfl rfl (DX ⟨by omega,by omega⟩ ⟨by omega,by omega⟩ (fun _ x=>x)) ?_
 rintro _ h8 Qh ⟨rfl,rfl,u8⟩
 replace kp:=kp.trans (BA u8)
 replace rt:=rt.A5 u8
 replace gy:=u8.get gy (fun x=>x)
 clear u8
 refine⟨rt.X,?_⟩
 have hZ:=rt.X
 refine Bj 12 rfl (by kernel_rfl) rfl rfl rfl rfl rfl rfl (bz ok Db rt (by rw [G2 ok CI (by omega)];unfold G9;congr 1 <;> omega)) ?_
 rintro _ h9 Vp ⟨rfl,Mx,Ea⟩
 replace kp:=kp.trans Mx
 replace gy:=Mx.2 _ _ _ gy Q1
 clear hZ cX hf rt
 rcases Ea.symm with⟨rfl,w,hw,rt⟩|⟨rfl,rt,hf⟩
 ·rw [if_neg hw]at rt
  refine⟨rt.X,?_⟩
  have hZ:=rt.X
  refine KN 13 hZ ?_
  refine BF ?_
  repeat(first|refine AH ?_|refine AE ?_|refine AV ?_|refine Aq ?_|refine BR (kd:=.i64) rfl (i64_in (by omega) (by omega)) ?_|refine BU ?_|refine B8 ?_)
  exact Ah (again (q+1,g1) _ _ (by show 16-(q+1)<16-q;omega) ⟨rfl,by show q+1<=16;omega,kp,rt,gy⟩) ⟨rfl,rfl,rfl,rfl,rfl,rfl,trivial⟩
 rw [if_pos rfl]at rt
 refine⟨rt.X,?_⟩
 have hZ:=rt.X
 refine KN 13 hZ ?_
 refine BF ?_
 clear hZ
 have hw2:IntKind.i64.wrap (z+2)=z+2:=i64_in (by omega) (by omega)
 have ry:TJ.A0 h9 y 0 (Kw (s:Int)):=C0 (by exact gy)
 repeat(first|refine AI ?_|refine Ar ?_|refine Am ?_)
 refine BO (fun h'=>TJ.A0 h' y 0 (Kw (s:Int))) ?_
 have hZ:=ry
 refine AU 0 hZ ?_
 refine AU 1 hZ ?_
 refine AU 3 hZ ?_
 refine AU 4 hZ ?_
 refine EW (kd:=.i64) 5 rfl (by kernel_rfl) rfl rfl rfl rfl rfl (i64_in (by omega) (by omega)) hZ ?_
 refine EP (vs:=Kw (s:Int)) 6 rfl (by kernel_rfl) rfl rfl rfl rfl rfl (fun _ hz=>hz) hZ ?_
 refine FE 2 rfl (by kernel_rfl) rfl rfl rfl rfl rfl rfl (VX ⟨by omega,by omega⟩) hZ ?_
 refine CQ (v:=.agg (E0 ((id,q,z+2),s)).toArray) (h':=h9) 7 rfl (by kernel_rfl) (fun ρ Q X Aa hq=>De (parts:=[(0,.int .i64 (2000000+(id:Int))),(1,.int .i64 (q:Int)),(2,.int .i64 (z+2)),(3,.agg (Kw (s:Int)).toArray)]) Aa rfl (by exact sN _ _ _ _) hq) hZ ?_
 refine Bj 8 rfl (by kernel_rfl) rfl rfl rfl rfl rfl rfl (Zf ok Db rt hf) ?_
 rintro _ Gq Xn ⟨rfl,Qr,g2,rt⟩
 replace kp:=kp.trans Qr
 replace gy:=Qr.2 _ _ _ gy Q1
 refine⟨C0 (by exact gy),?_⟩
 refine BF ?_
 clear hZ ry hf
 have cX:=rt.X
 (repeat refine AI ?_)
 refine BO (fun h'=>AF h' ⟨hd,0,none⟩=some (ptr x)) ?_
 have hZ:=cX
 refine AU 0 hZ ?_
 refine BE 1 hZ ?_
 refine Ag 2 hZ ?_
 refine A8 3 (fun _ hz=>hz) hZ ?_
 refine AU 4 hZ ?_
 refine AU 5 hZ ?_
 refine Hv (kd:=.i64) 6 rfl (by kernel_rfl) rfl rfl rfl rfl rfl (i64_in (by omega) (by omega)) hZ ?_
 refine EW (kd:=.i64) 7 rfl (by kernel_rfl) rfl rfl rfl rfl rfl (i64_in (by omega) (by omega)) hZ ?_
 refine AU 9 hZ ?_
 refine Bj 8 rfl (by kernel_rfl) rfl rfl rfl rfl rfl rfl (DX ⟨by omega,by omega⟩ ⟨by omega,by omega⟩ (fun _ x=>x)) ?_
 rintro _ h8 Qh ⟨rfl,rfl,u8⟩
 replace kp:=kp.trans (BA u8)
 replace rt:=rt.A5 u8
 replace gy:=u8.get gy (fun x=>x)
 clear u8
 refine⟨rt.X,?_⟩
 have hZ:=rt.X
 refine Bj 10 rfl (by kernel_rfl) rfl rfl rfl rfl rfl rfl (K2 ok Db rt (by rw [G2 ok CI (by omega)];unfold G9;congr 1 <;> omega)) ?_
 rintro _ NC Tl ⟨rfl,MF,rt⟩
 replace kp:=kp.trans MF
 replace gy:=MF.2 _ _ _ gy Q1
 refine⟨rt.X,?_⟩
 refine BF ?_
 clear hZ cX
 have cX:=rt.X
 (repeat refine AI ?_)
 refine BO (fun h'=>AF h' ⟨hd,0,none⟩=some (ptr x)) ?_
 have hZ:=cX
 refine AU 0 hZ ?_
 refine BE 1 hZ ?_
 refine Ag 2 hZ ?_
 refine A8 3 (fun _ hz=>hz) hZ ?_
 refine AU 4 hZ ?_
 refine AU 5 hZ ?_
 refine Hv (kd:=.i64) 6 rfl (by kernel_rfl) rfl rfl rfl rfl rfl (i64_in (by omega) (by omega)) hZ ?_
 refine EW (kd:=.i64) 7 rfl (by kernel_rfl) rfl rfl rfl rfl rfl (i64_in (by omega) (by omega)) hZ ?_
 refine AU 9 hZ ?_
 refine EW (kd:=.i64) 10 rfl (by kernel_rfl) rfl rfl rfl rfl rfl (i64_in (by omega) (by omega)) hZ ?_
 refine Bj 8 rfl (by kernel_rfl) rfl rfl rfl rfl rfl rfl (DX ⟨by omega,by omega⟩ ⟨by omega,by omega⟩ (fun _ x=>x)) ?_
 rintro _ h8 Qh ⟨rfl,rfl,u8⟩
 replace kp:=kp.trans (BA u8)
 replace rt:=rt.A5 u8
 replace gy:=u8.get gy (fun x=>x)
 clear u8
 refine⟨rt.X,?_⟩
 have hZ:=rt.X
 refine Bj 11 rfl (by kernel_rfl) rfl rfl rfl rfl rfl rfl (K2 ok Db rt (by rw [G2 ok CI (by omega)];unfold G9;congr 1 <;> omega)) ?_
 rintro _ Rx pY ⟨rfl,Xt,rt⟩
 replace kp:=kp.trans Xt
 refine⟨rt.X,?_⟩
 refine BF ?_
 clear hZ cX
 repeat(first|refine AI ?_|refine AH ?_|refine AE ?_|refine AV ?_|refine Aq ?_|refine BR (kd:=.i64) rfl (i64_in (by omega) (by omega)) ?_|refine AQ ?_)
 exact SK rfl rfl rfl rfl ⟨rfl,kp,g2,q,z+2,0,rfl,rt⟩
end
end
section
def mW:Option (Nat×Int×Int)->Int
 | none=>-1
 | some q=>q.1
def vj:Option (Nat×Int×Int)->Int
 | none=>0
 | some q=>q.2.1
def obL:Option (Nat×Int×Int)->Int
 | none=>0
 | some q=>q.2.2
def nq(o:Option (Nat×Int×Int)):Option (Nat×Int):=o.map fun q=>(q.1,q.2.1)
theorem Wh{c:Nat}{now:Int}{k:Option (Nat×Int)->PA}{b:Option (Nat×Int×Int)}:GM c now k (16-16) b=k (nq b):=rfl
section
variable{Γ:Type}{main:Bool}{S:Cp Γ}{δ:Ix Γ}{b:RW}{TB n0 x i hd:Nat}{T0:TL}{pf:Pr It}{Bh:WR}{p:PA}{g:RG}{h h':Hp}{l l':List Ev}{o:List It}{id:Nat}
def j5(ob:Option (Nat×Int×Int)):Prop:=∀q,ob=some q->q.1<16/\T4 q.2.1/\q.2.1 % 4=2
theorem Zc(ok:b.Ok)(Db:PF b.R i pf){now:Int}{k:Option (Nat×Int)->PA}(rt:RT b TB n0 x i hd T0 pf Bh (GM id now k 16 none) g h)(CI:id<b.c.nC):
  AY Tryz.prog main (Fb (Γ:=Γ)) 193 #[ptr b.Wd,ptr hd,.int .i64 (id:Int),.int .i64 now] h δ (CJ fun v h' AW=>AW=δ/\Kp h h'/\∃ob:Option (Nat×Int×Int),v= .tuple #[.int .i64 (mW ob),.int .i64 (vj ob)]/\j5 ob/\RT b TB n0 x i hd T0 pf Bh (k (nq ob)) g h'):=by
 have XY:=ok.c.nC
 refine CK (n:=89) ?_
 have kp:=Kp.refl h
 repeat(first|refine AI ?_|refine AH ?_|refine AE ?_|refine Ak ?_|refine Aq ?_)
 refine B1 (fun q:Nat×Option (Nat×Int×Int)=>[(13,.int .i64 q.1),(0,ptr b.Wd),(1,ptr hd),(2,.int .i64 (id:Int)),(3,.int .i64 now),(10,.int .i64 (mW q.2)),(11,.int .i64 (vj q.2)),(12,.int .i64 (obL q.2))]) (fun q h' AW=>AW=δ/\q.1<=16/\Kp h h'/\RT b TB n0 x i hd T0 pf Bh (GM id now k (16-q.1) q.2) g h'/\j5 q.2) (fun q=>16-q.1) (0,none) ⟨rfl,rfl,rfl,rfl,rfl,rfl,rfl,rfl,trivial⟩ ⟨rfl,Bv _,kp,rt,fun q hq=>by cases hq⟩ ?_
 clear rt kp
 rintro⟨q,ob⟩ h2 FJ ⟨DL,hq,kp,rt,PJ⟩ again
 dsimp only at DL hq kp rt PJ again⊢
 subst DL
 have cX:=rt.X
 by_cases Eh:q=16
 ·subst Eh
  rw [Wh]at rt
  repeat(first|refine AI ?_|refine AH ?_|refine AE ?_|refine AV ?_|refine Aq ?_|refine CW ?_|refine Bd ?_|refine Bg ?_|refine Am ?_|refine AQ ?_|refine B8 ?_)
  exact EL rfl rfl rfl ⟨rfl,kp,ob,rfl,PJ,rt⟩
 have Nn:q<16:=by omega
 rcases rt.cases.symm with⟨hf,ho⟩|⟨hf,-⟩
 ·replace rt:RT b TB n0 x i hd T0 pf Bh (k (nq ob)) g h2:=rt.F6 ho
  repeat(first|refine AI ?_|refine AH ?_|refine AE ?_|refine AV ?_|refine Aq ?_|refine Bc ?_|refine Az ?_|refine B9 ?_|refine Bl ?_|refine Bs ?_|refine Am ?_|refine AQ ?_|refine B8 ?_|refine Av rfl (by assumption) ?_)
  exact EL rfl rfl rfl ⟨rfl,kp,ob,rfl,PJ,rt⟩
 rw [Su Nn]at rt
 repeat(first|refine AI ?_|refine AH ?_|refine AE ?_|refine Ar ?_|refine Ak ?_|refine AV ?_|refine Bc ?_|refine Az ?_|refine B9 ?_|refine Bl ?_|refine Bs ?_|refine BU ?_|refine Av rfl (by assumption) ?_)
 refine BO (fun h'=>AF h' ⟨hd,0,none⟩=some (ptr x)) ?_
 have hZ:=cX
 refine AU 0 hZ ?_
 refine BE 1 hZ ?_
 refine Ag 2 hZ ?_
 refine A8 3 (fun _ hz=>hz) hZ ?_
 refine AU 4 hZ ?_
 refine AU 5 hZ ?_
 refine Hv (kd:=.i64) 6 rfl (by kernel_rfl) rfl rfl rfl rfl rfl (i64_in (by omega) (by omega)) hZ ?_
 refine EW (kd:=.i64) 7 rfl (by kernel_rfl) rfl rfl rfl rfl rfl (i64_in (by omega) (by omega)) hZ ?_
 refine Bj 8 rfl (by kernel_rfl) rfl rfl rfl rfl rfl rfl (DX ⟨by omega,by omega⟩ ⟨by omega,by omega⟩ (fun _ x=>x)) ?_
 rintro _ h8 Qh ⟨rfl,rfl,u8⟩
 replace kp:=kp.trans (BA u8)
 replace rt:=rt.A5 u8
 clear u8
 refine⟨rt.X,?_⟩
 have hZ:=rt.X
 refine Bj 9 rfl (by kernel_rfl) rfl rfl rfl rfl rfl rfl (SF ok Db rt (by rw [G2 ok CI (by omega)];unfold G9;congr 1 <;> omega)) ?_
 rintro _ h9 Vp ⟨rfl,Mx,z,rfl,Pn,-⟩
 replace kp:=kp.trans Mx
 obtain⟨rt,hc⟩:=Pn.jh ok Db
 clear Pn hZ hf
 refine⟨rt.X,?_⟩
 have hZ:=rt.X
 refine Dp 10 hZ ?_
 refine BF ?_
 have cX:=rt.X
 rcases rt.cases.symm with⟨hf,ho⟩|⟨hf,-⟩
 ·replace rt:=rt.F6 (p':=GM id now k (16-(q+1)) ob) ho
  clear hc
  repeat(first|refine AI ?_|refine AH ?_|refine AE ?_|refine AV ?_|refine Aq ?_|refine Bc ?_|refine Az ?_|refine CW ?_|refine Bl ?_|refine BR (kd:=.i64) rfl (i64_in (by omega) (by omega)) ?_|refine BU ?_|refine B8 ?_|refine Av rfl (by assumption) ?_)
  exact Ah (again (q+1,ob) _ _ (by show 16-(q+1)<16-q;omega) ⟨rfl,by show q+1<=16;omega,kp,rt,PJ⟩) ⟨rfl,rfl,rfl,rfl,rfl,rfl,rfl,rfl,trivial⟩
 have Dn:=hc hf
 have bQ:=HG Dn.1
 clear hc
 by_cases hm:z.tmod 4=2
 case neg=>
  rw [if_neg (by omega)]at rt
  repeat(first|refine AI ?_|refine AH ?_|refine AE ?_|refine AV ?_|refine Aq ?_|refine Bc ?_|refine Az ?_|refine Bd ?_|refine Bs ?_|refine BR (kd:=.i64) rfl (i64_in (by omega) (by omega)) ?_|refine JN (kd:=.i64) ?_|refine BU ?_|refine B8 ?_|refine Av rfl (by assumption) ?_)
  exact Ah (again (q+1,ob) _ _ (by show 16-(q+1)<16-q;omega) ⟨rfl,by show q+1<=16;omega,kp,rt,PJ⟩) ⟨rfl,rfl,rfl,rfl,rfl,rfl,rfl,rfl,trivial⟩
 rw [if_pos (by omega)]at rt
 repeat(first|refine AI ?_|refine AH ?_|refine AE ?_|refine Ar ?_|refine AV ?_|refine Bc ?_|refine Az ?_|refine Bd ?_|refine Bg ?_|refine JN (kd:=.i64) ?_|refine Am ?_|refine Av rfl (by assumption) ?_)
 refine BO (fun h'=>AF h' ⟨hd,0,none⟩=some (ptr x)) ?_
 have hZ:=cX
 refine AU 0 hZ ?_
 refine BE 1 hZ ?_
 refine Ag 2 hZ ?_
 refine A8 3 (fun _ hz=>hz) hZ ?_
 refine AU 4 hZ ?_
 refine AU 5 hZ ?_
 refine Hv (kd:=.i64) 6 rfl (by kernel_rfl) rfl rfl rfl rfl rfl (i64_in (by omega) (by omega)) hZ ?_
 refine EW (kd:=.i64) 7 rfl (by kernel_rfl) rfl rfl rfl rfl rfl (i64_in (by omega) (by omega)) hZ ?_
 refine Bj 8 rfl (by kernel_rfl) rfl rfl rfl rfl rfl rfl (DX ⟨by omega,by omega⟩ ⟨by omega,by omega⟩ (fun _ x=>x)) ?_
 rintro _ h8 Qh ⟨rfl,rfl,u8⟩
 replace kp:=kp.trans (BA u8)
 replace rt:=rt.A5 u8
 clear u8
 refine⟨rt.X,?_⟩
 have hZ:=rt.X
 refine Bj 9 rfl (by kernel_rfl) rfl rfl rfl rfl rfl rfl (SF ok Db rt (by rw [G2 ok CI (by omega)];unfold G9;congr 1 <;> omega)) ?_
 rintro _ Gq Xn ⟨rfl,Qr,v,rfl,rt,-⟩
 replace kp:=kp.trans Qr
 clear hZ hf cX
 refine⟨rt.X,?_⟩
 have hZ:=rt.X
 refine Dp 10 hZ ?_
 refine BF ?_
 have cX:=rt.X
 rcases rt.cases.symm with⟨hf,ho⟩|⟨hf,-⟩
 ·replace rt:=rt.F6 (p':=GM id now k (16-(q+1)) ob) ho
  repeat(first|refine AI ?_|refine AH ?_|refine AE ?_|refine Ar ?_|refine Bb ?_|refine AV ?_|refine Aq ?_|refine Bc ?_|refine Az ?_|refine CW ?_|refine B9 ?_|refine Bd ?_|refine BR (kd:=.i64) rfl (i64_in (by omega) (by omega)) ?_|refine Am ?_|refine Av rfl (by assumption) ?_)
  exact Ah (again (q+1,ob) _ _ (by show 16-(q+1)<16-q;omega) ⟨rfl,by show q+1<=16;omega,kp,rt,PJ⟩) ⟨rfl,rfl,rfl,rfl,rfl,rfl,rfl,rfl,trivial⟩
 have Gu:j5 (some (q,z,v)):=fun y hy=>by cases hy;exact⟨Nn,Dn,by show z % 4=2;omega⟩
 by_cases h3:v<=now
 case neg=>
  rw [if_neg fun z=>h3 z.1]at rt
  repeat(first|refine AI ?_|refine AH ?_|refine AE ?_|refine Ar ?_|refine Bb ?_|refine AV ?_|refine Aq ?_|refine Bc ?_|refine Az ?_|refine CW ?_|refine B9 ?_|refine Bl ?_|refine Bd ?_|refine Bg ?_|refine BR (kd:=.i64) rfl (i64_in (by omega) (by omega)) ?_|refine Am ?_|refine Av rfl (by assumption) ?_)
  exact Ah (again (q+1,ob) _ _ (by show 16-(q+1)<16-q;omega) ⟨rfl,by show q+1<=16;omega,kp,rt,PJ⟩) ⟨rfl,rfl,rfl,rfl,rfl,rfl,rfl,rfl,trivial⟩
 cases ob with
 | none=>
  rw [if_pos ⟨h3,fun z hz=>by cases hz⟩]at rt
  have e1:mW none= -1:=rfl
  rw [e1]
  repeat(first|refine AI ?_|refine AH ?_|refine AE ?_|refine Bb ?_|refine AV ?_|refine Aq ?_|refine Bc ?_|refine Az ?_|refine CW ?_|refine B9 ?_|refine Bl ?_|refine Bs ?_|refine BR (kd:=.i64) rfl (i64_in (by omega) (by omega)) ?_|refine BU ?_|refine Av rfl (by assumption) ?_)
  exact Ah (again (q+1,(some (q,z,v))) _ _ (by show 16-(q+1)<16-q;omega) ⟨rfl,by show q+1<=16;omega,kp,rt,Gu⟩) ⟨rfl,rfl,rfl,rfl,rfl,rfl,rfl,rfl,trivial⟩
 | some y=>
  obtain⟨j',x',v'⟩:=y
  have e1:mW (some (j',x',v'))=(j':Int):=rfl
  have e2:obL (some (j',x',v'))=v':=rfl
  by_cases h4:v<v'
  ·rw [if_pos ⟨h3,fun z hz=>by cases hz;exact h4⟩]at rt
   rw [e1,e2]
   repeat(first|refine AI ?_|refine AH ?_|refine AE ?_|refine Bb ?_|refine AV ?_|refine Aq ?_|refine Bc ?_|refine Az ?_|refine B9 ?_|refine Bl ?_|refine Bd ?_|refine Bs ?_|refine Bg ?_|refine BR (kd:=.i64) rfl (i64_in (by omega) (by omega)) ?_|refine BU ?_|refine Av rfl (by assumption) ?_)
   exact Ah (again (q+1,(some (q,z,v))) _ _ (by show 16-(q+1)<16-q;omega) ⟨rfl,by show q+1<=16;omega,kp,rt,Gu⟩) ⟨rfl,rfl,rfl,rfl,rfl,rfl,rfl,rfl,trivial⟩
  ·rw [if_neg fun z=>h4 (z.2 _ rfl)]at rt
   rw [e1,e2]
   repeat(first|refine AI ?_|refine AH ?_|refine AE ?_|refine Ar ?_|refine Bb ?_|refine AV ?_|refine Aq ?_|refine Bc ?_|refine Az ?_|refine B9 ?_|refine Bl ?_|refine Bd ?_|refine Bs ?_|refine Bg ?_|refine BR (kd:=.i64) rfl (i64_in (by omega) (by omega)) ?_|refine Am ?_|refine Av rfl (by assumption) ?_)
   exact Ah (again (q+1,(some (j',x',v'))) _ _ (by show 16-(q+1)<16-q;omega) ⟨rfl,by show q+1<=16;omega,kp,rt,PJ⟩) ⟨rfl,rfl,rfl,rfl,rfl,rfl,rfl,rfl,trivial⟩
end
end
section
abbrev R6:List Value:=[.int .i64 0,.int .i64 0,.int .i64 0,AK]
def Mi(b:RW)(TB n0 x i hd:Nat)(pf:Pr It)(Bh:WR)(m:Nat):Prop:=∀{Γ:Type} {main:Bool} {δ:Ix Γ} (T0:TL) (g:RG) (p:PA) (s:Nat) (h:Hp),RT b TB n0 x i hd T0 pf Bh (HN b.c.sc b.c.nC b.c.nK m s p) g h->AF h ⟨x,2,none⟩=some (.bool false)->
 AY Tryz.prog main (Fb (Γ:=Γ)) 127 #[ptr b.Wd,ptr hd,.agg (Kw (s:Int)).toArray,.agg R6.toArray] h δ (CJ fun _ h' AW=>AW=δ/\Kp h h'/\∃g',RT b TB n0 x i hd T0 pf Bh p g' h')
section
variable{Γ:Type}{main:Bool}{S:Cp Γ}{δ:Ix Γ}{b:RW}{TB n0 x i hd:Nat}{T0:TL}{pf:Pr It}{Bh:WR}{p:PA}{g:RG}{h h':Hp}{l l':List Ev}{o:List It}{id:Nat}
theorem Uh:AY Tryz.prog main (Fb (Γ:=Γ)) 127 #[ptr b.Wd,ptr hd,.agg WA.toArray,.agg R6.toArray] h δ (CJ fun _ h' AW=>AW=δ/\AN (fun _=>False) h h'):=by
 refine CK (n:=117) ?_
 refine AI ?_
 refine AH ?_
 refine DO ?_
 refine DO ?_
 refine AE ?_
 obtain⟨y,hy⟩:∃y,y=h.size:=⟨_,rfl⟩
 refine F4 (fun h'=>AN (fun _=>False) h h'/\h'[y]?=some (.cells WA.toArray 127 (0,0))) ⟨(AN.push _ _).trans (AN.push _ _),by rw [hy];exact Ao _ (AG _ _)⟩ ?_
 rw [<-hy]
 rintro h1 ⟨u1,gy⟩
 have c0:AF h1 ⟨y,0,none⟩=some (.int .i64 0):=AD gy rfl
 repeat(first|refine AI ?_|refine AH ?_|refine AE ?_|refine Ar ?_|refine Ak ?_|refine Bb ?_|refine Aq ?_|refine Az ?_|refine Df ?_|refine Bg ?_|refine Am ?_)
 exact FQ (Eu rfl ⟨rfl,u1⟩)
theorem dX(ok:b.Ok)(Db:PF b.R i pf){m:Nat}(hR:∀m',m=m'+1->Mi b TB n0 x i hd pf Bh m'){d:Int}{k:Int->Int->PA}(rt:RT b TB n0 x i hd T0 pf Bh (EH b.c.sc b.c.nC b.c.nK m id d k) g h)(CI:id<b.c.nC)(Xe:0<=d):
  AY Tryz.prog main (Fb (Γ:=Γ)) 145 #[ptr b.Wd,ptr hd,.int .i64 (id:Int),.int .i64 d] h δ (CJ fun v h' AW=>AW=δ/\Kp h h'/\∃(g':RG) (r e:Int),v= .tuple #[.int .i64 r,.int .i64 e]/\RT b TB n0 x i hd T0 pf Bh (k r e) g' h'):=by
 have XY:=ok.c.nC
 rw [Vm]at rt
 refine CK (n:=119) ?_
 have kp:=Kp.refl h
 have cX:=rt.X
 repeat(first|refine AI ?_|refine AH ?_|refine AE ?_|refine Aq ?_)
 refine BO (fun h'=>AF h' ⟨hd,0,none⟩=some (ptr x)) ?_
 have hZ:=cX
 refine AU 0 hZ ?_
 refine BE 1 hZ ?_
 refine Ag 2 hZ ?_
 refine A8 3 (fun _ hz=>hz) hZ ?_
 refine AU 4 hZ ?_
 refine Bj 5 rfl (by kernel_rfl) rfl rfl rfl rfl rfl rfl (DX ⟨by omega,by omega⟩ ⟨by omega,by omega⟩ (fun _ x=>x)) ?_
 rintro _ h8 Qh ⟨rfl,rfl,u8⟩
 replace kp:=kp.trans (BA u8)
 replace rt:=rt.A5 u8
 clear u8
 refine⟨rt.X,?_⟩
 have hZ:=rt.X
 refine Bj 6 rfl (by kernel_rfl) rfl rfl rfl rfl rfl rfl (bz ok Db rt (by rw [G2 ok CI (by omega)];unfold G9;congr 1 <;> omega)) ?_
 rintro _ h9 Vp ⟨rfl,Mx,Ea⟩
 replace kp:=kp.trans Mx
 clear hZ cX rt
 rcases Ea.symm with⟨rfl,w,hw,rt⟩|⟨rfl,rt,hf⟩
 ·rw [if_neg hw]at rt
  refine⟨rt.X,?_⟩
  have hZ:=rt.X
  refine KN 7 hZ ?_
  refine BF ?_
  repeat(first|refine AI ?_|refine AH ?_|refine AE ?_|refine Aq ?_|refine BU ?_|refine AQ ?_)
  exact EL rfl rfl rfl ⟨rfl,kp,g,0,14,rfl,rt⟩
 rw [if_pos rfl]at rt
 cases m with
 | zero=>
  rcases rt.cases with⟨-,-,l,o,z⟩|⟨e,-⟩
  ·exact(z.stuck ok Db).elim
  ·rw [hf]at e;cases e
 | succ m=>
  have xK:Mi b TB n0 x i hd pf Bh m:=@hR m rfl
  change RT b TB n0 x i hd T0 pf Bh (.step ⟨1,cc id 0,0,0⟩ fun v=>if 0<=v/\v<=4611686018427387904 then .step ⟨2,cc id 0,GF v d,0⟩ fun _=>He (HN b.c.sc b.c.nC b.c.nK m) id (GF v d) k 65537 0 else stuck) g h9 at rt
  refine⟨rt.X,?_⟩
  have hZ:=rt.X
  refine KN 7 hZ ?_
  refine BF ?_
  clear hf
  have cX:=rt.X
  repeat(first|refine AI ?_|refine Ar ?_|refine Am ?_)
  refine BO (fun h'=>AF h' ⟨hd,0,none⟩=some (ptr x)) ?_
  have hZ:=cX
  refine AU 0 hZ ?_
  refine BE 1 hZ ?_
  refine Ag 2 hZ ?_
  refine A8 3 (fun _ hz=>hz) hZ ?_
  refine AU 4 hZ ?_
  refine AU 7 hZ ?_
  refine Bj 5 rfl (by kernel_rfl) rfl rfl rfl rfl rfl rfl (DX ⟨by omega,by omega⟩ ⟨by omega,by omega⟩ (fun _ x=>x)) ?_
  rintro _ h8 Qh ⟨rfl,rfl,u8⟩
  replace kp:=kp.trans (BA u8)
  replace rt:=rt.A5 u8
  clear u8
  refine⟨rt.X,?_⟩
  have hZ:=rt.X
  refine Bj 6 rfl (by kernel_rfl) rfl rfl rfl rfl rfl rfl (SF ok Db rt (by rw [G2 ok CI (by omega)];unfold G9;congr 1 <;> omega)) ?_
  rintro _ Gq Xn ⟨rfl,Qr,v,rfl,rt,ml⟩
  replace kp:=kp.trans Qr
  obtain⟨rt,hvr⟩:=rt.jh ok Db
  have hv:0<=v/\v<=4611686018427387904:=by
   rcases rt.cases with⟨hf,-⟩|⟨hf,-⟩
   ·exact hvr hf
   ·rw [ml hf];omega
  clear ml hvr hZ cX
  refine⟨rt.X,?_⟩
  have hZ:=rt.X
  refine FE 8 rfl (by kernel_rfl) rfl rfl rfl rfl rfl rfl (dV hv Xe) hZ ?_
  refine Dp 9 hZ ?_
  refine BF ?_
  obtain⟨now,Xw⟩:∃now,now=GF v d:=⟨_,rfl⟩
  rw [<-Xw]at rt⊢
  clear hZ Xw
  have cX:=rt.X
  (repeat refine AI ?_)
  refine BO (fun h'=>AF h' ⟨hd,0,none⟩=some (ptr x)) ?_
  have hZ:=cX
  refine AU 0 hZ ?_
  refine BE 1 hZ ?_
  refine Ag 2 hZ ?_
  refine A8 3 (fun _ hz=>hz) hZ ?_
  refine AU 4 hZ ?_
  refine AU 6 hZ ?_
  refine Bj 5 rfl (by kernel_rfl) rfl rfl rfl rfl rfl rfl (DX ⟨by omega,by omega⟩ ⟨by omega,by omega⟩ (fun _ x=>x)) ?_
  rintro _ h8 Qh ⟨rfl,rfl,u8⟩
  replace kp:=kp.trans (BA u8)
  replace rt:=rt.A5 u8
  clear u8
  refine⟨rt.X,?_⟩
  have hZ:=rt.X
  refine Bj 7 rfl (by kernel_rfl) rfl rfl rfl rfl rfl rfl (K2 ok Db rt (by rw [G2 ok CI (by omega)];unfold G9;congr 1 <;> omega)) ?_
  rintro _ NC Tl ⟨rfl,MF,rt⟩
  replace kp:=kp.trans MF
  refine⟨rt.X,?_⟩
  refine BF ?_
  clear hZ cX
  generalize 65537=N at rt
  repeat(first|refine AI ?_|refine AH ?_|refine AE ?_|refine Ak ?_|refine Aq ?_)
  refine B1 (fun q:Nat×RG×Nat=>[(11,.int .i64 q.1),(0,ptr b.Wd),(1,ptr hd),(2,.int .i64 (id:Int)),(10,.int .i64 now)]) (fun q h' AW=>AW=Tl/\q.1<=64/\Kp h h'/\RT b TB n0 x i hd T0 pf Bh (He (HN b.c.sc b.c.nC b.c.nK m) id now k q.2.2 q.1) q.2.1 h') (fun q=>q.2.2) (0,g,N) ⟨rfl,rfl,rfl,rfl,rfl,trivial⟩ ⟨rfl,Bv _,kp,rt⟩ ?_
  clear rt kp
  rintro⟨q,g1,n⟩ h2 FJ ⟨DL,hq,kp,rt⟩ again
  dsimp only at DL hq kp rt again⊢
  subst DL
  have cX:=rt.X
  rcases rt.cases.symm with⟨hf,ho⟩|⟨hf,-,l,o,zi⟩
  ·skip
   replace rt:RT b TB n0 x i hd T0 pf Bh (k q 0) g1 h2:=rt.F6 ho
   repeat(first|refine AI ?_|refine AH ?_|refine AE ?_|refine AV ?_|refine Aq ?_|refine Bc ?_|refine Az ?_|refine B9 ?_|refine Am ?_|refine AQ ?_|refine B8 ?_|refine Av rfl (by assumption) ?_)
   exact EL rfl rfl rfl ⟨rfl,kp,g1,q,0,rfl,rt⟩
  cases n with
  | zero=>exact(zi.stuck ok Db).elim
  | succ n=>
   clear zi l o
   unfold He at rt
   repeat(first|refine AI ?_|refine AH ?_|refine AE ?_|refine Ar ?_|refine Ak ?_|refine AV ?_|refine Bc ?_|refine Az ?_|refine B9 ?_|refine BU ?_|refine Av rfl (by assumption) ?_)
   refine BV rfl (Zc ok Db rt CI) ?_
   rintro _ h3 Hz ⟨rfl,Ri,ob,rfl,PJ,rt⟩
   replace kp:=kp.trans Ri
   clear Ri hf cX
   have cX:=rt.X
   repeat(first|refine AI ?_|refine AH ?_|refine AE ?_|refine AV ?_|refine Aq ?_|refine Bc ?_|refine Az ?_|refine Eo ?_|refine Av rfl (by assumption) ?_)
   rcases rt.cases.symm with⟨hf,ho⟩|⟨hf,-⟩
   ·skip
    replace rt:RT b TB n0 x i hd T0 pf Bh (k q 0) g1 h3:=rt.F6 ho
    repeat(first|refine AI ?_|refine AH ?_|refine AE ?_|refine AV ?_|refine Aq ?_|refine BU ?_|refine AQ ?_|refine B8 ?_|refine Av rfl (by assumption) ?_)
    exact EL rfl rfl rfl ⟨rfl,kp,g1,q,0,rfl,rt⟩
   cases ob with
   | none=>
    change RT b TB n0 x i hd T0 pf Bh (.step ⟨2,cc id 1,0,0⟩ fun _=>k q 0) g1 h3 at rt
    have e1:mW none= -1:=rfl
    rw [e1]
    repeat(first|refine AI ?_|refine AH ?_|refine AE ?_|refine Ar ?_|refine AV ?_|refine CW ?_|refine Bl ?_|refine Bs ?_|refine BU ?_|refine Am ?_|refine Av rfl (by assumption) ?_)
    refine BO (fun h'=>AF h' ⟨hd,0,none⟩=some (ptr x)) ?_
    have hZ:=cX
    refine AU 0 hZ ?_
    refine BE 1 hZ ?_
    refine Ag 2 hZ ?_
    refine A8 3 (fun _ hz=>hz) hZ ?_
    refine AU 4 hZ ?_
    refine Bj 5 rfl (by kernel_rfl) rfl rfl rfl rfl rfl rfl (DX ⟨by omega,by omega⟩ ⟨by omega,by omega⟩ (fun _ x=>x)) ?_
    rintro _ h8 Qh ⟨rfl,rfl,u8⟩
    replace kp:=kp.trans (BA u8)
    replace rt:=rt.A5 u8
    clear u8
    refine⟨rt.X,?_⟩
    have hZ:=rt.X
    refine Bj 6 rfl (by kernel_rfl) rfl rfl rfl rfl rfl rfl (K2 ok Db rt (by rw [G2 ok CI (by omega)];unfold G9;congr 1 <;> omega)) ?_
    rintro _ NC Tl ⟨rfl,MF,rt⟩
    replace kp:=kp.trans MF
    refine⟨rt.X,?_⟩
    refine BF ?_
    clear hZ cX
    repeat(first|refine AI ?_|refine AH ?_|refine AE ?_|refine AV ?_|refine Aq ?_|refine AQ ?_)
    exact EL rfl rfl rfl ⟨rfl,kp,_,(q:Int),0,rfl,rt⟩
   | some y=>
    obtain⟨j,w,W1⟩:=y
    obtain⟨hj,Dn,hm⟩:=PJ _ rfl
    dsimp only at hj Dn hm
    have e1:mW (some (j,w,W1))=(j:Int):=rfl
    have e2:vj (some (j,w,W1))=w:=rfl
    rw [e1,e2]
    change RT b TB n0 x i hd T0 pf Bh (if q=64 then .step ⟨2,cc id 1,0,0⟩ fun _=>k q 0 else .step ⟨3,cc id (2+2*j),w,w+1⟩ fun z=>if z=w then .ask (id,j,w) fun s=>HN b.c.sc b.c.nC b.c.nK m s (.step ⟨2,cc id (2+2*j),w+2,0⟩ fun _=>He (HN b.c.sc b.c.nC b.c.nK m) id now k n (q+1))else He (HN b.c.sc b.c.nC b.c.nK m) id now k n q) g1 h3 at rt
    by_cases im:q=64
    ·subst im
     rw [if_pos rfl]at rt
     repeat(first|refine AI ?_|refine AH ?_|refine AE ?_|refine Ar ?_|refine AV ?_|refine Bd ?_|refine Bs ?_|refine Bg ?_|refine BU ?_|refine Am ?_|refine Av rfl (by assumption) ?_)
     refine BO (fun h'=>AF h' ⟨hd,0,none⟩=some (ptr x)) ?_
     have hZ:=cX
     refine AU 0 hZ ?_
     refine BE 1 hZ ?_
     refine Ag 2 hZ ?_
     refine A8 3 (fun _ hz=>hz) hZ ?_
     refine AU 4 hZ ?_
     refine Bj 5 rfl (by kernel_rfl) rfl rfl rfl rfl rfl rfl (DX ⟨by omega,by omega⟩ ⟨by omega,by omega⟩ (fun _ x=>x)) ?_
     rintro _ h8 Qh ⟨rfl,rfl,u8⟩
     replace kp:=kp.trans (BA u8)
     replace rt:=rt.A5 u8
     clear u8
     refine⟨rt.X,?_⟩
     have hZ:=rt.X
     refine Bj 6 rfl (by kernel_rfl) rfl rfl rfl rfl rfl rfl (K2 ok Db rt (by rw [G2 ok CI (by omega)];unfold G9;congr 1 <;> omega)) ?_
     rintro _ NC Tl ⟨rfl,MF,rt⟩
     replace kp:=kp.trans MF
     refine⟨rt.X,?_⟩
     refine BF ?_
     clear hZ cX
     repeat(first|refine AI ?_|refine AH ?_|refine AE ?_|refine AV ?_|refine Aq ?_|refine AQ ?_)
     exact EL rfl rfl rfl ⟨rfl,kp,_,((64:Nat):Int),0,rfl,rt⟩
    rw [if_neg im]at rt
    repeat(first|refine AI ?_|refine AH ?_|refine AE ?_|refine Ar ?_|refine AV ?_|refine Bd ?_|refine Bg ?_|refine Am ?_|refine Av rfl (by assumption) ?_)
    refine BO (fun h'=>AF h' ⟨hd,0,none⟩=some (ptr x)) ?_
    have hZ:=cX
    refine AU 0 hZ ?_
    refine BE 1 hZ ?_
    refine Ag 2 hZ ?_
    refine A8 3 (fun _ hz=>hz) hZ ?_
    refine AU 4 hZ ?_
    refine AU 5 hZ ?_
    refine Hv (kd:=.i64) 6 rfl (by kernel_rfl) rfl rfl rfl rfl rfl (i64_in (by omega) (by omega)) hZ ?_
    refine EW (kd:=.i64) 7 rfl (by kernel_rfl) rfl rfl rfl rfl rfl (i64_in (by omega) (by omega)) hZ ?_
    refine AU 9 hZ ?_
    refine AU 10 hZ ?_
    refine EW (kd:=.i64) 11 rfl (by kernel_rfl) rfl rfl rfl rfl rfl (i64_in (by omega) (by omega)) hZ ?_
    refine Bj 8 rfl (by kernel_rfl) rfl rfl rfl rfl rfl rfl (DX ⟨by omega,by omega⟩ ⟨by omega,by omega⟩ (fun _ x=>x)) ?_
    rintro _ h8 Qh ⟨rfl,rfl,u8⟩
    replace kp:=kp.trans (BA u8)
    replace rt:=rt.A5 u8
    clear u8
    refine⟨rt.X,?_⟩
    have hZ:=rt.X
    refine Bj 12 rfl (by kernel_rfl) rfl rfl rfl rfl rfl rfl (bz ok Db rt (by rw [G2 ok CI (by omega)];unfold G9;congr 1 <;> omega)) ?_
    rintro _ h9 Vp ⟨rfl,Mx,Ea⟩
    replace kp:=kp.trans Mx
    clear hZ cX hf rt
    rcases Ea.symm with⟨rfl,z,hz,rt⟩|⟨rfl,rt,hf⟩
    ·rw [if_neg hz]at rt
     refine⟨rt.X,?_⟩
     have hZ:=rt.X
     refine KN 13 hZ ?_
     refine BF ?_
     repeat(first|refine BU ?_|refine B8 ?_)
     exact Ah (again (q,g1,n) _ _ (by show n<n+1;omega) ⟨rfl,hq,kp,rt⟩) ⟨rfl,rfl,rfl,rfl,rfl,trivial⟩
    rw [if_pos rfl]at rt
    refine⟨rt.X,?_⟩
    have hZ:=rt.X
    refine KN 13 hZ ?_
    refine BF ?_
    clear hZ
    repeat(first|refine AI ?_|refine AH ?_|refine Ar ?_|refine AV ?_|refine Am ?_)
    refine Bx rfl (VX ⟨by omega,by omega⟩) ?_
    (repeat refine AV ?_)
    refine BV rfl (dW ok Db rt hf) ?_
    rintro _ Gq Xn ⟨rfl,Qr,⟨sn,rfl,rt,hf⟩|⟨rfl,hf,g2,rt⟩⟩
    ·replace kp:=kp.trans Qr
     obtain⟨RQ,LV⟩:∃RQ,RQ=E0 ((id,j,w),sn):=⟨_,rfl⟩
     have Pp:RQ.length=16:=by rw [LV];rfl
     have ij:∀v∈RQ,OneCell v:=by rw [LV];exact J9 _
     have oZ:TJ.A0 (Gq.push (Fe RQ)) Gq.size 3 (Kw (sn:Int)):=by
      have:=CA (h:=Gq.push (Fe RQ)) (b:=Gq.size) (vs:=RQ) (rest:=[]) (by rw [DI];exact AG _ _)
      rw [LV]at this⊢
      exact fun q v hv=>by
       have wh:q<8:=(Gv.1 hv).1
       have:=this (3+q) v (by
        rcases (show q=0\/q=1\/q=2\/q=3\/q=4\/q=5\/q=6\/q=7 by omega)with rfl|rfl|rfl|rfl|rfl|rfl|rfl|rfl <;> exact hv)
       rwa [Nat.zero_add]at this
     rw [<-LV]
     have Jt:=rt.A5 (AN.push Gq (Fe RQ))
     have yy:AF (Gq.push (Fe RQ)) ⟨x,2,none⟩=some (.bool false):=(AN.push (T:=fun _=>False) _ _).AF hf (fun z=>z)
     have aI:=kp.trans (BA (AN.push Gq (Fe RQ)))
     (repeat refine Cn ?_)
     refine Bz (vs:=RQ) rfl Pp ij (A3 (c:=EE) (AG _ _) rfl (fun _ x=>x)) ?_
     change ER _ _ _ _ _ _ _ _ _ _ (Cm (Gq.push (Fe EE)) Gq.size 0 RQ) _ _
     rw [Au (c:=EE) (vs:=RQ) (AG _ _) (by rw [Pp];rfl),CC]
     repeat(first|refine AI ?_|refine AH ?_|refine AE ?_|refine AV ?_|refine Az ?_)
     refine C5 (vs:=Kw (sn:Int)) rfl oZ ?_
     refine Ep (cells:=R6.toArray) ?_
     refine BV rfl (xK T0 g1 _ sn _ Jt yy) ?_
     rintro _ NC Tl ⟨rfl,MF,g3,rt⟩
     replace kp:=aI.trans MF
     clear Jt oZ aI
     have cX:=rt.X
     repeat(first|refine AI ?_|refine AE ?_)
     refine BO (fun h'=>AF h' ⟨hd,0,none⟩=some (ptr x)) ?_
     have hZ:=cX
     refine AU 0 hZ ?_
     refine BE 1 hZ ?_
     refine Ag 2 hZ ?_
     refine A8 3 (fun _ hz=>hz) hZ ?_
     refine AU 4 hZ ?_
     refine AU 5 hZ ?_
     refine Hv (kd:=.i64) 6 rfl (by kernel_rfl) rfl rfl rfl rfl rfl (i64_in (by omega) (by omega)) hZ ?_
     refine EW (kd:=.i64) 7 rfl (by kernel_rfl) rfl rfl rfl rfl rfl (i64_in (by omega) (by omega)) hZ ?_
     refine AU 9 hZ ?_
     refine EW (kd:=.i64) 10 rfl (by kernel_rfl) rfl rfl rfl rfl rfl (i64_in (by omega) (by omega)) hZ ?_
     refine Bj 8 rfl (by kernel_rfl) rfl rfl rfl rfl rfl rfl (DX ⟨by omega,by omega⟩ ⟨by omega,by omega⟩ (fun _ x=>x)) ?_
     rintro _ h8 Qh ⟨rfl,rfl,u8⟩
     replace kp:=kp.trans (BA u8)
     replace rt:=rt.A5 u8
     clear u8
     refine⟨rt.X,?_⟩
     have hZ:=rt.X
     refine Bj 11 rfl (by kernel_rfl) rfl rfl rfl rfl rfl rfl (K2 ok Db rt (by rw [G2 ok CI (by omega)];unfold G9;congr 1 <;> omega)) ?_
     rintro _ Rx pY ⟨rfl,Xt,rt⟩
     replace kp:=kp.trans Xt
     refine⟨rt.X,?_⟩
     refine BF ?_
     repeat(first|refine AH ?_|refine AE ?_|refine Bb ?_|refine AV ?_|refine Aq ?_|refine BR (kd:=.i64) rfl (i64_in (by omega) (by omega)) ?_)
     exact Ah (again (q+1,g3,n) _ _ (by show n<n+1;omega) ⟨rfl,by show q+1<=64;omega,kp,rt⟩) ⟨rfl,rfl,rfl,rfl,rfl,trivial⟩
    ·replace kp:=kp.trans Qr
     have Jt:=(rt (.step ⟨2,cc id (2+2*j),w+2,0⟩ fun _=>He (HN b.c.sc b.c.nC b.c.nK m) id now k n (q+1))).A5 (AN.push Gq (Fe EE))
     have aI:=kp.trans (BA (AN.push Gq (Fe EE)))
     have oZ:TJ.A0 (Gq.push (Fe EE)) Gq.size 3 WA:=by
      have:=CA (h:=Gq.push (Fe EE)) (b:=Gq.size) (vs:=EE) (rest:=[]) (by rw [DI];exact AG _ _)
      exact fun q v hv=>by
       have wh:q<8:=(Gv.1 hv).1
       have:=this (3+q) v (by
        rcases (show q=0\/q=1\/q=2\/q=3\/q=4\/q=5\/q=6\/q=7 by omega)with rfl|rfl|rfl|rfl|rfl|rfl|rfl|rfl <;> exact hv)
       rwa [Nat.zero_add]at this
     (repeat refine Cn ?_)
     refine Bz (vs:=EE) rfl rfl (by simp [EE,OneCell]) (A3 (c:=EE) (AG _ _) rfl (fun _ x=>x)) ?_
     change ER _ _ _ _ _ _ _ _ _ _ (Cm (Gq.push (Fe EE)) Gq.size 0 EE) _ _
     rw [Au (c:=EE) (vs:=EE) (AG _ _) rfl,CC]
     repeat(first|refine AI ?_|refine AH ?_|refine AE ?_|refine AV ?_|refine Az ?_)
     refine C5 (vs:=WA) rfl oZ ?_
     refine Ep (cells:=R6.toArray) ?_
     refine BV rfl Uh ?_
     rintro _ NC Tl ⟨rfl,u11⟩
     replace rt:=Jt.A5 u11
     replace kp:=aI.trans (BA u11)
     obtain⟨g3,hg3⟩:∃g3,g3=g2:=⟨_,rfl⟩
     rw [<-hg3]at rt
     clear Jt oZ aI
     have cX:=rt.X
     repeat(first|refine AI ?_|refine AE ?_)
     refine BO (fun h'=>AF h' ⟨hd,0,none⟩=some (ptr x)) ?_
     have hZ:=cX
     refine AU 0 hZ ?_
     refine BE 1 hZ ?_
     refine Ag 2 hZ ?_
     refine A8 3 (fun _ hz=>hz) hZ ?_
     refine AU 4 hZ ?_
     refine AU 5 hZ ?_
     refine Hv (kd:=.i64) 6 rfl (by kernel_rfl) rfl rfl rfl rfl rfl (i64_in (by omega) (by omega)) hZ ?_
     refine EW (kd:=.i64) 7 rfl (by kernel_rfl) rfl rfl rfl rfl rfl (i64_in (by omega) (by omega)) hZ ?_
     refine AU 9 hZ ?_
     refine EW (kd:=.i64) 10 rfl (by kernel_rfl) rfl rfl rfl rfl rfl (i64_in (by omega) (by omega)) hZ ?_
     refine Bj 8 rfl (by kernel_rfl) rfl rfl rfl rfl rfl rfl (DX ⟨by omega,by omega⟩ ⟨by omega,by omega⟩ (fun _ x=>x)) ?_
     rintro _ h8 Qh ⟨rfl,rfl,u8⟩
     replace kp:=kp.trans (BA u8)
     replace rt:=rt.A5 u8
     clear u8
     refine⟨rt.X,?_⟩
     have hZ:=rt.X
     refine Bj 11 rfl (by kernel_rfl) rfl rfl rfl rfl rfl rfl (K2 ok Db rt (by rw [G2 ok CI (by omega)];unfold G9;congr 1 <;> omega)) ?_
     rintro _ Rx pY ⟨rfl,Xt,rt⟩
     replace kp:=kp.trans Xt
     refine⟨rt.X,?_⟩
     refine BF ?_
     repeat(first|refine AH ?_|refine AE ?_|refine Bb ?_|refine AV ?_|refine Aq ?_|refine BR (kd:=.i64) rfl (i64_in (by omega) (by omega)) ?_)
     exact Ah (again (q+1,g3,n) _ _ (by show n<n+1;omega) ⟨rfl,by show q+1<=64;omega,kp,rt⟩) ⟨rfl,rfl,rfl,rfl,rfl,trivial⟩
end
end
section
theorem Vh:¬Tj 41:=by unfold Tj;decide
section
variable{Γ:Type}{main:Bool}{S:Cp Γ}{δ:Ix Γ}{b:RW}{TB n0 x i hd:Nat}{T0:TL}{pf:Pr It}{Bh:WR}{p:PA}{g:RG}{h h':Hp}{l l':List Ev}{o:List It}{id:Nat}
theorem RT.fin{T:Nat->List TE}{L:List Nat}{y:Nat}{vs:List Value}(r:RT b TB n0 x i hd ⟨T,y::L⟩ pf Bh p g h)(KG:b.h0.size<=y)(hl:vs.length=6):∃c:List Value,c.length=6/\h[y]?=some (A9 c)/\RT b TB n0 x i hd ⟨T,L⟩ pf Bh p g (h.setIfInBounds y (A9 vs))/\Kp h (h.setIfInBounds y (A9 vs)):=by
 obtain⟨⟨a,h1,h2⟩,h3⟩:=r.own y BJ
 have u:AN (fun z=>z=y) h (h.setIfInBounds y (A9 vs)):=AN.set _ _ _ rfl
 have r2:=r.loc u h1 KG (by decide) (fun e=>Ac r.mem.IN h1 (by decide) y e rfl) h3 (fun _=>⟨_,AJ h1,by rw [List.size_toArray];exact hl⟩)
 exact⟨a.toList,by rw [Array.length_toList];exact h2,by rw [h1],r2.py,Jd u fun z hz _=>by rw [hz];exact⟨_,_,h1,.inr (.inr (.inr (.inr (.inr (.inl rfl)))))⟩⟩
def qn(b:RW)(TB n0 x i hd:Nat)(T0:TL)(pf:Pr It)(Bh:WR)(kk:List Int->Int->PA)(h:Hp)(δ:Ix Γ)(v:Value)(h':Hp)(AW:Ix Γ):Prop:=
 AW=δ/\Kp h h'/\∃(g':RG) (vs:List Int) (vv:Value) (e:Int),v=PO vv e/\RT b TB n0 x i hd T0 pf Bh (kk vs e) g' h'/\KL g'.kept vs vv
theorem Ua{V:Value}{n:Nat}{s f:Int}(hV:∃a k,V= .slice a n k):AY Tryz.prog main S 111 #[V,.int .i64 f,.int .i64 s] h δ (CJ (Gb (.int .i64 (if s<f/\f<n then f else -1)) h δ)):=by
 obtain⟨a,k,rfl⟩:=hV
 refine CK (n:=17) ?_
 by_cases h1:s<f
 ·by_cases h2:f<n
  ·rw [if_pos ⟨h1,h2⟩]
   repeat(first|refine AI ?_|refine AH ?_|refine AE ?_|refine AV ?_|refine Aq ?_|refine Bl ?_|refine Bs ?_|refine BN ?_|refine BU ?_|refine AQ ?_)
   exact DQ El
  ·rw [if_neg fun z=>h2 z.2]
   repeat(first|refine AI ?_|refine AH ?_|refine AE ?_|refine Ar ?_|refine AV ?_|refine Aq ?_|refine Bl ?_|refine Bs ?_|refine Bg ?_|refine BN ?_|refine Am ?_|refine AQ ?_)
   exact DQ El
 ·rw [if_neg fun z=>h1 z.1]
  repeat(first|refine AI ?_|refine AH ?_|refine AE ?_|refine Ar ?_|refine AV ?_|refine Aq ?_|refine CW ?_|refine Bd ?_|refine Bg ?_|refine Am ?_|refine AQ ?_)
  exact DQ El
theorem kM(ok:b.Ok)(Db:PF b.R i pf){m:Nat}(hR:∀m',m=m'+1->Mi b TB n0 x i hd pf Bh m'){s:Nat}{q:BH}{kk:List Int->Int->PA}(G6:10<=q.op/\q.op<=13)(rt:RT b TB n0 x i hd T0 pf Bh (E1 b.c.sc b.c.nC b.c.nK (EH b.c.sc b.c.nC b.c.nK m) s q kk) g h):
  AY Tryz.prog main (Fb (Γ:=Γ)) 114 #[ptr b.Wd,ptr hd,.agg (By q).toArray,.int .i64 (s:Int)] h δ (CJ (qn b TB n0 x i hd T0 pf Bh kk h δ)):=by
 have XY:=ok.c.nC
 obtain⟨y6,Rr⟩:∃y,y=h.size:=⟨_,rfl⟩
 obtain⟨y8,Qj⟩:∃y,y=(h.push (Bo q)).size:=⟨_,rfl⟩
 refine CK (n:=138) ?_
 refine AI ?_
 refine AH ?_
 refine DO ?_
 refine Cn ?_
 refine AE ?_
 have H3:b.h0.size<=y8:=by have:=rt.mem.up.size;rw [Qj,CH];omega
 have Vs:=(rt.A5 (AN.push h (Bo q))).YF z6.toArray rfl
 rw [<-Qj]at Vs
 refine F4 (fun h'=>Kp h h'/\RT b TB n0 x i hd ⟨T0.T,y8::T0.L⟩ pf Bh (E1 b.c.sc b.c.nC b.c.nK (EH b.c.sc b.c.nC b.c.nK m) s q kk) g h'/\h'[y6]?=some (Bo q)) ⟨(BA (AN.push _ _)).trans (BA (AN.push _ _)),Vs,by rw [Rr];exact Ao _ (AG _ _)⟩ ?_
 rw [<-Qj,<-Rr]
 clear rt Vs Qj
 rintro h2 ⟨kp,rt,g6⟩
 clear Rr
 have Qn:AF h2 ⟨y6,0,none⟩=some (.int .i64 q.op):=AD g6 rfl
 have V3:AF h2 ⟨y6,1,none⟩=some (.int .i64 q.a):=AD g6 rfl
 have cW:AF h2 ⟨b.Wd,11,none⟩=some (.int .i64 b.c.nC):=AD rt.mem.row rfl
 have PJ:=Ub (main:=main) (S:=Fb (Γ:=Γ)) (δ:=δ) (a:=q.a) (kd:=2) (n:=b.c.nC) rt.hd
 obtain⟨ob,Xv⟩:∃o:Int,o=if 0<=q.a/\q.a<(b.c.nC:Int)then q.a else -1:=⟨_,rfl⟩
 rw [<-Xv]at PJ
 have tz:(∃z:Nat,z<b.c.nC/\q.a=z/\ob=z)\/(¬PE b.c.nC q/\ob= -1):=by
  by_cases CO:0<=q.a/\q.a<(b.c.nC:Int)
  ·rw [if_pos CO]at Xv
   exact .inl ⟨q.a.toNat,by omega,by omega,by omega⟩
  ·rw [if_neg CO]at Xv
   exact .inr ⟨CO,Xv⟩
 clear Xv
 (repeat refine AI ?_)
 refine BO (fun h'=>AF h' ⟨y6,1,none⟩=some (.int .i64 q.a)/\AF h' ⟨b.Wd,11,none⟩=some (.int .i64 b.c.nC)) ?_
 have hZ:=And.intro V3 cW
 refine AU 0 hZ ?_
 refine Ag 1 hZ ?_
 refine A8 2 (fun _ hz=>hz.1) hZ ?_
 refine AU 3 hZ ?_
 refine BE 4 hZ ?_
 refine Ag 5 hZ ?_
 refine A8 6 (fun _ hz=>hz.2) hZ ?_
 refine FE 7 rfl (by kernel_rfl) rfl rfl rfl rfl rfl rfl PJ hZ ?_
 refine Dp 8 hZ ?_
 refine BF ?_
 clear hZ V3 cW PJ
 unfold E1 at rt
 by_cases Gq:q.op=10
 ·rw [Gq]at Qn
  rw [if_pos Gq]at rt
  rcases tz with⟨z,hz,ha,rfl⟩|⟨CO,rfl⟩
  ·rw [if_pos (show PE b.c.nC q from⟨by omega,by omega⟩),ha]at rt
   change RT b TB n0 x i hd ⟨T0.T,y8::T0.L⟩ pf Bh (.step ⟨1,cc z 0,0,0⟩ fun v=>kk [v] 0) g h2 at rt
   repeat(first|refine AI ?_|refine AH ?_|refine AE ?_|refine Ar ?_|refine Ak ?_|refine AV ?_|refine Aq ?_|refine Az ?_|refine Df ?_|refine Bs ?_|refine Bg ?_|refine BU ?_|refine Am ?_)
   refine D7 (fun h'=>AF h' ⟨hd,0,none⟩=some (ptr x)) 9 ?_
   have hZ:=rt.X
   refine AU 0 hZ ?_
   refine BE 1 hZ ?_
   refine Ag 2 hZ ?_
   refine A8 3 (fun _ hz=>hz) hZ ?_
   refine AU 4 hZ ?_
   refine Bj 5 rfl (by kernel_rfl) rfl rfl rfl rfl rfl rfl (DX ⟨by omega,by omega⟩ ⟨by omega,by omega⟩ (fun _ x=>x)) ?_
   rintro _ h8 Qh ⟨rfl,rfl,u8⟩
   replace kp:=kp.trans (BA u8)
   replace rt:=rt.A5 u8
   clear u8
   refine⟨rt.X,?_⟩
   refine Bj 6 rfl (by kernel_rfl) rfl rfl rfl rfl rfl rfl (SF ok Db rt (by rw [G2 ok hz (by omega)];unfold G9;congr 1 <;> omega)) ?_
   rintro _ h9 Vp ⟨rfl,Mx,w,rfl,rt,-⟩
   replace kp:=kp.trans Mx
   refine⟨rt.X,?_⟩
   have rk:=rt.keep [w]
   have LS:=kp.trans (BA (AN.push h9 (Cy [w])))
   have Kr:KL (g.kept++[(h9.size,Cy [w])]) [w] (.slice (some ⟨h9.size,0,none⟩) 1 1):=.inr ⟨h9.size,rfl,BX _ (DD.2 rfl)⟩
   have hZ:=rk.X
   refine CQ (v:=.slice (some ⟨h9.size,0,none⟩) 1 1) (h':=h9.push (Cy [w])) 7 rfl (by kernel_rfl) (fun ρ Q X Aa hq=>BW (sz:=1) (z:=.int .i64 0) Aa rfl (by omega) (by omega) rfl rfl hq) hZ ?_
   refine Bj 8 rfl (by kernel_rfl) rfl rfl rfl rfl rfl rfl (Dv (fun _ _ _ x=>x)) ?_
   rintro _ h7 Nl ⟨rfl,rfl,u7⟩
   have rq:=rk.A5 u7
   obtain⟨c8,l8,g8,rf,kf⟩:=rq.fin (vs:=Aw (.slice (some ⟨h9.size,0,none⟩) 1 1) 0) H3 AP
   refine⟨rq.X,?_⟩
   refine D6 (h':=h7.setIfInBounds y8 (A9 (Aw (.slice (some ⟨h9.size,0,none⟩) 1 1) 0))) 9 rfl (by kernel_rfl) rfl rfl rfl (fun ρ Q X Aa hq=>B6 (vs:=Aw (.slice (some ⟨h9.size,0,none⟩) 1 1) 0) (Aa _ _ rfl) (Aa _ _ rfl) AP BM (A3 (c:=c8) g8 l8 (fun _ x=>x)) (by rw [Au (c:=c8) (vs:=Aw (.slice (some ⟨h9.size,0,none⟩) 1 1) 0) g8 (by rw [AP];exact l8)];exact hq)) ?_
   refine BF ?_
   (repeat refine AQ ?_)
   exact BD (vs:=Aw (.slice (some ⟨h9.size,0,none⟩) 1 1) 0) rfl rfl AP (C0 (by exact AJ g8)) ⟨rfl,LS.trans ((BA u7).trans kf),_,[w],_,0,rfl,rf,Kr⟩
  ·rw [if_neg CO]at rt
   repeat(first|refine AI ?_|refine AH ?_|refine AE ?_|refine Ak ?_|refine AV ?_|refine Aq ?_|refine Az ?_|refine Df ?_|refine Bs ?_|refine BU ?_)
   refine Fv (sz:=1) (z:=.int .i64 0) (cells:=#[.int .i64 0]) ?_
   have Kr:KL (g.kept++[(h2.size,Cy [0])]) [0] (.slice (some ⟨h2.size,0,none⟩) 1 1):=.inr ⟨h2.size,rfl,BX _ (DD.2 rfl)⟩
   have rk:=rt.keep [0]
   have LS:=kp.trans (BA (AN.push h2 (Cy [0])))
   change ER _ _ _ _ _ _ _ _ _ _ (h2.push (Cy [0])) _ _
   skip
   refine BV rfl (Dv (fun _ _ _ x=>x)) ?_
   rintro _ h7 Nl ⟨rfl,rfl,u7⟩
   have rq:=rk.A5 u7
   obtain⟨c8,l8,g8,rf,kf⟩:=rq.fin (vs:=Aw (.slice (some ⟨h2.size,0,none⟩) 1 1) 0) H3 AP
   refine Bz (vs:=Aw (.slice (some ⟨h2.size,0,none⟩) 1 1) 0) rfl AP BM (A3 (c:=c8) g8 l8 (fun _ x=>x)) ?_
   rw [Au (c:=c8) (vs:=Aw (.slice (some ⟨h2.size,0,none⟩) 1 1) 0) g8 (by rw [AP];exact l8)]
   repeat(first|refine AE ?_|refine AQ ?_)
   exact BD (vs:=Aw (.slice (some ⟨h2.size,0,none⟩) 1 1) 0) rfl rfl AP (C0 (by exact AJ g8)) ⟨rfl,LS.trans ((BA u7).trans kf),_,[0],_,0,rfl,rf,Kr⟩
 rw [if_neg Gq]at rt
 by_cases NC:q.op=11
 ·rw [NC]at Qn
  rw [if_pos NC]at rt
  have cV:AF h2 ⟨b.Wd,1,none⟩=some b.V:=AD rt.mem.row rfl
  have xm:AF h2 ⟨y6,5,none⟩=some (.int .i64 q.f):=AD g6 rfl
  have jT:=Ua (main:=main) (S:=Fb (Γ:=Γ)) (h:=h2) (δ:=δ) (V:=b.V) (n:=b.c.sc.length) (s:=(s:Int)) (f:=q.f) (by obtain⟨a,k,e⟩:=ok.V.val;exact⟨a,k,by rw [e,ok.len]⟩)
  obtain⟨f2,Xc⟩:∃o:Int,o=if(s:Int)<q.f/\q.f<(b.c.sc.length:Int)then q.f else -1:=⟨_,rfl⟩
  rw [<-Xc]at jT
  repeat(first|refine AI ?_|refine AH ?_|refine AE ?_|refine Ak ?_|refine Aq ?_|refine Az ?_|refine Df ?_|refine Bs ?_|refine Bg ?_|refine BU ?_|refine Am ?_)
  refine BO (fun h'=>AF h' ⟨b.Wd,1,none⟩=some b.V/\AF h' ⟨y6,5,none⟩=some (.int .i64 q.f)) ?_
  have hZ:=And.intro cV xm
  refine AU 0 hZ ?_
  refine BE 1 hZ ?_
  refine Ag 2 hZ ?_
  refine A8 3 (fun _ hz=>hz.1) hZ ?_
  refine Ag 4 hZ ?_
  refine A8 5 (fun _ hz=>hz.2) hZ ?_
  refine AU 6 hZ ?_
  refine FE 7 rfl (by kernel_rfl) rfl rfl rfl rfl rfl rfl jT hZ ?_
  refine Dp 8 hZ ?_
  refine BF ?_
  clear hZ cV xm jT Qn
  have iv:AF h2 ⟨y6,2,none⟩=some (.int .i64 q.b):=AD g6 rfl
  rcases tz with⟨z,hz,ha,rfl⟩|⟨CO,rfl⟩
  ·rw [if_pos (show PE b.c.nC q from⟨by omega,by omega⟩),ha]at rt
   change RT b TB n0 x i hd ⟨T0.T,y8::T0.L⟩ pf Bh (LX z q.b (if(s:Int)<q.f/\q.f<(b.c.sc.length:Int)then some q.f.toNat else none) fun x r e=>kk [x,r] e) g h2 at rt
   unfold LX at rt
   by_cases U9:q.b<0
   ·rw [if_neg fun z=>by omega]at rt
    repeat(first|refine AI ?_|refine AH ?_|refine AE ?_|refine Ar ?_|refine AV ?_|refine Az ?_|refine Df ?_|refine CW ?_|refine Bl ?_|refine Bs ?_|refine Bg ?_|refine BU ?_|refine Am ?_)
    refine LB (sz:=1) (z:=.int .i64 0) (cells:=#[.int .i64 0,.int .i64 0]) rfl rfl rfl (by omega) (by omega) (by kernel_rfl) ?_
    have Kr:KL (g.kept++[(h2.size,Cy [0,0])]) [0,0] (.slice (some ⟨h2.size,0,none⟩) 2 2):=.inr ⟨h2.size,rfl,BX _ (DD.2 rfl)⟩
    have rk:=rt.keep [0,0]
    have LS:=kp.trans (BA (AN.push h2 (Cy [0,0])))
    change ER _ _ _ _ _ _ _ _ _ _ (h2.push (Cy [0,0])) _ _
    skip
    refine BV rfl (Dv (fun _ _ _ x=>x)) ?_
    rintro _ h7 Nl ⟨rfl,rfl,u7⟩
    have rq:=rk.A5 u7
    obtain⟨c8,l8,g8,rf,kf⟩:=rq.fin (vs:=Aw (.slice (some ⟨h2.size,0,none⟩) 2 2) 1) H3 AP
    refine Bz (vs:=Aw (.slice (some ⟨h2.size,0,none⟩) 2 2) 1) rfl AP BM (A3 (c:=c8) g8 l8 (fun _ x=>x)) ?_
    rw [Au (c:=c8) (vs:=Aw (.slice (some ⟨h2.size,0,none⟩) 2 2) 1) g8 (by rw [AP];exact l8)]
    repeat(first|refine AE ?_|refine AQ ?_)
    exact BD (vs:=Aw (.slice (some ⟨h2.size,0,none⟩) 2 2) 1) rfl rfl AP (C0 (by exact AJ g8)) ⟨rfl,LS.trans ((BA u7).trans kf),_,[0,0],_,1,rfl,rf,Kr⟩
   by_cases XE:4611686018427387904<q.b
   ·rw [if_neg fun z=>by omega]at rt
    repeat(first|refine AI ?_|refine AH ?_|refine AE ?_|refine Ar ?_|refine AV ?_|refine Az ?_|refine Df ?_|refine CW ?_|refine Bl ?_|refine Bd ?_|refine Bs ?_|refine Bg ?_|refine BU ?_|refine Am ?_)
    refine LB (sz:=1) (z:=.int .i64 0) (cells:=#[.int .i64 0,.int .i64 0]) rfl rfl rfl (by omega) (by omega) (by kernel_rfl) ?_
    have Kr:KL (g.kept++[(h2.size,Cy [0,0])]) [0,0] (.slice (some ⟨h2.size,0,none⟩) 2 2):=.inr ⟨h2.size,rfl,BX _ (DD.2 rfl)⟩
    have rk:=rt.keep [0,0]
    have LS:=kp.trans (BA (AN.push h2 (Cy [0,0])))
    change ER _ _ _ _ _ _ _ _ _ _ (h2.push (Cy [0,0])) _ _
    skip
    refine BV rfl (Dv (fun _ _ _ x=>x)) ?_
    rintro _ h7 Nl ⟨rfl,rfl,u7⟩
    have rq:=rk.A5 u7
    obtain⟨c8,l8,g8,rf,kf⟩:=rq.fin (vs:=Aw (.slice (some ⟨h2.size,0,none⟩) 2 2) 1) H3 AP
    refine Bz (vs:=Aw (.slice (some ⟨h2.size,0,none⟩) 2 2) 1) rfl AP BM (A3 (c:=c8) g8 l8 (fun _ x=>x)) ?_
    rw [Au (c:=c8) (vs:=Aw (.slice (some ⟨h2.size,0,none⟩) 2 2) 1) g8 (by rw [AP];exact l8)]
    repeat(first|refine AE ?_|refine AQ ?_)
    exact BD (vs:=Aw (.slice (some ⟨h2.size,0,none⟩) 2 2) 1) rfl rfl AP (C0 (by exact AJ g8)) ⟨rfl,LS.trans ((BA u7).trans kf),_,[0,0],_,1,rfl,rf,Kr⟩
   rw [if_pos ⟨by omega,by omega⟩]at rt
   by_cases KJ:(s:Int)<q.f/\q.f<(b.c.sc.length:Int)
   case neg=>
    rw [if_neg KJ]at rt Xc
    subst Xc
    repeat(first|refine AI ?_|refine AH ?_|refine AE ?_|refine Ar ?_|refine AV ?_|refine Az ?_|refine Df ?_|refine Bd ?_|refine Bs ?_|refine Bg ?_|refine BU ?_|refine Am ?_)
    refine LB (sz:=1) (z:=.int .i64 0) (cells:=#[.int .i64 0,.int .i64 0]) rfl rfl rfl (by omega) (by omega) (by kernel_rfl) ?_
    have Kr:KL (g.kept++[(h2.size,Cy [0,0])]) [0,0] (.slice (some ⟨h2.size,0,none⟩) 2 2):=.inr ⟨h2.size,rfl,BX _ (DD.2 rfl)⟩
    have rk:=rt.keep [0,0]
    have LS:=kp.trans (BA (AN.push h2 (Cy [0,0])))
    change ER _ _ _ _ _ _ _ _ _ _ (h2.push (Cy [0,0])) _ _
    skip
    refine BV rfl (Dv (fun _ _ _ x=>x)) ?_
    rintro _ h7 Nl ⟨rfl,rfl,u7⟩
    have rq:=rk.A5 u7
    obtain⟨c8,l8,g8,rf,kf⟩:=rq.fin (vs:=Aw (.slice (some ⟨h2.size,0,none⟩) 2 2) 1) H3 AP
    refine Bz (vs:=Aw (.slice (some ⟨h2.size,0,none⟩) 2 2) 1) rfl AP BM (A3 (c:=c8) g8 l8 (fun _ x=>x)) ?_
    rw [Au (c:=c8) (vs:=Aw (.slice (some ⟨h2.size,0,none⟩) 2 2) 1) g8 (by rw [AP];exact l8)]
    repeat(first|refine AE ?_|refine AQ ?_)
    exact BD (vs:=Aw (.slice (some ⟨h2.size,0,none⟩) 2 2) 1) rfl rfl AP (C0 (by exact AJ g8)) ⟨rfl,LS.trans ((BA u7).trans kf),_,[0,0],_,1,rfl,rf,Kr⟩
   rw [if_pos KJ]at rt Xc
   obtain⟨sn,hsn⟩:∃sn:Nat,q.f=sn:=⟨q.f.toNat,by omega⟩
   rw [hsn]at Xc rt
   subst Xc
   change RT b TB n0 x i hd ⟨T0.T,y8::T0.L⟩ pf Bh (KP z q.b sn (fun x r e=>kk [x,r] e) 16) g h2 at rt
   repeat(first|refine AI ?_|refine AH ?_|refine AE ?_|refine Ar ?_|refine AV ?_|refine Az ?_|refine Df ?_|refine Bd ?_|refine Bg ?_|refine Am ?_)
   refine BO (fun h'=>AF h' ⟨y6,2,none⟩=some (.int .i64 q.b)) ?_
   have hZ:=iv
   refine AU 0 hZ ?_
   refine AU 1 hZ ?_
   refine AU 2 hZ ?_
   refine Ag 3 hZ ?_
   refine A8 4 (fun _ hz=>hz) hZ ?_
   refine AU 5 hZ ?_
   refine Bj 6 rfl (by kernel_rfl) rfl rfl rfl rfl rfl rfl (Zg (fun _ x=>x)) ?_
   rintro _ h3 Hz ⟨rfl,rfl,u3⟩
   replace kp:=kp.trans (BA u3)
   replace rt:=rt.A5 u3
   replace g6:=u3.get g6 (fun x=>x)
   clear hZ iv u3
   have iv:AF h3 ⟨y6,2,none⟩=some (.int .i64 q.b):=AD g6 rfl
   refine⟨iv,?_⟩
   refine Bj 7 rfl (by kernel_rfl) rfl rfl rfl rfl rfl rfl (Zb ok Db rt hz) ?_
   rintro _ h4 MC ⟨rfl,kp4,g2,v1,v2,e,rfl,rt⟩
   replace kp:=kp.trans kp4
   replace g6:=kp4.2 _ _ _ g6 Vh
   clear iv
   have hZ:AF h4 ⟨y6,2,none⟩=some (.int .i64 q.b):=AD g6 rfl
   refine⟨hZ,?_⟩
   refine AU 8 hZ ?_
   refine Ed 9 rfl (by kernel_rfl) rfl rfl rfl rfl rfl hZ ?_
   refine Ed 10 rfl (by kernel_rfl) rfl rfl rfl rfl rfl hZ ?_
   refine Ed 11 rfl (by kernel_rfl) rfl rfl rfl rfl rfl hZ ?_
   refine Dp 12 hZ ?_
   refine Dp 13 hZ ?_
   refine Dp 14 hZ ?_
   refine BF ?_
   clear hZ
   repeat(first|refine AI ?_|refine AH ?_|refine AV ?_)
   refine LB (sz:=1) (z:=.int .i64 0) (cells:=#[.int .i64 v1,.int .i64 v2]) rfl rfl rfl (by omega) (by omega) (by kernel_rfl) ?_
   have Kr:KL (g2.kept++[(h4.size,Cy [v1,v2])]) [v1,v2] (.slice (some ⟨h4.size,0,none⟩) 2 2):=.inr ⟨h4.size,rfl,BX _ (DD.2 rfl)⟩
   have rk:=rt.keep [v1,v2]
   have LS:=kp.trans (BA (AN.push h4 (Cy [v1,v2])))
   change ER _ _ _ _ _ _ _ _ _ _ (h4.push (Cy [v1,v2])) _ _
   skip
   refine BV rfl (Dv (fun _ _ _ x=>x)) ?_
   rintro _ h7 Nl ⟨rfl,rfl,u7⟩
   have rq:=rk.A5 u7
   obtain⟨c8,l8,g8,rf,kf⟩:=rq.fin (vs:=Aw (.slice (some ⟨h4.size,0,none⟩) 2 2) e) H3 AP
   refine Bz (vs:=Aw (.slice (some ⟨h4.size,0,none⟩) 2 2) e) rfl AP BM (A3 (c:=c8) g8 l8 (fun _ x=>x)) ?_
   rw [Au (c:=c8) (vs:=Aw (.slice (some ⟨h4.size,0,none⟩) 2 2) e) g8 (by rw [AP];exact l8)]
   repeat(first|refine AE ?_|refine AQ ?_)
   exact BD (vs:=Aw (.slice (some ⟨h4.size,0,none⟩) 2 2) e) rfl rfl AP (C0 (by exact AJ g8)) ⟨rfl,LS.trans ((BA u7).trans kf),_,[v1,v2],_,e,rfl,rf,Kr⟩
  ·rw [if_neg CO]at rt
   repeat(first|refine AI ?_|refine AH ?_|refine AE ?_|refine AV ?_|refine Bs ?_|refine BU ?_)
   refine LB (sz:=1) (z:=.int .i64 0) (cells:=#[.int .i64 0,.int .i64 0]) rfl rfl rfl (by omega) (by omega) (by kernel_rfl) ?_
   have Kr:KL (g.kept++[(h2.size,Cy [0,0])]) [0,0] (.slice (some ⟨h2.size,0,none⟩) 2 2):=.inr ⟨h2.size,rfl,BX _ (DD.2 rfl)⟩
   have rk:=rt.keep [0,0]
   have LS:=kp.trans (BA (AN.push h2 (Cy [0,0])))
   change ER _ _ _ _ _ _ _ _ _ _ (h2.push (Cy [0,0])) _ _
   skip
   refine BV rfl (Dv (fun _ _ _ x=>x)) ?_
   rintro _ h7 Nl ⟨rfl,rfl,u7⟩
   have rq:=rk.A5 u7
   obtain⟨c8,l8,g8,rf,kf⟩:=rq.fin (vs:=Aw (.slice (some ⟨h2.size,0,none⟩) 2 2) 2) H3 AP
   refine Bz (vs:=Aw (.slice (some ⟨h2.size,0,none⟩) 2 2) 2) rfl AP BM (A3 (c:=c8) g8 l8 (fun _ x=>x)) ?_
   rw [Au (c:=c8) (vs:=Aw (.slice (some ⟨h2.size,0,none⟩) 2 2) 2) g8 (by rw [AP];exact l8)]
   repeat(first|refine AE ?_|refine AQ ?_)
   exact BD (vs:=Aw (.slice (some ⟨h2.size,0,none⟩) 2 2) 2) rfl rfl AP (C0 (by exact AJ g8)) ⟨rfl,LS.trans ((BA u7).trans kf),_,[0,0],_,2,rfl,rf,Kr⟩
 rw [if_neg NC]at rt
 have iv:AF h2 ⟨y6,2,none⟩=some (.int .i64 q.b):=AD g6 rfl
 have c63:AF h2 ⟨y6,3,none⟩=some (.int .i64 q.c):=AD g6 rfl
 by_cases Rx:q.op=12
 ·rw [Rx]at Qn
  rw [if_pos Rx]at rt
  rcases tz with⟨z,hz,ha,rfl⟩|⟨CO,rfl⟩
  ·rw [if_pos (show PE b.c.nC q from⟨by omega,by omega⟩),ha]at rt
   change RT b TB n0 x i hd ⟨T0.T,y8::T0.L⟩ pf Bh (FD z q.b q.c fun r=>kk [if r then 1 else 0] 0) g h2 at rt
   by_cases U9:0<=q.b
   ·by_cases XE:q.b<16
    ·repeat(first|refine AI ?_|refine AH ?_|refine AE ?_|refine Ak ?_|refine AV ?_|refine Aq ?_|refine Az ?_|refine Df ?_|refine Bl ?_|refine Bs ?_|refine Bg ?_|refine BU ?_|refine Am ?_)
     refine BV rfl (WY ok Db rt hz) ?_
     rintro _ h3 Hz ⟨rfl,Ri,r,rfl,rt⟩
     replace kp:=kp.trans Ri
     (repeat refine Bl ?_)
     refine Bx rfl (Nc (b:=r)) ?_
     obtain⟨w,hw⟩:∃w:Int,w=(if r=true then 1 else 0):=⟨_,rfl⟩
     rw [<-hw]at rt⊢
     skip
     refine Fv (sz:=1) (z:=.int .i64 0) (cells:=#[.int .i64 w]) ?_
     have Kr:KL (g.kept++[(h3.size,Cy [w])]) [w] (.slice (some ⟨h3.size,0,none⟩) 1 1):=.inr ⟨h3.size,rfl,BX _ (DD.2 rfl)⟩
     have rk:=rt.keep [w]
     have LS:=kp.trans (BA (AN.push h3 (Cy [w])))
     change ER _ _ _ _ _ _ _ _ _ _ (h3.push (Cy [w])) _ _
     skip
     refine BV rfl (Dv (fun _ _ _ x=>x)) ?_
     rintro _ h7 Nl ⟨rfl,rfl,u7⟩
     have rq:=rk.A5 u7
     obtain⟨c8,l8,g8,rf,kf⟩:=rq.fin (vs:=Aw (.slice (some ⟨h3.size,0,none⟩) 1 1) 0) H3 AP
     refine Bz (vs:=Aw (.slice (some ⟨h3.size,0,none⟩) 1 1) 0) rfl AP BM (A3 (c:=c8) g8 l8 (fun _ x=>x)) ?_
     rw [Au (c:=c8) (vs:=Aw (.slice (some ⟨h3.size,0,none⟩) 1 1) 0) g8 (by rw [AP];exact l8)]
     repeat(first|refine AE ?_|refine AQ ?_)
     exact BD (vs:=Aw (.slice (some ⟨h3.size,0,none⟩) 1 1) 0) rfl rfl AP (C0 (by exact AJ g8)) ⟨rfl,LS.trans ((BA u7).trans kf),_,[w],_,0,rfl,rf,Kr⟩
    ·unfold FD at rt
     rw [if_neg fun z=>by omega]at rt
     change RT b TB n0 x i hd ⟨T0.T,y8::T0.L⟩ pf Bh (kk [0] 0) g h2 at rt
     repeat(first|refine AI ?_|refine AH ?_|refine AE ?_|refine Ak ?_|refine AV ?_|refine Aq ?_|refine Az ?_|refine Df ?_|refine CW ?_|refine Bl ?_|refine Bd ?_|refine Bs ?_|refine Bg ?_|refine BU ?_|refine Am ?_)
     refine Bx rfl (Nc (b:=false)) ?_
     change ER _ _ _ _ _ _ _ _ ((_,.int .i64 0)::_) _ _ _ _
     skip
     refine Fv (sz:=1) (z:=.int .i64 0) (cells:=#[.int .i64 0]) ?_
     have Kr:KL (g.kept++[(h2.size,Cy [0])]) [0] (.slice (some ⟨h2.size,0,none⟩) 1 1):=.inr ⟨h2.size,rfl,BX _ (DD.2 rfl)⟩
     have rk:=rt.keep [0]
     have LS:=kp.trans (BA (AN.push h2 (Cy [0])))
     change ER _ _ _ _ _ _ _ _ _ _ (h2.push (Cy [0])) _ _
     skip
     refine BV rfl (Dv (fun _ _ _ x=>x)) ?_
     rintro _ h7 Nl ⟨rfl,rfl,u7⟩
     have rq:=rk.A5 u7
     obtain⟨c8,l8,g8,rf,kf⟩:=rq.fin (vs:=Aw (.slice (some ⟨h2.size,0,none⟩) 1 1) 0) H3 AP
     refine Bz (vs:=Aw (.slice (some ⟨h2.size,0,none⟩) 1 1) 0) rfl AP BM (A3 (c:=c8) g8 l8 (fun _ x=>x)) ?_
     rw [Au (c:=c8) (vs:=Aw (.slice (some ⟨h2.size,0,none⟩) 1 1) 0) g8 (by rw [AP];exact l8)]
     repeat(first|refine AE ?_|refine AQ ?_)
     exact BD (vs:=Aw (.slice (some ⟨h2.size,0,none⟩) 1 1) 0) rfl rfl AP (C0 (by exact AJ g8)) ⟨rfl,LS.trans ((BA u7).trans kf),_,[0],_,0,rfl,rf,Kr⟩
   ·unfold FD at rt
    rw [if_neg fun z=>by omega]at rt
    change RT b TB n0 x i hd ⟨T0.T,y8::T0.L⟩ pf Bh (kk [0] 0) g h2 at rt
    repeat(first|refine AI ?_|refine AH ?_|refine AE ?_|refine Ak ?_|refine AV ?_|refine Aq ?_|refine Az ?_|refine Df ?_|refine CW ?_|refine Bl ?_|refine Bd ?_|refine Bs ?_|refine Bg ?_|refine BU ?_|refine Am ?_)
    refine Bx rfl (Nc (b:=false)) ?_
    change ER _ _ _ _ _ _ _ _ ((_,.int .i64 0)::_) _ _ _ _
    skip
    refine Fv (sz:=1) (z:=.int .i64 0) (cells:=#[.int .i64 0]) ?_
    have Kr:KL (g.kept++[(h2.size,Cy [0])]) [0] (.slice (some ⟨h2.size,0,none⟩) 1 1):=.inr ⟨h2.size,rfl,BX _ (DD.2 rfl)⟩
    have rk:=rt.keep [0]
    have LS:=kp.trans (BA (AN.push h2 (Cy [0])))
    change ER _ _ _ _ _ _ _ _ _ _ (h2.push (Cy [0])) _ _
    skip
    refine BV rfl (Dv (fun _ _ _ x=>x)) ?_
    rintro _ h7 Nl ⟨rfl,rfl,u7⟩
    have rq:=rk.A5 u7
    obtain⟨c8,l8,g8,rf,kf⟩:=rq.fin (vs:=Aw (.slice (some ⟨h2.size,0,none⟩) 1 1) 0) H3 AP
    refine Bz (vs:=Aw (.slice (some ⟨h2.size,0,none⟩) 1 1) 0) rfl AP BM (A3 (c:=c8) g8 l8 (fun _ x=>x)) ?_
    rw [Au (c:=c8) (vs:=Aw (.slice (some ⟨h2.size,0,none⟩) 1 1) 0) g8 (by rw [AP];exact l8)]
    repeat(first|refine AE ?_|refine AQ ?_)
    exact BD (vs:=Aw (.slice (some ⟨h2.size,0,none⟩) 1 1) 0) rfl rfl AP (C0 (by exact AJ g8)) ⟨rfl,LS.trans ((BA u7).trans kf),_,[0],_,0,rfl,rf,Kr⟩
  ·rw [if_neg CO]at rt
   repeat(first|refine AI ?_|refine AH ?_|refine AE ?_|refine Ak ?_|refine AV ?_|refine Aq ?_|refine Az ?_|refine Df ?_|refine CW ?_|refine Bd ?_|refine Bs ?_|refine Bg ?_|refine BU ?_|refine Am ?_)
   refine Bx rfl (Nc (b:=false)) ?_
   change ER _ _ _ _ _ _ _ _ ((_,.int .i64 0)::_) _ _ _ _
   skip
   refine Fv (sz:=1) (z:=.int .i64 0) (cells:=#[.int .i64 0]) ?_
   have Kr:KL (g.kept++[(h2.size,Cy [0])]) [0] (.slice (some ⟨h2.size,0,none⟩) 1 1):=.inr ⟨h2.size,rfl,BX _ (DD.2 rfl)⟩
   have rk:=rt.keep [0]
   have LS:=kp.trans (BA (AN.push h2 (Cy [0])))
   change ER _ _ _ _ _ _ _ _ _ _ (h2.push (Cy [0])) _ _
   skip
   refine BV rfl (Dv (fun _ _ _ x=>x)) ?_
   rintro _ h7 Nl ⟨rfl,rfl,u7⟩
   have rq:=rk.A5 u7
   obtain⟨c8,l8,g8,rf,kf⟩:=rq.fin (vs:=Aw (.slice (some ⟨h2.size,0,none⟩) 1 1) 0) H3 AP
   refine Bz (vs:=Aw (.slice (some ⟨h2.size,0,none⟩) 1 1) 0) rfl AP BM (A3 (c:=c8) g8 l8 (fun _ x=>x)) ?_
   rw [Au (c:=c8) (vs:=Aw (.slice (some ⟨h2.size,0,none⟩) 1 1) 0) g8 (by rw [AP];exact l8)]
   repeat(first|refine AE ?_|refine AQ ?_)
   exact BD (vs:=Aw (.slice (some ⟨h2.size,0,none⟩) 1 1) 0) rfl rfl AP (C0 (by exact AJ g8)) ⟨rfl,LS.trans ((BA u7).trans kf),_,[0],_,0,rfl,rf,Kr⟩
 rw [if_neg Rx]at rt
 have ag:q.op=13:=by omega
 rw [ag]at Qn
 rw [if_pos ag]at rt
 rcases tz with⟨z,hz,ha,rfl⟩|⟨CO,rfl⟩
 ·rw [if_pos (show PE b.c.nC q from⟨by omega,by omega⟩),ha]at rt
  change RT b TB n0 x i hd ⟨T0.T,y8::T0.L⟩ pf Bh (if q.b<0 then kk [0] 1 else EH b.c.sc b.c.nC b.c.nK m z q.b fun n e=>kk [n] e) g h2 at rt
  by_cases U9:q.b<0
  ·rw [if_pos U9]at rt
   repeat(first|refine AI ?_|refine AH ?_|refine AE ?_|refine Ar ?_|refine Ak ?_|refine AV ?_|refine Aq ?_|refine Az ?_|refine Df ?_|refine Bs ?_|refine Bg ?_|refine BU ?_|refine Am ?_)
   refine Fv (sz:=1) (z:=.int .i64 0) (cells:=#[.int .i64 0]) ?_
   have Kr:KL (g.kept++[(h2.size,Cy [0])]) [0] (.slice (some ⟨h2.size,0,none⟩) 1 1):=.inr ⟨h2.size,rfl,BX _ (DD.2 rfl)⟩
   have rk:=rt.keep [0]
   have LS:=kp.trans (BA (AN.push h2 (Cy [0])))
   change ER _ _ _ _ _ _ _ _ _ _ (h2.push (Cy [0])) _ _
   skip
   refine BV rfl (Dv (fun _ _ _ x=>x)) ?_
   rintro _ h7 Nl ⟨rfl,rfl,u7⟩
   have rq:=rk.A5 u7
   obtain⟨c8,l8,g8,rf,kf⟩:=rq.fin (vs:=Aw (.slice (some ⟨h2.size,0,none⟩) 1 1) 1) H3 AP
   refine Bz (vs:=Aw (.slice (some ⟨h2.size,0,none⟩) 1 1) 1) rfl AP BM (A3 (c:=c8) g8 l8 (fun _ x=>x)) ?_
   rw [Au (c:=c8) (vs:=Aw (.slice (some ⟨h2.size,0,none⟩) 1 1) 1) g8 (by rw [AP];exact l8)]
   repeat(first|refine AE ?_|refine AQ ?_)
   exact BD (vs:=Aw (.slice (some ⟨h2.size,0,none⟩) 1 1) 1) rfl rfl AP (C0 (by exact AJ g8)) ⟨rfl,LS.trans ((BA u7).trans kf),_,[0],_,1,rfl,rf,Kr⟩
  ·rw [if_neg U9]at rt
   repeat(first|refine AI ?_|refine AH ?_|refine AE ?_|refine Ar ?_|refine Ak ?_|refine AV ?_|refine Aq ?_|refine Az ?_|refine Df ?_|refine Bs ?_|refine Bg ?_|refine BU ?_|refine Am ?_)
   refine BV rfl (dX ok Db hR rt hz (by omega)) ?_
   rintro _ h3 Hz ⟨rfl,Ri,g2,v1,e,rfl,rt⟩
   replace kp:=kp.trans Ri
   repeat(first|refine AI ?_|refine AH ?_|refine AE ?_|refine AV ?_|refine Aq ?_|refine Eo ?_)
   refine Fv (sz:=1) (z:=.int .i64 0) (cells:=#[.int .i64 v1]) ?_
   have Kr:KL (g2.kept++[(h3.size,Cy [v1])]) [v1] (.slice (some ⟨h3.size,0,none⟩) 1 1):=.inr ⟨h3.size,rfl,BX _ (DD.2 rfl)⟩
   have rk:=rt.keep [v1]
   have LS:=kp.trans (BA (AN.push h3 (Cy [v1])))
   change ER _ _ _ _ _ _ _ _ _ _ (h3.push (Cy [v1])) _ _
   skip
   refine BV rfl (Dv (fun _ _ _ x=>x)) ?_
   rintro _ h7 Nl ⟨rfl,rfl,u7⟩
   have rq:=rk.A5 u7
   obtain⟨c8,l8,g8,rf,kf⟩:=rq.fin (vs:=Aw (.slice (some ⟨h3.size,0,none⟩) 1 1) e) H3 AP
   refine Bz (vs:=Aw (.slice (some ⟨h3.size,0,none⟩) 1 1) e) rfl AP BM (A3 (c:=c8) g8 l8 (fun _ x=>x)) ?_
   rw [Au (c:=c8) (vs:=Aw (.slice (some ⟨h3.size,0,none⟩) 1 1) e) g8 (by rw [AP];exact l8)]
   repeat(first|refine AE ?_|refine AQ ?_)
   exact BD (vs:=Aw (.slice (some ⟨h3.size,0,none⟩) 1 1) e) rfl rfl AP (C0 (by exact AJ g8)) ⟨rfl,LS.trans ((BA u7).trans kf),_,[v1],_,e,rfl,rf,Kr⟩
 ·rw [if_neg CO]at rt
  repeat(first|refine AI ?_|refine AH ?_|refine AE ?_|refine Ak ?_|refine AV ?_|refine Aq ?_|refine Az ?_|refine Df ?_|refine Bs ?_|refine Bg ?_|refine BU ?_|refine Am ?_)
  refine Fv (sz:=1) (z:=.int .i64 0) (cells:=#[.int .i64 0]) ?_
  have Kr:KL (g.kept++[(h2.size,Cy [0])]) [0] (.slice (some ⟨h2.size,0,none⟩) 1 1):=.inr ⟨h2.size,rfl,BX _ (DD.2 rfl)⟩
  have rk:=rt.keep [0]
  have LS:=kp.trans (BA (AN.push h2 (Cy [0])))
  change ER _ _ _ _ _ _ _ _ _ _ (h2.push (Cy [0])) _ _
  skip
  refine BV rfl (Dv (fun _ _ _ x=>x)) ?_
  rintro _ h7 Nl ⟨rfl,rfl,u7⟩
  have rq:=rk.A5 u7
  obtain⟨c8,l8,g8,rf,kf⟩:=rq.fin (vs:=Aw (.slice (some ⟨h2.size,0,none⟩) 1 1) 2) H3 AP
  refine Bz (vs:=Aw (.slice (some ⟨h2.size,0,none⟩) 1 1) 2) rfl AP BM (A3 (c:=c8) g8 l8 (fun _ x=>x)) ?_
  rw [Au (c:=c8) (vs:=Aw (.slice (some ⟨h2.size,0,none⟩) 1 1) 2) g8 (by rw [AP];exact l8)]
  repeat(first|refine AE ?_|refine AQ ?_)
  exact BD (vs:=Aw (.slice (some ⟨h2.size,0,none⟩) 1 1) 2) rfl rfl AP (C0 (by exact AJ g8)) ⟨rfl,LS.trans ((BA u7).trans kf),_,[0],_,2,rfl,rf,Kr⟩
end
end
section
theorem VR{k:List (Nat×Obj)}{vs:List Int}{vv:Value}(h:KL k vs vv):∃va vl vc,vv= .slice va vl vc:=by
 rcases h with⟨-,rfl⟩|⟨b,rfl,-⟩
 ·exact⟨_,_,_,rfl⟩
 ·exact⟨_,_,_,rfl⟩
section
variable{Γ:Type}{main:Bool}{S:Cp Γ}{δ:Ix Γ}{b:RW}{TB n0 x i hd:Nat}{T0:TL}{pf:Pr It}{Bh:WR}{p:PA}{g:RG}{h h':Hp}{l l':List Ev}{o:List It}{id:Nat}
theorem rL(ok:b.Ok){z:Nat}(hz:z<b.c.nK):b.nm (b.c.blk (ck z))=Qq z:=by
 rw [OL];exact ok.nmK z hz
theorem Zm(ok:b.Ok)(Db:PF b.R i pf){m:Nat}(hR:∀m',m=m'+1->Mi b TB n0 x i hd pf Bh m'){s:Nat}{q:BH}{kk:List Int->Int->PA}(G6:(10<=q.op/\q.op<=13)\/100<=q.op)(rt:RT b TB n0 x i hd T0 pf Bh (E1 b.c.sc b.c.nC b.c.nK (EH b.c.sc b.c.nC b.c.nK m) s q kk) g h):
  AY Tryz.prog main (Fb (Γ:=Γ)) 101 #[ptr b.Wd,ptr hd,.agg (By q).toArray,.int .i64 (s:Int)] h δ (CJ (qn b TB n0 x i hd T0 pf Bh kk h δ)):=by
 have bZ:=ok.nK
 obtain⟨y6,Rr⟩:∃y,y=h.size:=⟨_,rfl⟩
 obtain⟨y8,Qj⟩:∃y,y=(h.push (Bo q)).size:=⟨_,rfl⟩
 refine CK (n:=115) ?_
 refine AI ?_
 refine AH ?_
 refine DO ?_
 refine Cn ?_
 refine AE ?_
 have H3:b.h0.size<=y8:=by have:=rt.mem.up.size;rw [Qj,CH];omega
 have Vs:=(rt.A5 (AN.push h (Bo q))).YF z6.toArray rfl
 rw [<-Qj]at Vs
 refine F4 (fun h'=>Kp h h'/\RT b TB n0 x i hd ⟨T0.T,y8::T0.L⟩ pf Bh (E1 b.c.sc b.c.nC b.c.nK (EH b.c.sc b.c.nC b.c.nK m) s q kk) g h'/\h'[y6]?=some (Bo q)) ⟨(BA (AN.push _ _)).trans (BA (AN.push _ _)),Vs,by rw [Rr];exact Ao _ (AG _ _)⟩ ?_
 rw [<-Qj,<-Rr]
 clear rt Vs Qj
 rintro h2 ⟨kp,rt,g6⟩
 clear Rr
 have Qn:AF h2 ⟨y6,0,none⟩=some (.int .i64 q.op):=AD g6 rfl
 have V3:AF h2 ⟨y6,1,none⟩=some (.int .i64 q.a):=AD g6 rfl
 rcases G6 with⟨Qu,Qt⟩|G6
 ·repeat(first|refine AI ?_|refine AH ?_|refine AE ?_|refine Ak ?_|refine AV ?_|refine Aq ?_|refine Az ?_|refine Df ?_|refine Bs ?_|refine Bg ?_|refine BU ?_|refine Am ?_)
  refine C5 (vs:=By q) rfl (C0 (by exact g6)) ?_
  (repeat refine AV ?_)
  refine BV rfl (kM ok Db hR ⟨Qu,Qt⟩ rt) ?_
  rintro _ h3 Hz ⟨rfl,Ri,g2,vs,vv,e,rfl,rt,XV⟩
  replace kp:=kp.trans Ri
  obtain⟨va,vl,vc,rfl⟩:=VR XV
  obtain⟨c8,l8,g8,rf,kf⟩:=rt.fin (vs:=Aw (.slice va vl vc) e) H3 AP
  refine Bz (vs:=Aw (.slice va vl vc) e) rfl AP BM (A3 (c:=c8) g8 l8 (fun _ x=>x)) ?_
  rw [Au (c:=c8) (vs:=Aw (.slice va vl vc) e) g8 (by rw [AP];exact l8)]
  repeat(first|refine AE ?_|refine AQ ?_)
  exact BD (vs:=Aw (.slice va vl vc) e) rfl rfl AP (C0 (by exact AJ g8)) ⟨rfl,kp.trans kf,g2,vs,_,e,rfl,rf,XV⟩
 have Rv:E1 b.c.sc b.c.nC b.c.nK (EH b.c.sc b.c.nC b.c.nK m) s q kk=if q.op=102/\0<=q.a/\q.a<b.c.nK then .step ⟨4,ck q.a.toNat,1,0⟩ fun w=>kk [IntKind.i64.wrap (w+1)] 0 else kk [] 0:=by
  unfold E1
  rw [if_neg (by omega),if_neg (by omega),if_neg (by omega),if_neg (by omega)]
 rw [Rv]at rt
 clear Rv
 have cK:AF h2 ⟨b.Wd,13,none⟩=some (.int .i64 b.c.nK):=AD rt.mem.row rfl
 repeat(first|refine AI ?_|refine AH ?_|refine AE ?_|refine Ak ?_|refine Aq ?_|refine Az ?_|refine Df ?_|refine Bg ?_|refine Am ?_)
 refine BO (fun h'=>AF h' ⟨y6,0,none⟩=some (.int .i64 q.op)/\AF h' ⟨y6,1,none⟩=some (.int .i64 q.a)/\AF h' ⟨b.Wd,13,none⟩=some (.int .i64 b.c.nK)) ?_
 have hZ:=And.intro Qn (And.intro V3 cK)
 refine Ag 0 hZ ?_
 refine A8 1 (fun _ hz=>hz.1) hZ ?_
 by_cases Tv:q.op=102
 ·by_cases aX:0<=q.a
  ·by_cases aU:q.a<b.c.nK
   ·obtain⟨z,hz⟩:∃z:Nat,q.a=z:=⟨q.a.toNat,by omega⟩
    have MD:z<b.c.nK:=by omega
    rw [if_pos ⟨Tv,aX,aU⟩,hz]at rt
    change RT b TB n0 x i hd ⟨T0.T,y8::T0.L⟩ pf Bh (.step ⟨4,ck z,1,0⟩ fun w=>kk [IntKind.i64.wrap (w+1)] 0) g h2 at rt
    refine G8 2 hZ ?_
    refine AU 3 hZ ?_
    refine Ag 4 hZ ?_
    refine A8 5 (fun _ hz=>hz.2.1) hZ ?_
    refine G8 6 hZ ?_
    refine IR 7 hZ ?_
    refine AU 8 hZ ?_
    refine Ag 9 hZ ?_
    refine A8 10 (fun _ hz=>hz.2.1) hZ ?_
    refine AU 11 hZ ?_
    refine BE 12 hZ ?_
    refine Ag 13 hZ ?_
    refine A8 14 (fun _ hz=>hz.2.2) hZ ?_
    refine G8 15 hZ ?_
    refine IR 16 hZ ?_
    refine Dp 17 hZ ?_
    refine BF ?_
    clear hZ
    rw [hz]at V3
    repeat(first|refine AI ?_|refine BU ?_)
    refine D7 (fun h'=>AF h' ⟨hd,0,none⟩=some (ptr x)/\AF h' ⟨y6,1,none⟩=some (.int .i64 z)) 10 ?_
    have hZ:=And.intro rt.X V3
    refine AU 0 hZ ?_
    refine BE 1 hZ ?_
    refine Ag 2 hZ ?_
    refine A8 3 (fun _ hz=>hz.1) hZ ?_
    refine Ag 4 hZ ?_
    refine A8 5 (fun _ hz=>hz.2) hZ ?_
    refine Bj 6 rfl (by kernel_rfl) rfl rfl rfl rfl rfl rfl (DX ⟨by omega,by omega⟩ ⟨by omega,by omega⟩ (fun _ x=>x)) ?_
    rintro _ h8 Qh ⟨rfl,rfl,u8⟩
    replace kp:=kp.trans (BA u8)
    replace rt:=rt.A5 u8
    replace g6:=u8.get g6 (fun x=>x)
    have cz:∀{h':Hp},h'[y6]?=some (Bo q)->AF h' ⟨y6,1,none⟩=some (.int .i64 (z:Int)):=fun gg=>by rw [<-hz];exact AD gg rfl
    clear u8 hZ Qn V3 cK
    refine⟨⟨rt.X,cz g6⟩,?_⟩
    refine Bj 7 rfl (by kernel_rfl) rfl rfl rfl rfl rfl rfl (yP ok Db rt (by rw [rL ok MD];unfold Qq;congr 1 <;> omega)) ?_
    rintro _ h9 Vp ⟨rfl,Mx,w0,rfl,rt⟩
    replace kp:=kp.trans Mx
    replace g6:=Mx.2 _ _ _ g6 Vh
    obtain⟨w,hw⟩:∃w,w=IntKind.i64.wrap (w0+1):=⟨_,rfl⟩
    rw [<-hw]at rt⊢
    refine⟨⟨rt.X,cz g6⟩,?_⟩
    have rk:=rt.keep [w]
    have LS:=kp.trans (BA (AN.push h9 (Cy [w])))
    have g6k:=Ao (o:=Cy [w]) g6
    have Kr:KL (g.kept++[(h9.size,Cy [w])]) [w] (.slice (some ⟨h9.size,0,none⟩) 1 1):=.inr ⟨h9.size,rfl,BX _ (DD.2 rfl)⟩
    have hZ:=And.intro rk.X (cz g6k)
    refine CQ (v:=.slice (some ⟨h9.size,0,none⟩) 1 1) (h':=h9.push (Cy [w])) 8 rfl (by kernel_rfl) (fun ρ Q X Aa hq=>BW (sz:=1) (z:=.int .i64 0) Aa rfl (by omega) (by omega) rfl rfl hq) hZ ?_
    refine Bj 9 rfl (by kernel_rfl) rfl rfl rfl rfl rfl rfl (Dv (fun _ _ _ x=>x)) ?_
    rintro _ h7 Nl ⟨rfl,rfl,u7⟩
    have rq:=rk.A5 u7
    obtain⟨c8,l8,g8,rf,kf⟩:=rq.fin (vs:=Aw (.slice (some ⟨h9.size,0,none⟩) 1 1) 0) H3 AP
    refine⟨⟨rq.X,cz (u7.get g6k (fun x=>x))⟩,?_⟩
    refine D6 (h':=h7.setIfInBounds y8 (A9 (Aw (.slice (some ⟨h9.size,0,none⟩) 1 1) 0))) 10 rfl (by kernel_rfl) rfl rfl rfl (fun ρ Q X Aa hq=>B6 (vs:=Aw (.slice (some ⟨h9.size,0,none⟩) 1 1) 0) (Aa _ _ rfl) (Aa _ _ rfl) AP BM (A3 (c:=c8) g8 l8 (fun _ x=>x)) (by rw [Au (c:=c8) (vs:=Aw (.slice (some ⟨h9.size,0,none⟩) 1 1) 0) g8 (by rw [AP];exact l8)];exact hq)) ?_
    refine BF ?_
    (repeat refine AQ ?_)
    exact BD (vs:=Aw (.slice (some ⟨h9.size,0,none⟩) 1 1) 0) rfl rfl AP (C0 (by exact AJ g8)) ⟨rfl,LS.trans ((BA u7).trans kf),_,[w],_,0,rfl,rf,Kr⟩
   ·rw [if_neg fun z=>aU z.2.2]at rt
    refine G8 2 hZ ?_
    refine AU 3 hZ ?_
    refine Ag 4 hZ ?_
    refine A8 5 (fun _ hz=>hz.2.1) hZ ?_
    refine G8 6 hZ ?_
    refine IR 7 hZ ?_
    refine AU 8 hZ ?_
    refine Ag 9 hZ ?_
    refine A8 10 (fun _ hz=>hz.2.1) hZ ?_
    refine AU 11 hZ ?_
    refine BE 12 hZ ?_
    refine Ag 13 hZ ?_
    refine A8 14 (fun _ hz=>hz.2.2) hZ ?_
    refine Dy 15 hZ ?_
    refine IR 16 hZ ?_
    refine Dp 17 hZ ?_
    refine BF ?_
    clear hZ
    repeat(first|refine AI ?_|refine AH ?_|refine Ar ?_|refine Bb ?_|refine Am ?_)
    refine Ep (cells:=(Aw AK 0).toArray) ?_
    obtain⟨c8,l8,g8,rf,kf⟩:=rt.fin (vs:=Aw AK 0) H3 AP
    refine Bz (vs:=Aw AK 0) rfl AP BM (A3 (c:=c8) g8 l8 (fun _ x=>x)) ?_
    rw [Au (c:=c8) (vs:=Aw AK 0) g8 (by rw [AP];exact l8)]
    repeat(first|refine AE ?_|refine AQ ?_)
    exact BD (vs:=Aw AK 0) rfl rfl AP (C0 (by exact AJ g8)) ⟨rfl,kp.trans kf,_,[],AK,0,rfl,rf,.inl ⟨rfl,rfl⟩⟩
  ·rw [if_neg fun z=>aX z.2.1]at rt
   refine G8 2 hZ ?_
   refine AU 3 hZ ?_
   refine Ag 4 hZ ?_
   refine A8 5 (fun _ hz=>hz.2.1) hZ ?_
   refine Dy 6 hZ ?_
   refine IR 7 hZ ?_
   refine AU 8 hZ ?_
   refine BB 9 hZ ?_
   refine BB 10 hZ ?_
   refine BB 11 hZ ?_
   refine BB 12 hZ ?_
   refine BB 13 hZ ?_
   refine BB 14 hZ ?_
   refine BB 15 hZ ?_
   refine Dz 16 hZ ?_
   refine Dp 17 hZ ?_
   refine BF ?_
   clear hZ
   repeat(first|refine AI ?_|refine AH ?_|refine Ar ?_|refine Bb ?_|refine Am ?_)
   refine Ep (cells:=(Aw AK 0).toArray) ?_
   obtain⟨c8,l8,g8,rf,kf⟩:=rt.fin (vs:=Aw AK 0) H3 AP
   refine Bz (vs:=Aw AK 0) rfl AP BM (A3 (c:=c8) g8 l8 (fun _ x=>x)) ?_
   rw [Au (c:=c8) (vs:=Aw AK 0) g8 (by rw [AP];exact l8)]
   repeat(first|refine AE ?_|refine AQ ?_)
   exact BD (vs:=Aw AK 0) rfl rfl AP (C0 (by exact AJ g8)) ⟨rfl,kp.trans kf,_,[],AK,0,rfl,rf,.inl ⟨rfl,rfl⟩⟩
 ·rw [if_neg fun z=>Tv z.1]at rt
  refine Dy 2 hZ ?_
  refine AU 3 hZ ?_
  refine BB 4 hZ ?_
  refine BB 5 hZ ?_
  refine BB 6 hZ ?_
  refine Dz 7 hZ ?_
  refine AU 8 hZ ?_
  refine BB 9 hZ ?_
  refine BB 10 hZ ?_
  refine BB 11 hZ ?_
  refine BB 12 hZ ?_
  refine BB 13 hZ ?_
  refine BB 14 hZ ?_
  refine BB 15 hZ ?_
  refine Dz 16 hZ ?_
  refine Dp 17 hZ ?_
  refine BF ?_
  clear hZ
  repeat(first|refine AI ?_|refine AH ?_|refine Ar ?_|refine Bb ?_|refine Am ?_)
  refine Ep (cells:=(Aw AK 0).toArray) ?_
  obtain⟨c8,l8,g8,rf,kf⟩:=rt.fin (vs:=Aw AK 0) H3 AP
  refine Bz (vs:=Aw AK 0) rfl AP BM (A3 (c:=c8) g8 l8 (fun _ x=>x)) ?_
  rw [Au (c:=c8) (vs:=Aw AK 0) g8 (by rw [AP];exact l8)]
  repeat(first|refine AE ?_|refine AQ ?_)
  exact BD (vs:=Aw AK 0) rfl rfl AP (C0 (by exact AJ g8)) ⟨rfl,kp.trans kf,_,[],AK,0,rfl,rf,.inl ⟨rfl,rfl⟩⟩
end
end
section
section
variable{Γ:Type}{main:Bool}{S:Cp Γ}{δ:Ix Γ}{h h':Hp}
theorem kR{k n:Int}:AY Tryz.prog main S 124 #[.agg #[.int .i64 k,.int .i64 n,AK]] h δ (CJ fun w h' AW=>AW=δ/\w= .bool (decide (k≠0))/\AN (fun _=>False) h h'):=by
 refine CK (n:=6) ?_
 refine AI ?_
 refine AH ?_
 refine DO ?_
 obtain⟨y,hy⟩:∃y,y=h.size:=⟨_,rfl⟩
 refine A6 (fun h'=>AN (fun _=>False) h h'/\AF h' ⟨y,0,none⟩=some (.int .i64 k)) ⟨AN.push _ _,by rw [hy];exact AD (AG _ _) rfl⟩ ?_
 rw [<-hy]
 rintro h1 ⟨u1,c0⟩
 by_cases hk:k=0
 ·subst hk
  repeat(first|refine AI ?_|refine AH ?_|refine AE ?_|refine Aq ?_|refine Az ?_|refine Bg ?_|refine AQ ?_|refine Av rfl (by assumption) ?_)
  exact CL rfl ⟨rfl,rfl,u1⟩
 ·rw [H9 hk]
  repeat(first|refine AI ?_|refine AH ?_|refine AE ?_|refine Aq ?_|refine Az ?_|refine Bs ?_|refine AQ ?_|refine Av rfl (by assumption) ?_)
  exact CL rfl ⟨rfl,rfl,u1⟩
theorem Uc{a k n:Int}:AY Tryz.prog main S 104 #[.agg (Bu a k n).toArray] h δ (CJ fun w h' AW=>AW=δ/\w= .bool (decide (k≠0))/\AN (fun _=>False) h h'):=by
 refine CK (n:=6) ?_
 refine AI ?_
 refine AH ?_
 refine DO ?_
 obtain⟨y,hy⟩:∃y,y=h.size:=⟨_,rfl⟩
 refine A6 (fun h'=>AN (fun _=>False) h h'/\TJ.A0 h' y 1 [.int .i64 k,.int .i64 n,AK]) ⟨AN.push _ _,?_⟩ ?_
 ·rw [hy]
  intro q v hv
  have hq:q<3:=(Gv.1 hv).1
  rcases (show q=0\/q=1\/q=2 by omega)with rfl|rfl|rfl
  ·exact AD (AG _ _) hv
  ·exact AD (AG _ _) hv
  ·exact AD (AG _ _) hv
 rw [<-hy]
 rintro h1 ⟨u1,c0⟩
 repeat(first|refine AI ?_|refine AH ?_|refine AE ?_|refine Aq ?_|refine Az ?_)
 refine C5 (vs:=[.int .i64 k,.int .i64 n,AK]) rfl c0 ?_
 refine BV rfl kR ?_
 rintro _ h2 FJ ⟨rfl,rfl,u2⟩
 repeat(first|refine AE ?_|refine Aq ?_|refine AQ ?_)
 exact CL rfl ⟨rfl,rfl,u1.trans u2⟩
theorem QS{a k n:Int}(hS:∀b,h.size<=b->∀o,¬S.still δ.g ⟨b,o,none⟩):AY Tryz.prog main S 100 #[.agg (Bu a k n).toArray] h δ (CJ fun w h' AW=>AW=δ/\(∃x:Int,w= .agg (Bu x k n).toArray)/\AN (fun _=>False) h h'):=by
 refine CK (n:=7) ?_
 refine AI ?_
 refine AH ?_
 refine DO ?_
 refine Cn ?_
 obtain⟨y1,XU⟩:∃y,y=h.size:=⟨_,rfl⟩
 obtain⟨y2,XT⟩:∃y,y=(h.push (GC (Bu a k n))).size:=⟨_,rfl⟩
 have Cg:y1<y2:=by rw [XU,XT,CH];omega
 refine A6 (fun h'=>AN (fun _=>False) h h'/\h'[y1]?=some (GC (Bu a k n))/\h'[y2]?=some (GC (Bu 0 0 0))) ⟨(AN.push _ _).trans (AN.push _ _),by rw [XU];exact Ao _ (AG _ _),by rw [XT];exact AG _ _⟩ ?_
 rw [<-XT,<-XU]
 rintro h1 ⟨u1,g1,g2⟩
 have s1:h.size<=y1:=by omega
 have s2:h.size<=y2:=by omega
 repeat(first|refine AI ?_|refine AH ?_|refine AE ?_)
 refine C5 (vs:=Bu a k n) rfl (C0 (by exact g1)) ?_
 refine BV rfl Uc ?_
 rintro _ h2 FJ ⟨rfl,rfl,u2⟩
 replace u1:=u1.trans u2
 replace g1:=u2.get g1 (fun x=>x)
 replace g2:=u2.get g2 (fun x=>x)
 clear u2
 repeat(first|refine AE ?_|refine AI ?_)
 refine F3 (fun _:Int=>[(1,ptr y1),(2,ptr y2)]) (fun x h' AW=>AW=FJ/\AN (fun _=>False) h h'/\h'[y1]?=some (GC (Bu x k n))/\h'[y2]?=some (GC (Bu 0 0 0))) (fun _ key=>?_) ?_
 ·by_cases hk:k=0
  ·subst hk
   repeat(first|refine Ar ?_|refine Am ?_)
   exact Ah (key a _ _ ⟨rfl,u1,g1,g2⟩) ⟨rfl,rfl,trivial⟩
  ·rw [H9 hk]
   repeat(first|refine AH ?_|refine Az ?_|refine BU ?_)
   refine CS rfl ⟨nofun,nofun⟩ ⟨_,(AD g1 rfl:AF h2 ⟨y1,0,none⟩=some (.int .i64 a))⟩ (AS g1) (hS _ s1 _) ?_
   rw [As g1]
   change ER _ _ _ _ _ _ _ _ _ _ (h2.setIfInBounds y1 (GC (Bu 0 k n))) _ _
   (repeat refine AE ?_)
   exact Ah (key 0 _ _ ⟨rfl,u1.over (AN.set (T:=fun b=>b=y1) _ _ _ rfl) (fun b hb=>by omega),AJ g1,by rw [AX _ (by omega)];exact g2⟩) ⟨rfl,rfl,trivial⟩
 clear u1 g1 g2
 rintro x h3 Hz ⟨rfl,u1,g1,g2⟩
 repeat(first|refine AI ?_|refine AH ?_)
 refine C5 (vs:=Bu x k n) rfl (C0 (by exact g1)) ?_
 refine Bz (vs:=Bu x k n) rfl rfl (by simp [Bu,OneCell]) (A3 (c:=Bu 0 0 0) g2 rfl (hS _ s2)) ?_
 rw [Au (c:=Bu 0 0 0) (vs:=Bu x k n) g2 rfl]
 repeat(first|refine AE ?_|refine AQ ?_)
 exact BD (vs:=Bu x k n) rfl rfl rfl (C0 (by exact AJ g2)) ⟨rfl,⟨x,rfl⟩,u1.over (AN.set (T:=fun b=>b=y2) _ _ _ rfl) (fun b hb=>by omega)⟩
end
section
variable{Γ:Type}{main:Bool}{S:Cp Γ}{δ:Ix Γ}{b:RW}{TB n0 x i hd:Nat}{T0:TL}{pf:Pr It}{Bh:WR}{p:PA}{g:RG}{h h':Hp}{l l':List Ev}{o:List It}{id:Nat}
theorem RT.cD(r:RT b TB n0 x i hd T0 pf Bh p g h){y:Nat}{a:Array Value}{t:TypeId}(u:AN (fun z=>z=y) h h')(gy:h[y]?=some (.cells a t (0,0)))(KG:b.h0.size<=y)(ht:¬Tj t)(h1:t≠2)(h2:t≠146)(h3:t≠141):RT b TB n0 x i hd T0 pf Bh p g h':=by
 have hw:=ht
 unfold Tj at hw
 refine r.loc u gy KG ⟨fun e=>hw (by simp [e]),fun e=>hw (by simp [e]),h1,h2,fun e=>hw (by simp [e]),fun e=>hw (by simp [e]),fun e=>hw (by simp [e]),h3⟩ (fun e=>Ac r.mem.IN gy (fun e=>hw (by simp [<-e])) y e rfl) (fun j hj e=>Ac (r.mem.NQ j hj) gy (fun e=>hw (by simp [<-e])) y e rfl) fun hL=>?_
 obtain⟨⟨a',q,-⟩,-⟩:=r.own y hL
 rw [gy]at q
 injection q with q
 injection q with _ q _
 exact absurd (show Tj t by unfold Tj;simp [q]) ht
theorem Kp.pr{y:Nat}{a:Array Value}{t:TypeId}(gy:h[y]?=some (.cells a t (0,0)))(u:AN (fun z=>z=y) h h'):h.size<=h'.size/\∀(z:Nat) (a':Array Value) (t':TypeId),z≠y->h[z]?=some (.cells a' t' (0,0))->h'[z]?=some (.cells a' t' (0,0)):=
 ⟨u.size,fun z a' t' hz g=>u.get g hz⟩
theorem RT.wr{T:Nat->List TE}{L:List Nat}{y:Nat}{vs:List Value}(r:RT b TB n0 x i hd ⟨T,y::L⟩ pf Bh p g h)(KG:b.h0.size<=y)(hl:vs.length=6):RT b TB n0 x i hd ⟨T,y::L⟩ pf Bh p g (h.setIfInBounds y (A9 vs))/\Kp h (h.setIfInBounds y (A9 vs))/\(h.setIfInBounds y (A9 vs))[y]?=some (A9 vs)/\∃c:List Value,c.length=6/\h[y]?=some (A9 c):=by
 obtain⟨⟨a,h1,h2⟩,h3⟩:=r.own y BJ
 have u:AN (fun z=>z=y) h (h.setIfInBounds y (A9 vs)):=AN.set _ _ _ rfl
 have r2:=r.loc u h1 KG (by decide) (fun e=>Ac r.mem.IN h1 (by decide) y e rfl) h3 (fun _=>⟨_,AJ h1,by rw [List.size_toArray];exact hl⟩)
 exact⟨r2,Jd u fun z hz _=>by rw [hz];exact⟨_,_,h1,.inr (.inr (.inr (.inr (.inr (.inl rfl)))))⟩,AJ h1,a.toList,by rw [Array.length_toList];exact h2,by rw [h1]⟩
theorem Hr:¬Tj 129:=by unfold Tj;decide
def Kn(n:Nat)(h h':Hp):Prop:=h.size<=h'.size/\∀(y:Nat) (a:Array Value) (t:TypeId),y<n->h[y]?=some (.cells a t (0,0))->¬Tj t->h'[y]?=some (.cells a t (0,0))
theorem Kn.bn{n:Nat}(k:Kn n h h')(e:n=h.size):Kp h h':=⟨k.1,fun y a t hy hn=>k.2 y a t (by rw [e];exact Ap hy) hy hn⟩
theorem Kp.NF{n:Nat}(k:Kp h h'):Kn n h h':=⟨k.1,fun y a t _ hy hn=>k.2 y a t hy hn⟩
theorem Kn.trans{n:Nat}{h1 h2 h3:Hp}(a:Kn n h1 h2)(c:Kn n h2 h3):Kn n h1 h3:=⟨Dt a.1 c.1,fun y v t hl x hn=>c.2 y v t hl (a.2 y v t hl x hn) hn⟩
theorem Kn.set{n y:Nat}(hy:n<=y)(o:Obj):Kn n h (h.setIfInBounds y o):=⟨by rw [JY];exact CY _,fun z a t hz hg _=>by rw [AX _ (by omega)];exact hg⟩
theorem So(ok:b.Ok)(Db:PF b.R i pf){m:Nat}(hR:∀m',m=m'+1->Mi b TB n0 x i hd pf Bh m'){s:Nat}{sc:List BH}{tf:Bool}{k:PA}(hs:b.c.sc[s]?=some sc)(rt:RT b TB n0 x i hd T0 pf Bh (if tf=true then .emit ⟨s,-1,[0],0,0⟩ (DV b.c.sc b.c.nC b.c.nK (EH b.c.sc b.c.nC b.c.nK m) s k 0 sc)else DV b.c.sc b.c.nC b.c.nK (EH b.c.sc b.c.nC b.c.nK m) s k 0 sc) g h):
  AY Tryz.prog main (Fb (Γ:=Γ)) 78 #[ptr b.Wd,ptr hd,.int .i64 (s:Int),.agg R6.toArray,.bool false,.bool tf] h δ (CJ fun _ h' AW=>AW=δ/\Kp h h'/\∃g',RT b TB n0 x i hd T0 pf Bh k g' h'):=by
 have MA:s<b.c.sc.length:=(Gv.1 hs).1
 have qZ:=ok.few
 obtain⟨Xh,sv,wY,yn⟩:=ok.sc s sc hs
 have My:s<b.ws.length:=by rw [ok.len];exact MA
 have AFP:b.ws.length<=16:=by rw [ok.len];exact ok.few
 have hh0:=rt.mem.up.size
 obtain⟨y9,mg⟩:∃y,y=h.size:=⟨_,rfl⟩
 obtain⟨TX,cS⟩:∃y,y=(h.push (GC R6)).size:=⟨_,rfl⟩
 have AFX:h.size<TX:=by rw [cS,CH];omega
 refine CK (n:=100) ?_
 refine AI ?_
 refine AH ?_
 refine DO ?_
 refine Cn ?_
 refine AE ?_
 refine F4 (fun h'=>Kn y9 h h'/\RT b TB n0 x i hd T0 pf Bh (if tf=true then .emit ⟨s,-1,[0],0,0⟩ (DV b.c.sc b.c.nC b.c.nK (EH b.c.sc b.c.nC b.c.nK m) s k 0 sc)else DV b.c.sc b.c.nC b.c.nK (EH b.c.sc b.c.nC b.c.nK m) s k 0 sc) g h'/\h'[y9]?=some (GC (Bu 0 0 0))/\h'[TX]?=some (GC (Bu 0 0 0))) ⟨((BA (AN.push _ _)).trans (BA (AN.push _ _))).NF,(rt.A5 (AN.push _ _)).A5 (AN.push _ _),by rw [mg];exact Ao _ (AG _ _),by rw [cS];exact AG _ _⟩ ?_
 rw [<-cS,<-mg]
 clear rt cS
 rintro h2 ⟨kn,rt,g9,Gn⟩
 repeat(first|refine AI ?_|refine AH ?_|refine AE ?_|refine AV ?_)
 refine F3 (fun _:RG=>[(0,ptr b.Wd),(1,ptr hd),(2,.int .i64 (s:Int)),(4,.bool false),(12,ptr TX)]) (fun g2 h' AW=>AW=δ/\Kn y9 h h'/\RT b TB n0 x i hd T0 pf Bh (DV b.c.sc b.c.nC b.c.nK (EH b.c.sc b.c.nC b.c.nK m) s k 0 sc) g2 h'/\h'[TX]?=some (GC (Bu 0 0 0))) (fun _ key=>?_) ?_
 ·cases tf with
  | false=>
   rw [if_neg nofun]at rt
   repeat(first|refine Ar ?_|refine Am ?_)
   exact Ah (key g _ _ ⟨rfl,kn,rt,Gn⟩) ⟨rfl,rfl,rfl,rfl,rfl,trivial⟩
  | true=>
   rw [if_pos rfl]at rt
   have c9:AF h2 ⟨y9,0,none⟩=some (.int .i64 0):=AD g9 rfl
   repeat(first|refine AH ?_|refine AV ?_|refine Az ?_|refine Df ?_|refine BU ?_)
   refine Fv (sz:=1) (z:=.int .i64 0) (cells:=#[.int .i64 0]) ?_
   have rk:=rt.keep [0]
   have knk:=kn.trans (BA (AN.push h2 (Cy [0]))).NF
   have xT:=Ao (o:=Cy [0]) g9
   have zW:=Ao (o:=Cy [0]) Gn
   have Kr:KL (g.kept++[(h2.size,Cy [0])]) [0] (.slice (some ⟨h2.size,0,none⟩) 1 1):=.inr ⟨h2.size,rfl,BX _ (DD.2 rfl)⟩
   have r9:TJ.A0 (h2.push (Cy [0])) y9 1 [.int .i64 0,.int .i64 0,AK]:=by
    intro q v hv
    have hq:q<3:=(Gv.1 hv).1
    rcases (show q=0\/q=1\/q=2 by omega)with rfl|rfl|rfl
    ·exact AD xT hv
    ·exact AD xT hv
    ·exact AD xT hv
   clear c9
   (repeat refine Az ?_)
   refine C5 (vs:=[.int .i64 0,.int .i64 0,AK]) rfl r9 ?_
   refine Ep (cells:=(Dd s (-1) (.slice (some ⟨h2.size,0,none⟩) 1 1) 0).toArray) ?_
   rw [Jf (vs:=[0])]
   refine BV rfl (Sk (e:=LW s (-1) [0] (.slice (some ⟨h2.size,0,none⟩) 1 1) 0) Db rk ⟨Kr⟩ (Oe rfl)) ?_
   rintro _ h3 Hz ⟨rfl,Ri,g3,W0⟩
   (repeat refine AE ?_)
   exact Ah (key g3 _ _ ⟨rfl,knk.trans Ri.NF,W0,Ri.2 _ _ _ zW Hr⟩) ⟨rfl,rfl,rfl,rfl,rfl,trivial⟩
 clear rt kn g9 Gn
 rintro g2 h3 Hz ⟨rfl,kn,rt,Gn⟩
 repeat(first|refine AI ?_|refine AH ?_|refine AE ?_|refine Ak ?_|refine Aq ?_)
 refine B1 (fun q:Nat×RG=>[(13,.int .i64 q.1),(0,ptr b.Wd),(1,ptr hd),(2,.int .i64 (s:Int)),(4,.bool false),(12,ptr TX)]) (fun q h' AW=>AW=Hz/\q.1<=sc.length/\Kn y9 h h'/\RT b TB n0 x i hd T0 pf Bh (DV b.c.sc b.c.nC b.c.nK (EH b.c.sc b.c.nC b.c.nK m) s k q.1 (sc.drop q.1)) q.2 h'/\h'[TX]?=some (GC (Bu 0 0 0))) (fun q=>sc.length-q.1) (0,g2) ⟨rfl,rfl,rfl,rfl,rfl,rfl,trivial⟩ ⟨rfl,Bv _,kn,rt,Gn⟩ ?_
 clear rt kn Gn
 rintro⟨j,g3⟩ h4 MC ⟨DL,hj,kn,rt,Gn⟩ again
 dsimp only at DL hj kn rt Gn again⊢
 subst DL
 have cX:=rt.X
 have c1:AF h4 ⟨b.Wd,1,none⟩=some b.V:=AD rt.mem.row rfl
 have hV:=ok.V.upd rt.mem.up (fun _ _ _ z=>z)
 obtain⟨bV,oV,kV,eV,ou⟩:=hV.one wY
 rw [eV]at c1
 have c2:AF h4 ⟨bV,oV+s*1,none⟩=some sv:=ou _ hV
 have jR:=yn.upd rt.mem.up (fun _ _ z=>z)
 obtain⟨av,cv,fJ⟩:=jR.val
 by_cases oX:j<sc.length
 case neg=>
  have ek:j=sc.length:=by omega
  subst ek
  rw [Qb (CY _)]at rt
  rw [fJ]at c2
  repeat(first|refine AI ?_|refine AH ?_|refine AE ?_|refine AV ?_|refine Bc ?_|refine Az ?_|refine CW ?_|refine Bd ?_|refine Bg ?_|refine BN ?_|refine Cd ?_|refine Am ?_|refine B8 ?_|refine Av rfl (by assumption) ?_)
  refine Ep (cells:=(Bu 0 0 0).toArray) ?_
  have XO:AN (fun z=>z=TX) h4 (h4.setIfInBounds TX (GC (Bu 0 0 0))):=AN.set _ _ _ rfl
  have rf:=rt.cD XO Gn (by omega) Hr (by decide) (by decide) (by decide)
  refine Bz (vs:=Bu 0 0 0) rfl rfl (by simp [Bu,OneCell]) (A3 (c:=Bu 0 0 0) Gn rfl (fun _ x=>x)) ?_
  rw [Au (c:=Bu 0 0 0) (vs:=Bu 0 0 0) Gn rfl]
  repeat(first|refine AE ?_|refine AQ ?_)
  exact BD (vs:=Bu 0 0 0) rfl rfl rfl (C0 (by exact AJ Gn)) ⟨rfl,(kn.trans (Kn.set (by omega) _)).bn mg,_,rf⟩
 rcases rt.cases.symm with⟨hf,ho⟩|⟨hf,-⟩
 ·replace rt:RT b TB n0 x i hd T0 pf Bh k g3 h4:=rt.F6 ho
  rw [fJ]at c2
  repeat(first|refine AI ?_|refine AH ?_|refine AE ?_|refine AV ?_|refine Bc ?_|refine Az ?_|refine B9 ?_|refine Bl ?_|refine Bs ?_|refine BN ?_|refine Cd ?_|refine Am ?_|refine B8 ?_|refine Av rfl (by assumption) ?_)
  refine Ep (cells:=(Bu 0 0 0).toArray) ?_
  have XO:AN (fun z=>z=TX) h4 (h4.setIfInBounds TX (GC (Bu 0 0 0))):=AN.set _ _ _ rfl
  have rf:=rt.cD XO Gn (by omega) Hr (by decide) (by decide) (by decide)
  refine Bz (vs:=Bu 0 0 0) rfl rfl (by simp [Bu,OneCell]) (A3 (c:=Bu 0 0 0) Gn rfl (fun _ x=>x)) ?_
  rw [Au (c:=Bu 0 0 0) (vs:=Bu 0 0 0) Gn rfl]
  repeat(first|refine AE ?_|refine AQ ?_)
  exact BD (vs:=Bu 0 0 0) rfl rfl rfl (C0 (by exact AJ Gn)) ⟨rfl,(kn.trans (Kn.set (by omega) _)).bn mg,_,rf⟩
 obtain⟨q,hq⟩:∃q,sc[j]?=some q:=⟨_,Cl oX⟩
 rw [Sy hq]at rt
 obtain⟨b2,zZ,e2,Rw,-⟩:=AR.cell jR (by omega)
 rw [e2]at c2
 have SC:TJ.A0 h4 b2 (0+j*7) (By q):=fun r v hv=>by
  rw [show 0+j*7+r=j*7+r by omega]
  refine Rw _ _ ?_
  rw [Mc hq r (by have:=(Gv.1 hv).1;exact this)]
  exact hv
 obtain⟨la,ll,lc,tq⟩:=ok.sl s sc q hs (Fg hq)
 have G6:=ok.ops s sc q hs (Fg hq)
 repeat(first|refine AI ?_|refine AH ?_|refine AE ?_|refine Ar ?_|refine Ak ?_|refine AV ?_|refine Bc ?_|refine Az ?_|refine B9 ?_|refine Bl ?_|refine Bs ?_|refine BN ?_|refine Cd ?_|refine BU ?_|refine Av rfl (by assumption) ?_)
 refine C5 (vs:=By q) rfl SC ?_
 (repeat refine Cn ?_)
 change ER _ _ _ _ _ _ _ _ _ _ (h4.push (Bo ⟨0,0,0,0,0,0,AK⟩)) _ _
 refine Bz (vs:=By q) rfl rfl (by rw [By,tq];simp [OneCell]) (A3 (c:=By ⟨0,0,0,0,0,0,AK⟩) (AG _ _) rfl (fun _ x=>x)) ?_
 rw [Bw (c:=By ⟨0,0,0,0,0,0,AK⟩) (vs:=By q) rfl]
 obtain⟨mN,jL⟩:∃y,y=h4.size:=⟨_,rfl⟩
 have s14:h.size<=mN:=by have:=kn.1;omega
 have CO:AF (h4.push (Bo q)) ⟨x,2,none⟩=some (.bool false):=(AN.push (T:=fun _=>False) _ _).AF hf (fun z=>z)
 refine A6 (fun h'=>Kn y9 h h'/\RT b TB n0 x i hd T0 pf Bh (if q.op=100\/q.op=101 then k else E1 b.c.sc b.c.nC b.c.nK (EH b.c.sc b.c.nC b.c.nK m) s q fun vs e=>.emit (bm s j vs e) (DV b.c.sc b.c.nC b.c.nK (EH b.c.sc b.c.nC b.c.nK m) s k (j+1) (sc.drop (j+1)))) g3 h'/\h'[TX]?=some (GC (Bu 0 0 0))/\h'[mN]?=some (Bo q)) ⟨kn.trans (BA (AN.push _ _)).NF,rt.A5 (AN.push _ _),Ao _ Gn,by rw [jL];exact AG _ _⟩ ?_
 rw [<-jL]
 clear rt kn Gn jL SC c1 c2 cX Rw ou hV jR fJ e2 eV hf CO
 rintro h5 ⟨kn,rt,Gn,nS⟩
 have d0:AF h5 ⟨mN,0,none⟩=some (.int .i64 q.op):=AD nS rfl
 have d2:AF h5 ⟨mN,2,none⟩=some (.int .i64 q.b):=AD nS rfl
 have d3:AF h5 ⟨mN,3,none⟩=some (.int .i64 q.c):=AD nS rfl
 have d4:AF h5 ⟨mN,4,none⟩=some (.int .i64 q.d):=AD nS rfl
 by_cases Tx:q.op=100
 ·rw [if_pos (.inl Tx)]at rt
  rw [Tx]at d0
  repeat(first|refine AI ?_|refine AH ?_|refine AE ?_|refine AV ?_|refine Az ?_|refine Df ?_|refine CW ?_|refine Bl ?_|refine Bs ?_|refine BU ?_)
  refine BV rfl (Oj (fun _ x=>x)) ?_
  rintro _ h6 TW ⟨v1,k1,n1,rfl,u6,rfl⟩
  refine BV rfl (QS (fun _ _ _ x=>x)) ?_
  rintro _ h7 Nl ⟨rfl,⟨v2,rfl⟩,u7⟩
  have Wz:=u6.trans u7
  replace rt:=rt.A5 Wz
  replace kn:=kn.trans (BA Wz).NF
  replace Gn:=Wz.get Gn (fun x=>x)
  have XO:AN (fun z=>z=TX) h7 (h7.setIfInBounds TX (GC (Bu v2 k1 n1))):=AN.set _ _ _ rfl
  have rf:=rt.cD XO Gn (by omega) Hr (by decide) (by decide) (by decide)
  refine Bz (vs:=Bu v2 k1 n1) rfl rfl (by simp [Bu,OneCell]) (A3 (c:=Bu 0 0 0) Gn rfl (fun _ x=>x)) ?_
  rw [Au (c:=Bu 0 0 0) (vs:=Bu v2 k1 n1) Gn rfl]
  repeat(first|refine AE ?_|refine AQ ?_)
  exact BD (vs:=Bu v2 k1 n1) rfl rfl rfl (C0 (by exact AJ Gn)) ⟨rfl,(kn.trans (Kn.set (by omega) _)).bn mg,_,rf⟩
 by_cases Tw:q.op=101
 ·rw [if_pos (.inr Tw)]at rt
  rw [Tw]at d0
  repeat(first|refine AI ?_|refine AH ?_|refine AE ?_|refine AV ?_|refine Az ?_|refine Df ?_|refine B9 ?_|refine Bl ?_|refine Bd ?_|refine Bs ?_|refine Bg ?_|refine BU ?_)
  refine BV rfl (Oj (fun _ x=>x)) ?_
  rintro _ h6 TW ⟨v1,k1,n1,rfl,u6,rfl⟩
  refine BV rfl (QS (fun _ _ _ x=>x)) ?_
  rintro _ h7 Nl ⟨rfl,⟨v2,rfl⟩,u7⟩
  have Wz:=u6.trans u7
  replace rt:=rt.A5 Wz
  replace kn:=kn.trans (BA Wz).NF
  replace Gn:=Wz.get Gn (fun x=>x)
  have XO:AN (fun z=>z=TX) h7 (h7.setIfInBounds TX (GC (Bu v2 k1 n1))):=AN.set _ _ _ rfl
  have rf:=rt.cD XO Gn (by omega) Hr (by decide) (by decide) (by decide)
  refine Bz (vs:=Bu v2 k1 n1) rfl rfl (by simp [Bu,OneCell]) (A3 (c:=Bu 0 0 0) Gn rfl (fun _ x=>x)) ?_
  rw [Au (c:=Bu 0 0 0) (vs:=Bu v2 k1 n1) Gn rfl]
  repeat(first|refine AE ?_|refine AQ ?_)
  exact BD (vs:=Bu v2 k1 n1) rfl rfl rfl (C0 (by exact AJ Gn)) ⟨rfl,(kn.trans (Kn.set (by omega) _)).bn mg,_,rf⟩
 rw [if_neg fun z=>z.elim Tx Tw]at rt
 clear d2 d3 d4
 repeat(first|refine AI ?_|refine AH ?_|refine AE ?_|refine Ar ?_|refine AV ?_|refine Az ?_|refine Df ?_|refine CW ?_|refine Bd ?_|refine Bg ?_|refine Am ?_)
 refine C5 (vs:=By q) rfl (C0 (by exact nS)) ?_
 (repeat refine AV ?_)
 refine BV rfl (Zm ok Db hR G6 rt) ?_
 rintro _ h6 TW ⟨rfl,wB,g6,vs,vv,e,rfl,rt,XV⟩
 replace kn:=kn.trans wB.NF
 replace Gn:=wB.2 _ _ _ Gn Hr
 clear d0 nS wB
 obtain⟨va,vl,vc,pM⟩:=VR XV
 obtain⟨eX,jK⟩:∃y,y=h6.size:=⟨_,rfl⟩
 have s15:h.size<=eX:=by have:=kn.1;omega
 have Vs:=rt.YF z6.toArray rfl
 rw [<-jK]at Vs
 (repeat refine Cn ?_)
 refine A6 (fun h'=>Kn y9 h h'/\RT b TB n0 x i hd ⟨T0.T,eX::T0.L⟩ pf Bh (.emit (bm s j vs e) (DV b.c.sc b.c.nC b.c.nK (EH b.c.sc b.c.nC b.c.nK m) s k (j+1) (sc.drop (j+1)))) g6 h'/\h'[TX]?=some (GC (Bu 0 0 0))) ⟨kn.trans (BA (AN.push _ _)).NF,Vs,Ao _ Gn⟩ ?_
 rw [<-jK]
 clear rt Vs kn Gn jK
 rintro h7 ⟨kn,rt,Gn⟩
 obtain⟨vZ,wA,bj,c,lc7,gc⟩:=rt.wr (vs:=Dd 0 0 vv e) (by omega) F7
 refine Bz (vs:=Dd 0 0 vv e) rfl F7 (by rw [pM];exact Lq) (A3 (c:=c) gc lc7 (fun _ x=>x)) ?_
 rw [Au (c:=c) (vs:=Dd 0 0 vv e) gc (by rw [F7];exact lc7)]
 replace kn:=kn.trans wA.NF
 replace Gn:=wA.2 _ _ _ Gn Hr
 clear rt gc wA
 change ER _ _ _ _ _ _ _ _ _ _ (h7.setIfInBounds eX (A9 (Dd 0 0 vv e))) _ _
 generalize h7.setIfInBounds eX (A9 (Dd 0 0 vv e))=h8 at vZ kn Gn bj⊢
 repeat(first|refine AI ?_|refine AH ?_|refine AE ?_|refine AV ?_|refine Az ?_)
 refine CS rfl (by simp [OneCell]) ⟨_,AD bj rfl⟩ (AS bj) (fun x=>x) ?_
 rw [As bj,QH]
 obtain⟨iL,vz,X1,-⟩:=vZ.wr (vs:=Dd s 0 vv e) (by omega) F7
 replace kn:=kn.trans vz.NF
 replace Gn:=vz.2 _ _ _ Gn Hr
 clear vZ bj vz
 change ER _ _ _ _ _ _ _ _ _ _ (h8.setIfInBounds eX (A9 (Dd s 0 vv e))) _ _
 generalize h8.setIfInBounds eX (A9 (Dd s 0 vv e))=h9 at iL kn Gn X1⊢
 repeat(first|refine AI ?_|refine AH ?_|refine AE ?_|refine AV ?_|refine Az ?_)
 refine CS rfl (by simp [OneCell]) ⟨_,AD X1 rfl⟩ (AS X1) (fun x=>x) ?_
 rw [As X1,QG]
 obtain⟨Pn,Mx,bj,-⟩:=iL.wr (vs:=Dd s j vv e) (by omega) F7
 replace kn:=kn.trans Mx.NF
 replace Gn:=Mx.2 _ _ _ Gn Hr
 clear iL X1 Mx
 change ER _ _ _ _ _ _ _ _ _ _ (h9.setIfInBounds eX (A9 (Dd s j vv e))) _ _
 generalize h9.setIfInBounds eX (A9 (Dd s j vv e))=Gq at Pn kn Gn bj⊢
 rw [Jf (s:=s) (k:=j) (vs:=vs) (vv:=vv) (e:=e)]at bj
 have Ky:=Oe (e:=LW s j vs vv e) pM
 repeat(first|refine AH ?_|refine AE ?_|refine AV ?_)
 refine C5 (vs:=Ex (LW s j vs vv e)) rfl (C0 (by exact bj)) ?_
 refine BV rfl (Sk (e:=LW s j vs vv e) Db Pn ⟨XV⟩ Ky) ?_
 rintro _ NC Tl ⟨rfl,MF,uv,yO⟩
 repeat(first|refine AH ?_|refine AE ?_|refine Bb ?_|refine AV ?_|refine Aq ?_|refine BR (kd:=.i64) rfl (i64_in (by omega) (by omega)) ?_)
 exact Ah (again (j+1,uv) _ _ (by show sc.length-(j+1)<sc.length-j;omega) ⟨rfl,by show j+1<=sc.length;omega,kn.trans MF.NF,yO.py,MF.2 _ _ _ Gn Hr⟩) ⟨rfl,rfl,rfl,rfl,rfl,rfl,trivial⟩
theorem ring_step(ok:b.Ok)(Db:PF b.R i pf)(m:Nat)(hR:∀m',m=m'+1->Mi b TB n0 x i hd pf Bh m'):Mi b TB n0 x i hd pf Bh m:=by
 intro Γ main δ T0 g p s h rt CO
 have hs:s<b.c.sc.length:=by
  apply Classical.byContradiction
  intro hn
  unfold HN Il at rt
  rw [if_neg hn]at rt
  rcases rt.cases with⟨-,-,l,o,z⟩|⟨e,-⟩
  ·exact z.stuck ok Db
  ·rw [CO]at e;cases e
 clear CO
 obtain⟨sc,KI⟩:∃sc,b.c.sc[s]?=some sc:=⟨_,Cl hs⟩
 have wa:HN b.c.sc b.c.nC b.c.nK m s p=if true=true then .emit ⟨s,-1,[0],0,0⟩ (DV b.c.sc b.c.nC b.c.nK (EH b.c.sc b.c.nC b.c.nK m) s p 0 sc)else DV b.c.sc b.c.nC b.c.nK (EH b.c.sc b.c.nC b.c.nK m) s p 0 sc:=by
  unfold HN Il
  rw [if_pos hs,List.getD_eq_getElem?_getD,KI];rfl
 rw [wa]at rt
 refine CK (n:=117) ?_
 refine AI ?_
 refine AH ?_
 refine DO ?_
 refine DO ?_
 refine AE ?_
 obtain⟨y,hy⟩:∃y,y=h.size:=⟨_,rfl⟩
 obtain⟨y7,wK⟩:∃y,y=(h.push (cE s)).size:=⟨_,rfl⟩
 refine F4 (fun h'=>AN (fun _=>False) h h'/\h'[y]?=some (cE s)/\h'[y7]?=some (GC (Bu 0 0 0))) ⟨(AN.push _ _).trans (AN.push _ _),by rw [hy];exact Ao _ (AG _ _),by rw [wK];exact AG _ _⟩ ?_
 rw [<-wK,<-hy]
 clear hy wK
 rintro h1 ⟨u1,gy,g7⟩
 have Vs:=rt.A5 u1
 have c0:AF h1 ⟨y,0,none⟩=some (.int .i64 3):=AD gy rfl
 have c2:AF h1 ⟨y,2,none⟩=some (.int .i64 (s:Int)):=AD gy rfl
 repeat(first|refine AI ?_|refine AH ?_|refine AE ?_|refine Ak ?_|refine AV ?_|refine Aq ?_|refine Az ?_|refine Df ?_|refine Bs ?_|refine BU ?_)
 refine C5 (vs:=R6) rfl (C0 (by exact g7)) ?_
 refine BV rfl (So ok Db hR KI Vs) ?_
 rintro _ h2 FJ ⟨rfl,aI,g2,Jt⟩
 repeat(first|refine AE ?_|refine Bb ?_)
 exact FQ (Eu rfl ⟨rfl,(BA u1).trans aI,g2,Jt⟩)
theorem QR(ok:b.Ok)(Db:PF b.R i pf):∀m,Mi b TB n0 x i hd pf Bh m
 | 0=>ring_step ok Db 0 fun m' e=>by omega
 | m+1=>ring_step ok Db (m+1) fun m' e=>by
  obtain rfl:m=m':=by omega
  exact QR ok Db m
end
end
section
section
variable{Γ:Type}{main:Bool}{S:Cp Γ}{δ:Ix Γ}{R:Rec}{nm:Nat->D5}{lL lW lY lV sP:Value}{h0 h h':Hp}{W x i t:Nat}{F:List Int}{s:WS}{AZ:List Int}{X:Us}
theorem UQ(ok:Fh X AZ R)(m:HB R AZ lL lW lY lV sP h0)(I:Ik R nm lL lW lY lV h0 W F s h){n:Int}:AY Tryz.prog main (Fb (Γ:=Γ)) 52 #[ptr W,.int .i64 n] h δ (CJ (Gb (.int .i64 n) h δ)):=by
 have hlen:R.log.length<=65536:=Dt ok.len ok.most
 obtain⟨aL,kL,eL⟩:=m.log.val
 subst eL
 have c2:AF h ⟨W,2,none⟩=some (.slice aL R.log.length kL):=AD I.row rfl
 refine CK (n:=41) ?_
 repeat(first|refine AI ?_|refine AH ?_|refine AE ?_|refine Ak ?_|refine Aq ?_)
 refine B1 (fun q:Nat=>[(5,.int .i64 q),(0,ptr W),(1,.int .i64 n)]) (fun q h' AW=>AW=δ/\h'=h/\q<=R.log.length) (fun q=>R.log.length-q) 0 ⟨rfl,rfl,rfl,trivial⟩ ⟨rfl,rfl,Bv _⟩ ?_
 rintro q h2 FJ ⟨rfl,rfl,hq⟩ again
 by_cases CO:q<R.log.length
 ·obtain⟨e,he⟩:∃e,R.log[q]?=some e:=⟨_,Cl CO⟩
  obtain⟨bL,ea,A0,-⟩:=Bt (FR (Ab R.log)) (m.log.upd I.up (fun _ _ x=>x)) he
  subst ea
  have h5:e.op<=5:=by
   obtain⟨w,i',r,cw,hr,e1,-⟩:=ok.chain.inv he
   have:e.op=r.op:=by rw [e1];rfl
   have:=hr.mU
   omega
  have r1:AF h2 ⟨bL,0+q*8+1,none⟩=some (.int .i8 e.op):=A0 1 _ rfl
  clear A0
  repeat(first|refine AI ?_|refine AH ?_|refine AE ?_|refine Ar ?_|refine Ak ?_|refine Bb ?_|refine AV ?_|refine Aq ?_|refine Bc ?_|refine Az ?_|refine CW ?_|refine Bd ?_|refine Bs ?_|refine Bg ?_|refine BR (kd:=.i64) rfl (i64_in (by omega) (by omega)) ?_|refine BN ?_|refine Cd ?_|refine BU ?_|refine Am ?_|refine Av rfl (by assumption) ?_)
  exact Ah (again (q+1) _ _ (by omega) ⟨rfl,rfl,by omega⟩) ⟨rfl,rfl,rfl,trivial⟩
 ·have:q=R.log.length:=by omega
  repeat(first|refine AI ?_|refine AH ?_|refine AE ?_|refine AV ?_|refine Aq ?_|refine Bc ?_|refine Az ?_|refine Bg ?_|refine BN ?_|refine Am ?_|refine AQ ?_|refine B8 ?_|refine Av rfl (by assumption) ?_)
  exact DQ El
end
section
variable{Γ:Type}{main:Bool}{S:Cp Γ}{δ:Ix Γ}{b:RW}{TB n0 x i hd:Nat}{T0:TL}{pf:Pr It}{Bh:WR}{p:PA}{g:RG}{h h':Hp}{l l':List Ev}{o:List It}{id:Nat}
theorem PD.pp(I:PD b TB n0 g h)(w:Bool):PD b TB n0 {g with wait:=w} (Af h ⟨b.Wd,16,none⟩ (.bool w))/\AN (fun z=>z=b.Wd) h (Af h ⟨b.Wd,16,none⟩ (.bool w))/\Kp h (Af h ⟨b.Wd,16,none⟩ (.bool w)):=by
 have e1:Af h ⟨b.Wd,16,none⟩ (.bool w)=h.setIfInBounds b.Wd (Ns b TB g.fv w (decide (n0<g.K.length))):=by
  rw [As I.row,QD]
 have u:AN (fun z=>z=b.Wd) h (Af h ⟨b.Wd,16,none⟩ (.bool w)):=AN.Af (T:=fun z=>z=b.Wd) h ⟨b.Wd,16,none⟩ _ rfl
 have o1:(Af h ⟨b.Wd,16,none⟩ (.bool w))[b.Wd]?=some (Ns b TB g.fv w (decide (n0<g.K.length))):=by rw [e1];exact AJ I.row
 obtain⟨p1,-,p3,p4,p5,p6⟩:=I.parts (P:=fun t=>t=83) u (fun y hy=>by subst hy;exact⟨I.nW,fun _=>⟨_,_,I.row,rfl⟩⟩)
 exact⟨⟨p1,o1,p3 (by decide),p4 (by decide),p5 (by decide),I.inj,p6 (by decide),I.tok,I.nW,I.nB,I.nF,I.nV⟩,u,Jd u fun y hy _=>by rw [hy];exact⟨_,_,I.row,.inr (.inr (.inr (.inl rfl)))⟩⟩
theorem E6.zw(a:E6 b.R b.nm b.lL b.lW b.lY b.lV b.h0 b.W b.s h)(I:PD b TB n0 g h)(u:AN (fun z=>z=b.Wd) h h'):E6 b.R b.nm b.lL b.lW b.lY b.lV b.h0 b.W b.s h':=
 a.JO u fun y hy=>by subst hy;exact⟨I.nW,fun _=>⟨_,_,I.row,by decide⟩⟩
structure j4(b:RW)(TB n0 x i hd:Nat)(Bh:WR)(g g':RG)(h':Hp):Prop where
 mem:PD b TB n0 g' h'
 all:E6 b.R b.nm b.lL b.lW b.lY b.lV b.h0 b.W b.s h'
 wait:g'.wait=(g.wait||Bh.w)
 K:g'.K=Bh.K
 Jv:R1 b.fs g'.K
 n0:n0<=g'.K.length
 T:(g'.T i).map TE.p=Bh.t
 Mw:∀j,j≠i->g'.T j=g.T j
 hd:h'[hd]?=some (PR x i)
 x0:b.h0.size<=x
 fin:Bh.w=false->∃(out:Bool) (t:Nat),h'[x]?=some (GD b.W i out t)/\t<=b.R.log.length/\C3 b.R i t=[]/\(out=true↔∃q,q∈b.R.left/\q.1=i)
theorem Wl{A:Type}{i:Nat}{pf:Pr A}{l:List Ev}{o:List A}(g:Goes i .done l o pf):l=[]/\o=[]/\pf= .done:=by
 cases g
 exact⟨rfl,rfl,rfl⟩
theorem RT.ended(Db:PF b.R i pf){w0:Bool}{g0:RG}(rt:RT b TB n0 x i hd T0 pf Bh .done g h)(ho:∀j,j≠i->T0.T j=g0.T j):g.wait=Bh.w/\g.K=Bh.K/\(g.T i).map TE.p=Bh.t/\E6 b.R b.nm b.lL b.lW b.lY b.lV b.h0 b.W b.s h/\b.h0.size<=x/\(Bh.w=false->∃(out:Bool) (t:Nat),h[x]?=some (GD b.W i out t)/\t<=b.R.log.length/\C3 b.R i t=[]/\(out=true↔∃q,q∈b.R.left/\q.1=i)):=by
 refine⟨?_,?_,?_,rt.all,?_,?_⟩
 all_goals rcases rt.st with⟨hw,l,o,z⟩|⟨hw,z,hK,hT⟩
 all_goals try (obtain⟨e1,e2,e3⟩:=Wl (show Goes i .done l o pf from z.w.at_.goes);subst e2)
 ·rw [hw];exact z.wt
 ·exact hw
 ·exact z.K
 ·exact hK
 ·have:=z.t;rwa [show(B2 [] g.K).t=[]from rfl,DI]at this
 ·exact hT
 ·exact z.w.x0
 ·exact z.x0
 ·intro _
  obtain⟨t,h1,h2,h3⟩:=z.w.at_.at_
  refine⟨false,t,h3,h1,by rw [h2,e1],⟨fun e=>(by cases e),fun⟨q,hq,e⟩=>?_⟩⟩
  rcases Db with⟨r',k',hm,e'⟩|⟨hn,-⟩
  ·rw [e3]at e';cases e'
  ·exact absurd e (hn q hq)
 ·intro mj
  obtain⟨t,h1,h2,h3⟩:=z.at_
  obtain⟨h4,r,h5⟩:=h3 mj
  exact⟨true,t,h2,h1,h4,⟨fun _=>⟨_,h5,rfl⟩,fun _=>rfl⟩⟩
theorem Ui(ok:b.Ok)(Db:PF b.R i pf)(Mz:b.c.nT<=b.c.sc.length)(hi:i<b.c.nT)(I:PD b TB n0 g h)(all:E6 b.R b.nm b.lL b.lW b.lY b.lV b.h0 b.W b.s h)(hx:h[x]?=some (GD b.W i false 0))(x0:b.h0.size<=x)(Rt:h[hd]?=some (PR x i))(hTi:g.T i=[])(Jv:R1 b.fs g.K)(wz:n0<=g.K.length)
  (hgo:Goes i (Rp b.c.rq b.F (Nt b.c.sc b.c.nC b.c.nK i)) (Bm i b.R.log) o pf) (hkn:∀q s,It.kn q s∈o->(q,s)∈b.fs) (jP:B2 o g.K=Bh) (oM:Bh.t.length<=3000000):
  AY Tryz.prog main (Fb (Γ:=Γ)) 54 #[ptr b.Wd,ptr hd,.int .i64 (i:Int)] h δ (CJ fun v h' AW=>AW=δ/\v= .bool (!Bh.w)/\Kp h h'/\∃g',j4 b TB n0 x i hd Bh g g' h'):=by
 obtain⟨sc,KI⟩:∃sc,b.c.sc[i]?=some sc:=⟨_,Cl (F0 hi Mz)⟩
 have hP:Nt b.c.sc b.c.nC b.c.nK i=DV b.c.sc b.c.nC b.c.nK (EH b.c.sc b.c.nC b.c.nK 3) i .done 0 sc:=by
  unfold Nt
  rw [List.getD_eq_getElem?_getD,KI];rfl
 obtain⟨I1,u1,W3⟩:=I.pp false
 have X4:=all.zw I u1
 have B7:∀{y:Nat} {a:Array Value} {t:TypeId},h[y]?=some (.cells a t (0,0))->t≠83->y≠b.Wd:=fun {y a t} hy ht e=>by
  rw [e,I.row]at hy
  injection hy with hy
  injection hy with _ hy _
  exact ht hy.symm
 have W4:=u1.get hx (B7 hx (by decide))
 have yz:=u1.get Rt (B7 Rt (by decide))
 have rt:RT b TB n0 x i hd ⟨g.T,[]⟩ pf Bh (if false=true then .emit ⟨i,-1,[0],0,0⟩ (DV b.c.sc b.c.nC b.c.nK (EH b.c.sc b.c.nC b.c.nK 3) i .done 0 sc)else DV b.c.sc b.c.nC b.c.nK (EH b.c.sc b.c.nC b.c.nK 3) i .done 0 sc) {g with wait:=false} (Af h ⟨b.Wd,16,none⟩ (.bool false)):=by
  rw [if_neg nofun,<-hP]
  refine⟨I1,fun _ _=>rfl,fun y hy=>(by cases hy),Jv,wz,oM,hi,yz,.inl ⟨rfl,Bm i b.R.log,o,⟨⟨X4,⟨⟨0,Bv _,Re _ _,W4⟩,hgo⟩,x0⟩,?_,?_,?_,hkn⟩⟩⟩
  ·show(B2 o g.K).K=_;rw [jP]
  ·show(g.T i).map TE.p++(B2 o g.K).t=_;rw [jP,hTi];rfl
  ·show(B2 o g.K).w=_;rw [jP]
 have pR:AF h ⟨b.Wd,16,none⟩=some (.bool g.wait):=AD I.row rfl
 have f16:=AS (off:=16) I.row
 have c2:AF (Af h ⟨b.Wd,16,none⟩ (.bool false)) ⟨b.Wd,2,none⟩=some (.int .i64 b.c.nT):=AD I1.row rfl
 refine CK (n:=68) ?_
 repeat(first|refine AI ?_|refine AH ?_|refine AE ?_|refine AV ?_|refine Aq ?_|refine Bc ?_|refine Az ?_|refine Av rfl (by assumption) ?_)
 refine CS rfl ⟨nofun,nofun⟩ ⟨_,pR⟩ f16 (fun x=>x) ?_
 clear pR f16
 generalize Af h ⟨b.Wd,16,none⟩ (.bool false)=h1 at rt c2 W3⊢
 repeat(first|refine AI ?_|refine AH ?_|refine AE ?_|refine AV ?_|refine Bc ?_|refine Az ?_|refine Bs ?_|refine BU ?_|refine Av rfl (by assumption) ?_)
 refine Ep (cells:=R6.toArray) ?_
 refine BV rfl (So ok Db (m:=3) (fun m' _=>QR ok Db m') KI rt) ?_
 rintro _ h2 FJ ⟨rfl,aI,g2,Jt⟩
 obtain⟨e1,e2,e3,T2,-,Ho⟩:=Jt.ended (w0:=false) (g0:=g) Db fun _ _=>rfl
 have I2:=Jt.mem
 have d16:AF h2 ⟨b.Wd,16,none⟩=some (.bool g2.wait):=AD I2.row rfl
 have f16:=AS (off:=16) I2.row
 rw [e1]at d16
 obtain⟨I3,u3,Ri⟩:=I2.pp (g.wait||Bh.w)
 have Qx:=T2.zw I2 u3
 have qT:∀{y:Nat} {a:Array Value} {t:TypeId},h2[y]?=some (.cells a t (0,0))->t≠83->y≠b.Wd:=fun {y a t} hy ht e=>by
  rw [e,I2.row]at hy
  injection hy with hy
  injection hy with _ hy _
  exact ht hy.symm
 have LZ:j4 b TB n0 x i hd Bh g {g2 with wait:=g.wait||Bh.w} (Af h2 ⟨b.Wd,16,none⟩ (.bool (g.wait||Bh.w))):=
  ⟨I3,Qx,rfl,e2,Jt.Jv,Jt.n0,e3,Jt.Mw,u3.get Jt.hd (qT Jt.hd (by decide)),x0,fun mj=>by
   obtain⟨out,t,z1,z2⟩:=Ho mj
   exact⟨out,t,u3.get z1 (qT z1 (by decide)),z2⟩⟩
 have kp:=W3.trans (aI.trans Ri)
 clear rt Jt T2 Ho e1 e2 e3 I3 u3 Qx Ri W3 aI
 cases fD:g.wait with
 | true=>
  rw [fD]at LZ kp
  repeat(first|refine AI ?_|refine AH ?_|refine AE ?_|refine AV ?_|refine Aq ?_|refine Bc ?_|refine Az ?_|refine CW ?_|refine Bl ?_|refine Av rfl (by assumption) ?_)
  refine CS rfl ⟨nofun,nofun⟩ ⟨_,d16⟩ f16 (fun x=>x) ?_
  repeat(first|refine AI ?_|refine AH ?_|refine AE ?_|refine AV ?_|refine Aq ?_|refine B9 ?_|refine AQ ?_)
  exact CL rfl ⟨rfl,rfl,kp,_,LZ⟩
 | false=>
  rw [fD]at LZ kp
  repeat(first|refine AI ?_|refine AH ?_|refine AE ?_|refine AV ?_|refine Aq ?_|refine Bc ?_|refine Az ?_|refine Bd ?_|refine Av rfl (by assumption) ?_)
  refine CS rfl ⟨nofun,nofun⟩ ⟨_,d16⟩ f16 (fun x=>x) ?_
  repeat(first|refine AI ?_|refine AH ?_|refine AE ?_|refine AV ?_|refine Aq ?_|refine B9 ?_|refine AQ ?_)
  exact CL rfl ⟨rfl,rfl,kp,_,LZ⟩
end
end
section
def Te:PA->Nat->Prop
 | .done,_=>True
 | .step _ k,n=>∀w,Te (k w) (n+31)
 | .emit e k,n=>∃m,n=m+1/\e.vs.length<=2/\Te k m
 | .Hd _ _ k,n=>Te k n
 | .ask _ k,n=>∀s,Te (k s) n
theorem Te.mono:∀{p:PA} {n m:Nat},Te p n->n<=m->Te p m
 | .done,_,_,_,_=>trivial
 | .step _ k,_,_,h,hm=>fun w=>(h w).mono (by omega)
 | .emit _ k,_,m,h,hm=>by
  obtain⟨j,e,h2,h⟩:=h
  exact⟨m-1,by omega,h2,Te.mono (p:=k) h (by omega)⟩
 | .Hd _ _ k,_,_,h,hm=>Te.mono (p:=k) h hm
 | .ask _ k,_,_,h,hm=>fun s=>(h s).mono hm
theorem Te.settle:∀{p:PA} {n:Nat} {f f':Fs} {o o':List It} {p':PA},Te p n->settle p f o=(f',o',p')->∃n',Te p' n'/\n'+(JL o').length=n+(JL o).length/\∀e,e∈JL o'->e∈JL o\/e.vs.length<=2
 | .done,n,f,f',o,o',p',_,h=>by
  injection h with h1 h2
  injection h2 with h2 h3
  subst h1 h2 h3
  exact⟨n,trivial,rfl,fun _ h=>.inl h⟩
 | .step r k,n,f,f',o,o',p',hk,h=>by
  injection h with h1 h2
  injection h2 with h2 h3
  subst h1 h2 h3
  exact⟨n,hk,rfl,fun _ h=>.inl h⟩
 | .emit e k,n,f,f',o,o',p',hk,h=>by
  obtain⟨m,rfl,hv,hk⟩:=hk
  obtain⟨n',h1,h2,h3⟩:=Te.settle (p:=k) hk h
  rw [FV,C1]at h2
  refine⟨n',h1,by change _=m+((JL o).length+1)at h2;omega,fun x hx=>(h3 x hx).elim (fun z=>?_) .inr⟩
  rw [FV]at z
  exact(Ff.1 z).imp id fun z=>by rw [DD.1 z];exact hv
 | .Hd q s k,n,f,f',o,o',p',hk,h=>by
  obtain⟨n',h1,h2,h3⟩:=Te.settle (p:=k) hk h
  rw [FV,C1]at h2
  refine⟨n',h1,h2,fun x hx=>(h3 x hx).imp (fun z=>?_) id⟩
  rw [FV]at z
  exact(Ff.1 z).elim id fun z=>by cases z
 | .ask q k,n,f,f',o,o',p',hk,h=>by
  unfold Go.Proofs.YtfkalocplonkiaaGreat.settle at h
  cases hq:Eb f q with
  | none=>
   rw [hq]at h
   injection h with h1 h2
   injection h2 with h2 h3
   subst h1 h2 h3
   exact⟨n,hk,rfl,fun _ h=>.inl h⟩
  | some s=>
   rw [hq]at h
   obtain⟨n',h1,h2,h3⟩:=Te.settle (p:=k s) (hk s) h
   rw [FV,C1]at h2
   refine⟨n',h1,h2,fun x hx=>(h3 x hx).imp (fun z=>?_) id⟩
   rw [FV]at z
   exact(Ff.1 z).elim id fun z=>by cases z
section
variable{rq:Rq->Rq}{P:Nat->PA}{l:List Ev}{n0:Nat}
theorem Yc(hT:∀j,Te (P j) n0)(h:Fi rq P l):∀i,∃n',Te ((Cz P l).Dg i) n'/\n'+(JL ((Cz P l).out i)).length=n0+31*(Bm i l).length/\∀e,e∈JL ((Cz P l).out i)->e.vs.length<=2:=by
 induction h with
 | nil=>
  intro i
  obtain⟨n',h1,h2,h3⟩:=Te.settle (hT i) (f:=[]) (o:=[]) rfl
  exact⟨n',h1,h2,fun e he=>(h3 e he).elim (fun z=>by cases z) id⟩
 | @snoc l i r k w hf hr ih=>
  intro j
  rw [Gl,Ov]
  change ∃n',Te ((KO (Cz P l) (i,w)).Dg j) n'/\n'+(JL ((KO (Cz P l) (i,w)).out j)).length=n0+31*(if i=j then _ else _:List Ev).length/\∀e,e∈JL ((KO (Cz P l) (i,w)).out j)->e.vs.length<=2
  rw [GW hr]
  dsimp only
  obtain⟨n,h1,h2,xP⟩:=ih j
  by_cases e:i=j
  ·subst e
   rw [if_pos rfl,AL,AL,C1,List.length_singleton]
   rw [hr]at h1
   obtain⟨n',h3,h4,h6⟩:=Te.settle (h1 w) (f:=(Cz P l).fs) (o:=(Cz P l).out i) rfl
   refine⟨n',h3,?_,fun e he=>(h6 e he).elim (xP e) id⟩
   have h5:n'+(JL (Go.Proofs.YtfkalocplonkiaaGreat.settle (k w) (Cz P l).fs ((Cz P l).out i)).2.1).length=n+31+(JL ((Cz P l).out i)).length:=h4
   show n'+(JL (Go.Proofs.YtfkalocplonkiaaGreat.settle (k w) (Cz P l).fs ((Cz P l).out i)).2.1).length=_
   omega
  ·rw [if_neg e,Ai _ _ (Ne.symm e),Ai _ _ (Ne.symm e)]
   exact⟨n,h1,h2,xP⟩
theorem Sx(hT:∀j,Te (P j) n0)(h:Fi rq P l)(i:Nat):(JL ((Cz P l).out i)).length<=n0+31*(Bm i l).length:=by
 obtain⟨n',-,h2,-⟩:=Yc hT h i
 omega
theorem lF(hT:∀j,Te (P j) n0)(h:Fi rq P l)(i:Nat):∀e,e∈JL ((Cz P l).out i)->e.vs.length<=2:=by
 obtain⟨n',-,-,h2⟩:=Yc hT h i
 exact h2
end
theorem ID{n:Nat}:Te stuck n:=fun _=>trivial
theorem RJ{c:Nat}{due:Int}{s:Nat}{k:Int->Int->Int->PA}:∀{n m:Nat},(∀a b e,Te (k a b e) m)->Te (KP c due s k n) m
 | 0,m,h=>h 0 0 12
 | n+1,m,h=>fun x=>by
  dsimp only
  split
  ·split
   ·intro w
    dsimp only
    split
    ·exact fun _ _=>(h _ _ _).mono (by omega)
    ·exact(RJ h).mono (by omega)
   ·exact(RJ h).mono (by omega)
  ·exact ID
theorem dI{c:Nat}{due:Int}{f:Option Nat}{k:Int->Int->Int->PA}{m:Nat}(h:∀a b e,Te (k a b e) m):Te (LX c due f k) m:=by
 unfold LX
 split
 ·cases f with
  | none=>exact h _ _ _
  | some s=>exact RJ h
 ·exact h _ _ _
theorem ZP{c:Nat}{s r:Int}{k:Bool->PA}{m:Nat}(h:∀b,Te (k b) m):Te (FD c s r k) m:=by
 unfold FD
 split
 ·exact fun w=>(h _).mono (by omega)
 ·exact h _
theorem Lu{c:Nat}{now:Int}{k:Option (Nat×Int)->PA}:∀{n m:Nat} {b:Option (Nat×Int×Int)},(∀o,Te (k o) m)->Te (GM c now k n b) m
 | 0,m,b,h=>h _
 | n+1,m,b,h=>fun x=>by
  dsimp only
  split
  ·split
   ·intro w
    dsimp only
    split
    ·exact(Lu h).mono (by omega)
    ·exact(Lu h).mono (by omega)
   ·exact(Lu h).mono (by omega)
  ·exact ID
theorem RV{ring:Nat->PA->PA}(hr:∀s k m,Te k m->Te (ring s k) (m+31)){c:Nat}{now:Int}{k:Int->Int->PA}:∀{n g m:Nat},(∀a b,Te (k a b) m)->Te (He ring c now k n g) m
 | 0,_,m,h=>ID
 | n+1,g,m,h=>by
  unfold He
  refine Lu fun o=>?_
  cases o with
  | none=>exact fun _=>(h _ _).mono (by omega)
  | some q=>
   obtain⟨j,x⟩:=q
   dsimp only
   split
   ·exact fun _=>(h _ _).mono (by omega)
   ·intro w
    dsimp only
    split
    ·exact fun s=>hr _ _ _ fun _=>(RV hr h).mono (by omega)
    ·exact(RV hr h).mono (by omega)
section
variable{sc:List (List BH)}{nC nK:Nat}
theorem Z5{HZ:Nat->Int->(Int->Int->PA)->PA}(ha:∀c d k m,(∀a b,Te (k a b) m)->Te (HZ c d k) m){s:Nat}{q:BH}{k:List Int->Int->PA}{m:Nat}(h:∀a b,a.length<=2->Te (k a b) m):Te (E1 sc nC nK HZ s q k) m:=by
 unfold E1
 repeat' split
 all_goals first|exact h _ _ (by simp)|exact fun _=>(h _ _ (by simp)).mono (by omega)|exact dI fun _ _ _=>h _ _ (by simp)|exact ZP fun _=>h _ _ (by simp)|exact ha _ _ _ _ fun _ _=>h _ _ (by simp)
theorem Of{HZ:Nat->Int->(Int->Int->PA)->PA}(ha:∀c d k m,(∀a b,Te (k a b) m)->Te (HZ c d k) m){s:Nat}{k:PA}{m:Nat}(h:Te k m):∀{l:List BH} {j:Nat},Te (DV sc nC nK HZ s k j l) (m+l.length)
 | [],_=>h
 | q::l,j=>by
  unfold DV
  split
  ·exact h.mono (by omega)
  ·exact Z5 ha fun _ _ hv=>⟨m+l.length,rfl,hv,Of ha h⟩
theorem Zi(Xh:∀(s:Nat) (l:List BH),sc[s]?=some l->l.length<=30){HZ:Nat->Int->(Int->Int->PA)->PA}(ha:∀c d k m,(∀a b,Te (k a b) m)->Te (HZ c d k) m){s:Nat}{k:PA}{m:Nat}(h:Te k m):Te (Il sc nC nK HZ s k) (m+31):=by
 unfold Il
 split
 next hs=>
  refine⟨m+30,rfl,by simp,(Of ha h).mono ?_⟩
  have e:=Cl hs
  have:=Xh s _ e
  rw [List.getD_eq_getElem?_getD,e]
  show m+(sc[s]).length<=_
  omega
 next=>exact ID
theorem eI{ring:Nat->PA->PA}(hr:∀s k m,Te k m->Te (ring s k) (m+31)){c N:Nat}{d:Int}{k:Int->Int->PA}{m:Nat}(h:∀a b,Te (k a b) m):Te (.step ⟨3,cc c 1,0,1⟩ fun w=>if w=0 then .step ⟨1,cc c 0,0,0⟩ fun v=>if 0<=v/\v<=4611686018427387904 then .step ⟨2,cc c 0,GF v d,0⟩ fun _=>He ring c (GF v d) k N 0 else stuck else k 0 14) m:=by
 intro w
 dsimp only
 split
 ·intro v
  dsimp only
  split
  ·exact fun _=>(RV hr h).mono (by omega)
  ·exact ID
 ·exact(h _ _).mono (by omega)
theorem dy(Xh:∀(s:Nat) (l:List BH),sc[s]?=some l->l.length<=30){n:Nat}:∀(c:Nat) (d:Int) (k:Int->Int->PA) (m:Nat),(∀a b,Te (k a b) m)->Te (EH sc nC nK n c d k) m:=by
 induction n with
 | zero=>
  intro c d k m h w
  dsimp only
  split
  ·exact ID
  ·exact(h _ _).mono (by omega)
 | succ n ih=>
  intro c d k m h
  exact eI (N:=65537) (fun s k m hk=>Zi Xh ih hk) h
theorem RD(Xh:∀(s:Nat) (l:List BH),sc[s]?=some l->l.length<=30)(i:Nat):Te (Nt sc nC nK i) 31:=by
 unfold Nt
 refine(Of (m:=1) (dy Xh) (show Te .done 1 from trivial)).mono ?_
 cases e:sc[i]? with
 | none=>rw [List.getD_eq_getElem?_getD,e];show 1+0<=31;omega
 | some l=>
  have:=Xh i l e
  rw [List.getD_eq_getElem?_getD,e]
  show 1+l.length<=31
  omega
end
end
end Go.Proofs.YtfkalocplonkiaaGreat
