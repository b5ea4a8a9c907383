/- Steps of the walk and of the plain law (CrU to CqM). Conditions: as each lemma says. -/
import Derived.Deep.SlicePairs
import Derived.OpenShut
import Derived.WalkKit
import Derived.ProofKit
import Derived.Test.YtfkalocplonkiaaGreatCPLH
set_option linter.unusedSectionVars false
set_option linter.unusedVariables false
set_option linter.unusedSimpArgs false
set_option maxHeartbeats 40000000
set_option maxRecDepth 100000
namespace Go.Proofs.YtfkalocplonkiaaGreat
section
open Go Go.TJ Go.Conc Go.Proofs
abbrev cm:List Value:=[.int .i64 0,.int .i64 0,.int .i64 0,.int .i64 0,.int .i64 0,.int .i64 0,AK]
def vH(q:BH):Prop:=((10<=q.op/\q.op<=13)\/100<=q.op)/\∃va vl vc,q.l= .slice va vl vc
def CX(f:Nat->Value):List Value:=[f 0,f 1,f 2,f 3,f 4,f 5,f 6,f 7,f 8,f 9,f 10,f 11,f 12]
abbrev GL(f:Nat->Value):Obj:=.cells (CX f).toArray 25 (0,0)
theorem QV(f:Nat->Value):∀{i:Nat},i<13->(CX f)[i]?=some (f i)
 | 0,_=>rfl
 | 1,_=>rfl
 | 2,_=>rfl
 | 3,_=>rfl
 | 4,_=>rfl
 | 5,_=>rfl
 | 6,_=>rfl
 | 7,_=>rfl
 | 8,_=>rfl
 | 9,_=>rfl
 | 10,_=>rfl
 | 11,_=>rfl
 | 12,_=>rfl
 | _+13,h=>by omega
theorem Wb(f:Nat->Value)(v:Value):∀{i:Nat},i<13->(CX f).set i v=CX (ut f i v)
 | 0,_=>rfl
 | 1,_=>rfl
 | 2,_=>rfl
 | 3,_=>rfl
 | 4,_=>rfl
 | 5,_=>rfl
 | 6,_=>rfl
 | 7,_=>rfl
 | 8,_=>rfl
 | 9,_=>rfl
 | 10,_=>rfl
 | 11,_=>rfl
 | 12,_=>rfl
 | _+13,h=>by omega
theorem EI{h:Hp}{y:Nat}{f:Nat->Value}(g:h[y]?=some (GL f)){i:Nat}(hi:i<13):AF h ⟨y,i,none⟩=some (f i):=by
 refine AD g ?_
 rw [List.getElem?_toArray]
 exact QV f hi
structure BQ(h0:Hp)(y1 y2 y3:Nat)(f0 f:Nat->Value)(h:Hp):Prop where
 gp:h[y1]?=some (GL f0)
 gr:∃r,h[y2]?=some (GL r)
 gq:h[y3]?=some (GL f)
 u0:AN (fun b=>h0.size<=b) h0 h
 n1:y1<y3/\y2<y3/\h0.size<=y3/\y3<h.size/\h0.size<=y2
section
variable{h0 h h':Hp}{y1 y2 y3:Nat}{f0 f:Nat->Value}
theorem BQ.up(Q:BQ h0 y1 y2 y3 f0 f h){T:Nat->Prop}(u:AN T h h')(hT:∀b,T b->y3<b):BQ h0 y1 y2 y3 f0 f h':=by
 obtain⟨r,gr⟩:=Q.gr
 have n:=Q.n1
 refine⟨u.get Q.gp fun t=>by have:=hT _ t;omega,⟨r,u.get gr fun t=>by have:=hT _ t;omega⟩,u.get Q.gq fun t=>by have:=hT _ t;omega,Q.u0.trans ⟨u.size,fun b hb hn=>u.same b hb fun t=>hn (by have:=hT _ t;omega)⟩,by have:=u.size;omega⟩
theorem BQ.set(Q:BQ h0 y1 y2 y3 f0 f h){i:Nat}(hi:i<13)(v:Value):BQ h0 y1 y2 y3 f0 (ut f i v) (Af h ⟨y3,i,none⟩ v):=by
 obtain⟨r,gr⟩:=Q.gr
 have n:=Q.n1
 have hu:AN (fun b=>b=y3) h (Af h ⟨y3,i,none⟩ v):=AN.Af _ _ _ rfl
 refine⟨hu.get Q.gp (by omega),⟨r,hu.get gr (by omega)⟩,?_,Q.u0.trans ⟨hu.size,fun b hb hn=>hu.same b hb fun t=>hn (by rw [t];omega)⟩,by rw [IK];exact n⟩
 rw [As Q.gq,AJ Q.gq,List.setIfInBounds_toArray,Wb f v hi]
theorem BQ.cq(Q:BQ h0 y1 y2 y3 f0 f h){i:Nat}(hi:i<13):AF h ⟨y3,i,none⟩=some (f i):=EI Q.gq hi
theorem BQ.cp(Q:BQ h0 y1 y2 y3 f0 f h){i:Nat}(hi:i<13):AF h ⟨y1,i,none⟩=some (f0 i):=EI Q.gp hi
end
def nY(h:Hp)(v:Value)(l:List BH):Prop:=∃a k,v= .slice a l.length k/\∀j q,l[j]?=some q->∃b o,a=some ⟨b,o,none⟩/\TJ.A0 h b (o+j*7) (By q)/\∃xs:List Int,Hh h q.l (xs.map iV)/\xs.length<=1000000000000000
structure fS(h:Hp)(V:Value)(ws:List Value):Prop where
 V:Hh h V ws
 sc:∀(s:Nat) (v:Value),ws[s]?=some v->∃l,nY h v l
theorem Hh.TY{h h':Hp}{s:Value}{vs:List Value}(x:Hh h s vs)(u:AN (fun b=>h.size<=b) h h'):Hh h' s vs:=x.upd u fun hn b hb=>by have:=x.lt hn b hb;show ¬h.size<=b;omega
theorem nY.TY{h h':Hp}{v:Value}{l:List BH}(x:nY h v l)(u:AN (fun b=>h.size<=b) h h'):nY h' v l:=by
 obtain⟨a,k,e,hc⟩:=x
 refine⟨a,k,e,fun j q hq=>?_⟩
 obtain⟨b,o,e2,hr,xs,hx,hl⟩:=hc j q hq
 refine⟨b,o,e2,fun i w hw=>?_,xs,hx.TY u,hl⟩
 have h1:=hr i w hw
 obtain⟨cc,ee,ff,hb,-⟩:=DG h1
 exact u.AF h1 (by show ¬h.size<=b;have h9:b<h.size:=Ap hb;omega)
theorem fS.TY{h h':Hp}{V:Value}{ws:List Value}(x:fS h V ws)(u:AN (fun b=>h.size<=b) h h'):fS h' V ws:=
 ⟨x.V.TY u,fun s v hv=>by
  obtain⟨l,hl⟩:=x.sc s v hv
  exact⟨l,hl.TY u⟩⟩
structure BS(lo:Nat)(h:Hp)(V:Value)(ws:List Value)(sc:List (List BH)):Prop where
 sl:AR h V 39 1 ws.length ws
 len:ws.length=sc.length
 mR:∀(s:Nat) (l:List BH),sc[s]?=some l->∃v,ws[s]?=some v/\AR h v 41 7 l.length (l.flatMap By)/\∀b,blk v=some b->lo<b
 nb:∀b,blk V=some b->lo<b
 PH:∀(s:Nat) (l:List BH) (q:BH),sc[s]?=some l->q∈l->vH q
 small:∀(s:Nat) (l:List BH),sc[s]?=some l->l.length<=30
theorem BS.upd{lo:Nat}{h h':Hp}{V:Value}{ws:List Value}{sc:List (List BH)}(x:BS lo h V ws sc){T:Nat->Prop}(u:AN T h h')(hT:∀b,lo<b->b<h.size->¬T b):BS lo h' V ws sc:=
 ⟨x.sl.upd u fun b hb=>hT b (x.nb b hb) (x.sl.lt hb),x.len,fun s l hl=>by
  obtain⟨v,h1,h2,h3⟩:=x.mR s l hl
  exact⟨v,h1,h2.upd u fun b hb=>hT b (h3 b hb) (h2.lt hb),h3⟩,x.nb,x.PH,x.small⟩
theorem BS.app{lo:Nat}{h h':Hp}{V V' v:Value}{ws:List Value}{sc:List (List BH)}{l:List BH}(x:BS lo h V ws sc)(u:AN (fun b=>blk V=some b) h h')(F9:AR h' V' 39 1 (ws.length+1) (ws++[v]))(hb:∀b,blk V'=some b->blk V=some b\/b=h.size)(w8:lo<h.size)
  (hv:AR h v 41 7 l.length (l.flatMap By)) (hvb:∀b,blk v=some b->lo<b) (hl:l.length<=30) (hl2:∀q,q∈l->vH q):BS lo h' V' (ws++[v]) (sc++[l]):=by
 have key:∀{w:Value} {l:List BH},AR h w 41 7 l.length (l.flatMap By)->AR h' w 41 7 l.length (l.flatMap By):=fun {w l} z=>by
  refine z.upd u fun b hb e=>?_
  obtain⟨-,⟨rfl,-⟩|⟨b',cap,rest,rfl,-,-,h3⟩⟩:=z
  ·cases hb
  ·obtain rfl:b'=b:=D4 hb
   exact Ac x.sl h3 (by decide) _ e rfl
 have hlen:=x.len
 refine⟨by rw [C1];exact F9,by rw [C1,C1,hlen];rfl,fun s m hm=>?_,fun b e=>(hb b e).elim (x.nb b) fun e=>by omega,fun s m q hm hq=>?_,fun s m hm=>?_⟩
 ·by_cases hs:s<sc.length
  ·rw [Iy hs]at hm
   obtain⟨w,h1,h2,h3⟩:=x.mR s m hm
   exact⟨w,by rw [Iy (by omega)];exact h1,key h2,h3⟩
  ·rw [IB (by omega)]at hm
   obtain⟨hz,e⟩:s-sc.length=0/\l=m:=by
    have:=(Gv.1 hm).1
    have hz:s-sc.length=0:=by simpa using this
    rw [hz]at hm
    exact⟨hz,by simpa using hm⟩
   subst e
   refine⟨v,?_,key hv,hvb⟩
   rw [IB (by omega),hlen,hz];rfl
 ·by_cases hs:s<sc.length
  ·rw [Iy hs]at hm
   exact x.PH s m q hm hq
  ·rw [IB (by omega)]at hm
   have hz:s-sc.length=0:=by simpa using (List.getElem?_eq_some_iff.1 hm).1
   rw [hz]at hm
   obtain rfl:l=m:=by simpa using hm
   exact hl2 q hq
 ·by_cases hs:s<sc.length
  ·rw [Iy hs]at hm
   exact x.small s m hm
  ·rw [IB (by omega)]at hm
   have hz:s-sc.length=0:=by simpa using (List.getElem?_eq_some_iff.1 hm).1
   rw [hz]at hm
   obtain rfl:l=m:=by simpa using hm
   exact hl
structure Brt(h h':Hp)(f:Nat->Value)(V:Value)(ws:List Value)(sc:List (List BH))(th tu nC nK:Int)(AZ:List Int):Prop where
 up:AN (fun _=>False) h h'
 bs:BS h.size h' V ws sc
 f0:f 0=V
 f1:f 1= .int .i64 th
 f2:f 2= .int .i64 tu
 f3:AR h' (f 3) 3 1 AZ.length (AZ.map iV)/\∀b,blk (f 3)=some b->h.size<b
 f4:f 4= .int .i64 nC
 f6:f 6= .int .i64 nK
 fr:f 5= .int .i64 0/\f 7=AK/\f 8=AK/\f 9=AK/\f 10=AK/\f 11=AK/\f 12=AK
 n:1<=sc.length/\sc.length<=16
 th:1<=th/\th<=sc.length/\th<=6
 tu:0<=tu/\tu<8192
 nC:0<=nC/\nC<=3
 nK:0<=nK/\nK<=3
 pk:AZ.length<=1500
def mT:Nat->Value
 | 0=>AK
 | 1=>.int .i64 0
 | 2=>.int .i64 0
 | 3=>AK
 | 4=>.int .i64 0
 | 5=>.int .i64 0
 | 6=>.int .i64 0
 | _=>AK
theorem QU{f:Nat->Value}(h:∀j,j<13->OneCell (f j)):∀v∈CX f,OneCell v:=by
 intro v hv
 obtain⟨j,hj⟩:=List.getElem?_of_mem hv
 have hl:j<13:=(Gv.1 hj).1
 rw [QV f hl]at hj
 injection hj with hj
 subst hj
 exact h j hl
theorem GX{h:Hp}{y:Nat}{f:Nat->Value}(g:h[y]?=some (GL f)):TJ.A0 h y 0 (CX f):=CA (vs:=CX f) (rest:=[]) (by rw [DI];exact g)
theorem BS.mono{lo tZ:Nat}{h:Hp}{V:Value}{ws:List Value}{sc:List (List BH)}(x:BS lo h V ws sc)(hl:tZ<=lo):BS tZ h V ws sc:=
 ⟨x.sl,x.len,fun s l hs=>by
  obtain⟨v,h1,h2,h3⟩:=x.mR s l hs
  exact⟨v,h1,h2,fun b hb=>VN hl (h3 b hb)⟩,fun b hb=>VN hl (x.nb b hb),x.PH,x.small⟩
theorem BS.nil{lo:Nat}{h:Hp}:BS lo h AK [] []:=⟨AR.nil,rfl,fun s l hl=>(by cases hl),fun b hb=>(by cases hb),fun s l q hl=>(by cases hl),fun s l hl=>(by cases hl)⟩
structure BP(lo:Nat)(h:Hp)(V:Value)(ws:List Value)(sc:List (List BH))(pv:Value)(pk:List Int):Prop where
 b:BS lo h V ws sc
 p:AR h pv 3 1 pk.length (pk.map iV)
 pb:∀b,blk pv=some b->lo<b
theorem BP.upd{lo:Nat}{h h':Hp}{V:Value}{ws:List Value}{sc:List (List BH)}{pv:Value}{pk:List Int}(x:BP lo h V ws sc pv pk){T:Nat->Prop}(u:AN T h h')(hT:∀b,lo<b->b<h.size->¬T b):BP lo h' V ws sc pv pk:=
 ⟨x.b.upd u hT,x.p.upd u fun b hb=>hT b (x.pb b hb) (x.p.lt hb),x.pb⟩
section
variable{Γ:Type}{main:Bool}{h:Hp}{δ:Ix Γ}
theorem Z4{f0:Nat->Value}{V:Value}{ng:List Value}{i1 i2 i4 i5 i6:Int}(e0:f0 0=V)(e1:f0 1= .int .i64 i1)(e2:f0 2= .int .i64 i2)(e4:f0 4= .int .i64 i4)(e5:f0 5= .int .i64 i5)(e6:f0 6= .int .i64 i6)
  (In:fS h V ng) (hp:∀j,j=3\/7<=j/\j<=12->∃xs:List Int,Hh h (f0 j) (xs.map iV)/\xs.length<=1000000000000000):
  AY Tryz.prog main (Fb (Γ:=Γ)) 5 #[.agg (CX f0).toArray] h δ (CJ fun w h' AW=>AW=δ/\∃(f:Nat->Value) (V':Value) (ws:List Value) (sc:List (List BH)) (th tu nC nK:Int) (AZ:List Int),w= .agg (CX f).toArray/\Brt h h' f V' ws sc th tu nC nK AZ):=by
 obtain⟨Va,Vk,rfl⟩:=In.V.val
 have Ky:∀j,j<13->OneCell (f0 j):=fun j hj=>by
  rcases (show j=0\/j=1\/j=2\/j=4\/j=5\/j=6\/(j=3\/7<=j/\j<=12) by omega)with rfl|rfl|rfl|rfl|rfl|rfl|z
  ·rw [e0];simp [OneCell]
  ·rw [e1];simp [OneCell]
  ·rw [e2];simp [OneCell]
  ·rw [e4];simp [OneCell]
  ·rw [e5];simp [OneCell]
  ·rw [e6];simp [OneCell]
  ·obtain⟨xs,hx,-⟩:=hp j z
   obtain⟨a,k,e⟩:=hx.val
   rw [e];simp [OneCell]
 obtain⟨y1,XU⟩:∃y,y=h.size:=⟨_,rfl⟩
 obtain⟨y2,XT⟩:∃y,y=y1+1:=⟨_,rfl⟩
 obtain⟨y3,Vt⟩:∃y,y=y1+2:=⟨_,rfl⟩
 have P2:=SG h (GL f0) (GL mT)
 rw [<-XU,<-XT]at P2
 refine CK (n:=164) ?_
 refine AI ?_
 refine AH ?_
 refine DO ?_
 refine Cn ?_
 refine A6 (fun h'=>h'=(h.push (GL f0)).push (GL mT)) rfl ?_
 rintro h1 hh1
 rw [<-hh1]at P2
 obtain⟨u1,s1,g1,g2⟩:=P2
 rw [CH,<-XU,<-XT]
 clear hh1
 have vY:h1.size=y3:=by omega
 repeat(first|refine AI ?_|refine AH ?_|refine AE ?_)
 refine C5 (vs:=CX f0) rfl (GX g1) ?_
 (repeat refine Cn ?_)
 change ER _ _ _ _ _ _ _ _ _ _ (h1.push (.cells (CX mT).toArray 25 (0,0))) _ _
 refine Bz (vs:=CX f0) rfl rfl (QU Ky) (A3 (c:=CX mT) (AG _ _) rfl (fun _ x=>x)) ?_
 rw [Bw (c:=CX mT) (vs:=CX f0) rfl]
 rw [vY]
 refine A6 (fun h'=>BQ h y1 y2 y3 f0 f0 h') ⟨Ao _ g1,⟨mT,Ao _ g2⟩,by rw [<-vY];exact AG _ _,(u1.trans (AN.push _ _)).mono fun _ _ z=>z.elim,by rw [CH];omega⟩ ?_
 clear u1 s1 g1 g2 XU XT Vt vY h1
 rintro h1 Q
 repeat(first|refine AI ?_|refine AH ?_|refine AE ?_|refine Az ?_)
 refine CS rfl (by first|exact⟨nofun,nofun⟩|simp [OneCell]) ⟨_,Q.cq (i:=0) (by omega)⟩ (AS Q.gq) (fun x=>x) ?_
 refine A6 (fun h'=>BQ h y1 y2 y3 f0 (ut _ 0 AK) h'/\AN (fun b=>b=y3) _ h') ⟨Q.set (i:=0) (by omega) AK,AN.Af _ _ _ rfl⟩ ?_
 clear Q
 rintro h2 ⟨Q,-⟩
 repeat(first|refine AI ?_|refine AH ?_|refine AE ?_|refine Aq ?_)
 refine F3 (fun _:Value×List Value×List (List BH)=>[(3,ptr y3),(2,ptr y2),(1,ptr y1)]) (fun q h' AW=>AW=δ/\BQ h y1 y2 y3 f0 (ut f0 0 q.1) h'/\BS y3 h' q.1 q.2.1 q.2.2/\q.2.2.length<=16) (fun _ qK=>?_) ?_
 ·(repeat refine Ak ?_)
  refine B1 (fun q:Nat×Nat×Value×List Value×List (List BH)=>[(5,.int .i64 q.1),(4,.int .i64 q.2.1),(3,ptr y3),(2,ptr y2),(1,ptr y1)]) (fun q h' AW=>AW=δ/\BQ h y1 y2 y3 f0 (ut f0 0 q.2.2.1) h'/\BS y3 h' q.2.2.1 q.2.2.2.1 q.2.2.2.2/\q.1<=16/\q.2.2.2.2.length=q.1/\q.2.1<=120) (fun q=>16-q.1) (0,0,AK,[],[]) ⟨rfl,rfl,rfl,rfl,rfl,trivial⟩ ⟨rfl,Q,BS.nil,Bv _,rfl,Bv _⟩ ?_
  clear Q h1 h2
  rintro⟨i,S0,Vc,ws,sc⟩ h2 FJ ⟨DL,Q,B,hi,KI,hS⟩ again
  dsimp only at DL Q B hi KI hS again⊢
  obtain rfl:δ=FJ:=DL.symm
  have QN:=Q.n1
  have In2:=In.TY Q.u0
  have c0:=Q.cp (i:=0) (by omega)
  rw [e0]at c0
  by_cases c1:i<ng.length
  case neg=>
   repeat(first|refine AI ?_|refine AH ?_|refine AE ?_|refine AV ?_|refine Az ?_|refine CW ?_|refine Bd ?_|refine Bg ?_|refine BN ?_|refine Am ?_|refine B8 ?_|refine Av rfl (by assumption) ?_)
   exact Ah (qK (Vc,ws,sc) _ _ ⟨rfl,Q,B,by dsimp only;omega⟩) ⟨rfl,rfl,rfl,trivial⟩
  by_cases c2:i<16
  case neg=>
   repeat(first|refine AI ?_|refine AH ?_|refine AE ?_|refine AV ?_|refine Az ?_|refine Bl ?_|refine Bs ?_|refine Bg ?_|refine BN ?_|refine Am ?_|refine B8 ?_|refine Av rfl (by assumption) ?_)
   exact Ah (qK (Vc,ws,sc) _ _ ⟨rfl,Q,B,by dsimp only;omega⟩) ⟨rfl,rfl,rfl,trivial⟩
  obtain⟨wv,mh⟩:∃v,ng[i]?=some v:=⟨_,Cl c1⟩
  obtain⟨l,hl⟩:=In.sc i wv mh
  obtain⟨a,k0,rfl,-⟩:=id hl
  obtain⟨b,o,kx,ex,ia⟩:=In2.V.cell i _ mh
  cases ex
  repeat(first|refine AI ?_|refine AH ?_|refine AE ?_|refine Ar ?_|refine AV ?_|refine Az ?_|refine Bl ?_|refine Bs ?_|refine BN ?_|refine BU ?_|refine Av rfl (by assumption) ?_)
  refine Ak ?_
  repeat(first|refine AI ?_|refine AH ?_|refine AE ?_|refine Aq ?_)
  refine F3 (fun q:Nat×Value×List BH=>[(6,q.2.1),(5,.int .i64 i),(4,.int .i64 ((S0+q.1:Nat):Int)),(3,ptr y3),(2,ptr y2),(1,ptr y1)]) (fun q h' AW=>AW=δ/\AN (fun _=>False) h2 h'/\AR h' q.2.1 41 7 q.2.2.length (q.2.2.flatMap By)/\(∀b,blk q.2.1=some b->h2.size<=b)/\q.2.2.length=q.1/\q.1<=30/\S0+q.1<=120/\∀z,z∈q.2.2->vH z) (fun _ jJ=>?_) ?_
  ·(repeat refine Ak ?_)
   refine B1 (fun q:Nat×Value×List BH=>[(7,.int .i64 q.1),(6,q.2.1),(5,.int .i64 i),(4,.int .i64 ((S0+q.1:Nat):Int)),(3,ptr y3),(2,ptr y2),(1,ptr y1)]) (fun q h' AW=>AW=δ/\AN (fun _=>False) h2 h'/\AR h' q.2.1 41 7 q.2.2.length (q.2.2.flatMap By)/\(∀b,blk q.2.1=some b->h2.size<=b)/\q.2.2.length=q.1/\q.1<=30/\S0+q.1<=120/\∀z,z∈q.2.2->vH z) (fun q=>30-q.1) (0,AK,[]) ⟨rfl,rfl,rfl,rfl,rfl,rfl,rfl,trivial⟩ ⟨rfl,AN.refl _ _,AR.nil,fun b e=>(by cases e),rfl,Bv _,hS,fun z hz=>(by cases hz)⟩ ?_
   rintro⟨k,lc,cs⟩ h3 Hz ⟨DL,u3,Me,NT,Ea,hk,ie,MA⟩ Jb
   dsimp only at DL u3 Me NT Ea hk ie MA Jb⊢
   obtain rfl:δ=Hz:=DL.symm
   have Q3:=Q.up u3 (fun _ z=>z.elim)
   have c03:=Q3.cp (i:=0) (by omega)
   rw [e0]at c03
   have zH:=u3.AF ia (fun x=>x)
   clear c0
   by_cases d0:k<l.length/\k<30/\S0+k<120
   ·obtain⟨d1,d2,d3⟩:=d0
    obtain⟨q,hq⟩:∃q,l[k]?=some q:=⟨_,Cl d1⟩
    obtain⟨a',k',e',A0⟩:=hl.TY Q3.u0
    cases e'
    obtain⟨b',o',rfl,SC,xs,hx,KH⟩:=A0 k q hq
    obtain⟨qa,qk,eql⟩:=hx.val
    clear A0
    repeat(first|refine AI ?_|refine AH ?_|refine AE ?_|refine Ar ?_|refine Ak ?_|refine AV ?_|refine Az ?_|refine Bl ?_|refine Bs ?_|refine BN ?_|refine Cd ?_|refine BU ?_|refine Av rfl (by assumption) ?_)
    refine C5 (vs:=By q) rfl SC ?_
    (repeat refine Cn ?_)
    change ER _ _ _ _ _ _ _ _ _ _ (h3.push (.cells cm.toArray 41 (0,0))) _ _
    refine Bz (vs:=By q) rfl rfl (by rw [By,eql];simp [OneCell]) (A3 (c:=cm) (AG _ _) rfl (fun _ x=>x)) ?_
    rw [Bw (c:=cm) (vs:=By q) rfl]
    obtain⟨y8,Qj⟩:∃y,y=h3.size:=⟨_,rfl⟩
    refine A6 (fun h'=>AN (fun b=>h3.size<=b) h3 h'/\h'[y8]?=some (Bo q)) ⟨AN.push _ _,by rw [Qj];exact AG _ _⟩ ?_
    rw [<-Qj]
    rintro h4 ⟨u4,g4⟩
    have c8:AF h4 ⟨y8,0,none⟩=some (.int .i64 q.op):=AD g4 rfl
    clear SC c03 zH
    repeat(first|refine AI ?_|refine AH ?_|refine AE ?_|refine Az ?_|refine Df ?_)
    refine BV rfl U1 ?_
    rintro _ h5 Qi ⟨⟨pb,rfl,hpb⟩,ab,uU⟩
    obtain rfl:h4=h5:=ab.symm
    obtain rfl:δ=Qi:=uU.symm
    refine B9 ?_
    repeat(first|refine AE ?_|refine AI ?_)
    refine F3 (fun _:BH=>[(8,ptr y8),(7,.int .i64 k),(6,lc),(5,.int .i64 i),(4,.int .i64 ((S0+k:Nat):Int)),(3,ptr y3),(2,ptr y2),(1,ptr y1)]) (fun z h' AW=>AW=δ/\AN (fun b=>y8<=b) h3 h'/\h'[y8]?=some (Bo z)/\((10<=z.op/\z.op<=13)\/100<=z.op)/\∃xs:List Int,Hh h' z.l (xs.map iV)/\xs.length<=1000000000000000) (fun _ key=>?_) ?_
    ·cases pb with
     | true=>
      repeat(first|refine Ar ?_|refine Am ?_)
      exact Ah (key q _ _ ⟨rfl,u4,g4,hpb rfl,xs,hx.upd u4 fun hn b hb=>by have:=hx.lt hn b hb;omega,KH⟩) ⟨rfl,rfl,rfl,rfl,rfl,rfl,rfl,rfl,trivial⟩
     | false=>
      repeat(first|refine AH ?_|refine BU ?_)
      refine Ep (cells:=(By ⟨102,-1,0,0,0,0,AK⟩).toArray) ?_
      refine Bz (vs:=By ⟨102,-1,0,0,0,0,AK⟩) rfl rfl (by simp [By,OneCell]) (A3 (c:=By q) g4 rfl (fun _ x=>x)) ?_
      rw [Au (c:=By q) (vs:=By ⟨102,-1,0,0,0,0,AK⟩) g4 rfl]
      (repeat refine AE ?_)
      exact Ah (key ⟨102,-1,0,0,0,0,AK⟩ _ _ ⟨rfl,u4.trans (AN.set _ _ _ (CY _)),AJ g4,.inr (by show(100:Int)<=102;omega),[],⟨⟨none,0,rfl⟩,fun j v hv=>(by cases hv)⟩,Bv _⟩) ⟨rfl,rfl,rfl,rfl,rfl,rfl,rfl,rfl,trivial⟩
    clear ab uU u4 g4 c8 hx KH eql hq hpb h4
    rintro z h4 MC ⟨DL,u4,g4,hzo,xs2,hx,KH⟩
    obtain rfl:δ=MC:=DL.symm
    have c6:AF h4 ⟨y8,6,none⟩=some z.l:=AD g4 rfl
    repeat(first|refine AI ?_|refine AH ?_|refine Az ?_|refine Df ?_)
    refine BV rfl (Nj hx KH (by decide:(6:Int)<=1000000) (fun _ _ _ x=>x)) ?_
    rintro w h5 Qi ⟨uU,ys,N,wG⟩
    obtain rfl:δ=Qi:=uU.symm
    obtain⟨aN,kN,rfl⟩:=N.sl.val
    have g5:=N.up.get g4 (fun x=>x)
    have u5:=u4.trans (N.up.mono (T':=fun b=>y8<=b) fun _ _ x=>x.elim)
    clear c6 hx KH g4 u4
    (repeat refine Az ?_)
    refine CS rfl (by simp [OneCell]) ⟨_,(AD g5 rfl:AF h5 ⟨y8,6,none⟩=some z.l)⟩ (AS g5) (fun x=>x) ?_
    rw [As g5]
    change ER _ _ _ _ _ _ _ _ _ _ (h5.setIfInBounds y8 (Bo {z with l:=.slice aN ys.length kN})) _ _
    refine A6 (fun h'=>AN (fun b=>y8<=b) h3 h'/\h'[y8]?=some (Bo {z with l:=.slice aN ys.length kN})) ⟨u5.trans (AN.set _ _ _ (CY _)),AJ g5⟩ ?_
    clear u5 g5 N h5
    rintro h5 ⟨u5,g5⟩
    obtain⟨z2,oI⟩:∃z2,z2={z with l:=.slice aN ys.length kN}:=⟨_,rfl⟩
    have ez2:z2.l= .slice aN ys.length kN:=by rw [oI]
    have eo2:(10<=z2.op/\z2.op<=13)\/100<=z2.op:=by rw [oI];exact hzo
    rw [<-oI]at g5
    have HY:=Me.upd u5 fun b hb e=>by have:=Me.lt hb;omega
    have lc5:∀b,blk lc=some b->b<y8:=fun b hb=>by have:=Me.lt hb;omega
    repeat(first|refine AI ?_|refine AH ?_|refine AE ?_|refine AV ?_)
    refine C5 (vs:=By z2) rfl (CA (vs:=By z2) (rest:=[]) (by rw [DI];exact g5)) ?_
    refine LA (sz:=7) (z:=.agg cm.toArray) (cells:=(By z2).toArray) rfl rfl rfl (by omega) (by omega) rfl (by rfl) ?_
    refine D9 (new:=By z2) rfl rfl rfl rfl (HY.upd (AN.push (T:=fun _=>False) h5 (.cells (By z2).toArray 41)) (fun _ _ x=>x)) (AG _ _) rfl (by rw [By,ez2];simp [OneCell]) (by omega) (by omega) (by rfl) (fun _ _ _ x=>x) ?_
    intro s' h6 PG u6 Tc
    have Ey:=u3.size
    have mP:AN (fun b=>h2.size<=b) h3 h6:=((u5.mono (T':=fun b=>h2.size<=b) fun b _ hb=>by omega).trans (AN.push _ (.cells (By z2).toArray 41))).trans (u6.mono fun b _ hb=>NT b hb)
    have u26:=u3.over mP (fun b hb=>hb)
    have Vy:∀b,blk s'=some b->h2.size<=b:=fun b hb=>by
     rcases Tc b hb with x|x
     ·exact NT b x
     ·have:=u5.size
      rw [x,CH];omega
    obtain⟨sa,sk,es⟩:=PG.val
    repeat(first|refine AH ?_|refine AE ?_|refine Bb ?_|refine AV ?_|refine Aq ?_|refine BR (kd:=.i64) rfl (i64_in (by omega) (by omega)) ?_)
    refine Ah (Jb (k+1,s',cs++[z2]) _ _ (by dsimp only;omega) ⟨rfl,u26,?_,Vy,by dsimp only;rw [List.length_append,Ea];rfl,by dsimp only;omega,by dsimp only;omega,fun x hx=>?_⟩) ⟨rfl,rfl,rfl,by show some (Value.int .i64 _)=some (Value.int .i64 _);congr 2,rfl,rfl,rfl,trivial⟩
    ·dsimp only
     rw [C1,Ln]
     simpa using PG
    ·rcases Ff.1 hx with x'|x'
     ·exact MA x x'
     ·rw [DD.1 x'];exact⟨eo2,_,_,_,ez2⟩
   ·have out:∀{α:Prop},(l.length<=k->α)->(30<=k->k<l.length->α)->(120<=S0+k->k<l.length->k<30->α)->α:=fun {α} h1 h2 h3=>by
     by_cases d1:k<l.length
     ·by_cases d2:k<30
      ·exact h3 (by omega) d1 d2
      ·exact h2 (by omega) d1
     ·exact h1 (by omega)
    refine out (fun d1=>?_) (fun d1 d2=>?_) (fun d1 d2 d3=>?_)
    ·repeat(first|refine AI ?_|refine AH ?_|refine AE ?_|refine AV ?_|refine Az ?_|refine CW ?_|refine Bd ?_|refine Bg ?_|refine BN ?_|refine Cd ?_|refine Am ?_|refine B8 ?_|refine Av rfl (by assumption) ?_)
     exact Ah (jJ (k,lc,cs) _ _ ⟨rfl,u3,Me,NT,Ea,hk,ie,MA⟩) ⟨rfl,rfl,rfl,rfl,rfl,rfl,trivial⟩
    ·repeat(first|refine AI ?_|refine AH ?_|refine AE ?_|refine AV ?_|refine Az ?_|refine CW ?_|refine Bl ?_|refine Bd ?_|refine Bs ?_|refine Bg ?_|refine BN ?_|refine Cd ?_|refine Am ?_|refine B8 ?_|refine Av rfl (by assumption) ?_)
     exact Ah (jJ (k,lc,cs) _ _ ⟨rfl,u3,Me,NT,Ea,hk,ie,MA⟩) ⟨rfl,rfl,rfl,rfl,rfl,rfl,trivial⟩
    ·repeat(first|refine AI ?_|refine AH ?_|refine AE ?_|refine AV ?_|refine Az ?_|refine Bl ?_|refine Bs ?_|refine Bg ?_|refine BN ?_|refine Cd ?_|refine Am ?_|refine B8 ?_|refine Av rfl (by assumption) ?_)
     exact Ah (jJ (k,lc,cs) _ _ ⟨rfl,u3,Me,NT,Ea,hk,ie,MA⟩) ⟨rfl,rfl,rfl,rfl,rfl,rfl,trivial⟩
  ·rintro⟨k,lc,cs⟩ h3 Hz ⟨DL,u3,Me,NT,Ea,hk,ie,MA⟩
   dsimp only at DL u3 Me NT Ea hk ie MA⊢
   obtain rfl:δ=Hz:=DL.symm
   have Q3:=Q.up u3 (fun _ z=>z.elim)
   have B3:=B.upd u3 (fun _ _ _ x=>x)
   have fL:=Q3.cq (i:=0) (by omega)
   rw [AL]at fL
   have xO:=B.len
   obtain⟨la,lk,rfl⟩:=Me.val
   have QN3:=Q3.n1
   have nlc:∀b,blk (.slice la cs.length lk)=some b->y3<b:=fun b hb=>by have:=NT b hb;omega
   clear c0 ia Q B
   repeat(first|refine AH ?_|refine AV ?_|refine Az ?_|refine Av rfl (by assumption) ?_)
   refine Fv (sz:=1) (z:=AK) (cells:=#[.slice la cs.length lk]) ?_
   have uP:AN (fun _=>False) h3 (h3.push (.cells #[.slice la cs.length lk] 39 (0,0))):=AN.push _ _
   have B4:=B3.upd uP (fun _ _ _ x=>x)
   have Kq:=Me.upd uP (fun _ _ x=>x)
   have Q4:=Q3.up uP (fun _ z=>z.elim)
   refine D9 (new:=[.slice la cs.length lk]) rfl rfl rfl rfl B4.sl (AG _ _) rfl (by simp [OneCell]) (by omega) (by omega) rfl (fun _ _ _ x=>x) ?_
   intro s' h4 HY u5 MB
   have B5:=B4.app u5 HY MB (by rw [CH];omega) Kq nlc (by omega) MA
   have Q:=Q4.up u5 (fun b hb=>B4.nb b hb)
   obtain⟨sa,sk,rfl⟩:=HY.val
   clear B4 Kq Q4 uP B3 Q3 fL HY u5 MB
   (repeat refine Az ?_)
   refine CS rfl (by first|exact⟨nofun,nofun⟩|simp [OneCell]) ⟨_,Q.cq (i:=0) (by omega)⟩ (AS Q.gq) (fun x=>x) ?_
   refine A6 (fun h'=>BQ h y1 y2 y3 f0 (ut _ 0 (.slice sa (ws.length+1) sk)) h'/\AN (fun b=>b=y3) _ h') ⟨Q.set (i:=0) (by omega) (.slice sa (ws.length+1) sk),AN.Af _ _ _ rfl⟩ ?_
   clear Q
   rintro hN ⟨Q,uN⟩
   rw [Mf]at Q
   have B:=B5.upd uN fun b hb _ e=>by omega
   repeat(first|refine AH ?_|refine AE ?_|refine Bb ?_|refine AV ?_|refine Aq ?_|refine BR (kd:=.i64) rfl (i64_in (by omega) (by omega)) ?_)
   exact Ah (again (i+1,S0+k,.slice sa (ws.length+1) sk,ws++[.slice la cs.length lk],sc++[cs]) _ _ (by dsimp only;omega) ⟨rfl,Q,B,by dsimp only;omega,by dsimp only;rw [List.length_append,KI];rfl,ie⟩) ⟨rfl,rfl,rfl,rfl,rfl,trivial⟩
 rintro⟨V,ws,sc⟩ h2 FJ ⟨DL,Q,B,KI⟩
 dsimp only at DL Q B KI⊢
 obtain rfl:δ=FJ:=DL.symm
 have QN:=Q.n1
 have fL:=Q.cq (i:=0) (by omega)
 rw [AL]at fL
 obtain⟨Va',Vk',rfl⟩:=B.sl.val
 have xO:=B.len
 repeat(first|refine AI ?_|refine AH ?_|refine Az ?_|refine BN ?_|refine Av rfl (by assumption) ?_)
 refine OQ rfl rfl rfl rfl rfl rfl ?_
 repeat(first|refine AE ?_|refine AI ?_)
 refine F3 (fun _:Value×List Value×List (List BH)=>[(3,ptr y3),(2,ptr y2),(1,ptr y1)]) (fun q h' AW=>AW=δ/\BQ h y1 y2 y3 f0 (ut f0 0 q.1) h'/\BS y3 h' q.1 q.2.1 q.2.2/\1<=q.2.2.length/\q.2.2.length<=16) (fun _ key=>?_) ?_
 ·refine YX rfl (fun e=>?_) (fun e=>?_)
  ·(repeat refine AH ?_)
   refine Fv (sz:=1) (z:=AK) (cells:=#[AK]) ?_
   have Bn:BS y3 (h2.push (.cells #[AK] 39)) (.slice (some ⟨h2.size,0,none⟩) 1 1) [AK] [[]]:=by
    refine⟨⟨rfl,.inr ⟨h2.size,1,[],rfl,CY _,rfl,AG _ _⟩⟩,rfl,fun s l hl=>?_,fun b hb=>?_,fun s l q hl hq=>?_,fun s l hl=>?_⟩
    ·match s,hl with
     | 0,hl=>
      obtain rfl:=D4 hl
      exact⟨AK,rfl,AR.nil,fun b hb=>by cases hb⟩
     | s+1,hl=>cases hl
    ·obtain rfl:h2.size=b:=D4 hb
     omega
    ·match s,hl with
     | 0,hl=>obtain rfl:=D4 hl;cases hq
     | s+1,hl=>cases hl
    ·match s,hl with
     | 0,hl=>obtain rfl:=D4 hl;exact Bv _
     | s+1,hl=>cases hl
   replace Q:=Q.up (AN.push (T:=fun _=>False) h2 (.cells #[AK] 39)) (fun _ z=>z.elim)
   (repeat refine Az ?_)
   refine CS rfl (by first|exact⟨nofun,nofun⟩|simp [OneCell]) ⟨_,Q.cq (i:=0) (by omega)⟩ (AS Q.gq) (fun x=>x) ?_
   refine A6 (fun h'=>BQ h y1 y2 y3 f0 (ut _ 0 (.slice (some ⟨h2.size,0,none⟩) 1 1)) h'/\AN (fun b=>b=y3) _ h') ⟨Q.set (i:=0) (by omega) (.slice (some ⟨h2.size,0,none⟩) 1 1),AN.Af _ _ _ rfl⟩ ?_
   clear Q
   rintro hN ⟨Q,uN⟩
   rw [Mf]at Q
   (repeat refine AE ?_)
   exact Ah (key (.slice (some ⟨h2.size,0,none⟩) 1 1,[AK],[[]]) _ _ ⟨rfl,Q,Bn.upd uN (fun b hb _ e=>by have e':b=y3:=e;omega),CY _,by show 1<=16;omega⟩) ⟨rfl,rfl,rfl,trivial⟩
  ·have e':¬((ws.length:Int)=0):=of_decide_eq_false e
   (repeat refine Ar ?_)
   exact Ah (key (.slice Va' ws.length Vk',ws,sc) _ _ ⟨rfl,Q,B,by dsimp only;omega,KI⟩) ⟨rfl,rfl,rfl,trivial⟩
 clear Q B QN fL KI xO Va' Vk' ws sc h2
 rintro⟨V,ws,sc⟩ h2 FJ ⟨DL,Q,B0,qP,KI⟩
 dsimp only at DL Q B0 qP KI⊢
 obtain rfl:δ=FJ:=DL.symm
 obtain⟨Vb,pW,rfl⟩:=B0.sl.val
 have xO:=B0.len
 have B:BP y3 h2 (.slice Vb ws.length pW) ws sc AK []:=⟨B0,AR.nil,fun b hb=>by cases hb⟩
 clear B0
 have cth:=Q.cp (i:=1) (by omega)
 rw [e1]at cth
 have fL:=Q.cq (i:=0) (by omega)
 rw [AL]at fL
 obtain⟨m6,hm6⟩:∃m:Int,(if(6:Int)<(ws.length:Int)then 6 else(ws.length:Int))=m:=⟨_,rfl⟩
 have AFW:1<=m6/\m6<=6/\m6<=sc.length:=by rw [<-hm6];split <;> omega
 repeat(first|refine AI ?_|refine AH ?_|refine Az ?_|refine BN ?_|refine Av rfl (by assumption) ?_)
 refine VK (r:=m6) rfl rfl rfl rfl hm6 ?_
 skip
 refine Bx rfl (OK (a:=i1) (n:=m6) (by omega) (by omega)) ?_
 have zG:=Int.emod_nonneg i1 (b:=m6) (by omega)
 have zF:=Int.emod_lt_of_pos i1 (b:=m6) (by omega)
 obtain⟨t0,oQ⟩:∃t,t=i1 % m6:=⟨_,rfl⟩
 rw [<-oQ]at zG zF⊢
 repeat(first|refine Az ?_|refine BR (kd:=.i64) rfl (i64_in (by omega) (by omega)) ?_)
 refine CS rfl (by first|exact⟨nofun,nofun⟩|simp [OneCell]) ⟨_,Q.cq (i:=1) (by omega)⟩ (AS Q.gq) (fun x=>x) ?_
 refine A6 (fun h'=>BQ h y1 y2 y3 f0 (ut _ 1 (.int .i64 (1+t0))) h'/\AN (fun b=>b=y3) _ h') ⟨Q.set (i:=1) (by omega) (.int .i64 (1+t0)),AN.Af _ _ _ rfl⟩ ?_
 clear Q
 clear cth fL
 rintro hN ⟨Q,uN⟩
 replace B:=B.upd uN fun b hb _ e=>by have e':b=y3:=e;omega
 clear uN
 have ca:=Q.cp (i:=2) (by omega)
 rw [e2]at ca
 repeat(first|refine AI ?_|refine AH ?_|refine AE ?_|refine Az ?_|refine Av rfl (by assumption) ?_)
 refine Bx rfl (OK (a:=i2) (n:=8192) (by omega) (by omega)) ?_
 (repeat refine Az ?_)
 refine CS rfl (by first|exact⟨nofun,nofun⟩|simp [OneCell]) ⟨_,Q.cq (i:=2) (by omega)⟩ (AS Q.gq) (fun x=>x) ?_
 refine A6 (fun h'=>BQ h y1 y2 y3 f0 (ut _ 2 (.int .i64 (Int.emod i2 8192))) h'/\AN (fun b=>b=y3) _ h') ⟨Q.set (i:=2) (by omega) (.int .i64 (Int.emod i2 8192)),AN.Af _ _ _ rfl⟩ ?_
 clear Q
 clear ca
 rintro hN ⟨Q,uN⟩
 replace B:=B.upd uN fun b hb _ e=>by have e':b=y3:=e;omega
 clear uN
 have ca:=Q.cp (i:=3) (by omega)
 obtain⟨xs,hx,KH⟩:=hp 3 (by omega)
 replace hx:=hx.TY Q.u0
 have QN:=Q.n1
 repeat(first|refine AI ?_|refine AH ?_|refine AE ?_|refine Az ?_|refine Av rfl (by assumption) ?_)
 refine BV rfl (Nj (n:=1500) hx KH (by decide) (fun _ _ _ x=>x)) ?_
 rintro w hM XL ⟨Nw,Z9,N,yd⟩
 obtain rfl:δ=XL:=Nw.symm
 obtain⟨a3,k3,rfl⟩:=N.sl.val
 replace Q:=Q.up N.up fun _ z=>z.elim
 replace B:=B.upd N.up fun b hb _ z=>z
 have nN:∀b,blk (.slice a3 Z9.length k3)=some b->y3<b:=fun b hb=>by have:=N.fr b hb;have:=QN.2.2.2;omega
 have NP:=N.sl
 clear ca hx KH N
 (repeat refine Az ?_)
 refine CS rfl (by first|exact⟨nofun,nofun⟩|simp [OneCell]) ⟨_,Q.cq (i:=3) (by omega)⟩ (AS Q.gq) (fun x=>x) ?_
 refine A6 (fun h'=>BQ h y1 y2 y3 f0 (ut _ 3 (.slice a3 Z9.length k3)) h'/\AN (fun b=>b=y3) _ h') ⟨Q.set (i:=3) (by omega) (.slice a3 Z9.length k3),AN.Af _ _ _ rfl⟩ ?_
 clear Q
 rintro hN ⟨Q,uN⟩
 replace B:=B.upd uN fun b hb _ e=>by have e':b=y3:=e;omega
 replace NP:=NP.upd uN fun b hb e=>by have e':b=y3:=e;have:=nN b hb;omega
 clear uN QN
 replace B:BP y3 hN (.slice Vb ws.length pW) ws sc (.slice a3 Z9.length k3) Z9:=⟨B.b,NP,nN⟩
 clear NP nN
 have ca:=Q.cp (i:=4) (by omega)
 rw [e4]at ca
 repeat(first|refine AI ?_|refine AH ?_|refine AE ?_|refine Az ?_|refine Av rfl (by assumption) ?_)
 refine Bx rfl (OK (a:=i4) (n:=4) (by omega) (by omega)) ?_
 (repeat refine Az ?_)
 refine CS rfl (by first|exact⟨nofun,nofun⟩|simp [OneCell]) ⟨_,Q.cq (i:=4) (by omega)⟩ (AS Q.gq) (fun x=>x) ?_
 refine A6 (fun h'=>BQ h y1 y2 y3 f0 (ut _ 4 (.int .i64 (Int.emod i4 4))) h'/\AN (fun b=>b=y3) _ h') ⟨Q.set (i:=4) (by omega) (.int .i64 (Int.emod i4 4)),AN.Af _ _ _ rfl⟩ ?_
 clear Q
 clear ca
 rintro hN ⟨Q,uN⟩
 replace B:=B.upd uN fun b hb _ e=>by have e':b=y3:=e;omega
 clear uN
 have ca:=Q.cp (i:=5) (by omega)
 rw [e5]at ca
 repeat(first|refine AI ?_|refine AH ?_|refine AE ?_|refine Az ?_|refine Av rfl (by assumption) ?_)
 refine Bx rfl (OK (a:=i5) (n:=8) (by omega) (by omega)) ?_
 (repeat refine Az ?_)
 refine CS rfl (by first|exact⟨nofun,nofun⟩|simp [OneCell]) ⟨_,Q.cq (i:=5) (by omega)⟩ (AS Q.gq) (fun x=>x) ?_
 refine A6 (fun h'=>BQ h y1 y2 y3 f0 (ut _ 5 (.int .i64 (Int.emod i5 8))) h'/\AN (fun b=>b=y3) _ h') ⟨Q.set (i:=5) (by omega) (.int .i64 (Int.emod i5 8)),AN.Af _ _ _ rfl⟩ ?_
 clear Q
 clear ca
 rintro hN ⟨Q,uN⟩
 replace B:=B.upd uN fun b hb _ e=>by have e':b=y3:=e;omega
 clear uN
 have ca:=Q.cp (i:=6) (by omega)
 rw [e6]at ca
 repeat(first|refine AI ?_|refine AH ?_|refine AE ?_|refine Az ?_|refine Av rfl (by assumption) ?_)
 refine Bx rfl (OK (a:=i6) (n:=4) (by omega) (by omega)) ?_
 (repeat refine Az ?_)
 refine CS rfl (by first|exact⟨nofun,nofun⟩|simp [OneCell]) ⟨_,Q.cq (i:=6) (by omega)⟩ (AS Q.gq) (fun x=>x) ?_
 refine A6 (fun h'=>BQ h y1 y2 y3 f0 (ut _ 6 (.int .i64 (Int.emod i6 4))) h'/\AN (fun b=>b=y3) _ h') ⟨Q.set (i:=6) (by omega) (.int .i64 (Int.emod i6 4)),AN.Af _ _ _ rfl⟩ ?_
 clear Q
 clear ca
 rintro hN ⟨Q,uN⟩
 replace B:=B.upd uN fun b hb _ e=>by have e':b=y3:=e;omega
 clear uN
 have ca:=Q.cp (i:=7) (by omega)
 obtain⟨xs,hx,KH⟩:=hp 7 (by omega)
 replace hx:=hx.TY Q.u0
 have QN:=Q.n1
 repeat(first|refine AI ?_|refine AH ?_|refine AE ?_|refine Az ?_|refine Av rfl (by assumption) ?_)
 refine BV rfl (Nj (n:=6) hx KH (by decide) (fun _ _ _ x=>x)) ?_
 rintro w hM XL ⟨Nw,vJ,N,AFJ⟩
 obtain rfl:δ=XL:=Nw.symm
 obtain⟨a7,k7,rfl⟩:=N.sl.val
 replace Q:=Q.up N.up fun _ z=>z.elim
 replace B:=B.upd N.up fun b hb _ z=>z
 have nN:∀b,blk (.slice a7 vJ.length k7)=some b->y3<b:=fun b hb=>by have:=N.fr b hb;have:=QN.2.2.2;omega
 have NP:=N.sl
 clear ca hx KH N
 (repeat refine Az ?_)
 refine CS rfl (by first|exact⟨nofun,nofun⟩|simp [OneCell]) ⟨_,Q.cq (i:=7) (by omega)⟩ (AS Q.gq) (fun x=>x) ?_
 refine A6 (fun h'=>BQ h y1 y2 y3 f0 (ut _ 7 (.slice a7 vJ.length k7)) h'/\AN (fun b=>b=y3) _ h') ⟨Q.set (i:=7) (by omega) (.slice a7 vJ.length k7),AN.Af _ _ _ rfl⟩ ?_
 clear Q
 rintro hN ⟨Q,uN⟩
 replace B:=B.upd uN fun b hb _ e=>by have e':b=y3:=e;omega
 replace NP:=NP.upd uN fun b hb e=>by have e':b=y3:=e;have:=nN b hb;omega
 clear uN QN
 clear NP nN
 have ca:=Q.cp (i:=11) (by omega)
 obtain⟨xs,hx,KH⟩:=hp 11 (by omega)
 replace hx:=hx.TY Q.u0
 have QN:=Q.n1
 repeat(first|refine AI ?_|refine AH ?_|refine AE ?_|refine Az ?_|refine Av rfl (by assumption) ?_)
 refine BV rfl (Nj (n:=4) hx KH (by decide) (fun _ _ _ x=>x)) ?_
 rintro w hM XL ⟨Nw,iz,N,ABu⟩
 obtain rfl:δ=XL:=Nw.symm
 obtain⟨R0,au,rfl⟩:=N.sl.val
 replace Q:=Q.up N.up fun _ z=>z.elim
 replace B:=B.upd N.up fun b hb _ z=>z
 have nN:∀b,blk (.slice R0 iz.length au)=some b->y3<b:=fun b hb=>by have:=N.fr b hb;have:=QN.2.2.2;omega
 have NP:=N.sl
 clear ca hx KH N
 (repeat refine Az ?_)
 refine CS rfl (by first|exact⟨nofun,nofun⟩|simp [OneCell]) ⟨_,Q.cq (i:=11) (by omega)⟩ (AS Q.gq) (fun x=>x) ?_
 refine A6 (fun h'=>BQ h y1 y2 y3 f0 (ut _ 11 (.slice R0 iz.length au)) h'/\AN (fun b=>b=y3) _ h') ⟨Q.set (i:=11) (by omega) (.slice R0 iz.length au),AN.Af _ _ _ rfl⟩ ?_
 clear Q
 rintro hN ⟨Q,uN⟩
 replace B:=B.upd uN fun b hb _ e=>by have e':b=y3:=e;omega
 replace NP:=NP.upd uN fun b hb e=>by have e':b=y3:=e;have:=nN b hb;omega
 clear uN QN
 clear NP nN
 have ca:=Q.cp (i:=8) (by omega)
 obtain⟨xs,hx,KH⟩:=hp 8 (by omega)
 replace hx:=hx.TY Q.u0
 have QN:=Q.n1
 repeat(first|refine AI ?_|refine AH ?_|refine AE ?_|refine Az ?_|refine Av rfl (by assumption) ?_)
 refine BV rfl (RU hx KH (fun _ _ _ x=>x)) ?_
 rintro w hM XL ⟨Nw,na,N,AFI⟩
 obtain rfl:δ=XL:=Nw.symm
 obtain⟨a8,k8,rfl⟩:=N.sl.val
 replace Q:=Q.up N.up fun _ z=>z.elim
 replace B:=B.upd N.up fun b hb _ z=>z
 have nN:∀b,blk (.slice a8 na.length k8)=some b->y3<b:=fun b hb=>by have:=N.fr b hb;have:=QN.2.2.2;omega
 have NP:=N.sl
 clear ca hx KH N
 (repeat refine Az ?_)
 refine CS rfl (by first|exact⟨nofun,nofun⟩|simp [OneCell]) ⟨_,Q.cq (i:=8) (by omega)⟩ (AS Q.gq) (fun x=>x) ?_
 refine A6 (fun h'=>BQ h y1 y2 y3 f0 (ut _ 8 (.slice a8 na.length k8)) h'/\AN (fun b=>b=y3) _ h') ⟨Q.set (i:=8) (by omega) (.slice a8 na.length k8),AN.Af _ _ _ rfl⟩ ?_
 clear Q
 rintro hN ⟨Q,uN⟩
 replace B:=B.upd uN fun b hb _ e=>by have e':b=y3:=e;omega
 replace NP:=NP.upd uN fun b hb e=>by have e':b=y3:=e;have:=nN b hb;omega
 clear uN QN
 clear NP nN
 have c8:AF hN ⟨y3,8,none⟩=some (.slice a8 na.length k8):=Q.cq (i:=8) (by omega)
 have ca:=Q.cp (i:=9) (by omega)
 obtain⟨xs,hx,KH⟩:=hp 9 (by omega)
 replace hx:=hx.TY Q.u0
 have QN:=Q.n1
 repeat(first|refine AI ?_|refine AH ?_|refine AE ?_|refine Az ?_|refine BN ?_|refine Av rfl (by assumption) ?_)
 refine BV rfl (RU hx KH (fun _ _ _ x=>x)) ?_
 rintro w hM XL ⟨Nw,iH,N,AFH⟩
 obtain rfl:δ=XL:=Nw.symm
 obtain⟨a9,k9,rfl⟩:=N.sl.val
 replace Q:=Q.up N.up fun _ z=>z.elim
 replace B:=B.upd N.up fun b hb _ z=>z
 have nN:∀b,blk (.slice a9 iH.length k9)=some b->y3<b:=fun b hb=>by have:=N.fr b hb;have:=QN.2.2.2;omega
 have NP:=N.sl
 clear ca hx KH N
 (repeat refine Az ?_)
 refine CS rfl (by first|exact⟨nofun,nofun⟩|simp [OneCell]) ⟨_,Q.cq (i:=9) (by omega)⟩ (AS Q.gq) (fun x=>x) ?_
 refine A6 (fun h'=>BQ h y1 y2 y3 f0 (ut _ 9 (.slice a9 iH.length k9)) h'/\AN (fun b=>b=y3) _ h') ⟨Q.set (i:=9) (by omega) (.slice a9 iH.length k9),AN.Af _ _ _ rfl⟩ ?_
 clear Q
 rintro hN ⟨Q,uN⟩
 replace B:=B.upd uN fun b hb _ e=>by have e':b=y3:=e;omega
 replace NP:=NP.upd uN fun b hb e=>by have e':b=y3:=e;have:=nN b hb;omega
 clear uN QN
 clear NP nN c8
 have c8:AF hN ⟨y3,8,none⟩=some (.slice a8 na.length k8):=Q.cq (i:=8) (by omega)
 have ca:=Q.cp (i:=12) (by omega)
 obtain⟨xs,hx,KH⟩:=hp 12 (by omega)
 replace hx:=hx.TY Q.u0
 have QN:=Q.n1
 repeat(first|refine AI ?_|refine AH ?_|refine AE ?_|refine Az ?_|refine BN ?_|refine Av rfl (by assumption) ?_)
 refine BV rfl (RU hx KH (fun _ _ _ x=>x)) ?_
 rintro w hM XL ⟨Nw,iy,N,ABt⟩
 obtain rfl:δ=XL:=Nw.symm
 obtain⟨VA,mc,rfl⟩:=N.sl.val
 replace Q:=Q.up N.up fun _ z=>z.elim
 replace B:=B.upd N.up fun b hb _ z=>z
 have nN:∀b,blk (.slice VA iy.length mc)=some b->y3<b:=fun b hb=>by have:=N.fr b hb;have:=QN.2.2.2;omega
 have NP:=N.sl
 clear ca hx KH N
 (repeat refine Az ?_)
 refine CS rfl (by first|exact⟨nofun,nofun⟩|simp [OneCell]) ⟨_,Q.cq (i:=12) (by omega)⟩ (AS Q.gq) (fun x=>x) ?_
 refine A6 (fun h'=>BQ h y1 y2 y3 f0 (ut _ 12 (.slice VA iy.length mc)) h'/\AN (fun b=>b=y3) _ h') ⟨Q.set (i:=12) (by omega) (.slice VA iy.length mc),AN.Af _ _ _ rfl⟩ ?_
 clear Q
 rintro hN ⟨Q,uN⟩
 replace B:=B.upd uN fun b hb _ e=>by have e':b=y3:=e;omega
 replace NP:=NP.upd uN fun b hb e=>by have e':b=y3:=e;have:=nN b hb;omega
 clear uN QN
 clear NP nN c8
 repeat(first|refine AI ?_|refine AH ?_|refine AE ?_|refine Az ?_)
 refine CS rfl (by first|exact⟨nofun,nofun⟩|simp [OneCell]) ⟨_,Q.cq (i:=10) (by omega)⟩ (AS Q.gq) (fun x=>x) ?_
 refine A6 (fun h'=>BQ h y1 y2 y3 f0 (ut _ 10 AK) h'/\AN (fun b=>b=y3) _ h') ⟨Q.set (i:=10) (by omega) AK,AN.Af _ _ _ rfl⟩ ?_
 clear Q
 rintro hL ⟨Q,uN⟩
 replace B:=B.upd uN fun b hb _ e=>by have e':b=y3:=e;omega
 clear uN
 obtain⟨FB,Q,a0,a1,a2,fP,a4,a6,a9'⟩:∃FB,BQ h y1 y2 y3 f0 (ut FB 10 AK) hL/\FB 0= .slice Vb ws.length pW/\FB 1= .int .i64 (1+t0)/\FB 2= .int .i64 (i2 % 8192)/\FB 3= .slice a3 Z9.length k3/\FB 4= .int .i64 (i4 % 4)/\FB 6= .int .i64 (i6 % 4)/\FB 9= .slice a9 iH.length k9:=⟨_,Q,rfl,rfl,rfl,rfl,rfl,rfl,rfl⟩
 obtain⟨xs,hx,KH⟩:=hp 10 (by omega)
 obtain⟨ra,rk,er⟩:=hx.val
 rw [Ca]at er
 repeat(first|refine AI ?_|refine AH ?_|refine AE ?_|refine Aq ?_)
 refine F3 (fun _:Value=>[(3,ptr y3),(2,ptr y2),(1,ptr y1)]) (fun q h' AW=>AW=δ/\BQ h y1 y2 y3 f0 (ut FB 10 q) h'/\BP y3 h' (.slice Vb ws.length pW) ws sc (.slice a3 Z9.length k3) Z9) (fun _ key=>?_) ?_
 ·(repeat refine Ak ?_)
  refine B1 (fun q:Nat×Value×List Int=>[(9,.int .i64 q.1),(3,ptr y3),(2,ptr y2),(1,ptr y1)]) (fun q h' AW=>AW=δ/\BQ h y1 y2 y3 f0 (ut FB 10 q.2.1) h'/\AN (fun b=>b=y3\/hL.size<=b) hL h'/\AR h' q.2.1 3 1 q.2.2.length (q.2.2.map iV)/\(∀b,blk q.2.1=some b->hL.size<=b)/\q.2.2.length=q.1/\q.1<=iH.length) (fun q=>iH.length-q.1) (0,AK,[]) ⟨rfl,rfl,rfl,rfl,trivial⟩ ⟨rfl,Q,AN.refl _ _,AR.nil,fun b hb=>(by cases hb),rfl,Bv _⟩ ?_
  have QNL:=Q.n1
  clear Q
  rintro⟨i,R,ys⟩ h3 Hz ⟨DL,Q3,u3,Me,NT,hy,hi⟩ again
  dsimp only at DL Q3 u3 Me NT hy hi again⊢
  obtain rfl:δ=Hz:=DL.symm
  have c9:=Q3.cq (i:=9) (by omega)
  rw [Ai _ _ (by decide),a9']at c9
  have PC:=Q3.cq (i:=10) (by omega)
  rw [AL]at PC
  have cR:=Q3.cp (i:=10) (by omega)
  rw [er]at cR
  by_cases c1:i<iH.length
  ·by_cases c2:i<xs.length
   ·obtain⟨z,hz⟩:∃z,xs[i]?=some z:=⟨_,Cl c2⟩
    obtain⟨b,o,kx,ex,hcx⟩:=(hx.TY Q3.u0).cell i (iV z) (by rw [EQ,hz];rfl)
    rw [er,Ca]at ex
    cases ex
    have Q:=Q3
    repeat(first|refine AI ?_|refine AH ?_|refine AE ?_|refine Ar ?_|refine Ak ?_|refine AV ?_|refine Aq ?_|refine Az ?_|refine Bs ?_|refine BN ?_|refine Cd ?_|refine BU ?_|refine Av rfl (by assumption) ?_)
    refine Fv (sz:=1) (z:=.int .i64 0) (cells:=#[.int .i64 z]) ?_
    refine D9 (new:=[.int .i64 z]) rfl rfl rfl rfl (Me.upd (AN.push (T:=fun _=>False) h3 (.cells #[.int .i64 z] 3)) (fun _ _ x=>x)) (AG _ _) rfl (by simp [OneCell]) (by omega) (by omega) (by rfl) (fun _ _ _ x=>x) ?_
    intro s' h4 Kq u4 Rk
    have Ey:=u3.size
    have QN:=Q3.n1
    replace Q:=(Q3.up (AN.push (T:=fun _=>False) h3 (.cells #[.int .i64 z] 3)) (fun _ z=>z.elim)).up u4 (fun b hb=>by have:=NT b hb;omega)
    have vT:AN (fun b=>b=y3\/hL.size<=b) hL h4:=(u3.trans (AN.push _ (.cells #[.int .i64 z] 3))).trans (u4.mono fun b _ hb=>.inr (NT b hb))
    have V2:∀b,blk s'=some b->hL.size<=b:=fun b hb=>by
     rcases Rk b hb with x|x
     ·exact NT b x
     ·rw [x,CH];omega
    obtain⟨sa,sk,es⟩:=Kq.val
    rw [es]at Kq V2
    rw [es]
    (repeat refine Az ?_)
    refine CS rfl (by first|exact⟨nofun,nofun⟩|simp [OneCell]) ⟨_,Q.cq (i:=10) (by omega)⟩ (AS Q.gq) (fun x=>x) ?_
    refine A6 (fun h'=>BQ h y1 y2 y3 f0 (ut _ 10 (.slice sa (ys.length+1) sk)) h'/\AN (fun b=>b=y3) _ h') ⟨Q.set (i:=10) (by omega) (.slice sa (ys.length+1) sk),AN.Af _ _ _ rfl⟩ ?_
    clear Q
    rintro hN ⟨Q,uN⟩
    rw [Mf]at Q
    have u5:=vT.trans (uN.mono fun b _ e=>.inl e)
    have HY:=Kq.upd uN fun b hb e=>by have e':b=y3:=e;have:=V2 b hb;omega
    repeat(first|refine AH ?_|refine AE ?_|refine Bb ?_|refine AV ?_|refine Aq ?_|refine BR (kd:=.i64) rfl (i64_in (by omega) (by omega)) ?_)
    exact Ah (again (i+1,.slice sa (ys.length+1) sk,ys++[z]) _ _ (by dsimp only;omega) ⟨rfl,Q,u5,by dsimp only;rw [List.length_append,List.map_append];exact HY,V2,by dsimp only;rw [List.length_append,hy];rfl,by dsimp only;omega⟩) ⟨rfl,rfl,rfl,rfl,trivial⟩
   ·have Q:=Q3
    repeat(first|refine AI ?_|refine AH ?_|refine AE ?_|refine Ar ?_|refine Ak ?_|refine AV ?_|refine Aq ?_|refine Az ?_|refine Bs ?_|refine Bg ?_|refine BN ?_|refine BU ?_|refine Am ?_|refine Av rfl (by assumption) ?_)
    refine Fv (sz:=1) (z:=.int .i64 0) (cells:=#[.int .i64 (-1)]) ?_
    refine D9 (new:=[.int .i64 (-1)]) rfl rfl rfl rfl (Me.upd (AN.push (T:=fun _=>False) h3 (.cells #[.int .i64 (-1)] 3)) (fun _ _ x=>x)) (AG _ _) rfl (by simp [OneCell]) (by omega) (by omega) (by rfl) (fun _ _ _ x=>x) ?_
    intro s' h4 Kq u4 Rk
    have Ey:=u3.size
    have QN:=Q3.n1
    replace Q:=(Q3.up (AN.push (T:=fun _=>False) h3 (.cells #[.int .i64 (-1)] 3)) (fun _ z=>z.elim)).up u4 (fun b hb=>by have:=NT b hb;omega)
    have vT:AN (fun b=>b=y3\/hL.size<=b) hL h4:=(u3.trans (AN.push _ (.cells #[.int .i64 (-1)] 3))).trans (u4.mono fun b _ hb=>.inr (NT b hb))
    have V2:∀b,blk s'=some b->hL.size<=b:=fun b hb=>by
     rcases Rk b hb with x|x
     ·exact NT b x
     ·rw [x,CH];omega
    obtain⟨sa,sk,es⟩:=Kq.val
    rw [es]at Kq V2
    rw [es]
    (repeat refine Az ?_)
    refine CS rfl (by first|exact⟨nofun,nofun⟩|simp [OneCell]) ⟨_,Q.cq (i:=10) (by omega)⟩ (AS Q.gq) (fun x=>x) ?_
    refine A6 (fun h'=>BQ h y1 y2 y3 f0 (ut _ 10 (.slice sa (ys.length+1) sk)) h'/\AN (fun b=>b=y3) _ h') ⟨Q.set (i:=10) (by omega) (.slice sa (ys.length+1) sk),AN.Af _ _ _ rfl⟩ ?_
    clear Q
    rintro hN ⟨Q,uN⟩
    rw [Mf]at Q
    have u5:=vT.trans (uN.mono fun b _ e=>.inl e)
    have HY:=Kq.upd uN fun b hb e=>by have e':b=y3:=e;have:=V2 b hb;omega
    repeat(first|refine AH ?_|refine AE ?_|refine Bb ?_|refine AV ?_|refine Aq ?_|refine BR (kd:=.i64) rfl (i64_in (by omega) (by omega)) ?_)
    exact Ah (again (i+1,.slice sa (ys.length+1) sk,ys++[(-1)]) _ _ (by dsimp only;omega) ⟨rfl,Q,u5,by dsimp only;rw [List.length_append,List.map_append];exact HY,V2,by dsimp only;rw [List.length_append,hy];rfl,by dsimp only;omega⟩) ⟨rfl,rfl,rfl,rfl,trivial⟩
  ·repeat(first|refine AI ?_|refine AH ?_|refine AE ?_|refine AV ?_|refine Az ?_|refine Bg ?_|refine BN ?_|refine Am ?_|refine B8 ?_|refine Av rfl (by assumption) ?_)
   exact Ah (key R _ _ ⟨rfl,Q3,B.upd u3 fun b hb hl e=>by omega⟩) ⟨rfl,rfl,rfl,trivial⟩
 clear Q B hx KH er ra rk xs
 rintro R h3 Hz ⟨DL,Q,B⟩
 obtain rfl:δ=Hz:=DL.symm
 repeat(first|refine AI ?_|refine AH ?_|refine Az ?_)
 refine CS rfl (by first|exact⟨nofun,nofun⟩|simp [OneCell]) ⟨_,Q.cq (i:=5) (by omega)⟩ (AS Q.gq) (fun x=>x) ?_
 refine A6 (fun h'=>BQ h y1 y2 y3 f0 (ut _ 5 (.int .i64 0)) h'/\AN (fun b=>b=y3) _ h') ⟨Q.set (i:=5) (by omega) (.int .i64 0),AN.Af _ _ _ rfl⟩ ?_
 clear Q
 rintro hN ⟨Q,uN⟩
 replace B:=B.upd uN fun b hb _ e=>by have e':b=y3:=e;omega
 clear uN
 repeat(first|refine AI ?_|refine AH ?_|refine AE ?_|refine Az ?_)
 refine CS rfl (by first|exact⟨nofun,nofun⟩|simp [OneCell]) ⟨_,Q.cq (i:=7) (by omega)⟩ (AS Q.gq) (fun x=>x) ?_
 refine A6 (fun h'=>BQ h y1 y2 y3 f0 (ut _ 7 AK) h'/\AN (fun b=>b=y3) _ h') ⟨Q.set (i:=7) (by omega) AK,AN.Af _ _ _ rfl⟩ ?_
 clear Q
 rintro hN ⟨Q,uN⟩
 replace B:=B.upd uN fun b hb _ e=>by have e':b=y3:=e;omega
 clear uN
 (repeat refine Az ?_)
 refine CS rfl (by first|exact⟨nofun,nofun⟩|simp [OneCell]) ⟨_,Q.cq (i:=11) (by omega)⟩ (AS Q.gq) (fun x=>x) ?_
 refine A6 (fun h'=>BQ h y1 y2 y3 f0 (ut _ 11 AK) h'/\AN (fun b=>b=y3) _ h') ⟨Q.set (i:=11) (by omega) AK,AN.Af _ _ _ rfl⟩ ?_
 clear Q
 rintro hN ⟨Q,uN⟩
 replace B:=B.upd uN fun b hb _ e=>by have e':b=y3:=e;omega
 clear uN
 (repeat refine Az ?_)
 refine CS rfl (by first|exact⟨nofun,nofun⟩|simp [OneCell]) ⟨_,Q.cq (i:=8) (by omega)⟩ (AS Q.gq) (fun x=>x) ?_
 refine A6 (fun h'=>BQ h y1 y2 y3 f0 (ut _ 8 AK) h'/\AN (fun b=>b=y3) _ h') ⟨Q.set (i:=8) (by omega) AK,AN.Af _ _ _ rfl⟩ ?_
 clear Q
 rintro hN ⟨Q,uN⟩
 replace B:=B.upd uN fun b hb _ e=>by have e':b=y3:=e;omega
 clear uN
 (repeat refine Az ?_)
 refine CS rfl (by first|exact⟨nofun,nofun⟩|simp [OneCell]) ⟨_,Q.cq (i:=9) (by omega)⟩ (AS Q.gq) (fun x=>x) ?_
 refine A6 (fun h'=>BQ h y1 y2 y3 f0 (ut _ 9 AK) h'/\AN (fun b=>b=y3) _ h') ⟨Q.set (i:=9) (by omega) AK,AN.Af _ _ _ rfl⟩ ?_
 clear Q
 rintro hN ⟨Q,uN⟩
 replace B:=B.upd uN fun b hb _ e=>by have e':b=y3:=e;omega
 clear uN
 (repeat refine Az ?_)
 refine CS rfl (by first|exact⟨nofun,nofun⟩|simp [OneCell]) ⟨_,Q.cq (i:=10) (by omega)⟩ (AS Q.gq) (fun x=>x) ?_
 refine A6 (fun h'=>BQ h y1 y2 y3 f0 (ut _ 10 AK) h'/\AN (fun b=>b=y3) _ h') ⟨Q.set (i:=10) (by omega) AK,AN.Af _ _ _ rfl⟩ ?_
 clear Q
 rintro hN ⟨Q,uN⟩
 replace B:=B.upd uN fun b hb _ e=>by have e':b=y3:=e;omega
 clear uN
 (repeat refine Az ?_)
 refine CS rfl (by first|exact⟨nofun,nofun⟩|simp [OneCell]) ⟨_,Q.cq (i:=12) (by omega)⟩ (AS Q.gq) (fun x=>x) ?_
 refine A6 (fun h'=>BQ h y1 y2 y3 f0 (ut _ 12 AK) h'/\AN (fun b=>b=y3) _ h') ⟨Q.set (i:=12) (by omega) AK,AN.Af _ _ _ rfl⟩ ?_
 clear Q
 rintro hN ⟨Q,uN⟩
 replace B:=B.upd uN fun b hb _ e=>by have e':b=y3:=e;omega
 clear uN
 obtain⟨FF,Q,b0,b1,b2,b3,b4,b6,b5,b7,b8,b9,fO,b11,b12⟩:∃FF,BQ h y1 y2 y3 f0 FF hN/\FF 0= .slice Vb ws.length pW/\FF 1= .int .i64 (1+t0)/\FF 2= .int .i64 (i2 % 8192)/\FF 3= .slice a3 Z9.length k3/\FF 4= .int .i64 (i4 % 4)/\FF 6= .int .i64 (i6 % 4)/\FF 5= .int .i64 0/\FF 7=AK/\FF 8=AK/\FF 9=AK/\FF 10=AK/\FF 11=AK/\FF 12=AK:=⟨_,Q,a0,a1,a2,fP,a4,a6,rfl,rfl,rfl,rfl,rfl,rfl,rfl⟩
 have rX:∀j,j<13->OneCell (FF j):=fun j hj=>by
  rcases (show j=0\/j=1\/j=2\/j=3\/j=4\/j=5\/j=6\/j=7\/j=8\/j=9\/j=10\/j=11\/j=12 by omega)with rfl|rfl|rfl|rfl|rfl|rfl|rfl|rfl|rfl|rfl|rfl|rfl|rfl
  ·rw [b0];simp [OneCell]
  ·rw [b1];simp [OneCell]
  ·rw [b2];simp [OneCell]
  ·rw [b3];simp [OneCell]
  ·rw [b4];simp [OneCell]
  ·rw [b5];simp [OneCell]
  ·rw [b6];simp [OneCell]
  ·rw [b7];simp [OneCell]
  ·rw [b8];simp [OneCell]
  ·rw [b9];simp [OneCell]
  ·rw [fO];simp [OneCell]
  ·rw [b11];simp [OneCell]
  ·rw [b12];simp [OneCell]
 have QN:=Q.n1
 repeat(first|refine AI ?_|refine AH ?_|refine AE ?_)
 refine C5 (vs:=CX FF) rfl (GX Q.gq) ?_
 obtain⟨r,gr⟩:=Q.gr
 refine Bz (vs:=CX FF) rfl rfl (QU rX) (A3 (c:=CX r) gr rfl (fun _ x=>x)) ?_
 rw [Au (c:=CX r) (vs:=CX FF) gr rfl]
 have uN:AN (fun b=>b=y2) hN (hN.setIfInBounds y2 (GL FF)):=AN.set _ _ _ rfl
 replace B:=B.upd uN fun b hb _ e=>by have e':b=y2:=e;omega
 have u0:=Q.u0.trans (uN.mono fun b _ e=>by have e':b=y2:=e;show h.size<=b;omega)
 have em1:=Int.emod_nonneg i2 (b:=8192) (by omega)
 have em2:=Int.emod_lt_of_pos i2 (b:=8192) (by omega)
 have em3:=Int.emod_nonneg i4 (b:=4) (by omega)
 have em4:=Int.emod_lt_of_pos i4 (b:=4) (by omega)
 have em5:=Int.emod_nonneg i6 (b:=4) (by omega)
 have em6:=Int.emod_lt_of_pos i6 (b:=4) (by omega)
 repeat(first|refine AE ?_|refine AQ ?_)
 exact BD (vs:=CX FF) rfl rfl rfl (GX (AJ gr)) ⟨rfl,FF,_,ws,sc,1+t0,i2 % 8192,i4 % 4,i6 % 4,Z9,rfl,⟨u0.size,fun b hb _=>u0.same b hb (by show ¬h.size<=b;omega)⟩,B.b.mono QN.2.2.1,b0,b1,b2,⟨by rw [b3];exact B.p,fun b hb=>by rw [b3]at hb;have:=B.pb b hb;omega⟩,b4,b6,⟨b5,b7,b8,b9,fO,b11,b12⟩,⟨qP,KI⟩,⟨by omega,by omega,by omega⟩,⟨em1,em2⟩,⟨em3,by omega⟩,⟨em5,by omega⟩,yd⟩
end
end
section
open Go Go.TJ Go.Conc Go.Proofs
open Go.ChangeShapes Go.WideShapes Go.ChangeAt Go.RowKit
theorem T9{w:World}{a:Addr}{v:Value}(h:w.cell? a=some v):∃b o,a=⟨b,o,none⟩/\b<w.heap.size:=by
 have h':AF w.heap a=some v:=h
 rcases a with⟨b,o,s⟩
 obtain⟨c,e,f,h1,h2,_⟩:=DG h'
 obtain rfl:s=none:=h2
 exact⟨b,o,rfl,Ap h1⟩
theorem RO{w:World}{b o i:Nat}{v:Value}(h:w.cell? ((⟨b,o,none⟩:Addr).add i)=some v):AF w.heap ⟨b,o+i,none⟩=some v:=by
 rw [add_eq]at h;exact h
section
variable{H:Type}{enc:TypeId×Value->H}{w:World}{base:Nat}{spare:Nat->Bool}{held:Bool}
theorem HU{P:Program}{e:TypeId}:∀{l:List (DataW H)} {d:DataW H},d∈l->∀n,n∈d.weights P e->n∈DataW.weightsAll P e l
 | [],_,h,_,_=>by cases h
 | x::r,d,h,n,hn=>by
  rw [DataW.weightsAll]
  rcases Ew.1 h with rfl|h
  ·exact GR _ hn
  ·exact BX _ (HU h n hn)
theorem Hx{P:Program}{t e:TypeId}(ht:P.underlying t=some (.slice e))(xf sp:List (DataW H)):(DataW.slice xf sp).weights P t=(xf.length+sp.length)*P.bytesOf e::(DataW.weightsAll P e xf++DataW.weightsAll P e sp):=by
 simp only [DataW.weights,ht]
theorem E3{fuel:Nat}{v:Value}{x:DataW H×List MemPlace}(h:DataW.trod enc Tryz.prog w base spare held fuel 23 [v]=some x)(hz:∀n,n∈x.1.weights Tryz.prog 23->n<=reachBytes):
  ∃l:List Int,Hh w.heap v (l.map iV)/\l.length<=1000000000000000:=by
 rcases Go.Deep.open_slice1 Tryz.underlying23 (by kernel_rfl) h with⟨Ea,_⟩|⟨a,l,c,m,n,V,D,Pl,Ea,_,hl,hm,iY,ay,hx⟩
 ·injection Ea with Ea _
  subst Ea
  exact⟨[],⟨⟨none,0,rfl⟩,fun i v hv=>by cases hv⟩,Bv _⟩
 ·injection Ea with Ea _
  subst Ea
  have cf:l<=1000000000000000:=by
   have hb:Tryz.prog.bytesOf 3=8:=by kernel_rfl
   have:=hz _ (by rw [ay,Hx Tryz.underlying23];exact BJ ..)
   rw [hb]at this
   simp only [List.length_map,List.length_range,reachBytes]at this
   omega
  have oU:l<=m:=by rw [iY];split <;> omega
  obtain⟨f,hf⟩:=Go.Deep.choose_lt (n:=l) (p:=fun i (x:Int)=>w.cell? (a.add i)=some (.int .i64 x)) (fun i hi=>by
   obtain⟨c0,t0⟩:=hx i (by omega)
   obtain⟨z0,e0,_,_⟩:=DataW.trod_int Tryz.underlying3 t0
   simp at e0
   exact⟨z0,by rw [c0,e0]⟩)
  refine⟨(List.range l).map f,⟨⟨some a,c,by simp⟩,fun i v hv=>?_⟩,by rw [List.length_map,List.length_range];exact cf⟩
  rw [EQ]at hv
  obtain⟨z,ez,rfl⟩:=Option.map_eq_some_iff.1 hv
  rw [EQ]at ez
  obtain⟨j',Dm,rfl⟩:=Option.map_eq_some_iff.1 ez
  have Rs:i<l:=by
   have:=(Gv.1 Dm).1
   rwa [List.length_range]at this
  rw [List.getElem?_range Rs]at Dm
  injection Dm with Dm
  subst Dm
  obtain⟨b',o',rfl,hb⟩:=T9 (a:=a) (by have:=hf 0 (by omega);exact this)
  exact⟨b',o',c,by simp,by rw [Nat.mul_one];exact RO (hf i Rs)⟩
theorem Ul{fuel:Nat}{cs:List Value}{x:DataW H×List MemPlace}(h:DataW.trod enc Tryz.prog w base spare held fuel 41 cs=some x)(hz:∀n,n∈x.1.weights Tryz.prog 41->n<=reachBytes):
  ∃q:BH,cs=By q/\∃xs:List Int,Hh w.heap q.l (xs.map iV)/\xs.length<=1000000000000000:=by
 obtain⟨xs,n,-,ay,hl,KH,KJ⟩:=DataW.trod_struct Tryz.underlying41 h
 have h3:Tryz.prog.cellsOf 41=7:=by kernel_rfl
 have wm:Tryz.prog.cellsOf 23=1:=by kernel_rfl
 have NA:Tryz.prog.cellsOf 3=1:=by kernel_rfl
 have W9:Tryz.prog.cellsOf 2=1:=by kernel_rfl
 rw [h3]at hl
 obtain⟨c0,c1,c2,c3,c4,c5,c6,rfl⟩:∃c0 c1 c2 c3 c4 c5 c6,cs=[c0,c1,c2,c3,c4,c5,c6]:=by
  match cs,hl with
  | [c0,c1,c2,c3,c4,c5,c6],_=>exact⟨c0,c1,c2,c3,c4,c5,c6,rfl⟩
 obtain⟨x0,x1,x2,x3,x4,x5,x6,rfl⟩:∃c0 c1 c2 c3 c4 c5 c6,xs=[c0,c1,c2,c3,c4,c5,c6]:=by
  match xs,KH with
  | [c0,c1,c2,c3,c4,c5,c6],_=>exact⟨c0,c1,c2,c3,c4,c5,c6,rfl⟩
 have f0:=KJ 0 _ rfl
 have f1:=KJ 1 _ rfl
 have f2:=KJ 2 _ rfl
 have f3:=KJ 3 _ rfl
 have f4:=KJ 4 _ rfl
 have f5:=KJ 5 _ rfl
 have f6:=KJ 6 _ rfl
 simp [wm,NA,W9]at f0 f1 f2 f3 f4 f5 f6
 have hw:x.1.weights Tryz.prog 41=x0.1.weights Tryz.prog 3++(x1.1.weights Tryz.prog 3++(x2.1.weights Tryz.prog 2++(x3.1.weights Tryz.prog 2++(x4.1.weights Tryz.prog 2++(x5.1.weights Tryz.prog 3++(x6.1.weights Tryz.prog 23++[])))))):=by
  rw [ay]
  simp only [DataW.weights,Tryz.underlying41]
  rfl
 rw [hw]at hz
 obtain⟨z0,e0,_,_⟩:=DataW.trod_int Tryz.underlying3 f0
 simp at e0
 obtain⟨z1,e1,_,_⟩:=DataW.trod_int Tryz.underlying3 f1
 simp at e1
 obtain⟨z2,e2,_,_⟩:=DataW.trod_int Tryz.underlying2 f2
 simp at e2
 obtain⟨z3,e3,_,_⟩:=DataW.trod_int Tryz.underlying2 f3
 simp at e3
 obtain⟨z4,e4,_,_⟩:=DataW.trod_int Tryz.underlying2 f4
 simp at e4
 obtain⟨z5,e5,_,_⟩:=DataW.trod_int Tryz.underlying3 f5
 simp at e5
 obtain⟨xs,hx,ye⟩:=E3 f6 (fun n hn=>hz n (BX _ (BX _ (BX _ (BX _ (BX _ (BX _ (GR _ hn))))))))
 exact⟨⟨z0,z1,z2,z3,z4,z5,c6⟩,by rw [e0,e1,e2,e3,e4,e5];rfl,xs,hx,ye⟩
instance:Inhabited BH:=⟨⟨0,0,0,0,0,0,AK⟩⟩
open Go.Deep in
theorem TM{fuel:Nat}{v:Value}{x:DataW H×List MemPlace}(h:DataW.trod enc Tryz.prog w base spare held fuel 39 [v]=some x)(hz:∀n,n∈x.1.weights Tryz.prog 39->n<=reachBytes):
  ∃l,nY w.heap v l:=by
 rcases Go.Deep.open_slice Tryz.underlying39 h with⟨Ea,_⟩|⟨a,l,c,m,n,D,Pl,Ea,_,hl,hm,iY,ay,hx⟩
 ·injection Ea with Ea _
  exact⟨[],none,0,Ea,fun j q hq=>by cases hq⟩
 ·injection Ea with Ea _
  have h7:Tryz.prog.cellsOf 41=7:=by kernel_rfl
  rw [ay,Hx Tryz.underlying39]at hz
  have oU:l<=m:=by rw [iY];split <;> omega
  rw [h7]at hx
  obtain⟨f,hf⟩:=Go.Deep.choose_lt (n:=l) (p:=fun i (q:BH)=>(∀j v,(By q)[j]?=some v->w.cell? (a.add (i*7+j))=some v)/\∃xs:List Int,Hh w.heap q.l (xs.map iV)/\xs.length<=1000000000000000) (fun i hi=>by
   obtain⟨pQ,h1,h2⟩:=hx i (by omega)
   obtain⟨q,e,hq⟩:=Ul h2 (fun n hn=>hz n (C2 _ (GR _ (HU (d:=D i) (List.mem_map_of_mem (Iv.2 hi)) n hn))))
   obtain⟨_,hlen,AF⟩:=World.cells?_some h1
   refine⟨q,fun j v hv=>?_,hq⟩
   have hj:j<7:=(Gv.1 hv).1
   have:=AF j (by omega)
   rw [add_add]at this
   rw [e]at this
   rw [<-hv];exact this)
  refine⟨(List.range l).map f,some a,c,by rw [Ca,List.length_range];exact Ea,fun j q hq=>?_⟩
  rw [EQ]at hq
  obtain⟨j',Dm,rfl⟩:=Option.map_eq_some_iff.1 hq
  have Rs:j<l:=by
   have:=(Gv.1 Dm).1
   rwa [List.length_range]at this
  rw [List.getElem?_range Rs]at Dm
  injection Dm with Dm
  subst Dm
  obtain⟨b',o',rfl,hb⟩:=T9 (a:=a) (by have:=(hf 0 (by omega)).1 0 _ rfl;exact this)
  obtain⟨g0,g1⟩:=hf j Rs
  refine⟨b',o',rfl,fun i v hv=>?_,g1⟩
  rw [show o'+j*7+i=o'+(j*7+i) by omega]
  exact RO (g0 i v hv)
theorem Pj{fuel:Nat}{v:Value}{x:DataW H×List MemPlace}(h:DataW.trod enc Tryz.prog w base spare held fuel 22 [v]=some x)(hz:∀n,n∈x.1.weights Tryz.prog 22->n<=reachBytes):
  ∃ws,fS w.heap v ws:=by
 rcases Go.Deep.open_slice1 Tryz.underlying22 (by kernel_rfl) h with⟨Ea,_⟩|⟨a,l,c,m,n,V,D,Pl,Ea,_,hl,hm,iY,ay,hx⟩
 ·injection Ea with Ea _
  subst Ea
  exact⟨[],⟨⟨none,0,rfl⟩,fun i v hv=>by cases hv⟩,fun s v hv=>by cases hv⟩
 ·injection Ea with Ea _
  subst Ea
  rw [ay,Hx Tryz.underlying22]at hz
  have oU:l<=m:=by rw [iY];split <;> omega
  obtain⟨f,hf⟩:=Go.Deep.choose_lt (n:=l) (p:=fun i (x:Value)=>w.cell? (a.add i)=some x/\∃l,nY w.heap x l) (fun i hi=>by
   obtain⟨c0,t0⟩:=hx i (by omega)
   exact⟨V i,c0,TM t0 (fun n hn=>hz n (C2 _ (GR _ (HU (d:=D i) (List.mem_map_of_mem (Iv.2 hi)) n hn))))⟩)
  have key:∀i v,((List.range l).map f)[i]?=some v->i<l/\v=f i:=fun i v hv=>by
   rw [EQ]at hv
   obtain⟨j',Dm,rfl⟩:=Option.map_eq_some_iff.1 hv
   have Rs:i<l:=by
    have:=(Gv.1 Dm).1
    rwa [List.length_range]at this
   rw [List.getElem?_range Rs]at Dm
   injection Dm with Dm
   subst Dm
   exact⟨Rs,rfl⟩
  refine⟨(List.range l).map f,⟨⟨some a,c,by simp⟩,fun i v hv=>?_⟩,fun s v hv=>?_⟩
  ·obtain⟨oa,rfl⟩:=key i v hv
   obtain⟨b',o',rfl,hb⟩:=T9 (a:=a) (by have:=(hf 0 (by omega)).1;exact this)
   exact⟨b',o',c,by simp,by rw [Nat.mul_one];exact RO (hf i oa).1⟩
  ·obtain⟨oa,rfl⟩:=key s v hv
   exact(hf s oa).2
theorem Uk{fuel:Nat}{cs:List Value}{x:DataW H×List MemPlace}(h:DataW.trod enc Tryz.prog w base spare held fuel 25 cs=some x)(hz:∀n,n∈x.1.weights Tryz.prog 25->n<=reachBytes):
  ∃(f0:Nat->Value) (ws:List Value) (i1 i2 i4 i5 i6:Int),cs=CX f0/\f0 1= .int .i64 i1/\f0 2= .int .i64 i2/\f0 4= .int .i64 i4/\f0 5= .int .i64 i5/\f0 6= .int .i64 i6/\fS w.heap (f0 0) ws/\∀j,j=3\/7<=j/\j<=12->∃xs:List Int,Hh w.heap (f0 j) (xs.map iV)/\xs.length<=1000000000000000:=by
 obtain⟨xs,n,-,ay,hl,KH,KJ⟩:=DataW.trod_struct Tryz.underlying25 h
 have h3:Tryz.prog.cellsOf 25=13:=by kernel_rfl
 have bU:Tryz.prog.cellsOf 22=1:=by kernel_rfl
 have wm:Tryz.prog.cellsOf 23=1:=by kernel_rfl
 have NA:Tryz.prog.cellsOf 3=1:=by kernel_rfl
 rw [h3]at hl
 obtain⟨c0,c1,c2,c3,c4,c5,c6,c7,c8,c9,PC,XI,an,rfl⟩:∃c0 c1 c2 c3 c4 c5 c6 c7 c8 c9 PC XI an,cs=[c0,c1,c2,c3,c4,c5,c6,c7,c8,c9,PC,XI,an]:=by
  match cs,hl with
  | [c0,c1,c2,c3,c4,c5,c6,c7,c8,c9,PC,XI,an],_=>exact⟨c0,c1,c2,c3,c4,c5,c6,c7,c8,c9,PC,XI,an,rfl⟩
 obtain⟨x0,x1,x2,x3,x4,x5,x6,x7,x8,x9,x10,x11,x12,rfl⟩:∃c0 c1 c2 c3 c4 c5 c6 c7 c8 c9 PC XI an,xs=[c0,c1,c2,c3,c4,c5,c6,c7,c8,c9,PC,XI,an]:=by
  match xs,KH with
  | [c0,c1,c2,c3,c4,c5,c6,c7,c8,c9,PC,XI,an],_=>exact⟨c0,c1,c2,c3,c4,c5,c6,c7,c8,c9,PC,XI,an,rfl⟩
 have f0:=KJ 0 _ rfl
 have f1:=KJ 1 _ rfl
 have f2:=KJ 2 _ rfl
 have f3:=KJ 3 _ rfl
 have f4:=KJ 4 _ rfl
 have f5:=KJ 5 _ rfl
 have f6:=KJ 6 _ rfl
 have f7:=KJ 7 _ rfl
 have f8:=KJ 8 _ rfl
 have f9:=KJ 9 _ rfl
 have f10:=KJ 10 _ rfl
 have f11:=KJ 11 _ rfl
 have f12:=KJ 12 _ rfl
 simp [bU,wm,NA]at f0 f1 f2 f3 f4 f5 f6 f7 f8 f9 f10 f11 f12
 have hw:x.1.weights Tryz.prog 25=x0.1.weights Tryz.prog 22++(x1.1.weights Tryz.prog 3++(x2.1.weights Tryz.prog 3++(x3.1.weights Tryz.prog 23++(x4.1.weights Tryz.prog 3++(x5.1.weights Tryz.prog 3++(x6.1.weights Tryz.prog 3++(x7.1.weights Tryz.prog 23++(x8.1.weights Tryz.prog 23++(x9.1.weights Tryz.prog 23++(x10.1.weights Tryz.prog 23++(x11.1.weights Tryz.prog 23++(x12.1.weights Tryz.prog 23++([]))))))))))))):=by
  rw [ay]
  simp only [DataW.weights,Tryz.underlying25]
  rfl
 rw [hw]at hz
 obtain⟨ws,My⟩:=Pj f0 (fun n hn=>hz n (GR _ hn))
 obtain⟨z1,e1,_,_⟩:=DataW.trod_int Tryz.underlying3 f1
 simp at e1
 obtain⟨z2,e2,_,_⟩:=DataW.trod_int Tryz.underlying3 f2
 simp at e2
 have g3:=E3 f3 (fun n hn=>hz n (BX _ (BX _ (BX _ (GR _ hn)))))
 obtain⟨z4,e4,_,_⟩:=DataW.trod_int Tryz.underlying3 f4
 simp at e4
 obtain⟨z5,e5,_,_⟩:=DataW.trod_int Tryz.underlying3 f5
 simp at e5
 obtain⟨z6,e6,_,_⟩:=DataW.trod_int Tryz.underlying3 f6
 simp at e6
 have g7:=E3 f7 (fun n hn=>hz n (BX _ (BX _ (BX _ (BX _ (BX _ (BX _ (BX _ (GR _ hn)))))))))
 have g8:=E3 f8 (fun n hn=>hz n (BX _ (BX _ (BX _ (BX _ (BX _ (BX _ (BX _ (BX _ (GR _ hn))))))))))
 have g9:=E3 f9 (fun n hn=>hz n (BX _ (BX _ (BX _ (BX _ (BX _ (BX _ (BX _ (BX _ (BX _ (GR _ hn)))))))))))
 have LP:=E3 f10 (fun n hn=>hz n (BX _ (BX _ (BX _ (BX _ (BX _ (BX _ (BX _ (BX _ (BX _ (BX _ (GR _ hn))))))))))))
 have uv:=E3 f11 (fun n hn=>hz n (BX _ (BX _ (BX _ (BX _ (BX _ (BX _ (BX _ (BX _ (BX _ (BX _ (BX _ (GR _ hn)))))))))))))
 have Gn:=E3 f12 (fun n hn=>hz n (BX _ (BX _ (BX _ (BX _ (BX _ (BX _ (BX _ (BX _ (BX _ (BX _ (BX _ (BX _ (GR _ hn))))))))))))))
 refine⟨fun j=>([c0,c1,c2,c3,c4,c5,c6,c7,c8,c9,PC,XI,an]:List Value).getD j AK,ws,z1,z2,z4,z5,z6,rfl,e1,e2,e4,e5,e6,My,fun j hj=>?_⟩
 rcases (show j=3\/j=7\/j=8\/j=9\/j=10\/j=11\/j=12 by omega)with rfl|rfl|rfl|rfl|rfl|rfl|rfl
 ·exact g3
 ·exact g7
 ·exact g8
 ·exact g9
 ·exact LP
 ·exact uv
 ·exact Gn
end
end
section
open Go Go.TJ Go.Conc Go.Proofs
section
variable{Γ:Type}{main:Bool}{S:Cp Γ}{δ:Ix Γ}{b:RW}{h h':Hp}
theorem Zd{e e':TE}(hp:e.p=e'.p)(hv:Hh h e.vv (e.vs.map fun x=>.int .i64 x))(ez:Hh h e'.vv (e'.vs.map fun x=>.int .i64 x))(hl:e.vs.length<=1000000):AY Tryz.prog main S 27 #[.agg (Ex e).toArray,.agg (Ex e').toArray] h δ (CJ fun v h' AW=>AW=δ/\v= .bool true/\AN (fun _=>False) h h'):=by
 obtain⟨s,a,vs,vv,kd,nm⟩:=e
 obtain⟨s',a',vs',vv',kd',nm'⟩:=e'
 unfold TE.p at hp
 injection hp with q1 q2 q3 q4 q5
 dsimp only at q1 q2 q3 q4 q5 hv ez hl
 subst q1 q2 q3 q4 q5
 obtain⟨va,vk,ev⟩:=hv.val
 obtain⟨vN,vM,vA⟩:=ez.val
 rw [Ca]at ev vA
 subst ev vA
 refine CK (n:=96) ?_
 obtain⟨y2,XT⟩:∃y,y=h.size:=⟨_,rfl⟩
 obtain⟨y3,Vt⟩:∃y,y=(h.push (A9 (Ex ⟨s,a,vs,.slice va vs.length vk,kd,nm⟩))).size:=⟨_,rfl⟩
 refine AI ?_
 refine AH ?_
 refine DO ?_
 refine DO ?_
 refine A6 (fun h'=>AN (fun _=>False) h h'/\h'[y2]?=some (A9 (Ex ⟨s,a,vs,.slice va vs.length vk,kd,nm⟩))/\h'[y3]?=some (A9 (Ex ⟨s,a,vs,.slice vN vs.length vM,kd,nm⟩))) ⟨(AN.push _ _).trans (AN.push _ _),by rw [XT];exact Ao _ (AG _ _),by rw [Vt];exact AG _ _⟩ ?_
 rw [<-Vt,<-XT]
 clear XT Vt
 rintro h1 ⟨u1,g2,g3⟩
 have c20:AF h1 ⟨y2,0,none⟩=some (.int .i64 s):=AD g2 rfl
 have c21:AF h1 ⟨y2,1,none⟩=some (.int .i64 a):=AD g2 rfl
 have c22:AF h1 ⟨y2,2,none⟩=some (.slice va vs.length vk):=AD g2 rfl
 have c23:AF h1 ⟨y2,3,none⟩=some (.int .i64 kd):=AD g2 rfl
 have c24:AF h1 ⟨y2,4,none⟩=some (.int .i64 nm):=AD g2 rfl
 have c25:AF h1 ⟨y2,5,none⟩=some AK:=AD g2 rfl
 have c30:AF h1 ⟨y3,0,none⟩=some (.int .i64 s):=AD g3 rfl
 have c31:AF h1 ⟨y3,1,none⟩=some (.int .i64 a):=AD g3 rfl
 have c32:AF h1 ⟨y3,2,none⟩=some (.slice vN vs.length vM):=AD g3 rfl
 have c33:AF h1 ⟨y3,3,none⟩=some (.int .i64 kd):=AD g3 rfl
 have c34:AF h1 ⟨y3,4,none⟩=some (.int .i64 nm):=AD g3 rfl
 have c35:AF h1 ⟨y3,5,none⟩=some AK:=AD g3 rfl
 repeat(first|refine AI ?_|refine AH ?_|refine AE ?_|refine Ar ?_|refine Ak ?_|refine AV ?_|refine Aq ?_|refine Az ?_|refine Df ?_|refine Bd ?_|refine Bg ?_|refine BN ?_|refine Am ?_)
 refine B1 (fun q:Nat=>[(5,.int .i64 q),(2,ptr y2),(3,ptr y3)]) (fun q h' AW=>AW=δ/\h'=h1/\q<=vs.length) (fun q=>vs.length-q) 0 ⟨rfl,rfl,rfl,trivial⟩ ⟨rfl,rfl,Bv _⟩ ?_
 rintro q h2 FJ ⟨rfl,rfl,hq⟩ again
 by_cases CO:q<vs.length
 ·obtain⟨w,hw⟩:∃w,vs[q]?=some w:=⟨_,Cl CO⟩
  obtain⟨b1,o1,k1,e1,d1⟩:=hv.cell q (.int .i64 w) (by rw [EQ,hw];rfl)
  obtain⟨b2,o2,k2,e2,d2⟩:=ez.cell q (.int .i64 w) (by rw [EQ,hw];rfl)
  rw [Ca]at e1 e2
  cases e1
  cases e2
  have d1':=u1.AF d1 (fun x=>x)
  have d2':=u1.AF d2 (fun x=>x)
  repeat(first|refine AI ?_|refine AH ?_|refine AE ?_|refine Ar ?_|refine Ak ?_|refine AV ?_|refine Az ?_|refine Df ?_|refine Bs ?_|refine BN ?_|refine BU ?_)
  refine BO (fun h'=>h'=h2) ?_
  have hZ:h2=h2:=rfl
  refine Ag 0 hZ ?_
  refine D8 1 rfl (by kernel_rfl) (fun _ hz=>hz▸c22) hZ ?_
  refine AU 2 hZ ?_
  refine GP 3 hZ ?_
  refine D8 4 rfl (by kernel_rfl) (fun _ hz=>hz▸d1') hZ ?_
  refine Ag 5 hZ ?_
  refine D8 6 rfl (by kernel_rfl) (fun _ hz=>hz▸c32) hZ ?_
  refine AU 7 hZ ?_
  refine GP 8 hZ ?_
  refine D8 9 rfl (by kernel_rfl) (fun _ hz=>hz▸d2') hZ ?_
  refine Dy 10 hZ ?_
  refine BF ?_
  repeat(first|refine AH ?_|refine AE ?_|refine Ar ?_|refine Bb ?_|refine AV ?_|refine Aq ?_|refine BR (kd:=.i64) rfl (i64_in (by omega) (by omega)) ?_|refine Am ?_)
  exact Ah (again (q+1) _ _ (by omega) ⟨rfl,rfl,by omega⟩) ⟨rfl,rfl,rfl,trivial⟩
 ·repeat(first|refine AI ?_|refine AH ?_|refine AE ?_|refine Ak ?_|refine AV ?_|refine Aq ?_|refine Az ?_|refine Df ?_|refine Bg ?_|refine BN ?_|refine Am ?_|refine B8 ?_)
  refine B1 (fun _:Nat=>[(6,.int .i64 0),(2,ptr y2),(3,ptr y3)]) (fun _ h' AW=>AW=FJ/\h'=h2) (fun _=>0) 0 ⟨rfl,rfl,rfl,trivial⟩ ⟨rfl,rfl⟩ ?_
  rintro _ h3 Hz ⟨rfl,rfl⟩ -
  repeat(first|refine AI ?_|refine AH ?_|refine AE ?_|refine AV ?_|refine Aq ?_|refine Az ?_|refine Df ?_|refine Bg ?_|refine BN ?_|refine Am ?_|refine AQ ?_|refine B8 ?_)
  exact CL rfl ⟨rfl,rfl,u1⟩
theorem TD{tv fv:Value}{wait Fx:Bool}(row:h[b.Wd]?=some (JU b tv fv wait Fx)):AY Tryz.prog main (Fb (Γ:=Γ)) 25 #[ptr b.Wd] h δ (CJ fun _ h' AW=>AW=δ/\AN (fun _=>False) h h'):=by
 have c4:AF h ⟨b.Wd,4,none⟩=some AK:=AD row rfl
 refine CK (n:=136) ?_
 repeat(first|refine AI ?_|refine AH ?_|refine AV ?_|refine Bc ?_|refine Az ?_|refine Df ?_|refine BN ?_)
 refine Yu (m:=0) (z:=.int .i64 0) rfl rfl rfl rfl (by omega) (by omega) rfl ?_
 have u1:=AN.push (T:=fun _=>False) h (.cells (List.replicate 0 (Value.int .i64 0)).toArray 3)
 have d4:=u1.AF c4 (fun x=>x)
 have d9:AF (h.push (.cells (List.replicate 0 (Value.int .i64 0)).toArray 3)) ⟨b.Wd,9,none⟩=some AK:=u1.AF (AD row rfl) (fun x=>x)
 clear c4
 generalize h.push (.cells (List.replicate 0 (Value.int .i64 0)).toArray 3)=h1 at u1 d4 d9⊢
 obtain⟨y,hy⟩:∃y,y=h.size:=⟨_,rfl⟩
 rw [<-hy]
 repeat(first|refine AI ?_|refine AH ?_|refine AE ?_|refine Ak ?_|refine Aq ?_)
 refine B1 (fun _:Nat=>[(3,.int .i64 0),(2,.slice (some ⟨y,0,none⟩) 0 0),(0,ptr b.Wd)]) (fun _ h' AW=>AW=δ/\h'=h1) (fun _=>0) 0 ⟨rfl,rfl,rfl,trivial⟩ ⟨rfl,rfl⟩ ?_
 rintro _ h2 FJ ⟨rfl,rfl⟩ -
 (repeat refine AI ?_)
 refine BO (fun h'=>AF h' ⟨b.Wd,4,none⟩=some AK/\AF h' ⟨b.Wd,9,none⟩=some AK) ?_
 have hZ:=And.intro d4 d9
 refine AU 0 hZ ?_
 refine AU 1 hZ ?_
 refine BE 2 hZ ?_
 refine Ag 3 hZ ?_
 refine A8 4 (fun _ hz=>hz.1) hZ ?_
 refine Er 5 rfl (by kernel_rfl) rfl rfl rfl rfl hZ ?_
 refine AU 6 hZ ?_
 refine BE 7 hZ ?_
 refine Ag 8 hZ ?_
 refine A8 9 (fun _ hz=>hz.2) hZ ?_
 refine Er 10 rfl (by kernel_rfl) rfl rfl rfl rfl hZ ?_
 refine EW (kd:=.i64) 11 rfl (by kernel_rfl) rfl rfl rfl rfl rfl (i64_in (by omega) (by omega)) hZ ?_
 refine Dy 12 hZ ?_
 refine BF ?_
 repeat(first|refine AI ?_|refine AH ?_|refine AE ?_|refine Ak ?_|refine Aq ?_|refine Am ?_|refine B8 ?_)
 refine B1 (fun _:Nat=>[(8,.int .i64 0),(2,.slice (some ⟨y,0,none⟩) 0 0),(0,ptr b.Wd)]) (fun _ h' AW=>AW=FJ/\h'=h2) (fun _=>0) 0 ⟨rfl,rfl,rfl,trivial⟩ ⟨rfl,rfl⟩ ?_
 rintro _ h3 Hz ⟨rfl,rfl⟩ -
 repeat(first|refine AI ?_|refine AH ?_|refine AE ?_|refine AV ?_|refine Bg ?_|refine BN ?_|refine Am ?_|refine B8 ?_)
 exact FQ (Eu rfl ⟨rfl,u1⟩)
def pa(W:Nat)(V:Value)(nT:Int):List Value:=[ptr W,V,.int .i64 nT,AK,AK,AK,AK,AK,AK,AK,AK,.int .i64 0,.int .i64 0,.int .i64 0,.int .i64 0,AK,.bool false,.bool false]
abbrev YC(W:Nat)(V:Value)(nT:Int):Obj:=.cells (pa W V nT).toArray 83 (0,0)
end
section
variable{Γ:Type}{main:Bool}{S:Cp Γ}{δ:Ix Γ}{R:Rec}{lL lW lY lV sP:Value}{h0 h h1 h':Hp}{AZ:List Int}{X:Us}
theorem TN(ok:Fh X AZ R)(m:HB R AZ lL lW lY lV sP h){V:Value}{nT:Int}(hV:∃va vl vc,V= .slice va vl vc):
  AY Tryz.prog main (Fb (Γ:=Γ)) 24 #[.agg (Cj R.e R.log.length lL lW lY lV).toArray,V,.int .i64 nT] h δ (CJ fun v h' AW=>AW=δ/\∃(Wd W:Nat) (nv gv fv:Value) (h1:Hp),v=ptr Wd/\h'[Wd]?=some (YC W V nT)/\Wd=h1.size/\h'=h1.push (YC W V nT)/\AN (fun _=>False) h h1/\Pt R lL lW lY lV h W (List.replicate (Ab R.log).length (0,0)) (List.replicate (Ab R.log).length false) ((Ab R.log).map R.v0) [] [] nv gv fv AK AK h1):=by
 obtain⟨va,vl,vc,rfl⟩:=hV
 refine CK (n:=13) ?_
 obtain⟨y,hy⟩:∃y,y=h.size:=⟨_,rfl⟩
 refine AI ?_
 refine AH ?_
 refine DO ?_
 have u0:=AN.push (T:=fun _=>False) h (N6 R.e R.log.length lL lW lY lV)
 refine A6 (fun h'=>h'=h.push (N6 R.e R.log.length lL lW lY lV)) rfl ?_
 rintro h2 e2
 have gy:h2[y]?=some (N6 R.e R.log.length lL lW lY lV):=by rw [e2,hy];exact AG _ _
 rw [<-e2]at u0
 rw [<-hy]
 have m2:=m.upd u0
 repeat(first|refine AI ?_|refine AH ?_|refine AE ?_|refine Aq ?_)
 refine C5 (vs:=Cj R.e R.log.length lL lW lY lV) rfl (C0 (by exact gy)) ?_
 refine BV rfl (Um ok m2) ?_
 rintro _ h3 Hz ⟨rfl,W,nv,gv,fv,rfl,I⟩
 (repeat refine AV ?_)
 refine Cr (cells:=(pa W (.slice va vl vc) nT).toArray) rfl rfl (by rfl) (by kernel_rfl) ?_
 repeat(first|refine AE ?_|refine Aq ?_|refine DO ?_|refine AQ ?_)
 exact CL rfl ⟨rfl,h3.size,W,nv,gv,fv,h3,rfl,AG _ _,rfl,rfl,u0.trans I.up,⟨u0.trans I.up,I.row,I.IL,I.H2,I.fst,I.Np,I.NR,Dt u0.size I.nW,fun b hb=>Dt u0.size (I.n1 b hb),fun b hb=>Dt u0.size (I.n2 b hb),fun b hb=>Dt u0.size (I.n3 b hb),fun b hb=>Dt u0.size (I.n4 b hb),fun b hb=>Dt u0.size (I.n5 b hb),I.a1,I.a2⟩⟩
end
end
end Go.Proofs.YtfkalocplonkiaaGreat
namespace Go.TJ
section
open Go Go.Conc
open Go.ConcN (sumTo upd sumTo_upd upd_ne upd_same)
def PN:EX Nat where
 num n:=n
 ch _ _:=none
 cells _ _ _:=none
 R _ _ _:=True
 Gf _ _ _:=True
section
variable{P:Program}
theorem Nf{h:Nat}{n:Nat}{I:Nat->Option Du}(hI:∀i,i≠h->I i=none):Lk P PN h n I n:=
 ⟨rfl,fun i hi _=>(by rw [hI i hi];rfl),fun i W hi e=>(by rw [hI i hi]at e;cases e),fun i W hi _ e=>(by rw [hI i hi]at e;cases e)⟩
theorem ki{XM:Type}{X:EX XM}{γ:XM}{I:Nat->Option Du}{T:Trace}{gs:Array Goroutine}{w:World}{q:Nat->Nat}(F:Fr P 0 I T gs w q)(L:Lk P X 0 γ I gs.size)(xH:∀i,i≠0->i<X.num γ->X.ch γ i=none):∀i,i≠0->I i=none:=fun i hi=>by
 cases e:I i with
 | none=>rfl
 | some V=>
  have Cg:=F.room i hi (by rw [e];rfl)
  have h1:=L.ch i hi Cg
  rw [xH i hi (by rw [L.num];exact Cg),e]at h1
  cases h1
end
end
end Go.TJ
namespace Go.Proofs.YtfkalocplonkiaaGreat
section
open Go Go.TJ Go.Conc Go.Proofs
section
variable{d:CD}{x:ao}{u u' u1 u2:CV}{h h' h1 h5:Hp}{i:Nat}{γ Ae E5 KF:GG (XC d)}{L L':List (Nat×Obj)}{p:PA}{t id y:Nat}{H:List (Nat×Int)}{q:BH}
theorem Vj{f:Nat->Int}(h:∀j,f j<=1):∀{n:Nat},JI f n<=n
 | 0=>Mh _
 | n+1=>by
  have:=Vj h (n:=n)
  have:=h n
  show JI f n+f n<=_
  omega
theorem Zy{c:CP}{H:List (Nat×Int)}:GO c H<=c.nC:=Vj fun j=>by
 show ite _ _ _<=_
 split <;> omega
theorem Zh(E:NK d x):∀m,SR d i m:=by
 intro m
 induction m using Nat.strongRecOn with
 | _ m ih=>
  intro γ u L h p s a W6 Mz PK b1 b2 h1 h2 hs
  obtain⟨sc,KI⟩:∃sc,d.c.sc[s]?=some sc:=⟨_,Cl hs⟩
  have c1:AF h ⟨b1,0,none⟩=some (ptr d.c.w):=AD (a.I.kept _ h1) rfl
  have c2:AF h ⟨b2,0,none⟩=some (.int .i64 s):=AD (a.I.kept _ h2) rfl
  have hu:({u with th:=ut u.th i (ptr (γ.p.tb i))}:CV)=u:=by rw [<-Mz,FU]
  have wa:HN d.c.sc d.c.nC d.c.nK m s p= .emit ⟨s,-1,[0],0,0⟩ (DV d.c.sc d.c.nC d.c.nK (EH d.c.sc d.c.nC d.c.nK m) s p 0 sc):=by
   unfold HN Il
   rw [if_pos hs,List.getD_eq_getElem?_getD,KI];rfl
  rw [wa]at a
  have hd:=Yr E ih (tf:=true) a PK W6 rfl KI (E.small s sc KI)
  rw [hu]at hd
  refine CK (n:=8) ?_
  repeat(first|refine AH ?_|refine AV ?_|refine Av rfl (by assumption) ?_)
  refine Dr rfl rfl rfl rfl rfl hd (fun _ _ _ y=>y) ?_
  rintro w h' AW ⟨Ae,u',rfl,a',g'⟩
  (repeat refine AE ?_)
  exact FQ (Eu rfl ⟨Ae,u',rfl,a',g'⟩)
theorem sJ(E:NK d x){b3 b5:Nat}(h3:d.old b3/\d.hN[b3]?=some (.cells #[ptr d.c.w] 59 (0,0)))(h5:d.old b5/\d.hN[b5]?=some (.cells #[.int .i64 i] 3 (0,0)))(hi:i<d.c.nT)(his:i<d.c.sc.length):Body (XC d) i 20 #[ptr b3,ptr b5]:=by
 intro h γ T Tb ho
 have Q:CU.hold (CV.toCU γ.p.u) i=[]/\CU.told (CV.toCU γ.p.u) i=[]/\CV.Dg γ.p.u i=d.c.P i:=by
  have:=T.Q i
  rw [Tb]at this
  exact this
 obtain⟨sc,KI⟩:∃sc,d.c.sc[i]?=some sc:=⟨_,Cl his⟩
 have hJ:XJ d γ.p.log γ.p.u γ.p.val:=T.J
 have hP:d.c.P i=DV d.c.sc d.c.nC d.c.nK (EH d.c.sc d.c.nC d.c.nK 3) i .done 0 sc:=by
  unfold CP.P Nt
  rw [List.getD_eq_getElem?_getD,KI];rfl
 have Be:=hJ.Cz.run i
 rw [Q.2.2,hP]at Be
 have a:C8 d i γ γ.p.u [] h (if false=true then .emit ⟨i,-1,[0],0,0⟩ (DV d.c.sc d.c.nC d.c.nK (EH d.c.sc d.c.nC d.c.nK 3) i .done 0 sc)else DV d.c.sc d.c.nC d.c.nK (EH d.c.sc d.c.nC d.c.nK 3) i .done 0 sc):=by
  rw [if_neg nofun]
  exact⟨T,by rw [L3 _ _ Tb];exact hJ.inv,hJ.tie,by rw [L3 _ _ Tb];exact Be,hi⟩
 have c1:AF h ⟨b3,0,none⟩=some (ptr d.c.w):=AD ((a.I.old _ h3.1).trans h3.2) rfl
 have c2:AF h ⟨b5,0,none⟩=some (.int .i64 i):=AD ((a.I.old _ h5.1).trans h5.2) rfl
 have PK:GO d.c (CU.hold (CV.toCU γ.p.u) i)<=(3:Nat):=by
  have:=Zy (c:=d.c) (H:=CU.hold (CV.toCU γ.p.u) i)
  have:=E.ok.c.nC
  omega
 have hd:=Yr E (m:=3) (fun m' _=>Zh E m') a PK (by rw [Q.2.1];exact Bv _) rfl KI (E.small i sc KI)
 refine CK (n:=8) ?_
 repeat(first|refine AH ?_|refine AV ?_|refine Av rfl (by assumption) ?_)
 refine Dr rfl rfl rfl rfl rfl hd (fun _ _ _ y=>y) ?_
 rintro w h' AW ⟨Ae,u',rfl,a',g'⟩
 (repeat refine AE ?_)
 exact FQ (Eu rfl ⟨Ae,u',[],rfl,g'.al,a'.BI,⟨g'.hold.trans Q.1,by
  have h1:=g'.L9
  have h2:=a'.MI
  have h3:(CU.told (CV.toCU γ.p.u) i).length=0:=by rw [Q.2.1];rfl
  unfold DJ at h2
  change (u'.told i).length+_<=(CU.told (CV.toCU γ.p.u) i).length+_+_ at h1
  omega,a'.Cz.at_⟩,⟨a'.inv,a'.tie,a'.Cz.over⟩⟩)
end
end
section
open Go Go.TJ Go.Conc Go.Proofs
abbrev Kc(b3:Nat)(b5:Nat->Nat)(n:Nat):List (FuncId×Array Value):=(List.range n).map fun i=>(20,#[ptr b3,ptr (b5 i)])
structure qu(d:CD)(x:ao)(b3:Nat)(b5:Nat->Nat)(bv kS:Value)(AZ:List Int):Prop where
 E:NK d x
 ex:∀b,d.ex b↔blk bv=some b
 Jx:∀i,i<d.c.nC->Ld d.hN (d.c.C i) (d.c.B i) (fun _=>.nilFunc)
 Fu:∀b,d.FC b->d.hN[b]?=some (Ay 0)
 IM:∀t,t<64->d.hN[d.hb t]?=some (G3 (.pointer none) AK)
 pk:Hh d.hN kS (AZ.map fun x=>.int .i64 x)/\∀b,blk kS=some b->d.old b
 h3:d.old b3/\d.hN[b3]?=some (.cells #[ptr d.c.w] 59 (0,0))
 h5:∀i,i<d.c.nT->d.old (b5 i)/\d.hN[b5 i]?=some (.cells #[.int .i64 i] 3 (0,0))
 th:d.c.nT<=d.c.sc.length
 Di:AR d.hN bv 49 1 d.c.nT ((Kc b3 b5 d.c.nT).map fun q=>.func (.func q.1) #[] q.2)
def xj:CU:=⟨fun _=>[],fun _=>[],fun _=>AK,fun _=>.pointer none,fun _ _=>.nilFunc,[]⟩
def pP(c:CP):CV:=⟨xj,[],fun _=>[],c.P⟩
theorem sF(c:CP):FX c [] 0 xj (fun _=>0):=
 ⟨fun _ _ _ _=>⟨Mh _,Mh _⟩,fun _ _ _ _=>⟨Mh _,by decide⟩,fun _ _=>⟨Mh _,by decide⟩,fun _ _=>.inl rfl,fun _ _ h=>(by cases h),fun _=>List.nodup_nil,fun _ _ _ _ h=>(by cases h),fun _ _ _ _ h=>(by rcases h with h|h <;> exact absurd h (by decide)),fun _ _ h=>absurd h (by decide),fun _ _ _ _ h=>absurd rfl h,fun _ _ h=>(by cases h),fun _ _ _ _ _ h=>absurd rfl h,fun _ _ h=>(by cases h),fun _ _=>rfl⟩
theorem xj0(d:CD):XJ d [] (pP d.c) (fun _=>0):=⟨sF d.c,fun _=>rfl,q8 fun j=>HS j⟩
section
variable{d:CD}{x:ao}{b3:Nat}{b5:Nat->Nat}{bv kS:Value}{AZ:List Int}
end
end
section
open Go Go.TJ Go.Conc Go.Proofs
def IC(nC nK n:Nat):Prop:=(∃c j,c<nC/\j<34/\n=cc c j)\/∃k,k<nK/\n=ck k
def Gd(nC nK:Nat):PA->Prop
 | .done=>True
 | .step r k=>(r.op=0\/IC nC nK r.b)/\∀w,Gd nC nK (k w)
 | .emit _ k=>Gd nC nK k
 | .Hd _ _ k=>Gd nC nK k
 | .ask _ k=>∀s,Gd nC nK (k s)
section
variable{nC nK:Nat}
theorem Gd.settle:∀{p:PA} {f f':Fs} {o o':List It} {p':PA},Gd nC nK p->settle p f o=(f',o',p')->Gd nC nK p'
 | .done,f,f',o,o',p',_,h=>by
  injection h with h1 h2
  injection h2 with h2 h3
  subst h1 h2 h3
  trivial
 | .step r k,f,f',o,o',p',hk,h=>by
  injection h with h1 h2
  injection h2 with h2 h3
  subst h1 h2 h3
  exact hk
 | .emit e k,f,f',o,o',p',hk,h=>Gd.settle (p:=k) hk h
 | .Hd q s k,f,f',o,o',p',hk,h=>Gd.settle (p:=k) hk h
 | .ask q k,f,f',o,o',p',hk,h=>by
  unfold Go.Proofs.YtfkalocplonkiaaGreat.settle at h
  cases hq:Eb f q with
  | none=>
   rw [hq]at h
   injection h with h1 h2
   injection h2 with h2 h3
   subst h1 h2 h3
   exact hk
  | some s=>
   rw [hq]at h
   exact Gd.settle (p:=k s) (hk s) h
theorem lC{rq:Rq->Rq}{P:Nat->PA}{l:List Ev}(hG:∀j,Gd nC nK (P j))(h:Fi rq P l):∀i,Gd nC nK ((Cz P l).Dg i):=by
 induction h with
 | nil=>exact fun i=>Gd.settle (hG i) (f:=[]) (o:=[]) rfl
 | @snoc l i r k w hf hr ih=>
  intro j
  rw [Gl]
  change Gd nC nK ((KO (Cz P l) (i,w)).Dg j)
  rw [GW hr]
  dsimp only
  by_cases e:i=j
  ·subst e
   rw [AL]
   have h1:=ih i
   rw [hr]at h1
   exact Gd.settle (h1.2 w) (f:=(Cz P l).fs) (o:=(Cz P l).out i) rfl
  ·rw [Ai _ _ (Ne.symm e)];exact ih j
theorem EO{c j:Nat}(hc:c<nC)(hj:j<34):IC nC nK (cc c j):=.inl ⟨c,j,hc,hj,rfl⟩
theorem IF:Gd nC nK stuck:=⟨.inl rfl,fun _=>trivial⟩
theorem RN{c:Nat}(hc:c<nC){due:Int}{s:Nat}{k:Int->Int->Int->PA}:∀{n:Nat},(∀a b e,Gd nC nK (k a b e))->Gd nC nK (KP c due s k n)
 | 0,h=>h 0 0 12
 | n+1,h=>⟨.inr (EO hc (by omega)),fun x=>by
  dsimp only
  split
  ·split
   ·refine⟨.inr (EO hc (by omega)),fun w=>?_⟩
    dsimp only
    split
    ·exact⟨.inr (EO hc (by omega)),fun _=>⟨.inr (EO hc (by omega)),fun _=>h _ _ _⟩⟩
    ·exact RN hc h
   ·exact RN hc h
  ·exact IF⟩
theorem dK{c:Nat}(hc:c<nC){due:Int}{f:Option Nat}{k:Int->Int->Int->PA}(h:∀a b e,Gd nC nK (k a b e)):Gd nC nK (LX c due f k):=by
 unfold LX
 split
 ·cases f with
  | none=>exact h _ _ _
  | some s=>exact RN hc h
 ·exact h _ _ _
theorem ZR{c:Nat}(hc:c<nC){s r:Int}{k:Bool->PA}(h:∀b,Gd nC nK (k b)):Gd nC nK (FD c s r k):=by
 unfold FD
 split
 ·exact⟨.inr (EO hc (by omega)),fun w=>h _⟩
 ·exact h _
theorem Lw{c:Nat}(hc:c<nC){now:Int}{k:Option (Nat×Int)->PA}:∀{n:Nat} {b:Option (Nat×Int×Int)},(∀q,b=some q->q.1<16)->(∀o,(∀q,o=some q->q.1<16)->Gd nC nK (k o))->Gd nC nK (GM c now k n b)
 | 0,b,hb,h=>h _ fun q hq=>by
  obtain⟨y,hy,rfl⟩:=Option.map_eq_some_iff.1 hq
  exact hb y hy
 | n+1,b,hb,h=>⟨.inr (EO hc (by omega)),fun x=>by
  dsimp only
  split
  ·split
   ·refine⟨.inr (EO hc (by omega)),fun w=>?_⟩
    dsimp only
    split
    ·exact Lw hc (fun q hq=>by cases hq;show 15-n<16;omega) h
    ·exact Lw hc hb h
   ·exact Lw hc hb h
  ·exact IF⟩
theorem RZ{ring:Nat->PA->PA}(hr:∀s k,Gd nC nK k->Gd nC nK (ring s k)){c:Nat}(hc:c<nC){now:Int}{k:Int->Int->PA}:∀{n g:Nat},(∀a b,Gd nC nK (k a b))->Gd nC nK (He ring c now k n g)
 | 0,_,h=>IF
 | n+1,g,h=>by
  unfold He
  refine Lw hc (fun q hq=>by cases hq) fun o ho=>?_
  cases o with
  | none=>exact⟨.inr (EO hc (by omega)),fun _=>h _ _⟩
  | some q=>
   obtain⟨j,x⟩:=q
   have hj:j<16:=ho _ rfl
   dsimp only
   split
   ·exact⟨.inr (EO hc (by omega)),fun _=>h _ _⟩
   ·refine⟨.inr (EO hc (by omega)),fun w=>?_⟩
    dsimp only
    split
    ·exact fun s=>hr _ _ ⟨.inr (EO hc (by omega)),fun _=>RZ hr hc h⟩
    ·exact RZ hr hc h
section
variable{sc:List (List BH)}
theorem Z7{HZ:Nat->Int->(Int->Int->PA)->PA}(ha:∀c d k,c<nC->(∀a b,Gd nC nK (k a b))->Gd nC nK (HZ c d k)){s:Nat}{q:BH}{k:List Int->Int->PA}(h:∀a b,Gd nC nK (k a b)):Gd nC nK (E1 sc nC nK HZ s q k):=by
 have CO:PE nC q->q.a.toNat<nC:=fun z=>by obtain⟨z1,z2⟩:=z;omega
 unfold E1
 split
 ·split
  next z=>exact⟨.inr (EO (CO z) (by omega)),fun _=>h _ _⟩
  next=>exact h _ _
 split
 ·split
  next z=>exact dK (CO z) fun _ _ _=>h _ _
  next=>exact h _ _
 split
 ·split
  next z=>exact ZR (CO z) fun _=>h _ _
  next=>exact h _ _
 split
 ·split
  next z=>
   split
   ·exact h _ _
   ·exact ha _ _ _ (CO z) fun _ _=>h _ _
  next=>exact h _ _
 split
 next z=>exact⟨.inr (.inr ⟨q.a.toNat,by omega,rfl⟩),fun _=>h _ _⟩
 next=>exact h _ _
theorem Oh{HZ:Nat->Int->(Int->Int->PA)->PA}(ha:∀c d k,c<nC->(∀a b,Gd nC nK (k a b))->Gd nC nK (HZ c d k)){s:Nat}{k:PA}(h:Gd nC nK k):∀{l:List BH} {j:Nat},Gd nC nK (DV sc nC nK HZ s k j l)
 | [],_=>h
 | q::l,j=>by
  unfold DV
  split
  ·exact h
  ·exact Z7 ha fun _ _=>Oh ha h
theorem Zk{HZ:Nat->Int->(Int->Int->PA)->PA}(ha:∀c d k,c<nC->(∀a b,Gd nC nK (k a b))->Gd nC nK (HZ c d k)){s:Nat}{k:PA}(h:Gd nC nK k):Gd nC nK (Il sc nC nK HZ s k):=by
 unfold Il
 split
 ·exact Oh ha h
 ·exact IF
theorem eM{ring:Nat->PA->PA}(hr:∀s k,Gd nC nK k->Gd nC nK (ring s k)){c N:Nat}(hc:c<nC){d:Int}{k:Int->Int->PA}(h:∀a b,Gd nC nK (k a b)):Gd nC nK (.step ⟨3,cc c 1,0,1⟩ fun w=>if w=0 then .step ⟨1,cc c 0,0,0⟩ fun v=>if 0<=v/\v<=4611686018427387904 then .step ⟨2,cc c 0,GF v d,0⟩ fun _=>He ring c (GF v d) k N 0 else stuck else k 0 14):=by
 refine⟨.inr (EO hc (by omega)),fun w=>?_⟩
 dsimp only
 split
 ·refine⟨.inr (EO hc (by omega)),fun v=>?_⟩
  dsimp only
  split
  ·exact⟨.inr (EO hc (by omega)),fun _=>RZ hr hc h⟩
  ·exact IF
 ·exact h _ _
theorem eD{n:Nat}:∀(c:Nat) (d:Int) (k:Int->Int->PA),c<nC->(∀a b,Gd nC nK (k a b))->Gd nC nK (EH sc nC nK n c d k):=by
 induction n with
 | zero=>
  intro c d k hc h
  refine⟨.inr (EO hc (by omega)),fun w=>?_⟩
  dsimp only
  split
  ·exact IF
  ·exact h _ _
 | succ n ih=>
  intro c d k hc h
  exact eM (N:=65537) (fun s k hk=>Zk ih hk) hc h
theorem dF(i:Nat):Gd nC nK (Nt sc nC nK i):=Oh eD (show Gd nC nK .done from trivial)
end
end
section
variable{c c':CP}
inductive Rel (c c':CP):List Ev->List Ev->Prop
 | nil:Rel c c' [] []
 | snoc {l l':List Ev} (i:Nat) (r:Rq) (w:Int):Rel c c' l l'->IC c.nC c.nK r.b->Rel c c' (l++[Co i (c.rq r) w]) (l'++[Co i (c'.rq r) w])
theorem Rel.len{l l':List Ev}(h:Rel c c' l l'):l'.length=l.length:=by
 induction h with
 | nil=>rfl
 | snoc i r w _ _ ih=>simp [ih]
theorem Rel.tw{l l':List Ev}(h:Rel c c' l l'):tw l'=tw l:=by
 induction h with
 | nil=>rfl
 | snoc i r w _ _ ih=>
  have ih':List.map (fun e:Ev=>(e.BI,e.Dl)) _=List.map (fun e:Ev=>(e.BI,e.Dl)) _:=ih
  show List.map _ (_++_)=List.map _ (_++_)
  rw [EF,EF,ih']
  rfl
theorem Rel.BI{l l':List Ev}(h:Rel c c' l l'):l'.map (·.BI)=l.map (·.BI):=by
 induction h with
 | nil=>rfl
 | snoc i r w _ _ ih=>
  rw [EF,EF,ih]
  rfl
theorem Rel.Cz{P:Nat->PA}{l l':List Ev}(h:Rel c c' l l'):Cz P l'=Cz P l:=by
 unfold Go.Proofs.YtfkalocplonkiaaGreat.Cz
 rw [h.tw]
theorem MM(ok:c.Ok)(LY:∀i j,i<c.nK->j<c.nK->c.K i=c.K j->i=j){n m:Nat}(hn:IC c.nC c.nK n)(hm:IC c.nC c.nK m)(e:c.blk n=c.blk m):n=m:=by
 have hC:=ok.nC
 rcases hn with⟨i,j,hi,hj,rfl⟩|⟨k,hk,rfl⟩
 ·rw [OM (by omega) hj]at e
  rcases hm with⟨i',j',Dc,Dm,rfl⟩|⟨k',Dh,rfl⟩
  ·rw [OM (by omega) Dm]at e
   obtain⟨rfl,rfl⟩:=ok.inj _ _ _ _ hi hj Dc Dm e
   rfl
  ·rw [OL]at e
   exact absurd e.symm (ok.K _ _ _ Dh hi hj)
 ·rw [OL]at e
  rcases hm with⟨i',j',Dc,Dm,rfl⟩|⟨k',Dh,rfl⟩
  ·rw [OM (by omega) Dm]at e
   exact absurd e (ok.K _ _ _ hk Dc Dm)
  ·rw [OL]at e
   rw [LY _ _ hk Dh e]
structure Lb(c c':CP):Prop where
 ok:c.Ok
 vh:c'.Ok
 LY:∀i j,i<c.nK->j<c.nK->c.K i=c.K j->i=j
 YG:∀i j,i<c'.nK->j<c'.nK->c'.K i=c'.K j->i=j
 sc:c'.sc=c.sc
 nC:c'.nC=c.nC
 nK:c'.nK=c.nK
 nT:c'.nT=c.nT
theorem Lb.P(t:Lb c c'):c'.P=c.P:=by
 funext i
 unfold CP.P
 rw [t.sc,t.nC,t.nK]
theorem Lb.blk(t:Lb c c'){n m:Nat}(hn:IC c.nC c.nK n)(hm:IC c.nC c.nK m):c.blk n=c.blk m↔c'.blk n=c'.blk m:=by
 refine⟨fun e=>by rw [MM t.ok t.LY hn hm e],fun e=>?_⟩
 rw [MM t.vh t.YG (by rw [t.nC,t.nK];exact hn) (by rw [t.nC,t.nK];exact hm) e]
theorem Rel.chain{X X':Us}(t:Lb c c'){l l':List Ev}(h:Rel c c' l l'):∀{v v':Nat->Int},Ej X (fun _=>0) l v->Ej X' (fun _=>0) l' v'->∀n,IC c.nC c.nK n->v' (c'.blk n)=v (c.blk n):=by
 induction h with
 | nil=>
  intro v v' h1 h2 n _
  rw [Ej.El .nil h1,Ej.El .nil h2]
 | @snoc l l' i r w hr hg ih=>
  intro v v' h1 h2 n hn
  obtain⟨w1,i1,r1,c1,k1,e1,d1⟩:=h1.inv (k:=l.length) (e:=Co i (c.rq r) w) (by rw [IB (CY _),Nat.sub_self];rfl)
  obtain⟨w2,i2,r2,c2,k2,e2,d2⟩:=h2.inv (k:=l'.length) (e:=Co i (c'.rq r) w) (by rw [IB (CY _),Nat.sub_self];rfl)
  rw [List.take_left]at c1 c2
  rw [List.take_of_length_le (by simp)]at d1 d2
  have z:=ih c1 c2
  have b1:(c.rq r).b=r1.b:=congrArg Ev.b e1
  have b2:(c'.rq r).b=r2.b:=congrArg Ev.b e2
  have n1:(Co i (c.rq r) w).now=(behind r1.op (w1 r1.b) r1.arg r1.new).1:=congrArg Ev.now e1
  have n2:(Co i (c'.rq r) w).now=(behind r2.op (w2 r2.b) r2.arg r2.new).1:=congrArg Ev.now e2
  change (behind r.op w r.arg r.new).1=_ at n1
  change (behind r.op w r.arg r.new).1=_ at n2
  change c.blk r.b=_ at b1
  change c'.blk r.b=_ at b2
  rw [Ej.El d1 h1,Ej.El d2 h2,<-n1,<-n2,<-b1,<-b2]
  by_cases e:c.blk n=c.blk r.b
  ·rw [e,(t.blk hn hg).1 e,AL,AL]
  ·rw [Ai _ _ e,Ai _ _ (fun z=>e ((t.blk hn hg).2 z))]
   exact z n hn
theorem QZ{c:CP}{N:List Nat}(SB:∀m,m∈N->∀n,IC c.nC c.nK n->c.blk m=c.blk n->m=n){n:Nat}(hn:IC c.nC c.nK n):(N.map c.blk).idxOf (c.blk n)=N.idxOf n:=by
 induction N with
 | nil=>rfl
 | cons m N ih=>
  rw [List.map_cons,List.idxOf_cons,List.idxOf_cons,ih fun m' hm'=>SB m' (C2 _ hm')]
  have e:(c.blk m==c.blk n)=(m==n):=by
   by_cases h:m=n
   ·subst h;simp
   ·have h2:c.blk m≠c.blk n:=fun z=>h (SB m BJ n hn z)
    rw [Mg.2 h2,Mg.2 h]
  rw [e]
theorem Rel.rJ(t:Lb c c'){l l':List Ev}(h:Rel c c' l l'):∃N:List Nat,(∀n,n∈N->IC c.nC c.nK n)/\Ab l=N.map c.blk/\Ab l'=N.map c'.blk:=by
 induction h with
 | nil=>exact⟨[],fun _ h=>(by cases h),rfl,rfl⟩
 | @snoc l l' i r w hr hg ih=>
  obtain⟨N,h1,h2,h3⟩:=ih
  rw [Fl,Fl,h2,h3]
  change ∃N':List Nat,_/\(if c.blk r.b∈N.map c.blk then _ else _++[c.blk r.b])=_/\(if c'.blk r.b∈N.map c'.blk then _ else _++[c'.blk r.b])=_
  have qH:c.blk r.b∈N.map c.blk↔r.b∈N:=by
   rw [Iu]
   exact⟨fun⟨m,hm,e⟩=>(MM t.ok t.LY (h1 m hm) hg e)▸hm,fun hm=>⟨_,hm,rfl⟩⟩
  have qG:c'.blk r.b∈N.map c'.blk↔r.b∈N:=by
   rw [Iu]
   exact⟨fun⟨m,hm,e⟩=>(MM t.ok t.LY (h1 m hm) hg ((t.blk (h1 m hm) hg).2 e))▸hm,fun hm=>⟨_,hm,rfl⟩⟩
  by_cases hm:r.b∈N
  ·rw [if_pos (qH.2 hm),if_pos (qG.2 hm)]
   exact⟨N,h1,rfl,rfl⟩
  ·rw [if_neg fun z=>hm (qH.1 z),if_neg fun z=>hm (qG.1 z)]
   refine⟨N++[r.b],fun n hn=>?_,by simp,by simp⟩
   rcases Ff.1 hn with z|z
   ·exact h1 n z
   ·rw [DD.1 z];exact hg
theorem Rel.ent{l l':List Ev}(h:Rel c c' l l'){ns aD:List Nat}(hi:∀n,IC c.nC c.nK n->aD.idxOf (c'.blk n)=ns.idxOf (c.blk n)):l'.flatMap (CF aD)=l.flatMap (CF ns):=by
 induction h with
 | nil=>rfl
 | @snoc l l' i r w hr hg ih=>
  rw [Ln,Ln,ih]
  congr 1
  have e:CF aD (Co i (c'.rq r) w)=CF ns (Co i (c.rq r) w):=by
   show A4 _ _ ((aD.idxOf (c'.blk r.b):Nat):Int) _ _ _ _ _=A4 _ _ ((ns.idxOf (c.blk r.b):Nat):Int) _ _ _ _ _
   rw [hi r.b hg];rfl
  rw [List.flatMap_cons,List.flatMap_cons,e];rfl
theorem Rel.same(t:Lb c c'){l l':List Ev}(h:Rel c c' l l'):l'.flatMap (CF (Ab l'))=l.flatMap (CF (Ab l)):=by
 obtain⟨N,h1,h2,h3⟩:=h.rJ t
 refine h.ent fun n hn=>?_
 rw [h2,h3,QZ (fun m hm n' XZ e=>MM t.ok t.LY (h1 m hm) XZ e) hn]
 exact QZ (c:=c') (fun m hm n' XZ e=>MM t.vh t.YG (by rw [t.nC,t.nK];exact h1 m hm) XZ e) (by rw [t.nC,t.nK];exact hn)
end
def SH:PA->Bool
 | .step _ _=>true
 | _=>false
section
variable{rq:Rq->Rq}{P:Nat->PA}
theorem Fi.pre{l:List Ev}(h:Fi rq P l):∀k,Fi rq P (l.take k):=by
 induction h with
 | nil=>intro k;rw [List.take_nil];exact .nil
 | @snoc l i r kk w hf hr ih=>
  intro k
  rcases EM l.length k with y|y
  ·rw [List.take_of_length_le (by simp;omega)]
   exact .snoc w hf hr
  ·rw [List.take_append_of_le_length y];exact ih k
theorem Fi.at{l:List Ev}(h:Fi rq P l){k:Nat}{e:Ev}(he:l[k]?=some e):∃(r:Rq) (kk:Int->PA),(Cz P (l.take k)).Dg e.BI= .step r kk/\e=Co e.BI (rq r) e.Dl:=by
 have h1:=h.pre (k+1)
 have hl:=(Gv.1 he).1
 rw [List.take_succ_eq_append_getElem hl]at h1
 have hel:l[k]=e:=(Gv.1 he).2
 rw [hel]at h1
 generalize hx:l.take k++[e]=y at h1
 cases h1 with
 | nil=>simp at hx
 | @snoc l2 i r kk w hf hr=>
  obtain⟨e1,e2⟩:=List.append_inj' hx rfl
  injection e2 with e2 _
  subst e2
  rw [e1]
  exact⟨r,kk,hr,rfl⟩
theorem Sn{j:Nat}:∀{m l:List Ev},(∀e,e∈m->e.BI≠j)->(Cz P (l++m)).Dg j=(Cz P l).Dg j
 | [],l,_=>by rw [DI]
 | e::m,l,h=>by
  rw [show l++e::m=(l++[e])++m by simp,Sn (m:=m) (l:=l++[e]) fun x hx=>h x (List.mem_cons_of_mem _ hx),Gl]
  unfold KO
  dsimp only
  split
  ·exact Ai _ _ (Ne.symm (h e BJ))
  ·rfl
theorem Qg{j:Nat}:∀{m l:List Ev},Fi rq P (l++m)->(SH ((Cz P l).Dg j)=(SH ((Cz P (l++m)).Dg j)||m.any fun e=>e.BI==j))
 | [],l,_=>by rw [List.append_nil];simp
 | e::m,l,h=>by
  by_cases he:e.BI=j
  ·obtain⟨r,kk,h1,-⟩:=h.at (k:=l.length) (e:=e) (by rw [IB (CY _),Nat.sub_self];rfl)
   rw [List.take_left,he]at h1
   rw [h1]
   simp [SH,he]
  ·have e1:l++e::m=(l++[e])++m:=by simp
   rw [e1]at h⊢
   have:=Qg (j:=j) (m:=m) (l:=l++[e]) h
   rw [<-Sn (P:=P) (m:=[e]) (l:=l) (j:=j) (fun x hx=>by rw [DD.1 hx];exact he),this,List.any_cons]
   have:(e.BI==j)=false:=by simpa using he
   rw [this,Bool.false_or]
end
section
variable{d d':CD}{AZ:List Int}{most:Nat}{p:PS (XC d).U}{p':PS (XC d').U}{e e':Int}{lL lW lY lV ar en eh eu:Value}{h h':Hp}
theorem DZ(E:EZ (XC d) (fun _=>0) AZ d.c.nT most p e lL lW lY lV h):Fi d.c.rq d.c.P p.log:=(show XJ d p.log p.u p.val from E.J).Cz.log
theorem Wq(E:EZ (XC d) (fun _=>0) AZ d.c.nT most p e lL lW lY lV h){j:Nat}(hj:j<d.c.nT):SH ((Cz d.c.P p.log).Dg j)=!p.gone j:=by
 have hJ:XJ d p.log p.u p.val:=E.J
 have h1:=hJ.Cz.th j []
 have hQ:=E.Q j
 rcases E.reg.alive j hj with⟨h2,r,h3,-⟩|⟨h2,h3⟩
 ·rw [h3]at hQ
  obtain⟨r0,k,e1,-⟩:∃r0 k,CV.Dg p.u j= .step r0 k/\r=d.c.rq r0:=hQ
  rw [e1]at h1
  injection h1 with _ h1
  injection h1 with _ h1
  rw [<-h1,h2];rfl
 ·rw [h3]at hQ
  have e1:CV.Dg p.u j= .done:=(show CU.hold _ j=[]/\_/\CV.Dg p.u j= .done from hQ).2.2
  rw [e1]at h1
  injection h1 with _ h1
  injection h1 with _ h1
  rw [<-h1,h2];rfl
theorem Ft(E:EZ (XC d) (fun _=>0) AZ d.c.nT most p e lL lW lY lV h)(k:Nat):E7 p k=(List.range d.c.nT).filter fun j=>SH ((Cz d.c.P (p.log.take k)).Dg j):=by
 unfold E7
 rw [E.reg.num]
 refine List.filter_congr fun j hj=>?_
 have hf:=DZ E
 rw [<-List.take_append_drop k p.log]at hf
 rw [Qg (j:=j) hf,List.take_append_drop,Wq E (Iv.1 hj)]
theorem MP(t:Lb d.c d'.c)(E:EZ (XC d) (fun _=>0) AZ d.c.nT most p e lL lW lY lV h)(E':EZ (XC d') (fun _=>0) AZ d'.c.nT most p' e' ar en eh eu h'):∀k,k<=p.log.length->k<=p'.log.length->Rel d.c d'.c (p.log.take k) (p'.log.take k)
 | 0,_,_=>by rw [List.take_zero,List.take_zero];exact .nil
 | k+1,h1,h2=>by
  have R:=MP t E E' k (by omega) (by omega)
  have g1:=Cl (show k<p.log.length by omega)
  have g2:=Cl (show k<p'.log.length by omega)
  rw [List.take_succ_eq_append_getElem (show k<p.log.length by omega),List.take_succ_eq_append_getElem (show k<p'.log.length by omega)]
  generalize p.log[k]'(by omega)=e1 at g1⊢
  generalize p'.log[k]'(by omega)=e2 at g2⊢
  obtain⟨-,t1,-⟩:=E.reg.turns k e1 g1
  obtain⟨-,t2,-⟩:=E'.reg.turns k e2 g2
  rw [Ft E]at t1
  rw [Ft E',R.BI,t.P,R.Cz,t.nT,<-t1]at t2
  obtain⟨r,kk,hr,xg⟩:=(DZ E).at g1
  obtain⟨r',kk',IQ,ee2⟩:=(DZ E').at g2
  rw [t.P,R.Cz,t2,hr]at IQ
  injection IQ with IQ _
  subst IQ
  obtain⟨v1,i1,r1,c1,k1,f1,-⟩:=E.reg.chain.inv g1
  obtain⟨v2,i2,r2,c2,k2,f2,-⟩:=E'.reg.chain.inv g2
  have hgd:IC d.c.nC d.c.nK r.b:=by
   have:=lC (nC:=d.c.nC) (nK:=d.c.nK) (P:=d.c.P) (fun j=>dF j) ((DZ E).pre k) e1.BI
   rw [hr]at this
   rcases this.1 with z|z
   ·have q1:e1.op=r.op:=by rw [xg];rfl
    have q2:e1.op=r1.op:=by rw [f1];rfl
    have:=k1.iM
    omega
   ·exact z
  have w1:e1.Dl=v1 (d.c.blk r.b):=by
   have q1:e1.b=d.c.blk r.b:=by rw [xg];rfl
   have q2:e1.b=r1.b:=by rw [f1];rfl
   rw [<-q1,q2,f1];rfl
  have w2:e2.Dl=v2 (d'.c.blk r.b):=by
   have q1:e2.b=d'.c.blk r.b:=by rw [ee2];rfl
   have q2:e2.b=r2.b:=by rw [f2];rfl
   rw [<-q1,q2,f2];rfl
  rw [R.chain t c1 c2 r.b hgd,<-w1]at w2
  rw [xg,ee2,t2,w2]
  exact .snoc _ r _ R hgd
theorem QF(t:Lb d.c d'.c)(E:EZ (XC d) (fun _=>0) AZ d.c.nT most p e lL lW lY lV h)(E':EZ (XC d') (fun _=>0) AZ d'.c.nT most p' e' ar en eh eu h'):p'.log.length<=p.log.length:=by
 apply Classical.byContradiction
 intro hn
 have Cg:p.log.length<p'.log.length:=by omega
 have R:=MP t E E' p.log.length (CY _) (by omega)
 obtain⟨-,-,hm⟩:=E'.reg.turns p.log.length _ (Cl Cg)
 rw [Ft E',t.P,R.Cz,t.nT,<-Ft E,Hn (CY _),E.reg.num]at hm
 rcases E.XX with⟨-,h2,-⟩|⟨-,-,h3⟩
 ·rw [h2]at hm;cases hm
 ·rcases E'.XX with⟨-,-,h4⟩|⟨-,-,h4⟩ <;> omega
theorem Lb.symm{c c':CP}(t:Lb c c'):Lb c' c:=⟨t.vh,t.ok,t.YG,t.LY,t.sc.symm,t.nC.symm,t.nK.symm,t.nT.symm⟩
theorem ZL(t:Lb d.c d'.c)(E:EZ (XC d) (fun _=>0) AZ d.c.nT most p e lL lW lY lV h)(E':EZ (XC d') (fun _=>0) AZ d'.c.nT most p' e' ar en eh eu h'):p'.log.length=p.log.length/\e'=e/\p'.log.flatMap (CF (Ab p'.log))=p.log.flatMap (CF (Ab p.log)):=by
 have hl:p'.log.length=p.log.length:=Nat.le_antisymm (QF t E E') (QF t.symm E' E)
 have R:=MP t E E' p.log.length (CY _) (by omega)
 rw [List.take_of_length_le (CY _),List.take_of_length_le (by omega)]at R
 refine⟨hl,?_,R.same t⟩
 have al:p'.live d'.c.nT=p.live d.c.nT:=by
  have a1:=Ft E p.log.length
  have a2:=Ft E' p'.log.length
  rw [Hn (CY _),E.reg.num,List.take_of_length_le (CY _)]at a1
  rw [Hn (CY _),E'.reg.num,List.take_of_length_le (CY _),t.P,R.Cz]at a2
  rw [a1,a2,t.nT]
 rcases E.XX with⟨h1,h2,-⟩|⟨h1,h2,-⟩ <;> rcases E'.XX with⟨h3,h4,-⟩|⟨h3,h4,-⟩
 ·rw [h1,h3]
 ·rw [al]at h4;exact absurd h2 h4
 ·rw [al]at h4;exact absurd h4 h2
 ·rw [h1,h3]
end
end
section
open Go Go.TJ Go.Conc Go.Proofs
theorem rK{c:CP}(ok:c.Ok)(LY:∀i j,i<c.nK->j<c.nK->c.K i=c.K j->i=j):∃nm:Nat->D5,(∀i j,i<c.nC->j<34->nm (c.B i j)=G9 i j)/\∀k,k<c.nK->nm (c.K k)=Qq k:=by
 classical
 refine⟨fun y=>if h:∃q:Nat×Nat,q.1<c.nC/\q.2<34/\y=c.B q.1 q.2 then G9 h.choose.1 h.choose.2 else if h:∃k,k<c.nK/\y=c.K k then Qq h.choose else(0,0),fun i j hi hj=>?_,fun k hk=>?_⟩
 ·have h:∃q:Nat×Nat,q.1<c.nC/\q.2<34/\c.B i j=c.B q.1 q.2:=⟨(i,j),hi,hj,rfl⟩
  dsimp only
  rw [dif_pos h]
  obtain⟨h1,h2,h3⟩:=h.choose_spec
  obtain⟨e1,e2⟩:=ok.inj _ _ _ _ hi hj h1 h2 h3
  rw [<-e1,<-e2]
 ·have hn:¬∃q:Nat×Nat,q.1<c.nC/\q.2<34/\c.K k=c.B q.1 q.2:=fun⟨q,h1,h2,h3⟩=>ok.K k _ _ hk h1 h2 h3
  have h:∃k',k'<c.nK/\c.K k=c.K k':=⟨k,hk,rfl⟩
  dsimp only
  rw [dif_neg hn,dif_pos h]
  obtain⟨h1,h2⟩:=h.choose_spec
  rw [<-LY _ _ hk h1 h2]
section
variable{d:CD}{p:PS (XC d).U}{AZ:List Int}{tu:Nat}{e:Int}{lL lW lY lV XH:Value}{hE h0:Hp}{nm:Nat->D5}{W Wd lo:Nat}{s:WS}{V:Value}{ws:List Value}
def R4(d:CD)(p:PS (XC d).U)(e:Int)(tu:Nat)(AZ:List Int)(nm:Nat->D5)(lL lW lY lV XH:Value)(h0:Hp)(W:Nat)(s:WS)(Wd:Nat)(V:Value)(ws:List Value):RW:=
 ⟨XC d,AZ,Li p (fun _=>0) d.c.nT tu e,nm,lL,lW,lY,lV,XH,h0,W,s,Wd,V,ws,d.c,fun q=>(Eb (Cz d.c.P p.log).fs q).getD 0,(Cz d.c.P p.log).fs⟩
theorem dg(E:EZ (XC d) (fun _=>0) AZ d.c.nT tu p e lL lW lY lV hE):CV.fs p.u=(Cz d.c.P p.log).fs:=(show XJ d p.log p.u p.val from E.J).Cz.fs
theorem KA(E:EZ (XC d) (fun _=>0) AZ d.c.nT tu p e lL lW lY lV hE):p.log.length<=tu:=by
 rcases E.XX with⟨-,-,h⟩|⟨-,-,h⟩ <;> omega
theorem Ma(E:EZ (XC d) (fun _=>0) AZ d.c.nT tu p e lL lW lY lV hE):∀ev,ev∈p.log->ev.BI<d.c.nT:=fun ev Ru=>by
 obtain⟨k,hk,he⟩:=JZ.1 Ru
 obtain⟨-,-,h3⟩:=E.reg.turns k ev (by rw [Cl hk,he])
 unfold E7 at h3
 rw [E.reg.num]at h3
 exact Iv.1 (SP.1 h3).1
theorem Oz(E:EZ (XC d) (fun _=>0) AZ d.c.nT tu p e lL lW lY lV hE){j:Nat}(hj:j<d.c.nT):(CU.told (CV.toCU p.u) j).map TE.p=JL ((Cz d.c.P p.log).out j):=by
 have hJ:XJ d p.log p.u p.val:=E.J
 have h1:=hJ.Cz.th j []
 have hQ:=E.Q j
 rw [<-hJ.tie j]
 rcases E.reg.alive j hj with⟨-,r,h3,-⟩|⟨-,h3⟩
 ·rw [h3]at hQ
  obtain⟨r0,k,e1,-⟩:∃r0 k,CV.Dg p.u j= .step r0 k/\r=d.c.rq r0:=hQ
  rw [e1]at h1
  injection h1 with _ h1
  injection h1 with h1 _
  rw [h1]
 ·rw [h3]at hQ
  have e1:CV.Dg p.u j= .done:=(show CU.hold _ j=[]/\_/\CV.Dg p.u j= .done from hQ).2.2
  rw [e1]at h1
  injection h1 with _ h1
  injection h1 with h1 _
  rw [h1]
theorem rC(ok:d.Ok)(E:EZ (XC d) (fun _=>0) AZ d.c.nT tu p e lL lW lY lV hE)(rm:HB (Li p (fun _=>0) d.c.nT tu e) AZ lL lW lY lV XH h0)(bs:BS lo h0 V ws d.c.sc)(bK:tu<8192)(wy:d.c.nT<=6)(bZ:d.c.nK<=3)(KI:d.c.sc.length<=16)(hs:s.hs=[])
  (n1:∀i j,i<d.c.nC->j<34->nm (d.c.B i j)=G9 i j) (n2:∀k,k<d.c.nK->nm (d.c.K k)=Qq k):(R4 d p e tu AZ nm lL lW lY lV XH h0 W s Wd V ws).Ok:=by
 have hJ:XJ d p.log p.u p.val:=E.J
 have KJ:=dg E
 have hC:=ok.c.nC
 have hlen:=KA E
 have qZ:=Qa (nT:=d.c.nT) (P:=d.c.P) (fun j=>HS j) (fun j=>VT j) (DZ E) (Ma E)
 refine⟨⟨E.record (_sP:=XH) (by omega) (by omega),rm,?_,fun b _=>by show H6 s.hs _=0;rw [hs];rfl,by show s.hs.length<=5000;rw [hs];exact Bv _⟩,n1,n2,ok.c,fun q t hq=>?_,?_,?_,?_,IX bs.sl,bs.len,fun t l hl=>?_,fun t l q h1 h2=>(bs.PH t l q h1 h2).2,KI,fun t l q h1 h2=>(bs.PH t l q h1 h2).1⟩
 ·rintro y y' (⟨i,j,hi,hj,rfl⟩|⟨k,hk,rfl⟩) (⟨i',j',Dc,Dm,rfl⟩|⟨k',Dh,rfl⟩) ee
  ·change nm _=nm _ at ee
   rw [n1 _ _ hi hj,n1 _ _ Dc Dm]at ee
   unfold G9 at ee
   injection ee with e1 e2
   rw [show i=i' by omega,show j=j' by omega]
  ·change nm _=nm _ at ee
   rw [n1 _ _ hi hj,n2 _ Dh]at ee
   unfold G9 Qq at ee
   injection ee with e1 e2
   omega
  ·change nm _=nm _ at ee
   rw [n2 _ hk,n1 _ _ Dc Dm]at ee
   unfold G9 Qq at ee
   injection ee with e1 e2
   omega
  ·change nm _=nm _ at ee
   rw [n2 _ hk,n2 _ Dh]at ee
   unfold Qq at ee
   injection ee with e1 e2
   rw [show k=k' by omega]
 ·have Eh:(q,t)∈CV.fs p.u:=by rw [KJ];exact hq
  have:=hJ.inv.ah q t Eh
  rw [KJ]at this
  show(Eb (Cz d.c.P p.log).fs q).getD 0=t
  rw [this];rfl
 ·show(Cz d.c.P p.log).fs.length<=32768;omega
 ·show d.c.nT<=64;omega
 ·show d.c.nK<=8;omega
 ·obtain⟨v,h1,h2,-⟩:=bs.mR t l hl
  exact⟨bs.small t l hl,v,h1,h2⟩
theorem dY(E:EZ (XC d) (fun _=>0) AZ d.c.nT tu p e lL lW lY lV hE)(Xh:∀(s:Nat) (l:List BH),d.c.sc[s]?=some l->l.length<=30)(bK:tu<8192)(Mz:d.c.nT<=d.c.sc.length):iC (R4 d p e tu AZ nm lL lW lY lV XH h0 W s Wd V ws) (Cz d.c.P p.log).out (Cz d.c.P p.log).Dg:=by
 have hJ:XJ d p.log p.u p.val:=E.J
 have hlen:=KA E
 have qZ:=Qa (nT:=d.c.nT) (P:=d.c.P) (fun j=>HS j) (fun j=>VT j) (DZ E) (Ma E)
 refine⟨ZS (P:=d.c.P) (fun j=>HS j) (DZ E) (Ma E),fun i hi=>?_,fun i hi=>?_,fun i=>?_,?_,Mz⟩
 ·refine Zw (P:=d.c.P) (fun j=>HS j) (DZ E) (fun q t hq=>?_) i
  show(Eb (Cz d.c.P p.log).fs q).getD 0=t
  rw [hq];rfl
 ·have h1:=hJ.Cz.th i []
  have hQ:=E.Q i
  rcases E.reg.alive i hi with⟨h2,r,h3,-⟩|⟨h2,h3⟩
  ·rw [h3]at hQ
   obtain⟨r0,k,e1,e2⟩:∃r0 k,CV.Dg p.u i= .step r0 k/\r=d.c.rq r0:=hQ
   rw [e1]at h1
   injection h1 with _ h1
   injection h1 with _ h1
   refine .inl ⟨r,_,?_,by rw [<-h1,e2];rfl⟩
   show(i,r)∈(p.live d.c.nT).map fun j=>(j,R5 (p.st j))
   exact Iu.2 ⟨i,F8.2 ⟨hi,h2⟩,by rw [h3];rfl⟩
  ·rw [h3]at hQ
   have e1:CV.Dg p.u i= .done:=(show CU.hold _ i=[]/\_/\CV.Dg p.u i= .done from hQ).2.2
   rw [e1]at h1
   injection h1 with _ h1
   injection h1 with _ h1
   refine .inr ⟨fun q hq=>?_,by rw [<-h1];rfl⟩
   obtain⟨j,hj,rfl⟩:=Iu.1 (show q∈(p.live d.c.nT).map fun j=>(j,R5 (p.st j))from hq)
   obtain⟨-,h5⟩:=F8.1 hj
   intro ee
   rw [show j=i from ee,h2]at h5
   cases h5
 ·have:=Sx (n0:=31) (P:=d.c.P) (fun j=>RD Xh j) (DZ E) i
  have h2:(Bm i p.log).length<=p.log.length:=List.length_filter_le _ _
  omega
 ·show(Cz d.c.P p.log).fs.length<=4095;omega
theorem UP(E:EZ (XC d) (fun _=>0) AZ d.c.nT tu p e lL lW lY lV hE)(Xh:∀(s:Nat) (l:List BH),d.c.sc[s]?=some l->l.length<=30){j:Nat}{x:TP}(hx:x∈JL ((Cz d.c.P p.log).out j)):x.vs.length<=2:=
 lF (n0:=31) (P:=d.c.P) (fun j=>RD Xh j) (DZ E) j x hx
theorem Wp(E:EZ (XC d) (fun _=>0) AZ d.c.nT tu p e lL lW lY lV hE):(∀t x,x∈CU.told (CV.toCU p.u) t->N3 (CU.kept (CV.toCU p.u)) x)/\∀t,d.c.nT<=t->CU.told (CV.toCU p.u) t=[]:=by
 have hJ:XJ d p.log p.u p.val:=E.J
 exact⟨hJ.inv.tok,hJ.inv.out⟩
end
theorem Sa{kept:List (Nat×Obj)}{h:Hp}{x:TE}(t:N3 kept x)(hk:∀q,q∈kept->h[q.1]?=some q.2):Hh h x.vv (x.vs.map fun z=>.int .i64 z):=by
 rcases t.vv with⟨e1,e2⟩|⟨y,e1,e2⟩
 ·rw [e1,e2];exact IX (e:=2) AR.nil
 ·have h1:=hk _ e2
  rw [e1]
  exact IX (e:=2) ⟨by simp,.inr ⟨y,x.vs.length,[],rfl,Nat.le_refl _,by simp,by rw [List.append_nil];exact h1⟩⟩
end
section
open Go Go.TJ Go.Conc Go.Proofs
theorem KM.toP{h:Hp}{c:Nat}{B:Nat->Nat}{FW:Nat->Value}{BL:Nat->Int}(k:KM h c B BL FW):Ld h c B FW:=⟨k.obj,k.Gs,k.Gg,k.JM,k.Tg,k.pf⟩
theorem yR{d:CD}{y:Nat}{a:Array Value}{t:TypeId}(mz:∀b,d.ex b->∃a f,d.hN[b]?=some (.cells a 49 f))(X0:∀b,d.FC b->∃x,d.hN[b]?=some (Ay x))(Xz:∀i,i<d.c.nC->∃cs,d.hN[d.c.C i]?=some (.cells cs 96 (0,0)))
  (hh:∀t,t<64->d.hN[d.hb t]?=some (G3 (.pointer none) AK)) (hy:d.hN[y]?=some (.cells a t (0,0))) (h1:t≠159) (h2:t≠49) (h3:t≠96) (h4:t≠75):d.old y:=by
 refine⟨⟨Ap hy,fun hc=>?_,fun he=>?_⟩,fun i hi e=>?_,fun k hk e=>?_⟩
 ·obtain⟨x,hx⟩:=X0 y hc
  rw [hy]at hx
  injection hx with hx
  injection hx with _ hx _
  exact h1 hx
 ·obtain⟨a',f',hx⟩:=mz y he
  rw [hy]at hx
  injection hx with hx
  injection hx with _ hx _
  exact h2 hx
 ·obtain⟨cs,hx⟩:=Xz i hi
  rw [<-e,hy]at hx
  injection hx with hx
  injection hx with _ hx _
  exact h3 hx
 ·have hx:=hh k hk
  rw [<-e,hy]at hx
  injection hx with hx
  injection hx with _ hx _
  exact h4 hx
theorem Yt{h:Hp}{s:Value}{e sz n:Nat}{cells:List Value}(x:AR h s e sz n cells){b:Nat}(hb:blk s=some b):∃a,h[b]?=some (.cells a e (0,0)):=by
 obtain⟨-,⟨rfl,-⟩|⟨b',cap,rest,rfl,-,-,h3⟩⟩:=x
 ·cases hb
 ·obtain rfl:b'=b:=D4 hb
  exact⟨_,h3⟩
abbrev NJ(sc:List (List BH))(nC nK nT W:Nat)(C:Nat->Nat)(B:Nat->Nat->Nat)(K:Nat->Nat)(hN:Hp)(bv:Value)(hb:Nat->Nat):CD:=⟨⟨sc,nC,nK,nT,W,C,B,K⟩,hN,fun b=>blk bv=some b,hb,fun _=>0⟩
section
variable{h0 h4 hN:Hp}{f:Nat->Value}{V Hs Ks Cs bv:Value}{ws:List Value}{sc:List (List BH)}{W nK nC nT lo b3:Nat}{hb K C b5:Nat->Nat}{B:Nat->Nat->Nat}{AZ:List Int}
theorem di(N:NW h0 h4 (CX f) W nK nC hb K C B Hs Ks Cs)(u:AN (fun _=>False) h4 hN)(bs:BS lo h0 V ws sc)(fV:f 0=V)(pk:AR h0 (f 3) 3 1 AZ.length (AZ.map iV))(XY:nC<=3)(wy:nT<=sc.length/\nT<=6)
  (g3:hN[b3]?=some (.cells #[ptr W] 59 (0,0))) (g5:∀i,i<nT->hN[b5 i]?=some (.cells #[.int .i64 i] 3 (0,0))) (Di:AR hN bv 49 1 nT ((Kc b3 b5 nT).map fun q=>.func (.func q.1) #[] q.2)):
  qu (NJ sc nC nK nT W C B K hN bv hb) ⟨V,Hs,Ks,Cs,ws,64⟩ b3 b5 bv (f 3) AZ:=by
 have u0:=N.up.trans u
 have hw:hN[W]?=some (ES (CX f) Hs Ks Cs):=u.get N.w (fun x=>x)
 have XB:∀i,i<nC->KM hN (C i) (B i) (fun _=>0) (fun _=>.nilFunc):=fun i hi=>(N.ck i hi).upd u (fun _ x=>x.elim)
 have X0:∀b,(NJ sc nC nK nT W C B K hN bv hb).FC b->hN[b]?=some (Ay 0):=fun b hc=>by
  rcases hc with⟨i,j,hi,hj,rfl⟩|⟨k,hk,rfl⟩
  ·exact(XB i hi).cell j hj
  ·exact u.get (N.kc k hk) (fun x=>x)
 have mz:∀b,blk bv=some b->∃a g,hN[b]?=some (.cells a 49 g):=fun b hb=>by
  obtain⟨a,e⟩:=Yt Di hb
  exact⟨a,_,e⟩
 have Xz:∀i,i<nC->∃cs,hN[C i]?=some (.cells cs 96 (0,0)):=fun i hi=>(XB i hi).obj
 have Rt:∀t,t<64->hN[hb t]?=some (G3 (.pointer none) AK):=fun t ht=>u.get (N.IM t ht) (fun x=>x)
 have old:∀{y:Nat} {a:Array Value} {t:TypeId},hN[y]?=some (.cells a t (0,0))->t≠159->t≠49->t≠96->t≠75->(NJ sc nC nK nT W C B K hN bv hb).old y:=fun hy h1 h2 h3 h4=>
  yR (d:=NJ sc nC nK nT W C B K hN bv hb) mz (fun b hc=>⟨0,X0 b hc⟩) Xz Rt hy h1 h2 h3 h4
 have mV:∀{h':Hp} {s:Value} {e sz n:Nat} {cells:List Value},AR h' s e sz n cells->AN (fun _=>False) h' hN->e≠159->e≠49->e≠96->e≠75->∀b,blk s=some b->(NJ sc nC nK nT W C B K hN bv hb).old b:=fun x ux h1 h2 h3 h4 b hb=>by
  obtain⟨a,e⟩:=Yt (x.upd ux (fun _ _ z=>z)) hb
  exact old e h1 h2 h3 h4
 have base:∀{y:Nat} {a:Array Value} {t:TypeId},hN[y]?=some (.cells a t (0,0))->t≠159->t≠49->(NJ sc nC nK nT W C B K hN bv hb).base y:=fun {y a t} hy h1 h2=>by
  refine⟨Ap hy,fun hc=>?_,fun he=>?_⟩
  ·have hx:=X0 y hc
   rw [hy]at hx
   injection hx with hx
   injection hx with _ hx _
   exact h1 hx
  ·obtain⟨a',f',hx⟩:=mz y he
   rw [hy]at hx
   injection hx with hx
   injection hx with _ hx _
   exact h2 hx
 have Ny:(CX f).length=13:=rfl
 have wQ:=GV (a:=Hs) (b:=Ks) (c:=Cs) Ny
 have E:NK (NJ sc nC nK nT W C B K hN bv hb) ⟨V,Hs,Ks,Cs,ws,64⟩:=by
  refine⟨⟨⟨N.Bi,N.KB,XY⟩,fun i hi=>?_,fun t ht=>base (Rt t ht) (by decide) (by decide),N.Ci,fun i j _ _ e=>N.uY i j e,fun i t hi ht e=>?_,by show nT<=64;omega⟩,old hw (by decide) (by decide) (by decide) (by decide),⟨⟨?_,?_,?_,?_⟩,IX (bs.sl.upd u0 (fun _ _ x=>x)),fun s l hl=>?_,IX (N.sH.upd u (fun _ _ x=>x)),IX (N.sK.upd u (fun _ _ x=>x)),IX (N.sC.upd u (fun _ _ x=>x))⟩,mV bs.sl u0 (by decide) (by decide) (by decide) (by decide),bs.len,fun s v hv=>?_,mV N.sH u (by decide) (by decide) (by decide) (by decide),mV N.sK u (by decide) (by decide) (by decide) (by decide),mV N.sC u (by decide) (by decide) (by decide) (by decide),⟨CY _,by show nT<=64;omega⟩,bs.small,fun s l q h1 h2=>(bs.PH s l q h1 h2).2⟩
  ·obtain⟨cs,Ea⟩:=Xz i hi
   exact base Ea (by decide) (by decide)
  ·obtain⟨cs,Ea⟩:=Xz i hi
   have hx:=Rt t ht
   have e':C i=hb t:=e
   rw [<-e',Ea]at hx
   injection hx with hx
   injection hx with _ hx _
   exact absurd hx (by decide)
  ·exact AD hw (by simp [CX,fV])
  ·exact AD hw (by simpa using wQ.1)
  ·exact AD hw (by simpa using wQ.2.1)
  ·exact AD hw (by simpa using wQ.2.2)
  ·obtain⟨v,h1,h2,-⟩:=bs.mR s l hl
   exact⟨v,h1,h2.upd u0 (fun _ _ x=>x)⟩
  ·have hs:s<sc.length:=by rw [<-bs.len];exact(Gv.1 hv).1
   obtain⟨w,h1,h2,-⟩:=bs.mR s _ (Cl hs)
   have ez:ws[s]?=some v:=hv
   rw [ez]at h1
   obtain rfl:=D4 h1
   exact mV h2 u0 (by decide) (by decide) (by decide) (by decide)
 exact⟨E,fun _=>Iff.rfl,fun i hi=>(XB i hi).toP,X0,Rt,⟨IX (pk.upd u0 (fun _ _ x=>x)),mV pk u0 (by decide) (by decide) (by decide) (by decide)⟩,⟨old g3 (by decide) (by decide) (by decide) (by decide),g3⟩,fun i hi=>⟨old (g5 i hi) (by decide) (by decide) (by decide) (by decide),g5 i hi⟩,wy.1,Di⟩
end
end
end Go.Proofs.YtfkalocplonkiaaGreat
namespace Go.TJ
section
open Go Go.Conc
open Go.ConcN (sumTo upd sumTo_upd upd_ne upd_same)
variable{Γ:Type}
def HX(k i:Nat):Nat:=if i=0 then 0 else i+k
def EX.sh(X:EX Γ)(k:Nat):EX Γ where
 num γ:=X.num γ+k
 ch γ i:=if i=0 then X.ch γ 0 else if i<=k then none else X.ch γ (i-k)
 cells γ i:=if i=0 then X.cells γ 0 else if i<=k then fun _=>none else X.cells γ (i-k)
 R i:=if i=0 then X.R 0 else if i<=k then fun _ _=>True else X.R (i-k)
 Gf i:=if i=0 then X.Gf 0 else if i<=k then fun _ _=>True else X.Gf (i-k)
section
variable{X:EX Γ}{k i:Nat}{γ γ₁:Γ}{P:Program}
theorem Sf:(HX k i==0)=(i==0):=by
 unfold HX
 by_cases h:i=0
 ·subst h;rfl
 ·rw [if_neg h,Mg.2 h,Mg.2 (by omega)]
theorem Na{j:Nat}:HX k i=HX k j↔i=j:=by
 unfold HX
 constructor
 ·intro h
  split at h <;> split at h <;> omega
 ·rintro rfl;rfl
theorem IG(k x:Nat):(∃j,x=HX k j/\(x=0↔j=0))\/(x≠0/\x<=k):=by
 by_cases h:x=0
 ·exact .inl ⟨0,by rw [h];rfl,by simp [h]⟩
 by_cases h2:x<=k
 ·exact .inr ⟨h,h2⟩
 ·exact .inl ⟨x-k,by unfold HX;rw [if_neg (by omega)];omega,by omega⟩
theorem Lh:(X.sh k).ch γ (HX k i)=X.ch γ i:=by
 show(if HX k i=0 then X.ch γ 0 else if HX k i<=k then none else X.ch γ (HX k i-k))=_
 unfold HX
 by_cases h:i=0
 ·subst h;rfl
 ·rw [if_neg h,if_neg (by omega),if_neg (by omega),show i+k-k=i by omega]
theorem Jh:(X.sh k).cells γ (HX k i)=X.cells γ i:=by
 show(if HX k i=0 then X.cells γ 0 else if HX k i<=k then _ else X.cells γ (HX k i-k))=_
 unfold HX
 by_cases h:i=0
 ·subst h;rfl
 ·rw [if_neg h,if_neg (by omega),if_neg (by omega),show i+k-k=i by omega]
theorem jC:(X.sh k).R (HX k i)=X.R i:=by
 show(if HX k i=0 then X.R 0 else if HX k i<=k then _ else X.R (HX k i-k))=_
 unfold HX
 by_cases h:i=0
 ·subst h;rfl
 ·rw [if_neg h,if_neg (by omega),if_neg (by omega),show i+k-k=i by omega]
theorem RI:(X.sh k).Gf (HX k i)=X.Gf i:=by
 show(if HX k i=0 then X.Gf 0 else if HX k i<=k then _ else X.Gf (HX k i-k))=_
 unfold HX
 by_cases h:i=0
 ·subst h;rfl
 ·rw [if_neg h,if_neg (by omega),if_neg (by omega),show i+k-k=i by omega]
theorem IZ{x:Nat}(h0:x≠0)(hk:x<=k):(X.sh k).ch γ x=none/\(X.sh k).cells γ x=(fun _=>none)/\(X.sh k).R x=(fun _ _=>True)/\(X.sh k).Gf x=fun _ _=>True:=
 ⟨(if_neg h0).trans (if_pos hk),(if_neg h0).trans (if_pos hk),(if_neg h0).trans (if_pos hk),(if_neg h0).trans (if_pos hk)⟩
theorem rA{j:Nat}(h0:0<X.num γ)(h:j<X.num γ):HX k j<(X.sh k).num γ:=by
 show HX k j<X.num γ+k
 unfold HX
 split <;> omega
theorem VC{j:Nat}(h:HX k j<(X.sh k).num γ)(h0:0<X.num γ):j<X.num γ:=by
 change HX k j<X.num γ+k at h
 unfold HX at h
 split at h <;> omega
theorem q9(hX:X.Ok):(X.sh k).Ok:=by
 refine⟨fun x a b c h1 h2=>?_,fun x γ h c kk hc hp hk=>?_⟩
 ·rcases IG k x with⟨j,rfl,-⟩|⟨h3,h4⟩
  ·rw [jC]at h1 h2⊢;exact hX.trans _ _ _ _ h1 h2
  ·rw [(IZ (X:=X) (γ:=a) h3 h4).2.2.1];trivial
 ·rcases IG k x with⟨j,rfl,-⟩|⟨h3,h4⟩
  ·rw [Lh]at hc
   rw [RI]at hp⊢;exact hX.pass _ _ _ _ _ hc hp hk
  ·rw [(IZ (X:=X) (γ:=γ) h3 h4).2.2.2];trivial
theorem ZU(h0:0<X.num γ){a:Addr}(h:(X.sh k).still (HX k i) γ a):X.still i γ a:=by
 obtain⟨x,hx,Cg,h1,h2⟩:=h
 rcases IG k x with⟨j,rfl,-⟩|⟨h3,h4⟩
 ·rw [Lh]at h1
  rw [Jh]at h2
  exact⟨j,fun e=>hx (Na.2 e),VC Cg h0,h1,h2⟩
 ·rw [(IZ (X:=X) (γ:=γ) h3 h4).1]at h1;cases h1
theorem QJ(h0:0<X.num γ)(h:HR X i γ γ₁):HR (X.sh k) (HX k i) γ γ₁:=by
 intro x hx Cg
 rcases IG k x with⟨j,rfl,-⟩|⟨h3,h4⟩
 ·obtain⟨a,b,c⟩:=h j (fun e=>hx (Na.2 e)) (VC Cg h0)
  rw [Lh,Lh,Jh,Jh,jC]
  exact⟨a,b,c⟩
 ·obtain⟨a,b,c,-⟩:=IZ (X:=X) (γ:=γ) h3 h4
  obtain⟨a',b',-,-⟩:=IZ (X:=X) (γ:=γ₁) h3 h4
  rw [a,a',b,b',c]
  exact⟨rfl,rfl,trivial⟩
theorem Oy{P:Program}{main:Bool}{R:World->World->Prop}{D:World->World->Array Event->Prop}{Stop iB:Goroutine->World->Prop}(h:∀g w,Stop g w->iB g w):
  ∀{n:Nat} {g:Goroutine} {w:World},Goes P main R D Stop n g w->Goes P main R D iB n g w
 | 0,_,_,hg=>fun PL r=>h _ _ (hg PL r)
 | n+1,g,w,hg=>by
  rcases hg with hs|⟨hr,Dn⟩
  ·exact .inl fun PL r=>h _ _ (hs PL r)
  ·refine .inr ⟨hr,fun PL r=>?_⟩
   have:=Dn PL r
   revert this
   cases stepG P main g PL <;> simp only [GStep.goes,imp_self]
   exact fun⟨hd,hn⟩=>⟨hd,Oy h hn⟩
theorem Qf{main:Bool}{K:World->Prop}{St:Loc->Prop}{B c:Nat}{z:Value}{ok:Bool}{H H':Goroutine->Prop}(hh:∀g,H g->H' g){g BT:Goroutine}(x:AtIn P main K St B (Seat.one c z ok H) g BT):AtIn P main K St B (Seat.one c z ok H') g BT:=
 ⟨x.1,x.2.1,x.2.2.1,x.2.2.2.1,hh _ x.2.2.2.2.1,x.2.2.2.2.2⟩
theorem WO{main:Bool}{K:World->Prop}{St:Loc->Prop}{B c:Nat}{z:Value}{ok:Bool}{H H':Goroutine->Prop}(hh:∀g,H g->H' g){n:Nat}{g:Goroutine}(x:Sits P main K St B (Seat.one c z ok H) n g):Sits P main K St B (Seat.one c z ok H') n g:=by
 rcases x with⟨m,w,rfl,hg⟩|⟨rfl,qe,BT,rfl,ha⟩
 ·exact .inl ⟨m,w,rfl,Oy (fun _ _ ⟨BT,y⟩=>⟨BT,Qf hh y⟩) hg⟩
 ·exact .inr ⟨rfl,qe,BT,rfl,Qf hh ha⟩
theorem RH(h0:0<X.num γ){h:Hp}{g:Goroutine}{Y Y':Goroutine->Hp->Ix Γ->Prop}(hY:∀g h δ,Y g h δ->Y' g h δ)(s:Gy P X i γ h g Y):Gy P (X.sh k) (HX k i) γ h g Y':=by
 obtain⟨c,e1,e2,e3,e4,z,ok,B,n,e5⟩:=s
 refine⟨c,by rw [Lh];exact e1,by rw [Jh];exact e2,e3,fun x hx Cg=>?_,z,ok,B,n,fun W hW=>?_⟩
 ·rcases IG k x with⟨j,rfl,-⟩|⟨h3,h4⟩
  ·rw [Lh];exact e4 j (fun e=>hx (Na.2 e)) (VC Cg h0)
  ·rw [(IZ (X:=X) (γ:=γ) h3 h4).1];exact nofun
 ·subst hW
  rw [Jh,jC,RI,Sf]
  have:=e5 _ rfl
  exact WO (fun BT hg BK DT a b=>hY _ _ _ (hg BK DT a b)) this
theorem OU{j:Nat}(h0:∀γ,0<X.num γ){A A':Γ->Goroutine->Prop}{g:Goroutine}{h:Hp}{δ:Ix Γ}(hA:∀γ₁ a,A γ₁ a->A' γ₁ a)(x:Mj P X i j A g h δ):Mj P (X.sh k) (HX k i) (HX k j) A' g h δ:=by
 obtain⟨hd,γ₁,c,H4,M9,U8,hc,Gp,JH,Kx,YN,jf⟩:=x
 exact⟨hd,γ₁,c,H4,fun e=>M9 (Na.1 e),rA (h0 _) U8,by rw [Lh];exact hc,by rw [Sf];exact Gp,by show X.num γ₁+k=X.num δ.g+k;rw [JH],QJ (h0 _) Kx,by rw [RI];exact YN,hA _ _ jf⟩
theorem VV(h0:∀γ,0<X.num γ){main:Bool}{S S':Cp Γ}(hS:S.still=X.still i)(hS':S'.still=(X.sh k).still (HX k i)){Y:Goroutine->Hp->Ix Γ->Prop}{g:Goroutine}{h:Hp}{δ:Ix Γ}(x:Je P main S Y g h δ):Je P main S' Y g h δ:=by
 obtain⟨hr,Dn⟩:=x
 refine⟨hr,fun w hw=>?_⟩
 obtain⟨g',w',es,h1,h2,h3,h4,h5⟩:=Dn w hw
 have Qs:∀l,S'.still δ.g l->S.still δ.g l:=fun l hl=>by rw [hS];rw [hS']at hl;exact ZU (h0 _) hl
 exact⟨g',w',es,h1,h2,h3.Tz Qs,fun e he=>(h4 e he).Tz Qs,h5⟩
theorem ZV(h0:∀γ,0<X.num γ){g:Goroutine}{h:Hp}{δ:Ix Γ}(x:Dq P false (ED P X i) (MH P X i) g h δ):Dq P false (ED P (X.sh k) (HX k i)) (MH P (X.sh k) (HX k i)) g h δ:=by
 induction x with
 | stop hs=>
  refine .stop ?_
  have wZ:=OU (k:=k) h0 (A':=fun γ₁ a=>(X.sh k).ch γ₁ (HX k i)=none/\∃n,QuitsD P n 0 a) (fun γ₁ a ⟨a1,a2⟩=>⟨by rw [Lh];exact a1,a2⟩) hs
  exact wZ
 | step Y _ Dn ih=>exact .step Y ih (VV h0 rfl rfl Dn)
 | @H7 g h δ Y _ hy ih=>exact .H7 Y ih (OU (k:=k) (j:=0) h0 (A:=fun γ₁ a=>Gy P X i γ₁ h a Y) (A':=fun γ₁ a=>Gy P (X.sh k) (HX k i) γ₁ h a Y) (fun γ₁ a s=>RH (h0 _) (fun _ _ _ y=>y) s) hy)
theorem ZW(h0:∀γ,0<X.num γ){Stop:Goroutine->Hp->Ix Γ->Prop}{g:Goroutine}{h:Hp}{δ:Ix Γ}(x:Dq P true (Ez P X) Stop g h δ):Dq P true (Ez P (X.sh k)) Stop g h δ:=by
 induction x with
 | stop hs=>exact .stop hs
 | step Y _ Dn ih=>exact .step Y ih (VV (i:=0) h0 rfl rfl Dn)
 | @H7 g h δ Y _ hy ih=>
  refine .H7 Y ih ?_
  rcases hy with⟨j,hy⟩|⟨Xe,Be,γ₁,a',child,Dn,JH,Kx,hs,hx⟩
  ·exact .inl ⟨HX k j,OU (i:=0) (k:=k) h0 (fun γ₁ a s=>RH (i:=0) (h0 _) (fun _ _ _ y=>y) s) hy⟩
  ·have hi:(X.sh k).num δ.g=HX k (X.num δ.g):=by
    show X.num δ.g+k=_
    have:=h0 δ.g
    unfold HX
    rw [if_neg (by omega)]
   refine .inr ⟨Xe,Be,γ₁,a',child,Dn,by show X.num γ₁+k=X.num δ.g+k+1;omega,QJ (i:=0) (h0 _) Kx,?_,hx⟩
   rw [hi]
   exact RH (h0 _) (fun _ _ _ y=>ZV h0 y) hs
end
def V4(P:Program):Cp Nat where
 still:=fun _ _=>False
 nf g h δ Y:=δ.d=0/\∃(XM:Type) (X:EX XM) (γ:XM),X.Ok/\X.num γ=δ.g/\(∀i,i≠0->i<X.num γ->X.ch γ i=none)/\
  Dq P true (Ez P X) (fun g' h' AW=>AW.d=0/\(∀i,i≠0->i<X.num AW.g->X.ch AW.g i=none)/\Y g' h' ⟨0,X.num AW.g⟩) g h ⟨0,γ⟩
theorem lQ{P:Program}{XM:Type}{X:EX XM}(hX:X.Ok)(h0:∀γ,0<X.num γ){γ:XM}(h1:X.num γ=1){m:Nat}(hm:1<=m){f:FuncId}{args:Array Value}{h:Hp}{R:Go.TJ.Fin->Hp->Prop}(hc:AY P true (Ez P X) f args h ⟨0,γ⟩ fun r h' AW=>AW.d=0/\(∀i,i≠0->i<X.num AW.g->X.ch AW.g i=none)/\R r h'):AY P true (V4 P) f args h ⟨0,m⟩ fun r h' AW=>(AW.d=0/\1<=AW.g)/\R r h':=by
 intro kind hk cs
 obtain⟨k,rfl⟩:∃k,m=1+k:=⟨m-1,by omega⟩
 have key:∀{BK:XM},(∀i,i≠0->i<X.num BK->X.ch BK i=none)->∀i,i≠0->i<(X.sh k).num BK->(X.sh k).ch BK i=none:=fun {BK} xH i hi Cg=>by
  rcases IG k i with⟨j,rfl,hz⟩|⟨h3,h4⟩
  ·rw [Lh];exact xH j (fun e=>hi (hz.2 e)) (VC Cg (h0 _))
  ·exact(IZ (X:=X) h3 h4).1
 refine .H7 (fun g' h' AW=>Left P f kind cs (fun r h' AW=>(AW.d=0/\1<=AW.g)/\R r h') g' h' AW) (fun g' h' AW y=>.stop y) ⟨rfl,XM,X.sh k,γ,q9 hX,by show X.num γ+k=1+k;omega,key fun i hi Cg=>by omega,(ZW h0 (hc kind hk cs)).mono ?_⟩
 rintro g' h' AW ⟨a,todo,mode,fn,h1,h2,h3,⟨h5,v,h6,h7,h8,h9⟩|⟨c,h5,h7,h8,h9⟩⟩
 ·exact⟨h7,key h8,a,todo,mode,fn,h1,h2,h3,.inl ⟨h5,v,h6,⟨rfl,by show 1<=X.num AW.g+k;have:=h0 AW.g;omega⟩,h9⟩⟩
 ·exact⟨h7,key h8,a,todo,mode,fn,h1,h2,h3,.inr ⟨c,h5,⟨rfl,by show 1<=X.num AW.g+k;have:=h0 AW.g;omega⟩,h9⟩⟩
section
variable{P:Program}
theorem TT{Stop:Goroutine->Hp->Ix Nat->Prop}{g:Goroutine}{hp:Hp}{δ:Ix Nat}(H:Dq P true (V4 P) Stop g hp δ):
  ∀{I:Nat->Option Du} {T:Trace} {gs:Array Goroutine} {w:World} {q:Nat->Nat} {sl:Option (Nat×Nat)},w.heap=hp->Fr P 0 I T gs w q->(∀i,i≠0->I i=none)->gs.size=δ.g->gs[0]?=some g->Deaf T 0=δ.d->
  ∃(N:Nat) (gs':Array Goroutine) (g':Goroutine) (w':World) (F9:Option (Nat×Nat)) (T':Trace) (q':Nat->Nat) (AW:Ix Nat) (I':Nat->Option Du),
   runNT P N (crowd gs w sl) T=(.next (crowd gs' w' F9),T')/\gs'[0]?=some g'/\Fr P 0 I' T' gs' w' q'/\(∀i,i≠0->I' i=none)/\Deaf T' 0=AW.d/\FN w w'/\Stop g' w'.heap AW:=by
 induction H with
 | stop hs=>
  intro I T gs w q sl hw F hI hn hg hd
  subst hw
  exact⟨0,gs,_,w,sl,T,q,_,I,rfl,hg,F,hI,hd,FN.refl _,hs⟩
 | step Y _ Dn ih=>
  intro I T gs w q sl hw F hI hn hg hd
  subst hw
  obtain⟨N,gs',g',w',F9,T',q',AW,h1,h2,h3,h4,h5,h6,h7,h8⟩:=OT (X:=PN) (i:=0) (by rfl) (S:=V4 P) (funext fun n=>funext fun a=>propext ⟨fun x=>x.elim,fun⟨j,_,_,x,_⟩=>by cases x⟩) (sl:=sl) F (by rw [hn];exact Nf hI) hg hd Dn
  obtain⟨NM,JW,BT,Nr,Fc,KS,NH,N4,I',k1,k3,k5,k6,k7,k8,k9⟩:=ih _ _ _ h8 (sl:=F9) rfl h4 hI (by rw [h5,h2];exact hn) h3 h6
  exact⟨N+NM,JW,BT,Nr,Fc,KS,NH,N4,I',runNT_then h1 k1,k3,k5,k6,k7,h7.trans k8,k9⟩
 | @H7 g hp δ Y _ hY ih=>
  intro I T gs w q sl hw F hI hn hg hd
  subst hw
  obtain⟨Xe,XM,X,γ,hX,e1,e2,Be⟩:=hY
  obtain⟨N,gs',g',w',F9,T',q',AW,I',h1,h2,h3,h4,h5,h6,h7,h8,h9⟩:=dm hX Be (sl:=sl) rfl F ⟨by rw [e1,hn],fun i hi Cg=>by rw [hI i hi,e2 i hi (by rw [e1,<-hn];exact Cg)];rfl,fun i W hi e=>(by rw [hI i hi]at e;cases e),fun i W hi _ e=>(by rw [hI i hi]at e;cases e)⟩ hg (hd.trans Xe)
  obtain⟨NM,JW,BT,Nr,Fc,KS,NH,N4,qs,k1,k3,k5,k6,k7,k8,k9⟩:=ih _ _ _ h9 (sl:=F9) rfl h3 (ki h3 h4 h8) h4.num.symm h2 (h5.trans h7)
  exact⟨N+NM,JW,BT,Nr,Fc,KS,NH,N4,qs,runNT_then h1 k1,k3,k5,k6,k7,h6.trans k8,k9⟩
theorem dH{f:FuncId}{args:Array Value}{W:World}{R:Value->Hp->Prop}(jZ:P.inits.idxOf? f=none)
  (hc:AY P true (V4 P) f args W.heap ⟨0,1⟩ fun
   | .ret v,h',AW=>AW.d=0/\R v h'
   | .Rh _,_,_=>False):
  ∃M last o w' t',runNT P (M+1) (solo (G (Frame.enter P f args .normal) []) W) #[]=(.ended o w',t')/\runN P M (solo (G (Frame.enter P f args .normal) []) W)= .next last/\step P last= .ended o w'/\
   Conc.Good P (fun v W'=>R v W'.heap/\FN W W') last o w' t':=by
 obtain⟨N,gs,g',w,sl,T,q,δ,I,hr,hg,F,hI,hd,hs,a,todo,mode,fn,rfl,hda,hf,ja⟩:=TT (hc .normal (by simp) []) (sl:=none) (w:=W) rfl (lD P _ W) (fun i _=>rfl) rfl rfl rfl
 rcases ja with⟨rfl,v,hv,Xe,hR⟩|⟨_,_,hp⟩
 ·obtain⟨NM,JW,d,d',Fc,YE,KS,NH,fu,Dn,Ey,rn,X8,ABy⟩:=F.picked (sl:=sl) hg rfl
  obtain⟨es,Be,Qm⟩:=hv (w.at d') rfl
  have ja:=US (w:=w.at d') (todo:=todo) hda hf jZ Be
  have Po:=runT_many_ended (P:=P) (sl:=YE) (i:=0) rn ja
  have Gt:∀op∈MemOp.ofEvents 0 f (G {(fb f .normal).at a todo with mode:=.returning} []).frame.place (seen P f es),op.g=0:=fun op G6=>by obtain⟨e,_,rfl⟩:=Go.Conc.mem_ofEvents G6;rfl
  have hTr:Tr 0 (Nv 0 I) (PQ I) (KS++MemOp.ofEvents 0 f (G {(fb f .normal).at a todo with mode:=.returning} []).frame.place (seen P f es)):=
   X8.tr.own (fun x=>x.1 rfl) Gt fun op G6 b hb g Vw hS=>by
    have:=Vw.2
    rw [hI g Vw.1]at this
    cases this
  refine⟨N+NM,_,.done v,w.at d',_,O6 (runNT_then hr fu) (Dn.trans Po),Kl _ _ _ _ _ (runNT_then hr fu),?_,v,rfl,⟨hR,hs.trans (Nb w d')⟩,hTr.clean,dE hTr hI,⟨fun x hx=>?_,rfl⟩,fun j x hx hj=>?_⟩
  ·rw [step,Dn,Po]
  ·obtain⟨j,hj⟩:=List.mem_iff_getElem?.1 hx
   rw [List.getElem?_drop]at hj
   have CI:=X8.idle (1+j) x (by omega) (by simpa [crowd]using hj)
   rw [hI _ (by omega)]at CI
   exact⟨_,CI.2.leaves⟩
  ·have CI:=X8.idle j x hj hx
   rw [hI j hj]at CI
   refine⟨NH j,?_⟩
   have e:(KS++MemOp.ofEvents 0 f (G {(fb f .normal).at a todo with mode:=.returning} []).frame.place (seen P f es)).deaf j (KS++MemOp.ofEvents 0 f (G {(fb f .normal).at a todo with mode:=.returning} []).frame.place (seen P f es)).size=Deaf KS j:=
    Deaf_other KS (g:=j) (g':=0) (Ne.symm hj) _ Gt
   rw [show(G {(fb f .normal).at a todo with mode:=.returning} []).frame.fn=f from rfl,e]
   exact CI.2.hears _
 ·exact hp.elim
end
end
end Go.TJ
namespace Go.Proofs.YtfkalocplonkiaaGreat
section
open Go Go.TJ Go.Conc Go.Proofs
section
variable{d:CD}{x:ao}{b3:Nat}{b5:Nat->Nat}{bv kS:Value}{AZ:List Int}
theorem Z1(P:qu d x b3 b5 bv kS AZ){most:Int}{m:Nat}(hm:1<=m)(w7:0<=most)(uJ:most<=65536):
  AY Tryz.prog true (V4 Tryz.prog) 22 #[kS,.int .i64 most,bv] d.hN ⟨0,m⟩ (CJ fun v h' AW=>(AW.d=0/\1<=AW.g)/\∃(p:PS (XC d).U) (e:Int) (lL lW lY lV:Value),v= .agg (Cj e p.log.length lL lW lY lV).toArray/\EZ (XC d) (fun _=>0) AZ d.c.nT most.toNat p e lL lW lY lV h'/\d.hN.size<=h'.size):=by
 have ok:=P.E.ok
 have hX:(XC d).Ok:=G1 ok
 have hnD:∀c,(XC d).HE (pP d.c) c->d.base c:=fun c hc=>by
  rcases hc with y|⟨-,⟨t,-,y⟩|⟨q,hq,-⟩⟩
  ·exact y
  ·cases y
  ·cases hq
 have hI0:VB d xj d.hN:=⟨fun _ _=>rfl,P.Jx,P.IM,fun _ _=>AR.nil,fun _ h=>(by cases h),fun _ _ _ h=>(by cases h),fun _ h=>(by cases h),fun _ _ _ h=>(by cases h),fun _ _ _ _ _ _ h=>(by cases h)⟩
 have hlen:(Kc b3 b5 d.c.nT).length=d.c.nT:=by simp
 have Be:=yK (X:=XC d) (γ:=⟨mS 0 0 (fun _=>0) (pP d.c),mS 0 0 (fun _=>0) (pP d.c),d.hN,fun _=>False,0⟩) (h:=d.hN) hX (v0:=fun _=>0) (u0:=pP d.c) (AZ:=AZ) (m:=most) (Di:=Kc b3 b5 d.c.nT) (sP:=kS) (sB:=bv) rfl w7 uJ
  (fun b hb=>P.Fu b hb) (fun b hb=>(hnD b hb).1) hI0 (xj0 d) (fun i=>⟨rfl,rfl,rfl⟩) (by rw [hlen];exact ok.nT) (by rw [hlen];exact P.Di)
  (fun c hc=>⟨fun z=>Ac P.Di (P.Fu c z) (by decide) c hc rfl,fun hd=>(hnD c hd).2.2 ((P.ex c).2 hc)⟩)
  (fun u h' I _=>P.pk.1.Tn fun b DN=>VB.old (show VB d (CV.toCU u) h' from I) b (P.pk.2 b DN))
  (fun k q hq=>by
   have hk:k<d.c.nT:=by
    have:=(Gv.1 hq).1
    rwa [hlen]at this
   rw [EQ,List.getElem?_range hk]at hq
   obtain rfl:=D4 hq
   exact⟨inferInstance,sJ P.E P.h3 (P.h5 k hk) hk (F0 hk P.th)⟩)
 refine(lQ (rE hX) (fun _=>Nat.succ_pos _) rfl hm (R:=fun r h'=>match r with
  | .ret v=>∃(p:PS (XC d).U) (e:Int) (lL lW lY lV:Value),v= .agg (Cj e p.log.length lL lW lY lV).toArray/\EZ (XC d) (fun _=>0) AZ d.c.nT most.toNat p e lL lW lY lV h'/\d.hN.size<=h'.size
  | .Rh _=>False) (Be.mono ?_)).mono ?_
 ·rintro(v|ps) h' AW y
  ·obtain⟨Ae,p,er,lL,lW,lY,lV,rfl,h1,h2,rfl,En,up⟩:=y
   have En':EZ (XC d) (fun _=>0) AZ d.c.nT most.toNat p er lL lW lY lV h':=hlen▸En
   exact⟨rfl,h2,p,er,lL,lW,lY,lV,rfl,En',up.size⟩
  ·exact y.elim
 ·rintro(v|ps) h' AW y
  ·exact y
  ·exact y.2.elim
end
theorem NW.tZ{h0 h:Hp}{pl:List Value}{W nK nC:Nat}{hb K C:Nat->Nat}{B:Nat->Nat->Nat}{Hs Ks Cs:Value}(N:NW h0 h pl W nK nC hb K C B Hs Ks Cs){bv:Value}{sc:List (List BH)}{nT:Nat}{hN:Hp}(mz:∀b,blk bv=some b->h0.size<=b){b:Nat}(Cg:b<h0.size)(hs:h0.size<=hN.size):(NJ sc nC nK nT W C B K hN bv hb).old b:=by
 obtain⟨l1,l2,l3,l4,-⟩:=N.lo
 refine⟨⟨F0 Cg hs,fun hc=>?_,fun he=>?_⟩,fun i hi e=>?_,fun t ht e=>?_⟩
 ·rcases hc with⟨i,j,hi,hj,e⟩|⟨k,hk,e⟩
  ·have:=(l4 i hi).2 j hj
   have e':b=B i j:=e
   omega
  ·have:=l3 k hk
   have e':b=K k:=e
   omega
 ·have:=mz b he;omega
 ·have:=(l4 i hi).1
  have e':b=C i:=e
  omega
 ·have:=l2 t
  have e':b=hb t:=e
  omega
structure X5(h h':Hp)(XH:Value)(sc:List (List BH))(nC nK nT most:Nat)(AZ:List Int)(d:CD)(p:PS (XC d).U)(e:Int)(lL lW lY lV lv:Value):Prop where
 up:AN (fun _=>False) h h'
 c:d.c.sc=sc/\d.c.nC=nC/\d.c.nK=nK/\d.c.nT=nT
 ok:d.Ok
 LY:∀i j,i<d.c.nK->j<d.c.nK->d.c.K i=d.c.K j->i=j
 E:∃hE,EZ (XC d) (fun _=>0) AZ d.c.nT most p e lL lW lY lV hE
 rm:HB (Li p (fun _=>0) d.c.nT most e) AZ lL lW lY lV XH h'
 lv:AR h' lv 73 1 64 ((List.range 64).map (CU.tv (CV.toCU p.u)))
 L9:∀t,t<64->AR h' (CU.tv (CV.toCU p.u) t) 89 6 (CU.told (CV.toCU p.u) t).length ((CU.told (CV.toCU p.u) t).flatMap Ex)
 kept:∀q,q∈CU.kept (CV.toCU p.u)->h'[q.1]?=some q.2
theorem Vf{lo m:Nat}{h:Hp}{f:Nat->Value}{V:Value}{ws:List Value}{sc:List (List BH)}{nT nC nK tu:Nat}{AZ:List Int}(hm:1<=m)(bs:BS lo h V ws sc)(fV:f 0=V)(f1:f 1= .int .i64 nT)(f2:f 2= .int .i64 tu)(f4:f 4= .int .i64 nC)(f5:f 5= .int .i64 0)(f6:f 6= .int .i64 nK)(pk:AR h (f 3) 3 1 AZ.length (AZ.map iV))(KI:sc.length<=16)(Mz:nT<=sc.length/\nT<=6)(bK:tu<8192)(XY:nC<=3)(bZ:nK<=3):
  AY Tryz.prog true (V4 Tryz.prog) 7 #[.agg (CX f).toArray] h ⟨0,m⟩ (CJ fun v h' AW=>(AW.d=0/\1<=AW.g)/\∃(d:CD) (p:PS (XC d).U) (e:Int) (lL lW lY lV lv:Value),v= .tuple #[.agg (Cj e p.log.length lL lW lY lV).toArray,lv]/\X5 h h' (f 3) sc nC nK nT tu AZ d p e lL lW lY lV lv):=by
 have no:∀a,¬(V4 Tryz.prog).still m a:=fun a x=>x
 have Qk:CX f=[V,.int .i64 nT,.int .i64 tu,f 3,.int .i64 nC,.int .i64 0,.int .i64 nK,f 7,f 8,f 9,f 10,f 11,f 12]:=by
  unfold CX;rw [fV,f1,f2,f4,f5,f6]
 obtain⟨bx,ib⟩:∃bx,bx=h.size:=⟨_,rfl⟩
 obtain⟨b2,XD⟩:∃bx,bx=(h.push (GL f)).size:=⟨_,rfl⟩
 refine CK (n:=53) ?_
 refine AI ?_
 refine AH ?_
 refine DO ?_
 refine Cn ?_
 refine A6 (fun h'=>AN (fun _=>False) h h'/\h'[bx]?=some (GL f)/\∃c:List Value,c.length=7/\h'[b2]?=some (.cells c.toArray 32 (0,0))) ⟨(AN.push _ _).trans (AN.push _ _),by rw [ib];exact Ao _ (AG _ _),[.int .i8 0,.int .i64 0,AK,AK,AK,AK,AK],rfl,by rw [XD];exact AG _ _⟩ ?_
 rw [<-XD,<-ib]
 have AFd:h.size<=bx:=by omega
 have zN:h.size<=b2:=by rw [XD,CH];omega
 rintro h3 ⟨tT,gx,c7,l7,g2⟩
 clear ib XD
 replace bs:=bs.upd tT fun _ _ _ z=>z
 replace pk:=pk.upd tT fun _ _ z=>z
 repeat(first|refine AI ?_|refine AH ?_|refine AE ?_|refine Aq ?_)
 refine C5 (vs:=CX f) rfl (GX gx) ?_
 refine BV rfl ((Wv (Γ:=Nat) (main:=true) (δ:=⟨0,m⟩) Qk (by omega) (by omega)).mX no) ?_
 rintro _ h4 MC ⟨rfl,W,hb,K,C,B,Hs,Ks,Cs,rfl,N⟩
 have gx4:=N.up.get gx (fun x=>x)
 have g24:=N.up.get g2 (fun x=>x)
 have uu4:=tT.trans N.up
 have lx:=Ap gx
 have l2:=Ap g2
 (repeat refine OB rfl rfl ?_)
 refine OR rfl rfl rfl rfl ⟨nofun,nofun⟩ (no _) ?_
 obtain⟨b3,nE⟩:∃b3,b3=h4.size:=⟨_,rfl⟩
 refine A6 (fun h'=>AN (fun _=>False) h4 h'/\h'[b3]?=some (.cells #[ptr W] 59 (0,0))) ⟨AN.push _ _,by rw [nE];exact AG _ _⟩ ?_
 rw [<-nE]
 rintro h5 ⟨u5,g3⟩
 repeat(first|refine AI ?_|refine AH ?_|refine AE ?_|refine Aq ?_|refine OB rfl rfl ?_)
 refine OR rfl rfl rfl rfl ⟨nofun,nofun⟩ (no _) ?_
 obtain⟨y5,XS⟩:∃y,y=h5.size:=⟨_,rfl⟩
 refine A6 (fun h'=>AN (fun _=>False) h5 h'/\h'[y5]?=some (.cells #[.int .i64 0] 3 (0,0))) ⟨AN.push _ _,by rw [XS];exact AG _ _⟩ ?_
 rw [<-XS]
 rintro h6 ⟨u6,g5⟩
 have yE:=u5.size
 (repeat refine AE ?_)
 refine F3 (fun q:Value×(Nat->Nat)=>[(5,q.1),(4,ptr b3),(1,ptr bx),(2,ptr b2)]) (fun q h' AW=>AW=⟨0,m⟩/\AN (fun _=>False) h5 h'/\AR h' q.1 49 1 nT ((Kc b3 q.2 nT).map fun q=>.func (.func q.1) #[] q.2)/\(∀b,blk q.1=some b->h4.size<=b)/\∀k,k<nT->h'[q.2 k]?=some (.cells #[.int .i64 k] 3 (0,0))) (fun _ key=>?_) ?_
 ·(repeat refine Ak ?_)
  refine B1 (fun q:Nat×Nat×Value×(Nat->Nat)=>[(6,ptr q.2.1),(5,q.2.2.1),(4,ptr b3),(1,ptr bx),(2,ptr b2)]) (fun q h' AW=>AW=⟨0,m⟩/\q.1<=nT/\AN (fun _=>False) h5 h'/\h5.size<=q.2.1/\h'[q.2.1]?=some (.cells #[.int .i64 q.1] 3 (0,0))/\AR h' q.2.2.1 49 1 q.1 ((Kc b3 q.2.2.2 q.1).map fun q=>.func (.func q.1) #[] q.2)/\(∀b,blk q.2.2.1=some b->h5.size<=b)/\∀k,k<q.1->h5.size<=q.2.2.2 k/\q.2.2.2 k≠q.2.1/\h'[q.2.2.2 k]?=some (.cells #[.int .i64 k] 3 (0,0))) (fun q=>nT-q.1) (0,y5,AK,fun _=>0) ⟨rfl,rfl,rfl,rfl,rfl,trivial⟩ ⟨rfl,Nat.zero_le _,u6,by dsimp only;omega,g5,AR.nil,fun b e=>(by cases e),fun k hk=>by omega⟩ ?_
  clear u6 g5 XS y5 h6
  rintro⟨i,y5,bv,b5⟩ h6 TW ⟨DL,hi,u6,XS,g5,iJ,ir,W8⟩ again
  dsimp only at DL hi u6 XS g5 iJ ir W8 again⊢
  obtain rfl:=DL
  have c5:AF h6 ⟨y5,0,none⟩=some (.int .i64 i):=AD g5 rfl
  have c1:=EI (i:=1) (u6.get (u5.get gx4 (fun x=>x)) (fun x=>x)) (by omega)
  rw [f1]at c1
  by_cases CO:i<nT
  case neg=>
   obtain rfl:i=nT:=by omega
   repeat(first|refine AI ?_|refine AH ?_|refine AE ?_|refine Az ?_|refine Df ?_|refine Bg ?_|refine Am ?_|refine B8 ?_|refine Av rfl (by assumption) ?_)
   exact Ah (key (bv,b5) _ _ ⟨rfl,u6,iJ,fun b hb=>by have:=ir b hb;omega,fun k hk=>(W8 k hk).2.2⟩) ⟨rfl,rfl,rfl,rfl,trivial⟩
  repeat(first|refine AI ?_|refine AH ?_|refine AE ?_|refine Ar ?_|refine Ak ?_|refine AV ?_|refine Az ?_|refine Df ?_|refine Bs ?_|refine BU ?_|refine Av rfl (by assumption) ?_)
  refine SN (fv:=#[]) (cv:=#[ptr b3,ptr y5]) rfl rfl (fun ρ Aa=>⟨C4 Aa (vs:=[]) rfl,C4 Aa (vs:=[ptr b3,ptr y5]) rfl⟩) ?_
  refine Fv (sz:=1) (z:=.nilFunc) (cells:=#[.func (.func 20) #[] #[ptr b3,ptr y5]]) ?_
  have uP:AN (fun _=>False) h6 (h6.push (.cells #[.func (.func 20) #[] #[ptr b3,ptr y5]] 49 (0,0))):=AN.push _ _
  refine D9 (new:=[.func (.func 20) #[] #[ptr b3,ptr y5]]) rfl rfl rfl rfl (iJ.upd uP (fun _ _ x=>x)) (AG _ _) rfl (by simp [OneCell]) (by omega) (by omega) rfl (fun _ _ _=>no _) ?_
  intro s' h7 XQ u7 Vy
  have Wz:AN (fun b=>blk bv=some b) h6 h7:=(uP.mono fun _ _ x=>x.elim).trans u7
  have nb:∀{y:Nat} {k:Int},h6[y]?=some (.cells #[.int .i64 k] 3 (0,0))->blk bv≠some y:=fun {y k} g e=>Ac iJ g (by decide) _ e rfl
  have xU:=Wz.get g5 (nb g5)
  have c57:AF h7 ⟨y5,0,none⟩=some (.int .i64 i):=AD xU rfl
  have u57:AN (fun _=>False) h5 h7:=u6.over Wz fun b hb=>ir b hb
  have hk7:∀k,k<i->h7[b5 k]?=some (.cells #[.int .i64 k] 3 (0,0)):=fun k hk=>Wz.get (W8 k hk).2.2 (nb (W8 k hk).2.2)
  have fr7:∀b,blk s'=some b->h5.size<=b:=fun b hb=>by
   rcases Vy b hb with x|x
   ·exact ir b x
   ·have:=u6.size
    rw [x,CH];omega
  have pn:AR h7 s' 49 1 (i+1) ((Kc b3 (ut b5 i y5) (i+1)).map fun q=>.func (.func q.1) #[] q.2):=by
   have e:(Kc b3 (ut b5 i y5) (i+1)).map (fun q=>Value.func (.func q.1) #[] q.2)=(Kc b3 b5 i).map (fun q=>Value.func (.func q.1) #[] q.2)++[.func (.func 20) #[] #[ptr b3,ptr y5]]:=by
    unfold Kc
    rw [List.range_succ,EF,EF]
    congr 1
    ·rw [List.map_map,List.map_map]
     refine QC fun k hk=>?_
     have:k≠i:=by have:=Iv.1 hk;omega
     simp [Ai _ _ this]
    ·simp [AL]
   rw [e];exact XQ
  have h57:=Ap xU
  clear c5 c1 g5 XQ Vy uP u7 Wz nb
  repeat(first|refine AI ?_|refine AH ?_|refine AE ?_|refine Bb ?_|refine Aq ?_|refine Df ?_|refine OB rfl rfl ?_)
  refine OR rfl rfl rfl rfl ⟨nofun,nofun⟩ (no _) ?_
  obtain⟨y6,Rr⟩:∃y,y=h7.size:=⟨_,rfl⟩
  refine A6 (fun h'=>AN (fun _=>False) h7 h'/\h'[y6]?=some (.cells #[.int .i64 i] 3 (0,0))) ⟨AN.push _ _,by rw [Rr];exact AG _ _⟩ ?_
  rw [<-Rr]
  rintro h8 ⟨u8,g6⟩
  have c6:AF h8 ⟨y6,0,none⟩=some (.int .i64 i):=AD g6 rfl
  repeat(first|refine AH ?_|refine AE ?_|refine Df ?_|refine BR (kd:=.i64) rfl (i64_in (by omega) (by omega)) ?_)
  refine CS rfl (by simp [OneCell]) ⟨_,c6⟩ (AS g6) (no _) ?_
  rw [As g6]
  change ER _ _ _ _ _ _ _ _ _ _ (h8.setIfInBounds y6 (.cells #[.int .i64 ((i:Int)+1)] 3 (0,0))) _ _
  have u9:AN (fun b=>b=y6) h7 (h8.setIfInBounds y6 (.cells #[.int .i64 ((i:Int)+1)] 3 (0,0))):=(u8.mono fun _ _ x=>x.elim).trans (AN.set _ _ _ rfl)
  have s57:=u57.size
  (repeat refine AE ?_)
  refine Ah (again (i+1,y6,s',ut b5 i y5) _ _ (by dsimp only;omega) ⟨rfl,by dsimp only;omega,u57.over u9 fun b e=>by have e':b=y6:=e;omega,by dsimp only;omega,AJ g6,pn.upd u9 fun b hb e=>by have e':b=y6:=e;have:=pn.lt hb;omega,fr7,fun k hk=>?_⟩) ⟨rfl,rfl,rfl,rfl,rfl,trivial⟩
  dsimp only
  by_cases e:k=i
  ·subst e
   rw [AL]
   exact⟨XS,by omega,u9.get xU (by show ¬y5=y6;omega)⟩
  ·rw [Ai _ _ e]
   have Dh:=hk7 k (by omega)
   have:=Ap Dh
   exact⟨(W8 k (by omega)).1,by omega,u9.get Dh (by show ¬b5 k=y6;omega)⟩
 clear g5 u6 XS h6 y5
 rintro⟨bv,b5⟩ h6 TW ⟨DL,mP,iJ,ir,W8⟩
 dsimp only at DL mP iJ ir W8⊢
 obtain rfl:=DL
 have nj:=u5.trans mP
 have P:=di (K:=K) (nK:=nK) N nj bs fV pk (by omega) ⟨by omega,by omega⟩ (mP.get g3 (fun x=>x)) W8 iJ
 have AFF:=N.up.size
 have AFE:=nj.size
 have low:∀b,b<h3.size->(NJ sc nC nK nT W C B K h6 bv hb).old b:=fun b hl=>N.tZ (fun b' DN=>by have:=ir b' DN;omega) hl (by omega)
 have vO:=uu4.trans nj
 have nM:=nj.get gx4 (fun x=>x)
 have g26:=nj.get g24 (fun x=>x)
 have c3:=EI (i:=3) nM (by omega)
 have c2:=EI (i:=2) nM (by omega)
 rw [f2]at c2
 have Be:=Z1 (m:=m) P hm (most:=tu) (by omega) (by omega)
 change AY Tryz.prog true (V4 Tryz.prog) 22 #[f 3,.int .i64 (tu:Int),bv] h6 ⟨0,m⟩ _ at Be
 have gW:∃r,r=GL f/\h6[bx]?=some r:=⟨_,rfl,nM⟩
 clear g3 u5 mP yE nM
 repeat(first|refine AI ?_|refine AH ?_|refine AV ?_|refine Az ?_|refine Av rfl (by assumption) ?_)
 refine BV rfl Be ?_
 rintro _ h7 ⟨d7,m2⟩ ⟨⟨hd7,aS⟩,p,e,lL,lW,lY,lV,rfl,E,sz7⟩
 obtain rfl:d7=0:=hd7
 change 1<=m2 at aS
 rw [Int.toNat_natCast]at E
 obtain⟨aL,kL,eL⟩:=E.log.val
 obtain⟨aW,kW,eW⟩:=E.Ax.val
 obtain⟨aY,kY,eY⟩:=E.Da.val
 obtain⟨aV,kV,eV⟩:=E.left.val
 clear Be c2 c3
 have I7:VB (NJ sc nC nK nT W C B K h6 bv hb) (CV.toCU p.u) h7:=E.I
 have hold:∀b,(NJ sc nC nK nT W C B K h6 bv hb).old b->h7[b]?=h6[b]?:=I7.old
 have N7:=P.E.now hold
 have yD:h6.size<=h7.size:=sz7
 have gx7:∃r,r=GL f/\h7[bx]?=some r:=by
  obtain⟨r,er,nM⟩:=gW
  exact⟨r,er,(hold bx (low bx lx)).trans nM⟩
 have g27:=(hold b2 (low b2 l2)).trans g26
 have g37:=(hold b3 P.h3.1).trans P.h3.2
 have uu7:AN (fun _=>False) h h7:=⟨by have:=vO.size;omega,fun b DN _=>(hold b (low b (by have:=tT.size;omega))).trans (vO.same b DN (fun x=>x))⟩
 have mY:∀a,¬(V4 Tryz.prog).still m2 a:=fun a x=>x
 have gG:∀v∈Cj e p.log.length lL lW lY lV,OneCell v:=by
  rw [eL,eW,eY,eV];simp [OneCell]
 clear gW vO aL kL eL aW kW eW aY kY eY aV kV eV
 (repeat refine Cn ?_)
 refine Bz (vs:=Cj e p.log.length lL lW lY lV) rfl rfl gG (fun j hj=>⟨?_,AS (AG _ _),mY _⟩) ?_
 ·have Dm:j<7:=hj
  rcases (show j=0\/j=1\/j=2\/j=3\/j=4\/j=5\/j=6 by omega)with rfl|rfl|rfl|rfl|rfl|rfl|rfl <;> exact⟨_,AD (AG _ _) rfl⟩
 rw [Bw (c:=[.int .i8 0,.int .i64 0,AK,AK,AK,AK,AK]) (vs:=Cj e p.log.length lL lW lY lV) rfl]
 obtain⟨rB,mo⟩:∃rB,rB=h7.size:=⟨_,rfl⟩
 refine A6 (fun h'=>AN (fun _=>False) h7 h'/\h'[rB]?=some (.cells (Cj e p.log.length lL lW lY lV).toArray 32 (0,0))) ⟨AN.push _ _,by rw [mo];exact AG _ _⟩ ?_
 rw [<-mo]
 rintro h8 ⟨u8,gr⟩
 obtain⟨Ha,Hk,eH⟩:∃a k,Hs= .slice a 64 k:=by
  obtain⟨a,k,e⟩:=N7.H.val
  exact⟨a,k,by simpa using e⟩
 repeat(first|refine AI ?_|refine AH ?_|refine AE ?_|refine Aq ?_)
 refine F3 (fun q:Value=>[(8,q),(7,ptr rB),(2,ptr b2)]) (fun q h' AW=>AW=⟨0,m2⟩/\AN (fun _=>False) h8 h'/\AR h' q 73 1 64 ((List.range 64).map (CU.tv (CV.toCU p.u)))/\∀b,blk q=some b->h8.size<=b) (fun _ key=>?_) ?_
 ·(repeat refine Ak ?_)
  refine B1 (fun q:Nat×Value=>[(9,.int .i64 q.1),(8,q.2),(7,ptr rB),(4,ptr b3),(2,ptr b2)]) (fun q h' AW=>AW=⟨0,m2⟩/\q.1<=64/\AN (fun _=>False) h8 h'/\AR h' q.2 73 1 q.1 ((List.range q.1).map (CU.tv (CV.toCU p.u)))/\∀b,blk q.2=some b->h8.size<=b) (fun q=>64-q.1) (0,AK) ⟨rfl,rfl,rfl,rfl,rfl,trivial⟩ ⟨rfl,Bv _,AN.refl _ _,AR.nil,fun b e=>(by cases e)⟩ ?_
  rintro⟨i,tl⟩ h9 Vp ⟨DL,hi,u9,slt,pL⟩ again
  dsimp only at DL hi u9 slt pL again⊢
  obtain rfl:=DL
  have U6:=u8.trans u9
  have c3:AF h9 ⟨b3,0,none⟩=some (ptr W):=AD (U6.get g37 (fun x=>x)) rfl
  have Rm:AF h9 ⟨W,13,none⟩=some Hs:=U6.AF N7.w.2.1 (fun x=>x)
  by_cases ba:i<64
  ·obtain⟨b,o,k,e,hc⟩:=(N7.H.upd U6 (fun _ _ _ x=>x)).cell i (ptr (hb i)) (by rw [EQ,List.getElem?_range ba];rfl)
   have e':Hs= .slice (some ⟨b,o,none⟩) 64 k:=by simpa using e
   rw [e']at Rm
   have chi:AF h9 ⟨hb i,2,none⟩=some (CU.tv (CV.toCU p.u) i):=U6.AF (AD (I7.IM i ba) rfl) (fun x=>x)
   obtain⟨av,kv,ev⟩:=(I7.sl i ba).val
   rw [ev]at chi
   clear e
   repeat(first|refine AI ?_|refine AH ?_|refine AE ?_|refine Ar ?_|refine Ak ?_|refine AV ?_|refine Bc ?_|refine Az ?_|refine Bs ?_|refine BN ?_|refine Cd ?_|refine BU ?_|refine Av rfl (by assumption) ?_)
   refine Fv (sz:=1) (z:=AK) (cells:=#[.slice av (CU.told (CV.toCU p.u) i).length kv]) ?_
   have uP:AN (fun _=>False) h9 (h9.push (.cells #[.slice av (CU.told (CV.toCU p.u) i).length kv] 73 (0,0))):=AN.push _ _
   refine D9 (new:=[.slice av (CU.told (CV.toCU p.u) i).length kv]) rfl rfl rfl rfl (slt.upd uP (fun _ _ x=>x)) (AG _ _) rfl (by simp [OneCell]) (by omega) (by omega) rfl (fun _ _ _=>mY _) ?_
   intro s' Gq yF iI zO
   have yB:AN (fun _=>False) h8 Gq:=u9.over ((uP.mono fun _ _ x=>x.elim).trans iI) fun b hb=>pL b hb
   have qz:AR Gq s' 73 1 (i+1) ((List.range (i+1)).map (CU.tv (CV.toCU p.u))):=by
    rw [List.range_succ,EF,List.map_singleton,ev];exact yF
   have s89:=u9.size
   clear slt c3 Rm hc chi
   repeat(first|refine AH ?_|refine AE ?_|refine Bb ?_|refine AV ?_|refine Aq ?_|refine BR (kd:=.i64) rfl (i64_in (by omega) (by omega)) ?_)
   exact Ah (again (i+1,s') _ _ (by dsimp only;omega) ⟨rfl,by dsimp only;omega,yB,qz,fun b hb=>by
    rcases zO b hb with x|x
    ·exact pL b x
    ·rw [x,CH];omega⟩) ⟨rfl,rfl,rfl,rfl,rfl,trivial⟩
  ·obtain rfl:i=64:=by omega
   rw [eH]at Rm
   repeat(first|refine AI ?_|refine AH ?_|refine AE ?_|refine AV ?_|refine Bc ?_|refine Az ?_|refine Bg ?_|refine BN ?_|refine Am ?_|refine B8 ?_|refine Av rfl (by assumption) ?_)
   exact Ah (key tl _ _ ⟨rfl,u9,slt,pL⟩) ⟨rfl,rfl,rfl,trivial⟩
 rintro tl h9 Vp ⟨DL,u9,slt,pL⟩
 obtain rfl:=DL
 have U6:=u8.trans u9
 have gr9:=u9.get gr (fun x=>x)
 have uq:=U6.get g27 (fun x=>x)
 have uu9:=uu7.trans U6
 have pk7:Hh h7 (f 3) (AZ.map fun x=>.int .i64 x):=P.pk.1.Tn fun b DN=>hold b (P.pk.2 b DN)
 have rm7:=E.mem pk7
 have uz:AN (fun b=>b=b2) h9 (h9.setIfInBounds b2 (.cells (Cj e p.log.length lL lW lY lV).toArray 32 (0,0))):=AN.set _ _ _ rfl
 have uf:AN (fun b=>b=b2) h7 (h9.setIfInBounds b2 (.cells (Cj e p.log.length lL lW lY lV).toArray 32 (0,0))):=(U6.mono fun _ _ x=>x.elim).trans uz
 have mZ:∀{s:Value} {t sz n:Nat} {cells:List Value},AR h9 s t sz n cells->t≠32->AR (h9.setIfInBounds b2 (.cells (Cj e p.log.length lL lW lY lV).toArray 32 (0,0))) s t sz n cells:=fun {s t sz n cells} x ht=>x.upd uz fun b hb e=>Ac x uq ht b hb e
 have nq:∀b,(NJ sc nC nK nT W C B K h6 bv hb).old b->b≠b2->(h9.setIfInBounds b2 (.cells (Cj e p.log.length lL lW lY lV).toArray 32 (0,0)))[b]?=h7[b]?:=fun b ho B7=>by
  rw [AX _ (Ne.symm B7)]
  exact U6.2 b (by have:=ho.1.1;exact F0 this yD) (fun x=>x)
 have tV:=rm7.upd U6
 repeat(first|refine AI ?_|refine AH ?_)
 refine C5 (vs:=Cj e p.log.length lL lW lY lV) rfl (C0 (by exact gr9)) ?_
 (repeat refine AV ?_)
 refine Bz (vs:=Cj e p.log.length lL lW lY lV) rfl rfl gG (A3 (c:=c7) uq l7 (fun _=>mY _)) ?_
 rw [Au (c:=c7) (vs:=Cj e p.log.length lL lW lY lV) uq l7]
 repeat(first|refine AE ?_|refine Aq ?_|refine AQ ?_)
 refine Ll (vs:=Cj e p.log.length lL lW lY lV) rfl rfl rfl (C0 (by exact AJ uq)) rfl ⟨⟨rfl,aS⟩,_,p,e,lL,lW,lY,lV,tl,rfl,?_⟩
 refine⟨uu9.over uz fun b hb=>by rw [hb];exact zN,⟨rfl,rfl,rfl,rfl⟩,P.E.ok,N.Ki,⟨h7,E⟩,⟨mZ tV.log (by decide),mZ tV.Ax (by decide),mZ tV.Da (by decide),mZ tV.left (by decide),?_⟩,mZ slt (by decide),fun t ht=>mZ ((I7.sl t ht).upd U6 (fun _ _ x=>x)) (by decide),fun q hq=>?_⟩
 ·refine P.pk.1.Tn fun b DN=>?_
  rw [nq b (P.pk.2 b DN) (fun e=>Ac pk g2 (by decide) b DN e)]
  exact hold b (P.pk.2 b DN)
 ·have hk:=I7.kept q hq
  exact uf.get hk fun e=>(I7.ME q hq).2 (by rw [show q.1=b2 from e];exact(low b2 l2).1)
end
section
open Go Go.TJ Go.Conc Go.Proofs
section
variable{Γ:Type}{main:Bool}{δ:Ix Γ}
theorem OS{W:Nat}{V:Value}{nT a c k a' c' k':Int}:([ptr W,V,.int .i64 nT,AK,AK,AK,AK,AK,AK,AK,AK,.int .i64 a,.int .i64 c,.int .i64 k,.int .i64 0,AK,.bool false,.bool false]:List Value).toArray.setIfInBounds 11 (.int .i64 a')=([ptr W,V,.int .i64 nT,AK,AK,AK,AK,AK,AK,AK,AK,.int .i64 a',.int .i64 c,.int .i64 k,.int .i64 0,AK,.bool false,.bool false]:List Value).toArray/\([ptr W,V,.int .i64 nT,AK,AK,AK,AK,AK,AK,AK,AK,.int .i64 a,.int .i64 c,.int .i64 k,.int .i64 0,AK,.bool false,.bool false]:List Value).toArray.setIfInBounds 12 (.int .i64 c')=([ptr W,V,.int .i64 nT,AK,AK,AK,AK,AK,AK,AK,AK,.int .i64 a,.int .i64 c',.int .i64 k,.int .i64 0,AK,.bool false,.bool false]:List Value).toArray/\([ptr W,V,.int .i64 nT,AK,AK,AK,AK,AK,AK,AK,AK,.int .i64 a,.int .i64 c,.int .i64 k,.int .i64 0,AK,.bool false,.bool false]:List Value).toArray.setIfInBounds 13 (.int .i64 k')=([ptr W,V,.int .i64 nT,AK,AK,AK,AK,AK,AK,AK,AK,.int .i64 a,.int .i64 c,.int .i64 k',.int .i64 0,AK,.bool false,.bool false]:List Value).toArray:=by
 refine⟨by simp,by simp,by simp⟩
abbrev Kv(W:Nat)(V:Value)(nT a c k:Int):Obj:=.cells ([ptr W,V,.int .i64 nT,AK,AK,AK,AK,AK,AK,AK,AK,.int .i64 a,.int .i64 c,.int .i64 k,.int .i64 0,AK,.bool false,.bool false]:List Value).toArray 83 (0,0)
theorem Uy{lo:Nat}{hR h:Hp}{f:Nat->Value}{V:Value}{ws:List Value}{sc:List (List BH)}{nT nC nK tu:Nat}{AZ:List Int}{d:CD}{p:PS (XC d).U}{e:Int}{lL lW lY lV lv:Value}(D:X5 hR h (f 3) sc nC nK nT tu AZ d p e lL lW lY lV lv)(bs:BS lo h V ws sc)(fV:f 0=V)(f1:f 1= .int .i64 nT)(f2:f 2= .int .i64 tu)(f4:f 4= .int .i64 nC)(f6:f 6= .int .i64 nK)(fr:f 5= .int .i64 0/\f 7=AK/\f 8=AK/\f 9=AK/\f 10=AK/\f 11=AK/\f 12=AK)(KI:sc.length<=16)(Mz:nT<=sc.length/\nT<=6)(bK:tu<8192)(bZ:nK<=3):
  AY Tryz.prog main (Fb (Γ:=Γ)) 8 #[.agg (CX f).toArray,.agg (Cj e p.log.length lL lW lY lV).toArray,lv] h δ (CJ fun v h' AW=>AW=δ/\v= .bool true/\AN (fun _=>False) h h'):=by
 obtain⟨ec,eC,eK,eT⟩:=D.c
 subst ec eC eK eT
 obtain⟨hE,E⟩:=D.E
 obtain⟨f5,f7,f8,f9,f10,f11,f12⟩:=fr
 obtain⟨nm,n1,n2⟩:=rK D.ok.c D.LY
 have vb:Fh (XC d) AZ (Li p (fun _=>0) d.c.nT tu e):=E.record (_sP:=f 3) (by omega) (by omega)
 obtain⟨Va,Vk,eV⟩:=bs.sl.val
 obtain⟨la,lk,eL⟩:=D.lv.val
 subst eL
 obtain⟨y3,Vt⟩:∃y,y=h.size:=⟨_,rfl⟩
 obtain⟨y4,wL⟩:∃y,y=(h.push (GL f)).size:=⟨_,rfl⟩
 refine CK (n:=128) ?_
 refine AI ?_
 refine AH ?_
 refine DO ?_
 refine DO ?_
 refine A6 (fun h'=>AN (fun _=>False) h h'/\h'[y3]?=some (GL f)/\h'[y4]?=some (N6 e p.log.length lL lW lY lV)) ⟨(AN.push _ _).trans (AN.push _ _),by rw [Vt];exact Ao _ (AG _ _),by rw [wL];exact AG _ _⟩ ?_
 rw [<-wL,<-Vt]
 have l3:h.size<=y3:=by omega
 clear Vt wL
 rintro h1 ⟨u1,g3,g4⟩
 have c1:=EI (i:=1) g3 (by omega)
 have c2:=EI (i:=2) g3 (by omega)
 have c3:=EI (i:=3) g3 (by omega)
 rw [f1]at c1
 rw [f2]at c2
 have gY:∃r,r=GL f/\h1[y3]?=some r:=⟨_,rfl,g3⟩
 clear g3
 have ve:=D.rm.upd u1
 have jc:=U0 (main:=main) (Γ:=Γ) (δ:=δ) vb ve
 change AY _ _ _ _ #[.agg (Cj e p.log.length lL lW lY lV).toArray,.int .i64 d.c.nT,f 3,.int .i64 tu] _ _ _ at jc
 repeat(first|refine AI ?_|refine AH ?_|refine AE ?_|refine Aq ?_)
 refine C5 (vs:=Cj e p.log.length lL lW lY lV) rfl (C0 (by exact g4)) ?_
 repeat(first|refine Az ?_|refine Av rfl (by assumption) ?_)
 refine BV rfl jc ?_
 rintro _ h2 FJ ⟨rfl,rfl,u2⟩
 obtain⟨r3,xd,g3⟩:=gY
 subst xd
 replace g3:=u2.get g3 (fun x=>x)
 replace g4:=u2.get g4 (fun x=>x)
 have vd:=ve.upd u2
 have u02:=u1.trans u2
 clear c1 c2 c3 jc ve
 have c0:=EI (i:=0) g3 (by omega)
 have c1:=EI (i:=1) g3 (by omega)
 rw [f1]at c1
 rw [fV]at c0
 have gY:∃r,r=GL f/\h2[y3]?=some r:=⟨_,rfl,g3⟩
 clear g3
 have wu:=TN (main:=main) (Γ:=Γ) (δ:=FJ) (V:=V) (nT:=d.c.nT) vb vd ⟨_,_,_,eV⟩
 change AY _ _ _ _ #[.agg (Cj e p.log.length lL lW lY lV).toArray,V,.int .i64 d.c.nT] _ _ _ at wu
 repeat(first|refine AI ?_|refine AH ?_|refine AE ?_|refine Ar ?_|refine B9 ?_|refine Am ?_)
 refine C5 (vs:=Cj e p.log.length lL lW lY lV) rfl (C0 (by exact g4)) ?_
 repeat(first|refine Az ?_|refine Av rfl (by assumption) ?_)
 refine BV rfl wu ?_
 rintro _ h3 Hz ⟨rfl,Wd,W,nv,gv,fv,hm,rfl,gW,eWd,e3,um,I⟩
 have cj:h2.size<=Wd:=by have:=um.size;omega
 have ed:=AN.push (T:=fun _=>False) hm (YC W V d.c.nT)
 rw [<-e3]at ed
 have I3:=I.A5 ed
 obtain⟨r3,xd,g3⟩:=gY
 subst xd
 replace g3:=(um.trans ed).get g3 (fun x=>x)
 have B7:y3≠Wd:=fun ee=>by
  rw [ee,gW]at g3
  injection g3 with g3
  injection g3 with _ g3 _
  revert g3;decide
 have Qk:CX f=[V,.int .i64 d.c.nT,.int .i64 tu,f 3,.int .i64 d.c.nC,.int .i64 0,.int .i64 d.c.nK,AK,AK,AK,AK,AK,AK]:=by
  unfold CX;rw [fV,f1,f2,f4,f5,f6,f7,f8,f9,f10,f11,f12]
 have A0:=GX g3
 rw [Qk]at A0
 clear c0 c1 wu e3 eWd um ed I
 change h3[Wd]?=some (Kv W V d.c.nT 0 0 0)at gW
 have gWo:=gW
 repeat(first|refine AI ?_|refine AE ?_|refine Aq ?_)
 refine BO (fun h'=>TJ.A0 h' y3 0 [V,.int .i64 d.c.nT,.int .i64 tu,f 3,.int .i64 d.c.nC,.int .i64 0,.int .i64 d.c.nK,AK,AK,AK,AK,AK,AK]) ?_
 have hZ:=A0
 refine AU 0 hZ ?_
 refine AU 1 hZ ?_
 refine AU 2 hZ ?_
 refine Ag 3 hZ ?_
 refine D8 4 rfl (by kernel_rfl) (fun _ hz=>(hz 4 _ rfl)) hZ ?_
 refine Ag 5 hZ ?_
 refine D8 6 rfl (by kernel_rfl) (fun _ hz=>(hz 5 _ rfl)) hZ ?_
 refine Ag 7 hZ ?_
 refine D8 8 rfl (by kernel_rfl) (fun _ hz=>(hz 6 _ rfl)) hZ ?_
 refine BE 9 hZ ?_
 refine Ag 10 hZ ?_
 refine Fy (h':=h3.setIfInBounds Wd (Kv W V d.c.nT d.c.nC 0 0)) 11 rfl (by kernel_rfl) rfl rfl (fun ρ Q X Aa hq=>BG (Aa _ _ rfl) (Aa _ _ rfl) ⟨nofun,nofun⟩ ⟨_,AD gW rfl⟩ (AS gW) (fun x=>x) (by rw [As gW,(OS (c:=0) (k:=0) (c':=0) (k':=0)).1];exact hq)) (fun j v hv=>(AN.set (T:=fun b=>b=Wd) _ _ _ rfl).AF (hZ j v hv) (fun e=>B7 e)) ?_
 have u4:AN (fun b=>b=Wd) h3 (h3.setIfInBounds Wd (Kv W V d.c.nT d.c.nC 0 0)):=AN.set _ _ _ rfl
 have Xj:(h3.setIfInBounds Wd (Kv W V d.c.nT d.c.nC 0 0))[Wd]?=some (Kv W V d.c.nT d.c.nC 0 0):=AJ gW
 replace hZ:TJ.A0 (h3.setIfInBounds Wd (Kv W V d.c.nT d.c.nC 0 0)) y3 0 [V,.int .i64 d.c.nT,.int .i64 tu,f 3,.int .i64 d.c.nC,.int .i64 0,.int .i64 d.c.nK,AK,AK,AK,AK,AK,AK]:=fun j v hv=>u4.AF (hZ j v hv) (fun e=>B7 e)
 generalize h3.setIfInBounds Wd (Kv W V d.c.nT d.c.nC 0 0)=h4 at u4 Xj hZ⊢
 refine BE 12 hZ ?_
 refine Ag 13 hZ ?_
 refine Fy (h':=h4.setIfInBounds Wd (Kv W V d.c.nT d.c.nC 0 0)) 14 rfl (by kernel_rfl) rfl rfl (fun ρ Q X Aa hq=>BG (Aa _ _ rfl) (Aa _ _ rfl) ⟨nofun,nofun⟩ ⟨_,AD Xj rfl⟩ (AS Xj) (fun x=>x) (by rw [As Xj,(OS (a':=0) (c':=0) (k':=0)).2.1];exact hq)) (fun j v hv=>(AN.set (T:=fun b=>b=Wd) _ _ _ rfl).AF (hZ j v hv) (fun e=>B7 e)) ?_
 have e4:h4.setIfInBounds Wd (Kv W V d.c.nT d.c.nC 0 0)=h4:=by
  apply Array.ext_getElem?
  intro j
  by_cases ej:Wd=j
  ·subst ej;rw [AJ Xj,Xj]
  ·rw [AX _ ej]
 rw [e4]
 refine BE 15 hZ ?_
 refine Ag 16 hZ ?_
 refine Fy (h':=h4.setIfInBounds Wd (Kv W V d.c.nT d.c.nC 0 d.c.nK)) 17 rfl (by kernel_rfl) rfl rfl (fun ρ Q X Aa hq=>BG (Aa _ _ rfl) (Aa _ _ rfl) ⟨nofun,nofun⟩ ⟨_,AD Xj rfl⟩ (AS Xj) (fun x=>x) (by rw [As Xj,(OS (a':=0) (c':=0) (k:=0) (k':=d.c.nK)).2.2];exact hq)) (fun j v hv=>(AN.set (T:=fun b=>b=Wd) _ _ _ rfl).AF (hZ j v hv) (fun e=>B7 e)) ?_
 refine BF ?_
 have u5:AN (fun b=>b=Wd) h3 (h4.setIfInBounds Wd (Kv W V d.c.nT d.c.nC 0 d.c.nK)):=u4.trans (AN.set _ _ _ rfl)
 have xS:(h4.setIfInBounds Wd (Kv W V d.c.nT d.c.nC 0 d.c.nK))[Wd]?=some (Kv W V d.c.nT d.c.nC 0 d.c.nK):=AJ Xj
 generalize h4.setIfInBounds Wd (Kv W V d.c.nT d.c.nC 0 d.c.nK)=h5 at u5 xS⊢
 clear hZ e4 u4 Xj
 replace A0:TJ.A0 h5 y3 0 [V,.int .i64 d.c.nT,.int .i64 tu,f 3,.int .i64 d.c.nC,.int .i64 0,.int .i64 d.c.nK,AK,AK,AK,AK,AK,AK]:=fun j v hv=>u5.AF (A0 j v hv) (fun e=>B7 e)
 have gX:∃r,r=Kv W V d.c.nT d.c.nC 0 d.c.nK/\h5[Wd]?=some r:=⟨_,rfl,xS⟩
 clear xS g3 gW
 (repeat refine AI ?_)
 obtain⟨r5,er5,gW⟩:=gX
 subst er5
 refine BO (fun h'=>TJ.A0 h' y3 0 [V,.int .i64 d.c.nT,.int .i64 tu,f 3,.int .i64 d.c.nC,.int .i64 0,.int .i64 d.c.nK,AK,AK,AK,AK,AK,AK]) ?_
 have hZ:=A0
 refine AU 0 hZ ?_
 refine AU 1 hZ ?_
 refine AU 2 hZ ?_
 refine AU 3 hZ ?_
 refine AU 4 hZ ?_
 refine AU 5 hZ ?_
 refine Ag 6 hZ ?_
 refine D8 7 rfl (by kernel_rfl) (fun _ hz=>(hz 7 _ rfl)) hZ ?_
 refine Ag 8 hZ ?_
 refine D8 9 rfl (by kernel_rfl) (fun _ hz=>(hz 8 _ rfl)) hZ ?_
 refine Ag 10 hZ ?_
 refine D8 11 rfl (by kernel_rfl) (fun _ hz=>(hz 9 _ rfl)) hZ ?_
 refine Ag 12 hZ ?_
 refine D8 13 rfl (by kernel_rfl) (fun _ hz=>(hz 10 _ rfl)) hZ ?_
 refine Ag 14 hZ ?_
 refine D8 15 rfl (by kernel_rfl) (fun _ hz=>(hz 11 _ rfl)) hZ ?_
 refine Ag 16 hZ ?_
 refine D8 17 rfl (by kernel_rfl) (fun _ hz=>(hz 12 _ rfl)) hZ ?_
 refine BE 18 hZ ?_
 refine Ag 19 hZ ?_
 refine Fy (h':=h5) 20 rfl (by kernel_rfl) rfl rfl (fun ρ Q X Aa hq=>BG (Aa _ _ rfl) (Aa _ _ rfl) ⟨nofun,nofun⟩ ⟨_,AD gW rfl⟩ (AS gW) (fun x=>x) (by rw [Fo (AD gW rfl)];exact hq)) hZ ?_
 refine BE 21 hZ ?_
 refine Ag 22 hZ ?_
 refine Fy (h':=h5) 23 rfl (by kernel_rfl) rfl rfl (fun ρ Q X Aa hq=>BG (Aa _ _ rfl) (Aa _ _ rfl) ⟨nofun,nofun⟩ ⟨_,AD gW rfl⟩ (AS gW) (fun x=>x) (by rw [Fo (AD gW rfl)];exact hq)) hZ ?_
 refine BE 24 hZ ?_
 refine Ag 25 hZ ?_
 refine Fy (h':=h5) 26 rfl (by kernel_rfl) rfl rfl (fun ρ Q X Aa hq=>BG (Aa _ _ rfl) (Aa _ _ rfl) ⟨nofun,nofun⟩ ⟨_,AD gW rfl⟩ (AS gW) (fun x=>x) (by rw [Fo (AD gW rfl)];exact hq)) hZ ?_
 refine BE 27 hZ ?_
 refine Ag 28 hZ ?_
 refine Fy (h':=h5) 29 rfl (by kernel_rfl) rfl rfl (fun ρ Q X Aa hq=>BG (Aa _ _ rfl) (Aa _ _ rfl) ⟨nofun,nofun⟩ ⟨_,AD gW rfl⟩ (AS gW) (fun x=>x) (by rw [Fo (AD gW rfl)];exact hq)) hZ ?_
 refine BE 30 hZ ?_
 refine Ag 31 hZ ?_
 refine Fy (h':=h5) 32 rfl (by kernel_rfl) rfl rfl (fun ρ Q X Aa hq=>BG (Aa _ _ rfl) (Aa _ _ rfl) ⟨nofun,nofun⟩ ⟨_,AD gW rfl⟩ (AS gW) (fun x=>x) (by rw [Fo (AD gW rfl)];exact hq)) hZ ?_
 refine BE 33 hZ ?_
 refine Ag 34 hZ ?_
 refine Fy (h':=h5) 35 rfl (by kernel_rfl) rfl rfl (fun ρ Q X Aa hq=>BG (Aa _ _ rfl) (Aa _ _ rfl) ⟨nofun,nofun⟩ ⟨_,AD gW rfl⟩ (AS gW) (fun x=>x) (by rw [Fo (AD gW rfl)];exact hq)) hZ ?_
 refine BF ?_
 clear hZ A0
 obtain⟨s,hs⟩:∃s:WS,s=⟨List.replicate (Ab p.log).length (false,((0,0):D5)),[],nv,gv,fv,AK,AK⟩:=⟨_,rfl⟩
 have Qx:E6 (Li p (fun _=>0) d.c.nT tu e) nm lL lW lY lV h2 W s h3:=by
  refine⟨List.replicate (Ab p.log).length (false,((0,0):D5)),?_,?_,fun j b x _ hx ht=>?_⟩
  ·rw [hs]
   exact I3.toI (q:=List.replicate (Ab p.log).length (false,((0,0):D5))) (hs:=[]) (by rw [List.map_replicate];rfl) (by rw [List.map_replicate];rfl) rfl rfl
  ·rw [JX];rfl
  ·have:=Fg hx
   rw [(List.mem_replicate.1 this).2]at ht
   cases ht
 have jv:=Qx.JO u5 (fun y hy=>by rw [hy];exact⟨cj,fun _=>⟨_,_,gWo,by decide⟩⟩)
 have TZ:AN (fun _=>False) h2 h5:=I3.up.over u5 fun y hy=>by rw [hy];exact cj
 have bs2:=bs.upd u02 fun _ _ _ z=>z
 have bok:=rC (nm:=nm) (W:=W) (Wd:=Wd) (s:=s) D.ok E vd bs2 bK Mz.2 bZ KI (by rw [hs]) n1 n2
 have bD:=dY (AZ:=AZ) (nm:=nm) (W:=W) (Wd:=Wd) (s:=s) (XH:=f 3) (h0:=h2) (V:=V) (ws:=ws) E bs.small bK Mz.1
 have P0:Qy (R4 d p e tu AZ nm lL lW lY lV (f 3) h2 W s Wd V ws) [] h5:=⟨TZ,cj,⟨AK,AK,false,false,gW,AR.nil,fun y ee=>(by cases ee),_,_,_,rfl⟩,jv,R1.nil _⟩
 have pu:h5[(R4 d p e tu AZ nm lL lW lY lV (f 3) h2 W s Wd V ws).Wd]?=some (JU (R4 d p e tu AZ nm lL lW lY lV (f 3) h2 W s Wd V ws) AK AK false false):=gW
 have YM:=TD (main:=main) (Γ:=Γ) (δ:=Hz) pu
 have fy:∀h6,Qy (R4 d p e tu AZ nm lL lW lY lV (f 3) h2 W s Wd V ws) [] h6->AY Tryz.prog main (Fb (Γ:=Γ)) 26 #[ptr Wd] h6 Hz (CJ fun v h' AW=>AW=Hz/\v= .bool true/\∃(TB n0:Nat) (g:RG),PD (R4 d p e tu AZ nm lL lW lY lV (f 3) h2 W s Wd V ws) TB n0 g h'/\∀j,j<d.c.nT->(g.T j).map TE.p=JL ((Cz d.c.P p.log).out j)):=fun h6 P6=>Ze bok bD P6
 change AY _ _ _ _ #[ptr Wd] _ _ _ at YM
 have qQ:∀h6,AN (fun _=>False) h5 h6->Qy (R4 d p e tu AZ nm lL lW lY lV (f 3) h2 W s Wd V ws) [] h6:=fun h6 u6=>
  ⟨TZ.trans u6,cj,⟨AK,AK,false,false,u6.get gW (fun x=>x),AR.nil,fun y ee=>(by cases ee),_,_,_,rfl⟩,jv.A5 u6,R1.nil _⟩
 clear P0 pu Qx I3 g4 gW gWo jv bok bD u5 B7
 repeat(first|refine AI ?_|refine AH ?_|refine AV ?_)
 refine BV rfl YM ?_
 rintro _ h6 TW ⟨rfl,u6⟩
 repeat(first|refine AI ?_|refine AH ?_|refine AE ?_|refine AV ?_)
 refine BV rfl (fy h6 (qQ h6 u6)) ?_
 rintro _ h7 Nl ⟨rfl,rfl,TB,n0,g,M,hT⟩
 clear YM fy qQ u6 TZ
 have u27:AN (fun _=>False) h2 h7:=M.up
 have tU:=u02.trans u27
 have lv7:=D.lv.upd tU (fun _ _ x=>x)
 have jA:=fun t ht=>(D.L9 t ht).upd tU (fun _ _ x=>x)
 have rO:∀q,q∈CU.kept (CV.toCU p.u)->h7[q.1]?=some q.2:=fun q hq=>tU.get (D.kept q hq) (fun x=>x)
 have cT:AF h7 ⟨Wd,3,none⟩=some (.slice (some ⟨TB,0,none⟩) d.c.nT d.c.nT):=AD M.row rfl
 have pJ:h7[TB]?=some (.cells ((List.range d.c.nT).map g.tv).toArray 73 (0,0)):=M.out
 have NQ:∀j,j<d.c.nT->AR h7 (g.tv j) 89 6 (g.T j).length ((g.T j).flatMap Ex):=M.NQ
 have rM:∀q,q∈g.kept->h7[q.1]?=some q.2:=fun q hq=>(M.kept q hq).1
 have yC:=M.tok
 obtain⟨pg,qB⟩:=Wp E
 have jN:∀j,j<d.c.nT->(g.T j).map TE.p=(CU.told (CV.toCU p.u) j).map TE.p:=fun j hj=>(hT j hj).trans (Oz E hj).symm
 have Yl:∀j x,j<d.c.nT->x∈CU.told (CV.toCU p.u) j->x.vs.length<=2:=fun j x hj hx=>UP E bs.small (j:=j) (x:=x.p) (by rw [<-Oz E hj];exact List.mem_map_of_mem hx)
 have hTl:∀j,j<d.c.nT->(g.T j).length<=3000000:=fun j hj=>by
  have h1:=congrArg List.length (hT j hj)
  rw [Ca]at h1
  rw [h1]
  have h2:=Sx (n0:=31) (P:=d.c.P) (fun j=>RD bs.small j) (DZ E) j
  have h3:(Bm j p.log).length<=p.log.length:=List.length_filter_le _ _
  have h4:=KA E
  omega
 generalize CU.told (CV.toCU p.u)=told at jA qB pg jN Yl
 generalize CU.tv (CV.toCU p.u)=tv at lv7 jA
 clear M hT bs2 vd bs D E vb
 repeat(first|refine AI ?_|refine AH ?_|refine AE ?_|refine Ar ?_|refine Ak ?_|refine Aq ?_|refine B9 ?_|refine Am ?_)
 refine B1 (fun q:Nat=>[(8,.int .i64 q),(7,ptr Wd),(2,.slice la 64 lk)]) (fun q h' AW=>AW=Nl/\AN (fun _=>False) h7 h'/\q<=64) (fun q=>64-q) 0 ⟨rfl,rfl,rfl,trivial⟩ ⟨rfl,AN.refl _ _,Bv _⟩ ?_
 rintro i h8 Qh ⟨rfl,u8,hi⟩ again
 by_cases ba:i<64
 case neg=>
  repeat(first|refine AI ?_|refine AH ?_|refine AE ?_|refine AV ?_|refine Aq ?_|refine Bg ?_|refine BN ?_|refine Am ?_|refine AQ ?_|refine B8 ?_)
  exact CL rfl ⟨rfl,rfl,tU.trans u8⟩
 have cT8:=u8.AF cT (fun x=>x)
 obtain⟨bl,ol,kl,el,cl⟩:=(IX (lv7.upd u8 (fun _ _ x=>x))).cell i (tv i) (by rw [EQ,List.getElem?_range ba];rfl)
 rw [Ca,List.length_range]at el
 cases el
 have sT:=(jA i ba).upd u8 (fun _ _ x=>x)
 obtain⟨ta,tk,et⟩:=sT.val
 rw [et]at cl sT
 by_cases mx:i<d.c.nT
 case neg=>
  have h0:=qB i (by omega)
  rw [h0]at cl
  replace cl:AF h8 ⟨bl,ol+i*1,none⟩=some (.slice ta 0 tk):=cl
  repeat(first|refine AI ?_|refine AH ?_|refine AE ?_|refine Ar ?_|refine Ak ?_|refine AV ?_|refine Aq ?_|refine Bc ?_|refine Az ?_|refine Bs ?_|refine Bg ?_|refine BN ?_|refine Cd ?_|refine BU ?_|refine Am ?_|refine Av rfl (by assumption) ?_)
  refine B1 (fun _:Nat=>[(10,.int .i64 0),(9,.int .i64 0),(8,.int .i64 i),(7,ptr Wd),(2,.slice (some ⟨bl,ol,none⟩) 64 lk)]) (fun _ h' AW=>AW=Qh/\h'=h8) (fun _=>0) 0 ⟨rfl,rfl,rfl,rfl,rfl,trivial⟩ ⟨rfl,rfl⟩ ?_
  rintro _ h9 Vp ⟨rfl,rfl⟩ -
  repeat(first|refine AI ?_|refine AH ?_|refine AE ?_|refine Bb ?_|refine AV ?_|refine Aq ?_|refine Bg ?_|refine BR (kd:=.i64) rfl (i64_in (by omega) (by omega)) ?_|refine Am ?_|refine B8 ?_)
  exact Ah (again (i+1) _ _ (by omega) ⟨rfl,u8,by omega⟩) ⟨rfl,rfl,rfl,trivial⟩
 have cG:AF h8 ⟨TB,0+i*1,none⟩=some (g.tv i):=AD (u8.get pJ (fun x=>x)) (by simp [mx])
 have sG:=(NQ i mx).upd u8 (fun _ _ x=>x)
 obtain⟨ga,gk,eg⟩:=sG.val
 rw [eg]at cG sG
 have hlen:(g.T i).length=(told i).length:=by
  have:=congrArg List.length (jN i mx)
  rwa [Ca,Ca]at this
 have zQ:=hTl i mx
 rw [hlen]at cG sG zQ
 repeat(first|refine AI ?_|refine AH ?_|refine AE ?_|refine Ar ?_|refine Ak ?_|refine AV ?_|refine Aq ?_|refine Bc ?_|refine Az ?_|refine Bs ?_|refine Bg ?_|refine BN ?_|refine Cd ?_|refine BU ?_|refine Am ?_|refine Av rfl (by assumption) ?_)
 refine B1 (fun q:Nat=>[(10,.int .i64 q),(9,.int .i64 (told i).length),(8,.int .i64 i),(7,ptr Wd),(2,.slice (some ⟨bl,ol,none⟩) 64 lk)]) (fun q h' AW=>AW=Qh/\AN (fun _=>False) h8 h'/\q<=(told i).length) (fun q=>(told i).length-q) 0 ⟨rfl,rfl,rfl,rfl,rfl,trivial⟩ ⟨rfl,AN.refl _ _,Bv _⟩ ?_
 rintro k h9 Vp ⟨rfl,u9,hk⟩ Jb
 by_cases oX:k<(told i).length
 case neg=>
  repeat(first|refine AI ?_|refine AH ?_|refine AE ?_|refine Bb ?_|refine AV ?_|refine Aq ?_|refine Bg ?_|refine BR (kd:=.i64) rfl (i64_in (by omega) (by omega)) ?_|refine Am ?_|refine B8 ?_)
  exact Ah (again (i+1) _ _ (by omega) ⟨rfl,u8.trans u9,by omega⟩) ⟨rfl,rfl,rfl,trivial⟩
 obtain⟨x1,W4⟩:∃x,(told i)[k]?=some x:=⟨_,Cl oX⟩
 obtain⟨x2,az⟩:∃x,(g.T i)[k]?=some x:=⟨_,Cl (by omega)⟩
 have hpp:x1.p=x2.p:=by
  have:=congrArg (fun l=>l[k]?) (jN i mx)
  simp only [List.getElem?_map,W4,az,Option.map_some]at this
  exact(D4 this).symm
 have qi:∀x:TE,(Ex x).length=6:=fun _=>rfl
 obtain⟨b1,ea1,NG,-⟩:=Bt qi (sT.upd u9 (fun _ _ x=>x)) W4
 rw [<-hlen]at sG
 obtain⟨b2,ea2,FH,-⟩:=Bt qi (sG.upd u9 (fun _ _ x=>x)) az
 subst ea1 ea2
 have U6:=u8.trans u9
 have rd1:=(Sa (pg i x1 (Fg W4)) rO).upd U6 (fun _ _ _ x=>x)
 have rd2:=(Sa (yC i x2 (Fg az)) rM).upd U6 (fun _ _ _ x=>x)
 have wR:=Yl i x1 mx (Fg W4)
 have zI:=u9.AF cl (fun x=>x)
 have zJ:=u9.AF cT8 (fun x=>x)
 have zK:=u9.AF cG (fun x=>x)
 repeat(first|refine AI ?_|refine AH ?_|refine AE ?_|refine Ar ?_|refine Ak ?_|refine AV ?_|refine Bs ?_|refine BU ?_)
 refine BO (fun h'=>AN (fun _=>False) h9 h') ?_
 have hZ:AN (fun _=>False) h9 h9:=AN.refl _ _
 refine AU 0 hZ ?_
 refine AU 1 hZ ?_
 refine GP 2 hZ ?_
 refine D8 3 rfl (by kernel_rfl) (fun _ hz=>(hz.AF zI (fun x=>x))) hZ ?_
 refine AU 4 hZ ?_
 refine GP 5 hZ ?_
 refine EP (vs:=Ex x1) 6 rfl (by kernel_rfl) rfl rfl rfl rfl rfl (fun _ hz=>fun j v hv=>hz.AF (NG j v hv) (fun x=>x)) hZ ?_
 refine AU 7 hZ ?_
 refine BE 8 hZ ?_
 refine Ag 9 hZ ?_
 refine D8 10 rfl (by kernel_rfl) (fun _ hz=>(hz.AF zJ (fun x=>x))) hZ ?_
 refine AU 11 hZ ?_
 refine GP 12 hZ ?_
 refine D8 13 rfl (by kernel_rfl) (fun _ hz=>(hz.AF zK (fun x=>x))) hZ ?_
 refine AU 14 hZ ?_
 refine GP 15 hZ ?_
 refine EP (vs:=Ex x2) 16 rfl (by kernel_rfl) rfl rfl rfl rfl rfl (fun _ hz=>fun j v hv=>hz.AF (FH j v hv) (fun x=>x)) hZ ?_
 refine Bj 17 rfl (by kernel_rfl) rfl rfl rfl rfl rfl rfl (Zd hpp rd1 rd2 (by omega)) ?_
 rintro _ Gq Xn ⟨rfl,rfl,iI⟩
 refine⟨iI,?_⟩
 have hZ:=iI
 refine KN 18 hZ ?_
 refine BF ?_
 clear hZ
 repeat(first|refine AH ?_|refine AE ?_|refine Ar ?_|refine Bb ?_|refine AV ?_|refine Aq ?_|refine BR (kd:=.i64) rfl (i64_in (by omega) (by omega)) ?_|refine Am ?_)
 exact Ah (Jb (k+1) _ _ (by omega) ⟨rfl,u9.trans iI,by omega⟩) ⟨rfl,rfl,rfl,rfl,rfl,trivial⟩
end
end
section
open Go Go.TJ Go.Conc Go.Proofs
class VO (P:Program) (t:TypeId):Prop where
 out:P.stoodInHeld t=false/\P.eqGuardType P.depth t=false/\∃f1 f2 f3 f4 f5 f6 f7 f8:Field,P.underlying t=some (.struct #[f1,f2,f3,f4,f5,f6,f7,f8])/\f1.name≠ "_" /\f2.name≠ "_" /\f3.name≠ "_" /\f4.name≠ "_" /\f5.name≠ "_" /\f6.name≠ "_" /\f7.name≠ "_" /\f8.name≠ "_" /\f1.offset=0/\f2.offset=1/\f3.offset=2/\f4.offset=3/\f5.offset=4/\f6.offset=5/\f7.offset=6/\f8.offset=7/\P.underlying f1.type=some (.int .i64)/\P.underlying f2.type=some (.int .i8)/\P.underlying f3.type=some (.int .i64)/\P.underlying f4.type=some (.int .i64)/\P.underlying f5.type=some (.int .i64)/\P.underlying f6.type=some (.int .i64)/\P.underlying f7.type=some (.int .i64)/\P.underlying f8.type=some .bool
section
variable{Γ:Type}{P:Program}{main:Bool}{S:Cp Γ}{f:FuncId}{n:Nat}{k:List Item}{env:Env}{ds:List Deferred}{h:Hp}{δ:Ix Γ}{R:Cv Γ}
variable{ops:Array Oper}{l:List Oper}{d:Nat}{ty:TypeId}{pos:String}{af:Array Edge}{g:Option (Nat×Bool)}{Z:Hp->Prop}{zz:Nat}{m:Nat}{listed l':Array Bool}
theorem Oo{t:TypeId}{cs:Array Value}{o:Nat}{v:Value}(hu:P.underlying t=some .bool)(hv:cs[o]?=some v){Q:Value->Hp->Ix Γ->Prop}{X:Value->Hp->Ix Γ->Prop}(hq:Q v h δ):Aj P S (part t cs o) h δ Q X:=by
 unfold part isAgg
 refine AM _ _ _ _ _ _ ?_
 refine An hu ?_
 simp only [hv]
 exact hq
theorem S9{dd:Nat}{t:TypeId}{a:Bool}(hu:P.underlying t=some .bool){Q:Bool->Hp->Ix Γ->Prop}{X:Value->Hp->Ix Γ->Prop}(hq:Q true h δ):Aj P S (Op.equalIn (dd+1) t (.bool a) (.bool a)) h δ Q X:=by
 unfold Op.equalIn
 refine An hu ?_
 simp only [beq_self_eq_true]
 exact hq
theorem UX{t:TypeId}[e:VO P t]{a1 a2 a3 a4 a5 a6 a7:Int}{a8:Bool}{Q:Bool->Hp->Ix Γ->Prop}{X:Value->Hp->Ix Γ->Prop}(hq:Q true h δ):
  Aj P S (Op.equal t (.agg #[.int .i64 a1,.int .i8 a2,.int .i64 a3,.int .i64 a4,.int .i64 a5,.int .i64 a6,.int .i64 a7,.bool a8]) (.agg #[.int .i64 a1,.int .i8 a2,.int .i64 a3,.int .i64 a4,.int .i64 a5,.int .i64 a6,.int .i64 a7,.bool a8])) h δ Q X:=by
 obtain⟨hs,-,f1,f2,f3,f4,f5,f6,f7,f8,hu,uI,mr,hn3,hn4,hn5,uH,hn7,Kt,wq,bX,ho3,ho4,ho5,ho6,ho7,ho8,bJ,Ti,wV,bI,fA,wU,wT,wS⟩:=e.out
 unfold Op.equal Op.maxDepth Op.equalIn
 refine An hu ?_
 simp only
 change Aj P S (Sem.bind (Sem.program Sem.pure) _) h δ Q X
 simp only [Sem.bind,Aj,hs]
 rw [if_neg (by simp)]
 rw [<-Array.forIn_toList]
 simp only [List.forIn_cons,List.forIn_nil,uI,mr,hn3,hn4,hn5,uH,hn7,Kt,wq,bX,ho3,ho4,ho5,ho6,ho7,ho8,ne_eq,not_false_eq_true,if_true]
 refine AM _ _ _ _ _ _ (AM _ _ _ _ _ _ (AM _ _ _ _ _ _ (CG bJ rfl (AM _ _ _ _ _ _ (CG bJ rfl (AM _ _ _ _ _ _ (Ef (dd:=9998) bJ ?_)))))))
 rw [beq_self_eq_true]
 simp only [Bool.not_true,Bool.false_eq_true,if_false]
 refine EV (Q:=_) ?_
 simp only
 refine AM _ _ _ _ _ _ (AM _ _ _ _ _ _ (CG Ti rfl (AM _ _ _ _ _ _ (CG Ti rfl (AM _ _ _ _ _ _ (Ef (dd:=9998) Ti ?_))))))
 rw [beq_self_eq_true]
 simp only [Bool.not_true,Bool.false_eq_true,if_false]
 refine EV (Q:=_) ?_
 simp only
 refine AM _ _ _ _ _ _ (AM _ _ _ _ _ _ (CG wV rfl (AM _ _ _ _ _ _ (CG wV rfl (AM _ _ _ _ _ _ (Ef (dd:=9998) wV ?_))))))
 rw [beq_self_eq_true]
 simp only [Bool.not_true,Bool.false_eq_true,if_false]
 refine EV (Q:=_) ?_
 simp only
 refine AM _ _ _ _ _ _ (AM _ _ _ _ _ _ (CG bI rfl (AM _ _ _ _ _ _ (CG bI rfl (AM _ _ _ _ _ _ (Ef (dd:=9998) bI ?_))))))
 rw [beq_self_eq_true]
 simp only [Bool.not_true,Bool.false_eq_true,if_false]
 refine EV (Q:=_) ?_
 simp only
 refine AM _ _ _ _ _ _ (AM _ _ _ _ _ _ (CG fA rfl (AM _ _ _ _ _ _ (CG fA rfl (AM _ _ _ _ _ _ (Ef (dd:=9998) fA ?_))))))
 rw [beq_self_eq_true]
 simp only [Bool.not_true,Bool.false_eq_true,if_false]
 refine EV (Q:=_) ?_
 simp only
 refine AM _ _ _ _ _ _ (AM _ _ _ _ _ _ (CG wU rfl (AM _ _ _ _ _ _ (CG wU rfl (AM _ _ _ _ _ _ (Ef (dd:=9998) wU ?_))))))
 rw [beq_self_eq_true]
 simp only [Bool.not_true,Bool.false_eq_true,if_false]
 refine EV (Q:=_) ?_
 simp only
 refine AM _ _ _ _ _ _ (AM _ _ _ _ _ _ (CG wT rfl (AM _ _ _ _ _ _ (CG wT rfl (AM _ _ _ _ _ _ (Ef (dd:=9998) wT ?_))))))
 rw [beq_self_eq_true]
 simp only [Bool.not_true,Bool.false_eq_true,if_false]
 refine EV (Q:=_) ?_
 simp only
 refine AM _ _ _ _ _ _ (AM _ _ _ _ _ _ (Oo wS rfl (AM _ _ _ _ _ _ (Oo wS rfl (AM _ _ _ _ _ _ (S9 (dd:=9998) wS ?_))))))
 exact hq
theorem TS{op:BinOp}{t:TypeId}[e:VO P t]{x y:Operand}{a b:Array Value}{Q:Unit->Hp->Ix Γ->Prop}{X:Value->Hp->Ix Γ->Prop}(hq:Q () h δ):Aj P S (eqGuard op t x y (.agg a) (.agg b)) h δ Q X:=by
 obtain⟨-,hg,-⟩:=e.out
 unfold eqGuard
 have key : Aj P S (do if !(← program).eqGuardType (← program).depth t then return
                       if <-Op.eqGuardIn Op.maxDepth t (.agg a) (.agg b)then unsupported (.noEntry "binop/eql: two nil values of an interface type with methods, in a part of a struct or an array")) h δ Q X:=by
  change Aj P S (Sem.bind (Sem.program Sem.pure) fun p=>Sem.bind (Sem.program Sem.pure) fun q=>if(!p.eqGuardType q.depth t)=true then _ else _) h δ Q X
  simp only [Sem.bind,Aj,hg]
  exact hq
 cases op <;> first|exact hq|exact key
theorem UW{t t2:TypeId}[VO P t]{x y:Operand}{a1 a2 a3 a4 a5 a6 a7:Int}{a8:Bool}{ρ:Operand->Value}{dst:Option Nat}{Q:Next->Hp->Ix Γ->Prop}{X:Value->Hp->Ix Γ->Prop}(hx:ρ x= .agg #[.int .i64 a1,.int .i8 a2,.int .i64 a3,.int .i64 a4,.int .i64 a5,.int .i64 a6,.int .i64 a7,.bool a8])(hy:ρ y= .agg #[.int .i64 a1,.int .i8 a2,.int .i64 a3,.int .i64 a4,.int .i64 a5,.int .i64 a6,.int .i64 a7,.bool a8])(hq:Q (.value (.bool false)) h δ):Aj P S (execOp ρ ⟨dst,.binOp .neq t x y t2,ty,pos,af,g⟩) h δ Q X:=
 E2 (by
  rw [hx,hy]
  exact TS (by
   show Aj P S (Op.equal t _ _ >>= fun b=>pure (Value.bool (!b))) h δ _ X
   exact AM _ _ _ _ _ _ (UX (by exact hq))))
end
instance:VO Tryz.prog 38:=⟨by kernel_rfl,by kernel_rfl,_,_,_,_,_,_,_,_,Tryz.underlying38,by decide,by decide,by decide,by decide,by decide,by decide,by decide,by decide,rfl,rfl,rfl,rfl,rfl,rfl,rfl,rfl,Tryz.underlying3,Tryz.underlying29,Tryz.underlying3,Tryz.underlying2,Tryz.underlying2,Tryz.underlying2,Tryz.underlying2,Tryz.underlying4⟩
end
section
open Go Go.TJ Go.Conc Go.Proofs
theorem X5.upd{h h' V1:Hp}{XH:Value}{sc:List (List BH)}{nC nK nT most:Nat}{AZ:List Int}{d:CD}{p:PS (XC d).U}{e:Int}{lL lW lY lV lv:Value}(D:X5 h h' XH sc nC nK nT most AZ d p e lL lW lY lV lv)(u:AN (fun _=>False) h' V1):X5 h V1 XH sc nC nK nT most AZ d p e lL lW lY lV lv:=
 ⟨D.up.trans u,D.c,D.ok,D.LY,D.E,D.rm.upd u,D.lv.upd u (fun _ _ x=>x),fun t ht=>(D.L9 t ht).upd u (fun _ _ x=>x),fun q hq=>u.get (D.kept q hq) (fun x=>x)⟩
theorem Zl{e:Int}{n:Nat}{a b c g:Value}(ha:OneCell a)(hb:OneCell b)(hc:OneCell c)(hg:OneCell g):∀v∈Cj e n a b c g,OneCell v:=by
 intro v hv
 simp only [Cj,List.mem_cons,List.not_mem_nil,or_false]at hv
 rcases hv with rfl|rfl|rfl|rfl|rfl|rfl|rfl <;> first|assumption|exact⟨nofun,nofun⟩
theorem J7{h:Hp}{s:Value}{t sz n:Nat}{cells:List Value}(x:AR h s t sz n cells):OneCell s:=by
 obtain⟨a,k,e⟩:=x.val
 rw [e];exact⟨nofun,nofun⟩
theorem HB.one{R:Rec}{AZ:List Int}{lL lW lY lV sP:Value}{h:Hp}(m:HB R AZ lL lW lY lV sP h){e:Int}{n:Nat}:∀v∈Cj e n lL lW lY lV,OneCell v:=Zl (J7 m.log) (J7 m.Ax) (J7 m.Da) (J7 m.left)
theorem Uz{lo m:Nat}{h:Hp}{f:Nat->Value}{V:Value}{ws:List Value}{sc:List (List BH)}{nT nC nK tu:Nat}{AZ:List Int}(hm:1<=m)(bs:BS lo h V ws sc)(fV:f 0=V)(f1:f 1= .int .i64 nT)(f2:f 2= .int .i64 tu)(f4:f 4= .int .i64 nC)(f6:f 6= .int .i64 nK)(fr:f 5= .int .i64 0/\f 7=AK/\f 8=AK/\f 9=AK/\f 10=AK/\f 11=AK/\f 12=AK)(pk:AR h (f 3) 3 1 AZ.length (AZ.map iV))(KI:sc.length<=16)(Mz:nT<=sc.length/\nT<=6)(bK:tu<8192)(XY:nC<=3)(bZ:nK<=3):
  AY Tryz.prog true (V4 Tryz.prog) 4 #[.agg (CX f).toArray] h ⟨0,m⟩ (CJ fun v h' AW=>(AW.d=0/\1<=AW.g)/\v= .bool true/\AN (fun _=>False) h h'):=by
 have no:∀m a,¬(V4 Tryz.prog).still m a:=fun m a x=>x
 obtain⟨y1,XU⟩:∃y,y=h.size:=⟨_,rfl⟩
 refine CK (n:=69) ?_
 refine AI ?_
 refine AH ?_
 refine DO ?_
 refine A6 (fun h'=>AN (fun _=>False) h h'/\TJ.A0 h' y1 0 (CX f)) ⟨AN.push _ _,by rw [XU];exact GX (AG _ _)⟩ ?_
 rw [<-XU]
 clear XU
 rintro h1 ⟨u1,r1⟩
 have vE:=bs.upd u1 fun _ _ _ z=>z
 have vf:=pk.upd u1 fun _ _ z=>z
 repeat(first|refine AI ?_|refine AH ?_|refine AE ?_|refine Aq ?_)
 refine C5 (vs:=CX f) rfl r1 ?_
 refine BV rfl (Vf hm vE fV f1 f2 f4 fr.1 f6 vf KI Mz bK XY bZ) ?_
 rintro _ hA ⟨dA,mA⟩ ⟨⟨hdA,hmA⟩,d,p,e,lL,lW,lY,lV,lv,rfl,D⟩
 obtain rfl:dA=0:=hdA
 change 1<=mA at hmA
 repeat(first|refine AV ?_|refine Eo ?_|refine Cn ?_)
 refine Bz (vs:=Cj e p.log.length lL lW lY lV) rfl rfl D.rm.one (fun j hj=>⟨?_,AS (AG _ _),no _ _⟩) ?_
 ·have Dm:j<7:=hj
  rcases (show j=0\/j=1\/j=2\/j=3\/j=4\/j=5\/j=6 by omega)with rfl|rfl|rfl|rfl|rfl|rfl|rfl <;> exact⟨_,AD (AG _ _) rfl⟩
 rw [Bw (c:=[.int .i8 0,.int .i64 0,AK,AK,AK,AK,AK]) (vs:=Cj e p.log.length lL lW lY lV) rfl]
 obtain⟨y3,Vt⟩:∃y,y=hA.size:=⟨_,rfl⟩
 refine A6 (fun h'=>AN (fun _=>False) hA h'/\TJ.A0 h' y3 0 (Cj e p.log.length lL lW lY lV)) ⟨AN.push _ _,by rw [Vt];exact CA (vs:=Cj e p.log.length lL lW lY lV) (rest:=[]) (by rw [DI];exact AG _ _)⟩ ?_
 rw [<-Vt]
 clear Vt
 rintro hB ⟨uB,r3⟩
 have D1:=D.upd uB
 have vV:=D1.up
 have r1B:TJ.A0 hB y1 0 (CX f):=fun j v hv=>vV.AF (r1 j v hv) (fun x=>x)
 repeat(first|refine AI ?_|refine AH ?_|refine AE ?_|refine Aq ?_)
 refine C5 (vs:=CX f) rfl r1B ?_
 refine C5 (vs:=Cj e p.log.length lL lW lY lV) rfl r3 ?_
 (repeat refine AV ?_)
 refine BV rfl ((Uy (main:=true) (Γ:=Nat) (δ:=⟨0,mA⟩) D1 (vE.upd vV fun _ _ _ z=>z) fV f1 f2 f4 f6 fr KI Mz bK bZ).mX (no _)) ?_
 rintro _ hC δC ⟨rfl,rfl,uC⟩
 have vU:=vV.trans uC
 have r1C:TJ.A0 hC y1 0 (CX f):=fun j v hv=>vU.AF (r1 j v hv) (fun x=>x)
 clear r1B
 repeat(first|refine AI ?_|refine AH ?_|refine AE ?_|refine Ar ?_|refine B9 ?_|refine Am ?_)
 refine C5 (vs:=CX f) rfl r1C ?_
 refine BV rfl (Vf hmA (vE.upd vU fun _ _ _ z=>z) fV f1 f2 f4 fr.1 f6 (vf.upd vU fun _ _ z=>z) KI Mz bK XY bZ) ?_
 rintro _ hD ⟨dD,mD⟩ ⟨⟨hdD,hmD⟩,d',p',e',ar,en,eh,eu,lv',rfl,D'⟩
 obtain rfl:dD=0:=hdD
 change 1<=mD at hmD
 repeat(first|refine AV ?_|refine Eo ?_|refine Cn ?_)
 refine Bz (vs:=Cj e' p'.log.length ar en eh eu) rfl rfl D'.rm.one (fun j hj=>⟨?_,AS (AG _ _),no _ _⟩) ?_
 ·have Dm:j<7:=hj
  rcases (show j=0\/j=1\/j=2\/j=3\/j=4\/j=5\/j=6 by omega)with rfl|rfl|rfl|rfl|rfl|rfl|rfl <;> exact⟨_,AD (AG _ _) rfl⟩
 rw [Bw (c:=[.int .i8 0,.int .i64 0,AK,AK,AK,AK,AK]) (vs:=Cj e' p'.log.length ar en eh eu) rfl]
 obtain⟨y5,XS⟩:∃y,y=hD.size:=⟨_,rfl⟩
 refine A6 (fun h'=>AN (fun _=>False) hD h'/\TJ.A0 h' y5 0 (Cj e' p'.log.length ar en eh eu)) ⟨AN.push _ _,by rw [XS];exact CA (vs:=Cj e' p'.log.length ar en eh eu) (rest:=[]) (by rw [DI];exact AG _ _)⟩ ?_
 rw [<-XS]
 clear XS
 rintro hE ⟨uE,r5⟩
 have D2:=D'.upd uE
 have uBE:=uC.trans D2.up
 have D3:=D1.upd uBE
 have tW:TJ.A0 hE y3 0 (Cj e p.log.length lL lW lY lV):=fun j v hv=>uBE.AF (r3 j v hv) (fun x=>x)
 have yA:=u1.trans D3.up
 obtain⟨hF,E⟩:=D.E
 obtain⟨hF',E'⟩:=D'.E
 obtain⟨z1,z2,z3,z4⟩:=D.c
 obtain⟨XN,Vq,mM,z4'⟩:=D'.c
 have tw:Lb d.c d'.c:=⟨D.ok.c,D'.ok.c,D.LY,D'.LY,by rw [z1,XN],by rw [z2,Vq],by rw [z3,mM],by rw [z4,z4']⟩
 obtain⟨q1,q2,q3⟩:=ZL tw E E'
 have hlen:p.log.length<=65536:=by have:=KA E;omega
 have Pm:AR hE lL 38 8 p.log.length (p.log.flatMap (CF (Ab p.log))):=D3.rm.log
 have PH:AR hE ar 38 8 p'.log.length (p'.log.flatMap (CF (Ab p'.log))):=D2.rm.log
 rw [q3,q1]at PH
 rw [q1,q2]at r5
 obtain⟨va,vk,ev⟩:=D3.lv.val
 obtain⟨vN,vM,vA⟩:=D2.lv.val
 obtain⟨La,Lk,eL⟩:=Pm.val
 obtain⟨La',Lk',eL'⟩:=PH.val
 subst ev vA eL eL'
 have a0:AF hE ⟨y3,0,none⟩=some (.int .i8 e):=tW 0 _ rfl
 have a1:AF hE ⟨y3,1,none⟩=some (.int .i64 p.log.length):=tW 1 _ rfl
 have a2:AF hE ⟨y3,2,none⟩=some (.slice La p.log.length Lk):=tW 2 _ rfl
 have b0:AF hE ⟨y5,0,none⟩=some (.int .i8 e):=r5 0 _ rfl
 have b1:AF hE ⟨y5,1,none⟩=some (.int .i64 p.log.length):=r5 1 _ rfl
 have b2:AF hE ⟨y5,2,none⟩=some (.slice La' p.log.length Lk'):=r5 2 _ rfl
 clear tW r5 D D1 D2 D3 D' E E' tw q1 q2 q3 r3 r1 r1C bs vE pk vf
 repeat(first|refine AI ?_|refine AH ?_|refine AE ?_|refine Ar ?_|refine Ak ?_|refine AV ?_|refine Aq ?_|refine Az ?_|refine Bd ?_|refine Bg ?_|refine BN ?_|refine Am ?_|refine Av rfl (by assumption) ?_)
 refine B1 (fun q:Nat=>[(7,.int .i64 q),(3,ptr y3),(5,ptr y5)]) (fun q h' AW=>AW=⟨0,mD⟩/\h'=hE/\q<=p.log.length) (fun q=>p.log.length-q) 0 ⟨rfl,rfl,rfl,trivial⟩ ⟨rfl,rfl,Bv _⟩ ?_
 rintro q h2 FJ ⟨rfl,rfl,hq⟩ again
 by_cases CO:q<p.log.length
 ·obtain⟨x,hx⟩:∃x,p.log[q]?=some x:=⟨_,Cl CO⟩
  obtain⟨c1,ec1,NG,-⟩:=Bt (FR (Ab p.log)) Pm hx
  obtain⟨c2,ec2,FH,-⟩:=Bt (FR (Ab p.log)) PH hx
  subst ec1 ec2
  repeat(first|refine AI ?_|refine AH ?_|refine AE ?_|refine Ar ?_|refine Ak ?_|refine AV ?_|refine Az ?_|refine Bs ?_|refine BN ?_|refine BU ?_|refine Av rfl (by assumption) ?_)
  refine BO (fun h'=>h'=h2) ?_
  have hZ:h2=h2:=rfl
  refine Ag 0 hZ ?_
  refine D8 1 rfl (by kernel_rfl) (fun _ hz=>hz▸b2) hZ ?_
  refine AU 2 hZ ?_
  refine GP 3 hZ ?_
  refine EP (vs:=CF (Ab p.log) x) 4 rfl (by kernel_rfl) rfl rfl rfl rfl rfl (fun _ hz=>hz▸FH) hZ ?_
  refine Ag 5 hZ ?_
  refine D8 6 rfl (by kernel_rfl) (fun _ hz=>hz▸a2) hZ ?_
  refine AU 7 hZ ?_
  refine GP 8 hZ ?_
  refine EP (vs:=CF (Ab p.log) x) 9 rfl (by kernel_rfl) rfl rfl rfl rfl rfl (fun _ hz=>hz▸NG) hZ ?_
  refine CQ (v:=.bool false) (h':=h2) 10 rfl (by kernel_rfl) (fun ρ Q X Aa hq=>UW (Aa _ _ rfl) (Aa _ _ rfl) hq) hZ ?_
  refine BF ?_
  repeat(first|refine AH ?_|refine AE ?_|refine Ar ?_|refine Bb ?_|refine AV ?_|refine Aq ?_|refine BR (kd:=.i64) rfl (i64_in (by omega) (by omega)) ?_|refine Am ?_)
  exact Ah (again (q+1) _ _ (by omega) ⟨rfl,rfl,by omega⟩) ⟨rfl,rfl,rfl,trivial⟩
 ·repeat(first|refine AI ?_|refine AH ?_|refine AE ?_|refine AV ?_|refine Aq ?_|refine Az ?_|refine Bg ?_|refine BN ?_|refine Am ?_|refine AQ ?_|refine B8 ?_|refine Av rfl (by assumption) ?_)
  exact CL rfl ⟨⟨rfl,hmD⟩,rfl,yA⟩
theorem Wr{h:Hp}{f0:Nat->Value}{V0:Value}{ng:List Value}{i1 i2 i4 i5 i6:Int}(e0:f0 0=V0)(e1:f0 1= .int .i64 i1)(e2:f0 2= .int .i64 i2)(e4:f0 4= .int .i64 i4)(e5:f0 5= .int .i64 i5)(e6:f0 6= .int .i64 i6)
  (In:fS h V0 ng) (hp:∀j,j=3\/7<=j/\j<=12->∃xs:List Int,Hh h (f0 j) (xs.map iV)/\xs.length<=1000000000000000):
  AY Tryz.prog true (V4 Tryz.prog) 3 #[.agg (CX f0).toArray] h ⟨0,1⟩ (CJ fun v h' AW=>AW.d=0/\v= .bool true/\AN (fun _=>False) h h'):=by
 have no:∀m a,¬(V4 Tryz.prog).still m a:=fun m a x=>x
 obtain⟨bx,ib⟩:∃bx,bx=h.size:=⟨_,rfl⟩
 refine CK (n:=9) ?_
 refine AI ?_
 refine AH ?_
 refine DO ?_
 refine A6 (fun h'=>AN (fun _=>False) h h'/\TJ.A0 h' bx 0 (CX f0)) ⟨AN.push _ _,by rw [ib];exact GX (AG _ _)⟩ ?_
 rw [<-ib]
 clear ib
 rintro h1 ⟨uu,gx⟩
 repeat(first|refine AI ?_|refine AH ?_|refine AE ?_|refine Aq ?_)
 refine C5 (vs:=CX f0) rfl gx ?_
 have mO:AN (fun b=>h.size<=b) h h1:=uu.mono fun _ _ x=>x.elim
 have hB:=Z4 (Γ:=Nat) (main:=true) (δ:=⟨0,1⟩) e0 e1 e2 e4 e5 e6 (In.TY mO) (fun j hj=>by obtain⟨xs,hx,hl⟩:=hp j hj;exact⟨xs,hx.TY mO,hl⟩)
 refine BV rfl (hB.mX (no _)) ?_
 rintro _ h2 FJ ⟨rfl,f,V,ws,sc,th,tu,nC,nK,AZ,rfl,Br⟩
 obtain⟨jO,AFN,AFM⟩:=Br.th
 obtain⟨AFL,AFK⟩:=Br.tu
 obtain⟨AFV,AFU⟩:=Br.nC
 obtain⟨AFT,AFS⟩:=Br.nK
 obtain⟨nT,rfl⟩:∃n:Nat,th=n:=⟨th.toNat,by omega⟩
 obtain⟨nC,rfl⟩:∃n:Nat,nC=n:=⟨nC.toNat,by omega⟩
 obtain⟨nK,rfl⟩:∃n:Nat,nK=n:=⟨nK.toNat,by omega⟩
 obtain⟨tu,rfl⟩:∃n:Nat,tu=n:=⟨tu.toNat,by omega⟩
 have Qk:=Uz (m:=1) (CY _) Br.bs Br.f0 Br.f1 Br.f2 Br.f4 Br.f6 Br.fr Br.f3.1 Br.n.2 ⟨by omega,by omega⟩ (by omega) (by omega) (by omega)
 have uB:=Br.up
 clear Br hB
 skip
 refine BV rfl Qk ?_
 rintro _ h3 ⟨d3,m3⟩ ⟨⟨hd3,hm3⟩,rfl,u3⟩
 obtain rfl:d3=0:=hd3
 (repeat refine AV ?_)
 refine BV rfl (ZJ.mX (no _)) ?_
 rintro _ h4 MC ⟨rfl,u4,rfl⟩
 repeat(first|refine AE ?_|refine Aq ?_|refine Bl ?_|refine AQ ?_)
 exact CL rfl ⟨rfl,rfl,(uu.trans uB).trans (u3.trans u4)⟩
end
end Go.Proofs.YtfkalocplonkiaaGreat
