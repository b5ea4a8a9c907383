/- Steps of the walk and of the plain law (RunP to CpH). Conditions: as each lemma says. -/
import Derived.Test.YtfkalocplonkiaaGreatCPLC
set_option linter.unusedSectionVars false
set_option linter.unusedVariables false
set_option linter.unusedSimpArgs false
set_option maxHeartbeats 8000000
set_option maxRecDepth 8000
namespace Go.Proofs.YtfkalocplonkiaaGreat
section
open Go Go.TJ Go.Conc Go.Proofs
section
variable{ty:TypeId}{pos:String}{af:Array Edge}{g:Option (Nat×Bool)}
theorem S7{Γ:Type}{P:Program}{S:Cp Γ}{h:Hp}{δ:Ix Γ}{x:Operand}{i:Nat}{vs:Array Value}{v:Value}{ρ:Operand->Value}{dst:Option Nat}{Q:Next->Hp->Ix Γ->Prop}{Y:Value->Hp->Ix Γ->Prop}(hx:ρ x= .tuple vs)(hv:vs[i]?=some v)(hq:Q (.value v) h δ):Aj P S (execOp ρ ⟨dst,.extract x i,ty,pos,af,g⟩) h δ Q Y:=by
 show Aj P S (Instr.extract (ρ x) i >>= fun v=>pure (.value v)) h δ Q Y
 rw [hx]
 unfold Instr.extract
 simp only [hv]
 exact hq
theorem Rb{Γ:Type}{P:Program}{S:Cp Γ}{h:Hp}{δ:Ix Γ}{t kt et el sz C9 s2 b2:Nat}{z z2:Value}[ht:Es P t (.map kt et)][hu:Es P kt (.pointer el)][i2:Cw P el s2 b2 z2][Cw P et sz C9 z]{x y:Operand}{r c:Nat}{es:Array MapEntry}{ls:List (Addr×Value)}{a:Addr}{v:Value}{ρ:Operand->Value}{dst:Option Nat}{Q:Next->Hp->Ix Γ->Prop}{Y:Value->Hp->Ix Γ->Prop}
  (hx:ρ x= .map (some r)) (hy:ρ y= .pointer (some a)) (Ey:s2≠0) (hr:h[r]?=some (.map es c)) (ha:Plain h a.block) (hp:∀p∈ls,Plain h p.1.block) (hk:F1 es ls)
  (hv:(match HO a ls 0 with|some p=>.tuple #[p.2,.bool true]|none=>.tuple #[z,.bool false])=v) (hq:Q (.value v) h δ):Aj P S (execOp ρ ⟨dst,.lookup t x y true,ty,pos,af,g⟩) h δ Q Y:=by
 show Aj P S (Instr.lookup t (ρ x) (ρ y) true >>= fun v=>pure (.value v)) h δ Q Y
 rw [hx,hy]
 exact AM _ _ _ _ _ _ (Mo ht.out hu.out i2 Ey hr ha hp hk (by revert hq;rw [<-hv];cases HO a ls 0 <;> exact id))
theorem Sc{Γ:Type}{P:Program}{main:Bool}{S:Cp Γ}{f:FuncId}{n:Nat}{k:List Item}{env:Env}{ds:List Deferred}{h:Hp}{δ:Ix Γ}{R:Cv Γ}{ops:Array Oper}{d:Nat}{Z:Hp->Prop}{zz:Nat}{m:Nat}{listed l':Array Bool}(i:Nat){x:Operand}{q:Nat}{vs:Array Value}{v:Value}(hi:ops[i]?=some ⟨some d,.extract x q,ty,pos,af,g⟩)(hs:Ct ops listed zz i=true)(hl:listed.setIfInBounds i true=l')
  (hd:Nat.blt d n=true) (hw:Al ops env g=some true) (hx:ev env x=some (.tuple vs)) (hv:vs[q]?=some v) (hZ:Z h)
  (hn:EA P main S f n ops Z zz m l' k ((d,v)::env) ds h δ R):EA P main S f n ops Z zz (m+1) listed k env ds h δ R:=
 Fz i hi hs hl hd hw (fun _ _ _ _ _ Aa _ hq=>S7 (Aa _ _ hx) hv hq) hZ hn
end
def Im{U:Type}(p:PS U)(ns:List Nat)(j:Nat):List Value:=match p.st j with
 | .Bp r=>A4 j r.op (if r.b∈ns then(ns.idxOf r.b:Int)else -1) r.arg r.new (p.val r.b) (p.val r.b) false
 | _=>[]
theorem kK{h:Hp}{t R i wk sd:Nat}{v:Value}{a b c d e f x:Int}{k g:Bool}(hr:h[t]?=some (FG R i wk sd v (A4 a b c d e f x k) g)):A0 h t (0+5) (A4 a b c d e f x k):=by
 intro q v hq
 have Eh:q<8:=by
  rcases EM q 8 with y|y
  ·exact y
  ·rw [Iz (show(A4 a b c d e f x k).length<=q from y)]at hq;cases hq
 rcases (show q=0\/q=1\/q=2\/q=3\/q=4\/q=5\/q=6\/q=7 by omega)with rfl|rfl|rfl|rfl|rfl|rfl|rfl|rfl <;> (injection hq with hq;subst hq;exact AD hr rfl)
section
variable{X:Us}{W:Nat->Prop}{p:PS X.U}{ns:List Nat}{s:Pu}{M:Mem Nm}{h:Hp}{γ:GG X}
def FZ{U:Type}(p:PS U)(i:Nat):PS U:={p with stops:=true,gone:=fun j=>p.gone j||decide (j<i)}
abbrev Nk{U:Type}(p:PS U):PS U:=FZ p p.num
theorem TQ{U:Type}{p:PS U}{i:Nat}:({FZ p i with gone:=ut (FZ p i).gone i true}:PS U)=FZ p (i+1):=by
 unfold FZ
 have:(ut (fun j=>p.gone j||decide (j<i)) i true)=fun j=>p.gone j||decide (j<i+1):=by
  funext j
  by_cases e:j=i
  ·subst e;rw [AL];simp
  ·rw [Ai _ _ e]
   have:decide (j<i+1)=decide (j<i):=by simp;omega
   rw [this]
 dsimp only
 rw [this]
theorem Mq{U:Type}{p:PS U}{i:Nat}(h:p.gone i=true):FZ p i=FZ p (i+1):=by
 unfold FZ
 have:(fun j=>p.gone j||decide (j<i))=fun j=>p.gone j||decide (j<i+1):=by
  funext j
  by_cases e:j=i
  ·subst e;rw [h];simp
  ·have:decide (j<i+1)=decide (j<i):=by simp;omega
   rw [this]
 rw [this]
theorem ru(hX:X.Ok)(hv:Fw X γ.p p)(g:GI X W p (Ab p.log) s M h)(hI:X.I p.u h)(hJ:X.J p.log p.u p.val)(hQ:∀x,X.Q x (Bm x p.log) (p.st x) p.u)(hn:p.num<=64)(Dn:∀j,j<p.num->p.gone j=false->∃r,p.st j= .Bp r/\JJ X r):
  AY Tryz.prog true (Ez Tryz.prog (PX X)) 72 #[ptr p.R] h ⟨0,γ⟩ (CJ fun v h' AW=>∃Ae:GG X,AW=⟨0,Ae⟩/\Fw X Ae.p (Nk p)/\(∃s' M',GI X (fun b=>NL X p M b\/h.size<=b) (Nk p) (Ab p.log) s' M' h')/\X.I p.u h'/\AN (NL X p M) h h'/\
   AR h' v 38 8 (p.live p.num).length ((p.live p.num).flatMap (Im p (Ab p.log)))/\∀b,blk v=some b->h.size<=b/\b<h'.size):=by
 obtain⟨aT,kT,eT⟩:=Mem.Sl.val (show M.Sl .BI s.T 48 1 p.num ((List.range p.num).map fun i=>ptr (p.tb i))from g.all .BI)
 have Be:=g.GH
 have pA:AF h ⟨p.R,0,none⟩=some (.slice aT p.num kT):=by rw [<-eT];exact AD Be rfl
 have hR1:AF h ⟨p.R,1,none⟩=some (.map (some p.mb)):=AD Be rfl
 refine CK (n:=89) ?_
 clear Be
 repeat(first|refine AI ?_|refine AH ?_|refine AE ?_|refine Ak ?_|refine AV ?_|refine Aq ?_|refine Bc ?_|refine Az ?_|refine BN ?_|refine Av rfl (by assumption) ?_)
 refine B1 (fun q:Nat×Value=>[(16,.int .i64 q.1),(3,q.2),(14,.slice aT p.num kT),(15,.int .i64 p.num),(0,ptr p.R)]) (fun q h' AW=>q.1<=p.num/\AW=⟨0,γ⟩/\AN (fun _=>False) h h'/\AR h' q.2 38 8 (p.live q.1).length ((p.live q.1).flatMap (Im p (Ab p.log)))/\∀b,blk q.2=some b->h.size<=b) (fun q=>p.num-q.1) (0,AK) ⟨rfl,rfl,rfl,rfl,rfl,trivial⟩ ⟨Bv _,rfl,AN.refl _ _,AR.nil,fun b hb=>by cases hb⟩ ?_
 rintro⟨i,lv⟩ h1 H0 ⟨hi,DL,u1,sl,hb⟩ again
 dsimp only at hi sl hb again DL⊢
 subst DL
 by_cases CO:i<p.num
 ·obtain⟨b,k,fK,hc,hk,ebT⟩:=g.RF CO
  rw [eT]at fK
  injection fK with e1 e2 e3
  subst e1
  obtain⟨v,a,Gp,mm⟩:=g.JV CO
  have xI:=u1.AF hc (fun x=>x)
  have CR:=u1.get mm (fun x=>x)
  obtain⟨_,t,o,c,b0,n,w,x,kk,rfl⟩:=Gp.form
  have d13:AF h1 ⟨p.tb i,13,none⟩=some (.bool (p.gone i)):=AD CR rfl
  have hlen:(p.live i).length<=i:=by
   unfold PS.live
   have:=List.length_filter_le (fun j=>!p.gone j) (List.range i)
   simpa using this
  have fI:∀{c o},h.size<=c->¬(Ez Tryz.prog (PX X)).still γ ⟨c,o,none⟩:=fun hc=>LC hv g hc
  cases hg:p.gone i with
  | true=>
   rw [hg]at d13
   clear CR mm
   rw [<-RR hg]at sl
   repeat(first|refine AI ?_|refine AH ?_|refine AE ?_|refine Ar ?_|refine Ak ?_|refine AV ?_|refine Aq ?_|refine Bc ?_|refine Az ?_|refine Bs ?_|refine BR (kd:=.i64) rfl (i64_in (by omega) (by omega)) ?_|refine Cd ?_|refine BU ?_|refine B8 ?_|refine Av rfl (by assumption) ?_)
   exact Ah (again (i+1,lv) _ _ (by dsimp only;omega) ⟨by dsimp only;omega,rfl,u1,sl,hb⟩) ⟨rfl,rfl,rfl,rfl,rfl,trivial⟩
  | false=>
   rw [hg]at d13 CR
   obtain⟨r,M0,iU⟩:=Dn i CO hg
   rw [M0]at Gp
   obtain⟨ev,ea⟩:=Gp
   rw [ea]at CR
   subst ev
   have d4:AF h1 ⟨p.tb i,4,none⟩=some (ptr r.b):=AD CR rfl
   have d5:A0 h1 (p.tb i) (0+5) (KV i r):=kK CR
   have zS:=u1.AF hR1 (fun x=>x)
   have g1:=g.A5 u1
   have hle:=u1.size
   clear mm CR ea hc
   repeat(first|refine AI ?_|refine AH ?_|refine AE ?_|refine Ar ?_|refine Ak ?_|refine AV ?_|refine Aq ?_|refine Bc ?_|refine Az ?_|refine Bs ?_|refine Cd ?_|refine BU ?_|refine Am ?_|refine Av rfl (by assumption) ?_)
   refine C5 (vs:=KV i r) rfl d5 ?_
   (repeat refine Cn ?_)
   refine Bz (vs:=KV i r) rfl rfl (by simp [KV,A4,OneCell]) (fun j hj=>⟨?_,AS (AG _ _),fI hle⟩) ?_
   ·have Dm:j<8:=hj
    rcases (show j=0\/j=1\/j=2\/j=3\/j=4\/j=5\/j=6\/j=7 by omega)with rfl|rfl|rfl|rfl|rfl|rfl|rfl|rfl <;> exact⟨_,AD (AG _ _) rfl⟩
   rw [Bw (c:=[.int .i64 0,.int .i8 0,.int .i64 0,.int .i64 0,.int .i64 0,.int .i64 0,.int .i64 0,.bool false]) (vs:=KV i r) rfl]
   refine A6 (fun h'=>AN (fun _=>False) h1 h'/\h'[h1.size]?=some (CE (KV i r))) ⟨AN.push _ _,AG _ _⟩ ?_
   obtain⟨y,hy⟩:∃y,y=h1.size:=⟨_,rfl⟩
   rw [<-hy]
   rintro h2 ⟨u2,lx⟩
   have iu:=u2.AF d4 (fun x=>x)
   have gL:=u2.AF zS (fun x=>x)
   have g2:=g1.A5 u2
   have Xy:h.size<=y:=by omega
   repeat(first|refine AI ?_|refine AH ?_|refine AE ?_|refine AV ?_|refine Bc ?_|refine Az ?_|refine Lm rfl rfl rfl rfl rfl ?_|refine BU ?_|refine Av rfl (by assumption) ?_)
   refine BO (fun h'=>AF h' ⟨p.R,1,none⟩=some (.map (some p.mb))/\AF h' ⟨p.tb i,4,none⟩=some (ptr r.b)) ?_
   have hZ:=And.intro gL iu
   refine AU 0 hZ ?_
   refine BE 1 hZ ?_
   refine Ag 2 hZ ?_
   refine A8 3 (fun _ hz=>hz.1) hZ ?_
   refine AU 4 hZ ?_
   refine BE 5 hZ ?_
   refine Ag 6 hZ ?_
   refine A8 7 (fun _ hz=>hz.2) hZ ?_
   obtain⟨x1,x2,es,cc,x3,x4⟩:=g2.all .map
   have hm:h2[p.mb]?=some (.map es cc):=by rw [<-x2,<-x3];exact g2.Ju.has _ x1
   have bd:=(g2.Fu r.b iU.cell).1
   have Qk:∀q,q∈DY (Ab p.log) 0->Plain h2 q.1.block:=fun q hq=>⟨_,_,(g2.Fu _ (g2.num _ (Ii _ _ _ hq))).1⟩
   obtain⟨nv,ok,uK⟩:∃nv ok,(match HO ⟨r.b,0,none⟩ (DY (Ab p.log) 0) 0 with|some p=>Value.tuple #[p.2,.bool true]|none=>.tuple #[.int .i64 0,.bool false])= .tuple #[.int .i64 nv,.bool ok]/\((ok=true/\r.b∈Ab p.log/\nv=(Ab p.log).idxOf r.b)\/(ok=false/\r.b∉Ab p.log)):=by
    rw [HT]
    by_cases DN:r.b∈Ab p.log
    ·rw [if_pos DN]
     exact⟨(Ab p.log).idxOf r.b,true,by simp,.inl ⟨rfl,DN,rfl⟩⟩
    ·rw [if_neg DN]
     exact⟨0,false,rfl,.inr ⟨rfl,DN⟩⟩
   refine CQ (v:=.tuple #[.int .i64 nv,.bool ok]) (h':=h2) 8 rfl (by kernel_rfl) (fun ρ Q Y Aa hq=>Rb (a:=⟨r.b,0,none⟩) (Aa _ _ rfl) (Aa _ _ rfl) (by decide) hm ⟨_,_,bd⟩ Qk x4 uK.1 hq) hZ ?_
   refine AU 9 hZ ?_
   refine Sc 10 rfl (by kernel_rfl) rfl rfl rfl rfl rfl hZ ?_
   refine Sc 11 rfl (by kernel_rfl) rfl rfl rfl rfl rfl hZ ?_
   refine Dp 12 hZ ?_
   refine Dp 13 hZ ?_
   refine BF ?_
   clear hm Qk x1 x2 x3 x4 hZ gL
   rcases uK with⟨-,⟨rfl,PU,rfl⟩|⟨rfl,PU⟩⟩
   ·repeat(first|refine AI ?_|refine AH ?_|refine AE ?_|refine AV ?_|refine Az ?_|refine BU ?_)
    refine CS rfl ⟨nofun,nofun⟩ ⟨_,AD lx rfl⟩ (AS lx) (fI Xy) ?_
    refine A6 (fun h'=>AN (fun _=>False) h1 h'/\h'[y]?=some (CE (A4 i r.op (if r.b∈Ab p.log then((Ab p.log).idxOf r.b:Int)else -1) r.arg r.new 0 0 false))) (by rw [As lx,if_pos PU];exact⟨u2.over (AN.set (T:=fun b=>b=y) _ _ _ rfl) (fun b hb=>by omega),AJ lx⟩) ?_
    clear u2 lx iu g2 bd
    rintro h3 ⟨u3,lx⟩
    have iu:=u3.AF d4 (fun x=>x)
    have bd:=((g1.A5 u3).Fu r.b iU.cell).1
    repeat(first|refine AI ?_|refine AH ?_|refine AE ?_|refine AV ?_|refine Bc ?_|refine Az ?_|refine Av rfl (by assumption) ?_)
    refine Bx rfl (Jk (v:=p.val r.b) (AD bd rfl)) ?_
    (repeat refine Az ?_)
    refine CS rfl ⟨nofun,nofun⟩ ⟨_,AD lx rfl⟩ (AS lx) (fI Xy) ?_
    refine A6 (fun h'=>AN (fun _=>False) h1 h'/\h'[y]?=some (CE (A4 i r.op (if r.b∈Ab p.log then((Ab p.log).idxOf r.b:Int)else -1) r.arg r.new (p.val r.b) 0 false))) (by rw [As lx];exact⟨u3.over (AN.set (T:=fun b=>b=y) _ _ _ rfl) (fun b hb=>by omega),AJ lx⟩) ?_
    clear u3 lx iu bd
    rintro h4 ⟨u4,lx⟩
    have vy:AF h4 ⟨y,5,none⟩=some (.int .i64 (p.val r.b)):=AD lx rfl
    have n9:Bf h4 ⟨y,6,none⟩=false:=AS lx
    have oE:AF h4 ⟨y,6,none⟩=some (.int .i64 0):=AD lx rfl
    have eG:Af h4 ⟨y,6,none⟩ (.int .i64 (p.val r.b))=h4.setIfInBounds y (CE (A4 i r.op (if r.b∈Ab p.log then((Ab p.log).idxOf r.b:Int)else -1) r.arg r.new (p.val r.b) (p.val r.b) false)):=As lx _
    have iQ:=AJ lx (o':=CE (A4 i r.op (if r.b∈Ab p.log then((Ab p.log).idxOf r.b:Int)else -1) r.arg r.new (p.val r.b) (p.val r.b) false))
    have u5:=u4.over (AN.set (T:=fun b=>b=y) h4 y (CE (A4 i r.op (if r.b∈Ab p.log then((Ab p.log).idxOf r.b:Int)else -1) r.arg r.new (p.val r.b) (p.val r.b) false)) rfl) (fun b hb=>by omega)
    clear lx
    repeat(first|refine AH ?_|refine AE ?_|refine Az ?_|refine Av rfl (by assumption) ?_)
    refine CS rfl ⟨nofun,nofun⟩ ⟨_,oE⟩ n9 (fI Xy) ?_
    rw [eG]
    clear eG vy oE n9 u4
    generalize h4.setIfInBounds y (CE (A4 i r.op (if r.b∈Ab p.log then((Ab p.log).idxOf r.b:Int)else -1) r.arg r.new (p.val r.b) (p.val r.b) false))=h5 at iQ u5⊢
    generalize Vx:(if r.b∈Ab p.log then((Ab p.log).idxOf r.b:Int)else -1)=cv at iQ⊢
    repeat(first|refine AH ?_|refine AE ?_|refine AV ?_)
    refine C5 (vs:=A4 i r.op cv r.arg r.new (p.val r.b) (p.val r.b) false) rfl (C0 (by exact iQ)) ?_
    refine LA (z:=.agg #[.int .i64 0,.int .i8 0,.int .i64 0,.int .i64 0,.int .i64 0,.int .i64 0,.int .i64 0,.bool false]) (cells:=(A4 i r.op cv r.arg r.new (p.val r.b) (p.val r.b) false).toArray) rfl rfl rfl (by omega) (by omega) (by rfl) (Lz _ _ _ _ _ _ _ _) ?_
    refine D9 (new:=A4 i r.op cv r.arg r.new (p.val r.b) (p.val r.b) false) rfl rfl rfl rfl ((sl.upd u5 (fun _ _ x=>x)).upd (AN.push (T:=fun _=>False) h5 _) (fun _ _ x=>x)) (AG _ _) rfl (by simp [A4,OneCell]) (by omega) (by omega) (by rfl) (fun c o hc=>fI (hb c hc)) ?_
    intro s6 h6 PG u6 Tc
    have u16:AN (fun _=>False) h h6:=((u1.trans u5).trans (AN.push h5 _)).over u6 hb
    repeat(first|refine AH ?_|refine AE ?_|refine Bb ?_|refine AV ?_|refine Aq ?_|refine BR (kd:=.i64) rfl (i64_in (by omega) (by omega)) ?_)
    refine Ah (again (i+1,s6) _ _ (by dsimp only;omega) ⟨by dsimp only;omega,rfl,u16,?_,fun b' DN=>?_⟩) ⟨rfl,rfl,rfl,rfl,rfl,trivial⟩
    ·dsimp only
     rw [Oc hg,Ln,C1]
     have:Im p (Ab p.log) i=A4 i r.op cv r.arg r.new (p.val r.b) (p.val r.b) false:=by unfold Im;rw [M0,<-Vx]
     simp only [List.flatMap_cons,List.flatMap_nil,List.append_nil,this]
     exact PG
    ·rcases Tc b' DN with z|z
     ·exact hb _ z
     ·have:=u5.size;rw [CH]at z;omega
   ·replace lx:h2[y]?=some (CE (A4 i r.op (if r.b∈Ab p.log then((Ab p.log).idxOf r.b:Int)else -1) r.arg r.new 0 0 false)):=by rw [if_neg PU];exact lx
    repeat(first|refine AI ?_|refine AH ?_|refine AE ?_|refine Ar ?_|refine AV ?_|refine Bc ?_|refine Az ?_|refine Am ?_|refine Av rfl (by assumption) ?_)
    revert u2 lx
    clear iu g2 bd
    generalize h2=h3
    intro u3 lx
    have iu:=u3.AF d4 (fun x=>x)
    have bd:=((g1.A5 u3).Fu r.b iU.cell).1
    skip
    refine Bx rfl (Jk (v:=p.val r.b) (AD bd rfl)) ?_
    (repeat refine Az ?_)
    refine CS rfl ⟨nofun,nofun⟩ ⟨_,AD lx rfl⟩ (AS lx) (fI Xy) ?_
    refine A6 (fun h'=>AN (fun _=>False) h1 h'/\h'[y]?=some (CE (A4 i r.op (if r.b∈Ab p.log then((Ab p.log).idxOf r.b:Int)else -1) r.arg r.new (p.val r.b) 0 false))) (by rw [As lx];exact⟨u3.over (AN.set (T:=fun b=>b=y) _ _ _ rfl) (fun b hb=>by omega),AJ lx⟩) ?_
    clear u3 lx iu bd
    rintro h4 ⟨u4,lx⟩
    have vy:AF h4 ⟨y,5,none⟩=some (.int .i64 (p.val r.b)):=AD lx rfl
    have n9:Bf h4 ⟨y,6,none⟩=false:=AS lx
    have oE:AF h4 ⟨y,6,none⟩=some (.int .i64 0):=AD lx rfl
    have eG:Af h4 ⟨y,6,none⟩ (.int .i64 (p.val r.b))=h4.setIfInBounds y (CE (A4 i r.op (if r.b∈Ab p.log then((Ab p.log).idxOf r.b:Int)else -1) r.arg r.new (p.val r.b) (p.val r.b) false)):=As lx _
    have iQ:=AJ lx (o':=CE (A4 i r.op (if r.b∈Ab p.log then((Ab p.log).idxOf r.b:Int)else -1) r.arg r.new (p.val r.b) (p.val r.b) false))
    have u5:=u4.over (AN.set (T:=fun b=>b=y) h4 y (CE (A4 i r.op (if r.b∈Ab p.log then((Ab p.log).idxOf r.b:Int)else -1) r.arg r.new (p.val r.b) (p.val r.b) false)) rfl) (fun b hb=>by omega)
    clear lx
    repeat(first|refine AH ?_|refine AE ?_|refine Az ?_|refine Av rfl (by assumption) ?_)
    refine CS rfl ⟨nofun,nofun⟩ ⟨_,oE⟩ n9 (fI Xy) ?_
    rw [eG]
    clear eG vy oE n9 u4
    generalize h4.setIfInBounds y (CE (A4 i r.op (if r.b∈Ab p.log then((Ab p.log).idxOf r.b:Int)else -1) r.arg r.new (p.val r.b) (p.val r.b) false))=h5 at iQ u5⊢
    generalize Vx:(if r.b∈Ab p.log then((Ab p.log).idxOf r.b:Int)else -1)=cv at iQ⊢
    repeat(first|refine AH ?_|refine AE ?_|refine AV ?_)
    refine C5 (vs:=A4 i r.op cv r.arg r.new (p.val r.b) (p.val r.b) false) rfl (C0 (by exact iQ)) ?_
    refine LA (z:=.agg #[.int .i64 0,.int .i8 0,.int .i64 0,.int .i64 0,.int .i64 0,.int .i64 0,.int .i64 0,.bool false]) (cells:=(A4 i r.op cv r.arg r.new (p.val r.b) (p.val r.b) false).toArray) rfl rfl rfl (by omega) (by omega) (by rfl) (Lz _ _ _ _ _ _ _ _) ?_
    refine D9 (new:=A4 i r.op cv r.arg r.new (p.val r.b) (p.val r.b) false) rfl rfl rfl rfl ((sl.upd u5 (fun _ _ x=>x)).upd (AN.push (T:=fun _=>False) h5 _) (fun _ _ x=>x)) (AG _ _) rfl (by simp [A4,OneCell]) (by omega) (by omega) (by rfl) (fun c o hc=>fI (hb c hc)) ?_
    intro s6 h6 PG u6 Tc
    have u16:AN (fun _=>False) h h6:=((u1.trans u5).trans (AN.push h5 _)).over u6 hb
    repeat(first|refine AH ?_|refine AE ?_|refine Bb ?_|refine AV ?_|refine Aq ?_|refine BR (kd:=.i64) rfl (i64_in (by omega) (by omega)) ?_)
    refine Ah (again (i+1,s6) _ _ (by dsimp only;omega) ⟨by dsimp only;omega,rfl,u16,?_,fun b' DN=>?_⟩) ⟨rfl,rfl,rfl,rfl,rfl,trivial⟩
    ·dsimp only
     rw [Oc hg,Ln,C1]
     have:Im p (Ab p.log) i=A4 i r.op cv r.arg r.new (p.val r.b) (p.val r.b) false:=by unfold Im;rw [M0,<-Vx]
     simp only [List.flatMap_cons,List.flatMap_nil,List.append_nil,this]
     exact PG
    ·rcases Tc b' DN with z|z
     ·exact hb _ z
     ·have:=u5.size;rw [CH]at z;omega
 ·obtain rfl:i=p.num:=by omega
  clear again
  have g1:=g.A5 u1
  have hx:=g1.all .run
  have M0:=g1.GH
  have ig:∀o,¬(Ez Tryz.prog (PX X)).still γ ⟨p.R,o,none⟩:=fun o=>by
   rw [<-hx.2.1];exact E8 hv g1 hx.1 (fun j=>⟨nofun,nofun⟩)
  have r6:∃z,AF h1 ⟨p.R,6,none⟩=some z:=⟨_,AD M0 rfl⟩
  have rz:Bf h1 ⟨p.R,6,none⟩=false:=AS M0
  have e2:Af h1 ⟨p.R,6,none⟩ (.bool true)=h1.setIfInBounds p.R (DC s p.mb true):=As M0 _
  have g2:=g1.set (p':=FZ p 0) hx.1 (DC s p.mb true) rfl rfl rfl rfl (fun k' hk y=>by
   cases k' with
   | run=>exact absurd rfl hk
   | t i=>
    intro hi
    obtain⟨y1,y2,v,a,y3,y4⟩:=y hi
    refine⟨y1,y2,v,a,y3,?_⟩
    show _=FG p.R i (p.wk i) (p.sd i) v a (p.gone i||decide (i<0))
    rw [show decide (i<0)=false by simp,Bool.or_false];exact y4
   | _=>exact y) ⟨hx.1,hx.2.1,Ob _ _ _⟩ g.num g.JG
  rw [hx.2.1]at g2
  have uR:AN (NL X p M) h (h1.setIfInBounds p.R (DC s p.mb true)):=(u1.mono fun _ _ x=>x.elim).trans (AN.set _ _ _ (.inl ⟨_,hx.1,hx.2.1⟩))
  have I2:X.I p.u (h1.setIfInBounds p.R (DC s p.mb true)):=hX.loc _ _ _ (fun b hb=>(AX _ (fun e=>(g1.apart _ hx.1).2 (by rw [hx.2.1,e];exact hb))).trans (u1.2 b (g.Hg b hb).1 (fun x=>x))) hI
  have PH:AR (h1.setIfInBounds p.R (DC s p.mb true)) lv 38 8 (p.live p.num).length ((p.live p.num).flatMap (Im p (Ab p.log))):=sl.upd (AN.set (T:=fun b=>b=p.R) _ _ _ rfl) (fun b DN e=>by
   have h3:=hb b DN
   have h4:=g.lt hx.1
   rw [hx.2.1]at h4
   omega)
  have JQ:∀b,blk lv=some b->h.size<=b/\b<(h1.setIfInBounds p.R (DC s p.mb true)).size:=fun b DN=>⟨hb b DN,PH.lt DN⟩
  have R9:h.size<=(h1.setIfInBounds p.R (DC s p.mb true)).size:=uR.size
  clear M0
  repeat(first|refine AI ?_|refine AH ?_|refine AE ?_|refine AV ?_|refine Bc ?_|refine Az ?_|refine Bg ?_|refine Am ?_|refine B8 ?_)
  refine CS rfl ⟨nofun,nofun⟩ r6 rz (ig _) ?_
  rw [e2]
  clear e2 r6 rz sl hb g1 pA hR1
  generalize h1.setIfInBounds p.R (DC s p.mb true)=h2 at g2 uR I2 PH JQ R9⊢
  obtain⟨W2,nI⟩:∃W2:Nat->Prop,W2=fun b=>NL X p M b\/h2.size<=b:=⟨_,rfl⟩
  have g3:GI X W2 (FZ p 0) (Ab p.log) s (M.set .run (DC s p.mb true)) h2:=g2.ours.Pw (fun b hb=>by rw [nI];exact .inl hb)
  have old:∀b,b<h.size->W2 b->NL X p M b:=fun b hb hw=>by
   rw [nI]at hw
   exact hw.resolve_right (by omega)
  have nL:∀b,blk lv=some b->¬W2 b:=fun b hb hw=>by
   obtain⟨y1,y2⟩:=JQ b hb
   rw [nI]at hw
   rcases hw with(⟨k,hk,e⟩|hw|hw|⟨i,hi,q,hq,e⟩)|hw
   ·have:=g.lt hk;omega
   ·have:=Ap (g.Fu b hw).1;omega
   ·have:=(g.Hg b hw).1;omega
   ·have:=Ap (g.CZ i hi q hq).1;omega
   ·omega
  have qw:∀b,W2 b->NL X p M b\/h.size<=b:=fun b hw=>by
   rw [nI]at hw
   exact hw.imp id fun y=>by omega
  have yS:∀b,h2.size<=b->W2 b:=fun b hb=>by rw [nI];exact .inr hb
  clear g2 nI
  repeat(first|refine AI ?_|refine AH ?_|refine AE ?_|refine Ak ?_|refine Aq ?_)
  refine B1 (fun q:Nat×GG X=>[(9,.int .i64 q.1),(3,lv),(0,ptr p.R)]) (fun q h' AW=>q.1<=p.num/\AW=⟨0,q.2⟩/\Fw X q.2.p (FZ p q.1)/\(∃s' M',GI X W2 (FZ p q.1) (Ab p.log) s' M' h')/\X.I p.u h'/\AN W2 h2 h') (fun q=>p.num-q.1) (0,γ) ⟨rfl,rfl,rfl,trivial⟩ ⟨Bv _,rfl,hv.more (a:=p.Ax) (b:=p.Da) (c:=true) (by
   unfold FZ
   congr 1
   funext j;simp),⟨s,_,g3⟩,I2,AN.refl _ _⟩ ?_
  clear g3 I2
  rintro⟨i,E5⟩ h3 Hz ⟨hi,DL,mn,⟨s3,M3,g3⟩,I3,u3⟩ again
  dsimp only at hi mn g3 again DL⊢
  subst DL
  obtain⟨aT3,kT3,eT3⟩:=Mem.Sl.val (show M3.Sl .BI s3.T 48 1 p.num ((List.range p.num).map fun i=>ptr (p.tb i))from g3.all .BI)
  have pA:AF h3 ⟨p.R,0,none⟩=some (.slice aT3 p.num kT3):=by
   have:=g3.GH
   rw [<-eT3];exact AD this rfl
  by_cases CO:i<p.num
  ·obtain⟨b,k,fK,hc,hk,ebT⟩:=g3.RF (i:=i) CO
   rw [eT3]at fK
   injection fK with e1 e2 e3
   subst e1
   obtain⟨v,a,Gp,mm⟩:=g3.JV (i:=i) CO
   obtain⟨_,t,o,c,b0,n,w,x,kk,rfl⟩:=Gp.form
   have d13:AF h3 ⟨p.tb i,13,none⟩=some (.bool (p.gone i||decide (i<i))):=AD mm rfl
   rw [show decide (i<i)=false by simp,Bool.or_false]at d13
   have Rw:AF h3 ⟨b,0+i*1,none⟩=some (ptr (p.tb i)):=hc
   clear mm Gp
   cases hg:p.gone i with
   | true=>
    rw [hg]at d13
    repeat(first|refine AI ?_|refine AH ?_|refine AE ?_|refine Ar ?_|refine Ak ?_|refine Bb ?_|refine AV ?_|refine Aq ?_|refine Bc ?_|refine Az ?_|refine B9 ?_|refine Bs ?_|refine BR (kd:=.i64) rfl (i64_in (by omega) (by omega)) ?_|refine BN ?_|refine Cd ?_|refine BU ?_|refine Am ?_|refine Av rfl (by assumption) ?_)
    exact Ah (again (i+1,E5) _ _ (by dsimp only;omega) ⟨by dsimp only;omega,rfl,by dsimp only;rw [<-Mq hg];exact mn,⟨s3,M3,by dsimp only;rw [<-Mq hg];exact g3⟩,I3,u3⟩) ⟨rfl,rfl,rfl,trivial⟩
   | false=>
    rw [hg]at d13
    obtain⟨r,M0,iU⟩:=Dn i CO hg
    have hgo:=YS (γ:=E5) (p:=FZ p i) (j:=i) hX mn g3 I3 hJ hQ CO (by show(p.gone i||decide (i<i))=false;rw [hg];simp) (fun e=>by cases e) (fun e=>by
     have:p.st i= .born:=e
     rw [M0]at this;cases this)
    have zA:AY Tryz.prog true (Ez Tryz.prog (PX X)) 71 #[ptr (p.tb i)] h3 ⟨0,E5⟩ _:=hgo
    repeat(first|refine AI ?_|refine AH ?_|refine AE ?_|refine Ar ?_|refine Ak ?_|refine AV ?_|refine Aq ?_|refine Bc ?_|refine Az ?_|refine B9 ?_|refine Bs ?_|refine BN ?_|refine Cd ?_|refine BU ?_|refine Av rfl (by assumption) ?_)
    refine BV rfl zA ?_
    rintro v h4 MC ⟨KT,rfl,q1,q2,q3,q4,Xg⟩
    have hT:=Xg.2.1
    rw [q1,q4]at hT
    have ep:KT.p=FZ p (i+1):=by
     rcases hT with⟨h1,_⟩|⟨_,e⟩
     ·cases h1
     ·rw [e];exact TQ
    obtain⟨s4,M4,g4⟩:=Xg.2.2.gi
    rw [q2,q3]at g4
    have u4:=Xg.2.2.upd
    rw [q2,q3]at u4
    have I4:=Xg.2.2.I
    rw [ep]at I4 g4
    repeat(first|refine AH ?_|refine AE ?_|refine Bb ?_|refine AV ?_|refine Aq ?_|refine BR (kd:=.i64) rfl (i64_in (by omega) (by omega)) ?_)
    exact Ah (again (i+1,KT) _ _ (by dsimp only;omega) ⟨by dsimp only;omega,rfl,by dsimp only;rw [ep];exact Fw.refl _,⟨s4,M4,g4.Pw (fun b hb=>hb.elim id fun y=>yS b (Nat.le_trans u3.size y))⟩,I4,u3.trans u4⟩) ⟨rfl,rfl,rfl,trivial⟩
  ·obtain rfl:i=p.num:=by omega
   clear again
   repeat(first|refine AI ?_|refine AH ?_|refine AE ?_|refine AV ?_|refine Aq ?_|refine Bc ?_|refine Az ?_|refine Bg ?_|refine BN ?_|refine Am ?_|refine AQ ?_|refine B8 ?_|refine Av rfl (by assumption) ?_)
   refine CL rfl ⟨E5,rfl,mn,⟨s3,M3,g3.Pw qw⟩,I3,⟨Dt R9 u3.size,fun b hb hn=>?_⟩,PH.upd u3 nL,fun b hb=>⟨(JQ b hb).1,F0 (JQ b hb).2 u3.size⟩⟩
   exact(u3.2 b (by omega) (fun y=>hn (old b hb y))).trans (uR.2 b hb hn)
end
end
section
open Go Go.TJ Go.Conc Go.Proofs
section
variable{X:Us}{W:Nat->Prop}{p:PS X.U}{s:Pu}{M:Mem Nm}{h:Hp}{γ:GG X}
abbrev Cj(e:Int)(n:Nat)(a b c d:Value):List Value:=[.int .i8 e,.int .i64 n,a,b,c,d,AK]
abbrev R7:List Value:=[.int .i8 0,.int .i64 0,AK,AK,AK,AK,AK]
theorem dS(hX:X.Ok)(hv:Fw X γ.p p)(g:GI X W p (Ab p.log) s M h)(hI:X.I p.u h)(hJ:X.J p.log p.u p.val)(hQ:∀x,X.Q x (Bm x p.log) (p.st x) p.u)(hn:p.num<=64)(oh:p.fl<=64)(Dn:∀j,j<p.num->p.gone j=false->∃r,p.st j= .Bp r/\JJ X r){e:Int}:
  AY Tryz.prog true (Ez Tryz.prog (PX X)) 41 #[ptr p.R,.int .i8 e] h ⟨0,γ⟩ (CJ fun v h' AW=>∃(Ae:GG X) (s':Pu) (M':Mem Nm) (lv:Value),AW=⟨0,Ae⟩/\Fw X Ae.p (Nk p)/\GI X (fun b=>NL X p M b\/h.size<=b) (Nk p) (Ab p.log) s' M' h'/\X.I p.u h'/\AN (NL X p M) h h'/\
   AR h' lv 38 8 (p.live p.num).length ((p.live p.num).flatMap (Im p (Ab p.log)))/\v= .agg (Cj e p.Ax.length s'.L s'.W s'.Y lv).toArray):=by
 refine CK (n:=48) ?_
 have uA:AN (fun _=>False) h (h.push (.cells R7.toArray 32)):=AN.push _ _
 have nA:(h.push (.cells R7.toArray 32))[h.size]?=some (.cells R7.toArray 32 (0,0)):=AG _ _
 have gA:=g.A5 uA
 have IA:=hX.loc _ _ _ (fun b hb=>uA.2 b (g.Hg b hb).1 (fun x=>x)) hI
 have sA:(h.push (.cells R7.toArray 32)).size=h.size+1:=CH _
 have gI:=ru hX hv gA IA hJ hQ hn Dn
 repeat(first|refine AI ?_|refine AH ?_|refine AE ?_|refine AV ?_|refine Cn ?_)
 refine BV rfl gI ?_
 clear gI
 rintro lv h1 H0 ⟨E5,rfl,mn,⟨s1,M1,g1⟩,I1,u1,sl,xA⟩
 have nO:¬NL X p M h.size:=fun x=>by
  rcases x with⟨k,hk,e⟩|x|x|⟨i,hi,q,hq,e⟩
  ·have:=g.lt hk;omega
  ·have:=Ap (g.Fu _ x).1;omega
  ·have:=(g.Hg _ x).1;omega
  ·have:=Ap (g.CZ i hi q hq).1;omega
 have n1:=u1.get nA nO
 obtain⟨aF,kF,eF⟩:=Mem.Sl.val (show M1.Sl .IS s1.F 4 1 p.fl (List.replicate p.fl (.bool false))from g1.all .IS)
 obtain⟨aL,kL,eL⟩:=Mem.Sl.val (show M1.Sl .log s1.L 38 8 p.log.length (p.log.flatMap (CF (Ab p.log)))from g1.all .log)
 obtain⟨aW,kW,eW⟩:=Mem.Sl.val (show M1.Sl .Ax s1.W 3 1 p.Ax.length (p.Ax.map fun(n:Nat)=>Value.int .i64 (n:Int))from g1.all .Ax)
 obtain⟨aY,kY,eY⟩:=Mem.Sl.val (show M1.Sl .Da s1.Y 3 1 p.Da.length (p.Da.map fun(n:Nat)=>Value.int .i64 (n:Int))from g1.all .Da)
 obtain⟨aV,kV,eV⟩:=sl.val
 subst eV
 have hr:=g1.GH
 have c2:AF h1 ⟨p.R,2,none⟩=some (.slice aL p.log.length kL):=by rw [<-eL];exact AD hr rfl
 have c3:AF h1 ⟨p.R,3,none⟩=some (.slice aW p.Ax.length kW):=by rw [<-eW];exact AD hr rfl
 have c4:AF h1 ⟨p.R,4,none⟩=some (.slice aY p.Da.length kY):=by rw [<-eY];exact AD hr rfl
 have c5:AF h1 ⟨p.R,5,none⟩=some (.slice aF p.fl kF):=by rw [<-eF];exact AD hr rfl
 have Ka:M1.Sl .IS (.slice aF p.fl kF) 4 1 p.fl (List.replicate p.fl (.bool false)):=by
  have:=g1.all .IS
  rw [<-eF];exact this
 have hSD:∀o,¬(Ez Tryz.prog (PX X)).still E5 ⟨h.size,o,none⟩:=fun o=>On mn g1 (fun k hk e=>by
  rcases g1.wide k hk with y|y
  ·exact nO (e▸y)
  ·omega)
 clear hr
 obtain⟨D,hD⟩:∃D,D=h.size:=⟨_,rfl⟩
 rw [<-hD]at n1 hSD nO⊢
 repeat(first|refine AI ?_|refine AH ?_|refine AE ?_|refine Ak ?_|refine AV ?_|refine Aq ?_|refine Bc ?_|refine Az ?_|refine BN ?_|refine Av rfl (by assumption) ?_)
 refine B1 (fun i:Nat=>[(16,.int .i64 i),(14,.slice aF p.fl kF),(15,.int .i64 p.fl),(6,AK),(0,ptr p.R),(1,.int .i8 e),(5,.slice aV (p.live p.num).length kV),(4,ptr D)]) (fun i h' AW=>i<=p.fl/\h'=h1/\AW=⟨0,E5⟩) (fun i=>p.fl-i) 0 ⟨rfl,rfl,rfl,rfl,rfl,rfl,rfl,rfl,trivial⟩ ⟨Bv _,rfl,rfl⟩ ?_
 rintro i h2 FJ ⟨hi,rfl,rfl⟩ again
 by_cases CO:i<p.fl
 ·obtain⟨cap,e1,hk,hc,_⟩:=Ka.cell g1.Ju (by omega)
  injection e1 with e1 e2 e3
  subst e1 e3
  have hci:AF h2 ⟨M1.B .IS,0+i*1,none⟩=some (.bool false):=by
   rw [Nat.zero_add,Nat.mul_one];exact hc i _ (by simp [CO])
  repeat(first|refine AI ?_|refine AH ?_|refine AE ?_|refine Ar ?_|refine Ak ?_|refine Bb ?_|refine AV ?_|refine Aq ?_|refine Bs ?_|refine BR (kd:=.i64) rfl (i64_in (by omega) (by omega)) ?_|refine Cd ?_|refine BU ?_|refine Am ?_|refine Av rfl (by assumption) ?_)
  exact Ah (again (i+1) _ _ (by omega) ⟨by omega,rfl,rfl⟩) ⟨rfl,rfl,rfl,rfl,rfl,rfl,rfl,rfl,trivial⟩
 ·obtain rfl:i=p.fl:=by omega
  clear again
  repeat(first|refine AI ?_|refine AH ?_|refine AE ?_|refine Bg ?_|refine Am ?_|refine B8 ?_)
  refine D7 (fun h'=>AF h' ⟨p.R,2,none⟩=some (.slice aL p.log.length kL)/\AF h' ⟨p.R,3,none⟩=some (.slice aW p.Ax.length kW)/\AF h' ⟨p.R,4,none⟩=some (.slice aY p.Da.length kY)) 21 ?_
  have hZ:=And.intro c2 (And.intro c3 c4)
  refine AU 0 hZ ?_
  refine AU 1 hZ ?_
  refine BE 2 hZ ?_
  refine Ag 3 hZ ?_
  refine A8 4 (fun _ hz=>hz.2.1) hZ ?_
  refine Er 5 rfl (by kernel_rfl) rfl rfl rfl rfl hZ ?_
  refine AU 6 hZ ?_
  refine BE 7 hZ ?_
  refine Ag 8 hZ ?_
  refine A8 9 (fun _ hz=>hz.1) hZ ?_
  refine AU 10 hZ ?_
  refine BE 11 hZ ?_
  refine Ag 12 hZ ?_
  refine A8 13 (fun _ hz=>hz.2.1) hZ ?_
  refine AU 14 hZ ?_
  refine BE 15 hZ ?_
  refine Ag 16 hZ ?_
  refine A8 17 (fun _ hz=>hz.2.2) hZ ?_
  refine AU 18 hZ ?_
  refine AU 19 hZ ?_
  refine CQ (v:=.agg (Cj e p.Ax.length (.slice aL p.log.length kL) (.slice aW p.Ax.length kW) (.slice aY p.Da.length kY) (.slice aV (p.live p.num).length kV)).toArray) (h':=h2) 20 rfl (by kernel_rfl) (fun ρ Q X Aa hq=>De Aa rfl rfl hq) hZ ?_
  have Ea:∀j,j<7->(∃u,AF h2 ⟨D,0+j,none⟩=some u)/\Bf h2 ⟨D,0+j,none⟩=false/\¬(Ez Tryz.prog (PX X)).still E5 ⟨D,0+j,none⟩:=fun j hj=>by
   refine⟨?_,AS n1,hSD _⟩
   rcases (show j=0\/j=1\/j=2\/j=3\/j=4\/j=5\/j=6 by omega)with rfl|rfl|rfl|rfl|rfl|rfl|rfl <;> exact⟨_,AD n1 rfl⟩
  refine D6 (h':=Cm h2 D 0 (Cj e p.Ax.length (.slice aL p.log.length kL) (.slice aW p.Ax.length kW) (.slice aY p.Da.length kY) (.slice aV (p.live p.num).length kV))) 21 rfl (by kernel_rfl) rfl rfl rfl (fun ρ Q X Aa hq=>B6 (vs:=(Cj e p.Ax.length (.slice aL p.log.length kL) (.slice aW p.Ax.length kW) (.slice aY p.Da.length kY) (.slice aV (p.live p.num).length kV))) (Aa _ _ rfl) (Aa _ _ rfl) rfl (by simp [OneCell]) Ea hq) ?_
  refine BF ?_
  rw [Au (c:=R7) (vs:=(Cj e p.Ax.length (.slice aL p.log.length kL) (.slice aW p.Ax.length kW) (.slice aY p.Da.length kY) (.slice aV (p.live p.num).length kV))) n1 rfl]
  (repeat refine AQ ?_)
  have nC:(h2.setIfInBounds D (.cells (Cj e p.Ax.length (.slice aL p.log.length kL) (.slice aW p.Ax.length kW) (.slice aY p.Da.length kY) (.slice aV (p.live p.num).length kV)).toArray 32 (0,0)))[D]?=some (.cells ((Cj e p.Ax.length (.slice aL p.log.length kL) (.slice aW p.Ax.length kW) (.slice aY p.Da.length kY) (.slice aV (p.live p.num).length kV))++[]).toArray 32 (0,0)):=by rw [DI];exact AJ n1
  have nK:∀k,M1.ok k->M1.B k≠D:=fun k hk e=>by
   rcases g1.wide k hk with y|y
   ·exact nO (e▸y)
   ·omega
  have nD:¬X.HE p.u D:=fun x=>nO (.inr (.inr (.inl x)))
  have nCc:¬X.FC D:=fun x=>nO (.inr (.inl x))
  have g2:=g1.loose nK nCc (fun j hj q hq e=>nO (.inr (.inr (.inr ⟨j,hj,q,hq,e⟩)))) (.cells (Cj e p.Ax.length (.slice aL p.log.length kL) (.slice aW p.Ax.length kW) (.slice aY p.Da.length kY) (.slice aV (p.live p.num).length kV)).toArray 32 (0,0))
  refine BD (vs:=(Cj e p.Ax.length (.slice aL p.log.length kL) (.slice aW p.Ax.length kW) (.slice aY p.Da.length kY) (.slice aV (p.live p.num).length kV))) rfl rfl rfl (CA nC) ⟨E5,s1,M1,_,rfl,mn,g2.Pw (fun b hb=>hb.imp id fun y=>by omega),hX.loc _ _ _ (fun b hb=>AX _ (fun e=>nD (e▸hb))) I1,⟨?_,fun x hx hn=>?_⟩,sl.upd (AN.set (T:=fun b=>b=D) _ _ _ rfl) (fun b hb e=>?_),by rw [eL,eW,eY]⟩
  ·rw [JY];have:=u1.size;omega
  ·rw [AX _ (by omega),u1.2 x (by omega) hn]
   exact uA.2 x hx (fun x=>x)
  ·have:=(xA b hb).1;omega
end
end
section
open Go Go.TJ Go.Conc Go.Proofs
theorem Ac{h:Hp}{s:Value}{e sz n:Nat}{cells:List Value}(x:AR h s e sz n cells){R:Nat}{c:Array Value}{e':TypeId}{f:Nat×Nat}(hR:h[R]?=some (.cells c e' f))(B7:e≠e'):∀b,blk s=some b->b≠R:=by
 rintro b hb rfl
 obtain⟨_,⟨rfl,_⟩|⟨b',cap,rest,rfl,h1,h2,h3⟩⟩:=x
 ·cases hb
 ·cases hb
  rw [h3]at hR
  injection hR with hR
  injection hR with _ hR _
  exact B7 hR
section
variable{X:Us}{h:Hp}{γ:GG X}
structure EZ(X:Us)(v0:Nat->Int)(AZ:List Int)(nb most:Nat)(p:PS X.U)(e:Int)(lL lW lY lV:Value)(h:Hp):Prop where
 reg:fQ X v0 AZ nb p
 XX:(e=1/\p.live nb=[]/\p.log.length<=most)\/(e=2/\p.live nb≠[]/\p.log.length=most)
 log:AR h lL 38 8 p.log.length (p.log.flatMap (CF (Ab p.log)))
 Ax:AR h lW 3 1 p.Ax.length (p.Ax.map fun(n:Nat)=>Value.int .i64 (n:Int))
 Da:AR h lY 3 1 p.Da.length (p.Da.map fun(n:Nat)=>Value.int .i64 (n:Int))
 left:AR h lV 38 8 (p.live nb).length ((p.live nb).flatMap (Im p (Ab p.log)))
 I:X.I p.u h
 J:X.J p.log p.u p.val
 Q:∀x,X.Q x (Bm x p.log) (p.st x) p.u
 Fu:∀b,X.FC b->h[b]?=some (Ay (p.val b))
def mS{U:Type}(R mb:Nat)(v0:Nat->Int)(u0:U):PS U:=⟨R,mb,0,0,fun _=>0,fun _=>0,fun _=>0,fun _=>0,fun _=>0,fun _=>0,fun _=>.nilFunc,fun _=>.born,fun _=>false,fun _=>[],[],[],[],v0,false,u0⟩
abbrev bt:Pu:=⟨AK,AK,AK,AK,AK⟩
def V9(R mb:Nat):Mem Nm:=⟨fun k=>k= .run\/k= .map,fun k=>if k= .run then R else mb,fun k=>if k= .run then DC bt mb false else .map #[] 0⟩
theorem giZ{R mb:Nat}{v0:Nat->Int}{u0:X.U}{W:Nat->Prop}(hR:h[R]?=some (DC bt mb false))(hm:h[mb]?=some (.map #[] 0))(xJ:W R)(hWm:W mb)(hC:∀b,X.FC b->h[b]?=some (Ay (v0 b))/\W b)(hD:∀b,X.HE u0 b->b<h.size/\W b)(h1:¬X.FC R/\¬X.HE u0 R)(h2:¬X.FC mb/\¬X.HE u0 mb):GI X W (mS R mb v0 u0) [] bt (V9 R mb) h:=by
 have B7:R≠mb:=fun e=>by rw [e,hm]at hR;cases hR
 have key:∀k,(V9 R mb).ok k->(k= .run/\(V9 R mb).B k=R)\/(k= .map/\(V9 R mb).B k=mb):=fun k hk=>by
  rcases hk with rfl|rfl
  ·exact .inl ⟨rfl,rfl⟩
  ·exact .inr ⟨rfl,rfl⟩
 refine⟨⟨fun k hk=>?_,fun k k' hk Dh e=>?_⟩,fun k=>?_,fun k hk=>?_,hC,fun k hk=>?_,hD,fun b hb=>(by cases hb),fun e he=>(by cases he),fun i hi=>absurd hi (QB _),fun i j hi=>absurd hi (QB _)⟩
 ·rcases key k hk with⟨rfl,_⟩|⟨rfl,_⟩
  ·exact hR
  ·exact hm
 ·rcases key k hk with⟨rfl,e1⟩|⟨rfl,e1⟩ <;> rcases key k' Dh with⟨rfl,e2⟩|⟨rfl,e2⟩
  ·rfl
  ·exact absurd (e1.symm.trans (e.trans e2)) B7
  ·exact absurd (e2.symm.trans (e.symm.trans e1)) B7
  ·rfl
 ·have no:∀{k:Nm},k≠ .run->k≠ .map->¬(V9 R mb).ok k:=fun a b x=>x.elim a b
  cases k with
  | run=>exact⟨.inl rfl,rfl,rfl⟩
  | map=>exact⟨.inr rfl,rfl,#[],0,rfl,F1.nil⟩
  | BI=>exact Mem.Sl.nil (no nofun nofun)
  | log=>exact Mem.Sl.nil (no nofun nofun)
  | Ax=>exact Mem.Sl.nil (no nofun nofun)
  | Da=>exact Mem.Sl.nil (no nofun nofun)
  | IS=>exact Mem.Sl.nil (no nofun nofun)
  | _=>exact fun hi=>absurd hi (QB _)
 ·rcases key k hk with⟨_,e⟩|⟨_,e⟩ <;> rw [e] <;> assumption
 ·rcases key k hk with⟨_,e⟩|⟨_,e⟩ <;> rw [e] <;> assumption
theorem yK(hX:X.Ok){v0:Nat->Int}{u0:X.U}{AZ:List Int}{m:Int}{Di:List (FuncId×Array Value)}{sP sB:Value}(h0:γ.p.num=0)(w7:0<=m)(uJ:m<=65536)(hC:∀b,X.FC b->h[b]?=some (Ay (v0 b)))(hD:∀b,X.HE u0 b->b<h.size)(hI:X.I u0 h)(hJ:X.J [] u0 v0)(hQ:∀x,X.Q x [] .born u0)
  (Rj:Di.length<=64) (hB:AR h sB 49 1 Di.length (Di.map fun q=>.func (.func q.1) #[] q.2)) (hBn:∀c,blk sB=some c->¬X.FC c/\¬X.HE u0 c) (hP:∀u h',X.I u h'->AN (fun b=>X.FC b\/X.HE u0 b) h h'->Hh h' sP (AZ.map fun x=>.int .i64 x))
  (N9:∀(k:Nat) (q:FuncId×Array Value),Di[k]?=some q->AT Tryz.prog q.1/\Body X k q.1 q.2):
  AY Tryz.prog true (Ez Tryz.prog (PX X)) 22 #[sP,.int .i64 m,sB] h ⟨0,γ⟩ (CJ fun v h' AW=>∃(Ae:GG X) (p:PS X.U) (e:Int) (lL lW lY lV:Value),AW=⟨0,Ae⟩/\(∀a,¬(Ez Tryz.prog (PX X)).still Ae a)/\(∀i,i≠0->i<(PX X).num Ae->(PX X).ch Ae i=none)/\v= .agg (Cj e p.log.length lL lW lY lV).toArray/\EZ X v0 AZ Di.length m.toNat p e lL lW lY lV h'/\AN (fun b=>X.FC b\/X.HE u0 b) h h'):=by
 have no0:∀a,¬(Ez Tryz.prog (PX X)).still γ a:=fun a x=>by
  obtain⟨j,hj,_⟩:=J5 x
  omega
 obtain⟨aP,kP,eP⟩:=(hP _ _ hI (AN.refl _ _)).val
 rw [Ca]at eP
 obtain⟨aB,kB,eB⟩:=hB.val
 subst eP eB
 refine CK (n:=30) ?_
 repeat(first|refine AI ?_|refine AH ?_|refine AE ?_|refine Ar ?_|refine AV ?_|refine Bg ?_|refine VL rfl rfl rfl ?_|refine Cn ?_|refine BN ?_|refine Am ?_)
 refine lg rfl rfl ?_
 refine Cr (cells:=#[AK,.map (some (h.size+2)),AK,AK,AK,AK,.bool false]) rfl rfl (by simp only [Array.size_push];rfl) rfl ?_
 repeat(first|refine DO ?_|refine OB rfl rfl ?_)
 refine OR rfl rfl rfl rfl ⟨nofun,nofun⟩ (no0 _) ?_
 simp only [Array.size_push]
 refine A6 (fun h5=>AN (fun _=>False) h h5/\h5.size=h.size+5/\h5[h.size]?=some (.cells #[.slice aP AZ.length kP] 23 (0,0))/\h5[h.size+1]?=some (.cells R7.toArray 32 (0,0))/\h5[h.size+2]?=some (.map #[] 0)/\h5[h.size+3]?=some (.cells #[AK,.map (some (h.size+2)),AK,AK,AK,AK,.bool false] 111 (0,0))/\h5[h.size+4]?=some (Xq (ptr (h.size+3)) 106)) ?_ ?_
 ·exact rG h (.cells #[.slice aP AZ.length kP] 23) (.cells R7.toArray 32) (.map #[] 0) (.cells #[AK,.map (some (h.size+2)),AK,AK,AK,AK,.bool false] 111) (Xq (ptr (h.size+3)) 106)
 rintro h5 ⟨u5,s5,g0,g1,g2,g3,g4⟩
 have uh:∀b,X.FC b->b<h.size:=fun b hb=>Ap (hC b hb)
 obtain⟨W,hW⟩:∃W:Nat->Prop,W=fun b=>X.FC b\/X.HE u0 b\/b=h.size+3\/b=h.size+2\/h5.size<=b:=⟨_,rfl⟩
 have nW:∀b,b<h5.size->¬X.FC b->¬X.HE u0 b->b≠h.size+3->b≠h.size+2->¬W b:=fun b h1 h2 h3 h4 h5 x=>by
  rw [hW]at x
  rcases x with x|x|x|x|x
  ·exact h2 x
  ·exact h3 x
  ·exact h4 x
  ·exact h5 x
  ·omega
 have nC:∀b,h.size<=b->¬X.FC b:=fun b hb x=>by have:=uh b x;omega
 have nD:∀b,h.size<=b->¬X.HE u0 b:=fun b hb x=>by have:=hD b x;omega
 have gi0:GI X W (mS (h.size+3) (h.size+2) v0 u0) [] bt (V9 (h.size+3) (h.size+2)) h5:=giZ g3 g2 (by rw [hW];exact .inr (.inr (.inl rfl))) (by rw [hW];exact .inr (.inr (.inr (.inl rfl)))) (fun b hb=>⟨u5.get (hC b hb) (fun x=>x),by rw [hW];exact .inl hb⟩) (fun b hb=>⟨by have:=hD b hb;omega,by rw [hW];exact .inr (.inl hb)⟩) ⟨nC _ (by omega),nD _ (by omega)⟩ ⟨nC _ (by omega),nD _ (by omega)⟩
 have pi:XK X W h5 (h.size+3) (mS (h.size+3) (h.size+2) v0 u0) h5:=⟨⟨_,_,gi0⟩,hX.loc _ _ _ (fun b hb=>u5.2 b (hD b hb) (fun x=>x)) hI,hJ,hQ,rfl,AN.refl _ _⟩
 have jM:=kE (γ:=γ) (h:=h5) hX (p0:=mS (h.size+3) (h.size+2) v0 u0) (.inr ⟨h0,rfl⟩) (W:=W) (R:=h.size+3) (bP:=h.size) (bR:=h.size+4) (AZ:=AZ) (most:=m.toNat) (Di:=Di) (fun c hc=>by rw [hW];exact .inr (.inr (.inr (.inr hc)))) pi ⟨rfl,rfl,rfl,rfl,rfl,rfl,fun _=>rfl⟩ (by omega) Rj
  (hB.upd u5 (fun _ _ x=>x)) (fun c hc=>by
   have:=hB.lt hc
   obtain⟨x1,x2⟩:=hBn c hc
   exact nW c (by omega) x1 x2 (by omega) (by omega)) (fun u h' pD uu=>hP u h' pD ⟨Dt u5.size uu.size,fun b hb hn=>(uu.2 b (by omega) (nW b (by omega) (fun x=>hn (.inl x)) (fun x=>hn (.inr x)) (by omega) (by omega))).trans (u5.2 b hb (fun x=>x))⟩) (AD g0 rfl) (nW _ (by omega) (nC _ (by omega)) (nD _ (by omega)) (by omega) (by omega)) (AD g4 rfl) (nW _ (by omega) (nC _ (by omega)) (nD _ (by omega)) (by omega) (by omega)) N9
 rw [show((m.toNat:Nat):Int)=m by omega]at jM
 have c4:AF h5 ⟨h.size+4,0,none⟩=some (ptr (h.size+3)):=AD g4 rfl
 clear g4 gi0 pi
 repeat(first|refine AI ?_|refine AH ?_|refine AE ?_|refine AV ?_|refine Av rfl (by assumption) ?_)
 refine gO (r:=m) rfl rfl rfl rfl (by rw [if_neg (by omega)]) ?_
 refine VK (r:=m) rfl rfl rfl rfl (by rw [if_neg (by omega)]) ?_
 (repeat refine AV ?_)
 refine SN (fv:=#[]) (cv:=#[ptr h.size,ptr (h.size+4)]) rfl rfl (fun ρ Aa=>⟨C4 Aa (vs:=[]) rfl,C4 Aa (vs:=[ptr h.size,ptr (h.size+4)]) rfl⟩) ?_
 refine BV rfl jM ?_
 rintro _ h6 TW ⟨iG,p6,e,rfl,mn,XP,rg,rfl,XX⟩
 obtain⟨s6,M6,g6⟩:=XP.gi
 have nW1:¬W (h.size+1):=nW _ (by omega) (nC _ (by omega)) (nD _ (by omega)) (by omega) (by omega)
 have nW4:¬W (h.size+4):=nW _ (by omega) (nC _ (by omega)) (nD _ (by omega)) (by omega) (by omega)
 have c6:=XP.upd.AF c4 nW4
 have r6:=XP.upd.get g1 nW1
 have sz6:=XP.upd.size
 have fY:∀b,NL X p6 M6 b->W b:=fun b x=>by
  rcases x with⟨k,hk,rfl⟩|x|x|⟨i,hi,q,hq,rfl⟩
  ·exact g6.wide k hk
  ·exact(g6.Fu b x).2
  ·exact(g6.Hg b x).2
  ·exact(g6.CZ i hi q hq).2.1
 have jW:=dS (γ:=iG) (e:=e) hX mn g6 XP.I XP.J XP.Q (by rw [rg.num];exact Rj) (by rw [rg.fl];exact Rj) (fun j hj hg=>by
  rcases rg.alive j (by rw [<-rg.num];exact hj)with⟨_,r,y1,y2⟩|⟨y,_⟩
  ·exact⟨r,y1,y2⟩
  ·rw [hg]at y;cases y)
 rw [XP.R]at jW
 clear jM
 repeat(first|refine AI ?_|refine AH ?_|refine AE ?_|refine AV ?_|refine Aq ?_|refine Eo ?_|refine Av rfl (by assumption) ?_)
 refine BV rfl jW ?_
 clear jW
 rintro _ h7 Nl ⟨Ro,s7,M7,lv,rfl,tY,g7,I7,u7,XQ,rfl⟩
 have vw:¬NL X p6 M6 (h.size+1):=fun x=>nW1 (fY _ x)
 have r7:=u7.get r6 vw
 have mY:∀a,¬(Ez Tryz.prog (PX X)).still Ro a:=fun a x=>by
  obtain⟨j,hj,hg,_⟩:=J5 x
  have hv:=tY.view hX hj
  have hn:=tY.num
  have:(p6.gone j||decide (j<p6.num))=Ro.p.gone j:=hv.gone
  have Dm:j<p6.num:=by have:p6.num=Ro.p.num:=hn;omega
  rw [hg]at this
  simp [Dm]at this
 have ch7:∀i,i≠0->i<(PX X).num Ro->(PX X).ch Ro i=none:=fun i hi hl=>by
  cases i with
  | zero=>exact absurd rfl hi
  | succ j=>
   have hj:j<Ro.p.num:=OF hl
   have hv:=tY.view hX hj
   have hn:p6.num=Ro.p.num:=tY.num
   have hg:(p6.gone j||decide (j<p6.num))=Ro.p.gone j:=hv.gone
   show(if Ro.p.gone j=true then none else some (Ro.p.wk j))=none
   rw [<-hg,show decide (j<p6.num)=true by simp;omega,Bool.or_true]
   rfl
 have nb7:∀k,M7.ok k->M7.B k≠h.size+1:=fun k hk e'=>by
  rcases g7.wide k hk with y|y
  ·exact vw (e'▸y)
  ·omega
 have bB:p6.Ax.length=p6.log.length:=by rw [rg.Ax,Ca]
 have sL:AR h7 s7.L 38 8 p6.log.length (p6.log.flatMap (CF (Ab p6.log))):=Mem.Sl.slice g7.Ju (g7.all .log)
 have sW:AR h7 s7.W 3 1 p6.Ax.length (p6.Ax.map fun(n:Nat)=>Value.int .i64 (n:Int)):=Mem.Sl.slice g7.Ju (g7.all .Ax)
 have sY:AR h7 s7.Y 3 1 p6.Da.length (p6.Da.map fun(n:Nat)=>Value.int .i64 (n:Int)):=Mem.Sl.slice g7.Ju (g7.all .Da)
 rw [rg.num]at XQ
 have q1:=Ac sL r7 (by decide)
 have q2:=Ac sW r7 (by decide)
 have q3:=Ac sY r7 (by decide)
 have q4:=Ac XQ r7 (by decide)
 have Ea:∀j,j<7->(∃u,AF h7 ⟨h.size+1,0+j,none⟩=some u)/\Bf h7 ⟨h.size+1,0+j,none⟩=false/\¬(Ez Tryz.prog (PX X)).still Ro ⟨h.size+1,0+j,none⟩:=fun j hj=>by
  refine⟨?_,AS r7,mY _⟩
  rcases (show j=0\/j=1\/j=2\/j=3\/j=4\/j=5\/j=6 by omega)with rfl|rfl|rfl|rfl|rfl|rfl|rfl <;> exact⟨_,AD r7 rfl⟩
 refine Bz (vs:=Cj e p6.Ax.length s7.L s7.W s7.Y lv) rfl rfl (fun v hv=>?_) Ea ?_
 ·simp only [List.mem_cons,List.not_mem_nil,or_false]at hv
  rcases hv with rfl|rfl|rfl|rfl|rfl|rfl|rfl
  ·exact⟨nofun,nofun⟩
  ·exact⟨nofun,nofun⟩
  ·obtain⟨a,k,e'⟩:=sL.val;rw [e'];exact⟨nofun,nofun⟩
  ·obtain⟨a,k,e'⟩:=sW.val;rw [e'];exact⟨nofun,nofun⟩
  ·obtain⟨a,k,e'⟩:=sY.val;rw [e'];exact⟨nofun,nofun⟩
  ·obtain⟨a,k,e'⟩:=XQ.val;rw [e'];exact⟨nofun,nofun⟩
  ·exact⟨nofun,nofun⟩
 rw [Au (c:=R7) (vs:=Cj e p6.Ax.length s7.L s7.W s7.Y lv) r7 rfl]
 repeat(first|refine AE ?_|refine AQ ?_)
 have nF:(h7.setIfInBounds (h.size+1) (.cells (Cj e p6.Ax.length s7.L s7.W s7.Y lv).toArray 32 (0,0)))[h.size+1]?=some (.cells (Cj e p6.Ax.length s7.L s7.W s7.Y lv++[]).toArray 32 (0,0)):=by rw [DI];exact AJ r7
 have uF:AN (fun b=>b=h.size+1) h7 (h7.setIfInBounds (h.size+1) (.cells (Cj e p6.Ax.length s7.L s7.W s7.Y lv).toArray 32 (0,0))):=AN.set _ _ _ rfl
 have nDu:¬X.HE p6.u (h.size+1):=fun x=>vw (.inr (.inr (.inl x)))
 refine BD (vs:=Cj e p6.Ax.length s7.L s7.W s7.Y lv) rfl rfl rfl (CA nF) ⟨Ro,p6,e,s7.L,s7.W,s7.Y,lv,rfl,mY,ch7,by rw [bB],⟨rg,XX,sL.upd uF q1,sW.upd uF q2,sY.upd uF q3,XQ.upd uF q4,hX.loc _ _ _ (fun b hb=>AX _ (fun e'=>nDu (e'▸hb))) I7,XP.J,XP.Q,fun b hb=>?_⟩,⟨?_,fun b hb hn=>?_⟩⟩
 ·rw [AX _ (by have:=uh b hb;omega)]
  exact(g7.Fu b hb).1
 ·rw [JY];have:=u7.size;omega
 ·have hnW:¬W b:=nW b (by omega) (fun x=>hn (.inl x)) (fun x=>hn (.inr x)) (by omega) (by omega)
  rw [AX _ (by omega),u7.2 b (by omega) (fun x=>hnW (fY _ x)),XP.upd.2 b (by omega) hnW]
  exact u5.2 b hb (fun x=>x)
end
end
section
open Go Go.TJ Go.Conc Go.Proofs
section
variable{X:Us}{h:Hp}{i:Nat}{γ:GG X}{u:X.U}{L:List (Nat×Obj)}
structure X9(X:Us)(i:Nat)(γ:GG X)(u:X.U)(r:Rq):Prop where
 Q:X.Q i (Bm i (γ.p.acc i).log) (.Bp r) u
 J:X.J (γ.p.acc i).log u (γ.p.acc i).val
def Halt(X:Us)(i:Nat)(p:PS X.U)(ps:List PanicEntry)(h:Hp)(δ:Ix (GG X)):Prop:=∃Ae:GG X,δ=⟨0,Ae⟩/\Gk X i p Ae.p/\Stp X i Ae h/\ps=[{v:=Pv,recovered:=false}]
theorem Halt.along{p p':PS X.U}(a:Gk X i p p'){ps:List PanicEntry}{h:Hp}{δ:Ix (GG X)}(x:Halt X i p' ps h δ):Halt X i p ps h δ:=by
 obtain⟨Ae,rfl,al,s,e⟩:=x
 exact⟨Ae,rfl,a.trans al,s,e⟩
def vI(X:Us)(i:Nat)(γ:GG X)(u:X.U)(L:List (Nat×Obj))(r:Rq)(f:Int->Value)(w:Value)(h:Hp)(δ:Ix (GG X)):Prop:=∃Ae:GG X,δ=⟨0,Ae⟩/\GB X i Ae Ae.p.u L h/\HQ X i γ u r Ae/\w=f (Ae.p.val r.b)
theorem GB.X3(T:GB X i γ u L h){b:Nat}(hb:X.FC b):∃v,h[b]?=some (Ay v):=by
 obtain⟨s,M,g⟩:=T.gi
 exact⟨_,(g.Fu b hb).1⟩
theorem VD{b:Nat}{op a c:Int}(hb:X.FC b)(h1:(decide (1<=op)&&decide (op<=5))=true)(h2:op=1->a=0)(h3:op≠3->c=0):JJ X ⟨op,b,a,c⟩:=by
 simp only [Bool.and_eq_true,decide_eq_true_eq]at h1
 exact⟨hb,h1.1,h1.2,h2,h3⟩
theorem lK(hX:X.Ok)(T:GB X i γ u L h){b:Nat}(hb:X.FC b)(A:X9 X i γ u ⟨1,b,0,0⟩):AY Tryz.prog false (ED Tryz.prog (PX X) (i+1)) 30 #[ptr b,ptr (γ.p.tb i)] h ⟨0,γ⟩ (Ge (vI X i γ u L ⟨1,b,0,0⟩ (.int .i64 ·)) (Halt X i γ.p)):=by
 obtain⟨v,hv⟩:=T.X3 hb
 obtain⟨w,t,o,c,b0,n,x,y,k,Gp,CR⟩:=T.row
 have c0:AF h ⟨γ.p.tb i,0,none⟩=some (ptr γ.p.R):=AD CR rfl
 have Rm:AF h ⟨γ.p.tb i,13,none⟩=some (.bool false):=AD CR rfl
 clear CR Gp
 refine CK (n:=26) ?_
 repeat(first|refine AI ?_|refine AH ?_|refine AE ?_|refine AV ?_|refine Aq ?_)
 refine Bx rfl (Hj hv) ?_
 repeat(first|refine AI ?_|refine AH ?_|refine AE ?_|refine Ar ?_|refine AV ?_|refine Am ?_)
 refine Bx rfl (Jz c0 Rm) ?_
 repeat(first|refine AI ?_|refine AH ?_|refine AE ?_|refine AV ?_|refine Bc ?_|refine Az ?_|refine BU ?_)
 refine Dr rfl rfl rfl rfl rfl (NZ (r:=⟨1,b,0,0⟩) hX T (VD hb rfl (fun _=>rfl) (fun _=>rfl)) A.Q A.J) ?_ ?_
 ·rintro ps h' AW ⟨Ae,rfl,hS,st,rfl⟩
  exact⟨Ae,rfl,st.al,hS,rfl⟩
 rintro w h1 H0 ⟨Ae,rfl,T',st,rfl⟩
 repeat(first|refine AI ?_|refine AH ?_|refine AE ?_|refine AV ?_|refine Aq ?_|refine Eo ?_|refine AQ ?_)
 exact CL rfl ⟨Ae,rfl,T',st,rfl⟩
theorem dh(hX:X.Ok)(T:GB X i γ u L h){b:Nat}{a:Int}(hb:X.FC b)(A:X9 X i γ u ⟨2,b,a,0⟩):AY Tryz.prog false (ED Tryz.prog (PX X) (i+1)) 32 #[ptr b,ptr (γ.p.tb i),.int .i64 a] h ⟨0,γ⟩ (Ge (vI X i γ u L ⟨2,b,a,0⟩ (fun _=>.tuple #[])) (Halt X i γ.p)):=by
 obtain⟨v,hv⟩:=T.X3 hb
 obtain⟨w,t,o,c,b0,n,x,y,k,Gp,CR⟩:=T.row
 have c0:AF h ⟨γ.p.tb i,0,none⟩=some (ptr γ.p.R):=AD CR rfl
 have Rm:AF h ⟨γ.p.tb i,13,none⟩=some (.bool false):=AD CR rfl
 clear CR Gp
 refine CK (n:=23) ?_
 repeat(first|refine AI ?_|refine AH ?_|refine AV ?_)
 refine Bx rfl (Hj hv) ?_
 repeat(first|refine AI ?_|refine AH ?_|refine AE ?_|refine Ar ?_|refine AV ?_|refine Am ?_)
 refine Bx rfl (Jz c0 Rm) ?_
 repeat(first|refine AI ?_|refine AH ?_|refine AE ?_|refine AV ?_|refine Bc ?_|refine Az ?_|refine BU ?_)
 refine Dr rfl rfl rfl rfl rfl (NZ (r:=⟨2,b,a,0⟩) hX T (VD hb rfl (fun e=>absurd e (by decide)) (fun _=>rfl)) A.Q A.J) ?_ ?_
 ·rintro ps h' AW ⟨Ae,rfl,hS,st,rfl⟩
  exact⟨Ae,rfl,st.al,hS,rfl⟩
 rintro w h1 H0 ⟨Ae,rfl,T',st,rfl⟩
 repeat(first|refine AE ?_|refine AQ ?_)
 exact Eu rfl ⟨Ae,rfl,T',st,rfl⟩
theorem sI(hX:X.Ok)(T:GB X i γ u L h){b:Nat}{a c':Int}(hb:X.FC b)(A:X9 X i γ u ⟨3,b,a,c'⟩):AY Tryz.prog false (ED Tryz.prog (PX X) (i+1)) 31 #[ptr b,ptr (γ.p.tb i),.int .i64 a,.int .i64 c'] h ⟨0,γ⟩ (Ge (vI X i γ u L ⟨3,b,a,c'⟩ (fun z=>.bool (decide (z=a)))) (Halt X i γ.p)):=by
 obtain⟨v,hv⟩:=T.X3 hb
 obtain⟨w,t,o,c,b0,n,x,y,k,Gp,CR⟩:=T.row
 have c0:AF h ⟨γ.p.tb i,0,none⟩=some (ptr γ.p.R):=AD CR rfl
 have Rm:AF h ⟨γ.p.tb i,13,none⟩=some (.bool false):=AD CR rfl
 clear CR Gp
 refine CK (n:=39) ?_
 repeat(first|refine AI ?_|refine AH ?_|refine AE ?_|refine AV ?_|refine Aq ?_)
 refine Bx rfl (Hj hv) ?_
 repeat(first|refine AI ?_|refine AH ?_|refine AE ?_|refine Ar ?_|refine AV ?_|refine Am ?_)
 refine Bx rfl (Jz c0 Rm) ?_
 repeat(first|refine AI ?_|refine AH ?_|refine AE ?_|refine AV ?_|refine Bc ?_|refine Az ?_|refine BU ?_)
 refine Dr rfl rfl rfl rfl rfl (NZ (r:=⟨3,b,a,c'⟩) hX T (VD hb rfl (fun e=>absurd e (by decide)) (fun e=>absurd rfl e)) A.Q A.J) ?_ ?_
 ·rintro ps h' AW ⟨Ae,rfl,hS,st,rfl⟩
  exact⟨Ae,rfl,st.al,hS,rfl⟩
 rintro w h1 H0 ⟨Ae,rfl,T',st,rfl⟩
 repeat(first|refine AI ?_|refine AH ?_|refine AE ?_|refine AV ?_|refine Aq ?_|refine Eo ?_|refine AQ ?_)
 refine CL rfl ⟨Ae,rfl,T',st,?_⟩
 by_cases e:Ae.p.val b=a
 ·simp [behind,e]
 ·simp [behind,e]
theorem sM(hX:X.Ok)(T:GB X i γ u L h){b:Nat}{a:Int}(hb:X.FC b)(A:X9 X i γ u ⟨4,b,a,0⟩):AY Tryz.prog false (ED Tryz.prog (PX X) (i+1)) 68 #[ptr b,ptr (γ.p.tb i),.int .i64 a] h ⟨0,γ⟩ (Ge (vI X i γ u L ⟨4,b,a,0⟩ (fun z=>.int .i64 (IntKind.i64.wrap (z+a)))) (Halt X i γ.p)):=by
 obtain⟨v,hv⟩:=T.X3 hb
 obtain⟨w,t,o,c,b0,n,x,y,k,Gp,CR⟩:=T.row
 have c0:AF h ⟨γ.p.tb i,0,none⟩=some (ptr γ.p.R):=AD CR rfl
 have Rm:AF h ⟨γ.p.tb i,13,none⟩=some (.bool false):=AD CR rfl
 clear CR Gp
 refine CK (n:=34) ?_
 repeat(first|refine AI ?_|refine AH ?_|refine AE ?_|refine AV ?_|refine Aq ?_)
 refine Bx rfl (Hj hv) ?_
 repeat(first|refine AI ?_|refine AH ?_|refine AE ?_|refine Ar ?_|refine AV ?_|refine Am ?_)
 refine Bx rfl (Jz c0 Rm) ?_
 repeat(first|refine AI ?_|refine AH ?_|refine AE ?_|refine AV ?_|refine Bc ?_|refine Az ?_|refine BU ?_)
 refine Dr rfl rfl rfl rfl rfl (NZ (r:=⟨4,b,a,0⟩) hX T (VD hb rfl (fun e=>absurd e (by decide)) (fun _=>rfl)) A.Q A.J) ?_ ?_
 ·rintro ps h' AW ⟨Ae,rfl,hS,st,rfl⟩
  exact⟨Ae,rfl,st.al,hS,rfl⟩
 rintro w h1 H0 ⟨Ae,rfl,T',st,rfl⟩
 repeat(first|refine AI ?_|refine AH ?_|refine AE ?_|refine AV ?_|refine Aq ?_|refine Eo ?_|refine AQ ?_)
 exact CL rfl ⟨Ae,rfl,T',st,rfl⟩
end
end
section
open Go Go.TJ Go.Conc Go.Proofs
section
variable{Γ:Type}{main:Bool}{S:Cp Γ}{h h':Hp}{δ:Ix Γ}
abbrev iV(x:Int):Value:=.int .i64 x
theorem OK{a n:Int}(hn:0<n)(uI:n<=1000000):AY Tryz.prog main S 11 #[.int .i64 a,.int .i64 n] h δ (CJ (Gb (.int .i64 (a % n)) h δ)):=by
 have h1:a.tmod n=a-n*a.tdiv n:=Int.tmod_def a n
 have h2:-n<a.tmod n/\a.tmod n<n:=by
  rcases Int.lt_or_le a 0 with x|x
  ·have e:a= -(-a):=by omega
   rw [e,Int.neg_tmod,Int.tmod_eq_emod_of_nonneg (by omega)]
   have:=Int.emod_nonneg (-a) (by omega:n≠0)
   have:=Int.emod_lt_of_pos (-a) hn
   omega
  ·rw [Int.tmod_eq_emod_of_nonneg x]
   have:=Int.emod_nonneg a (by omega:n≠0)
   have:=Int.emod_lt_of_pos a hn
   omega
 refine CK (n:=14) ?_
 repeat(first|refine AI ?_|refine AH ?_|refine AE ?_|refine AV ?_|refine Aq ?_)
 refine SL (kd:=.i64) rfl rfl rfl rfl (by omega) rfl ?_
 by_cases AFR:a.tmod n<0
 ·have e:a.tmod n+n=a % n:=by
   have e1:(a.tmod n+n) % n=a % n:=by
    rw [h1,show a-n*a.tdiv n+n=a+n*(1-a.tdiv n) by rw [Int.mul_sub,Int.mul_one];omega,Int.add_mul_emod_self_left]
   rw [<-e1,Int.emod_eq_of_lt (by omega) (by omega)]
  rw [<-e]
  repeat(first|refine AI ?_|refine AH ?_|refine AE ?_|refine AV ?_|refine Aq ?_|refine Bs ?_|refine BR (kd:=.i64) rfl (i64_in (by omega) (by omega)) ?_|refine BU ?_|refine AQ ?_)
  exact DQ El
 ·have e:a.tmod n=a % n:=by
   have e1:(a.tmod n) % n=a % n:=by
    rw [h1,show a-n*a.tdiv n=a+n*(- a.tdiv n) by rw [Int.mul_neg];omega,Int.add_mul_emod_self_left]
   rw [<-e1,Int.emod_eq_of_lt (by omega) (by omega)]
  rw [<-e]
  repeat(first|refine AI ?_|refine AH ?_|refine AE ?_|refine Ar ?_|refine AV ?_|refine Aq ?_|refine Bg ?_|refine Am ?_|refine AQ ?_)
  exact DQ El
theorem U1{x:Int}:AY Tryz.prog main S 9 #[.int .i64 x] h δ (CJ fun w h' AW=>(∃b,w= .bool b/\(b=true->(10<=x/\x<=13)\/100<=x))/\h'=h/\AW=δ):=by
 refine CK (n:=13) ?_
 by_cases h1:10<=x
 ·by_cases h2:x<=13
  ·repeat(first|refine AI ?_|refine AH ?_|refine AE ?_|refine AV ?_|refine Aq ?_|refine CW ?_|refine Bl ?_|refine Bs ?_|refine AQ ?_)
   exact CL rfl ⟨⟨_,rfl,fun _=>.inl ⟨h1,h2⟩⟩,rfl,rfl⟩
  ·by_cases h3:100<=x
   ·repeat(first|refine AI ?_|refine AH ?_|refine AE ?_|refine AV ?_|refine Aq ?_|refine Bl ?_|refine Bd ?_|refine Bs ?_|refine Bg ?_|refine AQ ?_)
    exact CL rfl ⟨⟨_,rfl,fun _=>.inr h3⟩,rfl,rfl⟩
   ·repeat(first|refine AI ?_|refine AH ?_|refine AE ?_|refine AV ?_|refine Aq ?_|refine Bl ?_|refine Bd ?_|refine Bs ?_|refine Bg ?_|refine AQ ?_)
    exact CL rfl ⟨⟨_,rfl,fun z=>by cases z⟩,rfl,rfl⟩
 ·by_cases h3:100<=x
  ·omega
  ·repeat(first|refine AI ?_|refine AH ?_|refine AE ?_|refine AV ?_|refine Aq ?_|refine CW ?_|refine Bd ?_|refine Bg ?_|refine AQ ?_)
   exact CL rfl ⟨⟨_,rfl,fun z=>by cases z⟩,rfl,rfl⟩
structure PZ(h h':Hp)(s:Value)(ys:List Int):Prop where
 sl:AR h' s 3 1 ys.length (ys.map iV)
 up:AN (fun _=>False) h h'
 fr:∀b,blk s=some b->h.size<=b
theorem Hh.at{s:Value}{vs:List Value}(r:Hh h s vs):∃a k,s= .slice a vs.length k/\∀i v,vs[i]?=some v->∃b o,a=some ⟨b,o,none⟩/\AF h ⟨b,o+i*1,none⟩=some v:=by
 obtain⟨a,k,e⟩:=r.val
 refine⟨a,k,e,fun i v hv=>?_⟩
 obtain⟨b,o,k',e',hc⟩:=r.cell i v hv
 rw [e]at e'
 cases e'
 exact⟨b,o,rfl,hc⟩
theorem Nj{s:Value}{vs:List Int}{n:Int}(hv:Hh h s (vs.map iV))(cf:vs.length<=1000000000000000)(hn:n<=1000000)(hF:∀b o,h.size<=b->¬S.still δ.g ⟨b,o,none⟩):AY Tryz.prog main S 10 #[s,.int .i64 n] h δ (CJ fun w h' AW=>AW=δ/\∃ys,PZ h h' w ys/\ys.length<=n.toNat):=by
 obtain⟨a,k,rfl,hc⟩:=hv.at
 rw [Ca]
 refine CK (n:=26) ?_
 repeat(first|refine AI ?_|refine AH ?_|refine AE ?_|refine Ak ?_|refine Aq ?_)
 refine B1 (fun q:Nat×Value=>[(6,.int .i64 q.1),(5,q.2),(0,.slice a vs.length k),(1,.int .i64 n)]) (fun q h' AW=>AW=δ/\PZ h h' q.2 (vs.take q.1)/\q.1<=vs.length/\(q.1:Int)<=max n 0) (fun q=>vs.length-q.1) (0,AK) ⟨rfl,rfl,rfl,rfl,trivial⟩ ⟨rfl,⟨AR.nil,AN.refl _ _,fun b e=>by cases e⟩,Nat.zero_le _,by dsimp only;omega⟩ ?_
 rintro⟨q,sv⟩ h1 _ ⟨rfl,N,hq,mq⟩ again
 dsimp only at N hq mq again⊢
 have hlen:(vs.take q).length=q:=by rw [List.length_take];omega
 have MA:=N.sl
 rw [hlen]at MA
 obtain⟨sa,sk,fJ⟩:=MA.val
 by_cases c1:q<vs.length
 ·by_cases c2:(q:Int)<n
  ·obtain⟨z,hz⟩:∃z,vs[q]?=some z:=⟨_,Cl c1⟩
   obtain⟨b,o,rfl,ia⟩:=hc q (iV z) (by rw [EQ,hz];rfl)
   obtain⟨cc,ee,ff,hb,-⟩:=DG ia
   have Cg:b<h.size:=Ap hb
   have xI:=N.up.AF ia (fun x=>x)
   repeat(first|refine AI ?_|refine AH ?_|refine AE ?_|refine Ar ?_|refine Ak ?_|refine AV ?_|refine Bl ?_|refine Bs ?_|refine BN ?_|refine Cd ?_|refine BU ?_|refine Av rfl (by assumption) ?_)
   refine Fv (sz:=1) (z:=.int .i64 0) (cells:=#[.int .i64 z]) ?_
   refine D9 (new:=[.int .i64 z]) rfl rfl rfl rfl (MA.upd (AN.push (T:=fun _=>False) h1 (.cells #[.int .i64 z] 3)) (fun _ _ x=>x)) (AG _ _) rfl (by simp [OneCell]) (by omega) (by omega) (by rfl) (fun b o hb=>hF b o (N.fr b hb)) ?_
   intro s' h5 HY u5 MB
   have hN:PZ h h5 s' (vs.take (q+1)):=by
    have et:vs.take (q+1)=vs.take q++[z]:=by rw [List.take_add_one,hz];rfl
    have bU:=N.up.size
    refine⟨by rw [et,EF,C1,hlen];exact HY,?_,fun b hb=>?_⟩
    ·refine A2 ((N.up).trans (AN.push _ (.cells #[.int .i64 z] 3))) u5 fun b hb hx=>?_
     have:=N.fr b hx
     omega
    ·rcases MB b hb with x|x
     ·exact N.fr b x
     ·rw [x,CH];omega
   repeat(first|refine AH ?_|refine AE ?_|refine Bb ?_|refine AV ?_|refine Aq ?_|refine BR (kd:=.i64) rfl (i64_in (by omega) (by omega)) ?_)
   exact Ah (again (q+1,s') _ _ (by dsimp only;omega) ⟨rfl,hN,by dsimp only;omega,by dsimp only;omega⟩) ⟨rfl,rfl,rfl,rfl,trivial⟩
  ·repeat(first|refine AI ?_|refine AH ?_|refine AE ?_|refine AV ?_|refine Aq ?_|refine Bl ?_|refine Bs ?_|refine Bg ?_|refine BN ?_|refine Am ?_|refine AQ ?_|refine B8 ?_)
   exact CL rfl ⟨rfl,_,N,by omega⟩
 ·repeat(first|refine AI ?_|refine AH ?_|refine AE ?_|refine AV ?_|refine Aq ?_|refine CW ?_|refine Bd ?_|refine Bg ?_|refine BN ?_|refine Am ?_|refine AQ ?_|refine B8 ?_)
  exact CL rfl ⟨rfl,_,N,by omega⟩
theorem RU{s:Value}{vs:List Int}{n:Int}{st:Bool}(hv:Hh h s (vs.map iV))(cf:vs.length<=1000000000000000)(hF:∀b o,h.size<=b->¬S.still δ.g ⟨b,o,none⟩):AY Tryz.prog main S 12 #[s,.int .i64 n,.bool st] h δ (CJ fun w h' AW=>AW=δ/\∃ys,PZ h h' w ys/\ys.length<=8):=by
 obtain⟨a,k,rfl,hc⟩:=hv.at
 rw [Ca]
 refine CK (n:=44) ?_
 repeat(first|refine AI ?_|refine AH ?_|refine AE ?_|refine Ak ?_|refine Aq ?_)
 refine B1 (fun q:Nat×Value×List Int=>[(8,.int .i64 q.1),(7,q.2.1),(0,.slice a vs.length k),(1,.int .i64 n),(2,.bool st)]) (fun q h' AW=>AW=δ/\PZ h h' q.2.1 q.2.2/\q.1<=vs.length/\q.2.2.length=q.1/\q.1<=8) (fun q=>vs.length-q.1) (0,AK,[]) ⟨rfl,rfl,rfl,rfl,rfl,trivial⟩ ⟨rfl,⟨AR.nil,AN.refl _ _,fun b e=>by cases e⟩,Bv _,rfl,by omega⟩ ?_
 rintro⟨q,sv,ys⟩ h1 _ ⟨rfl,N,hq,hy,wh⟩ again
 dsimp only at N hq hy wh again⊢
 have MA:=N.sl
 rw [hy]at MA
 obtain⟨sa,sk,fJ⟩:=MA.val
 by_cases c1:q<vs.length
 ·by_cases c2:q<8
  ·obtain⟨z,hz⟩:∃z,vs[q]?=some z:=⟨_,Cl c1⟩
   obtain⟨b,o,rfl,ia⟩:=hc q (iV z) (by rw [EQ,hz];rfl)
   have xI:=N.up.AF ia (fun x=>x)
   by_cases d1:z< -1
   ·skip
    repeat(first|refine AI ?_|refine AH ?_|refine AE ?_|refine Ar ?_|refine Ak ?_|refine AV ?_|refine Aq ?_|refine CW ?_|refine Bl ?_|refine Bs ?_|refine BN ?_|refine Cd ?_|refine BU ?_|refine Av rfl (by assumption) ?_)
    refine Fv (sz:=1) (z:=.int .i64 0) (cells:=#[.int .i64 (-1)]) ?_
    refine D9 (new:=[.int .i64 (-1)]) rfl rfl rfl rfl (MA.upd (AN.push (T:=fun _=>False) h1 (.cells #[.int .i64 (-1)] 3)) (fun _ _ x=>x)) (AG _ _) rfl (by simp [OneCell]) (by omega) (by omega) (by rfl) (fun b o hb=>hF b o (N.fr b hb)) ?_
    intro s' h5 HY u5 MB
    have hN:PZ h h5 s' (ys++[(-1)]):=by
     have bU:=N.up.size
     refine⟨by rw [EF,C1,hy];exact HY,?_,fun b hb=>?_⟩
     ·refine A2 ((N.up).trans (AN.push _ (.cells #[.int .i64 (-1)] 3))) u5 fun b hb hx=>?_
      have:=N.fr b hx
      omega
     ·rcases MB b hb with x|x
      ·exact N.fr b x
      ·rw [x,CH];omega
    repeat(first|refine AH ?_|refine AE ?_|refine Bb ?_|refine AV ?_|refine Aq ?_|refine BR (kd:=.i64) rfl (i64_in (by omega) (by omega)) ?_)
    exact Ah (again (q+1,s',ys++[(-1)]) _ _ (by dsimp only;omega) ⟨rfl,hN,by dsimp only;omega,by dsimp only;rw [List.length_append,hy];rfl,by dsimp only;omega⟩) ⟨rfl,rfl,rfl,rfl,rfl,trivial⟩
   ·by_cases d2:n<=z
    ·skip
     repeat(first|refine AI ?_|refine AH ?_|refine AE ?_|refine Ar ?_|refine Ak ?_|refine AV ?_|refine Aq ?_|refine CW ?_|refine Bl ?_|refine Bd ?_|refine Bs ?_|refine Bg ?_|refine BN ?_|refine Cd ?_|refine BU ?_|refine Av rfl (by assumption) ?_)
     refine Fv (sz:=1) (z:=.int .i64 0) (cells:=#[.int .i64 (-1)]) ?_
     refine D9 (new:=[.int .i64 (-1)]) rfl rfl rfl rfl (MA.upd (AN.push (T:=fun _=>False) h1 (.cells #[.int .i64 (-1)] 3)) (fun _ _ x=>x)) (AG _ _) rfl (by simp [OneCell]) (by omega) (by omega) (by rfl) (fun b o hb=>hF b o (N.fr b hb)) ?_
     intro s' h5 HY u5 MB
     have hN:PZ h h5 s' (ys++[(-1)]):=by
      have bU:=N.up.size
      refine⟨by rw [EF,C1,hy];exact HY,?_,fun b hb=>?_⟩
      ·refine A2 ((N.up).trans (AN.push _ (.cells #[.int .i64 (-1)] 3))) u5 fun b hb hx=>?_
       have:=N.fr b hx
       omega
      ·rcases MB b hb with x|x
       ·exact N.fr b x
       ·rw [x,CH];omega
     repeat(first|refine AH ?_|refine AE ?_|refine Bb ?_|refine AV ?_|refine Aq ?_|refine BR (kd:=.i64) rfl (i64_in (by omega) (by omega)) ?_)
     exact Ah (again (q+1,s',ys++[(-1)]) _ _ (by dsimp only;omega) ⟨rfl,hN,by dsimp only;omega,by dsimp only;rw [List.length_append,hy];rfl,by dsimp only;omega⟩) ⟨rfl,rfl,rfl,rfl,rfl,trivial⟩
    ·cases st with
     | false=>
      skip
      repeat(first|refine AI ?_|refine AH ?_|refine AE ?_|refine Ar ?_|refine Ak ?_|refine AV ?_|refine Aq ?_|refine CW ?_|refine Bl ?_|refine Bd ?_|refine Bs ?_|refine Bg ?_|refine BN ?_|refine Cd ?_|refine BU ?_|refine Am ?_|refine Av rfl (by assumption) ?_)
      refine Fv (sz:=1) (z:=.int .i64 0) (cells:=#[.int .i64 z]) ?_
      refine D9 (new:=[.int .i64 z]) rfl rfl rfl rfl (MA.upd (AN.push (T:=fun _=>False) h1 (.cells #[.int .i64 z] 3)) (fun _ _ x=>x)) (AG _ _) rfl (by simp [OneCell]) (by omega) (by omega) (by rfl) (fun b o hb=>hF b o (N.fr b hb)) ?_
      intro s' h5 HY u5 MB
      have hN:PZ h h5 s' (ys++[z]):=by
       have bU:=N.up.size
       refine⟨by rw [EF,C1,hy];exact HY,?_,fun b hb=>?_⟩
       ·refine A2 ((N.up).trans (AN.push _ (.cells #[.int .i64 z] 3))) u5 fun b hb hx=>?_
        have:=N.fr b hx
        omega
       ·rcases MB b hb with x|x
        ·exact N.fr b x
        ·rw [x,CH];omega
      repeat(first|refine AH ?_|refine AE ?_|refine Bb ?_|refine AV ?_|refine Aq ?_|refine BR (kd:=.i64) rfl (i64_in (by omega) (by omega)) ?_)
      exact Ah (again (q+1,s',ys++[z]) _ _ (by dsimp only;omega) ⟨rfl,hN,by dsimp only;omega,by dsimp only;rw [List.length_append,hy];rfl,by dsimp only;omega⟩) ⟨rfl,rfl,rfl,rfl,rfl,trivial⟩
     | true=>
      by_cases d3:(q:Int)<=z
      ·skip
       repeat(first|refine AI ?_|refine AH ?_|refine AE ?_|refine Ar ?_|refine Ak ?_|refine AV ?_|refine Aq ?_|refine Bl ?_|refine Bd ?_|refine Bs ?_|refine Bg ?_|refine BN ?_|refine Cd ?_|refine BU ?_|refine Av rfl (by assumption) ?_)
       refine Fv (sz:=1) (z:=.int .i64 0) (cells:=#[.int .i64 (-1)]) ?_
       refine D9 (new:=[.int .i64 (-1)]) rfl rfl rfl rfl (MA.upd (AN.push (T:=fun _=>False) h1 (.cells #[.int .i64 (-1)] 3)) (fun _ _ x=>x)) (AG _ _) rfl (by simp [OneCell]) (by omega) (by omega) (by rfl) (fun b o hb=>hF b o (N.fr b hb)) ?_
       intro s' h5 HY u5 MB
       have hN:PZ h h5 s' (ys++[(-1)]):=by
        have bU:=N.up.size
        refine⟨by rw [EF,C1,hy];exact HY,?_,fun b hb=>?_⟩
        ·refine A2 ((N.up).trans (AN.push _ (.cells #[.int .i64 (-1)] 3))) u5 fun b hb hx=>?_
         have:=N.fr b hx
         omega
        ·rcases MB b hb with x|x
         ·exact N.fr b x
         ·rw [x,CH];omega
       repeat(first|refine AH ?_|refine AE ?_|refine Bb ?_|refine AV ?_|refine Aq ?_|refine BR (kd:=.i64) rfl (i64_in (by omega) (by omega)) ?_)
       exact Ah (again (q+1,s',ys++[(-1)]) _ _ (by dsimp only;omega) ⟨rfl,hN,by dsimp only;omega,by dsimp only;rw [List.length_append,hy];rfl,by dsimp only;omega⟩) ⟨rfl,rfl,rfl,rfl,rfl,trivial⟩
      ·skip
       repeat(first|refine AI ?_|refine AH ?_|refine AE ?_|refine Ar ?_|refine Ak ?_|refine AV ?_|refine Aq ?_|refine Bl ?_|refine Bd ?_|refine Bs ?_|refine Bg ?_|refine BN ?_|refine Cd ?_|refine BU ?_|refine Am ?_|refine Av rfl (by assumption) ?_)
       refine Fv (sz:=1) (z:=.int .i64 0) (cells:=#[.int .i64 z]) ?_
       refine D9 (new:=[.int .i64 z]) rfl rfl rfl rfl (MA.upd (AN.push (T:=fun _=>False) h1 (.cells #[.int .i64 z] 3)) (fun _ _ x=>x)) (AG _ _) rfl (by simp [OneCell]) (by omega) (by omega) (by rfl) (fun b o hb=>hF b o (N.fr b hb)) ?_
       intro s' h5 HY u5 MB
       have hN:PZ h h5 s' (ys++[z]):=by
        have bU:=N.up.size
        refine⟨by rw [EF,C1,hy];exact HY,?_,fun b hb=>?_⟩
        ·refine A2 ((N.up).trans (AN.push _ (.cells #[.int .i64 z] 3))) u5 fun b hb hx=>?_
         have:=N.fr b hx
         omega
        ·rcases MB b hb with x|x
         ·exact N.fr b x
         ·rw [x,CH];omega
       repeat(first|refine AH ?_|refine AE ?_|refine Bb ?_|refine AV ?_|refine Aq ?_|refine BR (kd:=.i64) rfl (i64_in (by omega) (by omega)) ?_)
       exact Ah (again (q+1,s',ys++[z]) _ _ (by dsimp only;omega) ⟨rfl,hN,by dsimp only;omega,by dsimp only;rw [List.length_append,hy];rfl,by dsimp only;omega⟩) ⟨rfl,rfl,rfl,rfl,rfl,trivial⟩
  ·repeat(first|refine AI ?_|refine AH ?_|refine AE ?_|refine AV ?_|refine Aq ?_|refine Bl ?_|refine Bs ?_|refine Bg ?_|refine BN ?_|refine Am ?_|refine AQ ?_|refine B8 ?_)
   exact CL rfl ⟨rfl,_,N,by omega⟩
 ·repeat(first|refine AI ?_|refine AH ?_|refine AE ?_|refine AV ?_|refine Aq ?_|refine CW ?_|refine Bd ?_|refine Bg ?_|refine BN ?_|refine Am ?_|refine AQ ?_|refine B8 ?_)
  exact CL rfl ⟨rfl,_,N,by omega⟩
end
end
section
open Go Go.TJ Go.Conc Go.Proofs
structure BH where
 op:Int
 a:Int
 b:Int
 c:Int
 d:Int
 f:Int
 l:Value
structure TP where
 s:Int
 at_:Int
 vs:List Int
 kd:Int
 nm:Int
abbrev FK:=Nat×Nat×Int
inductive It where
 | tl (e:TP)
 | kn (q:FK) (s:Nat)
 | ak (q:FK) (s:Nat)
inductive PA where
 | done
 | step (r:Rq) (k:Int->PA)
 | emit (e:TP) (k:PA)
 | Hd (q:FK) (s:Nat) (k:PA)
 | ask (q:FK) (k:Nat->PA)
abbrev Fs:=List (FK×Nat)
def Eb:Fs->FK->Option Nat
 | [],_=>none
 | (k,s)::l,q=>if k=q then some s else Eb l q
theorem Lp{q:FK}:∀{l m:Fs},Eb (l++m) q=match Eb l q with|some s=>some s|none=>Eb m q
 | [],m=>rfl
 | (k,s)::l,m=>by
  show(if k=q then some s else Eb (l++m) q)=match (if k=q then some s else Eb l q)with|some s=>some s|none=>Eb m q
  by_cases e:k=q
  ·rw [if_pos e,if_pos e]
  ·rw [if_neg e,if_neg e];exact Lp
theorem II{q:FK}{l m:Fs}{s:Nat}(h:Eb l q=some s):Eb (l++m) q=some s:=by rw [Lp,h]
theorem Ng{q:FK}{s:Nat}:∀{l:Fs},Eb l q=some s->(q,s)∈l
 | (k,s')::l,h=>by
  change (if k=q then some s' else Eb l q)=some s at h
  by_cases e:k=q
  ·rw [if_pos e]at h;cases h;subst e;exact BJ
  ·rw [if_neg e]at h;exact C2 _ (Ng h)
theorem Sw{q:FK}:∀{l:Fs},Eb l q=none->∀s,(q,s)∉l
 | [],_,_,h=>by cases h
 | (k,s')::l,h,s,hm=>by
  change (if k=q then some s' else Eb l q)=none at h
  by_cases e:k=q
  ·rw [if_pos e]at h;cases h
  ·rw [if_neg e]at h
   rcases Ew.1 hm with z|z
   ·exact e (congrArg Prod.fst z).symm
   ·exact Sw h s z
def settle:PA->Fs->List It->Fs×List It×PA
 | .done,f,o=>(f,o,.done)
 | .step r k,f,o=>(f,o,.step r k)
 | .emit e k,f,o=>settle k f (o++[.tl e])
 | .Hd q s k,f,o=>settle k (f++[(q,s)]) (o++[.kn q s])
 | .ask q k,f,o=>match Eb f q with
  | some s=>settle (k s) f (o++[.ak q s])
  | none=>(f,o,.ask q k)
structure SS where
 fs:Fs
 out:Nat->List It
 Dg:Nat->PA
def yG(P:Nat->PA):SS:=⟨[],fun j=>(settle (P j) [] []).2.1,fun j=>(settle (P j) [] []).2.2⟩
def KO(z:SS)(e:Nat×Int):SS:=match z.Dg e.1 with
 | .step _ k=>⟨(settle (k e.2) z.fs (z.out e.1)).1,ut z.out e.1 (settle (k e.2) z.fs (z.out e.1)).2.1,ut z.Dg e.1 (settle (k e.2) z.fs (z.out e.1)).2.2⟩
 | _=>z
def tw(l:List Ev):List (Nat×Int):=l.map fun e=>(e.BI,e.Dl)
def Cz(P:Nat->PA)(l:List Ev):SS:=(tw l).foldl KO (yG P)
theorem Gl{P:Nat->PA}{l:List Ev}{e:Ev}:Cz P (l++[e])=KO (Cz P l) (e.BI,e.Dl):=by
 unfold Cz tw
 rw [EF,List.foldl_append];rfl
theorem GW{z:SS}{i:Nat}{w:Int}{r:Rq}{k:Int->PA}(h:z.Dg i= .step r k):KO z (i,w)=⟨(settle (k w) z.fs (z.out i)).1,ut z.out i (settle (k w) z.fs (z.out i)).2.1,ut z.Dg i (settle (k w) z.fs (z.out i)).2.2⟩:=by
 unfold KO
 dsimp only
 rw [h]
inductive Fi (rq:Rq->Rq) (P:Nat->PA):List Ev->Prop
 | nil:Fi rq P []
 | snoc {l:List Ev} {i:Nat} {r:Rq} {k:Int->PA} (w:Int):Fi rq P l->(Cz P l).Dg i= .step r k->Fi rq P (l++[Co i (rq r) w])
structure SE(rq:Rq->Rq)(P:Nat->PA)(l:List Ev)(fs:Fs)(out:Nat->List It)(Dg:Nat->PA):Prop where
 log:Fi rq P l
 fs:fs=(Cz P l).fs
 th:∀j f,settle (Dg j) f (out j)=(f,(Cz P l).out j,(Cz P l).Dg j)
structure JS(rq:Rq->Rq)(P:Nat->PA)(l:List Ev)(fs:Fs)(out:Nat->List It)(Dg:Nat->PA)(i:Nat)(p:PA):Prop where
 log:Fi rq P l
 at_:Dg i=p
 own:settle p fs (out i)=((Cz P l).fs,(Cz P l).out i,(Cz P l).Dg i)
 Mw:∀j,j≠i->∀f,settle (Dg j) f (out j)=(f,(Cz P l).out j,(Cz P l).Dg j)
section
variable{rq:Rq->Rq}{P:Nat->PA}{l:List Ev}{fs:Fs}{out:Nat->List It}{Dg:Nat->PA}{i:Nat}{p k:PA}
theorem SE.run(x:SE rq P l fs out Dg)(i:Nat):JS rq P l fs out Dg i (Dg i):=
 ⟨x.log,rfl,by rw [x.th i,x.fs],fun j _=>x.th j⟩
theorem JS.rest{r:Rq}{k:Int->PA}(x:JS rq P l fs out Dg i (.step r k)):SE rq P l fs out Dg:=by
 have h:(fs,out i,PA.step r k)=((Cz P l).fs,(Cz P l).out i,(Cz P l).Dg i):=x.own
 injection h with h1 h2
 injection h2 with h2 h3
 refine⟨x.log,h1,fun j f=>?_⟩
 by_cases e:j=i
 ·subst e;rw [x.at_,<-h2,<-h3];rfl
 ·exact x.Mw j e f
theorem JS.over(x:JS rq P l fs out Dg i .done):SE rq P l fs out Dg:=by
 have h:(fs,out i,PA.done)=((Cz P l).fs,(Cz P l).out i,(Cz P l).Dg i):=x.own
 injection h with h1 h2
 injection h2 with h2 h3
 refine⟨x.log,h1,fun j f=>?_⟩
 by_cases e:j=i
 ·subst e;rw [x.at_,<-h2,<-h3];rfl
 ·exact x.Mw j e f
theorem SE.access(x:SE rq P l fs out Dg){r:Rq}{k:Int->PA}(h:Dg i= .step r k){e:Ev}(he:e.BI=i)(Ru:e=Co i (rq r) e.Dl):JS rq P (l++[e]) fs out (ut Dg i (k e.Dl)) i (k e.Dl):=by
 have h0:=x.th i fs
 rw [h]at h0
 change (fs,out i,PA.step r k)=_ at h0
 injection h0 with _ h2
 injection h2 with h2 h3
 refine⟨by rw [Ru];exact .snoc _ x.log h3.symm,AL _ _ _,?_,fun j hj f=>?_⟩
 ·rw [Gl,he,GW h3.symm]
  dsimp only
  rw [AL,AL,<-x.fs,<-h2]
 ·rw [Gl,he,GW h3.symm]
  dsimp only
  rw [Ai _ _ hj,Ai _ _ hj,Ai _ _ hj]
  exact x.th j f
theorem JS.emit{e:TP}(x:JS rq P l fs out Dg i (.emit e k)):JS rq P l fs (ut out i (out i++[.tl e])) (ut Dg i k) i k:=
 ⟨x.log,AL _ _ _,by rw [AL];exact x.own,fun j hj f=>by rw [Ai _ _ hj,Ai _ _ hj];exact x.Mw j hj f⟩
theorem JS.Hd{q:FK}{s:Nat}(x:JS rq P l fs out Dg i (.Hd q s k)):JS rq P l (fs++[(q,s)]) (ut out i (out i++[.kn q s])) (ut Dg i k) i k:=
 ⟨x.log,AL _ _ _,by rw [AL];exact x.own,fun j hj f=>by rw [Ai _ _ hj,Ai _ _ hj];exact x.Mw j hj f⟩
theorem JS.ask{q:FK}{s:Nat}{k:Nat->PA}(x:JS rq P l fs out Dg i (.ask q k))(hf:Eb fs q=some s):JS rq P l fs (ut out i (out i++[.ak q s])) (ut Dg i (k s)) i (k s):=by
 refine⟨x.log,AL _ _ _,?_,fun j hj f=>by rw [Ai _ _ hj,Ai _ _ hj];exact x.Mw j hj f⟩
 have h:=x.own
 unfold settle at h
 rw [hf]at h
 rw [AL];exact h
end
def Quiet(p:PA):Prop:=∃o' p',∀f o,settle p f o=(f,o++o',p')
theorem Quiet.done:Quiet .done:=⟨[],.done,fun f o=>by rw [DI];rfl⟩
theorem Quiet.step{r:Rq}{k:Int->PA}:Quiet (.step r k):=⟨[],.step r k,fun f o=>by rw [DI];rfl⟩
theorem Quiet.emit{e:TP}{k:PA}(h:Quiet k):Quiet (.emit e k):=by
 obtain⟨o',p',h⟩:=h
 exact⟨.tl e::o',p',fun f o=>by
  show settle k f (o++[.tl e])=_
  rw [h,Ke];rfl⟩
theorem q8{rq:Rq->Rq}{P:Nat->PA}(h:∀j,Quiet (P j)):SE rq P [] [] (fun _=>[]) P:=by
 refine⟨.nil,rfl,fun j f=>?_⟩
 obtain⟨o',p',e⟩:=h j
 show _=(f,(settle (P j) [] []).2.1,(settle (P j) [] []).2.2)
 rw [e,e]
theorem ZI{x:Int}:∃q:Int,IntKind.i64.wrap x=x+18446744073709551616*q:=by
 simp only [IntKind.wrap,IntKind.signed,IntKind.bits]
 simp
 split
 ·first|exact⟨-(x / 18446744073709551616),by omega⟩|exact⟨-(x / 18446744073709551616)-1,by omega⟩
 ·first|exact⟨-(x / 18446744073709551616),by omega⟩|exact⟨-(x / 18446744073709551616)-1,by omega⟩
theorem ZH{x q:Int}:IntKind.i64.wrap (x+18446744073709551616*q)=IntKind.i64.wrap x:=by
 simp only [IntKind.wrap,IntKind.signed,IntKind.bits]
 simp
theorem ZG{x y:Int}:IntKind.i64.wrap (IntKind.i64.wrap x-y)=IntKind.i64.wrap (x-y):=by
 obtain⟨q,e⟩:=ZI (x:=x)
 rw [e,show x+18446744073709551616*q-y=(x-y)+18446744073709551616*q by omega,ZH]
def stuck:PA:=.step ⟨0,0,0,0⟩ fun _=>.done
def cc(c j:Nat):Nat:=34*c+j
def ck(k:Nat):Nat:=200+k
abbrev T4(x:Int):Prop:=0<=x/\x<=262144
def KP(c:Nat)(due:Int)(s:Nat)(k:Int->Int->Int->PA):Nat->PA
 | 0=>k 0 0 12
 | n+1=>.step ⟨1,cc c (2+2*(15-n)),0,0⟩ fun x=>if T4 x then(if x % 4=0 then .step ⟨3,cc c (2+2*(15-n)),x,x+1⟩ fun w=>if w=x then
   .Hd (c,15-n,x+2) s (.step ⟨2,cc c (3+2*(15-n)),due,0⟩ fun _=>.step ⟨2,cc c (2+2*(15-n)),x+2,0⟩ fun _=>k (15-n:Nat) (x+2) 0)else KP c due s k n else KP c due s k n)else stuck
def GM(c:Nat)(now:Int)(k:Option (Nat×Int)->PA):Nat->Option (Nat×Int×Int)->PA
 | 0,b=>k (b.map fun q=>(q.1,q.2.1))
 | n+1,b=>.step ⟨1,cc c (2+2*(15-n)),0,0⟩ fun x=>if T4 x then(if x % 4=2 then .step ⟨1,cc c (3+2*(15-n)),0,0⟩ fun v=>if v<=now/\(∀q,b=some q->v<q.2.2)then GM c now k n (some (15-n,x,v))else GM c now k n b else GM c now k n b)else stuck
def He(ring:Nat->PA->PA)(c:Nat)(now:Int)(k:Int->Int->PA):Nat->Nat->PA
 | 0,_=>stuck
 | n+1,g=>GM c now (fun o=>match o with
  | none=>.step ⟨2,cc c 1,0,0⟩ fun _=>k g 0
  | some (j,x)=>if g=64 then .step ⟨2,cc c 1,0,0⟩ fun _=>k g 0 else .step ⟨3,cc c (2+2*j),x,x+1⟩ fun w=>if w=x then .ask (c,j,x) fun s=>ring s (.step ⟨2,cc c (2+2*j),x+2,0⟩ fun _=>He ring c now k n (g+1))else He ring c now k n g) 16 none
def GF(v d:Int):Int:=v+(if 4611686018427387904-v<d then 4611686018427387904-v else d)
def zf(ring:Nat->PA->PA)(c:Nat)(d:Int)(k:Int->Int->PA):PA:=
 .step ⟨3,cc c 1,0,1⟩ fun w=>if w=0 then .step ⟨1,cc c 0,0,0⟩ fun v=>if 0<=v/\v<=4611686018427387904 then .step ⟨2,cc c 0,GF v d,0⟩ fun _=>He ring c (GF v d) k 65537 0 else stuck else k 0 14
def FD(c:Nat)(s r:Int)(k:Bool->PA):PA:=if 0<=s/\s<16/\0<=r/\r % 4=2 then .step ⟨3,cc c (2+2*s.toNat),r,IntKind.i64.wrap (r+2)⟩ fun w=>k (decide (w=r))else k false
def LX(c:Nat)(due:Int)(f:Option Nat)(k:Int->Int->Int->PA):PA:=if 0<=due/\due<=4611686018427387904 then(match f with|some s=>KP c due s k 16|none=>k 0 0 1)else k 0 0 1
section
variable(sc:List (List BH))(nC nK:Nat)
abbrev PE(q:BH):Prop:=0<=q.a/\q.a<nC
def E1(HZ:Nat->Int->(Int->Int->PA)->PA)(s:Nat)(q:BH)(k:List Int->Int->PA):PA:=
 if q.op=10 then(if PE nC q then .step ⟨1,cc q.a.toNat 0,0,0⟩ fun v=>k [v] 0 else k [0] 0)
 else if q.op=11 then(if PE nC q then LX q.a.toNat q.b (if(s:Int)<q.f/\q.f<sc.length then some q.f.toNat else none) (fun x r e=>k [x,r] e)else k [0,0] 2)
 else if q.op=12 then(if PE nC q then FD q.a.toNat q.b q.c fun b=>k [if b then 1 else 0] 0 else k [0] 0)
 else if q.op=13 then(if PE nC q then(if q.b<0 then k [0] 1 else HZ q.a.toNat q.b fun n e=>k [n] e)else k [0] 2)
 else if q.op=102/\0<=q.a/\q.a<nK then .step ⟨4,ck q.a.toNat,1,0⟩ fun w=>k [IntKind.i64.wrap (w+1)] 0
 else k [] 0
def bm(s:Nat)(j:Nat)(vs:List Int)(e:Int):TP:=⟨s,j,vs,if e=0 then 0 else 7,e⟩
def DV(HZ:Nat->Int->(Int->Int->PA)->PA)(s:Nat)(k:PA):Nat->List BH->PA
 | _,[]=>k
 | j,q::l=>if q.op=100\/q.op=101 then k else E1 sc nC nK HZ s q fun vs e=>.emit (bm s j vs e) (DV HZ s k (j+1) l)
def Il(HZ:Nat->Int->(Int->Int->PA)->PA)(s:Nat)(k:PA):PA:=if s<sc.length then .emit ⟨s,-1,[0],0,0⟩ (DV sc nC nK HZ s k 0 (sc.getD s []))else stuck
def EH:Nat->Nat->Int->(Int->Int->PA)->PA
 | 0=>fun c _ k=>.step ⟨3,cc c 1,0,1⟩ fun w=>if w=0 then stuck else k 0 14
 | m+1=>zf (Il sc nC nK (EH m))
def zg(m c:Nat)(d:Int)(k:Int->Int->PA):PA:=match m with
 | 0=>stuck
 | m+1=>.step ⟨1,cc c 0,0,0⟩ fun v=>if 0<=v/\v<=4611686018427387904 then .step ⟨2,cc c 0,GF v d,0⟩ fun _=>He (Il sc nC nK (EH sc nC nK m)) c (GF v d) k 65537 0 else stuck
theorem Vm{m c:Nat}{d:Int}{k:Int->Int->PA}:EH sc nC nK m c d k= .step ⟨3,cc c 1,0,1⟩ fun w=>if w=0 then zg sc nC nK m c d k else k 0 14:=by
 cases m <;> rfl
def HN(m:Nat):Nat->PA->PA:=Il sc nC nK (EH sc nC nK m)
def Nt(i:Nat):PA:=DV sc nC nK (EH sc nC nK 3) i .done 0 (sc.getD i [])
variable{sc nC nK}
theorem UU{c:Nat}{due:Int}{f:Option Nat}{k:Int->Int->Int->PA}(hk:∀a b e,Quiet (k a b e)):Quiet (LX c due f k):=by
 unfold LX
 split
 ·cases f with
  | none=>exact hk _ _ _
  | some s=>exact Quiet.step
 ·exact hk _ _ _
theorem S6{c:Nat}{s r:Int}{k:Bool->PA}(hk:∀b,Quiet (k b)):Quiet (FD c s r k):=by
 unfold FD
 split
 ·exact Quiet.step
 ·exact hk _
theorem VW {c : Nat} {due : Int} {s : Nat} {k : Int → Int → Int → PA} {q : Nat} (hq : q < 16) : KP c due s k (16 - q) = .step ⟨1, cc c (2 + 2 * q), 0, 0⟩ fun x => if T4 x then (if x % 4 = 0 then .step ⟨3, cc c (2 + 2 * q), x, x + 1⟩ fun w => if w = x then
      .Hd (c,q,x+2) s (.step ⟨2,cc c (3+2*q),due,0⟩ fun _=>.step ⟨2,cc c (2+2*q),x+2,0⟩ fun _=>k q (x+2) 0)else KP c due s k (16-(q+1))else KP c due s k (16-(q+1)))else stuck:=by
 rw [show 16-q=(15-q)+1 by omega,show 16-(q+1)=15-q by omega]
 show PA.step _ _=_
 rw [show 15-(15-q)=q by omega]
theorem Su{c:Nat}{now:Int}{k:Option (Nat×Int)->PA}{q:Nat}{b:Option (Nat×Int×Int)}(hq:q<16):GM c now k (16-q) b= .step ⟨1,cc c (2+2*q),0,0⟩ fun x=>if T4 x then(if x % 4=2 then .step ⟨1,cc c (3+2*q),0,0⟩ fun v=>if v<=now/\(∀z,b=some z->v<z.2.2)then GM c now k (16-(q+1)) (some (q,x,v))else GM c now k (16-(q+1)) b else GM c now k (16-(q+1)) b)else stuck:=by
 rw [show 16-q=(15-q)+1 by omega,show 16-(q+1)=15-q by omega]
 show PA.step _ _=_
 rw [show 15-(15-q)=q by omega]
theorem U4{m c:Nat}{d:Int}{k:Int->Int->PA}:Quiet (EH sc nC nK m c d k):=by
 cases m <;> exact Quiet.step
theorem TV{HZ:Nat->Int->(Int->Int->PA)->PA}(ha:∀c d k,Quiet (HZ c d k)){s:Nat}{q:BH}{k:List Int->Int->PA}(hk:∀vs e,Quiet (k vs e)):Quiet (E1 sc nC nK HZ s q k):=by
 unfold E1
 repeat' split
 all_goals first|exact Quiet.step|exact hk _ _|exact ha _ _ _|exact UU fun _ _ _=>hk _ _|exact S6 fun _=>hk _ _
theorem Mt{HZ:Nat->Int->(Int->Int->PA)->PA}(ha:∀c d k,Quiet (HZ c d k)){s:Nat}{k:PA}(hk:Quiet k):∀{l:List BH} {j:Nat},Quiet (DV sc nC nK HZ s k j l)
 | [],_=>hk
 | q::l,j=>by
  unfold DV
  split
  ·exact hk
  ·exact TV ha fun _ _=>(Mt ha hk).emit
theorem HS(i:Nat):Quiet (Nt sc nC nK i):=Mt (fun _ _ _=>U4) Quiet.done
end
end
section
open Go Go.TJ Go.Conc Go.Proofs
def JI(f:Nat->Int):Nat->Int
 | 0=>0
 | n+1=>JI f n+f n
theorem LM{f g:Nat->Int}:∀{n:Nat},(∀j,j<n->f j=g j)->JI f n=JI g n
 | 0,_=>rfl
 | n+1,h=>by
  show JI f n+f n=JI g n+g n
  rw [LM (n:=n) fun j hj=>h j (by omega),h n (by omega)]
theorem Ol{f f':Nat->Int}{i:Nat}:∀{n:Nat},i<n->(∀j,j<n->j≠i->f' j=f j)->JI f' n=JI f n-f i+f' i
 | 0,h,_=>by omega
 | n+1,hi,h=>by
  show JI f' n+f' n=JI f n+f n-f i+f' i
  by_cases e:n=i
  ·subst e
   rw [LM (n:=n) (f:=f') (g:=f) fun j hj=>h j (by omega) (by omega)]
   omega
  ·rw [Ol (n:=n) (by omega) fun j hj B7=>h j (by omega) B7,h n (by omega) e]
   omega
structure TE where
 s:Int
 at_:Int
 vs:List Int
 vv:Value
 kd:Int
 nm:Int
def TE.p(e:TE):TP:=⟨e.s,e.at_,e.vs,e.kd,e.nm⟩
def JL:List It->List TP
 | []=>[]
 | .tl e::l=>e::JL l
 | .kn _ _::l=>JL l
 | .ak _ _::l=>JL l
theorem FV:∀{a b:List It},JL (a++b)=JL a++JL b
 | [],_=>rfl
 | .tl e::l,b=>by show e::JL (l++b)=e::(JL l++JL b);rw [FV]
 | .kn _ _::l,b=>FV (a:=l)
 | .ak _ _::l,b=>FV (a:=l)
structure CP where
 sc:List (List BH)
 nC:Nat
 nK:Nat
 nT:Nat
 w:Nat
 C:Nat->Nat
 B:Nat->Nat->Nat
 K:Nat->Nat
def CP.blk(c:CP)(n:Nat):Nat:=if n<200 then c.B (n / 34) (n % 34)else c.K (n-200)
theorem OM{c:CP}{i j:Nat}(hi:i<3)(hj:j<34):c.blk (cc i j)=c.B i j:=by
 unfold CP.blk cc
 rw [if_pos (by omega),show(34*i+j) / 34=i by omega,show(34*i+j) % 34=j by omega]
theorem OL{c:CP}{k:Nat}:c.blk (ck k)=c.K k:=by
 unfold CP.blk ck
 rw [if_neg (by omega),show 200+k-200=k by omega]
def CP.rq(c:CP)(r:Rq):Rq:=⟨r.op,c.blk r.b,r.arg,r.new⟩
def CP.P(c:CP)(i:Nat):PA:=Nt c.sc c.nC c.nK i
structure CU where
 hold:Nat->List (Nat×Int)
 told:Nat->List TE
 tv:Nat->Value
 th:Nat->Value
 FW:Nat->Nat->Value
 kept:List (Nat×Obj)
structure CV extends CU where
 fs:Fs
 out:Nat->List It
 Dg:Nat->PA
structure CP.Ok(c:CP):Prop where
 inj:∀i j i' j',i<c.nC->j<34->i'<c.nC->j'<34->c.B i j=c.B i' j'->i=i'/\j=j'
 K:∀k i j,k<c.nK->i<c.nC->j<34->c.K k≠c.B i j
 nC:c.nC<=3
def Xm(c:CP)(kept:List (Nat×Obj))(f:Value)(s:Nat):Prop:=∃b1 b2:Nat,f= .func (.func 112) #[] #[ptr b1,ptr b2]/\(b1,Obj.cells #[ptr c.w] 59 (0,0))∈kept/\(b2,Obj.cells #[.int .i64 s] 3 (0,0))∈kept/\s<c.sc.length
theorem Xm.mono{c:CP}{k k':List (Nat×Obj)}{f:Value}{s:Nat}(h:Xm c k f s)(hk:∀q,q∈k->q∈k'):Xm c k' f s:=by
 obtain⟨b1,b2,e,h1,h2,h3⟩:=h
 exact⟨b1,b2,e,hk _ h1,hk _ h2,h3⟩
def nZ(c:CP)(kept:List (Nat×Obj))(fs:Fs)(f:Value)(i j:Nat)(x:Int):Prop:=∃s,Xm c kept f s/\Eb fs (i,j,4*(x / 4)+2)=some s
theorem nZ.mono{c:CP}{k k':List (Nat×Obj)}{fs fs':Fs}{f:Value}{i j:Nat}{x:Int}(h:nZ c k fs f i j x)(hk:∀q,q∈k->q∈k')(hf:∀q s,Eb fs q=some s->Eb fs' q=some s):nZ c k' fs' f i j x:=by
 obtain⟨s,h1,h2⟩:=h
 exact⟨s,h1.mono hk,hf _ _ h2⟩
structure N3(kept:List (Nat×Obj))(e:TE):Prop where
 vv:(e.vs=[]/\e.vv=AK)\/∃b,e.vv= .slice (some ⟨b,0,none⟩) e.vs.length e.vs.length/\(b,Obj.cells (e.vs.map fun x=>Value.int .i64 x).toArray 2 (0,0))∈kept
theorem N3.mono{k k':List (Nat×Obj)}{e:TE}(h:N3 k e)(hk:∀q,q∈k->q∈k'):N3 k' e:=
 ⟨h.vv.imp id fun⟨b,h1,h2⟩=>⟨b,h1,hk _ h2⟩⟩
def j6(c:CP)(q:Nat×Int):Prop:=(∃i j,i<c.nC/\j<16/\q.1=c.B i (2+2*j)/\(q.2 % 4=1\/q.2 % 4=3))\/∃i,i<c.nC/\q.1=c.B i 1/\q.2=1
structure FX(c:CP)(fs:Fs)(n:Nat)(u:CU)(v:Nat->Int):Prop where
 st:∀i j,i<c.nC->j<16->0<=v (c.B i (2+2*j))/\v (c.B i (2+2*j))<=4*n
 due:∀i j,i<c.nC->j<16->0<=v (c.B i (3+2*j))/\v (c.B i (3+2*j))<=4611686018427387904
 now:∀i,i<c.nC->0<=v (c.B i 0)/\v (c.B i 0)<=4611686018427387904
 busy:∀i,i<c.nC->v (c.B i 1)=0\/v (c.B i 1)=1
 hold:∀t q,q∈u.hold t->v q.1=q.2/\j6 c q
 nd:∀t,((u.hold t).map Prod.fst).Nodup
 Td:∀t t',t≠t'->∀q,q∈u.hold t->∀q',q'∈u.hold t'->q.1≠q'.1
 own:∀i j,i<c.nC->j<16->v (c.B i (2+2*j)) % 4=1\/v (c.B i (2+2*j)) % 4=3->∃t,t<c.nT/\(c.B i (2+2*j),v (c.B i (2+2*j)))∈u.hold t
 V8:∀i,i<c.nC->v (c.B i 1)=1->∃t,t<c.nT/\(c.B i 1,(1:Int))∈u.hold t
 fn:∀i j,i<c.nC->j<16->v (c.B i (2+2*j)) % 4≠0->nZ c u.kept fs (u.FW i j) i j (v (c.B i (2+2*j)))
 tok:∀t e,e∈u.told t->N3 u.kept e
 fresh:∀i j r,i<c.nC->j<16->Eb fs (i,j,r)≠none->r<=v (c.B i (2+2*j))+1
 ah:∀q s,(q,s)∈fs->Eb fs q=some s
 out:∀t,c.nT<=t->u.told t=[]
section
variable{c:CP}{fs fs':Fs}{n:Nat}{u:CU}{v:Nat->Int}
theorem FX.mono{n':Nat}(I:FX c fs n u v)(h:n<=n'):FX c fs n' u v:=
 ⟨fun i j hi hj=>by have:=I.st i j hi hj;omega,I.due,I.now,I.busy,I.hold,I.nd,I.Td,I.own,I.V8,I.fn,I.tok,I.fresh,I.ah,I.out⟩
theorem FX.free(ok:c.Ok)(I:FX c fs n u v){i j:Nat}(hi:i<c.nC)(hj:j<16)(h:v (c.B i (2+2*j)) % 4≠1/\v (c.B i (2+2*j)) % 4≠3):∀t q,q∈u.hold t->q.1≠c.B i (2+2*j):=fun t q hq e=>by
 obtain⟨h1,h2⟩:=I.hold t q hq
 rw [e]at h1
 rcases h2 with⟨i',j',Dc,Dm,e',z⟩|⟨i',Dc,e',z⟩
 ·rw [<-h1]at z;omega
 ·rw [e]at e'
  have:=(ok.inj _ _ _ _ hi (by omega) Dc (by omega) e').2
  omega
theorem FX.gM(ok:c.Ok)(I:FX c fs n u v){i:Nat}(hi:i<c.nC)(h:v (c.B i 1)=0):∀t q,q∈u.hold t->q.1≠c.B i 1:=fun t q hq e=>by
 obtain⟨h1,h2⟩:=I.hold t q hq
 rw [e,h]at h1
 rcases h2 with⟨i',j',Dc,Dm,e',z⟩|⟨i',Dc,e',z⟩
 ·rw [<-h1]at z;omega
 ·omega
theorem FX.other(ok:c.Ok)(I:FX c fs n u v){b:Nat}{x:Int}(hs:∀i j,i<c.nC->j<16->b≠c.B i (2+2*j))(hb:∀i,i<c.nC->b≠c.B i 1)(hx:(∀i j,i<c.nC->j<34->b≠c.B i j)\/(0<=x/\x<=4611686018427387904)):FX c fs n u (ut v b x):=by
 have e1:∀i j,i<c.nC->j<16->ut v b x (c.B i (2+2*j))=v (c.B i (2+2*j)):=fun i j hi hj=>Ai _ _ (Ne.symm (hs i j hi hj))
 have e2:∀i,i<c.nC->ut v b x (c.B i 1)=v (c.B i 1):=fun i hi=>Ai _ _ (Ne.symm (hb i hi))
 have e3:∀i j,i<c.nC->j<34->(0<=v (c.B i j)/\v (c.B i j)<=4611686018427387904)->0<=ut v b x (c.B i j)/\ut v b x (c.B i j)<=4611686018427387904:=fun i j hi hj h=>by
  by_cases e:c.B i j=b
  ·rw [e,AL]
   rcases hx with z|z
   ·exact absurd e.symm (z i j hi hj)
   ·exact z
  ·rw [Ai _ _ e];exact h
 refine⟨fun i j hi hj=>by rw [e1 i j hi hj];exact I.st i j hi hj,fun i j hi hj=>e3 i _ hi (by omega) (I.due i j hi hj),fun i hi=>e3 i _ hi (by omega) (I.now i hi),fun i hi=>by rw [e2 i hi];exact I.busy i hi,fun t q hq=>?_,I.nd,I.Td,fun i j hi hj=>by rw [e1 i j hi hj];exact I.own i j hi hj,fun i hi=>by rw [e2 i hi];exact I.V8 i hi,fun i j hi hj=>by rw [e1 i j hi hj];exact I.fn i j hi hj,I.tok,fun i j r hi hj=>by rw [e1 i j hi hj];exact I.fresh i j r hi hj,I.ah,I.out⟩
 obtain⟨h1,h2⟩:=I.hold t q hq
 refine⟨?_,h2⟩
 rcases h2 with⟨i',j',Dc,Dm,e',z⟩|⟨i',Dc,e',z⟩
 ·rw [e',e1 i' j' Dc Dm,<-e'];exact h1
 ·rw [e',e2 i' Dc,<-e'];exact h1
def zp(u:CU)(t:Nat)(H:List (Nat×Int)):CU:={u with hold:=ut u.hold t H}
theorem FX.state(ok:c.Ok)(I:FX c fs n u v){i j t:Nat}{x:Int}{H:List (Nat×Int)}{N1:Nat->Nat->Value}{kept':List (Nat×Obj)}(hi:i<c.nC)(hj:j<16)(ht:t<c.nT)(hx:0<=x/\x<=4*n)(G7:∀t',t'≠t->∀q,q∈u.hold t'->q.1≠c.B i (2+2*j))
  (hH:∀q,q∈H->q.1≠c.B i (2+2*j)->q∈u.hold t) (pE:∀q,q∈u.hold t->q.1≠c.B i (2+2*j)->q∈H) (xM:∀q,q∈H->q.1=c.B i (2+2*j)->q.2=x/\(x % 4=1\/x % 4=3)) (IM:(H.map Prod.fst).Nodup) (xL:x % 4=1\/x % 4=3->(c.B i (2+2*j),x)∈H)
  (hk:∀q,q∈u.kept->q∈kept') (hf:∀i' j',i'≠i\/j'≠j->N1 i' j'=u.FW i' j') (Xc:x % 4≠0->nZ c kept' fs' (N1 i j) i j x) (XW:v (c.B i (2+2*j))<=x) (KJ:∀q s,Eb fs q=some s->Eb fs' q=some s) (PK:∀i' j' r,Eb fs' (i',j',r)≠none->Eb fs (i',j',r)≠none\/(i'=i/\j'=j/\r<=x+1)) (hco:∀q s,(q,s)∈fs'->Eb fs' q=some s):
  FX c fs' n {u with hold:=ut u.hold t H,FW:=N1,kept:=kept'} (ut v (c.B i (2+2*j)) x):=by
 have e1:∀i' j',i'<c.nC->j'<34->i'≠i\/j'≠2+2*j->ut v (c.B i (2+2*j)) x (c.B i' j')=v (c.B i' j'):=fun i' j' Dc Dm B7=>Ai _ _ fun e=>by
  obtain⟨z1,z2⟩:=ok.inj _ _ _ _ Dc Dm hi (by omega) e
  omega
 refine⟨fun i' j' Dc Dm=>?_,fun i' j' Dc Dm=>?_,fun i' Dc=>?_,fun i' Dc=>?_,fun t' q hq=>?_,fun t'=>?_,fun t1 t2 B7 q hq q' Eh=>?_,fun i' j' Dc Dm hm=>?_,fun i' Dc hm=>?_,fun i' j' Dc Dm hm=>?_,fun t' e he=>(I.tok t' e he).mono hk,fun i' j' r Dc Dm hm=>?_,hco,I.out⟩
 ·by_cases e:i'=i/\j'=j
  ·obtain⟨rfl,rfl⟩:=e;rw [AL];exact hx
  ·rw [e1 i' _ Dc (by omega) (by omega)];exact I.st i' j' Dc Dm
 ·rw [e1 i' _ Dc (by omega) (by omega)];exact I.due i' j' Dc Dm
 ·rw [e1 i' _ Dc (by omega) (by omega)];exact I.now i' Dc
 ·rw [e1 i' _ Dc (by omega) (by omega)];exact I.busy i' Dc
 ·show ut v (c.B i (2+2*j)) x q.1=q.2/\j6 c q
  have Eh:q∈ut u.hold t H t':=hq
  by_cases et:t'=t
  ·subst et
   rw [AL]at Eh
   by_cases e:q.1=c.B i (2+2*j)
   ·obtain⟨z1,z2⟩:=xM q Eh e
    rw [e,AL]
    exact⟨z1.symm,.inl ⟨i,j,hi,hj,e,by rw [z1];exact z2⟩⟩
   ·rw [Ai _ _ e];exact I.hold t' q (hH q Eh e)
  ·rw [Ai _ _ et]at Eh
   rw [Ai _ _ (G7 t' et q Eh)];exact I.hold t' q Eh
 ·show((ut u.hold t H t').map Prod.fst).Nodup
  by_cases et:t'=t
  ·subst et;rw [AL];exact IM
  ·rw [Ai _ _ et];exact I.nd t'
 ·have a:q∈ut u.hold t H t1:=hq
  have b:q'∈ut u.hold t H t2:=Eh
  by_cases et:t1=t
  ·subst et
   rw [AL]at a
   rw [Ai _ _ (Ne.symm B7)]at b
   by_cases e:q.1=c.B i (2+2*j)
   ·rw [e];exact Ne.symm (G7 t2 (Ne.symm B7) q' b)
   ·exact I.Td t1 t2 B7 q (hH q a e) q' b
  ·rw [Ai _ _ et]at a
   by_cases pN:t2=t
   ·subst pN
    rw [AL]at b
    by_cases e:q'.1=c.B i (2+2*j)
    ·rw [e];exact G7 t1 et q a
    ·exact I.Td t1 t2 B7 q a q' (hH q' b e)
   ·rw [Ai _ _ pN]at b
    exact I.Td t1 t2 B7 q a q' b
 ·show ∃t',t'<c.nT/\(_,_)∈ut u.hold t H t'
  by_cases e:i'=i/\j'=j
  ·obtain⟨rfl,rfl⟩:=e
   rw [AL]at hm⊢
   exact⟨t,ht,by rw [AL];exact xL hm⟩
  ·have e2:=e1 i' (2+2*j') Dc (by omega) (by omega)
   rw [e2]at hm⊢
   obtain⟨t',h1,h2⟩:=I.own i' j' Dc Dm hm
   refine⟨t',h1,?_⟩
   by_cases et:t'=t
   ·subst et
    rw [AL]
    exact pE _ h2 fun z=>by
     obtain⟨z1,z2⟩:=ok.inj _ _ _ _ Dc (by omega) hi (by omega) z
     omega
   ·rw [Ai _ _ et];exact h2
 ·show ∃t',t'<c.nT/\(_,_)∈ut u.hold t H t'
  rw [e1 i' 1 Dc (by omega) (by omega)]at hm
  obtain⟨t',h1,h2⟩:=I.V8 i' Dc hm
  refine⟨t',h1,?_⟩
  by_cases et:t'=t
  ·subst et
   rw [AL]
   exact pE _ h2 fun z=>by
    obtain⟨z1,z2⟩:=ok.inj _ _ _ _ Dc (by omega) hi (by omega) z
    omega
  ·rw [Ai _ _ et];exact h2
 ·show nZ c kept' fs' (N1 i' j') i' j' _
  by_cases e:i'=i/\j'=j
  ·obtain⟨rfl,rfl⟩:=e
   rw [AL]at hm⊢
   exact Xc hm
  ·rw [e1 i' _ Dc (by omega) (by omega)]at hm⊢
   rw [hf i' j' (by omega)]
   exact(I.fn i' j' Dc Dm hm).mono hk KJ
 ·by_cases e:i'=i/\j'=j
  ·obtain⟨rfl,rfl⟩:=e
   rw [AL]
   rcases PK i' j' r hm with z|⟨-,-,z⟩
   ·have:=I.fresh i' j' r Dc Dm z;omega
   ·exact z
  ·rw [e1 i' _ Dc (by omega) (by omega)]
   rcases PK i' j' r hm with z|⟨z1,z2,-⟩
   ·exact I.fresh i' j' r Dc Dm z
   ·exact absurd ⟨z1,z2⟩ e
theorem FX.Ys(ok:c.Ok)(I:FX c fs n u v){i t:Nat}{x:Int}{H:List (Nat×Int)}(hi:i<c.nC)(ht:t<c.nT)(hx:x=0\/x=1)(G7:∀t',t'≠t->∀q,q∈u.hold t'->q.1≠c.B i 1)
  (hH:∀q,q∈H->q.1≠c.B i 1->q∈u.hold t) (pE:∀q,q∈u.hold t->q.1≠c.B i 1->q∈H) (xM:∀q,q∈H->q.1=c.B i 1->q.2=x/\x=1) (IM:(H.map Prod.fst).Nodup) (xL:x=1->(c.B i 1,(1:Int))∈H):
  FX c fs n {u with hold:=ut u.hold t H} (ut v (c.B i 1) x):=by
 have e1:∀i' j',i'<c.nC->j'<34->i'≠i\/j'≠1->ut v (c.B i 1) x (c.B i' j')=v (c.B i' j'):=fun i' j' Dc Dm B7=>Ai _ _ fun e=>by
  obtain⟨z1,z2⟩:=ok.inj _ _ _ _ Dc Dm hi (by omega) e
  omega
 refine⟨fun i' j' Dc Dm=>?_,fun i' j' Dc Dm=>?_,fun i' Dc=>?_,fun i' Dc=>?_,fun t' q hq=>?_,fun t'=>?_,fun t1 t2 B7 q hq q' Eh=>?_,fun i' j' Dc Dm hm=>?_,fun i' Dc hm=>?_,fun i' j' Dc Dm hm=>?_,I.tok,fun i' j' r Dc Dm hm=>?_,I.ah,I.out⟩
 ·rw [e1 i' _ Dc (by omega) (by omega)];exact I.st i' j' Dc Dm
 ·rw [e1 i' _ Dc (by omega) (by omega)];exact I.due i' j' Dc Dm
 ·rw [e1 i' _ Dc (by omega) (by omega)];exact I.now i' Dc
 ·by_cases e:i'=i
  ·subst e;rw [AL];exact hx
  ·rw [e1 i' _ Dc (by omega) (by omega)];exact I.busy i' Dc
 ·show ut v (c.B i 1) x q.1=q.2/\j6 c q
  have Eh:q∈ut u.hold t H t':=hq
  by_cases et:t'=t
  ·subst et
   rw [AL]at Eh
   by_cases e:q.1=c.B i 1
   ·obtain⟨z1,z2⟩:=xM q Eh e
    rw [e,AL]
    exact⟨z1.symm,.inr ⟨i,hi,e,by rw [z1];exact z2⟩⟩
   ·rw [Ai _ _ e];exact I.hold t' q (hH q Eh e)
  ·rw [Ai _ _ et]at Eh
   rw [Ai _ _ (G7 t' et q Eh)];exact I.hold t' q Eh
 ·show((ut u.hold t H t').map Prod.fst).Nodup
  by_cases et:t'=t
  ·subst et;rw [AL];exact IM
  ·rw [Ai _ _ et];exact I.nd t'
 ·have a:q∈ut u.hold t H t1:=hq
  have b:q'∈ut u.hold t H t2:=Eh
  by_cases et:t1=t
  ·subst et
   rw [AL]at a
   rw [Ai _ _ (Ne.symm B7)]at b
   by_cases e:q.1=c.B i 1
   ·rw [e];exact Ne.symm (G7 t2 (Ne.symm B7) q' b)
   ·exact I.Td t1 t2 B7 q (hH q a e) q' b
  ·rw [Ai _ _ et]at a
   by_cases pN:t2=t
   ·subst pN
    rw [AL]at b
    by_cases e:q'.1=c.B i 1
    ·rw [e];exact G7 t1 et q a
    ·exact I.Td t1 t2 B7 q a q' (hH q' b e)
   ·rw [Ai _ _ pN]at b
    exact I.Td t1 t2 B7 q a q' b
 ·show ∃t',t'<c.nT/\(_,_)∈ut u.hold t H t'
  have e2:=e1 i' (2+2*j') Dc (by omega) (by omega)
  rw [e2]at hm⊢
  obtain⟨t',h1,h2⟩:=I.own i' j' Dc Dm hm
  refine⟨t',h1,?_⟩
  by_cases et:t'=t
  ·subst et
   rw [AL]
   exact pE _ h2 fun z=>by
    obtain⟨z1,z2⟩:=ok.inj _ _ _ _ Dc (by omega) hi (by omega) z
    omega
  ·rw [Ai _ _ et];exact h2
 ·show ∃t',t'<c.nT/\(_,_)∈ut u.hold t H t'
  by_cases e:i'=i
  ·subst e
   rw [AL]at hm
   exact⟨t,ht,by rw [AL];exact xL hm⟩
  ·rw [e1 i' 1 Dc (by omega) (by omega)]at hm
   obtain⟨t',h1,h2⟩:=I.V8 i' Dc hm
   refine⟨t',h1,?_⟩
   by_cases et:t'=t
   ·subst et
    rw [AL]
    exact pE _ h2 fun z=>by
     obtain⟨z1,z2⟩:=ok.inj _ _ _ _ Dc (by omega) hi (by omega) z
     omega
   ·rw [Ai _ _ et];exact h2
 ·rw [e1 i' _ Dc (by omega) (by omega)]at hm⊢
  exact I.fn i' j' Dc Dm hm
 ·rw [e1 i' _ Dc (by omega) (by omega)]
  exact I.fresh i' j' r Dc Dm hm
theorem FX.PP(I:FX c fs n u v){t:Nat}{e:TE}{Vr:Nat->Value}{kept':List (Nat×Obj)}(ht:t<c.nT)(hk:∀q,q∈u.kept->q∈kept')(he:N3 kept' e):FX c fs n {u with told:=ut u.told t (u.told t++[e]),tv:=Vr,kept:=kept'} v:=by
 refine⟨I.st,I.due,I.now,I.busy,I.hold,I.nd,I.Td,I.own,I.V8,fun i j hi hj hm=>(I.fn i j hi hj hm).mono hk fun _ _ h=>h,fun t' x hx=>?_,I.fresh,I.ah,fun t' h=>?_⟩
 ·have LU:x∈ut u.told t (u.told t++[e]) t':=hx
  by_cases et:t'=t
  ·subst et
   rw [AL]at LU
   rcases Ff.1 LU with z|z
   ·exact(I.tok t' x z).mono hk
   ·rw [DD.1 z];exact he
  ·rw [Ai _ _ et]at LU
   exact(I.tok t' x LU).mono hk
 ·show ut u.told t (u.told t++[e]) t'=[]
  rw [Ai _ _ (by omega)]
  exact I.out t' h
theorem FX.keep(I:FX c fs n u v){th':Nat->Value}{kept':List (Nat×Obj)}(hk:∀q,q∈u.kept->q∈kept'):FX c fs n {u with th:=th',kept:=kept'} v:=
 ⟨I.st,I.due,I.now,I.busy,I.hold,I.nd,I.Td,I.own,I.V8,fun i j hi hj hm=>(I.fn i j hi hj hm).mono hk fun _ _ h=>h,fun t x hx=>(I.tok t x hx).mono hk,I.fresh,I.ah,I.out⟩
end
end
section
open Go Go.TJ Go.Conc Go.Proofs
structure Ld(h:Hp)(c:Nat)(B:Nat->Nat)(FW:Nat->Value):Prop where
 obj:∃cs,h[c]?=some (.cells cs 96 (0,0))
 Gs:AF h ⟨c,0,none⟩=some (ptr (B 0))
 Gg:AF h ⟨c,1,none⟩=some (ptr (B 1))
 JM:∀i,i<16->AF h ⟨c,2+i*3,none⟩=some (ptr (B (2+2*i)))
 Tg:∀i,i<16->AF h ⟨c,2+i*3+1,none⟩=some (ptr (B (3+2*i)))
 pf:∀i,i<16->AF h ⟨c,2+i*3+2,none⟩=some (FW i)
theorem Jo{h h':Hp}{a:Addr}(hb:h'[a.block]?=h[a.block]?):TJ.AF h' a=TJ.AF h a:=by
 unfold TJ.AF
 rw [hb]
theorem Ld.same{h h':Hp}{c:Nat}{B:Nat->Nat}{FW:Nat->Value}(k:Ld h c B FW)(hb:h'[c]?=h[c]?):Ld h' c B FW:=by
 have e:∀o,AF h' ⟨c,o,none⟩=AF h ⟨c,o,none⟩:=fun o=>Jo hb
 obtain⟨cs,Ea⟩:=k.obj
 exact⟨⟨cs,hb.trans Ea⟩,(e _).trans k.Gs,(e _).trans k.Gg,fun i hi=>(e _).trans (k.JM i hi),fun i hi=>(e _).trans (k.Tg i hi),fun i hi=>(e _).trans (k.pf i hi)⟩
theorem Ld.jE{h:Hp}{c:Nat}{B:Nat->Nat}{FW:Nat->Value}(k:Ld h c B FW){i:Nat}(hi:i<16)(v:Value):Ld (Af h ⟨c,2+i*3+2,none⟩ v) c B (ut FW i v):=by
 have hc:=k.pf i hi
 obtain⟨cs,Ea⟩:=k.obj
 have o:∀q,q≠2+i*3+2->AF (Af h ⟨c,2+i*3+2,none⟩ v) ⟨c,q,none⟩=AF h ⟨c,q,none⟩:=fun q hq=>DK _ _ _ _ (by simp;omega) ⟨_,hc⟩
 refine⟨⟨_,Fp h ⟨c,2+i*3+2,none⟩ v Ea rfl⟩,by rw [o _ (by omega)];exact k.Gs,by rw [o _ (by omega)];exact k.Gg,fun q hq=>by rw [o _ (by omega)];exact k.JM q hq,fun q hq=>by rw [o _ (by omega)];exact k.Tg q hq,fun q hq=>?_⟩
 by_cases e:q=i
 ·subst e;rw [AL];exact EC hc
 ·rw [Ai _ _ e,o _ (by omega)];exact k.pf q hq
theorem Ld.PW{h:Hp}{c:Nat}{B:Nat->Nat}{FW:Nat->Value}(k:Ld h c B FW)(o:Nat):Bf h ⟨c,o,none⟩=false:=by
 obtain⟨cs,Ea⟩:=k.obj;exact AS Ea
def Ex(e:TE):List Value:=[.int .i64 e.s,.int .i64 e.at_,e.vv,.int .i64 e.kd,.int .i64 e.nm,AK]
def G3(th tv:Value):Obj:=.cells #[th,AK,tv] 75 (0,0)
structure CD where
 c:CP
 hN:Hp
 ex:Nat->Prop
 hb:Nat->Nat
 v0:Nat->Int
def CD.FC(d:CD)(b:Nat):Prop:=(∃i j,i<d.c.nC/\j<34/\b=d.c.B i j)\/∃k,k<d.c.nK/\b=d.c.K k
def CD.base(d:CD)(b:Nat):Prop:=b<d.hN.size/\¬d.FC b/\¬d.ex b
def CD.old(d:CD)(b:Nat):Prop:=d.base b/\(∀i,i<d.c.nC->b≠d.c.C i)/\∀t,t<64->b≠d.hb t
structure CD.Ok(d:CD):Prop where
 c:d.c.Ok
 C:∀i,i<d.c.nC->d.base (d.c.C i)
 hb:∀t,t<64->d.base (d.hb t)
 Ci:∀i j,i<d.c.nC->j<d.c.nC->d.c.C i=d.c.C j->i=j
 hi:∀i j,i<64->j<64->d.hb i=d.hb j->i=j
 Ch:∀i t,i<d.c.nC->t<64->d.c.C i≠d.hb t
 nT:d.c.nT<=64
structure VB(d:CD)(u:CU)(h:Hp):Prop where
 old:∀b,d.old b->h[b]?=d.hN[b]?
 Jx:∀i,i<d.c.nC->Ld h (d.c.C i) (d.c.B i) (u.FW i)
 IM:∀t,t<64->h[d.hb t]?=some (G3 (u.th t) (u.tv t))
 sl:∀t,t<64->AR h (u.tv t) 89 6 (u.told t).length ((u.told t).flatMap Ex)
 kept:∀q,q∈u.kept->h[q.1]?=some q.2
 JF:∀t b,t<64->blk (u.tv t)=some b->¬d.FC b/\¬d.base b
 ME:∀q,q∈u.kept->¬d.FC q.1/\¬d.base q.1
 tk:∀t b,t<64->blk (u.tv t)=some b->∀q,q∈u.kept->q.1≠b
 tt:∀t t' b,t<64->t'<64->t≠t'->blk (u.tv t)=some b->blk (u.tv t')≠some b
def Le(d:CD)(u:CU)(b:Nat):Prop:=d.base b\/(¬d.FC b/\((∃t,t<64/\blk (u.tv t)=some b)\/∃q,q∈u.kept/\q.1=b))
def pX(u:CV):Prop:=∀t,JL (u.out t)=(u.told t).map TE.p
structure XJ(d:CD)(l:List Ev)(u:CV)(v:Nat->Int):Prop where
 inv:FX d.c u.fs l.length u.toCU v
 tie:pX u
 Cz:SE d.c.rq d.c.P l u.fs u.out u.Dg
def XC(d:CD):Us where
 U:=CV
 FC:=d.FC
 HE:=fun u=>Le d u.toCU
 I:=fun u=>VB d u.toCU
 J:=XJ d
 V:=fun i u u'=>u'.hold i=u.hold i/\u'.told i=u.told i/\u'.tv i=u.tv i/\u'.th i=u.th i/\u'.Dg i=u.Dg i/\∀q,q∈u.kept->q∈u'.kept
 Q:=fun i _ s u=>match s with| .over=>u.hold i=[]/\(u.told i).length<=2031647/\u.Dg i= .done| .born=>u.hold i=[]/\u.told i=[]/\u.Dg i=d.c.P i| .Bp r=>∃r0 k,u.Dg i= .step r0 k/\r=d.c.rq r0
theorem Q7{h h':Hp}{s:Value}{e sz n:Nat}{cells:List Value}(x:AR h s e sz n cells)(hb:∀b,blk s=some b->h'[b]?=h[b]?):AR h' s e sz n cells:=by
 refine⟨x.1,x.2.imp id ?_⟩
 rintro⟨b,cap,rest,rfl,h1,h2,h3⟩
 exact⟨b,cap,rest,rfl,h1,h2,(hb b rfl).trans h3⟩
section
variable{d:CD}{u u':CV}{h h':Hp}{i:Nat}{γ Ae:GG (XC d)}{L L':List (Nat×Obj)}{p:PA}
theorem G1(ok:d.Ok):(XC d).Ok where
 Lg:=fun _ _=>⟨rfl,rfl,rfl,rfl,rfl,fun _ h=>h⟩
 T8:=fun _ _ _ _ h1 h2=>⟨h2.1.trans h1.1,h2.2.1.trans h1.2.1,h2.2.2.1.trans h1.2.2.1,h2.2.2.2.1.trans h1.2.2.2.1,h2.2.2.2.2.1.trans h1.2.2.2.2.1,fun q hq=>h2.2.2.2.2.2 q (h1.2.2.2.2.2 q hq)⟩
 loc:=fun u h h' hb I=>by
  have I':VB d (CV.toCU u) h:=I
  have DN:∀b,d.base b->h'[b]?=h[b]?:=fun b x=>hb b (.inl x)
  exact⟨fun b h1=>(DN b h1.1).trans (I'.old b h1),fun i hi=>(I'.Jx i hi).same (DN _ (ok.C i hi)),fun t ht=>(DN _ (ok.hb t ht)).trans (I'.IM t ht),fun t ht=>Q7 (I'.sl t ht) fun b e=>hb b (.inr ⟨(I'.JF t b ht e).1,.inl ⟨t,ht,e⟩⟩),fun q hq=>(hb _ (.inr ⟨(I'.ME q hq).1,.inr ⟨q,hq,rfl⟩⟩)).trans (I'.kept q hq),I'.JF,I'.ME,I'.tk,I'.tt⟩
 R3:=fun i l s u u' hv hq=>by
  cases s with
  | over=>show CU.hold _ i=[]/\(CU.told _ i).length<=2031647/\CV.Dg u' i= .done;rw [hv.1,hv.2.1,hv.2.2.2.2.1];exact hq
  | born=>show CU.hold _ i=[]/\CU.told _ i=[]/\CV.Dg u' i=d.c.P i;rw [hv.1,hv.2.1,hv.2.2.2.2.1];exact hq
  | Bp r=>show ∃r0 k,CV.Dg u' i= .step r0 k/\r=d.c.rq r0;rw [hv.2.2.2.2.1];exact hq
 Td:=fun u b hd hc=>by
  rcases hd with x|x
  ·exact x.2.1 hc
  ·exact x.1 hc
structure C8(d:CD)(i:Nat)(γ:GG (XC d))(u:CV)(L:List (Nat×Obj))(h:Hp)(p:PA):Prop where
 BI:GB (XC d) i γ u L h
 inv:FX d.c u.fs (γ.p.acc i).log.length u.toCU (γ.p.acc i).val
 tie:pX u
 Cz:JS d.c.rq d.c.P (γ.p.acc i).log u.fs u.out u.Dg i p
 lt:i<d.c.nT
theorem C8.I(a:C8 d i γ u L h p):VB d u.toCU h:=a.BI.I
structure Rn(d:CD)(i s:Nat)(γ:GG (XC d))(u:CV)(Ae:GG (XC d))(u':CV):Prop where
 al:Gk (XC d) i γ.p Ae.p
 hold:u'.hold i=u.hold i
 th:u'.th i=u.th i
 kept:∀q,q∈u.kept->q∈u'.kept
 len:(Bm i (γ.p.acc i).log).length<=(Bm i (Ae.p.acc i).log).length
 L9:(u'.told i).length+31*(Bm i (γ.p.acc i).log).length<=(u.told i).length+31*(Bm i (Ae.p.acc i).log).length+s
abbrev JK(d:CD)(i:Nat)(γ:GG (XC d))(u:CV)(Ae:GG (XC d))(u':CV):Prop:=Rn d i 0 γ u Ae u'
theorem JK.refl(d:CD)(i:Nat)(γ:GG (XC d))(u:CV):JK d i γ u γ u:=⟨Gk.refl _ _,rfl,rfl,fun _ h=>h,CY _,CY _⟩
theorem Rn.kI{s s1:Nat}{E5 KF:GG (XC d)}{u1 u2:CV}(a:Rn d i s γ u E5 u1)(b:Rn d i s1 E5 u1 KF u2):Rn d i (s+s1) γ u KF u2:=⟨a.al.trans b.al,b.hold.trans a.hold,b.th.trans a.th,fun q hq=>b.kept q (a.kept q hq),Dt a.len b.len,by have:=a.L9;have:=b.L9;omega⟩
theorem Rn.trans{s:Nat}{E5 KF:GG (XC d)}{u1 u2:CV}(a:Rn d i s γ u E5 u1)(b:JK d i E5 u1 KF u2):Rn d i s γ u KF u2:=a.kI b
theorem FX.eqv{c:CP}{fs:Fs}{n:Nat}{u:CU}{v v':Nat->Int}(I:FX c fs n u v)(e:v'=v):FX c fs n u v':=e▸I
def CV.goes(u:CV)(i:Nat)(p:PA):CV:={u with Dg:=ut u.Dg i p}
theorem Q6(ok:d.Ok)(T:GB (XC d) i γ u L h)(fs:Fs)(o:List It)(p:PA):GB (XC d) i γ {u with fs:=fs,out:=ut u.out i o,Dg:=ut u.Dg i p} L h:=by
 have I:VB d u.toCU h:=T.I
 obtain⟨p1,p3⟩:(∀q,q∈L->h[q.1]?=some q.2/\¬(XC d).HE u q.1)/\∀b,(XC d).HE u b->b<h.size:=by
  obtain⟨s,M,g⟩:=T.gi
  have hn:i<({γ.p.acc i with u:=u,CZ:=ut (γ.p.acc i).CZ i L}:PS (XC d).U).num:=by show i<(γ.p.acc i).num;rw [(Dk γ.p i).2.2.1];exact T.lt
  refine⟨fun q hq=>?_,fun b hb=>(g.Hg b hb).1⟩
  have:=g.CZ i hn q (by show q∈ut (γ.p.acc i).CZ i L i;rw [AL];exact hq)
  exact⟨this.1,this.2.2.2.2⟩
 let u':CV:={u with fs:=fs,out:=ut u.out i o,Dg:=ut u.Dg i p}
 exact T.user (G1 ok) (u':=u') (L':=L) (AN.refl _ _) (fun b hb=>⟨.inl hb,p3 b hb⟩) (fun q hq=>⟨(p1 q hq).1,.inl ⟨q,hq,rfl⟩,(p1 q hq).2⟩) (by exact I) (fun x hx=>⟨rfl,rfl,rfl,rfl,Ai _ _ hx,fun _ h=>h⟩)
structure ND(d:CD)(i:Nat)(γ:GG (XC d))(u:CV)(L:List (Nat×Obj))(r:Rq)(Ae:GG (XC d))(u':CV)(h':Hp)(p:PA):Prop where
 BI:GB (XC d) i Ae u' L h'
 inv:FX d.c u'.fs Ae.p.log.length u'.toCU Ae.p.val
 tie:pX u'
 Cz:JS d.c.rq d.c.P (Ae.p.acc i).log u'.fs u'.out u'.Dg i p
 go:JK d i γ u Ae u'
 told:u'.told i=u.told i
 lt:i<d.c.nT
 val:(Ae.p.acc i).val=ut Ae.p.val (d.c.blk r.b) (behind r.op (Ae.p.val (d.c.blk r.b)) r.arg r.new).1
 log:(Ae.p.acc i).log.length=Ae.p.log.length+1
 len:(Bm i (γ.p.acc i).log).length<(Bm i (Ae.p.acc i).log).length
 big:Ae.p.log.length<65536
theorem ND.of(ok:d.Ok){r:Rq}{k:Int->PA}(a:C8 d i γ u L h (.step r k))(T:GB (XC d) i Ae Ae.p.u L h')(st:HQ (XC d) i γ u (d.c.rq r) Ae):ND d i γ u L r Ae (CV.goes Ae.p.u i (k (Ae.p.val (d.c.blk r.b)))) h' (k (Ae.p.val (d.c.blk r.b))):=by
 have ha:=Ig Ae.p i st.st
 have hV:(XC d).V i u Ae.p.u:=st.V
 have hJ:XJ d Ae.p.log Ae.p.u Ae.p.val:=T.J
 have hl:(Bm i (γ.p.acc i).log).length<(Bm i (Ae.p.acc i).log).length:=by rw [st.after];simp
 have hT:=Q6 ok T (CV.fs Ae.p.u) (CV.out Ae.p.u i) (k (Ae.p.val (d.c.blk r.b)))
 rw [FU]at hT
 have Xu:CV.Dg Ae.p.u i= .step r k:=hV.2.2.2.2.1.trans a.Cz.at_
 have hs:=hJ.Cz.access (i:=i) Xu (e:=Co i (d.c.rq r) (Ae.p.val (d.c.rq r).b)) rfl rfl
 have W6:(CV.goes Ae.p.u i (k (Ae.p.val (d.c.blk r.b)))).told i=u.told i:=hV.2.1
 refine⟨hT,hJ.inv,hJ.tie,?_,⟨st.al,hV.1,hV.2.2.2.1,hV.2.2.2.2.2,Nat.le_of_lt hl,by rw [W6];omega⟩,W6,a.lt,by rw [ha];rfl,by rw [ha];simp,hl,T.len⟩
 rw [ha]
 exact hs
theorem ND.at_{r:Rq}(x:ND d i γ u L r Ae u' h' p)(e:(Ae.p.acc i).val=Ae.p.val):C8 d i Ae u' L h' p:=
 ⟨x.BI,(x.inv.mono (by rw [x.log];omega)).eqv e,x.tie,x.Cz,x.lt⟩
theorem C8.asks{r:Rq}{k:Int->PA}(a:C8 d i γ u L h (.step r k)):X9 (XC d) i γ u (d.c.rq r):=⟨⟨r,k,a.Cz.at_,rfl⟩,a.inv,a.tie,a.Cz.rest⟩
theorem OJ(ok:d.Ok){b n:Nat}{k:Int->PA}(a:C8 d i γ u L h (.step ⟨1,n,0,0⟩ k))(hn:d.c.blk n=b)(hb:d.FC b){t:Nat}(ht:t=γ.p.tb i):AY Tryz.prog false (ED Tryz.prog (PX (XC d)) (i+1)) 30 #[ptr b,ptr t] h ⟨0,γ⟩ (Ge (fun w h' AW=>∃(Ae:GG (XC d)) (u':CV),AW=⟨0,Ae⟩/\w= .int .i64 (Ae.p.val b)/\C8 d i Ae u' L h' (k (Ae.p.val b))/\JK d i γ u Ae u'/\FX d.c u'.fs Ae.p.log.length u'.toCU Ae.p.val/\(Bm i (γ.p.acc i).log).length<(Bm i (Ae.p.acc i).log).length/\Ae.p.log.length<65536) (Halt (XC d) i γ.p)):=by
 subst ht hn
 refine(lK (G1 ok) a.BI hb a.asks).Ni ?_
 rintro w h' AW ⟨Ae,rfl,T,st,rfl⟩
 have x:=ND.of ok a T st
 exact⟨Ae,_,rfl,rfl,x.at_ (by rw [x.val];exact FU _ _),x.go,x.inv,x.len,x.big⟩
theorem J1(ok:d.Ok){b n:Nat}{v:Int}{k:Int->PA}(a:C8 d i γ u L h (.step ⟨2,n,v,0⟩ k))(hn:d.c.blk n=b)(hb:d.FC b){t:Nat}(ht:t=γ.p.tb i):AY Tryz.prog false (ED Tryz.prog (PX (XC d)) (i+1)) 32 #[ptr b,ptr t,.int .i64 v] h ⟨0,γ⟩ (Ge (fun w h' AW=>∃(Ae:GG (XC d)) (u':CV),AW=⟨0,Ae⟩/\w= .tuple #[]/\ND d i γ u L ⟨2,n,v,0⟩ Ae u' h' (k (Ae.p.val b))/\(Ae.p.acc i).val=ut Ae.p.val b v) (Halt (XC d) i γ.p)):=by
 subst ht hn
 refine(dh (G1 ok) a.BI hb a.asks).Ni ?_
 rintro w h' AW ⟨Ae,rfl,T,st,rfl⟩
 have x:=ND.of ok a T st
 exact⟨Ae,_,rfl,rfl,x,x.val⟩
theorem VJ(ok:d.Ok){b m:Nat}{v n:Int}{k:Int->PA}(a:C8 d i γ u L h (.step ⟨3,m,v,n⟩ k))(hn:d.c.blk m=b)(hb:d.FC b){t:Nat}(ht:t=γ.p.tb i):AY Tryz.prog false (ED Tryz.prog (PX (XC d)) (i+1)) 31 #[ptr b,ptr t,.int .i64 v,.int .i64 n] h ⟨0,γ⟩ (Ge (fun w h' AW=>∃(Ae:GG (XC d)) (u':CV),AW=⟨0,Ae⟩/\((w= .bool false/\Ae.p.val b≠v/\C8 d i Ae u' L h' (k (Ae.p.val b))/\JK d i γ u Ae u'/\FX d.c u'.fs Ae.p.log.length u'.toCU Ae.p.val/\(Bm i (γ.p.acc i).log).length<(Bm i (Ae.p.acc i).log).length)\/
  (w= .bool true/\Ae.p.val b=v/\ND d i γ u L ⟨3,m,v,n⟩ Ae u' h' (k v)/\(Ae.p.acc i).val=ut Ae.p.val b n))) (Halt (XC d) i γ.p)):=by
 subst ht hn
 refine(sI (G1 ok) a.BI hb a.asks).Ni ?_
 rintro w h' AW ⟨Ae,rfl,T,st,rfl⟩
 have x:=ND.of ok a T st
 have hv:=x.val
 by_cases e:Ae.p.val (d.c.blk m)=v
 ·refine⟨Ae,_,rfl,.inr ⟨by show Value.bool (decide (Ae.p.val (d.c.blk m)=v))=_;simp [e],e,by rw [<-e];rw [<-e]at x;exact x,?_⟩⟩
  rw [hv]
  simp [behind,e]
 ·refine⟨Ae,_,rfl,.inl ⟨by show Value.bool (decide (Ae.p.val (d.c.blk m)=v))=_;simp [e],e,x.at_ ?_,x.go,x.inv,x.len⟩⟩
  rw [hv]
  simp [behind,e,FU]
theorem r8(ok:d.Ok){b n:Nat}{v:Int}{k:Int->PA}(a:C8 d i γ u L h (.step ⟨4,n,v,0⟩ k))(hn:d.c.blk n=b)(hb:d.FC b){t:Nat}(ht:t=γ.p.tb i):AY Tryz.prog false (ED Tryz.prog (PX (XC d)) (i+1)) 68 #[ptr b,ptr t,.int .i64 v] h ⟨0,γ⟩ (Ge (fun w h' AW=>∃(Ae:GG (XC d)) (u':CV),AW=⟨0,Ae⟩/\w= .int .i64 (IntKind.i64.wrap (Ae.p.val b+v))/\ND d i γ u L ⟨4,n,v,0⟩ Ae u' h' (k (Ae.p.val b))/\(Ae.p.acc i).val=ut Ae.p.val b (IntKind.i64.wrap (Ae.p.val b+v))) (Halt (XC d) i γ.p)):=by
 subst ht hn
 refine(sM (G1 ok) a.BI hb a.asks).Ni ?_
 rintro w h' AW ⟨Ae,rfl,T,st,rfl⟩
 have x:=ND.of ok a T st
 exact⟨Ae,_,rfl,rfl,x,x.val⟩
end
end
section
open Go Go.TJ Go.Conc Go.Proofs
section
variable{X:Us}{h h':Hp}{i:Nat}{γ:GG X}{u:X.U}{L:List (Nat×Obj)}
theorem GB.GJ(T:GB X i γ u L h):(∀q,q∈L->h[q.1]?=some q.2/\¬X.HE u q.1)/\∀b,X.HE u b->b<h.size:=by
 obtain⟨s,M,g⟩:=T.gi
 have hn:i<({γ.p.acc i with u:=u,CZ:=ut (γ.p.acc i).CZ i L}:PS X.U).num:=by show i<(γ.p.acc i).num;rw [(Dk γ.p i).2.2.1];exact T.lt
 refine⟨fun q hq=>?_,fun b hb=>(g.Hg b hb).1⟩
 have:=g.CZ i hn q (by show q∈ut (γ.p.acc i).CZ i L i;rw [AL];exact hq)
 exact⟨this.1,this.2.2.2.2⟩
theorem GB.pw{L':List (Nat×Obj)}(hX:X.Ok)(T:GB X i γ u L h)(hu:AN (fun b=>∃q,q∈L/\q.1=b) h h')(h2:∀q,q∈L'->h'[q.1]?=some q.2/\∃q0,q0∈L/\q0.1=q.1):GB X i γ u L' h':=by
 obtain⟨p1,p3⟩:=T.GJ
 refine T.user hX (u':=u) (L':=L') (hu.mono fun b _ e=>.inr e) (fun b hb=>⟨.inl hb,F0 (p3 b hb) hu.size⟩) (fun q hq=>?_) (hX.loc _ _ _ (fun b hb=>hu.2 b (p3 b hb) (fun⟨q,hq,e⟩=>(p1 q hq).2 (e▸hb))) T.I) (fun x _=>hX.Lg _ _)
 obtain⟨y1,q0,Vu,e⟩:=h2 q hq
 exact⟨y1,.inl ⟨q0,Vu,e⟩,by rw [<-e];exact(p1 q0 Vu).2⟩
end
section
variable{d:CD}{u u':CV}{h h':Hp}{i:Nat}{γ Ae:GG (XC d)}{L L':List (Nat×Obj)}{p:PA}
theorem C8.A5(ok:d.Ok)(a:C8 d i γ u L h p)(hu:AN (fun _=>False) h h'):C8 d i γ u L h' p:=⟨a.BI.A5 (G1 ok) hu,a.inv,a.tie,a.Cz,a.lt⟩
theorem C8.alloc(ok:d.Ok)(a:C8 d i γ u L h p)(o:Obj):C8 d i γ u ((h.size,o)::L) (h.push o) p:=⟨a.BI.alloc (G1 ok) o,a.inv,a.tie,a.Cz,a.lt⟩
theorem C8.sub(ok:d.Ok)(a:C8 d i γ u L h p)(hs:∀q,q∈L'->q∈L):C8 d i γ u L' h p:=
 ⟨a.BI.pw (G1 ok) (AN.refl _ _) fun q hq=>⟨(a.BI.GJ.1 q (hs q hq)).1,q,hs q hq,rfl⟩,a.inv,a.tie,a.Cz,a.lt⟩
theorem C8.drop(ok:d.Ok){q:Nat×Obj}(a:C8 d i γ u (q::L) h p):C8 d i γ u L h p:=a.sub ok fun q hq=>C2 _ hq
theorem C8.own(a:C8 d i γ u L h p){q:Nat×Obj}(hq:q∈L):h[q.1]?=some q.2:=(a.BI.GJ.1 q hq).1
theorem C8.ma(a:C8 d i γ u L h p){q:Nat×Obj}(hq:q∈L):q.1<h.size:=Ap (a.own hq)
theorem C8.Hg(a:C8 d i γ u L h p){b:Nat}(hb:Le d u.toCU b):b<h.size:=a.BI.GJ.2 b hb
theorem C8.put(ok:d.Ok){y:Nat}{o0 o:Obj}(a:C8 d i γ u ((y,o0)::L) h p)(hn:∀q,q∈L->q.1≠y):C8 d i γ u ((y,o)::L) (h.setIfInBounds y o) p:=by
 refine⟨a.BI.pw (G1 ok) (AN.set _ _ _ ⟨_,BJ,rfl⟩) fun q hq=>?_,a.inv,a.tie,a.Cz,a.lt⟩
 rcases Ew.1 hq with rfl|hq
 ·exact⟨AJ (a.own BJ),_,BJ,rfl⟩
 ·exact⟨by rw [AX _ (Ne.symm (hn q hq))];exact a.own (C2 _ hq),q,C2 _ hq,rfl⟩
theorem C8.fresh(a:C8 d i γ u L h p):∀q,q∈L->q.1≠h.size:=fun q hq e=>by have:=a.ma hq;omega
theorem C8.free(a:C8 d i γ u L h p){b o:Nat}(hb:Le d u.toCU b\/(∃q,q∈L/\q.1=b)\/h.size<=b):¬(ED Tryz.prog (PX (XC d)) (i+1)).still γ ⟨b,o,none⟩:=
 a.BI.free (hb.elim .inl fun x=>.inr (.inr x))
theorem C8.Fu(a:C8 d i γ u L h p){b:Nat}(hb:d.FC b):b<h.size:=by
 obtain⟨v,hv⟩:=a.BI.X3 hb
 exact Ap hv
theorem C8.new(a:C8 d i γ u L h p){b:Nat}(hb:h.size<=b):¬d.FC b/\¬d.base b:=⟨fun x=>by have:=a.Fu x;omega,fun x=>by have:=a.Hg (.inl x);omega⟩
theorem C8.keep(ok:d.Ok)(a:C8 d i γ u L h p)(o:Obj):C8 d i γ {u with kept:=u.kept++[(h.size,o)]} L (h.push o) p:=by
 have I:=a.I
 have hu:AN (fun _=>False) h (h.push o):=AN.push h o
 have hk:∀q,q∈u.kept->q∈u.kept++[(h.size,o)]:=fun q hq=>GR _ hq
 let u':CV:={u with kept:=u.kept++[(h.size,o)]}
 have Cg:∀b,Le d u.toCU b->b<h.size:=fun b hb=>a.Hg hb
 have same:∀b,Le d u.toCU b->(h.push o)[b]?=h[b]?:=fun b hb=>hu.2 b (Cg b hb) (fun x=>x)
 have I2:VB d u.toCU (h.push o):=(G1 ok).loc u h (h.push o) same I
 have hd:∀b,Le d u'.toCU b->Le d u.toCU b\/b=h.size:=fun b hb=>by
  rcases hb with x|⟨x1,x|⟨q,hq,e⟩⟩
  ·exact .inl (.inl x)
  ·exact .inl (.inr ⟨x1,.inl x⟩)
  ·rcases Ff.1 hq with z|z
   ·exact .inl (.inr ⟨x1,.inr ⟨q,z,e⟩⟩)
   ·rw [DD.1 z]at e;exact .inr e.symm
 refine⟨a.BI.user (G1 ok) (u':=u') (L':=L) (hu.mono fun _ _ x=>x.elim) (fun b hb=>?_) (fun q hq=>⟨?_,.inl ⟨q,hq,rfl⟩,fun z=>?_⟩) ⟨I2.old,I2.Jx,I2.IM,I2.sl,fun q hq=>?_,I2.JF,fun q hq=>?_,fun t b ht hb q hq=>?_,I2.tt⟩ (fun x _=>⟨rfl,rfl,rfl,rfl,rfl,hk⟩),a.inv.keep hk,a.tie,a.Cz,a.lt⟩
 ·rcases hd b hb with x|x
  ·exact⟨.inl x,by rw [CH];have:=Cg b x;omega⟩
  ·exact⟨.inr (by omega),by rw [CH];omega⟩
 ·rw [hu.2 _ (a.ma hq) (fun x=>x)];exact a.own hq
 ·rcases hd q.1 z with x|x
  ·exact(a.BI.GJ.1 q hq).2 x
  ·have:=a.ma hq;omega
 ·rcases Ff.1 hq with z|z
  ·exact I2.kept q z
  ·rw [DD.1 z];exact AG h o
 ·rcases Ff.1 hq with z|z
  ·exact I.ME q z
  ·rw [DD.1 z];exact a.new (CY _)
 ·rcases Ff.1 hq with z|z
  ·exact I.tk t b ht hb q z
  ·rw [DD.1 z]
   intro e
   have h1:b<h.size:=AR.lt (I.sl t ht) hb
   change h.size=b at e
   omega
theorem Lr(ok:d.Ok)(T:GB (XC d) i γ u L h)(H:List (Nat×Int)):GB (XC d) i γ {u with hold:=ut u.hold i H} L h:=by
 have I:VB d u.toCU h:=T.I
 exact T.user (G1 ok) (u':={u with hold:=ut u.hold i H}) (L':=L) (AN.refl _ _) (fun b hb=>⟨.inl hb,T.GJ.2 b hb⟩) (fun q hq=>⟨(T.GJ.1 q hq).1,.inl ⟨q,hq,rfl⟩,(T.GJ.1 q hq).2⟩) ⟨I.old,I.Jx,I.IM,I.sl,I.kept,I.JF,I.ME,I.tk,I.tt⟩ (fun x hx=>⟨Ai _ _ hx,rfl,rfl,rfl,rfl,fun _ h=>h⟩)
theorem ND.plain{r:Rq}{x:Int}{b:Nat}(ok:d.Ok)(g:ND d i γ u L r Ae u' h' p)(hv:(Ae.p.acc i).val=ut Ae.p.val b x)(hs:∀i j,i<d.c.nC->j<16->b≠d.c.B i (2+2*j))(hb:∀i,i<d.c.nC->b≠d.c.B i 1)(hx:(∀i j,i<d.c.nC->j<34->b≠d.c.B i j)\/(0<=x/\x<=4611686018427387904)):C8 d i Ae u' L h' p:=
 ⟨g.BI,(((g.inv.other ok.c hs hb hx).mono (by rw [g.log];omega)).eqv hv),g.tie,g.Cz,g.lt⟩
theorem RP{b:Nat}{x:Int}{H:List (Nat×Int)}(h:(H.map Prod.fst).Nodup)(hn:∀q,q∈H->q.1≠b):(((b,x)::H).map Prod.fst).Nodup:=by
 rw [List.map_cons,List.nodup_cons]
 refine⟨fun z=>?_,h⟩
 obtain⟨q,hq,e⟩:=Iu.1 z
 exact hn q hq e
theorem VY{q0:Nat×Int}{H:List (Nat×Int)}(h:((q0::H).map Prod.fst).Nodup):(H.map Prod.fst).Nodup/\∀q,q∈H->q.1≠q0.1:=by
 rw [List.map_cons,List.nodup_cons]at h
 exact⟨h.2,fun q hq e=>h.1 (Iu.2 ⟨q,hq,e⟩)⟩
theorem ND.px{r:Rq}{id j:Nat}{y:Int}{H:List (Nat×Int)}(ok:d.Ok)(g:ND d i γ u L r Ae u' h' p)(hi:id<d.c.nC)(hj:j<16)(hv:(Ae.p.acc i).val=ut Ae.p.val (d.c.B id (2+2*j)) (y+1))(hh:u.hold i=(d.c.B id (2+2*j),y)::H)(hy:y % 4=1\/y % 4=3):
  C8 d i Ae {u' with hold:=ut u'.hold i H} L h' p:=by
 have ad:u'.hold i=(d.c.B id (2+2*j),y)::H:=g.go.hold.trans hh
 obtain⟨to,-⟩:=g.inv.hold i (d.c.B id (2+2*j),y) (by rw [ad];exact BJ)
 change Ae.p.val (d.c.B id (2+2*j))=y at to
 have nd:=g.inv.nd i
 rw [ad]at nd
 obtain⟨vp,vo⟩:=VY nd
 have Dn:=g.inv.st id j hi hj
 rw [to]at Dn
 have J:=g.inv.mono (n':=Ae.p.log.length+1) (by omega)
 have J2:=J.state ok.c (i:=id) (j:=j) (t:=i) (x:=y+1) (H:=H) (N1:=u'.FW) (kept':=u'.kept) (fs':=u'.fs) hi hj g.lt ⟨by omega,by omega⟩ (fun t' ht q hq e=>J.Td t' i ht q hq (d.c.B id (2+2*j),y) (by rw [ad];exact BJ) e)
  (fun q hq _=>by rw [ad];exact C2 _ hq) (fun q hq B7=>by
   rw [ad]at hq
   rcases Ew.1 hq with rfl|z
   ·exact absurd rfl B7
   ·exact z) (fun q hq e=>absurd e (vo q hq)) vp (fun z=>by omega) (fun q hq=>hq) (fun _ _ _=>rfl) (fun hz=>by
   have:=J.fn id j hi hj (by rw [to];omega)
   rw [to]at this
   obtain⟨s,z1,z2⟩:=this
   refine⟨s,z1,?_⟩
   rw [show 4*((y+1) / 4)+2=4*(y / 4)+2 by omega];exact z2) (by omega) (fun _ _ h=>h) (fun _ _ _ h=>.inl h) J.ah
 refine⟨Lr ok g.BI H,?_,g.tie,g.Cz,g.lt⟩
 rw [g.log,hv]
 exact J2
theorem ND.qy{r:Rq}{id j:Nat}{y:Int}(ok:d.Ok)(g:ND d i γ u L r Ae u' h' p)(hi:id<d.c.nC)(hj:j<16)(KG:Ae.p.val (d.c.B id (2+2*j))=y)(hv:(Ae.p.acc i).val=ut Ae.p.val (d.c.B id (2+2*j)) (y+2))(hy:y % 4=2):C8 d i Ae u' L h' p:=by
 have Dn:=g.inv.st id j hi hj
 rw [KG]at Dn
 have J:=g.inv.mono (n':=Ae.p.log.length+1) (by omega)
 have fr:=J.free ok.c hi hj (by rw [KG];omega)
 have J2:=J.state ok.c (i:=id) (j:=j) (t:=i) (x:=y+2) (H:=u'.hold i) (N1:=u'.FW) (kept':=u'.kept) (fs':=u'.fs) hi hj g.lt ⟨by omega,by omega⟩ (fun t' _ q hq=>fr t' q hq) (fun q hq _=>hq) (fun q hq _=>hq) (fun q hq e=>absurd e (fr i q hq)) (J.nd i) (fun z=>by omega) (fun q hq=>hq) (fun _ _ _=>rfl) (fun z=>by omega) (by omega) (fun _ _ h=>h) (fun _ _ _ h=>.inl h) J.ah
 rw [FU]at J2
 refine⟨g.BI,?_,g.tie,g.Cz,g.lt⟩
 rw [g.log,hv]
 exact J2
theorem VU{o:List It}{t:Nat}(h:pX u)(e:JL o=JL (u.out t)){u1:CV}(h1:u1.out=ut u.out t o)(h2:u1.told=u.told):pX u1:=fun t'=>by
 rw [h1,h2]
 by_cases et:t'=t
 ·subst et;rw [AL,e];exact h t'
 ·rw [Ai _ _ et];exact h t'
theorem ND.rD{r:Rq}{id j:Nat}{y:Int}{k:Nat->PA}(ok:d.Ok)(g:ND d i γ u L r Ae u' h' (.ask (id,j,y) k))(hi:id<d.c.nC)(hj:j<16)(KG:Ae.p.val (d.c.B id (2+2*j))=y)(hv:(Ae.p.acc i).val=ut Ae.p.val (d.c.B id (2+2*j)) (y+1))(hy:y % 4=2):
  ∃s,Xm d.c u'.kept (u'.FW id j) s/\C8 d i Ae {u' with hold:=ut u'.hold i ((d.c.B id (2+2*j),y+1)::u'.hold i),out:=ut u'.out i (u'.out i++[.ak (id,j,y) s]),Dg:=ut u'.Dg i (k s)} L h' (k s):=by
 have Dn:=g.inv.st id j hi hj
 rw [KG]at Dn
 have J:=g.inv.mono (n':=Ae.p.log.length+1) (by omega)
 have fr:=J.free ok.c hi hj (by rw [KG];omega)
 have No:=J.fn id j hi hj (by rw [KG];omega)
 rw [KG]at No
 obtain⟨s,f1,f2⟩:=No
 have J2:=J.state ok.c (i:=id) (j:=j) (t:=i) (x:=y+1) (H:=(d.c.B id (2+2*j),y+1)::u'.hold i) (N1:=u'.FW) (kept':=u'.kept) (fs':=u'.fs) hi hj g.lt ⟨by omega,by omega⟩ (fun t' _ q hq=>fr t' q hq)
  (fun q hq B7=>(Ew.1 hq).elim (fun z=>absurd (by rw [z]) B7) fun z=>z) (fun q hq _=>C2 _ hq) (fun q hq e=>(Ew.1 hq).elim (fun z=>by rw [z];exact⟨rfl,by omega⟩) fun z=>absurd e (fr i q z)) (RP (J.nd i) fun q hq=>fr i q hq) (fun _=>BJ) (fun q hq=>hq) (fun _ _ _=>rfl) (fun _=>⟨s,f1,by rw [show 4*((y+1) / 4)+2=4*(y / 4)+2 by omega];exact f2⟩) (by omega) (fun _ _ h=>h) (fun _ _ _ h=>.inl h) J.ah
 rw [show 4*(y / 4)+2=y by omega]at f2
 refine⟨s,f1,Lr ok (Q6 ok g.BI u'.fs _ _) _,?_,VU g.tie (by rw [FV];exact DI _) rfl rfl,g.Cz.ask f2,g.lt⟩
 rw [g.log,hv]
 exact J2
theorem ND.rF{r:Rq}{id:Nat}(ok:d.Ok)(g:ND d i γ u L r Ae u' h' p)(hi:id<d.c.nC)(h0:Ae.p.val (d.c.B id 1)=0)(hv:(Ae.p.acc i).val=ut Ae.p.val (d.c.B id 1) 1):
  C8 d i Ae {u' with hold:=ut u'.hold i ((d.c.B id 1,1)::u'.hold i)} L h' p:=by
 have J:=g.inv.mono (n':=Ae.p.log.length+1) (by omega)
 have fr:=J.gM ok.c hi h0
 have J2:=J.Ys ok.c (i:=id) (t:=i) (x:=1) (H:=(d.c.B id 1,1)::u'.hold i) hi g.lt (.inr rfl) (fun t' _ q hq=>fr t' q hq)
  (fun q hq B7=>(Ew.1 hq).elim (fun z=>absurd (by rw [z]) B7) fun z=>z) (fun q hq _=>C2 _ hq) (fun q hq e=>(Ew.1 hq).elim (fun z=>by rw [z];exact⟨rfl,rfl⟩) fun z=>absurd e (fr i q z)) (RP (J.nd i) fun q hq=>fr i q hq) (fun _=>BJ)
 refine⟨Lr ok g.BI _,?_,g.tie,g.Cz,g.lt⟩
 rw [g.log,hv]
 exact J2
theorem ND.pz{r:Rq}{id:Nat}{H:List (Nat×Int)}(ok:d.Ok)(g:ND d i γ u L r Ae u' h' p)(hi:id<d.c.nC)(hv:(Ae.p.acc i).val=ut Ae.p.val (d.c.B id 1) 0)(hh:u.hold i=(d.c.B id 1,1)::H):
  C8 d i Ae {u' with hold:=ut u'.hold i H} L h' p:=by
 have ad:u'.hold i=(d.c.B id 1,1)::H:=g.go.hold.trans hh
 have J:=g.inv.mono (n':=Ae.p.log.length+1) (by omega)
 have nd:=J.nd i
 rw [ad]at nd
 obtain⟨vp,vo⟩:=VY nd
 have J2:=J.Ys ok.c (i:=id) (t:=i) (x:=0) (H:=H) hi g.lt (.inl rfl) (fun t' ht q hq e=>J.Td t' i ht q hq (d.c.B id 1,1) (by rw [ad];exact BJ) e)
  (fun q hq _=>by rw [ad];exact C2 _ hq) (fun q hq B7=>by
   rw [ad]at hq
   rcases Ew.1 hq with rfl|z
   ·exact absurd rfl B7
   ·exact z) (fun q hq e=>absurd e (vo q hq)) vp (fun z=>by omega)
 refine⟨Lr ok g.BI _,?_,g.tie,g.Cz,g.lt⟩
 rw [g.log,hv]
 exact J2
end
end
section
open Go Go.TJ Go.Conc Go.Proofs
section
variable{d:CD}{u u':CV}{h h' h1:Hp}{i:Nat}{γ Ae:GG (XC d)}{L L':List (Nat×Obj)}{p:PA}
theorem VB.fg(ok:d.Ok)(I:VB d u.toCU h){y:Nat}(hy:d.base y)(hu:AN (fun b=>b=y) h h')(N0:∀b,Le d u.toCU b->b<h.size)(G7:¬d.old y):
  (∀b,d.old b->h'[b]?=d.hN[b]?)/\(∀i,i<d.c.nC->d.c.C i≠y->Ld h' (d.c.C i) (d.c.B i) (u.FW i))/\(∀t,t<64->d.hb t≠y->h'[d.hb t]?=some (G3 (u.th t) (u.tv t)))/\(∀t,t<64->AR h' (u.tv t) 89 6 (u.told t).length ((u.told t).flatMap Ex))/\∀q,q∈u.kept->h'[q.1]?=some q.2:=by
 have s:∀b,Le d u.toCU b->b≠y->h'[b]?=h[b]?:=fun b hb B7=>hu.2 b (N0 b hb) B7
 refine⟨fun b hb=>(s b (.inl hb.1) fun e=>G7 (e▸hb)).trans (I.old b hb),fun i hi B7=>(I.Jx i hi).same (s _ (.inl (ok.C i hi)) B7),fun t ht B7=>(s _ (.inl (ok.hb t ht)) B7).trans (I.IM t ht),fun t ht=>Q7 (I.sl t ht) fun b hb=>s b (.inr ⟨(I.JF t b ht hb).1,.inl ⟨t,ht,hb⟩⟩) fun e=>(I.JF t b ht hb).2 (e▸hy),fun q hq=>(s _ (.inr ⟨(I.ME q hq).1,.inr ⟨q,hq,rfl⟩⟩) fun e=>(I.ME q hq).2 (e▸hy)).trans (I.kept q hq)⟩
theorem ND.sE{r:Rq}{id j:Nat}{y:Int}{f:Value}{s:Nat}(ok:d.Ok)(g:ND d i γ u L r Ae u' h' (.Hd (id,j,y+2) s p))(hi:id<d.c.nC)(hj:j<16)(KG:Ae.p.val (d.c.B id (2+2*j))=y)(hv:(Ae.p.acc i).val=ut Ae.p.val (d.c.B id (2+2*j)) (y+1))(hy:y % 4=0)(hf:Xm d.c u'.kept f s):
  C8 d i Ae {u' with hold:=ut u'.hold i ((d.c.B id (2+2*j),y+1)::u'.hold i),FW:=ut u'.FW id (ut (u'.FW id) j f),fs:=u'.fs++[((id,j,y+2),s)],out:=ut u'.out i (u'.out i++[.kn (id,j,y+2) s]),Dg:=ut u'.Dg i p} L (Af h' ⟨d.c.C id,2+j*3+2,none⟩ f) p:=by
 have Dn:=g.inv.st id j hi hj
 rw [KG]at Dn
 have J:=g.inv.mono (n':=Ae.p.log.length+1) (by omega)
 have fr:=J.free ok.c hi hj (by rw [KG];omega)
 have G7:Eb u'.fs (id,j,y+2)=none:=by
  cases hc:Eb u'.fs (id,j,y+2)with
  | none=>rfl
  | some s'=>
   have:=J.fresh id j (y+2) hi hj (by rw [hc];exact nofun)
   rw [KG]at this;omega
 have Gu:Eb (u'.fs++[((id,j,y+2),s)]) (id,j,y+2)=some s:=by
  rw [Lp,G7]
  exact if_pos rfl
 have J2:=J.state ok.c (i:=id) (j:=j) (t:=i) (x:=y+1) (H:=(d.c.B id (2+2*j),y+1)::u'.hold i) (N1:=ut u'.FW id (ut (u'.FW id) j f)) (kept':=u'.kept) (fs':=u'.fs++[((id,j,y+2),s)]) hi hj g.lt ⟨by omega,by omega⟩ (fun t' _ q hq=>fr t' q hq)
  (fun q hq B7=>(Ew.1 hq).elim (fun z=>absurd (by rw [z]) B7) fun z=>z) (fun q hq _=>C2 _ hq) (fun q hq e=>(Ew.1 hq).elim (fun z=>by rw [z];exact⟨rfl,by omega⟩) fun z=>absurd e (fr i q z)) (RP (J.nd i) fun q hq=>fr i q hq) (fun _=>BJ) (fun q hq=>hq) (fun i' j' B7=>by
   by_cases e:i'=id
   ·subst e;rw [AL,Ai _ _ (by omega)]
   ·rw [Ai _ _ e]) (fun _=>by
   rw [AL,AL]
   refine⟨s,hf,?_⟩
   rw [show 4*((y+1) / 4)+2=y+2 by omega];exact Gu) (by omega) (fun q s' h=>II h) (fun i' j' r' h=>by
   cases hc:Eb u'.fs (i',j',r')with
   | some s'=>exact .inl nofun
   | none=>
    rw [Lp,hc]at h
    refine .inr ?_
    apply Classical.byContradiction
    intro B7
    exact h (if_neg fun e=>B7 (by cases e;exact⟨rfl,rfl,by omega⟩))) (fun q s' hm=>by
   rcases Ff.1 hm with z|z
   ·exact II (J.ah q s' z)
   ·cases DD.1 z;exact Gu)
 have I:VB d u'.toCU h':=g.BI.I
 have hu:AN (fun b=>b=d.c.C id) h' (Af h' ⟨d.c.C id,2+j*3+2,none⟩ f):=AN.Af _ _ _ rfl
 have N0:∀b,Le d u'.toCU b->b<h'.size:=fun b hb=>g.BI.GJ.2 b hb
 obtain⟨k1,k2,k3,k4,k5⟩:=I.fg ok (ok.C id hi) hu N0 fun z=>z.2.1 id hi rfl
 have Ey:=hu.size
 have T:=Q6 ok g.BI (u'.fs++[((id,j,y+2),s)]) (u'.out i++[.kn (id,j,y+2) s]) p
 let u9:CV:={u' with hold:=ut u'.hold i ((d.c.B id (2+2*j),y+1)::u'.hold i),FW:=ut u'.FW id (ut (u'.FW id) j f),fs:=u'.fs++[((id,j,y+2),s)],out:=ut u'.out i (u'.out i++[.kn (id,j,y+2) s]),Dg:=ut u'.Dg i p}
 refine⟨T.user (G1 ok) (u':=u9) (L':=L) (hu.mono fun b _ e=>.inl (.inl (e▸ok.C id hi))) (fun b hb=>⟨.inl hb,F0 (N0 b hb) Ey⟩) (fun q hq=>⟨?_,.inl ⟨q,hq,rfl⟩,(g.BI.GJ.1 q hq).2⟩) ⟨k1,fun i' Dc=>?_,fun t ht=>k3 t ht fun e=>ok.Ch id t hi ht e.symm,k4,k5,I.JF,I.ME,I.tk,I.tt⟩ (fun x hx=>⟨Ai _ _ hx,rfl,rfl,rfl,rfl,fun _ h=>h⟩),?_,VU g.tie (by rw [FV];exact DI _) rfl rfl,g.Cz.Hd,g.lt⟩
 ·rw [hu.2 _ (Ap (g.BI.GJ.1 q hq).1) fun e=>(g.BI.GJ.1 q hq).2 (.inl (e▸ok.C id hi))];exact(g.BI.GJ.1 q hq).1
 ·show Ld _ _ _ (ut u'.FW id _ i')
  by_cases e:i'=id
  ·subst e;rw [AL];exact(I.Jx i' Dc).jE hj f
  ·rw [Ai _ _ e];exact k2 i' Dc fun z=>e (ok.Ci i' id Dc hi z)
 ·rw [g.log,hv]
  exact J2
theorem C8.who(ok:d.Ok)(a:C8 d i γ u L h p)(hi:i<64)(v:Value):C8 d i γ {u with th:=ut u.th i v} L (Af h ⟨d.hb i,0,none⟩ v) p:=by
 have I:=a.I
 have hu:AN (fun b=>b=d.hb i) h (Af h ⟨d.hb i,0,none⟩ v):=AN.Af _ _ _ rfl
 obtain⟨k1,k2,k3,k4,k5⟩:=I.fg ok (ok.hb i hi) hu (fun b hb=>a.Hg hb) fun z=>z.2.2 i hi rfl
 have Ey:=hu.size
 refine⟨a.BI.user (G1 ok) (u':={u with th:=ut u.th i v}) (L':=L) (hu.mono fun b _ e=>.inl (.inl (e▸ok.hb i hi))) (fun b hb=>⟨.inl hb,F0 (a.Hg hb) Ey⟩) (fun q hq=>⟨?_,.inl ⟨q,hq,rfl⟩,(a.BI.GJ.1 q hq).2⟩) ⟨k1,fun i' Dc=>k2 i' Dc (ok.Ch i' i Dc hi),fun t ht=>?_,k4,k5,I.JF,I.ME,I.tk,I.tt⟩ (fun x hx=>⟨rfl,rfl,rfl,Ai _ _ hx,rfl,fun _ h=>h⟩),?_,a.tie,a.Cz,a.lt⟩
 ·rw [hu.2 _ (a.ma hq) fun e=>(a.BI.GJ.1 q hq).2 (.inl (e▸ok.hb i hi))];exact a.own hq
 ·show _=some (G3 (ut u.th i v t) _)
  by_cases e:t=i
  ·subst e
   rw [AL,As (c:=#[u.th t,AK,u.tv t]) (I.IM t ht)];exact AJ (I.IM t ht)
  ·rw [Ai _ _ e];exact k3 t ht fun z=>e (ok.hi t i ht hi z)
 ·exact a.inv.keep (th':=ut u.th i v) fun _ h=>h
theorem C8.PP(ok:d.Ok){e:TE}(a:C8 d i γ u L h (.emit e.p p))(hi:i<64){s':Value}(he:N3 u.kept e)(up:AN (fun b=>blk (u.tv i)=some b) h h1)(sl:AR h1 s' 89 6 ((u.told i).length+1) ((u.told i).flatMap Ex++Ex e))(hb:∀b,blk s'=some b->blk (u.tv i)=some b\/h.size<=b):
  C8 d i γ {u with told:=ut u.told i (u.told i++[e]),tv:=ut u.tv i s',out:=ut u.out i (u.out i++[.tl e.p]),Dg:=ut u.Dg i p} L (Af h1 ⟨d.hb i,2,none⟩ s') p:=by
 have I:=a.I
 have bU:=up.size
 have Rj:∀b,blk s'=some b->¬d.FC b/\¬d.base b:=fun b GA=>by
  rcases hb b GA with z|z
  ·exact I.JF i b hi z
  ·exact a.new z
 have hu:AN (fun b=>b=d.hb i) h1 (Af h1 ⟨d.hb i,2,none⟩ s'):=AN.Af _ _ _ rfl
 have Ey:=hu.size
 have uu:AN (fun b=>b=d.hb i\/blk (u.tv i)=some b) h (Af h1 ⟨d.hb i,2,none⟩ s'):=(up.mono fun b _ x=>Or.inr x).trans (hu.mono fun b _ x=>Or.inl x)
 have old:∀b,d.base b->b≠d.hb i->(Af h1 ⟨d.hb i,2,none⟩ s')[b]?=h[b]?:=fun b GA B7=>uu.2 b (a.Hg (.inl GA)) fun z=>z.elim B7 fun z=>(I.JF i b hi z).2 GA
 let u':CV:={u with told:=ut u.told i (u.told i++[e]),tv:=ut u.tv i s',out:=ut u.out i (u.out i++[.tl e.p]),Dg:=ut u.Dg i p}
 have gJ:∀b,Le d u'.toCU b->Le d u.toCU b\/(h.size<=b/\blk s'=some b):=fun b x=>by
  rcases x with x|⟨x1,⟨t,ht,x⟩|x⟩
  ·exact .inl (.inl x)
  ·have x':blk (ut u.tv i s' t)=some b:=x
   by_cases e:t=i
   ·subst e
    rw [AL]at x'
    rcases hb b x' with z|z
    ·exact .inl (.inr ⟨x1,.inl ⟨t,ht,z⟩⟩)
    ·exact .inr ⟨z,x'⟩
   ·rw [Ai _ _ e]at x'
    exact .inl (.inr ⟨x1,.inl ⟨t,ht,x'⟩⟩)
  ·exact .inl (.inr ⟨x1,.inr x⟩)
 have g2:(Af h1 ⟨d.hb i,2,none⟩ s')[d.hb i]?=some (G3 (u.th i) s'):=by
  have h0:h1[d.hb i]?=some (G3 (u.th i) (u.tv i)):=(up.2 _ (a.Hg (.inl (ok.hb i hi))) fun z=>(I.JF i _ hi z).2 (ok.hb i hi)).trans (I.IM i hi)
  rw [As (c:=#[u.th i,AK,u.tv i]) h0];exact AJ h0
 refine⟨(Q6 ok a.BI u.fs (u.out i++[.tl e.p]) p).user (G1 ok) (u':=u') (L':=L) (uu.mono fun b _ z=>.inl (z.elim (fun e=>.inl (e▸ok.hb i hi)) fun z=>.inr ⟨(I.JF i b hi z).1,.inl ⟨i,hi,z⟩⟩)) (fun b x=>?_) (fun q hq=>⟨?_,.inl ⟨q,hq,rfl⟩,fun z=>?_⟩) ⟨fun b x=>(old b x.1 (x.2.2 i hi)).trans (I.old b x),fun i' Dc=>(I.Jx i' Dc).same (old _ (ok.C i' Dc) (ok.Ch i' i Dc hi)),fun t ht=>?_,fun t ht=>?_,fun q hq=>?_,fun t b ht x=>?_,I.ME,fun t b ht x q hq=>?_,fun t t' b ht aM B7 x=>?_⟩ (fun x hx=>⟨rfl,Ai _ _ hx,Ai _ _ hx,rfl,rfl,fun _ h=>h⟩),a.inv.PP a.lt (fun _ h=>h) he,?_,a.Cz.emit,a.lt⟩
 ·rcases gJ b x with z|⟨z1,z2⟩
  ·exact⟨.inl z,by have:=a.Hg z;omega⟩
  ·exact⟨.inr z1,by have:=AR.lt sl z2;omega⟩
 ·rw [uu.2 _ (a.ma hq) fun z=>(a.BI.GJ.1 q hq).2 (z.elim (fun e=>.inl (e▸ok.hb i hi)) fun z=>.inr ⟨(I.JF i _ hi z).1,.inl ⟨i,hi,z⟩⟩)]
  exact a.own hq
 ·rcases gJ q.1 z with z|⟨z1,z2⟩
  ·exact(a.BI.GJ.1 q hq).2 z
  ·have:=a.ma hq;omega
 ·show _=some (G3 _ (ut u.tv i s' t))
  by_cases e:t=i
  ·subst e;rw [AL];exact g2
  ·rw [Ai _ _ e,old _ (ok.hb t ht) fun z=>e (ok.hi t i ht hi z)];exact I.IM t ht
 ·show AR _ (ut u.tv i s' t) _ 6 (ut u.told i (u.told i++[e]) t).length ((ut u.told i (u.told i++[e]) t).flatMap Ex)
  by_cases et:t=i
  ·subst et
   rw [AL,AL,C1,Ln]
   have:[e].flatMap Ex=Ex e:=by simp
   rw [this]
   exact sl.upd hu fun b DN e=>(Rj b DN).2 (e▸ok.hb t ht)
  ·rw [Ai _ _ et,Ai _ _ et]
   exact Q7 (I.sl t ht) fun b x=>uu.2 b (AR.lt (I.sl t ht) x) fun z=>z.elim (fun e=>(I.JF t b ht x).2 (e▸ok.hb i hi)) fun z=>I.tt i t b hi ht (Ne.symm et) z x
 ·rw [uu.2 _ (a.Hg (.inr ⟨(I.ME q hq).1,.inr ⟨q,hq,rfl⟩⟩)) fun z=>z.elim (fun e=>(I.ME q hq).2 (e▸ok.hb i hi)) fun z=>I.tk i _ hi z q hq rfl]
  exact I.kept q hq
 ·have x':blk (ut u.tv i s' t)=some b:=x
  by_cases e:t=i
  ·subst e;rw [AL]at x';exact Rj b x'
  ·rw [Ai _ _ e]at x';exact I.JF t b ht x'
 ·have x':blk (ut u.tv i s' t)=some b:=x
  by_cases e:t=i
  ·subst e
   rw [AL]at x'
   rcases hb b x' with z|z
   ·exact I.tk t b ht z q hq
   ·have:=a.Hg (.inr ⟨(I.ME q hq).1,.inr ⟨q,hq,rfl⟩⟩)
    omega
  ·rw [Ai _ _ e]at x';exact I.tk t b ht x' q hq
 ·show blk (ut u.tv i s' t')≠some b
  have x':blk (ut u.tv i s' t)=some b:=x
  by_cases e:t=i
  ·subst e
   rw [AL]at x'
   rw [Ai _ _ (Ne.symm B7)]
   rcases hb b x' with z|z
   ·exact I.tt t t' b ht aM B7 z
   ·intro w
    have:=AR.lt (I.sl t' aM) w
    omega
  ·rw [Ai _ _ e]at x'
   by_cases e':t'=i
   ·subst e'
    rw [AL]
    intro w
    rcases hb b w with z|z
    ·exact I.tt t t' b ht aM B7 x' z
    ·have:=AR.lt (I.sl t ht) x'
     omega
   ·rw [Ai _ _ e'];exact I.tt t t' b ht aM B7 x'
 ·intro t
  show JL (ut u.out i (u.out i++[.tl e.p]) t)=(ut u.told i (u.told i++[e]) t).map TE.p
  by_cases et:t=i
  ·subst et
   rw [AL,AL,FV,EF,a.tie t];rfl
  ·rw [Ai _ _ et,Ai _ _ et];exact a.tie t
end
end
section
open Go Go.TJ Go.Conc Go.Proofs
inductive Pr (A:Type) where
 | done
 | step (r:Rq) (k:Int->Pr A)
 | emit (a:A) (k:Pr A)
inductive Goes {A:Type} (i:Nat):Pr A->List Ev->List A->Pr A->Prop
 | nil (p:Pr A):Goes i p [] [] p
 | emit {a:A} {k q:Pr A} {l:List Ev} {o:List A}:Goes i k l o q->Goes i (.emit a k) l (a::o) q
 | step {r:Rq} {k:Int->Pr A} {q:Pr A} {l:List Ev} {o:List A} (w:Int):Goes i (k w) l o q->Goes i (.step r k) (Co i r w::l) o q
section
variable{A:Type}{i:Nat}{p:Pr A}{l:List Ev}{o:List A}
theorem Goes.access{r:Rq}{k:Int->Pr A}(g:Goes i p l o (.step r k))(w:Int):Goes i p (l++[Co i r w]) o (k w):=by
 generalize hq:Pr.step r k=q at g
 induction g with
 | nil p=>subst hq;exact .step w (.nil _)
 | emit _ ih=>exact .emit (ih hq)
 | step w' _ ih=>exact .step w' (ih hq)
theorem Goes.PP{a:A}{k:Pr A}(g:Goes i p l o (.emit a k)):Goes i p l (o++[a]) k:=by
 generalize hq:Pr.emit a k=q at g
 induction g with
 | nil p=>subst hq;exact .emit (.nil _)
 | emit _ ih=>exact .emit (ih hq)
 | step w' _ ih=>exact .step w' (ih hq)
theorem Goes.El{q:Pr A}(g:Goes i p l o q):∀{o':List A} {q':Pr A},Goes i p l o' q'->(∀a k,q≠ .emit a k)->(∀a k,q'≠ .emit a k)->o'=o/\q'=q:=by
 induction g with
 | nil p=>
  intro o' q' g' hq Eh
  cases g' with
  | nil=>exact⟨rfl,rfl⟩
  | emit _=>exact absurd rfl (hq _ _)
 | emit _ ih=>
  intro o' q' g' hq Eh
  cases g' with
  | nil=>exact absurd rfl (Eh _ _)
  | emit h=>obtain⟨rfl,rfl⟩:=ih h hq Eh;exact⟨rfl,rfl⟩
 | @step r k q l o w _ ih=>
  intro o' q' g' hq Eh
  generalize he:Co i r w::l=l' at g'
  generalize hp:Pr.step r k=p' at g'
  cases g' with
  | nil=>cases he
  | emit h=>cases hp
  | step w' h=>
   injection hp with h1 h2
   subst h1 h2
   injection he with h3 h4
   subst h4
   have:w=w':=by injection h3
   subst this
   exact ih h hq Eh
end
section
variable{X:Us}{A:Type}{P:Nat->Pr A}{told:X.U->Nat->List A}{i:Nat}{γ Ae:GG X}{u:X.U}{L:List (Nat×Obj)}{h:Hp}
end
theorem Gc{Γ:Type}{P:Program}{main:Bool}{S:Cp Γ}{f:FuncId}{n:Nat}{k:List Item}{env:Env}{h:Hp}{δ:Ix Γ}{R:Cv Γ}{ops:Array Oper}{Z:Hp->Prop}{z:Nat}(i:Nat){d:Nat}{x:Operand}{args:Array Operand}{FL:Array TypeId}{ty:TypeId}{pos:String}{af:Array Edge}{g:Option (Nat×Bool)}{m:Nat}{listed l':Array Bool}{fn:Func}[hf:BC P f fn]{c:FuncId}{cap ws:Array Value}{vs:List Value}[AT P c]{Q:Value->Hp->Ix Γ->Prop}{Y:List PanicEntry->Hp->Ix Γ->Prop}
  (hi:ops[i]?=some ⟨some d,.call {callee:=.value x,args,argTypes:=FL},ty,pos,af,g⟩) (hr:Region.ready .any ops listed=[i]) (hl:listed.setIfInBounds i true=l') (hd:Nat.blt d n=true)
  (hw:Al ops env g=some true) (hx:ev env x=some (.func (.func c) #[] cap)) (ha:Pq env args.toList=some vs) (My:vs.toArray++cap=ws) (hc:AY P main S c ws h δ (Ge Q Y)) (hY:∀p h' AW,Y p h' AW->R (.Rh p) h' AW)
  (hn:∀v h' AW,Q v h' AW->Z h'/\EA P main S f n ops Z z m l' k ((d,v)::env) [] h' AW R):EA P main S f n ops Z z (m+1) listed k env [] h δ R:=by
 subst My
 refine P8 i hi hr hl hw fun a ka=>?_
 refine HI rfl (ka.eval hx) (C4 (fun x v hx=>ka.eval hx) ha) (hc.mono ?_)
 rintro(v|p) h' AW hq
 ·exact⟨.inr (hn v h' AW hq).1,(hn v h' AW hq).2 _ (ka.put v hd)⟩
 ·exact fun a' oy=>WU.jG (oy.trans ka.defers) hf.out (hY _ _ _ hq)
end
section
open Go Go.TJ Go.Conc Go.Proofs
def Ba(s r:Int):Obj:=.cells #[.int .i64 s,.int .i64 r] 51 (0,0)
theorem HG{x:Int}(h:0<=x):x.tmod 4=x % 4:=Int.tmod_eq_emod_of_nonneg h
section
variable{Γ:Type}{main:Bool}{S:Cp Γ}{h:Hp}{δ:Ix Γ}{c:Nat}
theorem Q2{a:Addr}(hc:AF h ⟨c,0,none⟩=some (.pointer (some a))):AY Tryz.prog main S 29 #[ptr c] h δ (CJ (Gb (.bool true) h δ)):=by
 refine CK (n:=12) ?_
 repeat(first|refine AI ?_|refine AH ?_|refine AE ?_|refine AV ?_|refine Aq ?_|refine Bc ?_|refine Az ?_|refine Lm rfl rfl rfl rfl rfl ?_)
 refine Av rfl hc ?_
 repeat(first|refine AE ?_|refine Aq ?_|refine Lm rfl rfl rfl rfl rfl ?_|refine Bl ?_|refine AQ ?_)
 exact DQ El
theorem VI:AY Tryz.prog main S 29 #[.pointer none] h δ (CJ (Gb (.bool false) h δ)):=by
 refine CK (n:=12) ?_
 repeat(first|refine AI ?_|refine AH ?_|refine AE ?_|refine AV ?_|refine Aq ?_|refine CW ?_|refine Lm rfl rfl rfl rfl rfl ?_|refine Bd ?_|refine AQ ?_)
 exact DQ El
theorem Ws{t:Value}:AY Tryz.prog main S 18 #[.pointer none,t] h δ (CJ (Gb (.int .i64 0) h δ)):=by
 refine CK (n:=14) ?_
 repeat(first|refine AI ?_|refine AH ?_|refine AE ?_|refine AV ?_|refine Aq ?_)
 refine Bx rfl VI ?_
 repeat(first|refine AI ?_|refine AH ?_|refine AE ?_|refine Aq ?_|refine B9 ?_|refine BU ?_|refine AQ ?_)
 exact DQ El
theorem Wu{t:Value}{x:Int}:AY Tryz.prog main S 17 #[.pointer none,t,.int .i64 x] h δ (CJ (Gb (.tuple #[.int .i64 0,.int .i64 2]) h δ)):=by
 refine CK (n:=101) ?_
 repeat(first|refine AI ?_|refine AH ?_|refine AE ?_|refine AV ?_|refine Aq ?_)
 refine Bx rfl VI ?_
 repeat(first|refine AI ?_|refine AH ?_|refine AE ?_|refine Aq ?_|refine B9 ?_|refine BU ?_|refine AQ ?_)
 exact EL rfl rfl rfl El
theorem Mb{t f:Value}{x:Int}(hS:∀o,¬S.still δ.g ⟨h.size,o,none⟩):AY Tryz.prog main S 15 #[.pointer none,t,.int .i64 x,f] h δ (CJ fun w h' AW=>w= .tuple #[.agg #[.int .i64 0,.int .i64 0],.int .i64 2]/\AN (fun _=>False) h h'/\AW=δ):=by
 refine CK (n:=82) ?_
 repeat(first|refine AI ?_|refine AH ?_|refine AE ?_|refine AV ?_|refine Aq ?_|refine Cn ?_)
 refine Bx rfl VI ?_
 repeat(first|refine AI ?_|refine AH ?_|refine AE ?_|refine B9 ?_|refine BU ?_)
 refine Cr (cells:=#[.int .i64 0,.int .i64 0]) rfl rfl rfl rfl ?_
 refine ET (AG h _) rfl rfl rfl rfl (by simp [OneCell]) (by simp [OneCell]) hS ?_
 rw [CC]
 repeat(first|refine AE ?_|refine Aq ?_|refine AQ ?_)
 exact Hw (AG h _) rfl rfl rfl ⟨rfl,AN.push _ _,rfl⟩
theorem LL{t:Value}{s r:Int}:AY Tryz.prog main S 16 #[.pointer none,t,.agg #[.int .i64 s,.int .i64 r]] h δ (CJ fun w h' AW=>w= .bool false/\AN (fun _=>False) h h'/\AW=δ):=by
 refine CK (n:=47) ?_
 repeat(first|refine AI ?_|refine AH ?_|refine AE ?_|refine AV ?_|refine Aq ?_|refine DO ?_)
 refine Bx rfl VI ?_
 repeat(first|refine AI ?_|refine AH ?_|refine AE ?_|refine AV ?_|refine Aq ?_|refine CW ?_|refine B9 ?_|refine Bl ?_|refine BU ?_|refine AQ ?_)
 exact CL rfl ⟨rfl,AN.push _ _,rfl⟩
end
section
variable{d:CD}{u u':CV}{h h' h1:Hp}{i:Nat}{γ Ae:GG (XC d)}{L L':List (Nat×Obj)}{p:PA}{t id:Nat}
theorem HP(CI:id<d.c.nC){j:Nat}(hj:j<34):d.FC (d.c.B id j):=.inl ⟨id,j,CI,hj,rfl⟩
theorem sO(ok:d.Ok)(CI:id<d.c.nC):Le d u.toCU (d.c.C id):=.inl (ok.C id CI)
theorem K0(ok:d.Ok)(CI:id<d.c.nC){j:Nat}(hj:j<34):d.c.blk (cc id j)=d.c.B id j:=OM (F0 CI ok.c.nC) hj
theorem dk(ok:d.Ok){k:Int->PA}(a:C8 d i γ u L h (.step ⟨1,cc id 0,0,0⟩ k))(CI:id<d.c.nC)(ht:t=γ.p.tb i):AY Tryz.prog false (ED Tryz.prog (PX (XC d)) (i+1)) 18 #[ptr (d.c.C id),ptr t] h ⟨0,γ⟩ (Ge (fun w h' AW=>∃(Ae:GG (XC d)) (u':CV) (z:Int),AW=⟨0,Ae⟩/\w= .int .i64 z/\C8 d i Ae u' L h' (k z)/\JK d i γ u Ae u') (Halt (XC d) i γ.p)):=by
 have kk:=a.I.Jx id CI
 refine CK (n:=14) ?_
 repeat(first|refine AI ?_|refine AH ?_|refine AE ?_|refine AV ?_|refine Aq ?_)
 refine Bx rfl (Q2 kk.Gs) ?_
 repeat(first|refine AI ?_|refine AH ?_|refine AE ?_|refine Ar ?_|refine AV ?_|refine Bc ?_|refine Az ?_|refine B9 ?_|refine Am ?_)
 refine Av rfl kk.Gs ?_
 (repeat refine AV ?_)
 refine Dr rfl rfl rfl rfl rfl (OJ ok a (K0 ok CI (by omega)) (HP CI (by omega)) ht) (fun _ _ _ y=>y) ?_
 rintro _ h1 H0 ⟨E5,u1,rfl,rfl,a1,g1,-,-,-⟩
 repeat(first|refine AE ?_|refine Aq ?_|refine AQ ?_)
 exact CL rfl ⟨E5,_,_,rfl,rfl,a1,g1⟩
theorem Oi(ok:d.Ok){s r:Int}{k:Bool->PA}(a:C8 d i γ u L h (FD id s r k))(CI:id<d.c.nC)(ht:t=γ.p.tb i):AY Tryz.prog false (ED Tryz.prog (PX (XC d)) (i+1)) 16 #[ptr (d.c.C id),ptr t,.agg #[.int .i64 s,.int .i64 r]] h ⟨0,γ⟩ (Ge (fun w h' AW=>∃(Ae:GG (XC d)) (u':CV) (b:Bool),AW=⟨0,Ae⟩/\w= .bool b/\C8 d i Ae u' L h' (k b)/\JK d i γ u Ae u') (Halt (XC d) i γ.p)):=by
 obtain⟨y,hy⟩:∃y,y=h.size:=⟨_,rfl⟩
 have U9:=AG h (Ba s r)
 have a0:=a.alloc ok (Ba s r)
 refine CK (n:=47) ?_
 repeat(first|refine AI ?_|refine AH ?_|refine AE ?_|refine AV ?_|refine Aq ?_|refine DO ?_)
 change ER _ _ _ _ _ _ _ _ _ _ (h.push (Ba s r)) _ _
 rw [<-hy]at U9 a0⊢
 generalize h.push (Ba s r)=h0 at U9 a0⊢
 have kk:=a0.I.Jx id CI
 refine Bx rfl (Q2 kk.Gs) ?_
 have e0:AF h0 ⟨y,0,none⟩=some (.int .i64 s):=AD U9 rfl
 have e1:AF h0 ⟨y,1,none⟩=some (.int .i64 r):=AD U9 rfl
 have bQ:0<=r->r.tmod 4=r % 4:=HG
 unfold FD at a0
 by_cases h1:s<0
 ·rw [if_neg (by omega)]at a0
  repeat(first|refine AI ?_|refine AH ?_|refine AE ?_|refine AV ?_|refine Aq ?_|refine Az ?_|refine Df ?_|refine CW ?_|refine B9 ?_|refine Bl ?_|refine Bd ?_|refine Bs ?_|refine BU ?_|refine AQ ?_)
  exact CL rfl ⟨γ,u,false,rfl,rfl,a0.drop ok,JK.refl _ _ _ _⟩
 by_cases h2:16<=s
 ·rw [if_neg (by omega)]at a0
  repeat(first|refine AI ?_|refine AH ?_|refine AE ?_|refine AV ?_|refine Aq ?_|refine Az ?_|refine Df ?_|refine CW ?_|refine B9 ?_|refine Bl ?_|refine Bd ?_|refine Bs ?_|refine Bg ?_|refine BU ?_|refine AQ ?_)
  exact CL rfl ⟨γ,u,false,rfl,rfl,a0.drop ok,JK.refl _ _ _ _⟩
 by_cases h3:r<0
 ·rw [if_neg (by omega)]at a0
  repeat(first|refine AI ?_|refine AH ?_|refine AE ?_|refine AV ?_|refine Aq ?_|refine Az ?_|refine Df ?_|refine CW ?_|refine B9 ?_|refine Bl ?_|refine Bd ?_|refine Bs ?_|refine Bg ?_|refine BU ?_|refine AQ ?_)
  exact CL rfl ⟨γ,u,false,rfl,rfl,a0.drop ok,JK.refl _ _ _ _⟩
 have To:=bQ (by omega)
 clear bQ
 by_cases h4:r.tmod 4=2
 case neg=>
  rw [if_neg (by omega)]at a0
  clear To
  repeat(first|refine AI ?_|refine AH ?_|refine AE ?_|refine AV ?_|refine Aq ?_|refine Az ?_|refine Df ?_|refine B9 ?_|refine Bd ?_|refine Bs ?_|refine Bg ?_|refine JN (kd:=.i64) ?_|refine BU ?_|refine AQ ?_)
  exact CL rfl ⟨γ,u,false,rfl,rfl,a0.drop ok,JK.refl _ _ _ _⟩
 rw [if_pos (by omega)]at a0
 rw [To]at h4
 obtain⟨j,rfl⟩:∃j:Nat,s=j:=⟨s.toNat,by omega⟩
 have hj:j<16:=by omega
 have h4':r.tmod 4=2:=To.trans h4
 clear To
 change C8 d i γ u ((y,Ba (j:Int) r)::L) h0 (.step ⟨3,cc id (2+2*j),r,IntKind.i64.wrap (r+2)⟩ fun w=>k (decide (w=r)))at a0
 repeat(first|refine AI ?_|refine AE ?_|refine Ar ?_|refine AV ?_|refine Az ?_|refine Df ?_|refine B9 ?_|refine Bd ?_|refine Bg ?_|refine JN (kd:=.i64) ?_|refine Am ?_)
 refine BO (fun h'=>AF h' ⟨y,0,none⟩=some (.int .i64 (j:Int))/\AF h' ⟨y,1,none⟩=some (.int .i64 r)/\AF h' ⟨d.c.C id,2+j*3,none⟩=some (ptr (d.c.B id (2+2*j)))) ?_
 have hZ:=And.intro e0 (And.intro e1 (kk.JM j hj))
 refine AU 0 hZ ?_
 refine Ag 1 hZ ?_
 refine A8 2 (fun _ hz=>hz.1) hZ ?_
 refine BE 3 hZ ?_
 refine Ag 4 hZ ?_
 refine MN 5 rfl (by kernel_rfl) rfl rfl rfl rfl rfl (by omega) (by omega) hZ ?_
 refine Ag 6 hZ ?_
 refine A8 7 (fun _ hz=>hz.2.2) hZ ?_
 refine AU 8 hZ ?_
 refine Ag 9 hZ ?_
 refine A8 10 (fun _ hz=>hz.2.1) hZ ?_
 refine Ag 11 hZ ?_
 refine A8 12 (fun _ hz=>hz.2.1) hZ ?_
 (first|refine EW (kd:=.i64) 13 rfl (by kernel_rfl) rfl rfl rfl rfl rfl rfl hZ ?_|refine Kd (kd:=.i64) 13 rfl (by kernel_rfl) rfl rfl rfl rfl rfl rfl hZ ?_)
 (first|refine EW (kd:=.i64) 14 rfl (by kernel_rfl) rfl rfl rfl rfl rfl rfl hZ ?_|refine Kd (kd:=.i64) 14 rfl (by kernel_rfl) rfl rfl rfl rfl rfl rfl hZ ?_)
 have ew:IntKind.i64.wrap (IntKind.i64.wrap (r+4)-2)=IntKind.i64.wrap (r+2):=by rw [ZG];congr 1;omega
 rw [ew]
 refine Gc 15 rfl (by kernel_rfl) rfl rfl rfl rfl rfl rfl (VJ ok a0 (K0 ok CI (by omega)) (HP CI (by omega)) ht) (fun _ _ _ y=>y) ?_
 rintro w h1 H0 ⟨E5,u1,rfl,⟨rfl,bE,a1,g1,-,-⟩|⟨rfl,hv,g1,wR⟩⟩
 ·rw [Gj bE]at a1
  have XE:=a1.own (q:=(y,Ba (j:Int) r)) BJ
  have oz:=And.intro (AD XE rfl:AF h1 ⟨y,0,none⟩=some (.int .i64 (j:Int))) (And.intro (AD XE rfl:AF h1 ⟨y,1,none⟩=some (.int .i64 r)) ((a1.I.Jx id CI).JM j hj))
  refine⟨oz,?_⟩
  refine CQ 16 rfl (by kernel_rfl) (fun ρ Q X Aa hq=>Ee (Aa _ _ rfl) hq) oz ?_
  refine BF ?_
  (repeat refine AQ ?_)
  exact CL rfl ⟨E5,_,false,rfl,rfl,a1.drop ok,g1⟩
 ·have Dn:=g1.inv.st id j CI hj
  have cf:=g1.big
  rw [hv]at Dn
  have e:IntKind.i64.wrap (r+2)=r+2:=i64_in (by omega) (by omega)
  rw [e]at wR
  have a1:=g1.qy ok CI hj hv wR h4
  rw [H9 rfl]at a1
  have XE:=a1.own (q:=(y,Ba (j:Int) r)) BJ
  have oz:=And.intro (AD XE rfl:AF h1 ⟨y,0,none⟩=some (.int .i64 (j:Int))) (And.intro (AD XE rfl:AF h1 ⟨y,1,none⟩=some (.int .i64 r)) ((a1.I.Jx id CI).JM j hj))
  refine⟨oz,?_⟩
  refine CQ 16 rfl (by kernel_rfl) (fun ρ Q X Aa hq=>Ee (Aa _ _ rfl) hq) oz ?_
  refine BF ?_
  (repeat refine AQ ?_)
  exact CL rfl ⟨E5,_,true,rfl,rfl,a1.drop ok,g1.go⟩
theorem RS(ok:d.Ok){due:Int}{f:Value}{sf:Option Nat}{k:Int->Int->Int->PA}(a:C8 d i γ u L h (LX id due sf k))(CI:id<d.c.nC)(ht:t=γ.p.tb i)(hf:(f= .nilFunc/\sf=none)\/∃s,Xm d.c u.kept f s/\sf=some s):AY Tryz.prog false (ED Tryz.prog (PX (XC d)) (i+1)) 15 #[ptr (d.c.C id),ptr t,.int .i64 due,f] h ⟨0,γ⟩ (Ge (fun w h' AW=>∃(Ae:GG (XC d)) (u':CV) (s r e:Int),AW=⟨0,Ae⟩/\w= .tuple #[.agg #[.int .i64 s,.int .i64 r],.int .i64 e]/\C8 d i Ae u' L h' (k s r e)/\JK d i γ u Ae u') (Halt (XC d) i γ.p)):=by
 obtain⟨y,hy⟩:∃y,y=h.size:=⟨_,rfl⟩
 have a0:=a.alloc ok (Ba 0 0)
 have PK:=a.fresh
 refine CK (n:=82) ?_
 repeat(first|refine AI ?_|refine AH ?_|refine AE ?_|refine AV ?_|refine Aq ?_|refine Cn ?_)
 change ER _ _ _ _ _ _ _ _ _ _ (h.push (Ba 0 0)) _ _
 rw [<-hy]at a0 PK⊢
 generalize h.push (Ba 0 0)=h0 at a0⊢
 have kk:=a0.I.Jx id CI
 refine Bx rfl (Q2 kk.Gs) ?_
 unfold LX at a0
 by_cases h1:due<0
 ·rw [if_neg (by omega)]at a0
  repeat(first|refine AI ?_|refine AH ?_|refine AE ?_|refine Ar ?_|refine AV ?_|refine CW ?_|refine B9 ?_|refine Bl ?_|refine Bs ?_|refine BU ?_|refine Am ?_)
  refine Cr (cells:=#[.int .i64 0,.int .i64 0]) rfl rfl rfl rfl ?_
  refine ET (a0.own (q:=(y,Ba 0 0)) List.mem_cons_self) rfl rfl rfl rfl (by simp [OneCell]) (by simp [OneCell]) (fun _=>a0.free (.inr (.inl ⟨_,List.mem_cons_self,rfl⟩))) ?_
  have a9:=a0.put ok (o:=Ba 0 0) PK
  repeat(first|refine AE ?_|refine Aq ?_|refine AQ ?_)
  refine Hw (a9.own (q:=(y,Ba 0 0)) BJ) rfl rfl rfl ⟨γ,u,0,0,1,rfl,rfl,a9.drop ok,(JK.refl _ _ _ _)⟩
 by_cases h2:4611686018427387904<due
 ·rw [if_neg (by omega)]at a0
  repeat(first|refine AI ?_|refine AH ?_|refine AE ?_|refine Ar ?_|refine AV ?_|refine CW ?_|refine B9 ?_|refine Bl ?_|refine Bd ?_|refine Bs ?_|refine Bg ?_|refine BU ?_|refine Am ?_)
  refine Cr (cells:=#[.int .i64 0,.int .i64 0]) rfl rfl rfl rfl ?_
  refine ET (a0.own (q:=(y,Ba 0 0)) List.mem_cons_self) rfl rfl rfl rfl (by simp [OneCell]) (by simp [OneCell]) (fun _=>a0.free (.inr (.inl ⟨_,List.mem_cons_self,rfl⟩))) ?_
  have a9:=a0.put ok (o:=Ba 0 0) PK
  repeat(first|refine AE ?_|refine Aq ?_|refine AQ ?_)
  refine Hw (a9.own (q:=(y,Ba 0 0)) BJ) rfl rfl rfl ⟨γ,u,0,0,1,rfl,rfl,a9.drop ok,(JK.refl _ _ _ _)⟩
 rw [if_pos (by omega)]at a0
 rcases hf with⟨rfl,rfl⟩|⟨sn,hf,rfl⟩
 ·repeat(first|refine AI ?_|refine AH ?_|refine AE ?_|refine Ar ?_|refine AV ?_|refine P9 rfl rfl rfl rfl rfl ?_|refine B9 ?_|refine Bd ?_|refine Bg ?_|refine BU ?_|refine Am ?_)
  refine Cr (cells:=#[.int .i64 0,.int .i64 0]) rfl rfl rfl rfl ?_
  refine ET (a0.own (q:=(y,Ba 0 0)) List.mem_cons_self) rfl rfl rfl rfl (by simp [OneCell]) (by simp [OneCell]) (fun _=>a0.free (.inr (.inl ⟨_,List.mem_cons_self,rfl⟩))) ?_
  have a9:=a0.put ok (o:=Ba 0 0) PK
  repeat(first|refine AE ?_|refine Aq ?_|refine AQ ?_)
  refine Hw (a9.own (q:=(y,Ba 0 0)) BJ) rfl rfl rfl ⟨γ,u,0,0,1,rfl,rfl,a9.drop ok,(JK.refl _ _ _ _)⟩
 have hfc:=hf
 obtain⟨b1,b2,uQ,hf1,Xc,bc⟩:=hfc
 rw [uQ]
 repeat(first|refine AI ?_|refine AH ?_|refine AE ?_|refine Ar ?_|refine Ak ?_|refine AV ?_|refine P9 rfl rfl rfl rfl rfl ?_|refine B9 ?_|refine Bd ?_|refine Bg ?_|refine Am ?_)
 refine B1 (fun q:Nat×GG (XC d)×CV=>[(28,.int .i64 q.1),(0,ptr (d.c.C id)),(1,ptr t),(2,.int .i64 due),(3,.func (.func 112) #[] #[ptr b1,ptr b2]),(8,ptr y)]) (fun q h' AW=>AW=⟨0,q.2.1⟩/\q.1<=16/\C8 d i q.2.1 q.2.2 ((y,Ba 0 0)::L) h' (KP id due sn k (16-q.1))/\JK d i γ u q.2.1 q.2.2) (fun q=>16-q.1) (0,γ,u) ⟨rfl,rfl,rfl,rfl,rfl,rfl,trivial⟩ ⟨rfl,Bv _,a0,JK.refl _ _ _ _⟩ ?_
 clear a0 kk
 rintro⟨q,E5,u1⟩ h1 H0 ⟨DL,hq,a1,g1⟩ again
 dsimp only at DL hq a1 g1 again⊢
 subst DL
 by_cases Eh:q=16
 ·subst Eh
  change C8 d i E5 u1 ((y,Ba 0 0)::L) h1 (k 0 0 12)at a1
  repeat(first|refine AI ?_|refine AH ?_|refine AE ?_|refine Bg ?_|refine Am ?_|refine B8 ?_)
  refine Cr (cells:=#[.int .i64 0,.int .i64 0]) rfl rfl rfl rfl ?_
  refine ET (a1.own (q:=(y,Ba 0 0)) List.mem_cons_self) rfl rfl rfl rfl (by simp [OneCell]) (by simp [OneCell]) (fun _=>a1.free (.inr (.inl ⟨_,List.mem_cons_self,rfl⟩))) ?_
  have a9:=a1.put ok (o:=Ba 0 0) PK
  repeat(first|refine AE ?_|refine Aq ?_|refine AQ ?_)
  exact Hw (a9.own (q:=(y,Ba 0 0)) BJ) rfl rfl rfl ⟨E5,u1,0,0,12,rfl,rfl,a9.drop ok,g1⟩
 have Nn:q<16:=by omega
 rw [VW Nn]at a1
 have k1:=a1.I.Jx id CI
 repeat(first|refine AI ?_|refine AH ?_|refine AE ?_|refine Ar ?_|refine Ak ?_|refine AV ?_|refine Aq ?_|refine Bc ?_|refine Az ?_|refine Bs ?_|refine P7 rfl rfl rfl rfl (by omega) (by omega) ?_|refine BU ?_)
 refine Av rfl (k1.JM q Nn) ?_
 (repeat refine AV ?_)
 refine Dr rfl rfl rfl rfl rfl (OJ ok a1 (K0 ok CI (by omega)) (HP CI (by omega)) (ht.trans g1.al.tb.symm)) (fun _ _ _ y=>y.along g1.al) ?_
 rintro _ h2 FJ ⟨KF,u2,rfl,rfl,a2,g2,J2,qJ,zb⟩
 have Rz:=g1.trans g2
 have Dn:=J2.st id q CI Nn
 obtain⟨w,hw⟩:∃w,w=KF.p.val (d.c.B id (2+2*q)):=⟨_,rfl⟩
 rw [<-hw]at Dn a2⊢
 rw [if_pos (show T4 w from⟨Dn.1,by omega⟩)]at a2
 have bQ:=HG Dn.1
 have k2:=a2.I.Jx id CI
 by_cases hm:w.tmod 4=0
 case neg=>
  rw [if_neg (by omega)]at a2
  repeat(first|refine AI ?_|refine AH ?_|refine AE ?_|refine AV ?_|refine Aq ?_|refine CW ?_|refine Bl ?_|refine Bs ?_|refine BR (kd:=.i64) rfl (i64_in (by omega) (by omega)) ?_|refine JN (kd:=.i64) ?_|refine BU ?_|refine B8 ?_)
  exact Ah (again (q+1,KF,u2) _ _ (by show 16-(q+1)<16-q;omega) ⟨rfl,by show q+1<=16;omega,a2,Rz⟩) ⟨rfl,rfl,rfl,rfl,rfl,rfl,trivial⟩
 rw [if_pos (by omega)]at a2
 have ew2:w+2=w+1+1:=by omega
 repeat(first|refine AI ?_|refine AH ?_|refine AE ?_|refine AV ?_|refine Aq ?_|refine Bc ?_|refine Az ?_|refine Bg ?_|refine JN (kd:=.i64) ?_)
 refine Av rfl (k2.JM q Nn) ?_
 repeat(first|refine AV ?_|refine BR (kd:=.i64) rfl (i64_in (by omega) (by omega)) ?_)
 refine Dr rfl rfl rfl rfl rfl (VJ ok a2 (K0 ok CI (by omega)) (HP CI (by omega)) (ht.trans Rz.al.tb.symm)) (fun _ _ _ y=>y.along Rz.al) ?_
 rintro _ h3 Hz ⟨KT,u3,rfl,⟨rfl,bE,a3,g3,-,-⟩|⟨rfl,tp,g3,yi⟩⟩
 ·rw [if_neg bE]at a3
  repeat(first|refine AH ?_|refine AE ?_|refine AV ?_|refine B9 ?_|refine Bd ?_|refine BR (kd:=.i64) rfl (i64_in (by omega) (by omega)) ?_|refine BU ?_|refine B8 ?_)
  exact Ah (again (q+1,KT,u3) _ _ (by show 16-(q+1)<16-q;omega) ⟨rfl,by show q+1<=16;omega,a3,Rz.trans g3⟩) ⟨rfl,rfl,rfl,rfl,rfl,rfl,trivial⟩
 rw [if_pos rfl]at g3
 have k3:Ld h3 (d.c.C id) (d.c.B id) (u3.FW id):=VB.Jx (d:=d) (u:=u3.toCU) (h:=h3) g3.BI.I id CI
 have Ry:=Rz.trans g3.go
 repeat(first|refine AI ?_|refine AH ?_|refine AE ?_|refine Ar ?_|refine AV ?_|refine Bc ?_|refine Az ?_|refine B9 ?_|refine Bd ?_|refine Am ?_)
 refine CS rfl (by simp [OneCell]) ⟨_,k3.pf q Nn⟩ (k3.PW _) (g3.BI.free (.inl (sO (u:=u3) ok CI))) ?_
 have a4:=g3.sE ok (id:=id) (j:=q) (y:=w) CI Nn tp yi (by omega) (hf.mono Ry.kept)
 rw [uQ]at a4
 generalize bI:({u3 with hold:=ut u3.hold i ((d.c.B id (2+2*q),w+1)::u3.hold i),FW:=_,fs:=_,out:=_,Dg:=_}:CV)=u4 at a4
 have oc:u4.hold i=(d.c.B id (2+2*q),w+1)::u.hold i:=by
  subst bI
  show ut _ i _ i=_
  rw [AL,Ry.hold]
 have ht4:u4.th i=u.th i:=by subst bI;exact Ry.th
 have yj:u4.told i=u3.told i:=by subst bI;rfl
 have Xa:∀z,z∈u.kept->z∈u4.kept:=by subst bI;exact Ry.kept
 clear bI
 have k4:=a4.I.Jx id CI
 repeat(first|refine AI ?_|refine AH ?_|refine AE ?_|refine AV ?_|refine Bc ?_|refine Az ?_)
 refine Av rfl (k4.Tg q Nn) ?_
 (repeat refine AV ?_)
 refine Dr rfl rfl rfl rfl rfl (J1 ok a4 (K0 ok CI (by omega)) (HP CI (by omega)) (ht.trans Ry.al.tb.symm)) (fun _ _ _ y=>y.along Ry.al) ?_
 rintro _ h5 Qi ⟨U5,u5,rfl,rfl,g5,iS⟩
 have a5:=g5.plain ok iS (fun i' j' Dc Dm e=>by have:=(ok.c.inj _ _ _ _ CI (by omega) Dc (by omega) e).2;omega) (fun i' Dc e=>by have:=(ok.c.inj _ _ _ _ CI (by omega) Dc (by omega) e).2;omega) (.inr ⟨by omega,by omega⟩)
 have k5:=a5.I.Jx id CI
 have PB:=Ry.al.trans g5.go.al
 repeat(first|refine AI ?_|refine AH ?_|refine AE ?_|refine AV ?_|refine Bc ?_|refine Az ?_)
 refine Av rfl (k5.JM q Nn) ?_
 repeat(first|refine AV ?_|refine BR (kd:=.i64) rfl (i64_in (by omega) (by omega)) ?_)
 refine Dr rfl rfl rfl rfl rfl (J1 ok a5 (K0 ok CI (by omega)) (HP CI (by omega)) (ht.trans PB.tb.symm)) (fun _ _ _ y=>y.along PB) ?_
 rintro _ h6 TW ⟨iG,u6,rfl,rfl,g6,hv6⟩
 rw [ew2]at hv6
 have a6:=g6.px ok (id:=id) (j:=q) (y:=w+1) (H:=u.hold i) CI Nn hv6 (g5.go.hold.trans oc) (by omega)
 repeat(first|refine AI ?_|refine AH ?_|refine AE ?_|refine AV ?_|refine BR (kd:=.i64) rfl (i64_in (by omega) (by omega)) ?_)
 refine Cr (cells:=#[.int .i64 q,.int .i64 (w+2)]) rfl rfl rfl rfl ?_
 refine ET (a6.own (q:=(y,Ba 0 0)) List.mem_cons_self) rfl rfl rfl rfl (by simp [OneCell]) (by simp [OneCell]) (fun _=>a6.free (.inr (.inl ⟨_,List.mem_cons_self,rfl⟩))) ?_
 have a9:=a6.put ok (o:=Ba q (w+2)) PK
 repeat(first|refine AE ?_|refine Aq ?_|refine AQ ?_)
 refine Hw (a9.own (q:=(y,Ba q (w+2))) BJ) rfl rfl rfl ⟨iG,_,q,w+2,0,rfl,rfl,a9.drop ok,PB.trans g6.go.al,?_,?_,fun z hz=>g6.go.kept _ (g5.go.kept _ (Xa z hz)),?_,?_⟩
 ·show ut _ i _ i=_
  rw [AL]
 ·exact g6.go.th.trans (g5.go.th.trans ht4)
 ·exact Dt Ry.len (Dt g5.go.len g6.go.len)
 ·have t1:=Ry.L9
  have t2:=g5.go.L9
  have t3:=g6.go.L9
  rw [yj]at t2
  show(u6.told i).length+_<=_
  omega
end
end
section
open Go Go.TJ Go.Conc Go.Proofs
def DJ{X:Us}(i:Nat)(γ:GG X):Nat:=(Bm i (γ.p.acc i).log).length
section
variable{d:CD}{u u':CV}{h h' h1:Hp}{i:Nat}{γ Ae:GG (XC d)}{L L':List (Nat×Obj)}{p:PA}{t id:Nat}
theorem C8.MI(a:C8 d i γ u L h p):DJ i γ<=65536:=by
 have h1:=a.BI.len
 have h2:(γ.p.acc i).log.length<=γ.p.log.length+1:=by
  unfold PS.acc
  split
  ·show(γ.p.log++[_]).length<=_;simp
  ·omega
 have h3:DJ i γ<=(γ.p.acc i).log.length:=List.length_filter_le _ _
 omega
structure LkS(d:CD) where
 q:Nat
 γ:GG (XC d)
 u:CV
 s:Int
 r:Int
 b:Bool
 dv:Int
 ob:Option (Nat×Int×Int)
theorem lH(ok:d.Ok){x:Int}{k:Option (Nat×Int)->PA}(a:C8 d i γ u L h (GM id x k 16 none))(CI:id<d.c.nC)(ht:t=γ.p.tb i):AY Tryz.prog false (ED Tryz.prog (PX (XC d)) (i+1)) 33 #[ptr (d.c.C id),ptr t,.int .i64 x] h ⟨0,γ⟩ (Ge (fun w h' AW=>∃(Ae:GG (XC d)) (u':CV) (s r:Int) (b:Bool) (o:Option (Nat×Int)),AW=⟨0,Ae⟩/\w= .tuple #[.agg #[.int .i64 s,.int .i64 r],.bool b]/\C8 d i Ae u' L h' (k o)/\JK d i γ u Ae u'/\((b=false/\o=none)\/∃j:Nat,b=true/\s=j/\o=some (j,r)/\j<16/\r % 4=2/\0<=r/\r<=262144)/\DJ i γ<DJ i Ae) (Halt (XC d) i γ.p)):=by
 obtain⟨y6,Rr⟩:∃y,y=h.size:=⟨_,rfl⟩
 obtain⟨y8,Qj⟩:∃y,y=(h.push (Ba 0 0)).size:=⟨_,rfl⟩
 have a0:=(a.alloc ok (Ba 0 0)).alloc ok (Ba 0 0)
 have uH:=a.fresh
 have Kt:=(a.alloc ok (Ba 0 0)).fresh
 refine CK (n:=57) ?_
 repeat(first|refine AI ?_|refine AH ?_|refine AE ?_|refine Ak ?_|refine AV ?_|refine Aq ?_|refine Cn ?_)
 change EK _ _ _ _ _ _ _ _ ((h.push (Ba 0 0)).push (Ba 0 0)) _ _
 rw [<-Qj]at a0 Kt
 rw [<-Rr]at a0 uH Kt
 have yr:y6≠y8:=Kt _ BJ
 refine B1 (fun q:LkS d=>[(14,.int .i64 q.q),(0,ptr (d.c.C id)),(1,ptr t),(2,.int .i64 x),(6,ptr y6),(8,ptr y8),(9,.int .i64 q.dv),(10,.bool q.b)])
  (fun q h' AW=>AW=⟨0,q.γ⟩/\q.q<=16/\C8 d i q.γ q.u ((y8,Ba q.s q.r)::(y6,Ba 0 0)::L) h' (GM id x k (16-q.q) q.ob)/\JK d i γ u q.γ q.u/\((q.b=false/\q.ob=none)\/∃j:Nat,q.b=true/\q.s=j/\q.ob=some (j,q.r,q.dv)/\j<16/\q.r % 4=2/\0<=q.r/\q.r<=262144)/\(q.q=0\/DJ i γ<DJ i q.γ)) (fun q=>16-q.q) ⟨0,γ,u,0,0,false,0,none⟩ ⟨by rfl,by rfl,by rfl,by rfl,by rw [Rr];rfl,by rw [Qj];rfl,by rfl,by rfl,trivial⟩ ⟨rfl,Bv _,a0,JK.refl _ _ _ _,(.inl ⟨rfl,rfl⟩),.inl rfl⟩ ?_
 clear a0
 rintro⟨q,E5,u1,s,r,b,dv,ob⟩ h1 H0 ⟨DL,hq,a1,g1,hb,oW⟩ again
 dsimp only at DL hq a1 g1 hb oW again⊢
 subst DL
 by_cases Eh:q=16
 ·subst Eh
  have a2:=a1.sub ok (L':=(y6,Ba 0 0)::(y8,Ba s r)::L) (fun z hz=>by
   rcases Ew.1 hz with rfl|hz
   ·exact C2 _ BJ
   ·rcases Ew.1 hz with rfl|hz
    ·exact BJ
    ·exact C2 _ (C2 _ hz))
  have c8:A0 h1 y8 0 [.int .i64 s,.int .i64 r]:=Gh (a1.own (q:=(y8,Ba s r)) BJ)
  repeat(first|refine AI ?_|refine AH ?_|refine AE ?_|refine Bg ?_|refine Am ?_|refine B8 ?_)
  refine C5 (vs:=[.int .i64 s,.int .i64 r]) rfl c8 ?_
  (repeat refine AV ?_)
  refine ET (a2.own (q:=(y6,Ba 0 0)) List.mem_cons_self) rfl rfl rfl rfl (by simp [OneCell]) (by simp [OneCell]) (fun _=>a2.free (.inr (.inl ⟨_,List.mem_cons_self,rfl⟩))) ?_
  have a9:=a2.put ok (o:=Ba s r) (fun z hz=>by
   rcases Ew.1 hz with rfl|hz
   ·exact Ne.symm yr
   ·exact uH z hz)
  repeat(first|refine AE ?_|refine Aq ?_|refine AQ ?_)
  exact Hw (a9.own (q:=(y6,Ba s r)) BJ) rfl rfl rfl ⟨E5,u1,s,r,b,ob.map (fun q=>(q.1,q.2.1)),rfl,rfl,(a9.drop ok).drop ok,g1,hb.imp (fun z=>⟨z.1,by rw [z.2];rfl⟩) (fun⟨j,z1,z2,z3,z4⟩=>⟨j,z1,z2,by rw [z3];rfl,z4⟩),oW.resolve_left (by omega)⟩
 have Nn:q<16:=by omega
 rw [Su Nn]at a1
 have k1:=a1.I.Jx id CI
 have hl0:DJ i γ<=DJ i E5:=g1.len
 repeat(first|refine AI ?_|refine AH ?_|refine AE ?_|refine Ar ?_|refine Ak ?_|refine AV ?_|refine Aq ?_|refine Bc ?_|refine Az ?_|refine Bs ?_|refine P7 rfl rfl rfl rfl (by omega) (by omega) ?_|refine BU ?_)
 refine Av rfl (k1.JM q Nn) ?_
 (repeat refine AV ?_)
 refine Dr rfl rfl rfl rfl rfl (OJ ok a1 (K0 ok CI (by omega)) (HP CI (by omega)) (ht.trans g1.al.tb.symm)) (fun _ _ _ y=>y.along g1.al) ?_
 rintro _ h2 FJ ⟨KF,u2,rfl,rfl,a2,g2,J2,qJ,zb⟩
 have Rz:=g1.trans g2
 have Dn:=J2.st id q CI Nn
 obtain⟨w,hw⟩:∃w,w=KF.p.val (d.c.B id (2+2*q)):=⟨_,rfl⟩
 rw [<-hw]at Dn a2⊢
 rw [if_pos (show T4 w from⟨Dn.1,by omega⟩)]at a2
 have bQ:=HG Dn.1
 have k2:=a2.I.Jx id CI
 change DJ i E5<DJ i KF at qJ
 by_cases hm:w.tmod 4=2
 case neg=>
  rw [if_neg (by omega)]at a2
  repeat(first|refine AI ?_|refine AH ?_|refine AE ?_|refine AV ?_|refine Aq ?_|refine Bs ?_|refine BR (kd:=.i64) rfl (i64_in (by omega) (by omega)) ?_|refine JN (kd:=.i64) ?_|refine BU ?_|refine B8 ?_)
  refine Ah (again ⟨q+1,KF,u2,s,r,b,dv,ob⟩ _ _ (by show 16-(q+1)<16-q;omega) ⟨rfl,by show q+1<=16;omega,a2,Rz,hb,.inr (by show DJ i γ<DJ i KF;omega)⟩) ⟨rfl,rfl,rfl,rfl,rfl,rfl,rfl,rfl,trivial⟩
 rw [if_pos (by omega)]at a2
 repeat(first|refine AI ?_|refine AH ?_|refine AE ?_|refine Ar ?_|refine AV ?_|refine Aq ?_|refine Bc ?_|refine Az ?_|refine Bg ?_|refine JN (kd:=.i64) ?_|refine P7 rfl rfl rfl rfl (by omega) (by omega) ?_|refine Am ?_)
 refine Av rfl (k2.Tg q Nn) ?_
 (repeat refine AV ?_)
 refine Dr rfl rfl rfl rfl rfl (OJ ok a2 (K0 ok CI (by omega)) (HP CI (by omega)) (ht.trans Rz.al.tb.symm)) (fun _ _ _ y=>y.along Rz.al) ?_
 rintro _ h3 Hz ⟨KT,u3,rfl,rfl,a3,g3,J3,yY,AFh⟩
 have Ry:=Rz.trans g3
 change DJ i KF<DJ i KT at yY
 generalize KT.p.val (d.c.B id (3+2*q))=v at a3
 by_cases h3:v<=x
 case neg=>
  rw [if_neg fun z=>h3 z.1]at a3
  repeat(first|refine AI ?_|refine AH ?_|refine AE ?_|refine Ar ?_|refine Bb ?_|refine AV ?_|refine Aq ?_|refine CW ?_|refine Bd ?_|refine Bg ?_|refine BR (kd:=.i64) rfl (i64_in (by omega) (by omega)) ?_|refine Am ?_)
  refine Ah (again ⟨q+1,KT,u3,s,r,b,dv,ob⟩ _ _ (by show 16-(q+1)<16-q;omega) ⟨rfl,by show q+1<=16;omega,a3,Ry,hb,.inr (by show DJ i γ<DJ i KT;omega)⟩) ⟨rfl,rfl,rfl,rfl,rfl,rfl,rfl,rfl,trivial⟩
 cases b with
 | false=>
  have PJ:ob=none:=hb.elim (fun z=>z.2) fun⟨_,z,_⟩=>by cases z
  rw [if_pos ⟨h3,fun z hz=>by rw [PJ]at hz;cases hz⟩]at a3
  repeat(first|refine AI ?_|refine AH ?_|refine AE ?_|refine AV ?_|refine Aq ?_|refine CW ?_|refine B9 ?_|refine Bl ?_|refine Bs ?_|refine BU ?_)
  refine Cr (cells:=#[.int .i64 q,.int .i64 w]) rfl rfl rfl rfl ?_
  (repeat refine AV ?_)
  refine ET (a3.own (q:=(y8,Ba s r)) List.mem_cons_self) rfl rfl rfl rfl (by simp [OneCell]) (by simp [OneCell]) (fun _=>a3.free (.inr (.inl ⟨_,List.mem_cons_self,rfl⟩))) ?_
  have a9:=a3.put ok (o:=Ba q w) Kt
  repeat(first|refine AH ?_|refine AE ?_|refine Bb ?_|refine AV ?_|refine Aq ?_|refine BR (kd:=.i64) rfl (i64_in (by omega) (by omega)) ?_)
  refine Ah (again ⟨q+1,KT,u3,q,w,true,v,some (q,w,v)⟩ _ _ (by show 16-(q+1)<16-q;omega) ⟨rfl,by show q+1<=16;omega,a9,Ry,.inr ⟨q,rfl,rfl,rfl,Nn,by show w % 4=2;omega,Dn.1,by show w<=262144;omega⟩,.inr (by show DJ i γ<DJ i KT;omega)⟩) ⟨rfl,rfl,rfl,rfl,rfl,rfl,rfl,rfl,trivial⟩
 | true=>
  have PJ:ob.map (fun z=>z.2.2)=some dv:=by
   rcases hb with⟨z,-⟩|⟨j,-,-,z,-⟩
   ·cases z
   ·rw [z];rfl
  by_cases h4:v<dv
  ·rw [if_pos ⟨h3,fun z hz=>by rw [hz]at PJ;cases PJ;exact h4⟩]at a3
   repeat(first|refine AI ?_|refine AH ?_|refine AE ?_|refine AV ?_|refine Aq ?_|refine B9 ?_|refine Bl ?_|refine Bd ?_|refine Bs ?_|refine BU ?_)
   refine Cr (cells:=#[.int .i64 q,.int .i64 w]) rfl rfl rfl rfl ?_
   (repeat refine AV ?_)
   refine ET (a3.own (q:=(y8,Ba s r)) List.mem_cons_self) rfl rfl rfl rfl (by simp [OneCell]) (by simp [OneCell]) (fun _=>a3.free (.inr (.inl ⟨_,List.mem_cons_self,rfl⟩))) ?_
   have a9:=a3.put ok (o:=Ba q w) Kt
   repeat(first|refine AH ?_|refine AE ?_|refine Bb ?_|refine AV ?_|refine Aq ?_|refine BR (kd:=.i64) rfl (i64_in (by omega) (by omega)) ?_)
   refine Ah (again ⟨q+1,KT,u3,q,w,true,v,some (q,w,v)⟩ _ _ (by show 16-(q+1)<16-q;omega) ⟨rfl,by show q+1<=16;omega,a9,Ry,.inr ⟨q,rfl,rfl,rfl,Nn,by show w % 4=2;omega,Dn.1,by show w<=262144;omega⟩,.inr (by show DJ i γ<DJ i KT;omega)⟩) ⟨rfl,rfl,rfl,rfl,rfl,rfl,rfl,rfl,trivial⟩
  ·rw [if_neg fun z=>h4 (by
    cases ob with
    | none=>cases PJ
    | some y=>cases PJ;exact z.2 _ rfl)]at a3
   repeat(first|refine AI ?_|refine AH ?_|refine AE ?_|refine Ar ?_|refine Bb ?_|refine AV ?_|refine Aq ?_|refine B9 ?_|refine Bl ?_|refine Bd ?_|refine Bs ?_|refine Bg ?_|refine BR (kd:=.i64) rfl (i64_in (by omega) (by omega)) ?_|refine Am ?_)
   refine Ah (again ⟨q+1,KT,u3,s,r,true,dv,ob⟩ _ _ (by show 16-(q+1)<16-q;omega) ⟨rfl,by show q+1<=16;omega,a3,Ry,hb,.inr (by show DJ i γ<DJ i KT;omega)⟩) ⟨rfl,rfl,rfl,rfl,rfl,rfl,rfl,rfl,trivial⟩
end
end
section
open Go Go.TJ Go.Conc Go.Proofs
theorem Vi{f:Nat->Int}(h:∀j,0<=f j):∀{n:Nat},0<=JI f n
 | 0=>Mh _
 | n+1=>Int.add_nonneg (Vi h) (h n)
open Classical in
noncomputable def GO (c:CP) (H:List (Nat×Int)):Int:=JI (fun j=>if(c.B j 1,(1:Int))∈H then 0 else 1) c.nC
section
variable{c:CP}{H:List (Nat×Int)}
theorem Zx:0<=GO c H:=Vi fun j=>by
 show(0:Int)<=ite _ _ _
 split <;> omega
theorem Uu(ok:c.Ok){id j:Nat}(hi:id<c.nC)(hj:j<16){y:Int}:GO c ((c.B id (2+2*j),y)::H)=GO c H:=by
 refine LM fun k hk=>?_
 show ite _ _ _=ite _ _ _
 by_cases e:(c.B k 1,(1:Int))∈H
 ·rw [if_pos e,if_pos (C2 _ e)]
 ·refine(if_neg fun z=>(Ew.1 z).elim (fun e'=>?_) e).trans (if_neg e).symm
  have:=congrArg Prod.fst e'
  obtain⟨-,z2⟩:=ok.inj _ _ _ _ hk (by omega) hi (by omega) this
  omega
theorem Uv(ok:c.Ok){id:Nat}(hi:id<c.nC)(hn:∀q,q∈H->q.1≠c.B id 1):GO c ((c.B id 1,1)::H)=GO c H-1:=by
 unfold GO
 rw [Ol (i:=id) (f:=fun j=>if(c.B j 1,(1:Int))∈H then 0 else 1) hi fun k hk B7=>?_]
 ·rw [if_pos BJ,if_neg fun z=>hn _ z rfl];omega
 ·by_cases e:(c.B k 1,(1:Int))∈H
  ·rw [if_pos e,if_pos (C2 _ e)]
  ·refine(if_neg fun z=>(Ew.1 z).elim (fun e'=>?_) e).trans (if_neg e).symm
   have:=congrArg Prod.fst e'
   obtain⟨z1,-⟩:=ok.inj _ _ _ _ hk (by omega) hi (by omega) this
   exact absurd z1 B7
end
section
variable{d:CD}{u u' u1 u2:CV}{h h' h1:Hp}{i:Nat}{γ Ae E5 KF:GG (XC d)}{L L':List (Nat×Obj)}{p:PA}{t id m:Nat}{H:List (Nat×Int)}
structure Tk(d:CD)(i:Nat)(γ:GG (XC d))(u:CV)(H:List (Nat×Int))(Ae:GG (XC d))(u':CV):Prop where
 al:Gk (XC d) i γ.p Ae.p
 hold:u'.hold i=H
 th:u'.th i=u.th i
 kept:∀q,q∈u.kept->q∈u'.kept
 len:DJ i γ<=DJ i Ae
 L9:(u'.told i).length+31*DJ i γ<=(u.told i).length+31*DJ i Ae
theorem Rn.toH(g:JK d i γ u E5 u1):Tk d i γ u (u.hold i) E5 u1:=⟨g.al,g.hold,g.th,g.kept,g.len,g.L9⟩
theorem Tk.go(g:Tk d i γ u (u.hold i) E5 u1):JK d i γ u E5 u1:=⟨g.al,g.hold,g.th,g.kept,g.len,g.L9⟩
theorem Tk.step(g:Tk d i γ u H E5 u1)(b:JK d i E5 u1 KF u2):Tk d i γ u H KF u2:=⟨g.al.trans b.al,b.hold.trans g.hold,b.th.trans g.th,fun q hq=>b.kept q (g.kept q hq),Dt g.len b.len,by have h1:=g.L9;have h2:=b.L9;unfold DJ at h1⊢;omega⟩
theorem Tk.push(g:Tk d i γ u H E5 u1)(q:Nat×Int):Tk d i γ u (q::H) E5 {u1 with hold:=ut u1.hold i (q::u1.hold i)}:=
 ⟨g.al,by show ut _ i _ i=_;rw [AL,g.hold],g.th,g.kept,g.len,g.L9⟩
theorem Tk.set(g:Tk d i γ u H E5 u1)(H':List (Nat×Int)):Tk d i γ u H' E5 {u1 with hold:=ut u1.hold i H'}:=
 ⟨g.al,by show ut _ i _ i=_;rw [AL],g.th,g.kept,g.len,g.L9⟩
def SR(d:CD)(i m:Nat):Prop:=∀(γ:GG (XC d)) (u:CV) (L:List (Nat×Obj)) (h:Hp) (p:PA) (s:Nat),C8 d i γ u L h (HN d.c.sc d.c.nC d.c.nK m s p)->(u.told i).length<=31*DJ i γ->u.th i=ptr (γ.p.tb i)->GO d.c (u.hold i)<=m->∀b1 b2:Nat,(b1,Obj.cells #[ptr d.c.w] 59 (0,0))∈u.kept->(b2,Obj.cells #[.int .i64 s] 3 (0,0))∈u.kept->s<d.c.sc.length->
 AY Tryz.prog false (ED Tryz.prog (PX (XC d)) (i+1)) 112 #[ptr (γ.p.tb i),ptr b1,ptr b2] h ⟨0,γ⟩ (Ge (fun _ h' AW=>∃(Ae:GG (XC d)) (u':CV),AW=⟨0,Ae⟩/\C8 d i Ae u' L h' p/\Rn d i 31 γ u Ae u') (Halt (XC d) i γ.p))
theorem dq(ok:d.Ok)(hR:∀m',m'<m->SR d i m'){x:Int}{k:Int->Int->PA}(a:C8 d i γ u L h (if x<0 then k 0 1 else EH d.c.sc d.c.nC d.c.nK m id x k))(PK:GO d.c (u.hold i)<=m)(CI:id<d.c.nC)(ht:t=γ.p.tb i)(Mz:u.th i=ptr t)(W6:(u.told i).length<=31*DJ i γ+31):AY Tryz.prog false (ED Tryz.prog (PX (XC d)) (i+1)) 17 #[ptr (d.c.C id),ptr t,.int .i64 x] h ⟨0,γ⟩ (Ge (fun w h' AW=>∃(Ae:GG (XC d)) (u':CV) (r e:Int),AW=⟨0,Ae⟩/\w= .tuple #[.int .i64 r,.int .i64 e]/\C8 d i Ae u' L h' (k r e)/\JK d i γ u Ae u') (Halt (XC d) i γ.p)):=by
 have kk:=a.I.Jx id CI
 refine CK (n:=101) ?_
 repeat(first|refine AI ?_|refine AH ?_|refine AE ?_|refine AV ?_|refine Aq ?_)
 refine Bx rfl (Q2 kk.Gs) ?_
 by_cases hx:x<0
 ·rw [if_pos hx]at a
  repeat(first|refine AI ?_|refine AH ?_|refine AE ?_|refine Ar ?_|refine AV ?_|refine Aq ?_|refine B9 ?_|refine Bs ?_|refine BU ?_|refine Am ?_|refine AQ ?_)
  exact EL rfl rfl rfl ⟨γ,u,0,1,rfl,rfl,a,JK.refl _ _ _ _⟩
 rw [if_neg hx,Vm]at a
 repeat(first|refine AI ?_|refine AH ?_|refine AE ?_|refine Ar ?_|refine AV ?_|refine Bc ?_|refine Az ?_|refine B9 ?_|refine Bg ?_|refine Am ?_)
 refine Av rfl kk.Gg ?_
 (repeat refine AV ?_)
 refine Dr rfl rfl rfl rfl rfl (VJ ok a (K0 ok CI (by omega)) (HP CI (by omega)) ht) (fun _ _ _ y=>y) ?_
 rintro _ h1 H0 ⟨E5,u1,rfl,⟨rfl,bE,a1,g1,-,-⟩|⟨rfl,oL,g1,qM⟩⟩
 ·rw [if_neg bE]at a1
  repeat(first|refine AI ?_|refine AH ?_|refine AE ?_|refine Aq ?_|refine B9 ?_|refine BU ?_|refine AQ ?_)
  exact EL rfl rfl rfl ⟨E5,_,0,14,rfl,rfl,a1,g1⟩
 rw [if_pos rfl]at g1
 have fr1:=g1.inv.gM ok.c CI oL
 have a1:=g1.rF ok (id:=id) CI oL qM
 have pI:=g1.go.toH.push (d.c.B id 1,1)
 have hm:GO d.c ((d.c.B id 1,1)::u.hold i)=GO d.c (u.hold i)-1:=by
  have e:=g1.go.hold
  rw [<-e]
  exact Uv ok.c CI (fr1 i)
 have w7:0<=GO d.c ((d.c.B id 1,1)::u.hold i):=Zx
 obtain⟨m,rfl⟩:∃m',m=m'+1:=⟨m-1,by omega⟩
 have xK:=hR m (by omega)
 generalize bJ:({u1 with hold:=ut u1.hold i ((d.c.B id 1,1)::u1.hold i)}:CV)=u1' at a1 pI
 clear fr1 bJ g1 u1
 obtain⟨u1,rfl⟩:∃u1,u1=u1':=⟨_,rfl⟩
 change C8 d i E5 u1 L h1 (.step ⟨1,cc id 0,0,0⟩ fun v=>if 0<=v/\v<=4611686018427387904 then .step ⟨2,cc id 0,GF v x,0⟩ fun _=>He (HN d.c.sc d.c.nC d.c.nK m) id (GF v x) k 65537 0 else stuck)at a1
 have k1:=a1.I.Jx id CI
 repeat(first|refine AI ?_|refine AH ?_|refine AE ?_|refine Ar ?_|refine AV ?_|refine Bc ?_|refine Az ?_|refine B9 ?_|refine Am ?_)
 refine Av rfl k1.Gs ?_
 (repeat refine AV ?_)
 refine Dr rfl rfl rfl rfl rfl (OJ ok a1 (K0 ok CI (by omega)) (HP CI (by omega)) (ht.trans pI.al.tb.symm)) (fun _ _ _ y=>y.along pI.al) ?_
 rintro _ h2 FJ ⟨KF,u2,rfl,rfl,a2,g2,J2,-,-⟩
 have Rz:=pI.step g2
 have Xw:=J2.now id CI
 generalize KF.p.val (d.c.B id 0)=v at Xw a2
 rw [if_pos Xw]at a2
 obtain⟨z,oJ⟩:∃z,z=v+(if 4611686018427387904-v<x then 4611686018427387904-v else x):=⟨_,rfl⟩
 have hz:0<=z/\z<=4611686018427387904:=by subst oJ;split <;> omega
 rw [show GF v x=z from oJ.symm]at a2
 have k2:=a2.I.Jx id CI
 repeat(first|refine AI ?_|refine AH ?_|refine AE ?_|refine AV ?_|refine Aq ?_|refine SM (kd:=.i64) rfl rfl rfl rfl (i64_in (by omega) (by omega)) ?_)
 refine VK rfl rfl rfl rfl rfl ?_
 refine BR (kd:=.i64) (r:=z) rfl (by rw [<-oJ];exact i64_in (by omega) (by omega)) ?_
 repeat(first|refine AI ?_|refine AH ?_|refine AE ?_|refine AV ?_|refine Aq ?_|refine Bc ?_|refine Az ?_)
 refine Av rfl k2.Gs ?_
 (repeat refine AV ?_)
 refine Dr rfl rfl rfl rfl rfl (J1 ok a2 (K0 ok CI (by omega)) (HP CI (by omega)) (ht.trans Rz.al.tb.symm)) (fun _ _ _ y=>y.along Rz.al) ?_
 rintro _ h3 Hz ⟨KT,u3,rfl,rfl,g3,tp⟩
 have a3:=g3.plain ok tp (fun i' j' Dc Dm e=>by have:=(ok.c.inj _ _ _ _ CI (by omega) Dc (by omega) e).2;omega) (fun i' Dc e=>by have:=(ok.c.inj _ _ _ _ CI (by omega) Dc (by omega) e).2;omega) (.inr hz)
 have Ry:=Rz.step g3.go
 clear kk k1 k2 a a1 a2 pI Rz g2 g3 oL qM tp J2
 repeat(first|refine AI ?_|refine AH ?_|refine AE ?_|refine Ak ?_|refine Aq ?_)
 refine B1 (fun q:Nat×GG (XC d)×CV×Nat=>[(9,.int .i64 q.1),(0,ptr (d.c.C id)),(1,ptr t),(8,.int .i64 z)]) (fun q h' AW=>AW=⟨0,q.2.1⟩/\q.1<=64/\C8 d i q.2.1 q.2.2.1 L h' (He (HN d.c.sc d.c.nC d.c.nK m) id z k q.2.2.2 q.1)/\Tk d i γ u ((d.c.B id 1,1)::u.hold i) q.2.1 q.2.2.1/\65537<=q.2.2.2+DJ i q.2.1) (fun q=>65536-DJ i q.2.1) (0,KT,u3,65537) ⟨rfl,rfl,rfl,rfl,trivial⟩ ⟨rfl,Bv _,a3,Ry,Nat.le_add_right _ _⟩ ?_
 clear a3 Ry
 rintro⟨q,E5,u1,n⟩ h1 H0 ⟨DL,hq,a1,g1,hfu⟩ again
 dsimp only at DL hq a1 g1 hfu again⊢
 subst DL
 have oW:=a1.MI
 obtain⟨n,rfl⟩:∃n',n=n'+1:=⟨n-1,by omega⟩
 unfold He at a1
 repeat(first|refine AI ?_|refine AH ?_|refine Ak ?_|refine AV ?_)
 refine Dr rfl rfl rfl rfl rfl (lH ok a1 CI (ht.trans g1.al.tb.symm)) (fun _ _ _ y=>y.along g1.al) ?_
 rintro _ h2 FJ ⟨KF,u2,s,r,b,o,rfl,rfl,a2,g2,hb,hl2⟩
 have Rz:=g1.step g2
 obtain⟨y,hy⟩:∃y,y=h2.size:=⟨_,rfl⟩
 have qX:=a2.fresh
 have a3:=a2.alloc ok (Ba 0 0)
 rw [<-hy]at a3 qX
 repeat(first|refine AV ?_|refine Eo ?_|refine Cn ?_)
 rw [<-hy]
 refine ET (a3.own (q:=(y,Ba 0 0)) List.mem_cons_self) rfl rfl rfl rfl (by simp [OneCell]) (by simp [OneCell]) (fun _=>a3.free (.inr (.inl ⟨_,List.mem_cons_self,rfl⟩))) ?_
 have a4:=a3.put ok (o:=Ba s r) qX
 change ER _ _ _ _ _ _ _ _ _ _ ((h2.push (Ba 0 0)).setIfInBounds y (Ba s r)) _ _
 generalize (h2.push (Ba 0 0)).setIfInBounds y (Ba s r)=h4 at a4
 clear a3 a2 hy
 have g4:=Rz
 have k4:=a4.I.Jx id CI
 rcases hb with⟨rfl,rfl⟩|⟨j,rfl,rfl,rfl,hj,hr4,hr0,M0⟩
 ·change C8 d i KF u2 ((y,Ba s r)::L) h4 (.step ⟨2,cc id 1,0,0⟩ fun _=>k q 0)at a4
  repeat(first|refine AI ?_|refine AH ?_|refine AE ?_|refine AV ?_|refine Aq ?_|refine Bc ?_|refine Az ?_|refine CW ?_|refine B9 ?_|refine Bl ?_|refine BU ?_|refine B8 ?_)
  refine Av rfl k4.Gg ?_
  (repeat refine AV ?_)
  refine Dr rfl rfl rfl rfl rfl (J1 ok a4 (K0 ok CI (by omega)) (HP CI (by omega)) (ht.trans g4.al.tb.symm)) (fun _ _ _ y=>y.along g4.al) ?_
  rintro _ h5 Qi ⟨U5,u5,rfl,rfl,g5,iS⟩
  have a5:=(g5.pz ok (id:=id) (H:=u.hold i) CI iS g4.hold).drop ok
  repeat(first|refine AI ?_|refine AH ?_|refine AE ?_|refine AV ?_|refine Aq ?_|refine AQ ?_)
  exact EL rfl rfl rfl ⟨U5,_,_,0,rfl,rfl,a5,((g4.step g5.go).set (u.hold i)).go⟩
 ·dsimp only at a4
  by_cases im:q=64
  ·subst im
   rw [if_pos rfl]at a4
   repeat(first|refine AI ?_|refine AH ?_|refine AE ?_|refine AV ?_|refine Aq ?_|refine Bc ?_|refine Az ?_|refine B9 ?_|refine Bd ?_|refine Bs ?_|refine BU ?_|refine B8 ?_)
   refine Av rfl k4.Gg ?_
   (repeat refine AV ?_)
   refine Dr rfl rfl rfl rfl rfl (J1 ok a4 (K0 ok CI (by omega)) (HP CI (by omega)) (ht.trans g4.al.tb.symm)) (fun _ _ _ y=>y.along g4.al) ?_
   rintro _ h5 Qi ⟨U5,u5,rfl,rfl,g5,iS⟩
   have a5:=(g5.pz ok (id:=id) (H:=u.hold i) CI iS g4.hold).drop ok
   repeat(first|refine AI ?_|refine AH ?_|refine AE ?_|refine AV ?_|refine Aq ?_|refine AQ ?_)
   exact EL rfl rfl rfl ⟨U5,_,_,0,rfl,rfl,a5,((g4.step g5.go).set (u.hold i)).go⟩
  rw [if_neg im]at a4
  have e0:AF h4 ⟨y,0,none⟩=some (.int .i64 (j:Int)):=AD (a4.own (q:=(y,Ba j r)) BJ) rfl
  have e1:AF h4 ⟨y,1,none⟩=some (.int .i64 r):=AD (a4.own (q:=(y,Ba j r)) BJ) rfl
  repeat(first|refine AI ?_|refine AH ?_|refine AE ?_|refine Ar ?_|refine AV ?_|refine Aq ?_|refine B9 ?_|refine Bd ?_|refine Bg ?_|refine Am ?_)
  refine BO (fun h'=>h'=h4) ?_
  have hZ:h4=h4:=rfl
  refine AU 0 hZ ?_
  refine Ag 1 hZ ?_
  refine D8 2 rfl (by kernel_rfl) (fun _ hz=>hz▸e0) hZ ?_
  refine BE 3 hZ ?_
  refine Ag 4 hZ ?_
  refine MN 5 rfl (by kernel_rfl) rfl rfl rfl rfl rfl (by omega) (by omega) hZ ?_
  refine Dp 6 hZ ?_
  refine BF ?_
  (repeat refine AI ?_)
  refine BO (fun h'=>AF h' ⟨y,1,none⟩=some (.int .i64 r)/\AF h' ⟨d.c.C id,2+j*3,none⟩=some (ptr (d.c.B id (2+2*j)))) ?_
  have hZ:=And.intro e1 (k4.JM j hj)
  refine AU 0 hZ ?_
  refine BE 1 hZ ?_
  refine Ag 2 hZ ?_
  refine A8 3 (fun _ hz=>hz.2) hZ ?_
  refine AU 4 hZ ?_
  refine Ag 5 hZ ?_
  refine A8 6 (fun _ hz=>hz.1) hZ ?_
  refine Ag 7 hZ ?_
  refine A8 8 (fun _ hz=>hz.1) hZ ?_
  refine EW (kd:=.i64) 9 rfl (by kernel_rfl) rfl rfl rfl rfl rfl (i64_in (by omega) (by omega)) hZ ?_
  refine Kd (kd:=.i64) 10 rfl (by kernel_rfl) rfl rfl rfl rfl rfl (i64_in (by omega) (by omega)) hZ ?_
  have xa:r+3-2=r+1:=by omega
  rw [xa]
  refine Gc 11 rfl (by kernel_rfl) rfl rfl rfl rfl rfl rfl (VJ ok a4 (K0 ok CI (by omega)) (HP CI (by omega)) (ht.trans g4.al.tb.symm)) (fun _ _ _ y=>y.along g4.al) ?_
  rintro _ h5 Qi ⟨U5,u5,rfl,⟨rfl,bE,a5,g5,-,qI⟩|⟨rfl,iS,g5,yh⟩⟩
  ·rw [if_neg bE]at a5
   have PB:=g4.step g5
   have hZ:=And.intro (AD (a5.own (q:=(y,Ba j r)) BJ) rfl:AF h5 ⟨y,1,none⟩=some (.int .i64 r)) ((a5.I.Jx id CI).JM j hj)
   refine⟨hZ,?_⟩
   refine KN 12 hZ ?_
   refine BF ?_
   repeat(first|refine BU ?_|refine B8 ?_)
   have a6:=a5.drop ok
   have hl6:=a6.MI
   have hl7:=g5.len
   change DJ i KF<=DJ i U5 at hl7
   exact Ah (again (q,U5,u5,n) _ _ (by show 65536-DJ i U5<65536-DJ i E5;omega) ⟨rfl,hq,a6,PB,by show 65537<=n+DJ i U5;omega⟩) ⟨rfl,rfl,rfl,rfl,trivial⟩
  rw [if_pos rfl]at g5
  obtain⟨sn,KJ,a5⟩:=g5.rD ok (id:=id) (j:=j) (y:=r) CI hj iS yh hr4
  have PB:=(g4.step g5.go).push (d.c.B id (2+2*j),r+1)
  have qI:=g5.go.len
  change DJ i KF<=DJ i U5 at qI
  have hfm:GO d.c ((d.c.B id (2+2*j),r+1)::(d.c.B id 1,1)::u.hold i)<=(m:Nat):=by
   rw [Uu ok.c CI hj,hm];omega
  have rv:u5.hold i=(d.c.B id 1,1)::u.hold i:=(g4.step g5.go).hold
  rw [rv]at a5
  generalize fA:({u5 with hold:=ut u5.hold i ((d.c.B id (2+2*j),r+1)::(d.c.B id 1,1)::u.hold i),out:=_,Dg:=_}:CV)=ni at a5
  have PB:Tk d i γ u ((d.c.B id (2+2*j),r+1)::(d.c.B id 1,1)::u.hold i) U5 ni:=by
   subst fA
   exact⟨PB.al,by show ut _ i _ i=_;rw [AL],PB.th,PB.kept,PB.len,PB.L9⟩
  have qN:ni.told i=u5.told i:=by subst fA;rfl
  have KJ:Xm d.c ni.kept (ni.FW id j) sn:=by subst fA;exact KJ
  clear fA
  have hZ:=And.intro (AD (a5.own (q:=(y,Ba j r)) BJ) rfl:AF h5 ⟨y,1,none⟩=some (.int .i64 r)) ((a5.I.Jx id CI).JM j hj)
  refine⟨hZ,?_⟩
  refine KN 12 hZ ?_
  refine BF ?_
  repeat(first|refine AI ?_|refine AH ?_|refine Ar ?_|refine AV ?_|refine Bc ?_|refine Az ?_|refine Am ?_)
  have k5:=a5.I.Jx id CI
  obtain⟨b1,b2,uQ,hf1,Xc,bc⟩:=KJ
  have Db:=k5.pf j hj
  rw [uQ]at Db
  refine Av rfl Db ?_
  (repeat refine AV ?_)
  have VH:=xK U5 ni _ h5 _ sn a5 (by
   have t1:=g4.L9
   have t2:=g5.told
   have t3:=g5.len
   rw [qN,t2]
   unfold DJ at *
   omega) (by rw [PB.th,Mz,ht,PB.al.tb]) (by rw [PB.hold];exact hfm) b1 b2 hf1 Xc bc
  have ht5:t=U5.p.tb i:=ht.trans PB.al.tb.symm
  rw [<-ht5]at VH
  refine Dr rfl rfl rfl rfl rfl VH (fun _ _ _ y=>y.along PB.al) ?_
  rintro _ h6 TW ⟨iG,u6,rfl,a6,g6⟩
  have uo:Tk d i γ u ((d.c.B id (2+2*j),r+1)::(d.c.B id 1,1)::u.hold i) iG u6:=⟨PB.al.trans g6.al,g6.hold.trans PB.hold,g6.th.trans PB.th,fun q hq=>g6.kept q (PB.kept q hq),Dt PB.len g6.len,by
   have t1:=g4.L9
   have t2:=g5.told
   have t3:=g5.len
   have t4:=g6.L9
   rw [qN,t2]at t4
   unfold DJ at t1⊢
   omega⟩
  have yX:=g6.len
  change DJ i U5<=DJ i iG at yX
  have k6:=a6.I.Jx id CI
  have hZ:=And.intro (AD (a6.own (q:=(y,Ba j r)) BJ) rfl:AF h6 ⟨y,1,none⟩=some (.int .i64 r)) (k6.JM j hj)
  repeat(first|refine AI ?_|refine AE ?_)
  refine BO (fun h'=>AF h' ⟨y,1,none⟩=some (.int .i64 r)/\AF h' ⟨d.c.C id,2+j*3,none⟩=some (ptr (d.c.B id (2+2*j)))) ?_
  refine AU 0 hZ ?_
  refine BE 1 hZ ?_
  refine Ag 2 hZ ?_
  refine A8 3 (fun _ hz=>hz.2) hZ ?_
  refine AU 4 hZ ?_
  refine Ag 5 hZ ?_
  refine A8 6 (fun _ hz=>hz.1) hZ ?_
  refine EW (kd:=.i64) 7 rfl (by kernel_rfl) rfl rfl rfl rfl rfl (i64_in (by omega) (by omega)) hZ ?_
  refine Kd (kd:=.i64) 8 rfl (by kernel_rfl) rfl rfl rfl rfl rfl (i64_in (by omega) (by omega)) hZ ?_
  have xZ:r+2=r+1+1:=by omega
  have ev3:r+4-2=r+2:=by omega
  rw [ev3]
  refine Gc 9 rfl (by kernel_rfl) rfl rfl rfl rfl rfl rfl (J1 ok a6 (K0 ok CI (by omega)) (HP CI (by omega)) (ht.trans uo.al.tb.symm)) (fun _ _ _ y=>y.along uo.al) ?_
  rintro _ h7 Nl ⟨Ro,u7,rfl,rfl,g7,hv7⟩
  rw [xZ]at hv7
  have a7:=g7.px ok (id:=id) (j:=j) (y:=r+1) (H:=(d.c.B id 1,1)::u.hold i) CI hj hv7 uo.hold (by omega)
  have gg7:=(uo.step g7.go).set ((d.c.B id 1,1)::u.hold i)
  have yW:=g7.go.len
  change DJ i iG<=DJ i Ro at yW
  refine⟨And.intro (AD (a7.own (q:=(y,Ba j r)) BJ) rfl:AF h7 ⟨y,1,none⟩=some (.int .i64 r)) ((a7.I.Jx id CI).JM j hj),?_⟩
  refine BF ?_
  repeat(first|refine AH ?_|refine AE ?_|refine Bb ?_|refine AV ?_|refine Aq ?_|refine BR (kd:=.i64) rfl (i64_in (by omega) (by omega)) ?_)
  have a8:=a7.drop ok
  have hl8:=a8.MI
  exact Ah (again (q+1,Ro,_,n) _ _ (by show 65536-DJ i Ro<65536-DJ i E5;omega) ⟨rfl,by show q+1<=64;omega,a8,gg7,by show 65537<=n+DJ i Ro;omega⟩) ⟨rfl,rfl,rfl,rfl,trivial⟩
end
end
end Go.Proofs.YtfkalocplonkiaaGreat
