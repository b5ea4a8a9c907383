/- Steps of the walk and of the plain law (ChkF to CrR). Conditions: as each lemma says. -/
import Derived.Test.YtfkalocplonkiaaGreatCPLG
set_option linter.unusedSectionVars false
set_option linter.unusedVariables false
set_option linter.unusedSimpArgs false
set_option maxHeartbeats 16000000
set_option maxRecDepth 8000
namespace Go.Proofs.YtfkalocplonkiaaGreat
section
open Go Go.TJ Go.Conc Go.Proofs
def Rec.K5(R:Rec)(k j:Nat):Bool:=R.left.any (fun q=>q.1==j)||(R.log.drop k).any (fun e=>e.BI==j)
def Rec.Dw(R:Rec)(k i:Nat):List Nat:=(List.range i).filter (R.K5 k)
theorem Mu{R:Rec}{k i:Nat}(_h:i<R.nb)(hm:i∈R.alive k):R.Dw k (i+1)=R.Dw k i++[i]:=by
 have:R.K5 k i=true:=(SP.1 (show i∈(List.range R.nb).filter (R.K5 k)from hm)).2
 unfold Rec.Dw
 rw [List.range_succ,List.filter_append]
 simp [this]
theorem O3{R:Rec}{k i:Nat}(h:i<R.nb)(hm:¬i∈R.alive k):R.Dw k (i+1)=R.Dw k i:=by
 have:R.K5 k i=false:=by
  cases e:R.K5 k i
  ·rfl
  ·exact absurd (SP.2 ⟨Iv.2 h,e⟩:i∈(List.range R.nb).filter (R.K5 k)) hm
 unfold Rec.Dw
 rw [List.range_succ,List.filter_append]
 simp [this]
theorem Mv{R:Rec}{k i:Nat}:(R.Dw k i).length<=i:=by
 have:=List.length_filter_le (R.K5 k) (List.range i)
 simpa [Rec.Dw]using this
section
variable{Γ:Type}{main:Bool}{S:Cp Γ}{δ:Ix Γ}{h h' h0:Hp}{R:Rec}{AZ:List Int}{lL lW lY lV sP tv cv:Value}{last:Int}{C n k j:Nat}{e:Int}{X:Us}{BI:List Nat}{cl:List Int}
theorem Vo(ok:Fh X AZ R)(m:HB R AZ lL lW lY lV sP h0)(I:FO R lL lW lY lV sP h0 C tv cv last BI cl h)(hl:BI.length=R.nb)(Rv:cl.length=(Ab R.log).length)(ti:TI R k BI)(hk:k<=R.log.length):
  AY Tryz.prog main (Fb (Γ:=Γ)) 74 #[ptr C,.int .i64 k] h δ (CJ fun v h' AW=>AW=δ/\∃(Tm:List Nat) (lv:Value),v= .tuple #[lv,.int .i64 (R.alive k).length]/\AR h' lv 3 1 (R.alive k).length ((R.alive k).map fun(n:Nat)=>Value.int .i64 (n:Int))/\
   Tm.length=R.nb/\TI R k Tm/\FO R lL lW lY lV sP h0 C tv cv last Tm cl h'/\AN (fun b=>blk tv=some b) h h'):=by
 have hlen:=ok.len
 have P3:=ok.most
 have Rj:=ok.nb
 have oM:∀b,blk tv=some b->b<h.size:=fun b hb=>I.BI.lt hb
 obtain⟨aT,kT,eT⟩:=I.BI.val
 rw [hl]at eT
 subst eT
 have xQ:=I.up.size
 refine CK (n:=60) ?_
 repeat(first|refine AI ?_|refine AH ?_|refine AE ?_|refine Ak ?_|refine Aq ?_)
 refine B1 (fun q:Nat×Value×List Nat=>[(8,.int .i64 q.1),(7,.int .i64 (R.Dw k q.1).length),(6,q.2.1),(0,ptr C),(1,.int .i64 k)]) (fun q h' AW=>q.1<=R.nb/\AW=δ/\q.2.2.length=R.nb/\TI R k q.2.2/\FO R lL lW lY lV sP h0 C (.slice aT R.nb kT) cv last q.2.2 cl h'/\AR h' q.2.1 3 1 (R.Dw k q.1).length ((R.Dw k q.1).map fun(n:Nat)=>Value.int .i64 (n:Int))/\(∀b,blk q.2.1=some b->h.size<=b)/\AN (fun b=>blk (.slice aT R.nb kT)=some b) h h') (fun q=>R.nb-q.1) (0,AK,BI) ⟨rfl,rfl,rfl,rfl,rfl,trivial⟩ ⟨Bv _,rfl,hl,ti,I,AR.nil,fun b hb=>(by cases hb),AN.refl _ _⟩ ?_
 clear hl ti I BI
 rintro⟨i,lv,BI⟩ h1 H0 ⟨hi,DL,hl,ti,I,sl,hb,up⟩ again
 dsimp only at hi hl ti I sl hb up again DL⊢
 subst DL
 have c9:AF h1 ⟨C,9,none⟩=some (.slice aT R.nb kT):=AD I.row rfl
 have hal:=Mv (R:=R) (k:=k) (i:=i)
 by_cases CO:i<R.nb
 ·repeat(first|refine AI ?_|refine AH ?_|refine AE ?_|refine Ar ?_|refine Ak ?_|refine AV ?_|refine Bc ?_|refine Az ?_|refine Bs ?_|refine BN ?_|refine BU ?_|refine Av rfl (by assumption) ?_)
  refine BV rfl (da ok m I hl ti CO hk) ?_
  clear ti I hl c9
  rintro _ h2 FJ ⟨rfl,BI,t,o,c,a,nw,w,x,f,b,rfl,uY,hbp,hl,ti,I,u2⟩
  have PH:=sl.upd u2 (fun b' DN e=>by have:=oM b' e;have:=hb b' DN;omega)
  have ef:=up.trans u2
  clear sl up u2
  have es:=ef.size
  obtain⟨y,hy⟩:∃y,y=h2.size:=⟨_,rfl⟩
  repeat(first|refine AV ?_|refine Eo ?_|refine Cn ?_)
  refine Bz (vs:=A4 t o c a nw w x f) rfl rfl (by simp [A4,OneCell]) (by rw [<-hy];exact Dx (vs:=[.int .i64 0,.int .i8 0,.int .i64 0,.int .i64 0,.int .i64 0,.int .i64 0,.int .i64 0,.bool false]) rfl (by rw [hy];exact AG _ _)) ?_
  rw [Bw (c:=[.int .i64 0,.int .i8 0,.int .i64 0,.int .i64 0,.int .i64 0,.int .i64 0,.int .i64 0,.bool false]) (vs:=A4 t o c a nw w x f) rfl]
  refine A6 (fun h'=>FO R lL lW lY lV sP h0 C (.slice aT R.nb kT) cv last BI cl h'/\AR h' lv 3 1 (R.Dw k i).length ((R.Dw k i).map fun(n:Nat)=>Value.int .i64 (n:Int))/\AN (fun b=>blk (.slice aT R.nb kT)=some b) h h'/\h'[y]?=some (CE (A4 t o c a nw w x f))) ⟨I.A5 (AN.push _ _),PH.upd (AN.push (T:=fun _=>False) _ _) (fun _ _ x=>x),ef.trans (AN.push _ _),by rw [hy];exact AG _ _⟩ ?_
  rw [<-hy]
  clear I PH ef hy
  rintro h3 ⟨I,sl,up,ly⟩
  have y1:AF h3 ⟨y,1,none⟩=some (.int .i8 o):=AD ly rfl
  have y2:AF h3 ⟨y,2,none⟩=some (.int .i64 c):=AD ly rfl
  have y5:AF h3 ⟨y,5,none⟩=some (.int .i64 w):=AD ly rfl
  cases b with
  | false=>
   have iX:¬i∈R.alive k:=fun hm=>by have:=uY.2 hm;cases this
   rw [<-O3 CO iX]at sl
   repeat(first|refine AI ?_|refine AH ?_|refine AE ?_|refine AV ?_|refine Aq ?_|refine B9 ?_|refine BR (kd:=.i64) rfl (i64_in (by omega) (by omega)) ?_|refine BU ?_|refine B8 ?_)
   refine Ah (again (i+1,lv,BI) _ _ (by dsimp only;omega) ⟨by dsimp only;omega,rfl,hl,ti,I,sl,hb,up⟩) ⟨rfl,?_,rfl,rfl,rfl,trivial⟩
   rw [O3 CO iX]
   rfl
  | true=>
   obtain⟨o1,o2,c1,c2⟩:=hbp rfl
   have iX:i∈R.alive k:=uY.1 rfl
   have F9:=sl
   obtain⟨aA,kA,eA⟩:=sl.val
   repeat(first|refine AI ?_|refine AH ?_|refine AE ?_|refine Ar ?_|refine AV ?_|refine Aq ?_|refine Az ?_|refine Df ?_|refine B9 ?_|refine BR (kd:=.i64) rfl (i64_in (by omega) (by omega)) ?_|refine Am ?_)
   refine OQ (r:=decide (0<=c)) rfl rfl rfl rfl rfl rfl ?_
   refine AE ?_
   refine UD (fun _:Unit=>[(9,ptr y),(8,.int .i64 i),(7,.int .i64 ((R.Dw k i).length+1:Nat)),(6,lv),(0,ptr C),(1,.int .i64 k)]) (fun _ h' AW=>h'=h3/\AW=FJ) (fun key=>?_) ?_
   ·by_cases hc:0<=c
    ·rw [H9 hc]
     obtain⟨cc,rfl⟩:∃cc:Nat,c=cc:=⟨c.toNat,by omega⟩
     obtain⟨xx,wN⟩:∃xx,cl[cc]?=some xx:=⟨_,Cl (by omega)⟩
     obtain⟨aC,kC,eC⟩:=I.Fu.val
     subst eC
     obtain⟨bC,eC,cC,-⟩:=C7 I.Fu wN
     subst eC
     have PC:AF h3 ⟨C,10,none⟩=some (.slice (some ⟨bC,0,none⟩) cl.length kC):=AD I.row rfl
     refine BU ?_
     refine BO (fun h'=>h'=h3) ?_
     have hZ:h3=h3:=rfl
     refine AU 0 hZ ?_
     refine BE 1 hZ ?_
     refine Ag 2 hZ ?_
     refine FA 3 PC hZ ?_
     refine Ag 4 hZ ?_
     refine FA 5 y2 hZ ?_
     refine GP 6 hZ ?_
     refine FA 7 cC hZ ?_
     refine Dp 8 hZ ?_
     refine BF ?_
     exact Ah (key () _ _ ⟨rfl,rfl⟩) ⟨rfl,rfl,rfl,rfl,rfl,rfl,trivial⟩
    ·rw [Gj hc]
     refine OC rfl (Ar ?_)
     exact Ah (key () _ _ ⟨rfl,rfl⟩) ⟨rfl,rfl,rfl,rfl,rfl,rfl,trivial⟩
   rintro _ h3 FJ ⟨rfl,rfl⟩
   clear y2 y5
   repeat(first|refine AI ?_|refine AH ?_|refine AE ?_|refine AV ?_|refine Az ?_|refine Df ?_|refine CW ?_|refine Bl ?_|refine Bs ?_|refine BU ?_)
   refine Fv (sz:=1) (z:=.int .i64 0) (cells:=#[.int .i64 i]) ?_
   refine D9 (new:=[.int .i64 i]) rfl rfl rfl rfl (sl.upd (AN.push (T:=fun _=>False) h3 _) (fun _ _ x=>x)) (AG _ _) rfl (by simp [OneCell]) (by omega) (by omega) (by rfl) (fun _ _ _ x=>x) ?_
   intro s4 h4 Kq u4 Rk
   have p4:AN (fun b=>blk lv=some b) h3 h4:=(AN.push (T:=fun b=>blk lv=some b) h3 (.cells #[.int .i64 i] 3)).trans u4
   have yv:∀b,blk lv=some b->b≠C:=Ac sl I.row (by decide)
   have I4:FO R lL lW lY lV sP h0 C (.slice aT R.nb kT) cv last BI cl h4:=⟨I.up.over p4 (fun b DN=>by have:=hb b DN;omega),p4.get I.row (fun e=>yv C e rfl),I.BI.upd p4 (fun b DN e=>by have:=oM b DN;have:=hb b e;omega),I.Fu.upd p4 (fun b DN e=>Bq sl I.Fu (by decide) b e DN),I.nC,I.nt,I.nc⟩
   have e4:(R.Dw k (i+1)).length=(R.Dw k i).length+1:=by rw [Mu CO iX,C1];rfl
   have HY:AR h4 s4 3 1 (R.Dw k (i+1)).length ((R.Dw k (i+1)).map fun(n:Nat)=>Value.int .i64 (n:Int)):=by rw [e4,Mu CO iX,EF];exact Kq
   have tX:∀b,blk s4=some b->h.size<=b:=fun b DN=>by
    rcases Rk b DN with z|z
    ·exact hb b z
    ·rw [CH]at z;have:=up.size;omega
   repeat(first|refine AH ?_|refine AE ?_|refine Bb ?_|refine AV ?_|refine Aq ?_|refine BR (kd:=.i64) rfl (i64_in (by omega) (by omega)) ?_)
   refine Ah (again (i+1,s4,BI) _ _ (by dsimp only;omega) ⟨by dsimp only;omega,rfl,hl,ti,I4,HY,tX,A2 up p4 (fun b DN e=>by have:=hb b e;omega)⟩) ⟨rfl,?_,rfl,rfl,rfl,trivial⟩
   rw [e4]
   rfl
 ·obtain rfl:i=R.nb:=by omega
  clear again
  repeat(first|refine AI ?_|refine AH ?_|refine AE ?_|refine AV ?_|refine Aq ?_|refine Bc ?_|refine Az ?_|refine Bg ?_|refine BN ?_|refine Am ?_|refine AQ ?_|refine B8 ?_|refine Av rfl (by assumption) ?_)
  exact EL rfl rfl rfl ⟨rfl,BI,lv,rfl,sl,hl,ti,I,up⟩
theorem Wc{l Ax:List Nat}{lv:Value}(m:HB R AZ lL lW lY lV sP h)(hC:h[C]?=some (KR e n lL lW lY lV sP k tv cv (Gx Ax)))(hl:AR h lv 3 1 l.length (l.map fun(n:Nat)=>Value.int .i64 (n:Int)))(B7:l≠[])(hlen:l.length<=1000)(bB:Ax.length<=65536):
  AY Tryz.prog main S 75 #[ptr C,lv,.int .i64 Ax.length] h δ (CJ (Gb (.int .i64 (FI AZ Ax l)) h δ)):=by
 have SA:0<l.length:=OE.2 B7
 obtain⟨aP,kP,eP⟩:=m.AZ.val
 rw [Ca]at eP
 obtain⟨aA,kA,eA⟩:=hl.val
 subst eP eA
 have c7:AF h ⟨C,7,none⟩=some (.slice aP AZ.length kP):=AD hC rfl
 have XI:AF h ⟨C,11,none⟩=some (.int .i64 (Gx Ax)):=AD hC rfl
 refine CK (n:=33) ?_
 by_cases Cg:Ax.length<AZ.length
 ·obtain⟨x,hx⟩:∃x,AZ[Ax.length]?=some x:=⟨_,Cl Cg⟩
  obtain⟨bP,oP,kP',e2,cP⟩:=m.AZ.cell Ax.length (.int .i64 x) (by rw [EQ,hx];rfl)
  injection e2 with e2
  subst e2
  obtain⟨q,hq,Nn,hq3⟩:=LI x B7
  obtain⟨bA,e2,cA,-⟩:=C7 hl Nn
  subst e2
  have h3:=Int.emod_nonneg x (b:=(l.length:Int)) (by omega)
  have h4:=Int.emod_lt_of_pos x (b:=(l.length:Int)) (by omega)
  rw [<-hq3]at cA
  rw [show FI AZ Ax l=OH x l by unfold FI;rw [hx]]
  repeat(first|refine AI ?_|refine AH ?_|refine AE ?_|refine AV ?_|refine Aq ?_|refine Bc ?_|refine Az ?_|refine Df ?_|refine Bs ?_|refine BN ?_|refine Cd ?_|refine BU ?_|refine Av rfl (by assumption) ?_)
  refine Bx rfl (Zn SA hlen) ?_
  generalize x % (l.length:Int)=r at h3 h4 cA⊢
  repeat(first|refine AE ?_|refine Aq ?_|refine Cd ?_|refine AQ ?_|refine Av rfl (by assumption) ?_)
  exact DQ El
 ·have hx:AZ[Ax.length]?=none:=Iz (by omega)
  rw [show FI AZ Ax l=roundOf l (Gx Ax) by unfold FI;rw [hx]]
  repeat(first|refine AI ?_|refine AH ?_|refine AE ?_|refine Ar ?_|refine AV ?_|refine Aq ?_|refine Bc ?_|refine Az ?_|refine Df ?_|refine Bg ?_|refine BN ?_|refine Am ?_)
  refine Bx rfl (db hl B7 hlen) ?_
  repeat(first|refine AE ?_|refine Aq ?_|refine AQ ?_)
  exact DQ El
end
end
section
open Go Go.TJ Go.Conc Go.Proofs
theorem Jn:∀(m s:Nat) {l:List Nat},l.Pairwise (· < ·)->(∀a,a∈l->s<=a/\a<s+m)->(List.range' s m).filter (fun j=>l.any (·==j))=l
 | 0,s,l,h,hl=>by
  cases l with
  | nil=>rfl
  | cons a t=>have:=hl a (by simp);omega
 | m+1,s,l,h,hl=>by
  rw [List.range'_succ]
  cases l with
  | nil=>simp
  | cons a t=>
   obtain⟨h1,h2⟩:=List.pairwise_cons.1 h
   have ha:=hl a (by simp)
   by_cases e:a=s
   ·subst e
    rw [List.filter_cons_of_pos (by simp)]
    congr 1
    have ih:=Jn m (a+1) h2 (fun b hb=>⟨h1 b hb,by have:=hl b (by simp [hb]);omega⟩)
    rw [<-ih]
    refine List.filter_congr fun j hj=>?_
    have hja:a≠j:=by have:=(List.mem_range'_1.1 hj).1;omega
    rw [ih]
    have:(a==j)=false:=by simpa using hja
    simp [this]
   ·have hs:((a::t).any fun x=>x==s)=false:=by
     refine List.any_eq_false.2 fun x hx=>?_
     have:s<x:=by
      rcases Ew.1 hx with rfl|hx
      ·omega
      ·have:=h1 x hx;omega
     simp;omega
    rw [List.filter_cons_of_neg (by rw [hs];decide)]
    refine Jn m (s+1) h fun b hb=>?_
    have XD:=hl b hb
    rcases Ew.1 hb with rfl|hb
    ·omega
    ·have:=h1 b hb;omega
theorem Fh.Wx{X:Us}{AZ:List Int}{R:Rec}(ok:Fh X AZ R):R.alive R.log.length=R.left.map (·.1):=by
 unfold Rec.alive
 rw [List.drop_eq_nil_of_le (CY _)]
 have:=Jn R.nb 0 (l:=R.left.map (·.1)) (List.pairwise_map.2 ok.Xp) (fun a ha=>by
  obtain⟨q,hq,rfl⟩:=Iu.1 ha
  have:=(ok.left q hq).1
  omega)
 rw [<-List.range_eq_range']at this
 rw [<-this]
 refine List.filter_congr fun j hj=>?_
 rw [List.any_map]
 simp
 rfl
theorem TO{l:List Ev}{k:Nat}{e:Ev}(h:l[k]?=some e):Gx ((l.take (k+1)).map (·.BI))=(e.BI:Int):=by
 rw [(Dj h).1,EF]
 unfold Gx
 simp
section
variable{Γ:Type}{main:Bool}{S:Cp Γ}{δ:Ix Γ}{h h' h0:Hp}{R:Rec}{AZ:List Int}{lL lW lY lV sP tv cv:Value}{last:Int}{C n k j:Nat}{e:Int}{X:Us}{BI:List Nat}{cl:List Int}
theorem FO.dL(I:FO R lL lW lY lV sP h0 C tv cv last BI cl h)(x:Int):FO R lL lW lY lV sP h0 C tv cv x BI cl (Af h ⟨C,11,none⟩ (.int .i64 x)):=by
 have e7:Af h ⟨C,11,none⟩ (.int .i64 x)=h.setIfInBounds C (KR R.e R.log.length lL lW lY lV sP R.most tv cv x):=As I.row _
 rw [e7]
 have u:AN (fun b=>b=C) h (h.setIfInBounds C (KR R.e R.log.length lL lW lY lV sP R.most tv cv x)):=AN.set _ _ _ rfl
 have:=I.nC
 exact⟨I.up.over u (fun b hb=>by omega),AJ I.row,I.BI.upd u (Ac I.BI I.row (by decide)),I.Fu.upd u (Ac I.Fu I.row (by decide)),I.nC,I.nt,I.nc⟩
theorem FO.yI{b cap i:Nat}(I:FO R lL lW lY lV sP h0 C tv (.slice (some ⟨b,0,none⟩) cl.length cap) last BI cl h)(hi:i<cl.length)(x:Int):FO R lL lW lY lV sP h0 C tv (.slice (some ⟨b,0,none⟩) cl.length cap) last BI (cl.set i x) (Af h ⟨b,0+i*1,none⟩ (.int .i64 x)):=by
 have u:AN (fun x=>x=b) h (Af h ⟨b,0+i*1,none⟩ (.int .i64 x)):=AN.Af _ _ _ rfl
 have hb:=I.nc b rfl
 have e1:0+i*1=i:=by omega
 refine⟨I.up.over u (fun b' DN=>by omega),u.get I.row (fun e=>Ac I.Fu I.row (by decide) b rfl e.symm),I.BI.upd u (fun b' DN e=>Bq I.Fu I.BI (by decide) b rfl (by rw [<-e];exact DN)),?_,I.nC,I.nt,I.nc⟩
 have:=I.Fu.set (j:=i) (by rw [Ca];exact hi) (.int .i64 x)
 rw [e1,List.map_set,List.length_set]
 exact this
theorem WL(ok:Fh X AZ R)(m:HB R AZ lL lW lY lV sP h0)(I:FO R lL lW lY lV sP h0 C tv cv (-1) BI cl h)(hl:BI.length=R.nb)(Rv:cl.length=(Ab R.log).length)(ti:TI R 0 BI):
  AY Tryz.prog main (Fb (Γ:=Γ)) 45 #[ptr C] h δ (CJ fun v h' AW=>AW=δ/\v= .bool true/\AN (fun _=>False) h0 h'):=by
 have hlen:=ok.len
 have P3:=ok.most
 have Rj:=ok.nb
 have xQ:=I.up.size
 obtain⟨aT,kT,eT⟩:=I.BI.val
 obtain⟨aC,kC,eC⟩:=I.Fu.val
 obtain⟨aL,kL,eL⟩:=m.log.val
 obtain⟨aW,kW,eW⟩:=m.Ax.val
 obtain⟨aY,kY,eY⟩:=m.Da.val
 obtain⟨aV,kV,eV⟩:=m.left.val
 have wc:=ok.Da
 have bB:(R.log.map (·.BI)).length=R.log.length:=Ca _
 rw [hl]at eT
 rw [Rv]at eC
 rw [bB]at eW
 rw [wc]at eY
 subst eT eC eL eW eY eV
 refine CK (n:=180) ?_
 repeat(first|refine AI ?_|refine AH ?_|refine AE ?_|refine Ak ?_|refine Aq ?_)
 refine B1 (fun q:Nat×List Nat×List Int=>[(4,.int .i64 q.1),(3,.int .i64 q.1),(0,ptr C)]) (fun q h' AW=>q.1<=R.log.length/\AW=δ/\q.2.1.length=R.nb/\q.2.2.length=(Ab R.log).length/\TI R q.1 q.2.1/\FO R (.slice aL R.log.length kL) (.slice aW R.log.length kW) (.slice aY R.log.length kY) (.slice aV R.left.length kV) sP h0 C (.slice aT R.nb kT) (.slice aC (Ab R.log).length kC) (Gx ((R.log.take q.1).map (·.BI))) q.2.1 q.2.2 h') (fun q=>R.log.length-q.1) (0,BI,cl) ⟨rfl,rfl,rfl,trivial⟩ ⟨Bv _,rfl,hl,Rv,ti,I⟩ ?_
 clear hl Rv ti I BI cl xQ
 rintro⟨k,BI,cl⟩ h1 H0 ⟨hk,DL,hl,Rv,ti,I⟩ again
 dsimp only at hk hl Rv ti I again DL⊢
 subst DL
 have c2:AF h1 ⟨C,2,none⟩=some (.slice aL R.log.length kL):=AD I.row rfl
 by_cases CO:k<R.log.length
 ·obtain⟨e,he⟩:∃e,R.log[k]?=some e:=⟨_,Cl CO⟩
  obtain⟨bL,ea,A0,-⟩:=Bt (FR (Ab R.log)) (m.log.upd I.up (fun _ _ x=>x)) he
  subst ea
  repeat(first|refine AI ?_|refine AH ?_|refine AE ?_|refine Ar ?_|refine Ak ?_|refine AV ?_|refine Bc ?_|refine Az ?_|refine Bs ?_|refine BN ?_|refine Cd ?_|refine BU ?_|refine Av rfl (by assumption) ?_)
  refine C5 (vs:=CF (Ab R.log) e) rfl A0 ?_
  (repeat refine Cn ?_)
  obtain⟨y,hy⟩:∃y,y=h1.size:=⟨_,rfl⟩
  refine Bz (vs:=CF (Ab R.log) e) rfl rfl (by simp [CF,A4,OneCell]) (by rw [<-hy];exact Dx (vs:=[.int .i64 0,.int .i8 0,.int .i64 0,.int .i64 0,.int .i64 0,.int .i64 0,.int .i64 0,.bool false]) rfl (by rw [hy];exact AG _ _)) ?_
  rw [Bw (c:=[.int .i64 0,.int .i8 0,.int .i64 0,.int .i64 0,.int .i64 0,.int .i64 0,.int .i64 0,.bool false]) (vs:=CF (Ab R.log) e) rfl]
  refine A6 (fun h'=>FO R (.slice (some ⟨bL,0,none⟩) R.log.length kL) (.slice aW R.log.length kW) (.slice aY R.log.length kY) (.slice aV R.left.length kV) sP h0 C (.slice aT R.nb kT) (.slice aC (Ab R.log).length kC) (Gx ((R.log.take k).map (·.BI))) BI cl h'/\h'[y]?=some (CE (CF (Ab R.log) e))/\y<h'.size) ⟨I.A5 (AN.push _ _),by rw [hy];exact AG _ _,by rw [CH];omega⟩ ?_
  rw [<-hy]
  clear I A0 c2 hy
  rintro h2 ⟨I,ly,mf⟩
  obtain⟨w,i1,r,cw,hr,e1,aj⟩:=ok.chain.inv he
  have Qu:1<=e.op:=by rw [e1];exact hr.iM
  have Qt:e.op<=5:=by rw [e1];exact hr.mU
  have qW:(Ab R.log).idxOf e.b<(Ab R.log).length:=List.idxOf_lt_length_iff.2 ((IH _ _).2 ⟨e,Fg he,rfl⟩)
  obtain⟨tn1,tn2,vW⟩:=ok.turns k e he
  have LZ:e.BI<R.nb:=(J8.1 vW).1
  have yl:((R.log.take k).map (·.BI)).length=k:=by rw [Ca,List.length_take];omega
  clear cw e1 aj hr
  have ea:CF (Ab R.log) e=A4 e.BI e.op ((Ab R.log).idxOf e.b:Nat) e.arg e.new e.Dl e.now e.ok:=rfl
  rw [ea]at ly
  generalize (Ab R.log).idxOf e.b=ix at qW ly
  have y0:AF h2 ⟨y,0,none⟩=some (.int .i64 e.BI):=AD ly rfl
  have y1:AF h2 ⟨y,1,none⟩=some (.int .i8 e.op):=AD ly rfl
  have c9:AF h2 ⟨C,9,none⟩=some (.slice aT R.nb kT):=AD I.row rfl
  refine AE (AI (AI ?_))
  refine BO (fun h'=>h'=h2) ?_
  have hZ:h2=h2:=rfl
  refine Ag 0 hZ ?_
  refine FA 1 y0 hZ ?_
  refine Dy 2 hZ ?_
  refine AU 3 hZ ?_
  refine Ag 4 hZ ?_
  refine FA 5 y0 hZ ?_
  refine AU 6 hZ ?_
  refine BE 7 hZ ?_
  refine Ag 8 hZ ?_
  refine FA 9 c9 hZ ?_
  refine Er 10 rfl (by kernel_rfl) rfl rfl rfl rfl hZ ?_
  refine Dy 11 hZ ?_
  refine Dz 12 hZ ?_
  refine BF ?_
  clear hZ
  repeat(first|refine AI ?_|refine AH ?_|refine AE ?_|refine Ar ?_|refine AV ?_|refine Az ?_|refine Df ?_|refine Bg ?_|refine Am ?_)
  have nyT:¬blk (.slice aT R.nb kT)=some y:=fun hx=>Ac I.BI ly (by decide) y hx rfl
  refine BV rfl (Vo ok m I hl Rv ti hk) ?_
  clear I ti hl BI y0 y1 c9
  rintro _ h3 FJ ⟨rfl,BI,lv,rfl,sl,hl,ti,I,u3⟩
  have ly:=u3.get ly nyT
  have y0:AF h3 ⟨y,0,none⟩=some (.int .i64 e.BI):=AD ly rfl
  have y1:AF h3 ⟨y,1,none⟩=some (.int .i8 e.op):=AD ly rfl
  have y2:AF h3 ⟨y,2,none⟩=some (.int .i64 ix):=AD ly rfl
  have y6:AF h3 ⟨y,6,none⟩=some (.int .i64 e.now):=AD ly rfl
  have c1:AF h3 ⟨C,1,none⟩=some (.int .i64 R.log.length):=AD I.row rfl
  have c3:AF h3 ⟨C,3,none⟩=some (.slice aW R.log.length kW):=AD I.row rfl
  have c4:AF h3 ⟨C,4,none⟩=some (.slice aY R.log.length kY):=AD I.row rfl
  have B7:R.alive k≠[]:=fun x=>by rw [x]at vW;cases vW
  have hal:(R.alive k).length<=64:=by have:=Mv (R:=R) (k:=k) (i:=R.nb);exact Dt this Rj
  have SA:0<(R.alive k).length:=OE.2 B7
  have m3:=m.upd I.up
  obtain⟨bY,eY,cY,-⟩:=C7 (l:=R.Da) (f:=fun(n:Nat)=>Value.int .i64 (n:Int)) m3.Da tn1
  subst eY
  obtain⟨bW,eW,cW,-⟩:=C7 (l:=R.log.map (·.BI)) (f:=fun(n:Nat)=>Value.int .i64 (n:Int)) m3.Ax (k:=k) (q:=e.BI) (by rw [EQ,he];rfl)
  subst eW
  have iW:=Wc (S:=Fb (Γ:=Γ)) (main:=main) (δ:=FJ) (Ax:=(R.log.take k).map (·.BI)) m3 I.row sl B7 (by omega) (by omega)
  rw [yl,<-tn2]at iW
  obtain⟨aA,kA,eA⟩:=sl.val
  subst eA
  clear sl u3 B7 m3
  repeat(first|refine AI ?_|refine AE ?_|refine AV ?_|refine Aq ?_|refine Eo ?_)
  refine BO (fun h'=>h'=h3) ?_
  have hZ:h3=h3:=rfl
  refine AU 0 hZ ?_
  refine AU 1 hZ ?_
  refine BE 2 hZ ?_
  refine Ag 3 hZ ?_
  refine Ag 4 hZ ?_
  refine FA 5 c1 hZ ?_
  refine Dy 6 hZ ?_
  refine AU 7 hZ ?_
  refine AU 8 hZ ?_
  refine Er 9 rfl (by kernel_rfl) rfl rfl rfl rfl hZ ?_
  refine Dy 10 hZ ?_
  refine Dz 11 hZ ?_
  refine AU 12 hZ ?_
  refine AU 13 hZ ?_
  refine BE 14 hZ ?_
  refine Ag 15 hZ ?_
  refine Ag 16 hZ ?_
  refine FA 17 c4 hZ ?_
  refine AU 18 hZ ?_
  refine GP 19 hZ ?_
  refine FA 20 cY hZ ?_
  refine AU 21 hZ ?_
  refine Er 22 rfl (by kernel_rfl) rfl rfl rfl rfl hZ ?_
  refine Dy 23 hZ ?_
  refine Dz 24 hZ ?_
  refine AU 25 hZ ?_
  refine AU 26 hZ ?_
  refine BE 27 hZ ?_
  refine Ag 28 hZ ?_
  refine Ag 29 hZ ?_
  refine FA 30 c3 hZ ?_
  refine AU 31 hZ ?_
  refine GP 32 hZ ?_
  refine FA 33 cW hZ ?_
  refine Ag 34 hZ ?_
  refine FA 35 y0 hZ ?_
  refine Dy 36 hZ ?_
  refine Dz 37 hZ ?_
  refine AU 38 hZ ?_
  refine Ag 39 hZ ?_
  refine FA 40 y0 hZ ?_
  refine AU 41 hZ ?_
  refine AU 42 hZ ?_
  refine AU 43 hZ ?_
  refine FE 44 rfl (by kernel_rfl) rfl rfl rfl rfl rfl rfl iW hZ ?_
  refine Dy 45 hZ ?_
  refine Dz 46 hZ ?_
  refine BF ?_
  clear hZ iW cY cW c1 c3 c4 y2 y6
  refine OC rfl (Ar ?_)
  repeat(first|refine AI ?_|refine AH ?_|refine AV ?_|refine Bc ?_|refine Az ?_|refine Df ?_)
  refine CS rfl ⟨nofun,nofun⟩ ⟨_,AD I.row rfl⟩ (AS I.row) (fun x=>x) ?_
  have I2:=I.dL e.BI
  have aE:(Af h3 ⟨C,11,none⟩ (.int .i64 e.BI))[y]?=some (CE (A4 e.BI e.op ix e.arg e.new e.Dl e.now e.ok)):=by
   rw [Cq]
   ·exact ly
   ·intro hx
    have:=I.row
    change C=y at hx
    rw [hx,ly]at this
    injection this with this
    injection this with _ this _
    revert this;decide
  change ER _ _ _ _ _ _ _ _ _ _ (Af h3 ⟨C,11,none⟩ (.int .i64 e.BI)) _ _
  generalize Af h3 ⟨C,11,none⟩ (.int .i64 e.BI)=h4 at I2 aE⊢
  clear I ly y0 y1
  have y1:AF h4 ⟨y,1,none⟩=some (.int .i8 e.op):=AD aE rfl
  have y2:AF h4 ⟨y,2,none⟩=some (.int .i64 ix):=AD aE rfl
  have y6:AF h4 ⟨y,6,none⟩=some (.int .i64 e.now):=AD aE rfl
  obtain⟨xx,wN⟩:∃xx,cl[ix]?=some xx:=⟨_,Cl (by omega)⟩
  obtain⟨bC,eC,cC,fC⟩:=C7 I2.Fu wN
  subst eC
  have PC:AF h4 ⟨C,10,none⟩=some (.slice (some ⟨bC,0,none⟩) (Ab R.log).length kC):=AD I2.row rfl
  repeat(first|refine AI ?_|refine AH ?_|refine AE ?_|refine Ar ?_|refine AV ?_|refine Aq ?_|refine Az ?_|refine Df ?_|refine CW ?_|refine Bd ?_|refine Bs ?_|refine Bg ?_|refine BR (kd:=.i64) rfl (i64_in (by omega) (by omega)) ?_|refine BU ?_|refine Am ?_)
  refine D7 (fun h'=>h'=h4) 9 ?_
  have hZ:h4=h4:=rfl
  refine AU 0 hZ ?_
  refine BE 1 hZ ?_
  refine Ag 2 hZ ?_
  refine FA 3 PC hZ ?_
  refine Ag 4 hZ ?_
  refine FA 5 y2 hZ ?_
  refine Ag 6 hZ ?_
  refine FA 7 y6 hZ ?_
  refine CQ 8 rfl (by kernel_rfl) (fun ρ Q X Aa hq=>E4 (Aa _ _ rfl) (Aa _ _ rfl) (by omega) (by omega) hq) hZ ?_
  refine D6 (h':=Af h4 ⟨bC,0+ix*1,none⟩ (.int .i64 e.now)) 9 rfl (by kernel_rfl) rfl rfl rfl (fun ρ Q X Aa hq=>BG (Aa _ _ rfl) (Aa _ _ rfl) ⟨nofun,nofun⟩ ⟨_,cC⟩ (fC _) (fun x=>x) hq) ?_
  refine BF ?_
  have I3:=(Rv▸I2).yI (i:=ix) (by omega) e.now
  rw [Rv]at I3
  repeat(first|refine AH ?_|refine AE ?_|refine Bb ?_|refine AV ?_|refine Aq ?_|refine BR (kd:=.i64) rfl (i64_in (by omega) (by omega)) ?_)
  refine Ah (again (k+1,BI,cl.set ix e.now) _ _ (by dsimp only;omega) ⟨by dsimp only;omega,rfl,hl,by dsimp only;rw [List.length_set];exact Rv,ti.mono (by omega),by dsimp only;rw [TO he];exact I3⟩) ⟨rfl,rfl,rfl,trivial⟩
 ·obtain rfl:k=R.log.length:=by omega
  clear again
  repeat(first|refine AI ?_|refine AH ?_|refine AE ?_|refine AV ?_|refine Bc ?_|refine Az ?_|refine Bg ?_|refine BN ?_|refine Am ?_|refine B8 ?_|refine Av rfl (by assumption) ?_)
  refine BV rfl (Vo ok m I hl Rv ti (CY _)) ?_
  clear I ti hl BI c2
  rintro _ h3 FJ ⟨rfl,BI,lv,rfl,sl,hl,ti,I,u3⟩
  have hae:(R.alive R.log.length).length=R.left.length:=by rw [ok.Wx,Ca]
  rw [hae]at sl⊢
  obtain⟨aA,kA,eA⟩:=sl.val
  subst eA
  have c0:AF h3 ⟨C,0,none⟩=some (.int .i8 R.e):=AD I.row rfl
  have c1:AF h3 ⟨C,1,none⟩=some (.int .i64 R.log.length):=AD I.row rfl
  have c5:AF h3 ⟨C,5,none⟩=some (.slice aV R.left.length kV):=AD I.row rfl
  have c8:AF h3 ⟨C,8,none⟩=some (.int .i64 R.most):=AD I.row rfl
  rcases ok.XX with⟨w1,w2⟩|⟨w1,w2,w3⟩
  ·have w3:R.left.length=0:=by rw [w2];rfl
   rw [w1]at c0
   repeat(first|refine AI ?_|refine AH ?_|refine AE ?_|refine AV ?_|refine Aq ?_|refine Bc ?_|refine Az ?_|refine CW ?_|refine Bl ?_|refine Eo ?_|refine Bs ?_|refine BN ?_|refine BU ?_|refine AQ ?_|refine Av rfl (by assumption) ?_)
   exact CL rfl ⟨rfl,rfl,I.up⟩
  ·have w4:0<R.left.length:=OE.2 w2
   rw [w1]at c0
   repeat(first|refine AI ?_|refine AH ?_|refine AE ?_|refine Ar ?_|refine AV ?_|refine Aq ?_|refine Bc ?_|refine Az ?_|refine Bl ?_|refine Bd ?_|refine Eo ?_|refine Bs ?_|refine Bg ?_|refine BN ?_|refine Am ?_|refine AQ ?_|refine Av rfl (by assumption) ?_)
   exact CL rfl ⟨rfl,rfl,I.up⟩
end
end
section
open Go Go.TJ Go.Conc Go.Proofs
theorem Sj{Γ:Type}{P:Program}{S:Cp Γ}{h:Hp}{δ:Ix Γ}{ty:TypeId}{pos:String}{af:Array Edge}{g:Option (Nat×Bool)}{t:TypeId}{x:Operand}{cs:Array Value}{ρ:Operand->Value}{dst:Option Nat}{Q:Next->Hp->Ix Γ->Prop}{X:Value->Hp->Ix Γ->Prop}(hx:ρ x= .agg cs)
  (hq:Q (.value (.pointer (some ⟨h.size,0,none⟩))) (h.push (.cells cs t)) δ):Aj P S (execOp ρ ⟨dst,.box t x,ty,pos,af,g⟩) h δ Q X:=by
 show Aj P S (Instr.box t (ρ x) >>= fun v=>pure (.value v)) h δ Q X
 rw [hx]
 exact⟨Gw,hq⟩
section
variable{Γ:Type}{main:Bool}{S:Cp Γ}{δ:Ix Γ}{h h' h0:Hp}{R:Rec}{AZ:List Int}{lL lW lY lV sP tv cv:Value}{X:Us}
theorem FO.zd{C:Nat}{BI:List Nat}{cl:List Int}{last:Int}{s':Value}{h1:Hp}(I:FO R lL lW lY lV sP h0 C tv cv last BI cl h)(u:AN (fun b=>blk tv=some b) h h1)(sl:AR h1 s' 3 1 (BI.length+1) ((BI.map fun(n:Nat)=>Value.int .i64 (n:Int))++[.int .i64 0]))(hb:∀b,blk s'=some b->blk tv=some b\/h.size<=b):
  FO R lL lW lY lV sP h0 C s' cv last (BI++[0]) cl (Af h1 ⟨C,9,none⟩ s'):=by
 have o1:=u.get I.row (fun hx=>Ac I.BI I.row (by decide) C hx rfl)
 have e1:Af h1 ⟨C,9,none⟩ s'=h1.setIfInBounds C (KR R.e R.log.length lL lW lY lV sP R.most s' cv last):=As o1 _
 rw [e1]
 have uW:AN (fun b=>b=C) h1 (h1.setIfInBounds C (KR R.e R.log.length lL lW lY lV sP R.most s' cv last)):=AN.set _ _ _ rfl
 have uh:=Ap I.row
 have nC:=I.nC
 refine⟨(I.up.over u (fun b GA=>I.nt b GA)).over uW (fun b e=>by omega),AJ o1,?_,(I.Fu.upd u (fun b GA hx=>Bq I.Fu I.BI (by decide) b GA hx)).upd uW (Ac I.Fu I.row (by decide)),I.nC,fun b GA=>(hb b GA).elim (I.nt b) (fun y=>Dt I.up.size y),I.nc⟩
 have:=sl.upd uW (fun b GA=>(hb b GA).elim (Ac I.BI I.row (by decide) b) (fun y=>by omega))
 rw [EF,C1]
 exact this
theorem U0(ok:Fh X AZ R)(m:HB R AZ lL lW lY lV sP h):
  AY Tryz.prog main (Fb (Γ:=Γ)) 23 #[.agg (Cj R.e R.log.length lL lW lY lV).toArray,.int .i64 R.nb,sP,.int .i64 R.most] h δ (CJ fun v h' AW=>AW=δ/\v= .bool true/\AN (fun _=>False) h h'):=by
 have hlen:=ok.len
 have P3:=ok.most
 have Rj:=ok.nb
 obtain⟨aP,kP,eP⟩:=m.AZ.val
 rw [Ca]at eP
 subst eP
 refine CK (n:=41) ?_
 repeat(first|refine AI ?_|refine AH ?_|refine AE ?_|refine Aq ?_|refine DO ?_)
 have u0:AN (fun _=>False) h (h.push (.cells (Cj R.e R.log.length lL lW lY lV).toArray 32)):=AN.push _ _
 have g0:(h.push (.cells (Cj R.e R.log.length lL lW lY lV).toArray 32))[h.size]?=some (.cells (Cj R.e R.log.length lL lW lY lV).toArray 32 (0,0)):=AG _ _
 generalize h.push (.cells (Cj R.e R.log.length lL lW lY lV).toArray 32)=h1 at u0 g0⊢
 have M0:A0 h1 h.size 0 (Cj R.e R.log.length lL lW lY lV):=C0 (by exact g0)
 refine BO (fun h'=>TJ.A0 h' h.size 0 (Cj R.e R.log.length lL lW lY lV)) ?_
 have hZ:TJ.A0 h1 h.size 0 (Cj R.e R.log.length lL lW lY lV):=M0
 refine EP (vs:=Cj R.e R.log.length lL lW lY lV) 0 rfl (by kernel_rfl) rfl rfl rfl rfl rfl (fun _ hz=>hz) hZ ?_
 refine AU 1 hZ ?_
 refine AU 2 hZ ?_
 refine FE 3 rfl (by kernel_rfl) rfl rfl rfl rfl rfl rfl (ZM P3) hZ ?_
 refine CQ (v:=.agg (qj R.e R.log.length lL lW lY lV (.slice aP AZ.length kP) R.most AK AK (-1)).toArray) (h':=h1) 4 rfl (by kernel_rfl) (fun ρ Q X Aa hq=>De Aa (by rfl) (by kernel_rfl) hq) hZ ?_
 refine CQ (v:=ptr h1.size) (h':=h1.push (KR R.e R.log.length lL lW lY lV (.slice aP AZ.length kP) R.most AK AK (-1))) 5 rfl (by kernel_rfl) (fun ρ Q X Aa hq=>Sj (Aa _ _ rfl) hq) (fun j v hv=>A7 (M0 j v hv)) ?_
 have up:=AN.push (T:=fun _=>False) h1 (KR R.e R.log.length lL lW lY lV (.slice aP AZ.length kP) R.most AK AK (-1))
 have hZ:TJ.A0 (h1.push (KR R.e R.log.length lL lW lY lV (.slice aP AZ.length kP) R.most AK AK (-1))) h.size 0 (Cj R.e R.log.length lL lW lY lV):=fun j v hv=>up.AF (M0 j v hv) (fun x=>x)
 refine Dp 6 hZ ?_
 refine BF ?_
 obtain⟨C,hC⟩:∃C,C=h1.size:=⟨_,rfl⟩
 have Gq:h.size<=C:=by rw [hC];exact u0.size
 repeat(first|refine AI ?_|refine AH ?_|refine AE ?_|refine Ak ?_|refine Aq ?_)
 refine F4 (fun h'=>FO R lL lW lY lV (.slice aP AZ.length kP) h C AK AK (-1) [] [] h') ⟨u0.trans up,by rw [hC];exact AG _ _,AR.nil,AR.nil,Gq,fun b hb=>(by cases hb),fun b hb=>(by cases hb)⟩ ?_
 rw [<-hC]
 clear hZ M0 g0 u0 up hC
 intro h2 I
 refine B1 (fun q:Nat×Value=>[(10,.int .i64 q.1),(9,ptr C),(1,.int .i64 R.nb),(8,.bool false)]) (fun q h' AW=>AW=δ/\q.1<=R.nb/\FO R lL lW lY lV (.slice aP AZ.length kP) h C q.2 AK (-1) (List.replicate q.1 0) [] h') (fun q=>R.nb-q.1) (0,AK) ⟨rfl,rfl,rfl,rfl,trivial⟩ ⟨rfl,Bv _,I⟩ ?_
 clear I h2
 rintro⟨k,tv⟩ h2 FJ ⟨DL,hk,I⟩ again
 dsimp only at DL hk I again⊢
 subst DL
 by_cases CO:k<R.nb
 ·obtain⟨aT,kT,eT⟩:=I.BI.val
  rw [JX]at eT
  subst eT
  have c9:AF h2 ⟨C,9,none⟩=some (.slice aT k kT):=AD I.row rfl
  repeat(first|refine AI ?_|refine AH ?_|refine AE ?_|refine Ar ?_|refine Ak ?_|refine AV ?_|refine Bc ?_|refine Az ?_|refine Bs ?_|refine BU ?_|refine Av rfl (by assumption) ?_)
  refine Fv (sz:=1) (z:=.int .i64 0) (cells:=#[.int .i64 0]) ?_
  have I1:=I.A5 (AN.push h2 (.cells #[.int .i64 0] 3))
  have Pm:=I1.BI
  rw [JX]at Pm
  refine D9 (new:=[.int .i64 0]) rfl rfl rfl rfl Pm (AG _ _) rfl (by simp [OneCell]) (by omega) (by omega) (by rfl) (fun _ _ _ x=>x) ?_
  generalize h2.push (.cells #[.int .i64 0] 3)=h3 at I1 Pm⊢
  intro s4 h4 Kq u4 Rk
  have I2:=I1.zd u4 (by rw [JX];exact Kq) (fun b hb=>(Rk b hb).imp id (fun e=>Nat.le_of_eq e.symm))
  have o5:∃v,AF h4 ⟨C,0+9,none⟩=some v/\Bf h4 ⟨C,0+9,none⟩=false:=by
   have o1:=u4.get I1.row (fun hx=>Ac I1.BI I1.row (by decide) C hx rfl)
   exact⟨_,AD o1 rfl,AS o1⟩
  obtain⟨v5,o5,f5⟩:=o5
  obtain⟨a4,k4,e4⟩:=Kq.val
  repeat(first|refine Bc ?_|refine Az ?_)
  refine CS rfl (by rw [e4];exact⟨nofun,nofun⟩) ⟨_,o5⟩ f5 (fun x=>x) ?_
  change ER _ _ _ _ _ _ _ _ _ _ (Af h4 ⟨C,9,none⟩ s4) _ _
  generalize Af h4 ⟨C,9,none⟩ s4=h5 at I2⊢
  clear o5 f5 Kq u4 Rk I1 Pm I c9
  repeat(first|refine AH ?_|refine AE ?_|refine Bb ?_|refine AV ?_|refine Aq ?_|refine BR (kd:=.i64) rfl (i64_in (by omega) (by omega)) ?_)
  exact Ah (again (k+1,s4) _ _ (by dsimp only;omega) ⟨rfl,by dsimp only;omega,by dsimp only;rw [List.replicate_succ'];exact I2⟩) ⟨rfl,rfl,rfl,rfl,trivial⟩
 ·obtain rfl:k=R.nb:=by omega
  clear again CO
  have m2:=m.upd I.up
  repeat(first|refine AI ?_|refine AH ?_|refine AE ?_|refine AV ?_|refine Bg ?_|refine Am ?_|refine B8 ?_)
  refine BV rfl (Wg ok m2 I.row (fun hp b hb e=>by
   have:=m.AZ.lt (fun e=>hp (List.map_eq_nil_iff.1 e)) b hb
   omega)) ?_
  rintro _ h3 Hz ⟨rfl,rfl,cv,Qp,u3,Me,iP⟩
  have I3:FO R lL lW lY lV (.slice aP AZ.length kP) h C tv cv (-1) (List.replicate R.nb 0) ((Ab R.log).map R.v0) h3:=by
   refine⟨I.up.over u3 (fun b e=>by omega),Qp,I.BI.upd u3 (Ac I.BI I.row (by decide)),?_,I.nC,I.nt,fun b hb=>Dt I.up.size (iP b hb)⟩
   rw [Ca,List.map_map]
   exact Me
  clear I Qp u3 Me iP m2
  have m3:=m.upd I3.up
  repeat(first|refine AV ?_|refine B9 ?_)
  refine Bx rfl (ZT ok m3 I3.row) ?_
  repeat(first|refine AI ?_|refine AH ?_|refine AE ?_|refine Ar ?_|refine AV ?_|refine B9 ?_|refine Bd ?_|refine Am ?_)
  refine BV rfl (WL ok m I3 (by rw [JX]) (by rw [Ca]) (fun j t ht=>by
   have:t=0:=List.eq_of_mem_replicate (Fg ht)
   subst this
   exact⟨Bv _,fun i e h1 h2=>by omega⟩)) ?_
  rintro _ h4 MC ⟨rfl,rfl,u4⟩
  repeat(first|refine AE ?_|refine Aq ?_|refine AQ ?_)
  exact CL rfl ⟨rfl,rfl,u4⟩
end
end
section
open Go Go.TJ Go.Conc Go.Proofs
structure Pt(R:Rec)(lL lW lY lV:Value)(h0:Hp)(W:Nat)(nl:List D5)(gl:List Bool)(fl:List Int)(hl:List D5)(ol:List Int)(nv gv fv hv ov:Value)(h:Hp):Prop where
 up:AN (fun _=>False) h0 h
 row:h[W]?=some (eZ R.e R.log.length lL lW lY lV ⟨[],[],nv,gv,fv,hv,ov⟩)
 IL:AR h nv 134 2 nl.length (nl.flatMap DR)
 H2:AR h gv 4 1 gl.length (gl.map Value.bool)
 fst:AR h fv 2 1 fl.length (fl.map fun x=>Value.int .i64 x)
 Np:AR h hv 134 2 hl.length (hl.flatMap DR)
 NR:AR h ov 2 1 ol.length (ol.map fun x=>Value.int .i64 x)
 nW:h0.size<=W
 n1:∀b,blk nv=some b->h0.size<=b
 n2:∀b,blk gv=some b->h0.size<=b
 n3:∀b,blk fv=some b->h0.size<=b
 n4:∀b,blk hv=some b->h0.size<=b
 n5:∀b,blk ov=some b->h0.size<=b
 a1:∀b,blk nv=some b->blk hv≠some b
 a2:∀b,blk fv=some b->blk ov≠some b
section
variable{R:Rec}{lL lW lY lV:Value}{h0 h h1:Hp}{W:Nat}{nl:List D5}{gl:List Bool}{fl:List Int}{hl:List D5}{ol:List Int}{nv gv fv hv ov s':Value}
theorem Pt.A5(I:Pt R lL lW lY lV h0 W nl gl fl hl ol nv gv fv hv ov h)(u:AN (fun _=>False) h h1):Pt R lL lW lY lV h0 W nl gl fl hl ol nv gv fv hv ov h1:=
 ⟨I.up.trans u,u.get I.row (fun x=>x),I.IL.upd u (fun _ _ x=>x),I.H2.upd u (fun _ _ x=>x),I.fst.upd u (fun _ _ x=>x),I.Np.upd u (fun _ _ x=>x),I.NR.upd u (fun _ _ x=>x),I.nW,I.n1,I.n2,I.n3,I.n4,I.n5,I.a1,I.a2⟩
theorem Pt.du{x:D5}(I:Pt R lL lW lY lV h0 W nl gl fl hl ol nv gv fv hv ov h)(u:AN (fun b=>blk nv=some b) h h1)(sl:AR h1 s' 134 2 (nl.length+1) ((nl.flatMap DR)++DR x))(hb:∀b,blk s'=some b->blk nv=some b\/h.size<=b):
  Pt R lL lW lY lV h0 W (nl++[x]) gl fl hl ol s' gv fv hv ov (Af h1 ⟨W,8,none⟩ s'):=by
 have o1:=u.get I.row (fun hx=>Ac I.IL I.row (by decide) W hx rfl)
 have e1:Af h1 ⟨W,8,none⟩ s'=h1.setIfInBounds W (eZ R.e R.log.length lL lW lY lV ⟨[],[],s',gv,fv,hv,ov⟩):=As o1 _
 rw [e1]
 have uW:AN (fun b=>b=W) h1 (h1.setIfInBounds W (eZ R.e R.log.length lL lW lY lV ⟨[],[],s',gv,fv,hv,ov⟩)):=AN.set _ _ _ rfl
 have hWl:=Ap I.row
 have hn:∀b,blk s'=some b->h0.size<=b:=fun b GA=>(hb b GA).elim (I.n1 b) (fun y=>Dt I.up.size y)
 have hw:∀b,blk s'=some b->b≠W:=fun b GA=>(hb b GA).elim (Ac I.IL I.row (by decide) b) (fun y=>by omega)
 have nW:=I.nW
 exact⟨(I.up.over u (fun b GA=>I.n1 b GA)).over uW (fun b e=>by omega),AJ o1,by have:=sl.upd uW hw;simpa [List.flatMap_append]using this,(I.H2.upd u (fun b GA hx=>Bq I.H2 I.IL (by decide) b GA hx)).upd uW (Ac I.H2 I.row (by decide)),(I.fst.upd u (fun b GA hx=>Bq I.fst I.IL (by decide) b GA hx)).upd uW (Ac I.fst I.row (by decide)),(I.Np.upd u (fun b GA hx=>I.a1 b hx GA)).upd uW (Ac I.Np I.row (by decide)),(I.NR.upd u (fun b GA hx=>Bq I.NR I.IL (by decide) b GA hx)).upd uW (Ac I.NR I.row (by decide)),I.nW,hn,I.n2,I.n3,I.n4,I.n5,fun b GA hx=>(hb b GA).elim (fun y=>I.a1 b y hx) (fun y=>by have:=I.Np.lt hx;omega),I.a2⟩
theorem Pt.dw{x:Bool}(I:Pt R lL lW lY lV h0 W nl gl fl hl ol nv gv fv hv ov h)(u:AN (fun b=>blk gv=some b) h h1)(sl:AR h1 s' 4 1 (gl.length+1) ((gl.map Value.bool)++[Value.bool x]))(hb:∀b,blk s'=some b->blk gv=some b\/h.size<=b):
  Pt R lL lW lY lV h0 W nl (gl++[x]) fl hl ol nv s' fv hv ov (Af h1 ⟨W,9,none⟩ s'):=by
 have o1:=u.get I.row (fun hx=>Ac I.H2 I.row (by decide) W hx rfl)
 have e1:Af h1 ⟨W,9,none⟩ s'=h1.setIfInBounds W (eZ R.e R.log.length lL lW lY lV ⟨[],[],nv,s',fv,hv,ov⟩):=As o1 _
 rw [e1]
 have uW:AN (fun b=>b=W) h1 (h1.setIfInBounds W (eZ R.e R.log.length lL lW lY lV ⟨[],[],nv,s',fv,hv,ov⟩)):=AN.set _ _ _ rfl
 have hWl:=Ap I.row
 have hn:∀b,blk s'=some b->h0.size<=b:=fun b GA=>(hb b GA).elim (I.n2 b) (fun y=>Dt I.up.size y)
 have hw:∀b,blk s'=some b->b≠W:=fun b GA=>(hb b GA).elim (Ac I.H2 I.row (by decide) b) (fun y=>by omega)
 have nW:=I.nW
 exact⟨(I.up.over u (fun b GA=>I.n2 b GA)).over uW (fun b e=>by omega),AJ o1,(I.IL.upd u (fun b GA hx=>Bq I.IL I.H2 (by decide) b GA hx)).upd uW (Ac I.IL I.row (by decide)),by have:=sl.upd uW hw;simpa using this,(I.fst.upd u (fun b GA hx=>Bq I.fst I.H2 (by decide) b GA hx)).upd uW (Ac I.fst I.row (by decide)),(I.Np.upd u (fun b GA hx=>Bq I.Np I.H2 (by decide) b GA hx)).upd uW (Ac I.Np I.row (by decide)),(I.NR.upd u (fun b GA hx=>Bq I.NR I.H2 (by decide) b GA hx)).upd uW (Ac I.NR I.row (by decide)),I.nW,I.n1,hn,I.n3,I.n4,I.n5,I.a1,I.a2⟩
theorem Pt.dx{x:Int}(I:Pt R lL lW lY lV h0 W nl gl fl hl ol nv gv fv hv ov h)(u:AN (fun b=>blk fv=some b) h h1)(sl:AR h1 s' 2 1 (fl.length+1) ((fl.map fun x=>Value.int .i64 x)++[Value.int .i64 x]))(hb:∀b,blk s'=some b->blk fv=some b\/h.size<=b):
  Pt R lL lW lY lV h0 W nl gl (fl++[x]) hl ol nv gv s' hv ov (Af h1 ⟨W,10,none⟩ s'):=by
 have o1:=u.get I.row (fun hx=>Ac I.fst I.row (by decide) W hx rfl)
 have e1:Af h1 ⟨W,10,none⟩ s'=h1.setIfInBounds W (eZ R.e R.log.length lL lW lY lV ⟨[],[],nv,gv,s',hv,ov⟩):=As o1 _
 rw [e1]
 have uW:AN (fun b=>b=W) h1 (h1.setIfInBounds W (eZ R.e R.log.length lL lW lY lV ⟨[],[],nv,gv,s',hv,ov⟩)):=AN.set _ _ _ rfl
 have hWl:=Ap I.row
 have hn:∀b,blk s'=some b->h0.size<=b:=fun b GA=>(hb b GA).elim (I.n3 b) (fun y=>Dt I.up.size y)
 have hw:∀b,blk s'=some b->b≠W:=fun b GA=>(hb b GA).elim (Ac I.fst I.row (by decide) b) (fun y=>by omega)
 have nW:=I.nW
 exact⟨(I.up.over u (fun b GA=>I.n3 b GA)).over uW (fun b e=>by omega),AJ o1,(I.IL.upd u (fun b GA hx=>Bq I.IL I.fst (by decide) b GA hx)).upd uW (Ac I.IL I.row (by decide)),(I.H2.upd u (fun b GA hx=>Bq I.H2 I.fst (by decide) b GA hx)).upd uW (Ac I.H2 I.row (by decide)),by have:=sl.upd uW hw;simpa using this,(I.Np.upd u (fun b GA hx=>Bq I.Np I.fst (by decide) b GA hx)).upd uW (Ac I.Np I.row (by decide)),(I.NR.upd u (fun b GA hx=>I.a2 b hx GA)).upd uW (Ac I.NR I.row (by decide)),I.nW,I.n1,I.n2,hn,I.n4,I.n5,I.a1,fun b GA hx=>(hb b GA).elim (fun y=>I.a2 b y hx) (fun y=>by have:=I.NR.lt hx;omega)⟩
end
end
section
open Go Go.TJ Go.Conc Go.Proofs
section
variable{Γ:Type}{main:Bool}{S:Cp Γ}{δ:Ix Γ}{R:Rec}{lL lW lY lV sP:Value}{h0 h h1 h':Hp}{W:Nat}{nl:List D5}{gl:List Bool}{fl:List Int}{hl:List D5}{ol:List Int}{nv gv fv hv ov s':Value}{AZ:List Int}{X:Us}{nm:Nat->D5}
theorem Pt.toI{q:List (Bool×D5)}{hs:List (D5×Int)}(I:Pt R lL lW lY lV h0 W nl gl fl hl ol nv gv fv hv ov h)(h1:q.map (·.2)=nl)(h2:q.map (·.1)=gl)(h3:hs.map (·.1)=hl)(h4:hs.map (·.2)=ol):Ik R nm lL lW lY lV h0 W fl ⟨q,hs,nv,gv,fv,hv,ov⟩ h:=by
 subst h1 h2 h3 h4
 refine⟨I.up,I.row,?_,?_,I.fst,?_,?_,I.nW,I.n1,I.n2,I.n3,I.n4,I.n5,I.a1,I.a2⟩
 ·have:=I.IL;rw [Ca,List.flatMap_map]at this;exact this
 ·have:=I.H2;rw [Ca,List.map_map]at this;exact this
 ·have:=I.Np;rw [Ca,List.flatMap_map]at this;exact this
 ·have:=I.NR;rw [Ca,List.map_map]at this;exact this
theorem Pt.keep{y:Nat}{a:Array Value}{t:TypeId}(I:Pt R lL lW lY lV h0 W nl gl fl hl ol nv gv fv hv ov h)(hy:h[y]?=some (.cells a t (0,0)))(h1:t≠146)(h2:t≠134)(h3:t≠4)(h4:t≠2):
  y≠W/\¬blk nv=some y/\¬blk gv=some y/\¬blk fv=some y/\¬blk hv=some y/\¬blk ov=some y:=by
 refine⟨fun e=>?_,fun e=>Ac I.IL hy (Ne.symm h2) y e rfl,fun e=>Ac I.H2 hy (Ne.symm h3) y e rfl,fun e=>Ac I.fst hy (Ne.symm h4) y e rfl,fun e=>Ac I.Np hy (Ne.symm h2) y e rfl,fun e=>Ac I.NR hy (Ne.symm h4) y e rfl⟩
 have:=I.row
 rw [<-e,hy]at this
 injection this with this
 injection this with _ this _
 exact h1 this
abbrev N6(e:Int)(n:Nat)(lL lW lY lV:Value):Obj:=.cells (Cj e n lL lW lY lV).toArray 32 (0,0)
theorem Um(ok:Fh X AZ R)(m:HB R AZ lL lW lY lV sP h):
  AY Tryz.prog main (Fb (Γ:=Γ)) 46 #[.agg (Cj R.e R.log.length lL lW lY lV).toArray] h δ (CJ fun v h' AW=>AW=δ/\∃(W:Nat) (nv gv fv:Value),v=ptr W/\Pt R lL lW lY lV h W (List.replicate (Ab R.log).length (0,0)) (List.replicate (Ab R.log).length false) ((Ab R.log).map R.v0) [] [] nv gv fv AK AK h'):=by
 have hlen:R.log.length<=65536:=Dt ok.len ok.most
 have Vv:∀k,(Ab (R.log.take k)).length<=65536:=fun k=>by
  have h1:=Oa (R.log.take k)
  have h2:=List.length_take_le k R.log
  have h3:(R.log.take k).length<=R.log.length:=by rw [List.length_take];omega
  omega
 obtain⟨aL,kL,eL⟩:=m.log.val
 subst eL
 obtain⟨y,hy⟩:∃y,y=h.size:=⟨_,rfl⟩
 refine CK (n:=62) ?_
 repeat(first|refine AI ?_|refine AH ?_|refine AE ?_|refine Aq ?_|refine DO ?_)
 refine A6 (fun h'=>AN (fun _=>False) h h'/\h'[y]?=some (N6 R.e R.log.length (.slice aL R.log.length kL) lW lY lV)/\h'.size=h.size+1) ⟨AN.push _ _,by rw [hy];exact AG _ _,CH ..⟩ ?_
 rw [<-hy]
 rintro h1 ⟨u1,gy,s1⟩
 refine C5 (vs:=Cj R.e R.log.length (.slice aL R.log.length kL) lW lY lV) rfl (C0 (by exact gy)) ?_
 refine Cr (cells:=(zx R.e R.log.length (.slice aL R.log.length kL) lW lY lV ⟨[],[],AK,AK,AK,AK,AK⟩).toArray) rfl rfl (by rfl) (by kernel_rfl) ?_
 repeat(first|refine AI ?_|refine AH ?_|refine AE ?_|refine Ak ?_|refine Aq ?_|refine DO ?_)
 obtain⟨W,hW⟩:∃W,W=h1.size:=⟨_,rfl⟩
 rw [<-hW]
 have no:∀(P:Prop) (b:Nat),blk AK=some b->P:=fun P b hb=>by cases hb
 refine F4 (fun h'=>Pt R (.slice aL R.log.length kL) lW lY lV h W [] [] [] [] [] AK AK AK AK AK h'/\h'[y]?=some (N6 R.e R.log.length (.slice aL R.log.length kL) lW lY lV)) ⟨⟨u1.trans (AN.push _ _),by rw [hW];exact AG _ _,AR.nil,AR.nil,AR.nil,AR.nil,AR.nil,by omega,fun b=>no _ b,fun b=>no _ b,fun b=>no _ b,fun b=>no _ b,fun b=>no _ b,fun b=>no _ b,fun b=>no _ b⟩,Ao _ gy⟩ ?_
 rintro h2 ⟨I,gy⟩
 clear u1 hW s1 hy
 refine B1 (fun q:Nat×Value×Value×Value=>[(4,.int .i64 q.1),(3,ptr W),(1,ptr y)]) (fun q h' AW=>AW=δ/\q.1<=R.log.length/\Pt R (.slice aL R.log.length kL) lW lY lV h W (List.replicate (Ab (R.log.take q.1)).length (0,0)) (List.replicate (Ab (R.log.take q.1)).length false) ((Ab (R.log.take q.1)).map R.v0) [] [] q.2.1 q.2.2.1 q.2.2.2 AK AK h'/\h'[y]?=some (N6 R.e R.log.length (.slice aL R.log.length kL) lW lY lV)) (fun q=>R.log.length-q.1) (0,AK,AK,AK) ⟨rfl,rfl,rfl,trivial⟩ ⟨rfl,Bv _,I,gy⟩ ?_
 clear I gy
 rintro⟨k,nv,gv,fv⟩ h3 Hz ⟨DL,hk,I,gy⟩ again
 dsimp only at DL hk I again⊢
 subst DL
 have c2:AF h3 ⟨y,2,none⟩=some (.slice aL R.log.length kL):=AD gy rfl
 by_cases CO:k<R.log.length
 ·obtain⟨e,he⟩:∃e,R.log[k]?=some e:=⟨_,Cl CO⟩
  obtain⟨bL,ea,A0,-⟩:=Bt (FR (Ab R.log)) (m.log.upd I.up (fun _ _ x=>x)) he
  subst ea
  obtain⟨i1,i2,i3,i4⟩:=UC he
  obtain⟨w,i,r,cw,hr,e1,aj⟩:=ok.chain.inv he
  have yg:e.b∉Ab (R.log.take k)->e.Dl=R.v0 e.b:=fun hn=>by
   subst e1
   exact cw.first hn
  have w2:AF h3 ⟨bL,0+k*8+2,none⟩=some (.int .i64 ((Ab R.log).idxOf e.b:Nat)):=A0 2 _ rfl
  have uG:=Vv k
  have PC:AF h3 ⟨W,10,none⟩=some fv:=AD I.row rfl
  obtain⟨aF,kF,eF⟩:=I.fst.val
  rw [Ca]at eF
  subst eF
  clear cw hr e1 aj
  generalize (Ab R.log).idxOf e.b=ix at i1 i2 i3 i4 w2
  repeat(first|refine AI ?_|refine AH ?_|refine AE ?_|refine Ar ?_|refine Ak ?_|refine AV ?_|refine Az ?_|refine Df ?_|refine Bs ?_|refine BN ?_|refine BU ?_)
  refine BO (fun h'=>h'=h3) ?_
  have hZ:h3=h3:=rfl
  refine Ag 0 hZ ?_
  refine FA 1 c2 hZ ?_
  refine AU 2 hZ ?_
  refine GP 3 hZ ?_
  refine Ag 4 hZ ?_
  refine FA 5 w2 hZ ?_
  refine AU 6 hZ ?_
  refine BE 7 hZ ?_
  refine Ag 8 hZ ?_
  refine FA 9 PC hZ ?_
  refine Er 10 rfl (by kernel_rfl) rfl rfl rfl rfl hZ ?_
  rcases i4 with⟨j1,j2,j3⟩|⟨j1,j2,j3⟩
  ·refine Dy 11 hZ ?_
   refine BF ?_
   clear hZ
   repeat(first|refine AH ?_|refine AE ?_|refine Ar ?_|refine Bb ?_|refine AV ?_|refine Aq ?_|refine BR (kd:=.i64) rfl (i64_in (by omega) (by omega)) ?_|refine Am ?_)
   exact Ah (again (k+1,nv,gv,_) _ _ (by dsimp only;omega) ⟨rfl,by dsimp only;omega,by dsimp only;rw [j2];exact I,gy⟩) ⟨rfl,rfl,rfl,trivial⟩
  ·refine G8 11 hZ ?_
   refine BF ?_
   clear hZ c2 PC A0 w2
   have b1:(Ab (R.log.take (k+1))).length=(Ab (R.log.take k)).length+1:=by rw [j2,C1];rfl
   obtain⟨aN,kN,eN⟩:=I.IL.val
   rw [JX]at eN
   subst eN
   have c8:AF h3 ⟨W,8,none⟩=some (.slice aN (Ab (R.log.take k)).length kN):=AD I.row rfl
   repeat(first|refine AI ?_|refine AH ?_|refine AV ?_|refine Bc ?_|refine Az ?_|refine BU ?_|refine Av rfl (by assumption) ?_)
   refine Ep (cells:=#[.int .i64 0,.int .i64 0]) ?_
   refine Fv (sz:=2) (z:=.agg #[.int .i64 0,.int .i64 0]) (cells:=#[.int .i64 0,.int .i64 0]) ?_
   have I1:=I.A5 (AN.push h3 (.cells #[.int .i64 0,.int .i64 0] 134))
   have XG:=Ao (o:=.cells #[.int .i64 0,.int .i64 0] 134) gy
   have Pm:=I1.IL
   rw [JX]at Pm
   refine D9 (new:=[.int .i64 0,.int .i64 0]) rfl rfl rfl rfl Pm (AG _ _) rfl (by simp [OneCell]) (by omega) (by omega) (by rfl) (fun _ _ _ x=>x) ?_
   generalize h3.push (.cells #[.int .i64 0,.int .i64 0] 134)=h4 at I1 XG Pm⊢
   intro s4 h5 Kq u4 Rk
   have ky:=I1.keep XG (by decide) (by decide) (by decide) (by decide)
   have I2:=I1.du (x:=(0,0)) u4 (by rw [JX];exact Kq) (fun b hb=>(Rk b hb).imp id (fun e=>Nat.le_of_eq e.symm))
   have XF:=u4.get XG ky.2.1
   have pF:∀v j,(Af h5 ⟨W,j,none⟩ v)[y]?=h5[y]?:=fun v j=>Cq _ _ _ (Ne.symm ky.1)
   have o5:∃v,AF h5 ⟨W,0+8,none⟩=some v/\Bf h5 ⟨W,0+8,none⟩=false:=by
    have o1:=u4.get I1.row (fun hx=>Ac I1.IL I1.row (by decide) W hx rfl)
    exact⟨_,AD o1 rfl,AS o1⟩
   obtain⟨v5,o5,f5⟩:=o5
   obtain⟨a4,k4,e4⟩:=Kq.val
   repeat(first|refine Bc ?_|refine Az ?_)
   refine CS rfl (by rw [e4];exact⟨nofun,nofun⟩) ⟨_,o5⟩ f5 (fun x=>x) ?_
   have pH:(Af h5 ⟨W,8,none⟩ s4)[y]?=_:=(pF s4 8).trans XF
   change ER _ _ _ _ _ _ _ _ _ _ (Af h5 ⟨W,8,none⟩ s4) _ _
   generalize Af h5 ⟨W,8,none⟩ s4=h6 at I2 pH⊢
   clear I I1 gy XG XF pF Pm Kq u4 Rk ky o5 f5 c8 e4 a4 k4
   obtain⟨aG,kG,eG⟩:=I2.H2.val
   rw [JX]at eG
   subst eG
   have c9:AF h6 ⟨W,9,none⟩=some (.slice aG (Ab (R.log.take k)).length kG):=AD I2.row rfl
   repeat(first|refine AI ?_|refine AH ?_|refine AE ?_|refine AV ?_|refine Bc ?_|refine Az ?_|refine Av rfl (by assumption) ?_)
   refine Fv (sz:=1) (z:=.bool false) (cells:=#[.bool false]) ?_
   have I1:=I2.A5 (AN.push h6 (.cells #[.bool false] 4))
   have XG:=Ao (o:=.cells #[.bool false] 4) pH
   have Pm:=I1.H2
   rw [JX]at Pm
   refine D9 (new:=[.bool false]) rfl rfl rfl rfl Pm (AG _ _) rfl (by simp [OneCell]) (by omega) (by omega) (by rfl) (fun _ _ _ x=>x) ?_
   generalize h6.push (.cells #[.bool false] 4)=h7 at I1 XG Pm⊢
   intro s5 h8 HY u5 MB
   have ky:=I1.keep XG (by decide) (by decide) (by decide) (by decide)
   have I3:=I1.dw (x:=false) u5 (by rw [JX];exact HY) (fun b hb=>(MB b hb).imp id (fun e=>Nat.le_of_eq e.symm))
   have XF:=u5.get XG ky.2.2.1
   have pF:∀v j,(Af h8 ⟨W,j,none⟩ v)[y]?=h8[y]?:=fun v j=>Cq _ _ _ (Ne.symm ky.1)
   have o5:∃v,AF h8 ⟨W,0+9,none⟩=some v/\Bf h8 ⟨W,0+9,none⟩=false:=by
    have o1:=u5.get I1.row (fun hx=>Ac I1.H2 I1.row (by decide) W hx rfl)
    exact⟨_,AD o1 rfl,AS o1⟩
   obtain⟨v5,o5,f5⟩:=o5
   obtain⟨a4,k4,e4⟩:=HY.val
   repeat(first|refine Bc ?_|refine Az ?_)
   refine CS rfl (by rw [e4];exact⟨nofun,nofun⟩) ⟨_,o5⟩ f5 (fun x=>x) ?_
   have jg:(Af h8 ⟨W,9,none⟩ s5)[y]?=_:=(pF s5 9).trans XF
   change ER _ _ _ _ _ _ _ _ _ _ (Af h8 ⟨W,9,none⟩ s5) _ _
   generalize Af h8 ⟨W,9,none⟩ s5=h9 at I3 jg⊢
   clear I2 I1 XG XF pF Pm HY u5 MB ky o5 f5 c9 e4 a4 k4 pH
   have PC:AF h9 ⟨W,10,none⟩=some (.slice aF (Ab (R.log.take k)).length kF):=AD I3.row rfl
   have c2:AF h9 ⟨y,2,none⟩=some (.slice (some ⟨bL,0,none⟩) R.log.length kL):=AD jg rfl
   obtain⟨bL',ea,A0,-⟩:=Bt (FR (Ab R.log)) (m.log.upd I3.up (fun _ _ x=>x)) he
   injection ea with ea
   injection ea with ea
   subst ea
   have w5:AF h9 ⟨bL,0+k*8+5,none⟩=some (.int .i64 e.Dl):=A0 5 _ rfl
   (repeat refine AE ?_)
   refine D7 (fun h'=>AF h' ⟨W,10,none⟩=some (.slice aF (Ab (R.log.take k)).length kF)/\AF h' ⟨y,2,none⟩=some (.slice (some ⟨bL,0,none⟩) R.log.length kL)/\AF h' ⟨bL,0+k*8+5,none⟩=some (.int .i64 e.Dl)) 15 ?_
   have hZ:_/\_/\_:=And.intro PC ⟨c2,w5⟩
   refine AU 0 hZ ?_
   refine AU 1 hZ ?_
   refine BE 2 hZ ?_
   refine Ag 3 hZ ?_
   refine A8 4 (fun _ hz=>hz.1) hZ ?_
   refine Ag 5 hZ ?_
   refine A8 6 (fun _ hz=>hz.2.1) hZ ?_
   refine AU 7 hZ ?_
   refine GP 8 hZ ?_
   refine Ag 9 hZ ?_
   refine A8 10 (fun _ hz=>hz.2.2) hZ ?_
   have up:=AN.push (T:=fun _=>False) h9 (.cells #[.int .i64 e.Dl] 2)
   have ae:_/\_/\_:=And.intro (up.AF hZ.1 (fun x=>x)) ⟨up.AF hZ.2.1 (fun x=>x),up.AF hZ.2.2 (fun x=>x)⟩
   refine CQ (v:=.slice (some ⟨h9.size,0,none⟩) 1 1) (h':=h9.push (.cells #[.int .i64 e.Dl] 2)) 11 rfl (by kernel_rfl) (fun ρ Q X Aa hq=>BW (sz:=1) Aa rfl (by omega) (by omega) rfl rfl hq) ae ?_
   have I1:=I3.A5 up
   have XG:=Ao (o:=.cells #[.int .i64 e.Dl] 2) jg
   have Pm:=I1.fst
   rw [Ca]at Pm
   refine F5 (new:=[.int .i64 e.Dl]) 12 rfl (by kernel_rfl) rfl rfl rfl rfl rfl Pm (AG _ _) rfl (by simp [OneCell]) (by omega) (by omega) rfl (fun _ _ _ x=>x) ?_
   intro s6 NC PG u6 Tc
   have ky:=I1.keep XG (by decide) (by decide) (by decide) (by decide)
   have I4:=I1.dx (x:=e.Dl) u6 (by rw [Ca];exact PG) (fun b hb=>(Tc b hb).imp id (fun e=>Nat.le_of_eq e.symm))
   have XF:=u6.get XG ky.2.2.2.1
   have o1:=u6.get I1.row (fun hx=>Ac I1.fst I1.row (by decide) W hx rfl)
   have nb:¬blk (.slice aF (Ab (R.log.take k)).length kF)=some bL:=fun hx=>by
    have:=(m.log.upd I1.up (fun _ _ x=>x))
    exact Bq this I1.fst (by decide) bL rfl (by rw [hx])
   have hZ:_/\_/\_:=And.intro (AD o1 rfl:AF NC ⟨W,10,none⟩=some (.slice aF (Ab (R.log.take k)).length kF)) ⟨(AD XF rfl:AF NC ⟨y,2,none⟩=some (.slice (some ⟨bL,0,none⟩) R.log.length kL)),u6.AF ae.2.2 nb⟩
   refine⟨hZ,?_⟩
   obtain⟨a4,k4,e4⟩:=PG.val
   refine CQ 13 rfl (by kernel_rfl) (fun ρ Q X Aa hq=>BY (Aa _ _ rfl) hq) hZ ?_
   refine Ag 14 hZ ?_
   refine D6 (h':=Af NC ⟨W,10,none⟩ s6) 15 rfl (by kernel_rfl) rfl rfl rfl (fun ρ Q X Aa hq=>BG (Aa _ _ rfl) (Aa _ _ rfl) (by rw [e4];exact⟨nofun,nofun⟩) ⟨_,hZ.1⟩ (AS o1) (fun x=>x) hq) ?_
   refine BF ?_
   have pH:(Af NC ⟨W,10,none⟩ s6)[y]?=_:=(Cq _ _ _ (Ne.symm ky.1)).trans XF
   repeat(first|refine AH ?_|refine AE ?_|refine Bb ?_|refine AV ?_|refine Aq ?_|refine BR (kd:=.i64) rfl (i64_in (by omega) (by omega)) ?_)
   refine Ah (again (k+1,s4,s5,s6) _ _ (by dsimp only;omega) ⟨rfl,by dsimp only;omega,?_,pH⟩) ⟨rfl,rfl,rfl,trivial⟩
   dsimp only
   rw [b1,j2,EF,List.replicate_succ',List.replicate_succ']
   have:[e.b].map R.v0=[e.Dl]:=by rw [yg j1];rfl
   rw [this]
   exact I4
 ·obtain rfl:k=R.log.length:=by omega
  repeat(first|refine AI ?_|refine AH ?_|refine AE ?_|refine AV ?_|refine Aq ?_|refine Az ?_|refine Df ?_|refine Bg ?_|refine BN ?_|refine Am ?_|refine AQ ?_|refine B8 ?_)
  rw [List.take_length]at I
  exact CL rfl ⟨rfl,W,nv,gv,fv,rfl,I⟩
end
end
section
open Go Go.TJ Go.Conc Go.Proofs
section
variable{Γ:Type}{main:Bool}{S:Cp Γ}{δ:Ix Γ}{R:Rec}{lL lW lY lV sP:Value}{h0 h h1 h':Hp}{W:Nat}{nl:List D5}{gl:List Bool}{fl:List Int}{hl:List D5}{ol:List Int}{nv gv fv hv ov s':Value}{AZ:List Int}{X:Us}{nm:Nat->D5}
theorem rI{i:Nat}:AY Tryz.prog main S 53 #[ptr W,.int .i64 i] h δ (CJ fun v h' AW=>AW=δ/\∃x,v=ptr x/\x=h.size/\h'[x]?=some (GD W i false 0)/\AN (fun _=>False) h h'):=by
 refine CK (n:=9) ?_
 repeat(first|refine AI ?_|refine AH ?_|refine AE ?_|refine AV ?_|refine Aq ?_)
 refine Ep (cells:=#[ptr W,.int .i64 i,.bool false,.int .i64 0]) ?_
 repeat(first|refine AE ?_|refine Aq ?_|refine DO ?_|refine AQ ?_)
 exact CL rfl ⟨rfl,_,rfl,rfl,AG _ _,AN.push _ _⟩
end
end
section
open Go Go.TJ Go.Conc Go.Proofs
theorem Jp{Γ:Type}{P:Program}{S:Cp Γ}{h:Hp}{δ:Ix Γ}{ty:TypeId}{pos:String}{af:Array Edge}{g:Option (Nat×Bool)}{t e C9 m:Nat}{z:Value}{x y:Operand}[PV:Cw P e 1 C9 z][hu:Es P t (.slice e)]{ρ:Operand->Value}{dst:Option Nat}{Q:Next->Hp->Ix Γ->Prop}{X:Value->Hp->Ix Γ->Prop}
  (hx:ρ x= .int .i64 m) (hy:ρ y= .int .i64 m) (Nz:C9*m<=140737488355328) (hm:m<1000000000000) (hz:z.cells=#[z])
  (hq:Q (.value (.slice (some ⟨h.size,0,none⟩) m m)) (h.push (.cells (List.replicate m z).toArray e)) δ):Aj P S (execOp ρ ⟨dst,.makeSlice t x y,ty,pos,af,g⟩) h δ Q X:=by
 show Aj P S (Instr.makeSlice t (ρ x) (ρ y) >>= fun v=>pure (.value v)) h δ Q X
 rw [hx,hy]
 refine AM _ _ _ _ _ _ ?_
 obtain⟨inf,NA,W9,fB,Xb⟩:=PV.get
 have wP:IntKind.i64.wrap ((m:Int))=m:=i64_in (by omega) (by omega)
 unfold Instr.makeSlice
 show Aj P S (underlying t >>= _) h δ _ X
 refine An hu.out ?_
 refine A1 ?_
 refine A1 ?_
 refine Em NA ?_
 simp only [wP,fB]
 have hc:¬((C9:Int)*m > 2 ^ 48):=by
  have:=Int.ofNat_le.mpr Nz
  rw [Int.natCast_mul]at this
  have e:(2:Int) ^ 48=281474976710656:=by decide
  rw [e]
  omega
 rw [if_neg (by rw [Gj (by omega:¬((m:Int)<0)),Gj hc,Gj (by omega:¬((m:Int) > m))];decide)]
 have Pz:∀{Q':Unit->Hp->Ix Γ->Prop},Q' () h δ->Aj P S (askRoom (((m:Int)).toNat*C9)) h δ Q' X:=fun {Q'} Eh=>by
  unfold askRoom
  split
  ·exact⟨nofun,nofun,Eh⟩
  ·exact Eh
 refine AM _ _ _ _ _ _ (Pz ?_)
 refine Cb NA ?_
 rw [W9]
 have A0:∀zs:Array Value,(m=0\/zs=#[z])->Array.map (fun x=>zs[x % zs.size]!) (Array.range (((m:Int)).toNat*1))=(List.replicate m z).toArray:=fun zs wE=>by
  rcases wE with rfl|rfl
  ·simp
  ·apply Array.ext'
   simp
   apply List.ext_getElem
   ·simp
   ·intro i h1 h2;simp [Nat.mod_one]
 split
 ·refine A1 ?_
  rename_i h0
  refine⟨Gw,?_⟩
  rw [A0 _ (.inl (by omega))]
  exact hq
 ·refine Cf NA Xb ?_
  refine A1 ?_
  refine⟨Gw,?_⟩
  rw [A0 _ (.inr hz)]
  exact hq
theorem Yu{Γ:Type}{P:Program}{main:Bool}{S:Cp Γ}{f:FuncId}{n:Nat}{ops:Array Oper}{l:List Oper}{k:List Item}{env:Env}{ds:List Deferred}{h:Hp}{δ:Ix Γ}{R:Cv Γ}{d:Nat}{ty:TypeId}{pos:String}{af:Array Edge}{g:Option (Nat×Bool)}{t e C9 m:Nat}{z:Value}{x y:Operand}[PV:Cw P e 1 C9 z][hu:Es P t (.slice e)](hw:Al ops env g=some true)(hd:Nat.blt d n=true)(hx:ev env x=some (.int .i64 m))(hy:ev env y=some (.int .i64 m))
  (Nz:C9*m<=140737488355328) (hm:m<1000000000000) (hz:z.cells=#[z])
  (hn:ER P main S f n ops l k ((d,.slice (some ⟨h.size,0,none⟩) m m)::env) ds (h.push (.cells (List.replicate m z).toArray e)) δ R):ER P main S f n ops (⟨some d,.makeSlice t x y,ty,pos,af,g⟩::l) k env ds h δ R:=
 DW hw hd (fun ρ Q X Aa hq=>Jp (Aa _ _ hx) (Aa _ _ hy) Nz hm hz hq) hn
theorem Ia:∀{o:List It} {K:Fs},(B2 o K).t.length<=(JL o).length
 | [],K=>CY _
 | .tl e::o,K=>Nat.succ_le_succ (Ia (o:=o))
 | .kn q s::o,K=>Ia (o:=o)
 | .ak q s::o,K=>by
  unfold B2
  split
  ·exact Ia (o:=o)
  ·exact Bv _
def PM(b:RW)(tv fv:Value)(wait Fx:Bool):List Value:=[ptr b.W,b.V,.int .i64 b.c.nT,tv,AK,AK,AK,AK,AK,AK,AK,.int .i64 b.c.nC,.int .i64 0,.int .i64 b.c.nK,.int .i64 0,fv,.bool wait,.bool Fx]
abbrev JU(b:RW)(tv fv:Value)(wait Fx:Bool):Obj:=.cells (PM b tv fv wait Fx).toArray 83 (0,0)
structure Qy(b:RW)(K:Fs)(h:Hp):Prop where
 up:AN (fun _=>False) b.h0 h
 nW:b.h0.size<=b.Wd
 row:∃(tv fv:Value) (wait Fx:Bool),h[b.Wd]?=some (JU b tv fv wait Fx)/\AR h fv 131 16 K.length (K.flatMap E0)/\(∀y,blk fv=some y->b.h0.size<=y)/\∃va vl vc,tv= .slice va vl vc
 all:E6 b.R b.nm b.lL b.lW b.lY b.lV b.h0 b.W b.s h
 Jv:R1 b.fs K
structure iC(b:RW)(out:Nat->List It)(Dg:Nat->PA):Prop where
 po:Hq b.c.nT b.fs out
 goes:∀i,i<b.c.nT->Goes i (Rp b.c.rq b.F (Nt b.c.sc b.c.nC b.c.nK i)) (Bm i b.R.log) (out i) (Rp b.c.rq b.F (Dg i))
 pf:∀i,i<b.c.nT->PF b.R i (Rp b.c.rq b.F (Dg i))
 tl:∀i,(JL (out i)).length<=3000000
 uy:b.fs.length<=4095
 th:b.c.nT<=b.c.sc.length
section
variable{Γ:Type}{main:Bool}{S:Cp Γ}{δ:Ix Γ}{b:RW}{h h':Hp}{out:Nat->List It}{Dg:Nat->PA}
structure Qz(b:RW)(out:Nat->List It)(K:Fs)(TB i:Nat)(g:RG)(h:Hp):Prop where
 mem:PD b TB K.length g h
 all:E6 b.R b.nm b.lL b.lW b.lY b.lV b.h0 b.W b.s h
 eK:g.K=pk out K i
 Jv:R1 b.fs g.K
 n0:K.length<=g.K.length
 T:∀j,j<i->(g.T j).map TE.p=(B2 (out j) (pk out K j)).t
 T0:∀j,i<=j->g.T j=[]
 w:g.wait=true↔∃j,j<i/\(B2 (out j) (pk out K j)).w=true
theorem cx{tv Vr fv:Value}{wait Fx:Bool}:(PM b tv fv wait Fx).toArray.setIfInBounds 3 Vr=(PM b Vr fv wait Fx).toArray:=by simp [PM]
theorem j7{tv fv:Value}{wait Fx w':Bool}:(PM b tv fv wait Fx).toArray.setIfInBounds 16 (.bool w')=(PM b tv fv w' Fx).toArray:=by simp [PM]
theorem j8{tv fv:Value}{wait Fx w':Bool}:(PM b tv fv wait Fx).toArray.setIfInBounds 17 (.bool w')=(PM b tv fv wait w').toArray:=by simp [PM]
theorem Qy.set{K:Fs}{tv fv Vr:Value}{wait Fx w' g':Bool}(up:AN (fun _=>False) b.h0 h)(nW:b.h0.size<=b.Wd)(row:h[b.Wd]?=some (JU b tv fv wait Fx))(IN:AR h fv 131 16 K.length (K.flatMap E0))(all:E6 b.R b.nm b.lL b.lW b.lY b.lV b.h0 b.W b.s h){h':Hp}(e:h'=h.setIfInBounds b.Wd (JU b Vr fv w' g')):
  AN (fun _=>False) b.h0 h'/\h'[b.Wd]?=some (JU b Vr fv w' g')/\AR h' fv 131 16 K.length (K.flatMap E0)/\E6 b.R b.nm b.lL b.lW b.lY b.lV b.h0 b.W b.s h':=by
 subst e
 have u:AN (fun z=>z=b.Wd) h (h.setIfInBounds b.Wd (JU b Vr fv w' g')):=AN.set _ _ _ rfl
 exact⟨up.over u (fun z hz=>by rw [hz];exact nW),AJ row,IN.upd u fun z hz e=>Ac IN row (by decide) z hz e,all.JO u fun y hy=>by subst hy;exact⟨nW,fun _=>⟨_,_,row,by decide⟩⟩⟩
theorem Qz.next{K:Fs}{TB i x hd:Nat}{g g':RG}{h':Hp}(I:Qz b out K TB i g h)(t:j4 b TB K.length x i hd (B2 (out i) g.K) g g' h'):Qz b out K TB (i+1) g' h':=by
 have hK:=I.eK
 refine⟨t.mem,t.all,?_,t.Jv,t.n0,fun j hj=>?_,fun j hj=>?_,?_⟩
 ·rw [t.K,hK];rfl
 ·by_cases e:j=i
  ·subst e;rw [t.T,hK]
  ·rw [t.Mw j e];exact I.T j (by omega)
 ·rw [t.Mw j (by omega)];exact I.T0 j (by omega)
 ·rw [t.wait,Bool.or_eq_true,I.w,hK]
  constructor
  ·rintro(⟨j,hj,hw⟩|hw)
   ·exact⟨j,by omega,hw⟩
   ·exact⟨i,by omega,hw⟩
  ·rintro⟨j,hj,hw⟩
   by_cases e:j=i
   ·subst e;exact .inr hw
   ·exact .inl ⟨j,by omega,hw⟩
theorem Ze(ok:b.Ok)(D:iC b out Dg)(P:Qy b [] h):
  AY Tryz.prog main (Fb (Γ:=Γ)) 26 #[ptr b.Wd] h δ (CJ fun v h' AW=>AW=δ/\v= .bool true/\∃(TB n0:Nat) (g:RG),PD b TB n0 g h'/\∀j,j<b.c.nT->(g.T j).map TE.p=JL (out j)):=by
 have wy:=ok.nT
 have AFa:=D.uy
 refine CK (n:=90) ?_
 repeat(first|refine AI ?_|refine AH ?_|refine AE ?_|refine Ak ?_|refine Aq ?_)
 refine B1 (fun q:Nat×Fs=>[(3,.int .i64 q.1),(0,ptr b.Wd)]) (fun q h' AW=>AW=δ/\q.1<=q.2.length/\Qy b q.2 h') (fun q=>4096-q.1) (0,[]) ⟨rfl,rfl,trivial⟩ ⟨rfl,CY _,P⟩ ?_
 clear P
 rintro⟨q,K⟩ h1 H0 ⟨DL,hq,P⟩ again
 dsimp only at DL hq P again⊢
 subst DL
 have hKl:=P.Jv.len
 obtain⟨tv,fv,wait,Fx,row,IN,uO,va,vl,vc,W5⟩:=P.row
 have pR:AF h1 ⟨b.Wd,16,none⟩=some (.bool wait):=AD row rfl
 have e1:Af h1 ⟨b.Wd,16,none⟩ (.bool false)=h1.setIfInBounds b.Wd (JU b tv fv false Fx):=by rw [As row,j7]
 obtain⟨mO,NG,jo,X4⟩:=Qy.set P.up P.nW row IN P.all e1
 have nW:=P.nW
 have Jv:=P.Jv
 clear e1 P
 repeat(first|refine AI ?_|refine AH ?_|refine AE ?_|refine Ar ?_|refine Ak ?_|refine AV ?_|refine Bc ?_|refine Az ?_|refine Bs ?_|refine BU ?_)
 refine CS rfl ⟨nofun,nofun⟩ ⟨_,pR⟩ (AS row) (fun x=>x) ?_
 clear pR row IN
 generalize Af h1 ⟨b.Wd,16,none⟩ (.bool false)=h2 at mO NG jo X4⊢
 have c17:AF h2 ⟨b.Wd,17,none⟩=some (.bool Fx):=AD NG rfl
 have e2:Af h2 ⟨b.Wd,17,none⟩ (.bool false)=h2.setIfInBounds b.Wd (JU b tv fv false false):=by rw [As NG,j8]
 obtain⟨ef,FH,jm,T2⟩:=Qy.set mO nW NG jo X4 e2
 clear e2
 repeat(first|refine AI ?_|refine AH ?_|refine AE ?_|refine AV ?_|refine Bc ?_|refine Az ?_)
 refine CS rfl ⟨nofun,nofun⟩ ⟨_,c17⟩ (AS NG) (fun x=>x) ?_
 clear c17 NG jo mO X4
 generalize Af h2 ⟨b.Wd,17,none⟩ (.bool false)=h3 at ef FH jm T2⊢
 have c0:AF h3 ⟨b.Wd,0,none⟩=some (ptr b.W):=AD FH rfl
 have c2:AF h3 ⟨b.Wd,2,none⟩=some (.int .i64 b.c.nT):=AD FH rfl
 obtain⟨qq,IW,NW⟩:=id T2
 repeat(first|refine AI ?_|refine AE ?_)
 refine BO (fun h'=>AF h' ⟨b.Wd,0,none⟩=some (ptr b.W)/\AF h' ⟨b.Wd,2,none⟩=some (.int .i64 b.c.nT)) ?_
 have hZ:=And.intro c0 c2
 refine AU 0 hZ ?_
 refine BE 1 hZ ?_
 refine Ag 2 hZ ?_
 refine A8 3 (fun _ hz=>hz.1) hZ ?_
 refine AU 4 hZ ?_
 refine BE 5 hZ ?_
 refine Ag 6 hZ ?_
 refine A8 7 (fun _ hz=>hz.2) hZ ?_
 refine FE 8 rfl (by kernel_rfl) rfl rfl rfl rfl rfl rfl (UQ ok.C.ok ok.C.m IW) hZ ?_
 refine Dp 9 hZ ?_
 refine BF ?_
 clear hZ c0 c2 IW NW qq
 repeat(first|refine AI ?_|refine AH ?_|refine AV ?_)
 refine Yu (m:=b.c.nT) (z:=AK) rfl rfl rfl rfl (by omega) (by omega) rfl ?_
 obtain⟨TB,ub⟩:∃TB,TB=h3.size:=⟨_,rfl⟩
 have up:=AN.push (T:=fun _=>False) h3 (.cells (List.replicate b.c.nT AK).toArray 73)
 have Qp:=up.get FH (fun x=>x)
 have jl:=jm.upd up (fun _ _ x=>x)
 have Qx:=T2.A5 up
 have ed:=ef.trans up
 have pJ:(h3.push (.cells (List.replicate b.c.nT AK).toArray 73))[TB]?=some (.cells (List.replicate b.c.nT AK).toArray 73 (0,0)):=by rw [ub];exact AG _ _
 have zR:b.h0.size<=TB:=by have:=ef.size;omega
 have B7:TB≠b.Wd:=fun e=>by have:=Ap FH;omega
 rw [<-ub]
 change ER _ _ _ _ _ _ _ _ _ _ (h3.push (.cells (List.replicate b.c.nT AK).toArray 73)) _ _
 generalize h3.push (.cells (List.replicate b.c.nT AK).toArray 73)=h4 at Qp jl Qx ed pJ⊢
 clear ub up FH jm T2 ef
 have c3:AF h4 ⟨b.Wd,3,none⟩=some tv:=AD Qp rfl
 have e3:Af h4 ⟨b.Wd,3,none⟩ (.slice (some ⟨TB,0,none⟩) b.c.nT b.c.nT)=h4.setIfInBounds b.Wd (JU b (.slice (some ⟨TB,0,none⟩) b.c.nT b.c.nT) fv false false):=by rw [As Qp,cx]
 obtain⟨vP,jF,jk,jw⟩:=Qy.set ed nW Qp jl Qx e3
 have jj:(Af h4 ⟨b.Wd,3,none⟩ (.slice (some ⟨TB,0,none⟩) b.c.nT b.c.nT))[TB]?=some (.cells (List.replicate b.c.nT AK).toArray 73 (0,0)):=by rw [e3,AX _ (Ne.symm B7)];exact pJ
 clear e3
 repeat(first|refine Bc ?_|refine Az ?_)
 refine CS rfl (by simp [OneCell]) ⟨_,c3⟩ (AS Qp) (fun x=>x) ?_
 clear c3 Qp jl Qx ed pJ
 generalize Af h4 ⟨b.Wd,3,none⟩ (.slice (some ⟨TB,0,none⟩) b.c.nT b.c.nT)=h5 at vP jF jk jw jj⊢
 have qg:List.replicate b.c.nT AK=(List.range b.c.nT).map fun _=>AK:=by
  rw [List.map_const',List.length_range]
 have I0:Qz b out K TB 0 ⟨K,fv,fun _=>[],fun _=>AK,[],false⟩ h5:=by
  refine⟨⟨vP,?_,jk,by rw [jj,qg],fun j _=>AR.nil,fun _ _ _ _ _ e=>(by cases e),fun _ h=>(by cases h),fun _ _ h=>(by cases h),nW,zR,uO,fun _ _ _ e=>(by cases e)⟩,jw,rfl,Jv,CY _,fun j hj=>absurd hj (QB _),fun _ _=>rfl,⟨fun e=>(by cases e),fun⟨j,hj,_⟩=>absurd hj (QB _)⟩⟩
  rw [jF]
  show some (JU b _ fv false false)=some (Ns b TB fv false (decide (K.length<K.length)))
  rw [Gj (Nat.lt_irrefl _)]
  rfl
 clear vP jF jk jw jj qg uO W5
 repeat(first|refine AI ?_|refine AH ?_|refine AE ?_|refine Aq ?_)
 refine F3 (fun _:RG=>[(3,.int .i64 q),(0,ptr b.Wd)]) (fun g h' AW=>AW=H0/\Qz b out K TB b.c.nT g h') (fun _ key=>?_) ?_
 ·(repeat refine Ak ?_)
  refine B1 (fun r:Nat×RG=>[(5,.int .i64 r.1),(4,.int .i64 b.c.nT),(3,.int .i64 q),(0,ptr b.Wd)]) (fun r h' AW=>AW=H0/\r.1<=b.c.nT/\Qz b out K TB r.1 r.2 h') (fun r=>b.c.nT-r.1) (0,⟨K,fv,fun _=>[],fun _=>AK,[],false⟩) ⟨rfl,rfl,rfl,rfl,trivial⟩ ⟨rfl,Bv _,I0⟩ ?_
  clear I0
  rintro⟨i,g⟩ h6 TW ⟨DL,hi,I⟩ Jb
  dsimp only at DL hi I Jb⊢
  subst DL
  by_cases CO:i<b.c.nT
  case neg=>
   obtain rfl:i=b.c.nT:=by omega
   repeat(first|refine AI ?_|refine AH ?_|refine AE ?_|refine AV ?_|refine Bg ?_|refine Am ?_|refine B8 ?_)
   exact Ah (key g _ _ ⟨rfl,I⟩) ⟨rfl,rfl,trivial⟩
  have c0:AF h6 ⟨b.Wd,0,none⟩=some (ptr b.W):=AD I.mem.row rfl
  repeat(first|refine AI ?_|refine AH ?_|refine AE ?_|refine Ar ?_|refine Ak ?_|refine AV ?_|refine Bc ?_|refine Az ?_|refine Bs ?_|refine BU ?_|refine Av rfl (by assumption) ?_)
  refine BV rfl rI ?_
  rintro _ h7 Nl ⟨rfl,x,rfl,tj,gx,u7⟩
  have x0:b.h0.size<=x:=by have:=I.mem.up.size;omega
  replace I:Qz b out K TB i g h7:=⟨I.mem.A5 u7,I.all.A5 u7,I.eK,I.Jv,I.n0,I.T,I.T0,I.w⟩
  clear tj c0 u7
  (repeat refine AV ?_)
  refine Ep (cells:=#[ptr x,.int .i64 (i:Int),.int .i64 0,AK]) ?_
  refine DO ?_
  obtain⟨hd,Rt⟩:∃y,y=h7.size:=⟨_,rfl⟩
  have u8:=AN.push (T:=fun _=>False) h7 (PR x i)
  replace I:Qz b out K TB i g (h7.push (PR x i)):=⟨I.mem.A5 u8,I.all.A5 u8,I.eK,I.Jv,I.n0,I.T,I.T0,I.w⟩
  have gx8:=u8.get gx (fun z=>z)
  have ghd:(h7.push (PR x i))[hd]?=some (PR x i):=by rw [Rt];exact AG _ _
  rw [<-Rt]
  clear u8 Rt gx
  change ER _ _ _ _ _ _ _ _ _ _ (h7.push (PR x i)) _ _
  generalize h7.push (PR x i)=h8 at I gx8 ghd⊢
  have hb:=Ui (main:=main) (Γ:=Γ) (δ:=Nl) (Bh:=B2 (out i) g.K) ok (D.pf i CO) D.th CO I.mem I.all gx8 x0 ghd (I.T0 i (CY _)) I.Jv I.n0 (D.goes i CO) (D.po.td i) rfl (Dt Ia (D.tl i))
  repeat(first|refine AI ?_|refine AH ?_|refine AE ?_|refine AV ?_|refine Aq ?_)
  refine BV rfl hb ?_
  rintro _ h9 Vp ⟨rfl,rfl,Mx,g',t9⟩
  have I9:=I.next t9
  cases hw:(B2 (out i) g.K).w with
  | true=>
   repeat(first|refine AH ?_|refine AE ?_|refine Ar ?_|refine Bb ?_|refine AV ?_|refine Aq ?_|refine BR (kd:=.i64) rfl (i64_in (by omega) (by omega)) ?_|refine Am ?_)
   exact Ah (Jb (i+1,g') _ _ (by dsimp only;omega) ⟨rfl,by dsimp only;omega,I9⟩) ⟨rfl,rfl,rfl,rfl,trivial⟩
  | false=>
   obtain⟨ob,t,z1,z2,z3,z4⟩:=t9.fin hw
   have chd:AF h9 ⟨hd,0,none⟩=some (ptr x):=AD t9.hd rfl
   repeat(first|refine AH ?_|refine AE ?_|refine AV ?_|refine Bc ?_|refine Az ?_|refine BU ?_|refine Av rfl (by assumption) ?_)
   refine BV rfl (lG ok.C I9.all z1 x0 z2 z3 z4) ?_
   rintro _ Gq Xn ⟨rfl,sQ,iI⟩
   have I10:Qz b out K TB (i+1) g' Gq:=⟨I9.mem.JO iI fun y hy=>by subst hy;exact⟨x0,fun _=>⟨_,_,z1,by decide⟩⟩,sQ,I9.eK,I9.Jv,I9.n0,I9.T,I9.T0,I9.w⟩
   repeat(first|refine AH ?_|refine AE ?_|refine Bb ?_|refine AV ?_|refine Aq ?_|refine BR (kd:=.i64) rfl (i64_in (by omega) (by omega)) ?_)
   exact Ah (Jb (i+1,g') _ _ (by dsimp only;omega) ⟨rfl,by dsimp only;omega,I10⟩) ⟨rfl,rfl,rfl,rfl,trivial⟩
 clear I0
 rintro g h6 TW ⟨rfl,I⟩
 have d16:AF h6 ⟨b.Wd,16,none⟩=some (.bool g.wait):=AD I.mem.row rfl
 cases fD:g.wait with
 | false=>
  rw [fD]at d16
  have c0:AF h6 ⟨b.Wd,0,none⟩=some (ptr b.W):=AD I.mem.row rfl
  obtain⟨qq,IW,-⟩:=I.all
  have cB:AF h6 ⟨b.W,7,none⟩=some (.bool false):=AD IW.row rfl
  repeat(first|refine AI ?_|refine AH ?_|refine AE ?_|refine AV ?_|refine Aq ?_|refine Bc ?_|refine Az ?_|refine CW ?_|refine B9 ?_|refine Bl ?_|refine BU ?_|refine AQ ?_|refine Av rfl (by assumption) ?_)
  refine CL rfl ⟨rfl,rfl,TB,_,g,I.mem,fun j hj=>?_⟩
  rw [I.T j hj]
  refine Ib ?_
  cases hw:(B2 (out j) (pk out K j)).w with
  | false=>rfl
  | true=>rw [I.w.2 ⟨j,hj,hw⟩]at fD;cases fD
 | true=>
  rw [fD]at d16
  obtain⟨j,hj,hw⟩:=I.w.1 fD
  have rh:K.length<g.K.length:=by
   rw [I.eK]
   exact Uj D.po hw
  have hgl:=I.Jv.len
  have d17:AF h6 ⟨b.Wd,17,none⟩=some (.bool true):=by
   have:=AD (off:=17) I.mem.row rfl
   rw [this,H9 rh];rfl
  have c0:AF h6 ⟨b.Wd,0,none⟩=some (ptr b.W):=AD I.mem.row rfl
  obtain⟨qq,IW,-⟩:=id I.all
  have cB:AF h6 ⟨b.W,7,none⟩=some (.bool false):=AD IW.row rfl
  repeat(first|refine AI ?_|refine AH ?_|refine AE ?_|refine Ar ?_|refine Bb ?_|refine AV ?_|refine Aq ?_|refine Bc ?_|refine Az ?_|refine B9 ?_|refine Bd ?_|refine BR (kd:=.i64) rfl (i64_in (by omega) (by omega)) ?_|refine Am ?_|refine Av rfl (by assumption) ?_)
  exact Ah (again (q+1,g.K) _ _ (by dsimp only;omega) ⟨rfl,by dsimp only;omega,⟨I.mem.up,nW,⟨_,_,_,_,I.mem.row,I.mem.IN,I.mem.nF,_,_,_,rfl⟩,I.all,I.Jv⟩⟩) ⟨rfl,rfl,trivial⟩
end
end
section
open Go Go.TJ Go.Proofs
instance:SV Tryz.prog:=⟨by kernel_rfl⟩
structure KM(h:Hp)(c:Nat)(B:Nat->Nat)(BL:Nat->Int)(FW:Nat->Value):Prop where
 obj:∃cs,h[c]?=some (.cells cs 96 (0,0))
 Gs:AF h ⟨c,0,none⟩=some (.pointer (some ⟨B 0,0,none⟩))
 Gg:AF h ⟨c,1,none⟩=some (.pointer (some ⟨B 1,0,none⟩))
 JM:∀i,i<16->AF h ⟨c,2+i*3,none⟩=some (.pointer (some ⟨B (2+2*i),0,none⟩))
 Tg:∀i,i<16->AF h ⟨c,2+i*3+1,none⟩=some (.pointer (some ⟨B (3+2*i),0,none⟩))
 pf:∀i,i<16->AF h ⟨c,2+i*3+2,none⟩=some (FW i)
 cell:∀j,j<34->h[B j]?=some (Ay (BL j))
 inj:∀i j,i<34->j<34->B i=B j->i=j
 fM:∀j,j<34->B j≠c
def Own(c:Nat)(B:Nat->Nat)(b:Nat):Prop:=b=c\/∃j,j<34/\b=B j
theorem KM.upd{h h':Hp}{c:Nat}{B:Nat->Nat}{BL:Nat->Int}{FW:Nat->Value}(k:KM h c B BL FW){T:Nat->Prop}(u:AN T h h')(hT:∀b,T b->¬Own c B b):KM h' c B BL FW:=by
 have hc:¬T c:=fun x=>hT _ x (.inl rfl)
 have hB:∀j,j<34->¬T (B j):=fun j hj x=>hT _ x (.inr ⟨j,hj,rfl⟩)
 obtain⟨cs,Ea⟩:=k.obj
 exact⟨⟨cs,u.get Ea hc⟩,u.AF k.Gs hc,u.AF k.Gg hc,fun i hi=>u.AF (k.JM i hi) hc,fun i hi=>u.AF (k.Tg i hi) hc,fun i hi=>u.AF (k.pf i hi) hc,fun j hj=>u.get (k.cell j hj) (hB j hj),k.inj,k.fM⟩
theorem KM.set{h:Hp}{c:Nat}{B:Nat->Nat}{BL:Nat->Int}{FW:Nat->Value}(k:KM h c B BL FW){j:Nat}(hj:j<34)(x:Int):KM (h.setIfInBounds (B j) (Ay x)) c B (up BL j x) FW:=by
 have hc:B j≠c:=k.fM j hj
 obtain⟨cs,Ea⟩:=k.obj
 refine⟨⟨cs,by rw [AX _ hc];exact Ea⟩,by rw [CB _ hc];exact k.Gs,by rw [CB _ hc];exact k.Gg,fun i hi=>by rw [CB _ hc];exact k.JM i hi,fun i hi=>by rw [CB _ hc];exact k.Tg i hi,
  fun i hi=>by rw [CB _ hc];exact k.pf i hi,fun i hi=>?_,k.inj,k.fM⟩
 by_cases e:i=j
 ·subst e;rw [VS];exact AJ (k.cell i hi)
 ·rw [YD _ _ e,AX _ (fun x=>e (k.inj _ _ hi hj x.symm))]
  exact k.cell i hi
theorem KM.jE{h:Hp}{c:Nat}{B:Nat->Nat}{BL:Nat->Int}{FW:Nat->Value}(k:KM h c B BL FW){i:Nat}(hi:i<16)(v:Value):KM (Af h ⟨c,2+i*3+2,none⟩ v) c B BL (up FW i v):=by
 have hc:=k.pf i hi
 obtain⟨cs,Ea⟩:=k.obj
 have o:∀q,q≠2+i*3+2->AF (Af h ⟨c,2+i*3+2,none⟩ v) ⟨c,q,none⟩=AF h ⟨c,q,none⟩:=fun q hq=>DK _ _ _ _ (by simp;omega) ⟨_,hc⟩
 refine⟨⟨_,Fp h ⟨c,2+i*3+2,none⟩ v Ea rfl⟩,by rw [o _ (by omega)];exact k.Gs,by rw [o _ (by omega)];exact k.Gg,fun q hq=>by rw [o _ (by omega)];exact k.JM q hq,fun q hq=>by rw [o _ (by omega)];exact k.Tg q hq,
  fun q hq=>?_,fun j hj=>?_,k.inj,k.fM⟩
 ·by_cases e:q=i
  ·subst e;rw [VS];exact EC hc
  ·rw [YD _ _ e,o _ (by omega)];exact k.pf q hq
 ·have:(⟨c,2+i*3+2,none⟩:Addr).block≠B j:=fun e=>k.fM j hj e.symm
  rw [Cq _ _ _ this];exact k.cell j hj
theorem KM.PW{h:Hp}{c:Nat}{B:Nat->Nat}{BL:Nat->Int}{FW:Nat->Value}(k:KM h c B BL FW)(o:Nat):Bf h ⟨c,o,none⟩=false:=by
 obtain⟨cs,Ea⟩:=k.obj;exact AS Ea
section
variable{Γ:Type}{main:Bool}{h:Hp}{δ:Ix Γ}{c:Nat}{B:Nat->Nat}{BL:Nat->Int}{FW:Nat->Value}
theorem Nd{a:Addr}(hc:AF h ⟨c,0,none⟩=some (.pointer (some a))):AY Tryz.prog main Fb 29 #[.pointer (some ⟨c,0,none⟩)] h δ (CJ (Gb (.bool true) h δ)):=by
 refine CK (n:=12) ?_
 repeat(first|refine AI ?_|refine AH ?_|refine AE ?_|refine AV ?_|refine Aq ?_|refine Bc ?_|refine Az ?_|refine Lm rfl rfl rfl rfl rfl ?_)
 refine Av rfl hc ?_
 repeat(first|refine AE ?_|refine Aq ?_|refine Lm rfl rfl rfl rfl rfl ?_|refine Bl ?_|refine AQ ?_)
 exact DQ El
theorem kX(k:KM h c B BL FW):AY Tryz.prog main Fb 18 #[.pointer (some ⟨c,0,none⟩),.pointer none] h δ (CJ (Gb (.int .i64 (BL 0)) h δ)):=by
 refine CK (n:=14) ?_
 repeat(first|refine AI ?_|refine AH ?_|refine AE ?_|refine AV ?_|refine Aq ?_)
 refine Bx rfl (Nd k.Gs) ?_
 repeat(first|refine AI ?_|refine AH ?_|refine AE ?_|refine Ar ?_|refine AV ?_|refine Bc ?_|refine Az ?_|refine B9 ?_|refine Am ?_)
 refine Av rfl k.Gs ?_
 (repeat refine AV ?_)
 refine Bx rfl (SJ (k.cell 0 (by omega))) ?_
 repeat(first|refine AE ?_|refine Aq ?_|refine AQ ?_)
 exact DQ El
theorem Sd(k:KM h c B BL FW){s:Nat}{r:Int}(hs:s<16)(hr:0<=r)(hm:r.tmod 4=2):AY Tryz.prog main Fb 16 #[.pointer (some ⟨c,0,none⟩),.pointer none,.agg #[.int .i64 s,.int .i64 r]] h δ
  (CJ fun v h' AW=>AW=δ/\((BL (2+2*s)≠r/\v= .bool false/\AN (fun _=>False) h h')\/(BL (2+2*s)=r/\v= .bool true/\AN (Own c B) h h'/\(r<=4611686018427387904->KM h' c B (up BL (2+2*s) (r+2)) FW)))):=by
 have hb:=AG h (.cells #[.int .i64 s,.int .i64 r] 51)
 have hu:AN (fun _=>False) h (h.push (.cells #[.int .i64 s,.int .i64 r] 51)):=AN.push _ _
 have k1:=k.upd hu (fun _ x=>x.elim)
 have Cg:B (2+2*s)≠h.size:=fun e=>by have:=Ap (k.cell (2+2*s) (by omega));omega
 have e0:AF (h.push (.cells #[.int .i64 s,.int .i64 r] 51)) ⟨h.size,0,none⟩=some (.int .i64 s):=AD hb rfl
 have e1:AF (h.push (.cells #[.int .i64 s,.int .i64 r] 51)) ⟨h.size,1,none⟩=some (.int .i64 r):=AD hb rfl
 refine CK (n:=47) ?_
 repeat(first|refine AI ?_|refine AH ?_|refine AE ?_|refine AV ?_|refine Aq ?_|refine DO ?_)
 refine Bx rfl (Nd (A7 k.Gs)) ?_
 repeat(first|refine AI ?_|refine AE ?_|refine Ar ?_|refine AV ?_|refine Az ?_|refine Df ?_|refine B9 ?_|refine Bd ?_|refine Bg ?_|refine JN (kd:=.i64) ?_|refine Am ?_)
 refine BO (fun h'=>AF h' ⟨h.size,0,none⟩=some (.int .i64 s)/\AF h' ⟨h.size,1,none⟩=some (.int .i64 r)/\AF h' ⟨c,2+s*3,none⟩=some (.pointer (some ⟨B (2+2*s),0,none⟩))) ?_
 have hZ:=And.intro e0 (And.intro e1 (k1.JM s hs))
 refine AU 0 hZ ?_
 refine Ag 1 hZ ?_
 refine A8 2 (fun _ hz=>hz.1) hZ ?_
 refine BE 3 hZ ?_
 refine Ag 4 hZ ?_
 refine MN 5 rfl (by kernel_rfl) rfl rfl rfl rfl rfl (by omega) (by omega) hZ ?_
 refine Ag 6 hZ ?_
 refine A8 7 (fun _ hz=>hz.2.2) hZ ?_
 refine AU 8 hZ ?_
 refine Ag 9 hZ ?_
 refine A8 10 (fun _ hz=>hz.2.1) hZ ?_
 refine Ag 11 hZ ?_
 refine A8 12 (fun _ hz=>hz.2.1) hZ ?_
 (first|refine EW (kd:=.i64) 13 rfl (by kernel_rfl) rfl rfl rfl rfl rfl rfl hZ ?_|refine Kd (kd:=.i64) 13 rfl (by kernel_rfl) rfl rfl rfl rfl rfl rfl hZ ?_)
 (first|refine EW (kd:=.i64) 14 rfl (by kernel_rfl) rfl rfl rfl rfl rfl rfl hZ ?_|refine Kd (kd:=.i64) 14 rfl (by kernel_rfl) rfl rfl rfl rfl rfl rfl hZ ?_)
 by_cases hv:BL (2+2*s)=r
 ·refine FE 15 rfl (by kernel_rfl) rfl rfl rfl rfl rfl rfl (L2 (v:=r) (hv▸k1.cell (2+2*s) (by omega)) (fun _ x=>x)) ⟨?_,?_,?_⟩ ?_
  ·rw [CB _ Cg];exact e0
  ·rw [CB _ Cg];exact e1
  ·rw [CB _ (k.fM _ (by omega))];exact k1.JM s hs
  refine CQ 16 rfl (by kernel_rfl) (fun ρ Q X Aa hq=>Ee (Aa _ _ rfl) hq) ⟨?_,?_,?_⟩ ?_
  ·rw [CB _ Cg];exact e0
  ·rw [CB _ Cg];exact e1
  ·rw [CB _ (k.fM _ (by omega))];exact k1.JM s hs
  refine BF ?_
  (repeat refine AQ ?_)
  refine CL rfl ⟨rfl,.inr ⟨hv,rfl,(hu.mono (fun _ _ x=>x.elim)).trans (AN.set _ _ _ (.inr ⟨_,by omega,rfl⟩)),fun hle=>?_⟩⟩
  have e:IntKind.i64.wrap (IntKind.i64.wrap (r+4)-2)=r+2:=by rw [i64_in (x:=r+4) (by omega) (by omega),i64_in (by omega) (by omega)];omega
  rw [e]
  exact k1.set (by omega) (r+2)
 ·refine FE 15 rfl (by kernel_rfl) rfl rfl rfl rfl rfl rfl (dr hv (k1.cell (2+2*s) (by omega)) (fun _ x=>x)) hZ ?_
  refine CQ 16 rfl (by kernel_rfl) (fun ρ Q X Aa hq=>Ee (Aa _ _ rfl) hq) hZ ?_
  refine BF ?_
  (repeat refine AQ ?_)
  exact CL rfl ⟨rfl,.inl ⟨hv,rfl,hu⟩⟩
end
end
section
open Go Go.TJ Go.Proofs
section
variable{Γ:Type}{main:Bool}{h:Hp}{δ:Ix Γ}{c:Nat}{B:Nat->Nat}{BL:Nat->Int}{FW:Nat->Value}
def Ec(s r:Int):Obj:=.cells #[.int .i64 s,.int .i64 r] 51 (0,0)
theorem Yd{F:Go.Fn}{G H:Array Value}{due:Int}{i:Nat}(k:KM h c B BL FW)(Xe:0<=due)(hd1:due<=4611686018427387904)(hi:i<16)(rl:∀q,q<i->(BL (2+2*q)).tmod 4≠0)(YP:(BL (2+2*i)).tmod 4=0)
  (ml:-4611686018427387904<=BL (2+2*i)) (oL:BL (2+2*i)<=4611686018427387904):
  AY Tryz.prog main Fb 15 #[.pointer (some ⟨c,0,none⟩),.pointer none,.int .i64 due,.func F G H] h δ
  (CJ fun v h' AW=>v= .tuple #[.agg #[.int .i64 i,.int .i64 (BL (2+2*i)+2)],.int .i64 0]/\AN (Own c B) h h'/\AW=δ/\KM h' c B (up (up BL (3+2*i) due) (2+2*i) (BL (2+2*i)+2)) (up FW i (.func F G H))):=by
 have hu:AN (fun _=>False) h (h.push (Ec 0 0)):=AN.push _ _
 have k1:=k.upd hu (fun _ x=>x.elim)
 have Ey:∀j,j<34->B j≠h.size:=fun j hj e=>by have:=Ap (k.cell j hj);omega
 have hcz:c≠h.size:=fun e=>by obtain⟨cs,Ea⟩:=k.obj;have:=Ap Ea;omega
 refine CK (n:=82) ?_
 repeat(first|refine AI ?_|refine AH ?_|refine AE ?_|refine AV ?_|refine Aq ?_|refine Cn ?_)
 refine Bx rfl (Nd (A7 k.Gs)) ?_
 repeat(first|refine AI ?_|refine AH ?_|refine AE ?_|refine Ar ?_|refine Ak ?_|refine AV ?_|refine P9 rfl rfl rfl rfl rfl ?_|refine B9 ?_|refine Bd ?_|refine Bg ?_|refine Am ?_)
 refine B1 (fun q:Nat=>[(28,.int .i64 q),(0,.pointer (some ⟨c,0,none⟩)),(1,.pointer none),(2,.int .i64 due),(3,.func F G H),(8,.pointer (some ⟨h.size,0,none⟩))]) (fun q h' AW=>h'=h.push (Ec 0 0)/\AW=δ/\q<=i) (fun q=>16-q) 0
  ⟨rfl,rfl,rfl,rfl,rfl,rfl,trivial⟩ ⟨rfl,rfl,Bv _⟩ ?_
 rintro q _ _ ⟨rfl,rfl,W7⟩ again
 have hq:q<16:=by omega
 repeat(first|refine AI ?_|refine AH ?_|refine AE ?_|refine Ar ?_|refine Ak ?_|refine AV ?_|refine Aq ?_|refine Bc ?_|refine Az ?_|refine Bs ?_|refine P7 rfl rfl rfl rfl (by omega) (by omega) ?_|refine BU ?_)
 refine Av rfl (k1.JM q hq) ?_
 (repeat refine AV ?_)
 refine Bx rfl (SJ (k1.cell (2+2*q) (by omega))) ?_
 by_cases e:q=i
 ·subst e
  repeat(first|refine AI ?_|refine AH ?_|refine AE ?_|refine AV ?_|refine Aq ?_|refine Bc ?_|refine Az ?_|refine Bg ?_|refine JN (kd:=.i64) ?_)
  refine Av rfl (k1.JM q hq) ?_
  repeat(first|refine AV ?_|refine BR (kd:=.i64) rfl (i64_in (by omega) (by omega)) ?_)
  refine Bx rfl (L2 (k1.cell (2+2*q) (by omega)) (fun _ x=>x)) ?_
  have k2:=k1.set (j:=2+2*q) (by omega) (BL (2+2*q)+1)
  repeat(first|refine AI ?_|refine AH ?_|refine AE ?_|refine Ar ?_|refine AV ?_|refine Bc ?_|refine Az ?_|refine B9 ?_|refine Bd ?_|refine Am ?_)
  refine CS rfl (by simp [OneCell]) ⟨_,k2.pf q hq⟩ (k2.PW _) (fun x=>x) ?_
  have k3:=k2.jE hq (.func F G H)
  repeat(first|refine AI ?_|refine AH ?_|refine AE ?_|refine AV ?_|refine Bc ?_|refine Az ?_)
  refine Av rfl (k3.Tg q hq) ?_
  (repeat refine AV ?_)
  refine Bx rfl (MK (k3.cell (3+2*q) (by omega)) (fun _ x=>x)) ?_
  have k4:=k3.set (j:=3+2*q) (by omega) due
  repeat(first|refine AI ?_|refine AH ?_|refine AE ?_|refine AV ?_|refine Bc ?_|refine Az ?_)
  refine Av rfl (k4.JM q hq) ?_
  repeat(first|refine AV ?_|refine BR (kd:=.i64) rfl (i64_in (by omega) (by omega)) ?_)
  refine Bx rfl (MK (k4.cell (2+2*q) (by omega)) (fun _ x=>x)) ?_
  have k5:=k4.set (j:=2+2*q) (by omega) (BL (2+2*q)+2)
  repeat(first|refine AI ?_|refine AH ?_|refine AE ?_|refine AV ?_|refine BR (kd:=.i64) rfl (i64_in (by omega) (by omega)) ?_)
  refine Cr (cells:=#[.int .i64 q,.int .i64 (BL (2+2*q)+2)]) rfl rfl rfl rfl ?_
  have u4:=((((hu.mono (T':=Own c B) (fun _ _ x=>x.elim)).trans (AN.set _ (B (2+2*q)) (Ay (BL (2+2*q)+1)) (.inr ⟨_,by omega,rfl⟩))).trans (AN.Af _ ⟨c,2+q*3+2,none⟩ (.func F G H) (.inl rfl))).trans (AN.set _ (B (3+2*q)) (Ay due) (.inr ⟨_,by omega,rfl⟩))).trans (AN.set _ (B (2+2*q)) (Ay (BL (2+2*q)+2)) (.inr ⟨_,by omega,rfl⟩))
  have hb:((((h.push (Ec 0 0)).setIfInBounds (B (2+2*q)) (Ay (BL (2+2*q)+1)) |> fun x=>Af x ⟨c,2+q*3+2,none⟩ (.func F G H)).setIfInBounds (B (3+2*q)) (Ay due)).setIfInBounds (B (2+2*q)) (Ay (BL (2+2*q)+2)))[h.size]?=some (Ec 0 0):=by
   rw [AX _ (Ey _ (by omega)),AX _ (Ey _ (by omega)),Cq _ _ _ hcz,AX _ (Ey _ (by omega))]
   exact AG h _
  refine ET hb rfl rfl rfl rfl (by simp [OneCell]) (by simp [OneCell]) (fun _ x=>x) ?_
  repeat(first|refine AE ?_|refine Aq ?_|refine AQ ?_)
  refine Hw (AJ hb) rfl rfl rfl ⟨rfl,?_,rfl,?_⟩
  ·refine⟨by have:=u4.size;simpa using this,fun b DN hO=>?_⟩
   rw [AX _ (by omega)]
   exact u4.same b DN hO
  ·have k6:=k5.upd (AN.set (T:=fun b=>b=h.size) _ h.size (.cells #[.int .i64 q,.int .i64 (BL (2+2*q)+2)] 51 (0,0)) rfl) (by
    rintro b rfl (x|⟨j,hj,x⟩)
    ·exact hcz x.symm
    ·exact Ey j hj x.symm)
   have e:up (up (up BL (2+2*q) (BL (2+2*q)+1)) (3+2*q) due) (2+2*q) (BL (2+2*q)+2)=up (up BL (3+2*q) due) (2+2*q) (BL (2+2*q)+2):=by
    funext j
    unfold up
    by_cases h1:j=2+2*q
    ·simp [h1]
    ·simp [h1]
   rw [<-e]
   exact k6
 ·have hb:=rl q (by omega)
  repeat(first|refine AI ?_|refine AH ?_|refine AE ?_|refine AV ?_|refine Aq ?_|refine CW ?_|refine Bl ?_|refine Bs ?_|refine BR (kd:=.i64) rfl (i64_in (by omega) (by omega)) ?_|refine JN (kd:=.i64) ?_|refine BU ?_|refine B8 ?_)
  exact Ah (again (q+1) _ _ (by omega) ⟨rfl,rfl,by omega⟩) ⟨rfl,rfl,rfl,rfl,rfl,rfl,trivial⟩
end
end
section
open Go Go.TJ Go.Proofs
section
variable{Γ:Type}{main:Bool}{h:Hp}{δ:Ix Γ}{c:Nat}{B:Nat->Nat}{BL:Nat->Int}{FW:Nat->Value}
def lk(BL:Nat->Int)(m:Int):Nat->Option Nat
 | 0=>none
 | n+1=>if(BL (2+2*n)).tmod 4=2/\BL (3+2*n)<=m/\(∀b,lk BL m n=some b->BL (3+2*n)<BL (3+2*b))then some n else lk BL m n
theorem fe{BL:Nat->Int}{m:Int}:∀{n i:Nat},lk BL m n=some i->i<n/\(BL (2+2*i)).tmod 4=2/\BL (3+2*i)<=m
 | 0,_,h=>by cases h
 | n+1,i,h=>by
  unfold lk at h
  split at h
  ·rename_i hc;cases h;exact⟨by omega,hc.1,hc.2.1⟩
  ·have:=fe h;exact⟨by omega,this.2⟩
def Xo(BL:Nat->Int):Option Nat->Obj
 | none=>Ec 0 0
 | some b=>Ec b (BL (2+2*b))
def ju(BL:Nat->Int):Option Nat->Int
 | none=>0
 | some b=>BL (3+2*b)
theorem dc{m:Int}(k:KM h c B BL FW):AY Tryz.prog main Fb 33 #[.pointer (some ⟨c,0,none⟩),.pointer none,.int .i64 m] h δ
  (CJ fun v h' AW=>AN (fun _=>False) h h'/\AW=δ/\((lk BL m 16=none/\v= .tuple #[.agg #[.int .i64 0,.int .i64 0],.bool false])\/(∃i,lk BL m 16=some i/\v= .tuple #[.agg #[.int .i64 i,.int .i64 (BL (2+2*i))],.bool true]))):=by
 have hu:∀o,AN (fun _=>False) h ((h.push (Ec 0 0)).push o):=fun o=>(AN.push _ _).trans (AN.push _ _)
 have kk:∀o,KM ((h.push (Ec 0 0)).push o) c B BL FW:=fun o=>k.upd (hu o) (fun _ x=>x.elim)
 refine CK (n:=57) ?_
 repeat(first|refine AI ?_|refine AH ?_|refine AE ?_|refine Ak ?_|refine AV ?_|refine Aq ?_|refine Cn ?_)
 refine B1 (fun s:Nat×Option Nat=>[(14,.int .i64 s.1),(0,.pointer (some ⟨c,0,none⟩)),(1,.pointer none),(2,.int .i64 m),(6,.pointer (some ⟨h.size,0,none⟩)),(8,.pointer (some ⟨(h.push (Ec 0 0)).size,0,none⟩)),(9,.int .i64 (ju BL s.2)),(10,.bool s.2.isSome)])
  (fun s h' AW=>s.2=lk BL m s.1/\h'=(h.push (Ec 0 0)).push (Xo BL s.2)/\AW=δ/\s.1<=16) (fun s=>16-s.1) (0,none) ⟨rfl,rfl,rfl,rfl,rfl,rfl,rfl,rfl,trivial⟩ ⟨rfl,rfl,rfl,by simp⟩ ?_
 rintro⟨q,r⟩ _ _ ⟨hr,rfl,rfl,hq⟩ again
 dsimp only at hr hq again⊢
 have k1:=kk (Xo BL r)
 by_cases Cg:q<16
 ·repeat(first|refine AI ?_|refine AH ?_|refine AE ?_|refine Ar ?_|refine Ak ?_|refine AV ?_|refine Aq ?_|refine Bc ?_|refine Az ?_|refine Bs ?_|refine P7 rfl rfl rfl rfl (by omega) (by omega) ?_|refine BU ?_)
  refine Av rfl (k1.JM q Cg) ?_
  (repeat refine AV ?_)
  refine Bx rfl (SJ (k1.cell (2+2*q) (by omega))) ?_
  by_cases h2:(BL (2+2*q)).tmod 4=2
  ·repeat(first|refine AI ?_|refine AH ?_|refine AE ?_|refine Ar ?_|refine AV ?_|refine Aq ?_|refine Bc ?_|refine Az ?_|refine Bg ?_|refine JN (kd:=.i64) ?_|refine P7 rfl rfl rfl rfl (by omega) (by omega) ?_|refine Am ?_)
   refine Av rfl (k1.Tg q Cg) ?_
   (repeat refine AV ?_)
   refine Bx rfl (SJ (k1.cell (3+2*q) (by omega))) ?_
   by_cases h3:BL (3+2*q)<=m
   ·rcases r with _|b
    ·have hn:lk BL m (q+1)=some q:=by
      unfold lk;rw [<-hr];exact if_pos ⟨h2,h3,fun b hb=>by cases hb⟩
     repeat(first|refine AI ?_|refine AH ?_|refine AE ?_|refine AV ?_|refine Aq ?_|refine CW ?_|refine B9 ?_|refine Bl ?_|refine Bs ?_|refine BU ?_)
     refine Cr (cells:=#[.int .i64 q,.int .i64 (BL (2+2*q))]) rfl rfl rfl rfl ?_
     (repeat refine AV ?_)
     refine ET (AG _ (Ec 0 0)) rfl rfl rfl rfl (by simp [OneCell]) (by simp [OneCell]) (fun _ x=>x) ?_
     repeat(first|refine AH ?_|refine AE ?_|refine Bb ?_|refine AV ?_|refine Aq ?_|refine BR (kd:=.i64) rfl (i64_in (by omega) (by omega)) ?_)
     exact Ah (again (q+1,some q) _ _ (by dsimp only;omega) ⟨hn.symm,CC _ _ _,rfl,by dsimp only;omega⟩) ⟨rfl,rfl,rfl,rfl,rfl,rfl,rfl,rfl,trivial⟩
    ·by_cases h4:BL (3+2*q)<BL (3+2*b)
     ·have hn:lk BL m (q+1)=some q:=by
       unfold lk;rw [<-hr];exact if_pos ⟨h2,h3,fun b hb=>by cases hb;exact h4⟩
      have h4':BL (3+2*q)<ju BL (some b):=h4
      repeat(first|refine AI ?_|refine AH ?_|refine AE ?_|refine AV ?_|refine Aq ?_|refine B9 ?_|refine Bl ?_|refine Bd ?_|refine Bs ?_|refine BU ?_)
      refine Cr (cells:=#[.int .i64 q,.int .i64 (BL (2+2*q))]) rfl rfl rfl rfl ?_
      (repeat refine AV ?_)
      refine ET (AG _ (Ec b (BL (2+2*b)))) rfl rfl rfl rfl (by simp [OneCell]) (by simp [OneCell]) (fun _ x=>x) ?_
      repeat(first|refine AH ?_|refine AE ?_|refine Bb ?_|refine AV ?_|refine Aq ?_|refine BR (kd:=.i64) rfl (i64_in (by omega) (by omega)) ?_)
      exact Ah (again (q+1,some q) _ _ (by dsimp only;omega) ⟨hn.symm,CC _ _ _,rfl,by dsimp only;omega⟩) ⟨rfl,rfl,rfl,rfl,rfl,rfl,rfl,rfl,trivial⟩
     ·have hn:lk BL m (q+1)=some b:=by
       unfold lk;rw [<-hr];exact if_neg (fun x=>h4 (x.2.2 b rfl))
      have h4':¬BL (3+2*q)<ju BL (some b):=h4
      repeat(first|refine AI ?_|refine AH ?_|refine AE ?_|refine Ar ?_|refine Bb ?_|refine AV ?_|refine Aq ?_|refine B9 ?_|refine Bl ?_|refine Bd ?_|refine Bs ?_|refine Bg ?_|refine BR (kd:=.i64) rfl (i64_in (by omega) (by omega)) ?_|refine Am ?_)
      exact Ah (again (q+1,some b) _ _ (by dsimp only;omega) ⟨hn.symm,rfl,rfl,by dsimp only;omega⟩) ⟨rfl,rfl,rfl,rfl,rfl,rfl,rfl,rfl,trivial⟩
   ·have hn:lk BL m (q+1)=r:=by
     unfold lk;rw [<-hr];exact if_neg (fun x=>h3 x.2.1)
    repeat(first|refine AI ?_|refine AH ?_|refine AE ?_|refine Ar ?_|refine Bb ?_|refine AV ?_|refine Aq ?_|refine CW ?_|refine Bd ?_|refine Bg ?_|refine BR (kd:=.i64) rfl (i64_in (by omega) (by omega)) ?_|refine Am ?_)
    exact Ah (again (q+1,r) _ _ (by dsimp only;omega) ⟨hn.symm,rfl,rfl,by dsimp only;omega⟩) ⟨rfl,rfl,rfl,rfl,rfl,rfl,rfl,rfl,trivial⟩
  ·have hn:lk BL m (q+1)=r:=by
    unfold lk;rw [<-hr];exact if_neg (fun x=>h2 x.1)
   repeat(first|refine AI ?_|refine AH ?_|refine AE ?_|refine AV ?_|refine Aq ?_|refine Bs ?_|refine BR (kd:=.i64) rfl (i64_in (by omega) (by omega)) ?_|refine JN (kd:=.i64) ?_|refine BU ?_|refine B8 ?_)
   exact Ah (again (q+1,r) _ _ (by dsimp only;omega) ⟨hn.symm,rfl,rfl,by dsimp only;omega⟩) ⟨rfl,rfl,rfl,rfl,rfl,rfl,rfl,rfl,trivial⟩
 ·have e:q=16:=by omega
  subst e
  have hb:((h.push (Ec 0 0)).push (Xo BL r))[h.size]?=some (Ec 0 0):=Ao _ (AG h _)
  have XD:((h.push (Ec 0 0)).push (Xo BL r))[(h.push (Ec 0 0)).size]?=some (Xo BL r):=AG _ _
  have hs:∀o o',AN (fun _=>False) h (((h.push (Ec 0 0)).push o).setIfInBounds h.size o'):=fun o o'=>by
   refine⟨by simp;omega,fun b DN _=>?_⟩
   rw [AX _ (by omega)]
   exact(hu o).same b DN (fun x=>x)
  repeat(first|refine AI ?_|refine AH ?_|refine AE ?_|refine Bg ?_|refine Am ?_|refine B8 ?_)
  rcases r with _|b
  ·refine C5 (vs:=[.int .i64 0,.int .i64 0]) rfl (Gh XD) ?_
   (repeat refine AV ?_)
   refine ET hb rfl rfl rfl rfl (by simp [OneCell]) (by simp [OneCell]) (fun _ x=>x) ?_
   repeat(first|refine AE ?_|refine Aq ?_|refine AQ ?_)
   exact Hw (AJ hb) rfl rfl rfl ⟨hs _ _,rfl,.inl ⟨hr.symm,rfl⟩⟩
  ·refine C5 (vs:=[.int .i64 b,.int .i64 (BL (2+2*b))]) rfl (Gh XD) ?_
   (repeat refine AV ?_)
   refine ET hb rfl rfl rfl rfl (by simp [OneCell]) (by simp [OneCell]) (fun _ x=>x) ?_
   repeat(first|refine AE ?_|refine Aq ?_|refine AQ ?_)
   exact Hw (AJ hb) rfl rfl rfl ⟨hs _ _,rfl,.inr ⟨b,hr.symm,rfl⟩⟩
end
end
section
open Go Go.TJ Go.Proofs
section
variable{Γ:Type}{main:Bool}{h:Hp}{δ:Ix Γ}
def Hc(N j:Nat):Nat:=if j<2 then N+j else N+j+1
structure X6(h:Hp)(N i:Nat):Prop where
 obj:∃cs,h[N+2]?=some (.cells cs 96 (0,0))
 Gs:AF h ⟨N+2,0,none⟩=some (.pointer (some ⟨N,0,none⟩))
 Gg:AF h ⟨N+2,1,none⟩=some (.pointer (some ⟨N+1,0,none⟩))
 JM:∀q,q<i->AF h ⟨N+2,2+q*3,none⟩=some (.pointer (some ⟨Hc N (2+2*q),0,none⟩))
 Tg:∀q,q<i->AF h ⟨N+2,2+q*3+1,none⟩=some (.pointer (some ⟨Hc N (3+2*q),0,none⟩))
 vg:∀q,q<16->∃v,AF h ⟨N+2,2+q*3,none⟩=some v
 vi:∀q,q<16->∃v,AF h ⟨N+2,2+q*3+1,none⟩=some v
 pf:∀q,q<16->AF h ⟨N+2,2+q*3+2,none⟩=some .nilFunc
 cell:∀j,j<2+2*i->h[Hc N j]?=some (Ay 0)
 size:h.size=N+3+2*i
theorem X6.SG{h:Hp}{N i:Nat}(k:X6 h N i)(hi:i<16):X6 ((Af (Af ((h.push (Ay 0)).push (Ay 0)) ⟨N+2,2+i*3,none⟩ (.pointer (some ⟨h.size,0,none⟩))) ⟨N+2,2+i*3+1,none⟩ (.pointer (some ⟨h.size+1,0,none⟩)))) N (i+1):=by
 have hz:=k.size
 obtain⟨cs,Ea⟩:=k.obj
 have o0:∀a v,AF h a=some v->AF ((h.push (Ay 0)).push (Ay 0)) a=some v:=fun a v x=>A7 (A7 x)
 obtain⟨v1,e1⟩:=k.vg i hi
 obtain⟨v2,e2⟩:=k.vi i hi
 have xh:=o0 _ _ e1
 have e2':=o0 _ _ e2
 have js:AF (Af ((h.push (Ay 0)).push (Ay 0)) ⟨N+2,2+i*3,none⟩ (.pointer (some ⟨h.size,0,none⟩))) ⟨N+2,2+i*3+1,none⟩=some v2:=by rw [DK _ _ _ _ (by simp) ⟨_,xh⟩];exact e2'
 have o:∀q,q≠2+i*3->q≠2+i*3+1->∀v,AF h ⟨N+2,q,none⟩=some v->AF (Af (Af ((h.push (Ay 0)).push (Ay 0)) ⟨N+2,2+i*3,none⟩ (.pointer (some ⟨h.size,0,none⟩))) ⟨N+2,2+i*3+1,none⟩ (.pointer (some ⟨h.size+1,0,none⟩))) ⟨N+2,q,none⟩=some v:=fun q h1 h2 v hv=>by
  rw [DK _ _ _ _ (by simp;omega) ⟨_,js⟩,DK _ _ _ _ (by simp;omega) ⟨_,xh⟩];exact o0 _ _ hv
 have w1:AF (Af (Af ((h.push (Ay 0)).push (Ay 0)) ⟨N+2,2+i*3,none⟩ (.pointer (some ⟨h.size,0,none⟩))) ⟨N+2,2+i*3+1,none⟩ (.pointer (some ⟨h.size+1,0,none⟩))) ⟨N+2,2+i*3,none⟩=some (.pointer (some ⟨h.size,0,none⟩)):=by
  rw [DK _ _ _ _ (by simp) ⟨_,js⟩];exact EC xh
 have w2:AF (Af (Af ((h.push (Ay 0)).push (Ay 0)) ⟨N+2,2+i*3,none⟩ (.pointer (some ⟨h.size,0,none⟩))) ⟨N+2,2+i*3+1,none⟩ (.pointer (some ⟨h.size+1,0,none⟩))) ⟨N+2,2+i*3+1,none⟩=some (.pointer (some ⟨h.size+1,0,none⟩)):=EC js
 have g0:∀b x,h[b]?=some x->b≠N+2->(Af (Af ((h.push (Ay 0)).push (Ay 0)) ⟨N+2,2+i*3,none⟩ (.pointer (some ⟨h.size,0,none⟩))) ⟨N+2,2+i*3+1,none⟩ (.pointer (some ⟨h.size+1,0,none⟩)))[b]?=some x:=fun b x hx hb=>by
  rw [Cq _ _ _ (Ne.symm hb),Cq _ _ _ (Ne.symm hb)];exact Ao _ (Ao _ hx)
 have g1:(Af (Af ((h.push (Ay 0)).push (Ay 0)) ⟨N+2,2+i*3,none⟩ (.pointer (some ⟨h.size,0,none⟩))) ⟨N+2,2+i*3+1,none⟩ (.pointer (some ⟨h.size+1,0,none⟩)))[h.size]?=some (Ay 0):=by
  rw [Cq _ _ _ (by dsimp only;omega),Cq _ _ _ (by dsimp only;omega)];exact Ao _ (AG _ _)
 have g2:(Af (Af ((h.push (Ay 0)).push (Ay 0)) ⟨N+2,2+i*3,none⟩ (.pointer (some ⟨h.size,0,none⟩))) ⟨N+2,2+i*3+1,none⟩ (.pointer (some ⟨h.size+1,0,none⟩)))[h.size+1]?=some (Ay 0):=by
  rw [Cq _ _ _ (by dsimp only;omega),Cq _ _ _ (by dsimp only;omega)]
  have:=AG (h.push (Ay 0)) (Ay 0)
  simpa using this
 have b1:h.size=Hc N (2+2*i):=by unfold Hc;rw [if_neg (by omega)];omega
 have b2:h.size+1=Hc N (3+2*i):=by unfold Hc;rw [if_neg (by omega)];omega
 refine⟨⟨_,Fp _ ⟨N+2,2+i*3+1,none⟩ _ (Fp _ ⟨N+2,2+i*3,none⟩ _ (Ao _ (Ao _ Ea)) rfl) rfl⟩,o 0 (by omega) (by omega) _ k.Gs,o 1 (by omega) (by omega) _ k.Gg,fun q hq=>?_,fun q hq=>?_,fun q hq=>?_,fun q hq=>?_,fun q hq=>o _ (by omega) (by omega) _ (k.pf q hq),fun j hj=>?_,?_⟩
 ·by_cases e:q=i
  ·subst e;rw [<-b1];exact w1
  ·exact o _ (by omega) (by omega) _ (k.JM q (by omega))
 ·by_cases e:q=i
  ·subst e;rw [<-b2];exact w2
  ·exact o _ (by omega) (by omega) _ (k.Tg q (by omega))
 ·by_cases e:q=i
  ·subst e;exact⟨_,w1⟩
  ·obtain⟨v,hv⟩:=k.vg q hq
   exact⟨v,o _ (by omega) (by omega) _ hv⟩
 ·by_cases e:q=i
  ·subst e;exact⟨_,w2⟩
  ·obtain⟨v,hv⟩:=k.vi q hq
   exact⟨v,o _ (by omega) (by omega) _ hv⟩
 ·by_cases e:j=2+2*i
  ·subst e;rw [<-b1];exact g1
  by_cases e:j=3+2*i
  ·subst e;rw [<-b2];exact g2
  exact g0 _ _ (k.cell j (by omega)) (by unfold Hc;split <;> omega)
 ·simp [IK];omega
theorem Yg:AY Tryz.prog main Fb 13 #[] h δ
  (CJ fun v h' AW=>v= .pointer (some ⟨h.size+2,0,none⟩)/\AN (fun _=>False) h h'/\AW=δ/\KM h' (h.size+2) (Hc h.size) (fun _=>0) (fun _=>.nilFunc)):=by
 refine CK (n:=26) ?_
 repeat(first|refine AI ?_|refine AH ?_|refine AE ?_|refine Aq ?_)
 refine Bx rfl X2 ?_
 refine Bx rfl X2 ?_
 refine Cr (cells:=#[.pointer (some ⟨h.size,0,none⟩),.pointer (some ⟨(h.push (Ay 0)).size,0,none⟩),.pointer none,.pointer none,.nilFunc,.pointer none,.pointer none,.nilFunc,.pointer none,.pointer none,.nilFunc,.pointer none,.pointer none,.nilFunc,.pointer none,.pointer none,.nilFunc,.pointer none,.pointer none,.nilFunc,.pointer none,.pointer none,.nilFunc,.pointer none,.pointer none,.nilFunc,.pointer none,.pointer none,.nilFunc,.pointer none,.pointer none,.nilFunc,.pointer none,.pointer none,.nilFunc,.pointer none,.pointer none,.nilFunc,.pointer none,.pointer none,.nilFunc,.pointer none,.pointer none,.nilFunc,.pointer none,.pointer none,.nilFunc,.pointer none,.pointer none,.nilFunc]) rfl rfl rfl rfl ?_
 refine DO ?_
 have hN:((h.push (Ay 0)).push (Ay 0)).size=h.size+2:=by simp
 have hN1:(h.push (Ay 0)).size=h.size+1:=by simp
 rw [hN,hN1]
 have k0:X6 (((h.push (Ay 0)).push (Ay 0)).push (.cells #[.pointer (some ⟨h.size,0,none⟩),.pointer (some ⟨h.size+1,0,none⟩),.pointer none,.pointer none,.nilFunc,.pointer none,.pointer none,.nilFunc,.pointer none,.pointer none,.nilFunc,.pointer none,.pointer none,.nilFunc,.pointer none,.pointer none,.nilFunc,.pointer none,.pointer none,.nilFunc,.pointer none,.pointer none,.nilFunc,.pointer none,.pointer none,.nilFunc,.pointer none,.pointer none,.nilFunc,.pointer none,.pointer none,.nilFunc,.pointer none,.pointer none,.nilFunc,.pointer none,.pointer none,.nilFunc,.pointer none,.pointer none,.nilFunc,.pointer none,.pointer none,.nilFunc,.pointer none,.pointer none,.nilFunc,.pointer none,.pointer none,.nilFunc] 96)) h.size 0:=by
  have hb:=AG ((h.push (Ay 0)).push (Ay 0)) (.cells #[.pointer (some ⟨h.size,0,none⟩),.pointer (some ⟨h.size+1,0,none⟩),.pointer none,.pointer none,.nilFunc,.pointer none,.pointer none,.nilFunc,.pointer none,.pointer none,.nilFunc,.pointer none,.pointer none,.nilFunc,.pointer none,.pointer none,.nilFunc,.pointer none,.pointer none,.nilFunc,.pointer none,.pointer none,.nilFunc,.pointer none,.pointer none,.nilFunc,.pointer none,.pointer none,.nilFunc,.pointer none,.pointer none,.nilFunc,.pointer none,.pointer none,.nilFunc,.pointer none,.pointer none,.nilFunc,.pointer none,.pointer none,.nilFunc,.pointer none,.pointer none,.nilFunc,.pointer none,.pointer none,.nilFunc,.pointer none,.pointer none,.nilFunc] 96)
  rw [hN]at hb
  have key:∀q,q<16->AF _ ⟨h.size+2,2+q*3,none⟩=some (.pointer none)/\AF _ ⟨h.size+2,2+q*3+1,none⟩=some (.pointer none)/\AF _ ⟨h.size+2,2+q*3+2,none⟩=some .nilFunc:=fun q hq=>by
   have:q=0\/q=1\/q=2\/q=3\/q=4\/q=5\/q=6\/q=7\/q=8\/q=9\/q=10\/q=11\/q=12\/q=13\/q=14\/q=15:=by omega
   rcases this with rfl|rfl|rfl|rfl|rfl|rfl|rfl|rfl|rfl|rfl|rfl|rfl|rfl|rfl|rfl|rfl <;> exact⟨AD hb rfl,AD hb rfl,AD hb rfl⟩
  refine⟨⟨_,hb⟩,AD hb rfl,AD hb rfl,fun q hq=>by omega,fun q hq=>by omega,fun q hq=>⟨_,(key q hq).1⟩,fun q hq=>⟨_,(key q hq).2.1⟩,fun q hq=>(key q hq).2.2,fun j hj=>?_,by simp⟩
  have:j=0\/j=1:=by omega
  rcases this with rfl|rfl
  ·exact Ao _ (Ao _ (AG h _))
  ·have:=Ao (.cells #[.pointer (some ⟨h.size,0,none⟩),.pointer (some ⟨h.size+1,0,none⟩),.pointer none,.pointer none,.nilFunc,.pointer none,.pointer none,.nilFunc,.pointer none,.pointer none,.nilFunc,.pointer none,.pointer none,.nilFunc,.pointer none,.pointer none,.nilFunc,.pointer none,.pointer none,.nilFunc,.pointer none,.pointer none,.nilFunc,.pointer none,.pointer none,.nilFunc,.pointer none,.pointer none,.nilFunc,.pointer none,.pointer none,.nilFunc,.pointer none,.pointer none,.nilFunc,.pointer none,.pointer none,.nilFunc,.pointer none,.pointer none,.nilFunc,.pointer none,.pointer none,.nilFunc,.pointer none,.pointer none,.nilFunc,.pointer none,.pointer none,.nilFunc] 96) (AG (h.push (Ay 0)) (Ay 0))
   rw [hN1]at this
   exact this
 have u0:AN (fun _=>False) h (((h.push (Ay 0)).push (Ay 0)).push (.cells #[.pointer (some ⟨h.size,0,none⟩),.pointer (some ⟨h.size+1,0,none⟩),.pointer none,.pointer none,.nilFunc,.pointer none,.pointer none,.nilFunc,.pointer none,.pointer none,.nilFunc,.pointer none,.pointer none,.nilFunc,.pointer none,.pointer none,.nilFunc,.pointer none,.pointer none,.nilFunc,.pointer none,.pointer none,.nilFunc,.pointer none,.pointer none,.nilFunc,.pointer none,.pointer none,.nilFunc,.pointer none,.pointer none,.nilFunc,.pointer none,.pointer none,.nilFunc,.pointer none,.pointer none,.nilFunc,.pointer none,.pointer none,.nilFunc,.pointer none,.pointer none,.nilFunc,.pointer none,.pointer none,.nilFunc,.pointer none,.pointer none,.nilFunc] 96)):=((AN.push _ _).trans (AN.push _ _)).trans (AN.push _ _)
 generalize ((h.push (Ay 0)).push (Ay 0)).push (.cells #[.pointer (some ⟨h.size,0,none⟩),.pointer (some ⟨h.size+1,0,none⟩),.pointer none,.pointer none,.nilFunc,.pointer none,.pointer none,.nilFunc,.pointer none,.pointer none,.nilFunc,.pointer none,.pointer none,.nilFunc,.pointer none,.pointer none,.nilFunc,.pointer none,.pointer none,.nilFunc,.pointer none,.pointer none,.nilFunc,.pointer none,.pointer none,.nilFunc,.pointer none,.pointer none,.nilFunc,.pointer none,.pointer none,.nilFunc,.pointer none,.pointer none,.nilFunc,.pointer none,.pointer none,.nilFunc,.pointer none,.pointer none,.nilFunc,.pointer none,.pointer none,.nilFunc,.pointer none,.pointer none,.nilFunc,.pointer none,.pointer none,.nilFunc] 96)=h3 at k0 u0⊢
 repeat(first|refine AI ?_|refine AH ?_|refine AE ?_|refine Ak ?_|refine AV ?_|refine Aq ?_)
 refine B1 (fun q:Nat=>[(7,.int .i64 q),(1,.pointer (some ⟨h.size+2,0,none⟩))]) (fun q h' AW=>q<=16/\X6 h' h.size q/\AN (fun _=>False) h h'/\AW=δ) (fun q=>16-q) 0 ⟨rfl,rfl,trivial⟩ ⟨Bv _,k0,u0,rfl⟩ ?_
 clear k0 u0
 rintro q h1 _ ⟨hq,k,u,rfl⟩ again
 by_cases Cg:q<16
 ·repeat(first|refine AI ?_|refine AH ?_|refine AE ?_|refine Ar ?_|refine Ak ?_|refine AV ?_|refine Aq ?_|refine Bs ?_|refine BU ?_)
  refine BO (fun _=>True) ?_
  have hZ:=trivial
  refine AU 0 hZ ?_
  refine AU 1 hZ ?_
  refine AU 2 hZ ?_
  refine AU 3 hZ ?_
  refine BE 6 hZ ?_
  refine Ag 7 hZ ?_
  refine BE 11 hZ ?_
  refine Ag 12 hZ ?_
  refine FE 4 rfl (by kernel_rfl) rfl rfl rfl rfl rfl rfl X2 hZ ?_
  refine FE 5 rfl (by kernel_rfl) rfl rfl rfl rfl rfl rfl X2 hZ ?_
  refine MN 8 rfl (by kernel_rfl) rfl rfl rfl rfl rfl (by omega) (by omega) hZ ?_
  refine Ag 9 hZ ?_
  have hz1:(h1.push (Ay 0)).size=h1.size+1:=by simp
  obtain⟨v1,e1⟩:=k.vg q Cg
  obtain⟨v2,e2⟩:=k.vi q Cg
  obtain⟨cs,Ea⟩:=k.obj
  have f0:=AS (off:=2+q*3) (Ao (Ay 0) (Ao (Ay 0) Ea))
  have f1:=AS (off:=2+q*3+1) (Ao (Ay 0) (Ao (Ay 0) Ea))
  refine Fy 10 rfl (by kernel_rfl) rfl rfl (fun ρ Q X Aa hq=>BG (Aa _ _ rfl) (Aa _ _ rfl) (by simp [OneCell]) ⟨_,A7 (A7 e1)⟩ f0 (fun x=>x) hq) hZ ?_
  refine MN 13 rfl (by kernel_rfl) rfl rfl rfl rfl rfl (by omega) (by omega) hZ ?_
  refine Ag 14 hZ ?_
  refine Fy 15 rfl (by kernel_rfl) rfl rfl (fun ρ Q X Aa hq=>BG (Aa _ _ rfl) (Aa _ _ rfl) (by simp [OneCell]) ⟨v2,?_⟩ ?_ (fun x=>x) hq) hZ ?_
  ·exact(DK _ ⟨h.size+2,2+q*3,none⟩ ⟨h.size+2,2+q*3+1,none⟩ _ (by simp) ⟨v1,A7 (A7 e1)⟩).trans (A7 (A7 e2))
  ·exact(LJ _ ⟨h.size+2,2+q*3,none⟩ ⟨h.size+2,2+q*3+1,none⟩ _).trans f1
  refine BF ?_
  have k2:=k.SG Cg
  rw [<-hz1]at k2
  repeat(first|refine AH ?_|refine AE ?_|refine Bb ?_|refine AV ?_|refine BR (kd:=.i64) rfl (i64_in (by omega) (by omega)) ?_)
  refine Ah (again (q+1) _ _ (by omega) ⟨by omega,k2,?_,rfl⟩) ⟨rfl,rfl,trivial⟩
  have hu:=k.size
  refine⟨by simp only [IK,Array.size_push];omega,fun b hb _=>?_⟩
  rw [Cq _ _ _ (by dsimp only;omega),Cq _ _ _ (by dsimp only;omega)]
  exact(u.trans ((AN.push _ _).trans (AN.push _ _)):AN (fun _=>False) h ((h1.push (Ay 0)).push (Ay 0))).same b hb (fun x=>x)
 ·have e:q=16:=by omega
  subst e
  repeat(first|refine AI ?_|refine AH ?_|refine AE ?_|refine AV ?_|refine Aq ?_|refine Bg ?_|refine Am ?_|refine AQ ?_|refine B8 ?_)
  refine CL rfl ⟨rfl,u,rfl,k.obj,?_,?_,fun i hi=>k.JM i hi,fun i hi=>k.Tg i hi,fun i hi=>k.pf i hi,fun j hj=>k.cell j (by omega),?_,?_⟩
  ·exact k.Gs
  ·exact k.Gg
  ·intro i j _ _ Ta;unfold Hc at Ta;split at Ta <;> split at Ta <;> omega
  ·intro j _;unfold Hc;split <;> omega
end
end
section
open Go Go.TJ Go.Proofs
section
variable{Γ:Type}{main:Bool}{h:Hp}{δ:Ix Γ}{c:Nat}{B:Nat->Nat}{BL:Nat->Int}{FW:Nat->Value}
structure Acc(main:Bool)(δ:Ix Γ){σ:Type}(c:Nat)(B:Nat->Nat)(base:Nat)(m:Int)(vl:σ->Nat->Int)(fn:σ->Nat->Value)(Inv:σ->Nat->Hp->Prop):Prop where
 Jx:∀s r h,Inv s r h->KM h c B (vl s) (fn s)/\base<=h.size
 R3:∀s r h h',Inv s r h->AN (fun _=>False) h h'->Inv s r h'
 own:∀b,Own c B b->b<base
 ring:∀s r cI h i,Inv s r cI->AN (fun _=>False) cI h->r<64->lk (vl s) m 16=some i->0<=vl s (2+2*i)/\vl s (2+2*i)<=4611686018427387904/\∃g cap,fn s i= .func (.func g) #[] cap/\AT Tryz.prog g/\
  AY Tryz.prog main Fb g (#[.pointer none]++cap) (h.setIfInBounds (B (2+2*i)) (Ay (vl s (2+2*i)+1))) δ
   (CJ fun _ h' AW=>AW=δ/\AN (fun b=>b<cI.size) h h'/\(∃vl' xY,KM h' c B vl' xY)/\∃s',Inv s' (r+1) (h'.setIfInBounds (B (2+2*i)) (Ay (vl s (2+2*i)+2))))
theorem lP{σ:Type}{vl:σ->Nat->Int}{fn:σ->Nat->Value}{Inv:σ->Nat->Hp->Prop}{base:Nat}{d m:Int}{s0:σ}(k:KM h c B BL FW)(hb:BL 1=0)(hd:0<=d)(h0:0<=BL 0)(h1:BL 0<=4611686018427387904)
  (hm:BL 0+(if 4611686018427387904-BL 0<d then 4611686018427387904-BL 0 else d)=m) (A:Acc main δ c B base m vl fn Inv) (hi:Inv s0 0 ((h.setIfInBounds (B 1) (Ay 1)).setIfInBounds (B 0) (Ay m))):
  AY Tryz.prog main Fb 17 #[.pointer (some ⟨c,0,none⟩),.pointer none,.int .i64 d] h δ
   (CJ fun v h' AW=>AW=δ/\∃s,∃r:Nat,∃h1,r<=64/\Inv s r h1/\(lk (vl s) m 16=none\/r=64)/\h'=h1.setIfInBounds (B 1) (Ay 0)/\v= .tuple #[.int .i64 r,.int .i64 0]):=by
 have k1:=k.set (j:=1) (by omega) 1
 have hmb:0<=m/\m<=4611686018427387904:=by subst hm;split <;> omega
 refine CK (n:=101) ?_
 repeat(first|refine AI ?_|refine AH ?_|refine AE ?_|refine AV ?_|refine Aq ?_)
 refine Bx rfl (Nd k.Gs) ?_
 repeat(first|refine AI ?_|refine AH ?_|refine AE ?_|refine Ar ?_|refine AV ?_|refine Bc ?_|refine Az ?_|refine B9 ?_|refine Bg ?_|refine Am ?_)
 refine Av rfl k.Gg ?_
 (repeat refine AV ?_)
 refine Bx rfl (L2 (hb▸k.cell 1 (by omega)) (fun _ x=>x)) ?_
 repeat(first|refine AI ?_|refine AH ?_|refine AE ?_|refine Ar ?_|refine AV ?_|refine Bc ?_|refine Az ?_|refine B9 ?_|refine Am ?_)
 refine Av rfl k1.Gs ?_
 (repeat refine AV ?_)
 refine Bx rfl (SJ (k1.cell 0 (by omega))) ?_
 have e0:up BL 1 1 0=BL 0:=YD _ _ (by omega)
 rw [e0]
 repeat(first|refine AI ?_|refine AH ?_|refine AE ?_|refine AV ?_|refine Aq ?_|refine SM (kd:=.i64) rfl rfl rfl rfl (i64_in (by omega) (by omega)) ?_)
 refine VK rfl rfl rfl rfl rfl ?_
 refine BR (kd:=.i64) (r:=m) rfl (by rw [hm];exact i64_in (by omega) (by omega)) ?_
 repeat(first|refine AI ?_|refine AH ?_|refine AE ?_|refine AV ?_|refine Aq ?_|refine Bc ?_|refine Az ?_)
 refine Av rfl k1.Gs ?_
 (repeat refine AV ?_)
 refine Bx rfl (MK (x:=m) (k1.cell 0 (by omega)) (fun _ x=>x)) ?_
 repeat(first|refine AI ?_|refine AH ?_|refine AE ?_|refine Ak ?_|refine Aq ?_)
 refine B1 (fun s:σ×Nat=>[(9,.int .i64 s.2),(0,.pointer (some ⟨c,0,none⟩)),(1,.pointer none),(8,.int .i64 m)]) (fun s h' AW=>Inv s.1 s.2 h'/\AW=δ/\s.2<=64) (fun s=>64-s.2) (s0,0) ⟨rfl,rfl,rfl,rfl,trivial⟩ ⟨hi,rfl,by simp⟩ ?_
 rintro⟨s,r⟩ h2 _ ⟨hI,rfl,hr⟩ again
 dsimp only at hI hr again⊢
 obtain⟨k2,ow⟩:=A.Jx _ _ _ hI
 repeat(first|refine AI ?_|refine AH ?_|refine Ak ?_|refine AV ?_)
 refine BV rfl (dc k2) ?_
 rintro _ h3 _ ⟨u3,rfl,⟨hn,rfl⟩|⟨i,hn,rfl⟩⟩
 ·have pC:=A.R3 _ _ _ _ hI u3
  repeat(first|refine AV ?_|refine Eo ?_|refine Cn ?_)
  refine ET (AG h3 (Ec 0 0)) rfl rfl rfl rfl (by simp [OneCell]) (by simp [OneCell]) (fun _ x=>x) ?_
  rw [CC]
  have pB:=A.R3 _ _ _ _ pC (AN.push (T:=fun _=>False) h3 (Ec 0 0))
  have k4:=(A.Jx _ _ _ pB).1
  repeat(first|refine AI ?_|refine AH ?_|refine AE ?_|refine AV ?_|refine Aq ?_|refine Bc ?_|refine Az ?_|refine CW ?_|refine B9 ?_|refine Bl ?_|refine BU ?_|refine B8 ?_)
  refine Av rfl k4.Gg ?_
  (repeat refine AV ?_)
  refine Bx rfl (MK (x:=0) (k4.cell 1 (by omega)) (fun _ x=>x)) ?_
  repeat(first|refine AI ?_|refine AH ?_|refine AE ?_|refine AV ?_|refine Aq ?_|refine AQ ?_)
  exact EL rfl rfl rfl ⟨rfl,s,r,_,hr,pB,.inl hn,rfl,rfl⟩
 have pC:=A.R3 _ _ _ _ hI u3
 have pB:=A.R3 _ _ _ _ pC (AN.push (T:=fun _=>False) h3 (Ec i (vl s (2+2*i))))
 have k4:=(A.Jx _ _ _ pB).1
 obtain⟨WE,-,-⟩:=fe hn
 by_cases im:r=64
 ·subst im
  repeat(first|refine AV ?_|refine Eo ?_|refine Cn ?_)
  refine ET (AG h3 (Ec 0 0)) rfl rfl rfl rfl (by simp [OneCell]) (by simp [OneCell]) (fun _ x=>x) ?_
  rw [CC]
  repeat(first|refine AI ?_|refine AH ?_|refine AE ?_|refine AV ?_|refine Aq ?_|refine Bc ?_|refine Az ?_|refine B9 ?_|refine Bd ?_|refine Bs ?_|refine BU ?_|refine B8 ?_)
  refine Av rfl k4.Gg ?_
  (repeat refine AV ?_)
  refine Bx rfl (MK (x:=0) (k4.cell 1 (by omega)) (fun _ x=>x)) ?_
  repeat(first|refine AI ?_|refine AH ?_|refine AE ?_|refine AV ?_|refine Aq ?_|refine AQ ?_)
  exact EL rfl rfl rfl ⟨rfl,s,64,_,hr,pB,.inr rfl,rfl,rfl⟩
 obtain⟨ml,oL,g,cap,No,hg,VH⟩:=A.ring _ _ _ _ _ pC (AN.push (T:=fun _=>False) h3 (Ec i (vl s (2+2*i)))) (by omega) hn
 have nE:base<=h3.size:=(A.Jx _ _ _ pC).2
 have Cg:B (2+2*i)≠h3.size:=fun e=>by have:=A.own _ (.inr ⟨2+2*i,by omega,rfl⟩);omega
 have Ea:c≠h3.size:=fun e=>by have:=A.own _ (.inl rfl);omega
 have e0:AF (h3.push (Ec i (vl s (2+2*i)))) ⟨h3.size,0,none⟩=some (.int .i64 i):=AD (AG _ _) rfl
 have e1:AF (h3.push (Ec i (vl s (2+2*i)))) ⟨h3.size,1,none⟩=some (.int .i64 (vl s (2+2*i))):=AD (AG _ _) rfl
 repeat(first|refine AV ?_|refine Eo ?_|refine Cn ?_)
 refine ET (AG h3 (Ec 0 0)) rfl rfl rfl rfl (by simp [OneCell]) (by simp [OneCell]) (fun _ x=>x) ?_
 rw [CC]
 change ER _ _ _ _ _ _ _ _ _ _ (h3.push (Ec i (vl s (2+2*i)))) _ _
 generalize h3.push (Ec i (vl s (2+2*i)))=h4 at *
 repeat(first|refine AI ?_|refine AH ?_|refine AE ?_|refine Ar ?_|refine AV ?_|refine Aq ?_|refine B9 ?_|refine Bd ?_|refine Bg ?_|refine Am ?_)
 refine BO (fun h'=>h'=h4) ?_
 have hZ:h4=h4:=rfl
 refine AU 0 hZ ?_
 refine Ag 1 hZ ?_
 refine D8 2 rfl (by kernel_rfl) (fun _ hz=>hz▸e0) hZ ?_
 refine BE 3 hZ ?_
 refine Ag 4 hZ ?_
 refine MN 5 rfl (by kernel_rfl) rfl rfl rfl rfl rfl (by omega) (by omega) hZ ?_
 refine Dp 6 hZ ?_
 refine BF ?_
 (repeat refine AI ?_)
 refine BO (fun h'=>AF h' ⟨h3.size,1,none⟩=some (.int .i64 (vl s (2+2*i)))/\AF h' ⟨c,2+i*3,none⟩=some (.pointer (some ⟨B (2+2*i),0,none⟩))) ?_
 have hZ:=And.intro e1 (k4.JM i WE)
 refine AU 0 hZ ?_
 refine BE 1 hZ ?_
 refine Ag 2 hZ ?_
 refine A8 3 (fun _ hz=>hz.2) hZ ?_
 refine AU 4 hZ ?_
 refine Ag 5 hZ ?_
 refine A8 6 (fun _ hz=>hz.1) hZ ?_
 refine Ag 7 hZ ?_
 refine A8 8 (fun _ hz=>hz.1) hZ ?_
 refine EW (kd:=.i64) 9 rfl (by kernel_rfl) rfl rfl rfl rfl rfl (i64_in (by omega) (by omega)) hZ ?_
 refine Kd (kd:=.i64) 10 rfl (by kernel_rfl) rfl rfl rfl rfl rfl (i64_in (by omega) (by omega)) hZ ?_
 have xa:vl s (2+2*i)+3-2=vl s (2+2*i)+1:=by omega
 rw [xa]
 have k5:=k4.set (j:=2+2*i) (by omega) (vl s (2+2*i)+1)
 refine FE 11 rfl (by kernel_rfl) rfl rfl rfl rfl rfl rfl (L2 (k4.cell (2+2*i) (by omega)) (fun _ x=>x)) ⟨?_,k5.JM i WE⟩ ?_
 ·rw [CB _ Cg];exact e1
 have hZ:AF (h4.setIfInBounds (B (2+2*i)) (Ay (vl s (2+2*i)+1))) ⟨h3.size,1,none⟩=some (.int .i64 (vl s (2+2*i)))/\AF (h4.setIfInBounds (B (2+2*i)) (Ay (vl s (2+2*i)+1))) ⟨c,2+i*3,none⟩=some (.pointer (some ⟨B (2+2*i),0,none⟩)):=⟨by rw [CB _ Cg];exact e1,k5.JM i WE⟩
 refine KN 12 hZ ?_
 refine BF ?_
 repeat(first|refine AI ?_|refine AH ?_|refine Ar ?_|refine AV ?_|refine Bc ?_|refine Az ?_|refine Am ?_)
 have Db:=k5.pf i WE
 rw [No]at Db
 refine Av rfl Db ?_
 (repeat refine AV ?_)
 haveI:=hg
 refine BV rfl VH ?_
 rintro _ h5 _ ⟨rfl,u5,⟨_,_,k6⟩,s',pD⟩
 have e2:=u5.AF e1 (by dsimp only;omega)
 repeat(first|refine AI ?_|refine AE ?_)
 refine BO (fun h'=>AF h' ⟨h3.size,1,none⟩=some (.int .i64 (vl s (2+2*i)))/\AF h' ⟨c,2+i*3,none⟩=some (.pointer (some ⟨B (2+2*i),0,none⟩))) ?_
 have hZ:=And.intro e2 (k6.JM i WE)
 refine AU 0 hZ ?_
 refine BE 1 hZ ?_
 refine Ag 2 hZ ?_
 refine A8 3 (fun _ hz=>hz.2) hZ ?_
 refine AU 4 hZ ?_
 refine Ag 5 hZ ?_
 refine A8 6 (fun _ hz=>hz.1) hZ ?_
 refine EW (kd:=.i64) 7 rfl (by kernel_rfl) rfl rfl rfl rfl rfl (i64_in (by omega) (by omega)) hZ ?_
 refine Kd (kd:=.i64) 8 rfl (by kernel_rfl) rfl rfl rfl rfl rfl (i64_in (by omega) (by omega)) hZ ?_
 have xZ:vl s (2+2*i)+4-2=vl s (2+2*i)+2:=by omega
 rw [xZ]
 have k7:=k6.set (j:=2+2*i) (by omega) (vl s (2+2*i)+2)
 refine FE 9 rfl (by kernel_rfl) rfl rfl rfl rfl rfl rfl (MK (k6.cell (2+2*i) (by omega)) (fun _ x=>x)) ⟨?_,k7.JM i WE⟩ ?_
 ·rw [CB _ Cg];exact e2
 refine BF ?_
 repeat(first|refine AH ?_|refine AE ?_|refine Bb ?_|refine AV ?_|refine Aq ?_|refine BR (kd:=.i64) rfl (i64_in (by omega) (by omega)) ?_)
 exact Ah (again (s',r+1) _ _ (by dsimp only;omega) ⟨pD,rfl,by dsimp only;omega⟩) ⟨rfl,rfl,rfl,rfl,trivial⟩
end
end
section
open Go Go.TJ Go.Proofs
section
variable{Γ:Type}{main:Bool}{h:Hp}{δ:Ix Γ}{c:Nat}{B:Nat->Nat}{BL:Nat->Int}{FW:Nat->Value}
theorem KM.congr{h:Hp}{c:Nat}{B:Nat->Nat}{BL fW:Nat->Int}{FW N1:Nat->Value}(k:KM h c B BL FW)(hv:∀j,j<34->BL j=fW j)(hf:∀i,i<16->FW i=N1 i):KM h c B fW N1:=
 ⟨k.obj,k.Gs,k.Gg,k.JM,k.Tg,fun i hi=>hf i hi▸k.pf i hi,fun j hj=>hv j hj▸k.cell j hj,k.inj,k.fM⟩
theorem Yj{BL:Nat->Int}{m:Int}{i:Nat}:∀{n:Nat},i<n->(BL (2+2*i)).tmod 4=2->BL (3+2*i)<=m->(∀q,q<n->q≠i->(BL (2+2*q)).tmod 4≠2)->lk BL m n=some i
 | 0,h,_,_,_=>by omega
 | n+1,h,h2,hd,ho=>by
  unfold lk
  by_cases e:i=n
  ·subst e
   have hn:∀k,k<=i->lk BL m k=none:=by
    intro k
    induction k with
    | zero=>intro _;rfl
    | succ k ih=>intro hk;unfold lk;rw [if_neg (fun x=>ho k (by omega) (by omega) x.1)];exact ih (by omega)
   rw [if_pos ⟨h2,hd,fun b hb=>by rw [hn i (CY _)]at hb;cases hb⟩]
  ·rw [if_neg (fun x=>ho n (by omega) (fun y=>e y.symm) x.1)]
   exact Yj (by omega) h2 hd (fun q hq=>ho q (by omega))
theorem Nf{BL:Nat->Int}{m:Int}:∀{n:Nat},(∀q,q<n->(BL (2+2*q)).tmod 4≠2\/m<BL (3+2*q))->lk BL m n=none
 | 0,_=>rfl
 | n+1,ho=>by
  unfold lk
  rw [if_neg (fun x => by rcases ho n (by omega) with y | y; · exact y x.1
                          ·exact absurd x.2.1 (by omega))]
  exact Nf (fun q hq=>ho q (by omega))
abbrev MG(x:Int):Obj:=Xq (.int .i64 x) 3
theorem qv{p:Nat}{x:Int}{t:Value}(hb:h[p]?=some (MG x))(h0:0<=x)(h1:x<=1000):AY Tryz.prog main Fb 14 #[t,.pointer (some ⟨p,0,none⟩)] h δ (CJ (Gb (.tuple #[]) (h.setIfInBounds p (MG (x+1))) δ)):=by
 have e:=Sv (v:=.int .i64 (x+1)) hb
 refine CK (n:=5) ?_
 repeat(first|refine AH ?_|refine Df ?_|refine BR (kd:=.i64) rfl (i64_in (by omega) (by omega)) ?_)
 refine CS rfl (by simp [OneCell]) ⟨_,AD hb rfl⟩ (AS hb) (fun x=>x) ?_
 rw [e]
 (repeat refine AE ?_)
 refine FQ ?_
 exact Eu rfl El
def wv:Bool->Nat->Int
 | b=>fun j=>if j=0 then 9 else if j=1 then 1 else if j=2 then 4 else if j=3 then 5 else if j=4 then(if b then 4 else 2)else if j=5 then 3 else 0
def wf(p:Nat):Nat->Value:=fun i=>if i=0\/i=1 then .func (.func 14) #[] #[.pointer (some ⟨p,0,none⟩)]else .nilFunc
def wI(h0:Hp)(c:Nat)(B:Nat->Nat)(base p:Nat)(b:Bool)(r:Nat)(h:Hp):Prop:=
 r=(if b then 1 else 0)/\KM h c B (wv b) (wf p)/\h[p]?=some (MG (if b then 1 else 0))/\base<=h.size/\AN (fun _=>False) h0 h
theorem YB:lk (wv false) 9 16=some 1/\lk (wv true) 9 16=none:=by
 constructor
 ·refine Yj (by omega) rfl (by decide) (fun q hq B7=>?_)
  have:q=0\/2<=q:=by omega
  rcases this with rfl|x
  ·decide
  ·unfold wv;simp;repeat(rw [if_neg (by omega)])
   decide
 ·refine Nf (fun q hq=>.inl ?_)
  have:q=0\/q=1\/2<=q:=by omega
  rcases this with rfl|rfl|x
  ·decide
  ·decide
  ·unfold wv;simp;repeat(rw [if_neg (by omega)])
   decide
theorem xy{h0:Hp}{base p:Nat}(own:∀b,Own c B b->b<base)(hp:p<base)(U7:¬Own c B p)(ho:∀b,Own c B b\/b=p->h0.size<=b):Acc main δ c B base 9 wv (fun _=>wf p) (wI h0 c B base p):=by
 refine⟨fun s r h hi=>⟨hi.2.1,hi.2.2.2.1⟩,fun s r h h' hi u=>⟨hi.1,hi.2.1.upd u (fun _ x=>x.elim),u.get hi.2.2.1 (fun x=>x),Dt hi.2.2.2.1 u.size,hi.2.2.2.2.trans u⟩,own,fun s r cI h i hi uu hr hl=>?_⟩
 have oJ:=hi.2.2.2.1
 obtain⟨h1,k,hg,hz,hf⟩:wI h0 c B base p s r h:=⟨hi.1,hi.2.1.upd uu (fun _ x=>x.elim),uu.get hi.2.2.1 (fun x=>x),Dt hi.2.2.2.1 uu.size,hi.2.2.2.2.trans uu⟩
 have hs:s=false:=by cases s;rfl;rw [YB.2]at hl;cases hl
 subst hs
 rw [YB.1]at hl
 cases hl
 have Cg:B (2+2*1)≠p:=fun e=>U7 (.inr ⟨_,by omega,e.symm⟩)
 have k1:=k.set (j:=2+2*1) (by omega) (wv false (2+2*1)+1)
 have hg1:(h.setIfInBounds (B (2+2*1)) (Ay (wv false (2+2*1)+1)))[p]?=some (MG 0):=by rw [AX _ Cg];exact hg
 refine⟨by decide,by decide,_,_,rfl,inferInstance,(qv hg1 (by omega) (by omega)).mono ?_⟩
 rintro(v|p) h' AW hq
 rotate_left
 ·exact hq.elim
 obtain⟨-,rfl,rfl⟩:=hq
 have u1:AN (fun b=>b<base) h (h.setIfInBounds (B (2+2*1)) (Ay (wv false (2+2*1)+1))):=AN.set _ _ _ (own _ (.inr ⟨_,by omega,rfl⟩))
 have u2:=u1.trans (AN.set (T:=fun b=>b<base) (h.setIfInBounds (B (2+2*1)) (Ay (wv false (2+2*1)+1))) p (MG (0+1)) hp)
 have k2:=k1.upd (AN.set (T:=fun b=>b=p) _ p (MG (0+1)) rfl) (fun b hb=>hb▸U7)
 refine⟨rfl,u2.mono (fun b _ hb=>Nat.lt_of_lt_of_le hb oJ),⟨_,_,k2⟩,true,(by rw [show r=0 from h1];rfl),(k2.set (j:=2+2*1) (by omega) (wv false (2+2*1)+2)).congr (fun j _=>?_) (fun i _=>rfl),?_,by simpa using hz,hf.over ((AN.set (T:=fun b=>Own c B b\/b=p) _ _ _ (.inl (.inr ⟨_,by omega,rfl⟩))).trans ((AN.set _ _ _ (.inr rfl)).trans (AN.set _ _ _ (.inl (.inr ⟨_,by omega,rfl⟩))))) ho⟩
 ·unfold up wv
  by_cases e0:j=4
  ·subst e0;rfl
  ·simp [e0]
 ·rw [AX _ Cg];exact AJ hg1
theorem ZJ:AY Tryz.prog main Fb 6 #[] h δ (CJ fun v h' AW=>v= .bool true/\AN (fun _=>False) h h'/\AW=δ):=by
 refine CK (n:=66) ?_
 repeat(first|refine AI ?_|refine AH ?_|refine AE ?_|refine Aq ?_)
 refine BV rfl Yg ?_
 rintro _ h1 _ ⟨rfl,u1,rfl,k1⟩
 have hN:h.size+35<=h1.size:=by have:=Ap (k1.cell 33 (by omega));unfold Hc at this;simp at this;omega
 generalize hB:Hc h.size=B at k1
 have own:∀b,Own (h.size+2) B b->h.size<=b/\b<h.size+35:=fun b hb=>by
  subst hB
  rcases hb with rfl|⟨j,hj,rfl⟩
  ·omega
  ·unfold Hc;split <;> omega
 generalize hc:h.size+2=c at *
 repeat(first|refine AI ?_|refine AH ?_|refine AE ?_|refine Aq ?_|refine OB rfl rfl ?_)
 refine OR rfl rfl rfl rfl (by simp [OneCell]) (fun x=>x) ?_
 have u2:AN (fun _=>False) h1 (h1.push (MG 0)):=AN.push _ _
 have k2:=k1.upd u2 (fun _ x=>x.elim)
 have g2:(h1.push (MG 0))[h1.size]?=some (MG 0):=AG _ _
 generalize hp:h1.size=p at *
 change ER _ _ _ _ _ _ _ _ _ _ (h1.push (MG 0)) _ _
 have oI:(h1.push (MG 0)).size=p+1:=by simp [hp]
 generalize h1.push (MG 0)=h2 at *
 have U7:¬Own c B p:=fun x=>by have:=own _ x;omega
 repeat(first|refine AI ?_|refine AH ?_|refine AE ?_)
 refine mH rfl rfl rfl rfl rfl rfl ?_
 repeat(first|refine AI ?_|refine AH ?_|refine AE ?_|refine AV ?_|refine Aq ?_)
 refine BV rfl (Yd (i:=0) k2 (by omega) (by omega) (by omega) (fun q hq=>by omega) rfl (by omega) (by omega)) ?_
 rintro _ h3 _ ⟨rfl,u3,rfl,k3⟩
 have g3:=u3.get g2 U7
 repeat(first|refine AV ?_|refine Eo ?_|refine Cn ?_)
 refine ZD rfl rfl rfl rfl (by simp [OneCell]) (by simp [OneCell]) (fun _ x=>x) ?_
 have u4:AN (fun _=>False) h3 (h3.push (Ec 0 2)):=AN.push _ _
 have k4:=k3.upd u4 (fun _ x=>x.elim)
 have g4:=u4.get g3 (fun x=>x)
 have t4:(h3.push (Ec 0 2))[h3.size]?=some (Ec 0 2):=AG _ _
 change ER _ _ _ _ _ _ _ _ _ _ (h3.push (Ec 0 2)) _ _
 have hz3:p+1<=h3.size:=oI▸u3.size
 generalize hq:h3.size=q at *
 have hz4:(h3.push (Ec 0 2)).size=q+1:=by simp [hq]
 generalize h3.push (Ec 0 2)=h4 at *
 have mq:¬Own c B q:=fun x=>by have:=own _ x;omega
 repeat(first|refine AI ?_|refine AH ?_|refine AE ?_|refine AV ?_|refine Aq ?_)
 refine BV rfl (Yd (i := 1) k4 (by omega) (by omega) (by omega) (fun q hq => by have : q = 0 := by omega
                                                                                                    subst this;decide) rfl (by decide) (by decide)) ?_
 rintro _ h5 _ ⟨rfl,u5,rfl,k5⟩
 have g5:=u5.get g4 U7
 have t5:=u5.get t4 mq
 repeat(first|refine AV ?_|refine Eo ?_|refine Cn ?_)
 refine ZD rfl rfl rfl rfl (by simp [OneCell]) (by simp [OneCell]) (fun _ x=>x) ?_
 have u6:AN (fun _=>False) h5 (h5.push (Ec 1 2)):=AN.push _ _
 have k6:=k5.upd u6 (fun _ x=>x.elim)
 have g6:=u6.get g5 (fun x=>x)
 have t6:=u6.get t5 (fun x=>x)
 have s6:(h5.push (Ec 1 2))[h5.size]?=some (Ec 1 2):=AG _ _
 change ER _ _ _ _ _ _ _ _ _ _ (h5.push (Ec 1 2)) _ _
 have hz5:q+1<=h5.size:=hz4▸u5.size
 generalize hr:h5.size=r at *
 have hz6:(h5.push (Ec 1 2)).size=r+1:=by simp [hr]
 generalize h5.push (Ec 1 2)=h6 at *
 have hrn:¬Own c B r:=fun x=>by have:=own _ x;omega
 repeat(first|refine AI ?_|refine AH ?_|refine AE ?_|refine AV ?_|refine Aq ?_)
 refine C5 (vs:=[.int .i64 0,.int .i64 2]) rfl (Gh t6) ?_
 refine BV rfl (Sd (s:=0) k6 (by omega) (by decide) (by decide)) ?_
 rintro _ h7 _ ⟨rfl,⟨hv,-,-⟩|⟨-,rfl,u7,k7⟩⟩
 ·exact absurd rfl hv
 have k7:=k7 (by decide)
 have g7:=u7.get g6 U7
 have t7:=u7.get t6 mq
 have s7:=u7.get s6 hrn
 repeat(first|refine AV ?_|refine B9 ?_)
 refine C5 (vs:=[.int .i64 0,.int .i64 2]) rfl (Gh t7) ?_
 refine BV rfl (Sd (s:=0) k7 (by omega) (by decide) (by decide)) ?_
 rintro _ h8 AW ⟨DL,hh⟩
 subst DL
 obtain⟨-,rfl,u8⟩:=hh.resolve_right (fun x=>absurd x.1 (by decide))
 have k8:=k7.upd u8 (fun _ x=>x.elim)
 have g8:=u8.get g7 (fun x=>x)
 have s8:=u8.get s7 (fun x=>x)
 repeat(first|refine AV ?_|refine Bd ?_|refine Bg ?_)
 refine C5 (vs:=[.int .i64 1,.int .i64 2]) rfl (Gh s8) ?_
 refine Cr (cells:=#[.int .i64 1,.int .i64 2]) rfl rfl rfl rfl ?_
 repeat(first|refine AI ?_|refine AH ?_|refine AE ?_|refine Ar ?_|refine AV ?_|refine mG rfl rfl rfl rfl rfl ?_|refine Bd ?_|refine Am ?_)
 have hz8:r<h8.size:=Ap s8
 have ow:∀b,Own c B b->b<h8.size:=fun b hb=>by have:=own _ hb;omega
 have kc:KM h8 c B (fun j=>if j<2 then 0 else wv false j) (wf p):=k8.congr (fun j _=>by
   unfold up wv
   by_cases e0:j=0;· subst e0;rfl
   by_cases e1:j=1;· subst e1;rfl
   by_cases e2:j=2;· subst e2;rfl
   by_cases e3:j=3;· subst e3;rfl
   by_cases e4:j=4;· subst e4;rfl
   by_cases e5:j=5;· subst e5;rfl
   simp [e0,e1,e2,e3,e4,e5]) (fun i _=>by
   unfold up wf
   by_cases e0:i=0;· subst e0;rfl
   by_cases e1:i=1;· subst e1;rfl
   simp [e0,e1])
 have ho:∀b,Own c B b\/b=p->h.size<=b:=fun b hb=>by
  rcases hb with x|x
  ·exact(own _ x).1
  ·omega
 have w1:AN (fun _=>False) h h3:=(u1.trans u2).over u3 (fun b hb=>(own _ hb).1)
 have w2:AN (fun _=>False) h h5:=(w1.trans u4).over u5 (fun b hb=>(own _ hb).1)
 have w3:AN (fun _=>False) h h8:=((w2.trans u6).over u7 (fun b hb=>(own _ hb).1)).trans u8
 have zP:=lP (main:=main) (δ:=AW) (d:=9) (m:=9) (s0:=false) (vl:=wv) (fn:=fun _=>wf p) (Inv:=wI h c B h8.size p) kc rfl (by omega) (by decide) (by decide) rfl (xy (h0:=h) (base:=h8.size) (p:=p) ow (by omega) U7 ho) (by
  refine⟨rfl,((kc.set (j:=1) (by omega) 1).set (j:=0) (by omega) 9).congr (fun j _=>?_) (fun i _=>rfl),?_,by simp,w3.over ((AN.set (T:=Own c B) _ _ _ (.inr ⟨_,by omega,rfl⟩)).trans (AN.set _ _ _ (.inr ⟨_,by omega,rfl⟩))) (fun b hb=>(own _ hb).1)⟩
  ·unfold up wv
   by_cases e0:j=0;· subst e0;rfl
   by_cases e1:j=1;· subst e1;rfl
   simp [e0,e1];intro;omega
  ·rw [AX _ (fun x=>U7 (.inr ⟨0,by omega,x.symm⟩)),AX _ (fun x=>U7 (.inr ⟨1,by omega,x.symm⟩))];exact g8)
 refine BV rfl zP ?_
 rintro _ h9 _ ⟨rfl,s,r',Gq,AFO,⟨hrs,ax,LP,AFG,w10⟩,uK,rfl,rfl⟩
 have hs:s=true:=by
  cases s
  ·rcases uK with x|x
   ·rw [YB.1]at x;cases x
   ·simp at hrs;omega
  ·rfl
 subst hs
 have M0:r'=1:=hrs
 subst M0
 have uv:(Gq.setIfInBounds (B 1) (Ay 0))[p]?=some (MG 1):=by rw [AX _ (fun x=>U7 (.inr ⟨1,by omega,x.symm⟩))];exact LP
 have au:=ax.set (j:=1) (by omega) 0
 repeat(first|refine AI ?_|refine AH ?_|refine AE ?_|refine AV ?_|refine Aq ?_|refine Df ?_|refine Bl ?_|refine Eo ?_|refine Bs ?_)
 refine Bx rfl (kX au) ?_
 repeat(first|refine AE ?_|refine Aq ?_|refine Bl ?_|refine Bs ?_|refine AQ ?_)
 exact CL rfl ⟨rfl,w10.over (AN.set (T:=Own c B) _ _ _ (.inr ⟨1,by omega,rfl⟩)) (fun b hb=>(own _ hb).1),rfl⟩
end
end
section
open Go Go.TJ Go.Conc Go.Proofs
def ES(pl:List Value)(a b c:Value):Obj:=.cells (pl++[a,b,c]).toArray 71 (0,0)
abbrev GK(pl:List Value):Obj:=.cells pl.toArray 25 (0,0)
def F2(y i:Nat):List Value:=(List.range 64).map fun t=>if t<i then ptr (y+3+t)else .pointer none
theorem Ur{y i:Nat}(hi:i<64):(F2 y i).set i (ptr (y+3+i))=F2 y (i+1):=by
 apply List.ext_getElem?
 intro j
 by_cases e:i=j
 ·subst e
  rw [List.getElem?_set_self (by simp [F2];exact hi)]
  unfold F2
  rw [EQ,List.getElem?_range hi]
  simp
 ·rw [OD e]
  unfold F2
  rw [EQ,EQ]
  by_cases hj:j<64
  ·rw [List.getElem?_range hj]
   simp only [Option.map_some]
   by_cases h1:j<i
   ·rw [if_pos h1,if_pos (by omega)]
   ·rw [if_neg h1,if_neg (by omega)]
  ·rw [List.getElem?_eq_none (by simp;omega)];rfl
theorem UO{pl:List Value}{a b c v:Value}(hl:pl.length=13):(pl++[a,b,c]).set 14 v=pl++[a,v,c]:=by
 rw [List.set_append_right (h:=by omega),hl];rfl
theorem UN{pl:List Value}{a b c v:Value}(hl:pl.length=13):(pl++[a,b,c]).set 15 v=pl++[a,b,v]:=by
 rw [List.set_append_right (h:=by omega),hl];rfl
theorem GV{pl:List Value}{a b c:Value}(hl:pl.length=13):(pl++[a,b,c])[13]?=some a/\(pl++[a,b,c])[14]?=some b/\(pl++[a,b,c])[15]?=some c:=by
 refine⟨?_,?_,?_⟩ <;> rw [IB (by omega),hl] <;> rfl
section
variable{Γ:Type}{main:Bool}{h h':Hp}{δ:Ix Γ}
structure NW(h0 h:Hp)(pl:List Value)(W nK nC:Nat)(hb K C:Nat->Nat)(B:Nat->Nat->Nat)(Hs Ks Cs:Value):Prop where
 w:h[W]?=some (ES pl Hs Ks Cs)
 sH:AR h Hs 76 1 64 ((List.range 64).map fun t=>ptr (hb t))
 IM:∀t,t<64->h[hb t]?=some (G3 (.pointer none) AK)
 uY:∀t t',hb t=hb t'->t=t'
 sK:AR h Ks 90 1 nK ((List.range nK).map fun k=>ptr (K k))
 kc:∀k,k<nK->h[K k]?=some (Ay 0)
 sC:AR h Cs 46 1 nC ((List.range nC).map fun k=>ptr (C k))
 ck:∀i,i<nC->KM h (C i) (B i) (fun _=>0) (fun _=>.nilFunc)
 Bi:∀i j i' j',i<nC->j<34->i'<nC->j'<34->B i j=B i' j'->i=i'/\j=j'
 KB:∀k i j,k<nK->i<nC->j<34->K k≠B i j
 Ci:∀i j,i<nC->j<nC->C i=C j->i=j
 Ki:∀i j,i<nK->j<nK->K i=K j->i=j
 up:AN (fun _=>False) h0 h
 lo:h0.size<=W/\(∀t,h0.size<=hb t)/\(∀k,k<nK->h0.size<=K k)/\(∀i,i<nC->h0.size<=C i/\∀j,j<34->h0.size<=B i j)/\(∀b,blk Hs=some b->h0.size<=b)/\(∀b,blk Ks=some b->h0.size<=b)/\∀b,blk Cs=some b->h0.size<=b
theorem Wv{V K3 K7 K8 K9 K10 K11 K12:Value}{i1 i2 i5:Int}{nC nK:Nat}{pl:List Value}(Qk:pl=[V,.int .i64 i1,.int .i64 i2,K3,.int .i64 nC,.int .i64 i5,.int .i64 nK,K7,K8,K9,K10,K11,K12])(XY:nC<=3)(bZ:nK<=3):
  AY Tryz.prog main (Fb (Γ:=Γ)) 19 #[.agg pl.toArray] h δ (CJ fun w h' AW=>AW=δ/\∃(W:Nat) (hb K C:Nat->Nat) (B:Nat->Nat->Nat) (Hs Ks Cs:Value),w=ptr W/\NW h h' pl W nK nC hb K C B Hs Ks Cs):=by
 have Ny:pl.length=13:=by rw [Qk];rfl
 obtain⟨y,hy⟩:∃y,y=h.size:=⟨_,rfl⟩
 have z0:(h.push (GK pl))[y]?=some (GK pl):=by rw [hy];exact AG _ _
 refine CK (n:=61) ?_
 refine AI ?_
 refine AH ?_
 refine DO ?_
 repeat(first|refine AI ?_|refine AE ?_|refine Aq ?_)
 change EK _ _ _ _ _ _ _ _ (h.push (GK pl)) _ _
 have s0:(h.push (GK pl)).size=y+1:=by rw [CH,hy]
 refine BO (fun h'=>TJ.A0 h' y 0 pl) ?_
 have hZ:TJ.A0 (h.push (GK pl)) y 0 pl:=CA (vs:=pl) (rest:=[]) (by rw [DI];exact z0)
 refine EP (vs:=pl) 0 rfl (by kernel_rfl) rfl rfl rfl (by rw [hy];rfl) Ny (fun _ hz=>hz) hZ ?_
 have z1:((h.push (GK pl)).push (.cells (List.replicate 64 (.pointer none)).toArray 76))[y]?=some (GK pl):=Ao _ z0
 have s1:((h.push (GK pl)).push (.cells (List.replicate 64 (.pointer none)).toArray 76)).size=y+2:=by rw [CH,s0]
 have g1:((h.push (GK pl)).push (.cells (List.replicate 64 (.pointer none)).toArray 76))[y+1]?=some (.cells (F2 y 0).toArray 76 (0,0)):=by
  rw [<-s0];exact AG _ _
 have M0:TJ.A0 ((h.push (GK pl)).push (.cells (List.replicate 64 (.pointer none)).toArray 76)) y 0 pl:=CA (vs:=pl) (rest:=[]) (by rw [DI];exact z1)
 have u1:AN (fun _=>False) h ((h.push (GK pl)).push (.cells (List.replicate 64 (.pointer none)).toArray 76)):=(AN.push _ _).trans (AN.push _ _)
 refine CQ (v:=.slice (some ⟨y+1,0,none⟩) 64 64) (h':=(h.push (GK pl)).push (.cells (List.replicate 64 (.pointer none)).toArray 76)) 1 rfl (by kernel_rfl) (fun ρ Q X Aa hq=>by
  rw [<-s0]at hq
  exact Jp (m:=64) (z:=.pointer none) (Aa _ _ rfl) (Aa _ _ rfl) (by omega) (by omega) rfl hq) M0 ?_
 generalize (h.push (GK pl)).push (.cells (List.replicate 64 (.pointer none)).toArray 76)=h1 at z1 s1 g1 M0 u1⊢
 refine CQ (v:=.agg (pl++[.slice (some ⟨y+1,0,none⟩) 64 64,AK,AK]).toArray) (h':=h1) 2 rfl (by kernel_rfl) (fun ρ Q X Aa hq=>De (parts:=[(0,.agg pl.toArray),(1,.slice (some ⟨y+1,0,none⟩) 64 64)]) Aa rfl (by subst Qk;kernel_rfl) hq) M0 ?_
 have u2:=u1.trans (AN.push (T:=fun _=>False) h1 (ES pl (.slice (some ⟨y+1,0,none⟩) 64 64) AK AK))
 have s2:(h1.push (ES pl (.slice (some ⟨y+1,0,none⟩) 64 64) AK AK)).size=y+3:=by rw [CH,s1]
 have g2:(h1.push (ES pl (.slice (some ⟨y+1,0,none⟩) 64 64) AK AK))[y+2]?=some (ES pl (.slice (some ⟨y+1,0,none⟩) 64 64) AK AK):=by rw [<-s1];exact AG _ _
 have z2:=Ao (o:=ES pl (.slice (some ⟨y+1,0,none⟩) 64 64) AK AK) z1
 have Gn:=Ao (o:=ES pl (.slice (some ⟨y+1,0,none⟩) 64 64) AK AK) g1
 have hZ:TJ.A0 (h1.push (ES pl (.slice (some ⟨y+1,0,none⟩) 64 64) AK AK)) y 0 pl:=CA (vs:=pl) (rest:=[]) (by rw [DI];exact z2)
 refine CQ (v:=ptr (y+2)) (h':=h1.push (ES pl (.slice (some ⟨y+1,0,none⟩) 64 64) AK AK)) 3 rfl (by kernel_rfl) (fun ρ Q X Aa hq=>by
  rw [<-s1]at hq
  exact Sj (Aa _ _ rfl) hq) hZ ?_
 generalize h1.push (ES pl (.slice (some ⟨y+1,0,none⟩) 64 64) AK AK)=h2 at u2 s2 g2 z2 Gn hZ⊢
 refine Dp 4 hZ ?_
 refine BF ?_
 clear z0 s0 z1 s1 g1 M0 u1 hZ
 repeat(first|refine AI ?_|refine AH ?_|refine AE ?_|refine Ak ?_|refine Aq ?_)
 rw [<-hy]
 refine B1 (fun i:Nat=>[(4,.int .i64 i),(3,ptr (y+2)),(1,ptr y)]) (fun i h' AW=>AW=δ/\i<=64/\AN (fun _=>False) h h'/\h'.size=y+3+i/\h'[y]?=some (GK pl)/\h'[y+1]?=some (.cells (F2 y i).toArray 76 (0,0))/\h'[y+2]?=some (ES pl (.slice (some ⟨y+1,0,none⟩) 64 64) AK AK)/\∀t,t<i->h'[y+3+t]?=some (G3 (.pointer none) AK)) (fun i=>64-i) 0 ⟨rfl,rfl,rfl,trivial⟩ ⟨rfl,Bv _,u2,s2,z2,Gn,g2,fun t ht=>by omega⟩ ?_
 clear u2 s2 g2 z2 Gn h2 h1
 rintro i h2 H0 ⟨yc,hi,u2,s2,z2,g1,g2,gh⟩ again
 obtain rfl:δ=H0:=yc.symm
 have Rm:AF h2 ⟨y+2,13,none⟩=some (.slice (some ⟨y+1,0,none⟩) 64 64):=AD g2 (by simp [(GV Ny).1])
 by_cases ba:i<64
 ·repeat(first|refine AI ?_|refine AH ?_|refine AE ?_|refine Ar ?_|refine Ak ?_|refine AV ?_|refine Bc ?_|refine Az ?_|refine Bs ?_|refine BN ?_|refine BU ?_|refine Av rfl (by assumption) ?_)
  refine Ep (cells:=#[.pointer none,AK,AK]) ?_
  repeat(first|refine DO ?_|refine Cd ?_)
  change ER _ _ _ _ _ _ _ _ _ _ (h2.push (G3 (.pointer none) AK)) _ _
  have uw:=Ao (o:=G3 (.pointer none) AK) g1
  refine CS rfl (by simp [OneCell]) ⟨.pointer none,AD uw (by simp [F2,ba])⟩ (AS uw) (fun x=>x) ?_
  rw [As uw]
  change ER _ _ _ _ _ _ _ _ _ _ ((h2.push (G3 (.pointer none) AK)).setIfInBounds (y+1) (.cells ((F2 y i).toArray.setIfInBounds (0+i*1) (ptr h2.size)) 76 (0,0))) _ _
  have rU:(F2 y i).toArray.setIfInBounds (0+i*1) (ptr h2.size)=(F2 y (i+1)).toArray:=by
   rw [show(0:Nat)+i*1=i by omega,s2,List.setIfInBounds_toArray,Ur (y:=y) ba]
  rw [rU]
  change ER _ _ _ _ _ _ _ _ _ _ ((h2.push (G3 (.pointer none) AK)).setIfInBounds (y+1) (.cells (F2 y (i+1)).toArray 76 (0,0))) _ _
  have Ey:h.size<=y+1:=by omega
  repeat(first|refine AH ?_|refine AE ?_|refine Bb ?_|refine AV ?_|refine Aq ?_|refine BR (kd:=.i64) rfl (i64_in (by omega) (by omega)) ?_)
  refine Ah (again (i+1) _ _ (by omega) ⟨rfl,by omega,A2 (u2.trans (AN.push _ (G3 (.pointer none) AK))) (AN.set (T:=fun b=>b=y+1) _ _ _ rfl) (fun b hb e=>by omega),by rw [JY,CH,s2];omega,?_,AJ uw,?_,fun t ht=>?_⟩) ⟨rfl,rfl,rfl,trivial⟩
  ·rw [AX _ (by omega)];exact Ao _ z2
  ·rw [AX _ (by omega)];exact Ao _ g2
  ·rw [AX _ (by omega)]
   by_cases e:t=i
   ·subst e
    rw [<-s2];exact AG _ _
   ·exact Ao _ (gh t (by omega))
 ·obtain rfl:i=64:=by omega
  clear again
  have lo:h.size<=y:=by omega
  have f6:∀{h':Hp},h'[y]?=some (GK pl)->AF h' ⟨y,6,none⟩=some (.int .i64 nK):=fun z=>AD z (by rw [Qk];rfl)
  have f4:∀{h':Hp},h'[y]?=some (GK pl)->AF h' ⟨y,4,none⟩=some (.int .i64 nC):=fun z=>AD z (by rw [Qk];rfl)
  have zv:y+2≠y:=by omega
  repeat(first|refine AI ?_|refine AH ?_|refine AE ?_|refine Ak ?_|refine AV ?_|refine Aq ?_|refine Bc ?_|refine Az ?_|refine Bg ?_|refine BN ?_|refine Am ?_|refine B8 ?_|refine Av rfl (by assumption) ?_)
  refine B1 (fun q:Nat×Value×(Nat->Nat)=>[(5,.int .i64 q.1),(3,ptr (y+2)),(1,ptr y)]) (fun q h' AW=>AW=δ/\q.1<=nK/\AN (fun b=>b=y+2) h2 h'/\h'[y+2]?=some (ES pl (.slice (some ⟨y+1,0,none⟩) 64 64) q.2.1 AK)/\AR h' q.2.1 90 1 q.1 ((List.range q.1).map fun k=>ptr (q.2.2 k))/\(∀b,blk q.2.1=some b->h2.size<=b)/\(∀k,k<q.1->h2.size<=q.2.2 k/\h'[q.2.2 k]?=some (Ay 0))/\∀k k',k<q.1->k'<q.1->q.2.2 k=q.2.2 k'->k=k') (fun q=>nK-q.1) (0,AK,fun _=>0) ⟨rfl,rfl,rfl,trivial⟩ ⟨rfl,Bv _,AN.refl _ _,g2,AR.nil,fun b e=>(by cases e),fun k hk=>by omega,fun k k' hk=>by omega⟩ ?_
  rintro⟨q,sK,K⟩ h3 H0 ⟨yb,hq,u3,gw,Me,NT,fF,wC⟩ again
  obtain rfl:δ=H0:=yb.symm
  dsimp only at hq u3 gw Me NT fF wC again⊢
  have z3:h3[y]?=some (GK pl):=u3.get z2 (Ne.symm zv)
  have c6:=f6 z3
  by_cases mq:q<nK
  ·repeat(first|refine AI ?_|refine AH ?_|refine AE ?_|refine Ar ?_|refine Ak ?_|refine AV ?_|refine Az ?_|refine Bs ?_|refine BU ?_|refine Av rfl (by assumption) ?_)
   have c14:AF h3 ⟨y+2,14,none⟩=some sK:=AD gw (by simp [(GV Ny).2.1])
   have sz3:=u3.size
   have xR:=Ao (o:=.cells #[ptr h3.size] 90 (0,0)) (Ao (o:=Ay 0) gw)
   have mQ:=(Me.upd (AN.push (T:=fun _=>False) h3 (Ay 0)) (fun _ _ x=>x)).upd (AN.push (T:=fun _=>False) (h3.push (Ay 0)) (.cells #[ptr h3.size] 90)) (fun _ _ x=>x)
   refine D7 (fun h'=>AF h' ⟨y+2,14,none⟩=some sK) 10 ?_
   have hZ:=c14
   refine AU 0 hZ ?_
   refine AU 1 hZ ?_
   refine BE 2 hZ ?_
   refine Ag 3 hZ ?_
   refine A8 4 (fun _ hz=>hz) hZ ?_
   refine FE 5 rfl (by kernel_rfl) rfl rfl rfl rfl rfl rfl X2 (A7 hZ) ?_
   refine CQ (v:=.slice (some ⟨(h3.push (Ay 0)).size,0,none⟩) 1 1) (h':=(h3.push (Ay 0)).push (.cells #[ptr h3.size] 90)) 6 rfl (by kernel_rfl) (fun ρ Q X Aa hq=>BW (sz:=1) Aa rfl (by omega) (by omega) rfl rfl hq) (A7 (A7 hZ)) ?_
   refine F5 (new:=[ptr h3.size]) 7 rfl (by kernel_rfl) rfl rfl rfl rfl rfl mQ (AG _ _) rfl (by simp [OneCell]) (by omega) (by omega) rfl (fun _ _ _ x=>x) ?_
   intro s' h5 HY u5 MB
   have iq:=u5.get xR (fun x=>by have:=NT _ x;omega)
   have c5:AF h5 ⟨y+2,14,none⟩=some sK:=AD iq (by simp [(GV Ny).2.1])
   obtain⟨a5,k5,es5⟩:=HY.val
   refine⟨c5,?_⟩
   refine CQ 8 rfl (by kernel_rfl) (fun ρ Q X Aa hq=>BY (Aa _ _ rfl) hq) c5 ?_
   refine CQ (v:=.pointer (some ⟨y+2,14,none⟩)) (h':=h5) 9 rfl (by kernel_rfl) (fun ρ Q X Aa hq=>Ce (Aa _ _ rfl) hq) c5 ?_
   refine D6 (h':=Af h5 ⟨y+2,14,none⟩ s') 10 rfl (by kernel_rfl) rfl rfl rfl (fun ρ Q X Aa hq=>BG (Aa _ _ rfl) (Aa _ _ rfl) (by rw [es5];exact⟨nofun,nofun⟩) ⟨_,c5⟩ (AS iq) (fun x=>x) hq) ?_
   refine BF ?_
   have e14:Af h5 ⟨y+2,14,none⟩ s'=h5.setIfInBounds (y+2) (ES pl (.slice (some ⟨y+1,0,none⟩) 64 64) s' AK):=by
    have jr:(pl++[Value.slice (some ⟨y+1,0,none⟩) 64 64,sK,AK]).toArray.setIfInBounds 14 s'=(pl++[Value.slice (some ⟨y+1,0,none⟩) 64 64,s',AK]).toArray:=by rw [List.setIfInBounds_toArray,UO Ny]
    rw [As iq]
    unfold ES
    rw [jr]
   rw [e14]
   have uB:AN (fun b=>b=y+2) h2 ((h3.push (Ay 0)).push (.cells #[ptr h3.size] 90)):=(u3.trans (AN.push _ _)).trans (AN.push _ _)
   have u6:AN (fun b=>b=y+2) h2 (h5.setIfInBounds (y+2) (ES pl (.slice (some ⟨y+1,0,none⟩) 64 64) s' AK)):=(A2 uB u5 fun b hb hx=>by have:=NT b hx;omega).trans (AN.set _ _ _ rfl)
   have Tb:∀b,blk s'=some b->h2.size<=b:=fun b hb=>by
    rcases MB b hb with x|x
    ·exact NT b x
    ·rw [x,CH,CH];omega
   have hcB:∀k,k<q+1->h2.size<=ut K q h3.size k/\((h3.push (Ay 0)).push (.cells #[ptr h3.size] 90))[ut K q h3.size k]?=some (Ay 0):=fun k hk=>by
    by_cases e:k=q
    ·subst e
     rw [AL]
     exact⟨sz3,Ao _ (AG _ _)⟩
    ·rw [Ai _ _ e]
     obtain⟨x1,x2⟩:=fF k (by omega)
     exact⟨x1,Ao _ (Ao _ x2)⟩
   repeat(first|refine AH ?_|refine AE ?_|refine Bb ?_|refine AV ?_|refine Aq ?_|refine BR (kd:=.i64) rfl (i64_in (by omega) (by omega)) ?_)
   refine Ah (again (q+1,s',ut K q h3.size) _ _ (by dsimp only;omega) ⟨rfl,by dsimp only;omega,u6,AJ iq,?_,Tb,fun k hk=>⟨(hcB k hk).1,?_⟩,fun k k' hk Dh e=>?_⟩) ⟨rfl,rfl,rfl,trivial⟩
   ·have er:(List.range (q+1)).map (fun k=>ptr (ut K q h3.size k))=(List.range q).map (fun k=>ptr (K k))++[ptr h3.size]:=by
     rw [List.range_succ,EF]
     congr 1
     ·refine QC fun k hk=>?_
      rw [Ai _ _ (by have:=Iv.1 hk;omega)]
     ·simp [AL]
    show AR _ s' _ 1 (q+1) ((List.range (q+1)).map fun k=>ptr (ut K q h3.size k))
    rw [er]
    exact HY.upd (AN.set (T:=fun b=>b=y+2) _ _ _ rfl) fun b hb e=>by have:=Tb b hb;omega
   ·obtain⟨x1,x2⟩:=hcB k hk
    have x3:=u5.get x2 (fun x=>Ac mQ x2 (by decide) _ x rfl)
    show(h5.setIfInBounds _ _)[ut K q h3.size k]?=_
    rw [AX _ (by omega)]
    exact x3
   ·have e':ut K q h3.size k=ut K q h3.size k':=e
    by_cases e1:k=q
    ·subst e1
     rw [AL]at e'
     by_cases e2:k'=k
     ·exact e2.symm
     ·rw [Ai _ _ e2]at e'
      have:=Ap (fF k' (by omega)).2
      omega
    ·rw [Ai _ _ e1]at e'
     by_cases e2:k'=q
     ·subst e2
      rw [AL]at e'
      have:=Ap (fF k (by omega)).2
      omega
     ·rw [Ai _ _ e2]at e'
      exact wC k k' (by omega) (by omega) e'
  ·obtain rfl:q=nK:=by omega
   clear again
   repeat(first|refine AI ?_|refine AH ?_|refine AE ?_|refine Ak ?_|refine AV ?_|refine Aq ?_|refine Az ?_|refine Bg ?_|refine Am ?_|refine B8 ?_|refine Av rfl (by assumption) ?_)
   refine B1 (fun q:Nat×Value×(Nat->Nat)×(Nat->Nat->Nat)=>[(6,.int .i64 q.1),(3,ptr (y+2)),(1,ptr y)]) (fun q h' AW=>AW=δ/\q.1<=nC/\AN (fun b=>b=y+2) h3 h'/\h'[y+2]?=some (ES pl (.slice (some ⟨y+1,0,none⟩) 64 64) sK q.2.1)/\AR h' q.2.1 46 1 q.1 ((List.range q.1).map fun k=>ptr (q.2.2.1 k))/\(∀b,blk q.2.1=some b->h3.size<=b)/\(∀i,i<q.1->h3.size<=q.2.2.1 i/\(∀j,j<34->h3.size<=q.2.2.2 i j)/\KM h' (q.2.2.1 i) (q.2.2.2 i) (fun _=>0) (fun _=>.nilFunc))/\(∀i j i' j',i<q.1->j<34->i'<q.1->j'<34->q.2.2.2 i j=q.2.2.2 i' j'->i=i'/\j=j')/\(∀i i',i<q.1->i'<q.1->q.2.2.1 i=q.2.2.1 i'->i=i')) (fun q=>nC-q.1) (0,AK,fun _=>0,fun _ _=>0) ⟨rfl,rfl,rfl,trivial⟩ ⟨rfl,Bv _,AN.refl _ _,gw,AR.nil,fun b e=>(by cases e),fun k hk=>by omega,fun i j i' j' hi=>by omega,fun i i' hi=>by omega⟩ ?_
   rintro⟨j,sC,C,B⟩ h4 H0 ⟨ya,hj,u4,uk,Kq,V2,Xa,xn,xl⟩ again
   obtain rfl:δ=H0:=ya.symm
   dsimp only at hj u4 uk Kq V2 Xa xn xl again⊢
   have sz3:=u3.size
   have sz4:=u4.size
   have z4:h4[y]?=some (GK pl):=u4.get z3 (Ne.symm zv)
   have c4:=f4 z4
   by_cases U8:j<nC
   ·repeat(first|refine AI ?_|refine AH ?_|refine AE ?_|refine Ar ?_|refine Ak ?_|refine AV ?_|refine Az ?_|refine Bs ?_|refine BU ?_|refine Av rfl (by assumption) ?_)
    have Tf:AF h4 ⟨y+2,15,none⟩=some sC:=AD uk (by simp [(GV Ny).2.2])
    refine D7 (fun h'=>AF h' ⟨y+2,15,none⟩=some sC) 10 ?_
    have hZ:=Tf
    refine AU 0 hZ ?_
    refine AU 1 hZ ?_
    refine BE 2 hZ ?_
    refine Ag 3 hZ ?_
    refine A8 4 (fun _ hz=>hz) hZ ?_
    refine Bj 5 rfl (by kernel_rfl) rfl rfl rfl rfl rfl rfl Yg ?_
    rintro _ h5 Qi ⟨rfl,u5,rfl,k5⟩
    have iq:=u5.get uk (fun x=>x)
    have c5:AF h5 ⟨y+2,15,none⟩=some sC:=AD iq (by simp [(GV Ny).2.2])
    refine⟨c5,?_⟩
    have HY:=Kq.upd u5 (fun _ _ x=>x)
    have W8:∀i,i<j+1->h3.size<=ut C j (h4.size+2) i/\(∀q,q<34->h3.size<=ut B j (Hc h4.size) i q)/\KM h5 (ut C j (h4.size+2) i) (ut B j (Hc h4.size) i) (fun _=>0) (fun _=>.nilFunc):=fun i hi=>by
     by_cases e:i=j
     ·subst e
      rw [AL,AL]
      refine⟨by omega,fun q hq=>?_,k5⟩
      unfold Hc;split <;> omega
     ·rw [Ai _ _ e,Ai _ _ e]
      obtain⟨x1,x2,x3⟩:=Xa i (by omega)
      exact⟨x1,x2,x3.upd u5 (fun _ x=>x.elim)⟩
    have nB:∀q,h4.size<=Hc h4.size q:=fun q=>by unfold Hc;split <;> omega
    have bi5:∀i q i' q',i<j+1->q<34->i'<j+1->q'<34->ut B j (Hc h4.size) i q=ut B j (Hc h4.size) i' q'->i=i'/\q=q':=fun i q i' q' hi hq Dc Eh e=>by
     by_cases e1:i=j
     ·subst e1
      rw [AL]at e
      by_cases e2:i'=i
      ·subst e2
       rw [AL]at e
       exact⟨rfl,k5.inj _ _ hq Eh e⟩
      ·rw [Ai _ _ e2]at e
       have:=Ap ((Xa i' (by omega)).2.2.cell q' Eh)
       have:=nB q
       omega
     ·rw [Ai _ _ e1]at e
      by_cases e2:i'=j
      ·subst e2
       rw [AL]at e
       have:=Ap ((Xa i (by omega)).2.2.cell q hq)
       have:=nB q'
       omega
      ·rw [Ai _ _ e2]at e
       exact xn i q i' q' (by omega) hq (by omega) Eh e
    have cl:∀i,i<j->C i<h4.size:=fun i hi=>by
     obtain⟨cs,Ea⟩:=(Xa i hi).2.2.obj
     exact Ap Ea
    have ci5:∀i i',i<j+1->i'<j+1->ut C j (h4.size+2) i=ut C j (h4.size+2) i'->i=i':=fun i i' hi Dc e=>by
     by_cases e1:i=j
     ·subst e1
      rw [AL]at e
      by_cases e2:i'=i
      ·exact e2.symm
      ·rw [Ai _ _ e2]at e
       have:=cl i' (by omega)
       omega
     ·rw [Ai _ _ e1]at e
      by_cases e2:i'=j
      ·subst e2
       rw [AL]at e
       have:=cl i (by omega)
       omega
      ·rw [Ai _ _ e2]at e
       exact xl i i' (by omega) (by omega) e
    have er:(List.range (j+1)).map (fun k=>ptr (ut C j (h4.size+2) k))=(List.range j).map (fun k=>ptr (C k))++[ptr (h4.size+2)]:=by
     rw [List.range_succ,EF]
     congr 1
     ·refine QC fun k hk=>?_
      rw [Ai _ _ (by have:=Iv.1 hk;omega)]
     ·simp [AL]
    have sz5:=u5.size
    have u35:=u4.trans (u5.mono fun _ _ x=>x.elim)
    have mQ:=HY.upd (AN.push (T:=fun _=>False) h5 (.cells #[ptr (h4.size+2)] 46)) (fun _ _ x=>x)
    have xR:=Ao (o:=.cells #[ptr (h4.size+2)] 46 (0,0)) iq
    refine CQ (v:=.slice (some ⟨h5.size,0,none⟩) 1 1) (h':=h5.push (.cells #[ptr (h4.size+2)] 46)) 6 rfl (by kernel_rfl) (fun ρ Q X Aa hq=>BW (sz:=1) Aa rfl (by omega) (by omega) rfl rfl hq) (A7 c5) ?_
    refine F5 (new:=[ptr (h4.size+2)]) 7 rfl (by kernel_rfl) rfl rfl rfl rfl rfl mQ (AG _ _) rfl (by simp [OneCell]) (by omega) (by omega) rfl (fun _ _ _ x=>x) ?_
    intro s' h6 PG u6 Tc
    have uj:=u6.get xR (fun x=>by have:=V2 _ x;omega)
    have vC:AF h6 ⟨y+2,15,none⟩=some sC:=AD uj (by simp [(GV Ny).2.2])
    obtain⟨a6,k6,es6⟩:=PG.val
    refine⟨vC,?_⟩
    refine CQ 8 rfl (by kernel_rfl) (fun ρ Q X Aa hq=>BY (Aa _ _ rfl) hq) vC ?_
    refine CQ (v:=.pointer (some ⟨y+2,15,none⟩)) (h':=h6) 9 rfl (by kernel_rfl) (fun ρ Q X Aa hq=>Ce (Aa _ _ rfl) hq) vC ?_
    refine D6 (h':=Af h6 ⟨y+2,15,none⟩ s') 10 rfl (by kernel_rfl) rfl rfl rfl (fun ρ Q X Aa hq=>BG (Aa _ _ rfl) (Aa _ _ rfl) (by rw [es6];exact⟨nofun,nofun⟩) ⟨_,vC⟩ (AS uj) (fun x=>x) hq) ?_
    refine BF ?_
    have e15:Af h6 ⟨y+2,15,none⟩ s'=h6.setIfInBounds (y+2) (ES pl (.slice (some ⟨y+1,0,none⟩) 64 64) sK s'):=by
     have jr:(pl++[Value.slice (some ⟨y+1,0,none⟩) 64 64,sK,sC]).toArray.setIfInBounds 15 s'=(pl++[Value.slice (some ⟨y+1,0,none⟩) 64 64,sK,s']).toArray:=by rw [List.setIfInBounds_toArray,UN Ny]
     rw [As uj]
     unfold ES
     rw [jr]
    rw [e15]
    have u3B:=u35.trans (AN.push (T:=fun b=>b=y+2) h5 (.cells #[ptr (h4.size+2)] 46))
    have u7:AN (fun b=>b=y+2) h3 (h6.setIfInBounds (y+2) (ES pl (.slice (some ⟨y+1,0,none⟩) 64 64) sK s')):=(A2 u3B u6 fun b hb hx=>by have:=V2 b hx;omega).trans (AN.set _ _ _ rfl)
    have Tb:∀b,blk s'=some b->h3.size<=b:=fun b hb=>by
     rcases Tc b hb with x|x
     ·exact V2 b x
     ·rw [x,CH];omega
    repeat(first|refine AH ?_|refine AE ?_|refine Bb ?_|refine AV ?_|refine Aq ?_|refine BR (kd:=.i64) rfl (i64_in (by omega) (by omega)) ?_)
    refine Ah (again (j+1,s',ut C j (h4.size+2),ut B j (Hc h4.size)) _ _ (by dsimp only;omega) ⟨rfl,by dsimp only;omega,u7,AJ uj,?_,Tb,fun i hi=>⟨(W8 i hi).1,(W8 i hi).2.1,?_⟩,bi5,ci5⟩) ⟨rfl,rfl,rfl,trivial⟩
    ·show AR _ s' _ 1 (j+1) ((List.range (j+1)).map fun k=>ptr (ut C j (h4.size+2) k))
     rw [er]
     exact PG.upd (AN.set (T:=fun b=>b=y+2) _ _ _ rfl) fun b hb e=>by have:=Tb b hb;omega
    ·obtain⟨x1,x2,x3⟩:=W8 i hi
     have x4:=x3.upd (AN.push (T:=fun _=>False) h5 (.cells #[ptr (h4.size+2)] 46)) (fun _ x=>x.elim)
     have x5:=x4.upd u6 (fun b hb ho=>by
      rcases ho with e|⟨q,hq,e⟩
      ·obtain⟨cs,Ea⟩:=x4.obj
       exact Ac mQ Ea (by decide) b hb e
      ·exact Ac mQ (x4.cell q hq) (by decide) b hb e)
     exact x5.upd (AN.set (T:=fun b=>b=y+2) _ _ _ rfl) (fun b hb ho=>by
      rcases ho with e|⟨q,hq,e⟩
      ·have:b=y+2:=hb
       omega
      ·have:b=y+2:=hb
       have:=x2 q hq
       omega)
   ·obtain rfl:j=nC:=by omega
    clear again
    have lw:h.size<=y+2:=by omega
    have uT:AN (fun b=>b=y+2) h2 h4:=u3.trans u4
    repeat(first|refine AI ?_|refine AH ?_|refine AE ?_|refine AV ?_|refine Aq ?_|refine Az ?_|refine Bg ?_|refine Am ?_|refine AQ ?_|refine B8 ?_|refine Av rfl (by assumption) ?_)
    refine CL rfl ⟨rfl,y+2,fun t=>y+3+t,K,C,B,.slice (some ⟨y+1,0,none⟩) 64 64,sK,sC,rfl,uk,?_,fun t ht=>uT.get (gh t ht) (by omega),fun t t' e=>by have e':y+3+t=y+3+t':=e;omega,Me.upd u4 (fun b hb e=>by have:=NT b hb;omega),fun k hk=>u4.get (fF k hk).2 (by have:=(fF k hk).1;omega),Kq,fun i hi=>(Xa i hi).2.2,xn,fun k i q hk hi hq e=>?_,xl,wC,?_,lw,fun t=>by show h.size<=y+3+t;omega,fun k hk=>by have:=(fF k hk).1;omega,fun i hi=>⟨by have:=(Xa i hi).1;omega,fun q hq=>by have:=(Xa i hi).2.1 q hq;omega⟩,fun b e=>by have e':b=y+1:=(D4 e).symm;omega,fun b e=>by have:=NT b e;omega,fun b e=>by have:=V2 b e;omega⟩
    ·have gH:=uT.get g1 (by omega)
     refine⟨by simp,.inr ⟨y+1,64,[],rfl,Nat.le_refl _,rfl,?_⟩⟩
     have e64:F2 y 64=(List.range 64).map (fun t=>ptr (y+3+t)):=by
      unfold F2
      exact QC fun t ht=>if_pos (Iv.1 ht)
     rw [gH,DI,e64]
    ·have:=Ap (fF k hk).2
     have:=(Xa i hi).2.1 q hq
     omega
    ·exact A2 u2 uT fun b hb e=>by omega
end
end
end Go.Proofs.YtfkalocplonkiaaGreat
