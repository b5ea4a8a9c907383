/- Steps of the walk and of the plain law (ChkC to CpU). Conditions: as each lemma says. -/
import Derived.Test.YtfkalocplonkiaaGreatCPLE
set_option linter.unusedSectionVars false
set_option linter.unusedVariables false
set_option linter.unusedSimpArgs false
set_option maxHeartbeats 16000000
set_option maxRecDepth 8000
namespace Go.Proofs.YtfkalocplonkiaaGreat
open Go Go.TJ Go.Conc Go.Proofs
section
theorem lR{Γ:Type}{P:Program}{main:Bool}{S:Cp Γ}{f:FuncId}{n:Nat}{ops:Array Oper}{l:List Oper}{k:List Item}{env:Env}{ds:List Deferred}{h:Hp}{δ:Ix Γ}{R:Cv Γ}{σ:Type}(E:σ->Env)(I:σ->Hp->Ix Γ->Prop)(h1:(∀s h' AW,I s h' AW->EK P main S f n k (E s) ds h' AW R)->ER P main S f n ops l k env ds h δ R)(h2:∀s h' AW,I s h' AW->EK P main S f n k (E s) ds h' AW R):ER P main S f n ops l k env ds h δ R:=h1 h2
theorem UD{Γ:Type}{P:Program}{main:Bool}{S:Cp Γ}{f:FuncId}{n:Nat}{c:Item}{k:List Item}{env:Env}{ds:List Deferred}{h:Hp}{δ:Ix Γ}{R:Cv Γ}{σ:Type}(E:σ->Env)(I:σ->Hp->Ix Γ->Prop)(h1:(∀s h' AW,I s h' AW->EK P main S f n k (E s) ds h' AW R)->EK P main S f n (c::k) env ds h δ R)(h2:∀s h' AW,I s h' AW->EK P main S f n k (E s) ds h' AW R):EK P main S f n (c::k) env ds h δ R:=h1 h2
theorem zo{Γ:Type}{P:Program}{main:Bool}{S:Cp Γ}{f:FuncId}{n:Nat}{ops:Array Oper}{Z:Hp->Prop}{z m:Nat}{listed:Array Bool}{k:List Item}{env:Env}{ds:List Deferred}{h:Hp}{δ:Ix Γ}{R:Cv Γ}{σ:Type}(E:σ->Env)(I:σ->Hp->Ix Γ->Prop)(h1:(∀s h' AW,I s h' AW->EK P main S f n k (E s) ds h' AW R)->EA P main S f n ops Z z m listed k env ds h δ R)(h2:∀s h' AW,I s h' AW->EK P main S f n k (E s) ds h' AW R):EA P main S f n ops Z z m listed k env ds h δ R:=h1 h2
theorem Yv{Γ:Type}{P:Program}{main:Bool}{S:Cp Γ}{f:FuncId}{n:Nat}{ops:Array Oper}{Z:Hp->Prop}{z m:Nat}{listed l':Array Bool}{k:List Item}{env:Env}{ds:List Deferred}{h:Hp}{δ:Ix Γ}{R:Cv Γ}{d:Nat}{ty:TypeId}{pos:String}{af:Array Edge}{g:Option (Nat×Bool)}{t t2:TypeId}{x y:Operand}{u w:Value}{dd:TypeDesc}{r:Bool}[hu:Es P t dd](i:Nat)
  (hi:ops[i]?=some ⟨some d,.binOp .neq t x y t2,ty,pos,af,g⟩) (hs:Ct ops listed z i=true) (hl:listed.setIfInBounds i true=l')
  (hd:Nat.blt d n=true) (hw:Al ops env g=some true) (hx:ev env x=some u) (hy:ev env y=some w) (he:Iq dd u w=some r) (hZ:Z h)
  (hn:EA P main S f n ops Z z m l' k ((d,.bool (!r))::env) ds h δ R):EA P main S f n ops Z z (m+1) listed k env ds h δ R:=
 Fz i hi hs hl hd hw (fun _ _ _ _ _ Aa _ hq=>Si (Aa _ _ hx) (Aa _ _ hy) he hq) hZ hn
theorem OY{n:Nat}:∀{l:List Nat} (m:Nat),l.Pairwise (· < ·)->(∀a,a∈l->m<=a)->(∀a,a∈l->a<n)->l.length<=n-m
 | [],_,_,_,_=>Bv _
 | a::l,m,h,hm,hn=>by
  obtain⟨h1,h2⟩:=List.pairwise_cons.1 h
  have:=OY (n:=n) (a+1) h2 h1 (fun b hb=>hn b (by simp [hb]))
  have ha:=hm a (by simp)
  have hb:=hn a (by simp)
  simp only [List.length_cons]
  omega
theorem MU:∀(l:List Ev) (acc:List Nat),(KX acc l).length<=acc.length+l.length
 | [],acc=>by simp [KX]
 | e::l,acc=>by
  have h1:=MU l acc
  have h2:=MU l (acc++[e.b])
  unfold KX at h1 h2⊢
  rw [List.foldl_cons]
  split
  ·simp;omega
  ·simp at h2⊢;omega
theorem Oa(l:List Ev):(Ab l).length<=l.length:=by
 have:=MU l []
 simpa [Ab,KX]using this
section
variable{Γ:Type}{main:Bool}{δ:Ix Γ}{h h':Hp}{R:Rec}{AZ:List Int}{lL lW lY lV sP tv cv:Value}{last:Int}{C n most:Nat}{e:Int}{X:Us}
theorem HB.xz(m:HB R AZ lL lW lY lV sP h)(hC:h[C]?=some (KR e n lL lW lY lV sP most tv cv last))(hP:AZ≠[]->∀b,blk sP=some b->b≠C)(u:AN (fun b=>b=C) h h'):HB R AZ lL lW lY lV sP h':=
 ⟨m.log.upd u (Ac m.log hC (by decide)),m.Ax.upd u (Ac m.Ax hC (by decide)),m.Da.upd u (Ac m.Da hC (by decide)),m.left.upd u (Ac m.left hC (by decide)),m.AZ.upd u (fun hn=>hP (fun e=>hn (by rw [e];rfl)))⟩
structure cu(R:Rec)(h:Hp)(C:Nat)(lL lW lY lV sP tv:Value)(last:Int)(n:Nat)(k:Nat)(v:Nat->Int)(nv cv:Value)(h':Hp):Prop where
 upd:AN (fun b=>b=C) h h'
 row:h'[C]?=some (KR R.e n lL lW lY lV sP R.most tv cv last)
 now:AR h' nv 2 1 (Ab (R.log.take k)).length ((Ab (R.log.take k)).map fun b=>Value.int .i64 (v b))
 fst:AR h' cv 2 1 (Ab (R.log.take k)).length ((Ab (R.log.take k)).map fun b=>Value.int .i64 (R.v0 b))
 R8:∀b,blk nv=some b->h.size<=b
 PT:∀b,blk cv=some b->h.size<=b
 ne:∀b,blk nv=some b->blk cv≠some b
theorem Wg(ok:Fh X AZ R)(m:HB R AZ lL lW lY lV sP h)(hC:h[C]?=some (KR R.e n lL lW lY lV sP R.most tv AK last))(hP:AZ≠[]->∀b,blk sP=some b->b≠C):
  AY Tryz.prog main (Fb (Γ:=Γ)) 43 #[ptr C] h δ (CJ fun v h' AW=>AW=δ/\v= .bool true/\∃cv,h'[C]?=some (KR R.e n lL lW lY lV sP R.most tv cv last)/\AN (fun b=>b=C) h h'/\AR h' cv 2 1 (Ab R.log).length ((Ab R.log).map fun b=>Value.int .i64 (R.v0 b))/\∀b,blk cv=some b->h.size<=b):=by
 have hlen:=ok.len
 have P3:=ok.most
 have Vv:∀k,(Ab (R.log.take k)).length<=65536:=fun k=>by
  have:=Oa
  have h1:=this (R.log.take k)
  have h2:=List.length_take_le k R.log
  have h3:(R.log.take k).length<=R.log.length:=by rw [List.length_take];omega
  omega
 have uh:=Ap hC
 obtain⟨aL,kL,eL⟩:=m.log.val
 obtain⟨aV,kV,eV⟩:=m.left.val
 subst eL eV
 refine CK (n:=237) ?_
 repeat(first|refine AI ?_|refine AH ?_|refine AE ?_|refine Ak ?_|refine Aq ?_)
 refine B1 (fun q:Nat×Value×Value×(Nat->Int)=>[(4,.int .i64 q.1),(3,q.2.1),(0,ptr C)]) (fun q h' AW=>q.1<=R.log.length/\AW=δ/\Ej X R.v0 (R.log.take q.1) q.2.2.2/\cu R h C (.slice aL R.log.length kL) lW lY (.slice aV R.left.length kV) sP tv last n q.1 q.2.2.2 q.2.1 q.2.2.1 h') (fun q=>R.log.length-q.1) (0,AK,AK,R.v0) ⟨rfl,rfl,rfl,trivial⟩ ⟨Bv _,rfl,.nil,AN.refl _ _,hC,AR.nil,AR.nil,fun b hb=>(by cases hb),fun b hb=>(by cases hb),fun b hb=>(by cases hb)⟩ ?_
 rintro⟨k,nv,cv,v⟩ h1 H0 ⟨hk,DL,ch,mi⟩ again
 dsimp only at hk ch mi again DL⊢
 subst DL
 have m1:=m.xz hC hP mi.upd
 by_cases CO:k<R.log.length
 ·obtain⟨e,he⟩:∃e,R.log[k]?=some e:=⟨_,Cl CO⟩
  obtain⟨bL,ea,A0,hz⟩:=Bt (FR (Ab R.log)) m1.log he
  subst ea
  have c2:AF h1 ⟨C,2,none⟩=some (.slice (some ⟨bL,0,none⟩) R.log.length kL):=AD mi.row rfl
  repeat(first|refine AI ?_|refine AH ?_|refine AE ?_|refine Ar ?_|refine Ak ?_|refine AV ?_|refine Bc ?_|refine Az ?_|refine Bs ?_|refine BN ?_|refine Cd ?_|refine BU ?_|refine Av rfl (by assumption) ?_)
  refine C5 (vs:=CF (Ab R.log) e) rfl A0 ?_
  (repeat refine Cn ?_)
  refine Bz (vs:=CF (Ab R.log) e) rfl rfl (by simp [CF,A4,OneCell]) (fun j hj=>⟨?_,AS (AG _ _),fun x=>x⟩) ?_
  ·have Dm:j<8:=hj
   rcases (show j=0\/j=1\/j=2\/j=3\/j=4\/j=5\/j=6\/j=7 by omega)with rfl|rfl|rfl|rfl|rfl|rfl|rfl|rfl <;> exact⟨_,AD (AG _ _) rfl⟩
  rw [Bw (c:=[.int .i64 0,.int .i8 0,.int .i64 0,.int .i64 0,.int .i64 0,.int .i64 0,.int .i64 0,.bool false]) (vs:=CF (Ab R.log) e) rfl]
  obtain⟨w,i,r,cw,hr,e1,aj⟩:=ok.chain.inv he
  obtain rfl:=cw.El ch
  obtain⟨i1,i2,i3,i4⟩:=UC he
  obtain⟨Qu,Qt⟩:=And.intro hr.iM hr.mU
  have qd:=hr.arg
  have Gu:=hr.new
  generalize xC:(Ab R.log).idxOf e.b=ix at i1 i2 i3 i4
  have WG:CF (Ab R.log) e=A4 i r.op ix r.arg r.new (v r.b) (behind r.op (v r.b) r.arg r.new).1 (behind r.op (v r.b) r.arg r.new).2:=by unfold CF;rw [xC,e1];rfl
  have heb:e.b=r.b:=by rw [e1];rfl
  rw [WG]
  rw [heb]at i1 i3 i4
  clear e1 WG A0 hz c2
  obtain⟨op,rb,arg,new⟩:=r
  dsimp only at Qu Qt qd Gu i3 i4 aj⊢
  generalize hx:behind op (v rb) arg new=x at aj⊢
  refine A6 (fun h'=>cu R h C (.slice (some ⟨bL,0,none⟩) R.log.length kL) lW lY (.slice aV R.left.length kV) sP tv last n k v nv cv h'/\h'[h1.size]?=some (CE (A4 i op ix arg new (v rb) x.1 x.2))) ⟨⟨A2 mi.upd (AN.push (T:=fun _=>False) h1 _) (fun _ _ x=>x.elim),Ao _ mi.row,mi.now.upd (AN.push (T:=fun _=>False) h1 _) (fun _ _ x=>x),mi.fst.upd (AN.push (T:=fun _=>False) h1 _) (fun _ _ x=>x),mi.R8,mi.PT,mi.ne⟩,AG _ _⟩ ?_
  have KG:h.size<=h1.size:=mi.upd.size
  obtain⟨y,hy⟩:∃y,y=h1.size:=⟨_,rfl⟩
  rw [<-hy]at KG⊢
  clear mi m1 hy
  rintro h2 ⟨mi,ly⟩
  have uG:=Vv k
  have AFQ:=Vv (k+1)
  obtain⟨aN,kN,eN⟩:=mi.now.val
  subst eN
  have y0:AF h2 ⟨y,0,none⟩=some (.int .i64 i):=AD ly rfl
  have y1:AF h2 ⟨y,1,none⟩=some (.int .i8 op):=AD ly rfl
  have y2:AF h2 ⟨y,2,none⟩=some (.int .i64 ix):=AD ly rfl
  have y3:AF h2 ⟨y,3,none⟩=some (.int .i64 arg):=AD ly rfl
  have y4:AF h2 ⟨y,4,none⟩=some (.int .i64 new):=AD ly rfl
  have y5:AF h2 ⟨y,5,none⟩=some (.int .i64 (v rb)):=AD ly rfl
  have y6:AF h2 ⟨y,6,none⟩=some (.int .i64 x.1):=AD ly rfl
  have y7:AF h2 ⟨y,7,none⟩=some (.bool x.2):=AD ly rfl
  repeat(first|refine AI ?_|refine AH ?_|refine AE ?_|refine Ar ?_|refine AV ?_|refine Az ?_|refine Df ?_|refine Bd ?_|refine Bg ?_|refine BN ?_|refine Am ?_)
  refine lR (fun _:Unit=>[(112,.bool false),(5,ptr y),(4,.int .i64 k),(3,.slice aN (Ab (R.log.take k)).length kN),(0,ptr C)]) (fun _ h' AW=>h'=h2/\AW=H0) (fun key=>?_) ?_
  ·by_cases h3:op=3
   ·subst h3
    repeat(first|refine AV ?_|refine Az ?_|refine Df ?_|refine CW ?_|refine Bd ?_|refine Bg ?_)
    exact AE (Ah (key () _ _ ⟨rfl,rfl⟩) ⟨rfl,rfl,rfl,rfl,rfl,trivial⟩)
   ·have wz:=Gu h3
    subst wz
    by_cases h1:op=1
    ·have ha0:=qd h1
     subst h1 ha0
     repeat(first|refine AV ?_|refine Az ?_|refine Df ?_|refine Bl ?_|refine Bd ?_|refine Bs ?_|refine Bg ?_)
     exact AE (Ah (key () _ _ ⟨rfl,rfl⟩) ⟨rfl,rfl,rfl,rfl,rfl,trivial⟩)
    ·repeat(first|refine AV ?_|refine Az ?_|refine Df ?_|refine CW ?_|refine Bl ?_|refine Bd ?_|refine Bs ?_|refine Bg ?_)
     exact AE (Ah (key () _ _ ⟨rfl,rfl⟩) ⟨rfl,rfl,rfl,rfl,rfl,trivial⟩)
  rintro _ h2 H0 ⟨rfl,rfl⟩
  refine OC rfl (Ar (AI (AI (AH ?_))))
  repeat(first|refine AV ?_|refine Az ?_|refine Df ?_|refine BN ?_)
  refine OQ (r:=decide ((ix:Int)=((Ab (R.log.take k)).length:Int))) rfl rfl rfl rfl rfl rfl ?_
  refine AE ?_
  refine UD (fun q:Value×Value=>[(5,ptr y),(4,.int .i64 k),(3,q.1),(0,ptr C)]) (fun q h' AW=>AW=H0/\h'[y]?=some (CE (A4 i op ix arg new (v rb) x.1 x.2))/\cu R h C (.slice (some ⟨bL,0,none⟩) R.log.length kL) lW lY (.slice aV R.left.length kV) sP tv last n (k+1) v q.1 q.2 h') (fun key=>?_) ?_
  ·rcases i4 with⟨j1,j2,j3⟩|⟨j1,j2,j3⟩
   ·rw [Gj (by omega)]
    refine OC rfl (Ar (Ah (key (_,cv) _ _ ⟨rfl,ly,⟨mi.upd,mi.row,by rw [j2];exact mi.now,by rw [j2];exact mi.fst,mi.R8,mi.PT,mi.ne⟩⟩) ⟨rfl,rfl,rfl,rfl,trivial⟩))
   ·rw [H9 (by omega)]
    refine hU rfl (AI (AH ?_))
    repeat(first|refine AV ?_|refine Az ?_|refine Df ?_)
    refine Fv (sz:=1) (z:=.int .i64 0) (cells:=#[.int .i64 (v rb)]) ?_
    refine D9 (new:=[.int .i64 (v rb)]) rfl rfl rfl rfl (mi.now.upd (AN.push (T:=fun _=>False) h2 _) (fun _ _ x=>x)) (AG _ _) rfl (by simp [OneCell]) (by omega) (by omega) (by rfl) (fun _ _ _ x=>x) ?_
    intro s4 h4 Kq u4 Rk
    have p4:AN (fun b=>b=C) h h4:=A2 (A2 mi.upd (AN.push (T:=fun _=>False) h2 (.cells #[.int .i64 (v rb)] 2)) (fun _ _ x=>x.elim)) u4 (fun b hb hx=>by have:=mi.R8 b hx;omega)
    have r4:=u4.get (Ao (o:=.cells #[.int .i64 (v rb)] 2) mi.row) (fun hx=>by have:=mi.R8 C hx;omega)
    have nyN:∀b,blk (.slice aN (Ab (R.log.take k)).length kN)=some b->b≠y:=fun b hb e=>Ac mi.now ly (by decide) b hb e
    have XR:=u4.get (Ao (o:=.cells #[.int .i64 (v rb)] 2) ly) (fun hx=>nyN y hx rfl)
    have f4:=(mi.fst.upd (AN.push (T:=fun _=>False) h2 (.cells #[.int .i64 (v rb)] 2)) (fun _ _ x=>x)).upd u4 (fun b hb hx=>mi.ne b hx hb)
    have tX:∀b,blk s4=some b->h.size<=b:=fun b hb=>by
     rcases Rk b hb with y|y
     ·exact mi.R8 b y
     ·rw [CH]at y;have:=mi.upd.size;omega
    have ne4:∀b,blk s4=some b->blk cv≠some b:=fun b hb hx=>by
     rcases Rk b hb with y|y
     ·exact mi.ne b y hx
     ·rw [CH]at y;have:=mi.fst.lt hx;omega
    have b1:(Ab (R.log.take (k+1))).length=(Ab (R.log.take k)).length+1:=by rw [j2,C1];rfl
    have sn4:AR h4 s4 2 1 (Ab (R.log.take (k+1))).length ((Ab (R.log.take (k+1))).map fun b=>Value.int .i64 (v b)):=by rw [b1,j2,EF];exact Kq
    clear Kq u4 Rk nyN
    obtain⟨aC,kC,eC⟩:=mi.fst.val
    subst eC
    have PT:=mi.PT
    clear mi ly
    (repeat refine Aq ?_)
    refine AE ?_
    refine D7 (fun h'=>AF h' ⟨C,10,none⟩=some (.slice aC (Ab (R.log.take k)).length kC)/\AF h' ⟨y,5,none⟩=some (.int .i64 (v rb))) 11 ?_
    have hZ:_/\_:=And.intro (AD r4 rfl:AF h4 ⟨C,10,none⟩=some (.slice aC (Ab (R.log.take k)).length kC)) (AD XR rfl:AF h4 ⟨y,5,none⟩=some (.int .i64 (v rb)))
    refine AU 0 hZ ?_
    refine AU 1 hZ ?_
    refine BE 2 hZ ?_
    refine Ag 3 hZ ?_
    refine A8 4 (fun _ hz=>hz.1) hZ ?_
    refine Ag 5 hZ ?_
    refine A8 6 (fun _ hz=>hz.2) hZ ?_
    have ae:_/\_:=⟨A7 (o:=.cells #[.int .i64 (v rb)] 2) hZ.1,A7 (o:=.cells #[.int .i64 (v rb)] 2) hZ.2⟩
    refine CQ (v:=.slice (some ⟨h4.size,0,none⟩) 1 1) (h':=h4.push (.cells #[.int .i64 (v rb)] 2)) 7 rfl (by kernel_rfl) (fun ρ Q X Aa hq=>BW (sz:=1) Aa rfl (by omega) (by omega) rfl rfl hq) ae ?_
    refine F5 (new:=[.int .i64 (v rb)]) 8 rfl (by kernel_rfl) rfl rfl rfl rfl rfl (f4.upd (AN.push (T:=fun _=>False) h4 _) (fun _ _ x=>x)) (AG _ _) rfl (by simp [OneCell]) (by omega) (by omega) rfl (fun _ _ _ x=>x) ?_
    intro s6 h6 PG u6 Tc
    have p6:AN (fun b=>b=C) h h6:=A2 (A2 p4 (AN.push (T:=fun _=>False) h4 (.cells #[.int .i64 (v rb)] 2)) (fun _ _ x=>x.elim)) u6 (fun b hb hx=>by have:=PT b hx;omega)
    have r6:=u6.get (Ao (o:=.cells #[.int .i64 (v rb)] 2) r4) (fun hx=>by have:=PT C hx;omega)
    have nyC:∀b,blk (.slice aC (Ab (R.log.take k)).length kC)=some b->b≠y:=fun b hb e=>Ac f4 XR (by decide) b hb e
    have ly6:=u6.get (Ao (o:=.cells #[.int .i64 (v rb)] 2) XR) (fun hx=>nyC y hx rfl)
    have sn6:=(sn4.upd (AN.push (T:=fun _=>False) h4 (.cells #[.int .i64 (v rb)] 2)) (fun _ _ x=>x)).upd u6 (fun b hb hx=>ne4 b hb hx)
    have fH:_/\_:=And.intro (AD r6 rfl:AF h6 ⟨C,10,none⟩=some (.slice aC (Ab (R.log.take k)).length kC)) (AD ly6 rfl:AF h6 ⟨y,5,none⟩=some (.int .i64 (v rb)))
    refine⟨fH,?_⟩
    obtain⟨aQ,kQ,eQ⟩:=PG.val
    refine CQ 9 rfl (by kernel_rfl) (fun ρ Q X Aa hq=>BY (Aa _ _ rfl) hq) fH ?_
    have hZ:=fH
    refine Ag 10 hZ ?_
    refine D6 (h':=Af h6 ⟨C,10,none⟩ s6) 11 rfl (by kernel_rfl) rfl rfl rfl (fun ρ Q X Aa hq=>BG (Aa _ _ rfl) (Aa _ _ rfl) (by rw [eQ];exact⟨nofun,nofun⟩) ⟨_,fH.1⟩ (AS r6) (fun x=>x) hq) ?_
    refine BF ?_
    have e7:Af h6 ⟨C,10,none⟩ s6=h6.setIfInBounds C (KR R.e n (.slice (some ⟨bL,0,none⟩) R.log.length kL) lW lY (.slice aV R.left.length kV) sP R.most tv s6 last):=As r6 _
    rw [e7]
    have u7:AN (fun b=>b=C) h6 (h6.setIfInBounds C (KR R.e n (.slice (some ⟨bL,0,none⟩) R.log.length kL) lW lY (.slice aV R.left.length kV) sP R.most tv s6 last)):=AN.set _ _ _ rfl
    have nC6:∀b,blk s6=some b->h.size<=b:=fun b hb=>by
     rcases Tc b hb with y|y
     ·exact PT b y
     ·rw [CH]at y;have:=p4.size;omega
    refine Ah (key (s4,s6) _ _ ⟨rfl,by rw [AX _ (by omega)];exact ly6,⟨p6.trans u7,AJ r6,sn6.upd u7 (fun b hb e=>by have:=tX b hb;omega),?_,tX,nC6,fun b hb hx=>?_⟩⟩) ⟨rfl,rfl,rfl,rfl,trivial⟩
    ·have:=PG.upd u7 (fun b hb e=>by have:=nC6 b hb;omega)
     rw [b1,j2,EF]
     have ev:v rb=R.v0 rb:=ch.first j1
     rw [ev]at this
     exact this
    ·rcases Tc b hx with y|y
     ·exact ne4 b hb y
     ·rw [CH]at y;have:=sn4.lt hb;omega
  clear mi ly i4 uG
  rintro⟨nv,cv⟩ h2 H0 ⟨DL,ly,mi⟩
  dsimp only at mi DL⊢
  subst DL
  obtain⟨aN,kN,eN⟩:=mi.now.val
  subst eN
  have y1:AF h2 ⟨y,1,none⟩=some (.int .i8 op):=AD ly rfl
  have y2:AF h2 ⟨y,2,none⟩=some (.int .i64 ix):=AD ly rfl
  have y3:AF h2 ⟨y,3,none⟩=some (.int .i64 arg):=AD ly rfl
  have y4:AF h2 ⟨y,4,none⟩=some (.int .i64 new):=AD ly rfl
  have y5:AF h2 ⟨y,5,none⟩=some (.int .i64 (v rb)):=AD ly rfl
  have y6:AF h2 ⟨y,6,none⟩=some (.int .i64 x.1):=AD ly rfl
  have y7:AF h2 ⟨y,7,none⟩=some (.bool x.2):=AD ly rfl
  repeat(first|refine AI ?_|refine AH ?_|refine Az ?_|refine Df ?_)
  refine Bx rfl (Ww Qu Qt) ?_
  rw [hx]
  obtain⟨x1,x2⟩:=x
  dsimp only at y6 y7 aj⊢
  obtain⟨bN,eN,cN,fN⟩:=C7 mi.now i3
  subst eN
  clear y3 y4 Vv
  repeat(first|refine AI ?_|refine AE ?_|refine AV ?_|refine Aq ?_|refine Eo ?_)
  refine BO (fun h'=>h'=h2) ?_
  have hZ:h2=h2:=rfl
  refine Ag 0 hZ ?_
  refine FA 1 y5 hZ ?_
  refine AU 2 hZ ?_
  refine Ag 3 hZ ?_
  refine FA 4 y2 hZ ?_
  refine GP 5 hZ ?_
  refine FA 6 cN hZ ?_
  refine Dy 7 hZ ?_
  refine AU 8 hZ ?_
  refine Ag 9 hZ ?_
  refine FA 10 y6 hZ ?_
  refine AU 11 hZ ?_
  refine Dy 12 hZ ?_
  refine Dz 13 hZ ?_
  refine AU 14 hZ ?_
  refine Ag 15 hZ ?_
  refine FA 16 y7 hZ ?_
  refine AU 17 hZ ?_
  refine Yv (r:=true) 18 rfl (by kernel_rfl) rfl rfl rfl rfl rfl (by cases x2 <;> rfl) hZ ?_
  refine Dz 19 hZ ?_
  refine AU 20 hZ ?_
  refine Ag 21 hZ ?_
  refine FA 22 y1 hZ ?_
  refine Dy 23 hZ ?_
  refine AU 24 hZ ?_
  refine BB 25 hZ ?_
  refine BB 26 hZ ?_
  refine BB 27 hZ ?_
  refine BB 28 hZ ?_
  refine BB 29 hZ ?_
  refine Dz 30 hZ ?_
  refine Dz 31 hZ ?_
  refine BF ?_
  refine OC rfl (Ar (AH ?_))
  repeat(first|refine AV ?_|refine Az ?_|refine Df ?_|refine Cd ?_)
  refine CS rfl ⟨nofun,nofun⟩ ⟨_,cN⟩ (fN _) (fun x=>x) ?_
  refine AE ?_
  have e9:0+ix*1=ix:=by omega
  have sn:=mi.now.set (j:=ix) (by rw [Ca];exact i2) (.int .i64 x1)
  have u9:AN (fun b=>b=bN) h2 (Af h2 ⟨bN,ix,none⟩ (.int .i64 x1)):=AN.Af _ _ _ rfl
  have nN:=mi.R8 bN rfl
  have iY:rb∈Ab (R.log.take (k+1)):=Fg i3
  rw [i1,<-Yh (F:=fun z=>Value.int .i64 z) (Ow _) iY,<-i1]at sn
  have mi9:cu R h C (.slice (some ⟨bL,0,none⟩) R.log.length kL) lW lY (.slice aV R.left.length kV) sP tv last n (k+1) (ut v rb x1) (.slice (some ⟨bN,0,none⟩) (Ab (R.log.take (k+1))).length kN) cv (Af h2 ⟨bN,ix,none⟩ (.int .i64 x1)):=
   ⟨A2 mi.upd u9 (fun b hb e=>by omega),u9.get mi.row (fun e=>by omega),sn,mi.fst.upd u9 (fun b hb e=>mi.ne bN rfl (by rw [<-e];exact hb)),mi.R8,mi.PT,mi.ne⟩
  change EK _ _ _ _ _ _ _ _ (Af h2 ⟨bN,0+ix*1,none⟩ (.int .i64 x1)) _ _
  rw [e9]
  repeat(first|refine AH ?_|refine AE ?_|refine Bb ?_|refine AV ?_|refine Aq ?_|refine BR (kd:=.i64) rfl (i64_in (by omega) (by omega)) ?_)
  exact Ah (again (k+1,_,cv,ut v rb x1) _ _ (by dsimp only;omega) ⟨by dsimp only;omega,rfl,aj,mi9⟩) ⟨rfl,rfl,rfl,trivial⟩
 ·obtain rfl:k=R.log.length:=by omega
  clear again
  rw [List.take_length]at ch
  obtain rfl:=ch.El ok.chain
  have c2:AF h1 ⟨C,2,none⟩=some (.slice aL R.log.length kL):=AD mi.row rfl
  obtain⟨up,row,now,fst,R8,PT,-⟩:=mi
  rw [List.take_length]at now fst
  have uG:=Vv R.log.length
  rw [List.take_length]at uG
  clear Vv
  have c5:AF h1 ⟨C,5,none⟩=some (.slice aV R.left.length kV):=AD row rfl
  obtain⟨aN,kN,eN⟩:=now.val
  subst eN
  have Vv:R.left.length<=64:=by
   have h2:=OY (n:=R.nb) (l:=R.left.map (·.1)) 0 (List.pairwise_map.2 ok.Xp) (fun _ _=>Bv _) (fun a ha=>by
    obtain⟨q,hq,rfl⟩:=Iu.1 ha
    exact(ok.left q hq).1)
   rw [Ca]at h2
   have:=ok.nb
   omega
  repeat(first|refine AI ?_|refine AH ?_|refine AE ?_|refine Ak ?_|refine AV ?_|refine Aq ?_|refine Bc ?_|refine Az ?_|refine Df ?_|refine Bg ?_|refine BN ?_|refine Am ?_|refine B8 ?_)
  refine B1 (fun k:Nat=>[(8,.int .i64 k),(3,.slice aN (Ab R.log).length kN),(0,ptr C)]) (fun k h' AW=>k<=R.left.length/\AW=H0/\AN (fun _=>False) h1 h') (fun k=>R.left.length-k) 0 ⟨rfl,rfl,rfl,trivial⟩ ⟨Bv _,rfl,AN.refl _ _⟩ ?_
  rintro k h2 FJ ⟨hk,DL,u2⟩ again
  subst DL
  have c5':=u2.AF c5 (fun x=>x)
  by_cases CO:k<R.left.length
  ·obtain⟨q,hq⟩:∃q,R.left[k]?=some q:=⟨_,Cl CO⟩
   obtain⟨bV,ea,A0,hz⟩:=Bt (IJ (Ab R.log) R.val) (m1.left.upd u2 (fun _ _ x=>x)) hq
   subst ea
   repeat(first|refine AI ?_|refine AH ?_|refine AE ?_|refine Ar ?_|refine Ak ?_|refine AV ?_|refine Bc ?_|refine Az ?_|refine Bs ?_|refine BN ?_|refine Cd ?_|refine BU ?_|refine Av rfl (by assumption) ?_)
   refine C5 (vs:=EJ (Ab R.log) R.val q) rfl A0 ?_
   (repeat refine Cn ?_)
   refine Bz (vs:=EJ (Ab R.log) R.val q) rfl rfl (by simp [EJ,A4,OneCell]) (fun j hj=>⟨?_,AS (AG _ _),fun x=>x⟩) ?_
   ·have Dm:j<8:=hj
    rcases (show j=0\/j=1\/j=2\/j=3\/j=4\/j=5\/j=6\/j=7 by omega)with rfl|rfl|rfl|rfl|rfl|rfl|rfl|rfl <;> exact⟨_,AD (AG _ _) rfl⟩
   rw [Bw (c:=[.int .i64 0,.int .i8 0,.int .i64 0,.int .i64 0,.int .i64 0,.int .i64 0,.int .i64 0,.bool false]) (vs:=EJ (Ab R.log) R.val q) rfl]
   refine A6 (fun h'=>AN (fun _=>False) h1 h'/\h'[h2.size]?=some (CE (EJ (Ab R.log) R.val q))) ⟨u2.trans (AN.push _ _),AG _ _⟩ ?_
   obtain⟨y,hy⟩:∃y,y=h2.size:=⟨_,rfl⟩
   rw [<-hy]
   clear hy A0 hz u2 c5'
   rintro h3 ⟨u3,ly⟩
   refine AE (AI ?_)
   generalize hr:q.2=r at *
   by_cases hb:r.b∈Ab R.log
   ·have hE:EJ (Ab R.log) R.val q=A4 q.1 r.op ((Ab R.log).idxOf r.b:Nat) r.arg r.new (R.val r.b) (R.val r.b) false:=by unfold EJ;rw [hr,if_pos hb]
    rw [hE]at ly
    have Cg:=List.idxOf_lt_length_iff.2 hb
    generalize xC:(Ab R.log).idxOf r.b=ix at ly Cg
    have zB:(Ab R.log)[ix]?=some r.b:=by rw [<-xC,List.getElem?_eq_getElem (List.idxOf_lt_length_iff.2 hb)];simp
    obtain⟨bN,eN,cN,fN⟩:=C7 (now.upd u3 (fun _ _ x=>x)) zB
    subst eN
    have y2:AF h3 ⟨y,2,none⟩=some (.int .i64 ix):=AD ly rfl
    have y5:AF h3 ⟨y,5,none⟩=some (.int .i64 (R.val r.b)):=AD ly rfl
    have y6:AF h3 ⟨y,6,none⟩=some (.int .i64 (R.val r.b)):=AD ly rfl
    have y7:AF h3 ⟨y,7,none⟩=some (.bool false):=AD ly rfl
    refine BO (fun h'=>h'=h3) ?_
    have hZ:h3=h3:=rfl
    refine Ag 0 hZ ?_
    refine FA 1 y2 hZ ?_
    refine Dy 2 hZ ?_
    refine AU 3 hZ ?_
    refine Ag 4 hZ ?_
    refine FA 5 y2 hZ ?_
    refine AU 6 hZ ?_
    refine Er 7 rfl (by kernel_rfl) rfl rfl rfl rfl hZ ?_
    refine Dy 8 hZ ?_
    refine Dz 9 hZ ?_
    refine AU 10 hZ ?_
    refine Ag 11 hZ ?_
    refine FA 12 y2 hZ ?_
    refine G8 13 hZ ?_
    refine AU 14 hZ ?_
    refine Ag 15 hZ ?_
    refine FA 16 y5 hZ ?_
    refine AU 17 hZ ?_
    refine Ag 18 hZ ?_
    refine FA 19 y2 hZ ?_
    refine GP 20 hZ ?_
    refine FA 21 cN hZ ?_
    refine Dy 22 hZ ?_
    refine IR 23 hZ ?_
    refine Dz 24 hZ ?_
    refine AU 25 hZ ?_
    refine Ag 26 hZ ?_
    refine FA 27 y5 hZ ?_
    refine Ag 28 hZ ?_
    refine FA 29 y6 hZ ?_
    refine Dy 30 hZ ?_
    refine Dz 31 hZ ?_
    refine AU 32 hZ ?_
    refine Ag 33 hZ ?_
    refine FA 34 y7 hZ ?_
    refine Dz 35 hZ ?_
    refine BF ?_
    repeat(first|refine AH ?_|refine AE ?_|refine Ar ?_|refine Bb ?_|refine AV ?_|refine Aq ?_|refine BR (kd:=.i64) rfl (i64_in (by omega) (by omega)) ?_|refine Am ?_)
    exact Ah (again (k+1) _ _ (by omega) ⟨by omega,rfl,u3⟩) ⟨rfl,rfl,rfl,trivial⟩
   ·have hE:EJ (Ab R.log) R.val q=A4 q.1 r.op (-1) r.arg r.new (R.val r.b) (R.val r.b) false:=by unfold EJ;rw [hr,if_neg hb]
    rw [hE]at ly
    have y2:AF h3 ⟨y,2,none⟩=some (.int .i64 (-1)):=AD ly rfl
    have y5:AF h3 ⟨y,5,none⟩=some (.int .i64 (R.val r.b)):=AD ly rfl
    have y6:AF h3 ⟨y,6,none⟩=some (.int .i64 (R.val r.b)):=AD ly rfl
    have y7:AF h3 ⟨y,7,none⟩=some (.bool false):=AD ly rfl
    refine BO (fun h'=>h'=h3) ?_
    have hZ:h3=h3:=rfl
    refine Ag 0 hZ ?_
    refine FA 1 y2 hZ ?_
    refine Dy 2 hZ ?_
    refine AU 3 hZ ?_
    refine Ag 4 hZ ?_
    refine FA 5 y2 hZ ?_
    refine AU 6 hZ ?_
    refine Er 7 rfl (by kernel_rfl) rfl rfl rfl rfl hZ ?_
    refine Dy 8 hZ ?_
    refine Dz 9 hZ ?_
    refine AU 10 hZ ?_
    refine Ag 11 hZ ?_
    refine FA 12 y2 hZ ?_
    refine Dy 13 hZ ?_
    refine AU 14 hZ ?_
    refine BB 15 hZ ?_
    refine BB 16 hZ ?_
    refine BB 17 hZ ?_
    refine BB 18 hZ ?_
    refine BB 19 hZ ?_
    refine BB 20 hZ ?_
    refine BB 21 hZ ?_
    refine BB 22 hZ ?_
    refine Dz 23 hZ ?_
    refine Dz 24 hZ ?_
    refine AU 25 hZ ?_
    refine Ag 26 hZ ?_
    refine FA 27 y5 hZ ?_
    refine Ag 28 hZ ?_
    refine FA 29 y6 hZ ?_
    refine Dy 30 hZ ?_
    refine Dz 31 hZ ?_
    refine AU 32 hZ ?_
    refine Ag 33 hZ ?_
    refine FA 34 y7 hZ ?_
    refine Dz 35 hZ ?_
    refine BF ?_
    repeat(first|refine AH ?_|refine AE ?_|refine Ar ?_|refine Bb ?_|refine AV ?_|refine Aq ?_|refine BR (kd:=.i64) rfl (i64_in (by omega) (by omega)) ?_|refine Am ?_)
    exact Ah (again (k+1) _ _ (by omega) ⟨by omega,rfl,u3⟩) ⟨rfl,rfl,rfl,trivial⟩
  ·obtain rfl:k=R.left.length:=by omega
   clear again
   repeat(first|refine AI ?_|refine AH ?_|refine AE ?_|refine AV ?_|refine Aq ?_|refine Bc ?_|refine Az ?_|refine Bg ?_|refine BN ?_|refine Am ?_|refine AQ ?_|refine B8 ?_|refine Av rfl (by assumption) ?_)
   exact CL rfl ⟨rfl,rfl,cv,u2.get row (fun x=>x),A2 up u2 (fun _ _ x=>x.elim),fst.upd u2 (fun _ _ x=>x),PT⟩
end
end
section
section
variable{Γ:Type}{main:Bool}{S:Cp Γ}{δ:Ix Γ}{h h':Hp}{R:Rec}{AZ:List Int}{lL lW lY lV sP tv cv:Value}{last:Int}{C n most:Nat}{e:Int}{X:Us}
theorem Fh.Ly(ok:Fh X AZ R):R.left.length<=64:=by
 have h2:=OY (n:=R.nb) (l:=R.left.map (·.1)) 0 (List.pairwise_map.2 ok.Xp) (fun _ _=>Bv _) (fun a ha=>by
  obtain⟨q,hq,rfl⟩:=Iu.1 ha
  exact(ok.left q hq).1)
 rw [Ca]at h2
 have:=ok.nb
 omega
theorem Fh.dR(ok:Fh X AZ R){k:Nat}{a b:Nat×Rq}(ha:R.left[k]?=some a)(hb:R.left[k+1]?=some b):a.1<b.1:=by
 obtain⟨_,_,h1⟩:=Dj ha
 obtain⟨_,_,h2⟩:=Dj hb
 have:=List.pairwise_iff_getElem.1 ok.Xp k (k+1) h1 h2 (by omega)
 rw [Cl h1]at ha
 rw [Cl h2]at hb
 cases ha;cases hb
 exact this
theorem ZT(ok:Fh X AZ R)(m:HB R AZ lL lW lY lV sP h)(hC:h[C]?=some (KR R.e R.log.length lL lW lY lV sP R.most tv cv last)):
  AY Tryz.prog main S 44 #[ptr C] h δ (CJ (Gb (.bool true) h δ)):=by
 have hlen:=ok.len
 have P3:=ok.most
 have Vv:=ok.Ly
 obtain⟨aW,kW,eW⟩:=m.Ax.val
 obtain⟨aY,kY,eY⟩:=m.Da.val
 obtain⟨aV,kV,eV⟩:=m.left.val
 subst eW eY eV
 have wc:=ok.Da
 have bB:(R.log.map (·.BI)).length=R.log.length:=Ca _
 rw [bB,wc]at hC
 have d1:AF h ⟨C,1,none⟩=some (.int .i64 R.log.length):=AD hC rfl
 have d3:AF h ⟨C,3,none⟩=some (.slice aW R.log.length kW):=AD hC rfl
 have d4:AF h ⟨C,4,none⟩=some (.slice aY R.log.length kY):=AD hC rfl
 have d5:AF h ⟨C,5,none⟩=some (.slice aV R.left.length kV):=AD hC rfl
 have d6:AF h ⟨C,6,none⟩=some AK:=AD hC rfl
 have d8:AF h ⟨C,8,none⟩=some (.int .i64 R.most):=AD hC rfl
 refine CK (n:=101) ?_
 repeat(first|refine AI ?_|refine AH ?_|refine AE ?_|refine Aq ?_)
 refine BO (fun h'=>h'=h) ?_
 have hZ:h=h:=rfl
 refine AU 0 hZ ?_
 refine BE 1 hZ ?_
 refine Ag 2 hZ ?_
 refine Ag 3 hZ ?_
 refine FA 4 d1 hZ ?_
 refine AU 5 hZ ?_
 refine BE 6 hZ ?_
 refine Ag 7 hZ ?_
 refine Ag 8 hZ ?_
 refine FA 9 d3 hZ ?_
 refine Er 10 rfl (by kernel_rfl) rfl rfl rfl rfl hZ ?_
 refine Dy 11 hZ ?_
 refine AU 12 hZ ?_
 refine AU 13 hZ ?_
 refine BE 14 hZ ?_
 refine Ag 15 hZ ?_
 refine Ag 16 hZ ?_
 refine FA 17 d1 hZ ?_
 refine AU 18 hZ ?_
 refine BE 19 hZ ?_
 refine Ag 20 hZ ?_
 refine Ag 21 hZ ?_
 refine FA 22 d4 hZ ?_
 refine Er 23 rfl (by kernel_rfl) rfl rfl rfl rfl hZ ?_
 refine Dy 24 hZ ?_
 refine Dz 25 hZ ?_
 refine AU 26 hZ ?_
 refine AU 27 hZ ?_
 refine BE 28 hZ ?_
 refine Ag 29 hZ ?_
 refine Ag 30 hZ ?_
 refine FA 31 d1 hZ ?_
 refine AU 32 hZ ?_
 refine BE 33 hZ ?_
 refine Ag 34 hZ ?_
 refine FA 35 d8 hZ ?_
 refine Dy 36 hZ ?_
 refine Dz 37 hZ ?_
 refine BF ?_
 clear hZ
 repeat(first|refine AI ?_|refine AH ?_|refine AE ?_|refine Ar ?_|refine Ak ?_|refine Aq ?_|refine Am ?_)
 refine B1 (fun k:Nat=>[(3,.int .i64 k),(0,ptr C)]) (fun k h' AW=>1<=k/\(k<=R.left.length\/k=1)/\h'=h/\AW=δ) (fun k=>R.left.length-k) 1 ⟨rfl,rfl,trivial⟩ ⟨CY _,.inr rfl,rfl,rfl⟩ ?_
 rintro k h2 FJ ⟨aU,hk,rfl,rfl⟩ again
 by_cases CO:k<R.left.length
 ·obtain⟨q,rfl⟩:∃q,k=q+1:=⟨k-1,by omega⟩
  obtain⟨a,ha⟩:∃a,R.left[q]?=some a:=⟨_,Cl (by omega)⟩
  obtain⟨b,hb⟩:∃b,R.left[q+1]?=some b:=⟨_,Cl CO⟩
  have ua:=ok.dR ha hb
  obtain⟨bV,ea,NG,hz⟩:=Bt (IJ (Ab R.log) R.val) m.left ha
  subst ea
  obtain⟨bV2,ea,FH,hz⟩:=Bt (IJ (Ab R.log) R.val) m.left hb
  injection ea with ea
  injection ea with ea
  subst ea
  have g1:AF h2 ⟨bV,0+(((q+1:Nat):Int)-1).toNat*8+0,none⟩=some (.int .i64 a.1):=by
   rw [show(((q+1:Nat):Int)-1).toNat=q by omega];exact NG 0 _ rfl
  have g2:AF h2 ⟨bV,0+(q+1)*8+0,none⟩=some (.int .i64 b.1):=FH 0 _ rfl
  repeat(first|refine AI ?_|refine AH ?_|refine AE ?_|refine Ar ?_|refine Ak ?_|refine AV ?_|refine Bc ?_|refine Az ?_|refine Df ?_|refine Bs ?_|refine BN ?_|refine BU ?_)
  refine BO (fun h'=>h'=h2) ?_
  have hZ:h2=h2:=rfl
  refine AU 0 hZ ?_
  refine BE 1 hZ ?_
  refine Ag 2 hZ ?_
  refine Ag 3 hZ ?_
  refine FA 4 d5 hZ ?_
  refine AU 5 hZ ?_
  refine GP 6 hZ ?_
  refine Ag 7 hZ ?_
  refine FA 8 g2 hZ ?_
  refine AU 9 hZ ?_
  refine BE 10 hZ ?_
  refine Ag 11 hZ ?_
  refine Ag 12 hZ ?_
  refine FA 13 d5 hZ ?_
  refine AU 14 hZ ?_
  refine Kd (kd:=.i64) 15 rfl (by kernel_rfl) rfl rfl rfl rfl rfl (i64_in (by omega) (by omega)) hZ ?_
  refine GP 16 hZ ?_
  refine Ag 17 hZ ?_
  refine FA 18 g1 hZ ?_
  refine Dy 19 hZ ?_
  refine BF ?_
  clear hZ g1 g2
  repeat(first|refine AH ?_|refine AE ?_|refine Ar ?_|refine Bb ?_|refine AV ?_|refine Aq ?_|refine BR (kd:=.i64) rfl (i64_in (by omega) (by omega)) ?_|refine Am ?_)
  exact Ah (again (q+1+1) _ _ (by omega) ⟨by omega,.inl (by omega),rfl,rfl⟩) ⟨rfl,rfl,trivial⟩
 ·clear again
  repeat(first|refine AI ?_|refine AH ?_|refine AE ?_|refine Ak ?_|refine AV ?_|refine Aq ?_|refine Bc ?_|refine Az ?_|refine Df ?_|refine Bg ?_|refine BN ?_|refine Am ?_|refine B8 ?_)
  refine B1 (fun k:Nat=>[(4,.int .i64 1),(0,ptr C)]) (fun k h' AW=>h'=h2/\AW=FJ) (fun k=>0) 0 ⟨rfl,rfl,trivial⟩ ⟨rfl,rfl⟩ ?_
  rintro k h2 FJ ⟨rfl,rfl⟩ -
  repeat(first|refine AI ?_|refine AH ?_|refine AE ?_|refine AV ?_|refine Aq ?_|refine Bc ?_|refine Az ?_|refine Df ?_|refine Bg ?_|refine BN ?_|refine Am ?_|refine AQ ?_|refine B8 ?_)
  exact DQ El
end
end
section
theorem Bq{h:Hp}{s s':Value}{e e' sz sz' n n':Nat}{cells lN:List Value}(x:AR h s e sz n cells)(y:AR h s' e' sz' n' lN)(B7:e≠e'):∀b,blk s=some b->blk s'≠some b:=by
 intro b hb DN
 obtain⟨_,⟨rfl,_⟩|⟨b1,cap,rest,rfl,h1,h2,h3⟩⟩:=y
 ·cases DN
 ·cases DN
  exact Ac x h3 B7 _ hb rfl
structure FO(R:Rec)(lL lW lY lV sP:Value)(h0:Hp)(C:Nat)(tv cv:Value)(last:Int)(BI:List Nat)(cl:List Int)(h:Hp):Prop where
 up:AN (fun _=>False) h0 h
 row:h[C]?=some (KR R.e R.log.length lL lW lY lV sP R.most tv cv last)
 BI:AR h tv 3 1 BI.length (BI.map fun(n:Nat)=>Value.int .i64 (n:Int))
 Fu:AR h cv 2 1 cl.length (cl.map fun x=>Value.int .i64 x)
 nC:h0.size<=C
 nt:∀b,blk tv=some b->h0.size<=b
 nc:∀b,blk cv=some b->h0.size<=b
def TI(R:Rec)(k:Nat)(BI:List Nat):Prop:=∀j t,BI[j]?=some t->t<=R.log.length/\∀i e,k<=i->i<t->R.log[i]?=some e->e.BI≠j
theorem TI.mono{R:Rec}{k k':Nat}{BI:List Nat}(x:TI R k BI)(hk:k<=k'):TI R k' BI:=fun j t ht=>⟨(x j t ht).1,fun i e hi=>(x j t ht).2 i e (by omega)⟩
theorem TI.set{R:Rec}{k j t:Nat}{BI:List Nat}(x:TI R k BI)(h1:t<=R.log.length)(h2:∀i e,k<=i->i<t->R.log[i]?=some e->e.BI≠j):TI R k (BI.set j t):=by
 intro j' t' ht
 by_cases e:j'=j
 ·subst e
  have Cg:j'<BI.length:=by have:=(Dj ht).2.2;simpa using this
  rw [List.getElem?_set_self Cg]at ht
  cases ht
  exact⟨h1,h2⟩
 ·rw [OD (Ne.symm e)]at ht
  exact x j' t' ht
section
variable{R:Rec}{k j:Nat}
theorem J8:j∈R.alive k↔j<R.nb/\((∃q,q∈R.left/\q.1=j)\/∃i e,k<=i/\R.log[i]?=some e/\e.BI=j):=by
 unfold Rec.alive
 rw [SP,Iv,Bool.or_eq_true,List.any_eq_true,List.any_eq_true]
 refine and_congr_right fun _=>or_congr ?_ ?_
 ·constructor
  ·rintro⟨q,hq,e⟩;exact⟨q,hq,by simpa using e⟩
  ·rintro⟨q,hq,e⟩;exact⟨q,hq,by simpa using e⟩
 ·constructor
  ·rintro⟨e,he,h⟩
   obtain⟨i,hi,rfl⟩:=JZ.1 he
   have:=Cl hi
   rw [List.getElem?_drop]at this
   exact⟨k+i,_,by omega,this,by simpa using h⟩
  ·rintro⟨i,e,hi,he,h⟩
   refine⟨e,List.mem_of_getElem? (i:=i-k) ?_,by simpa using h⟩
   rw [List.getElem?_drop,show k+(i-k)=i by omega]
   exact he
theorem Z8{i:Nat}{e:Ev}(hj:j<R.nb)(hi:k<=i)(he:R.log[i]?=some e)(h:e.BI=j):j∈R.alive k:=J8.2 ⟨hj,.inr ⟨i,e,hi,he,h⟩⟩
end
section
variable{Γ:Type}{main:Bool}{S:Cp Γ}{δ:Ix Γ}{h h' h0:Hp}{R:Rec}{AZ:List Int}{lL lW lY lV sP tv cv:Value}{last:Int}{C n k j:Nat}{e:Int}{X:Us}{BI:List Nat}{cl:List Int}
theorem FO.A5(I:FO R lL lW lY lV sP h0 C tv cv last BI cl h)(u:AN (fun _=>False) h h'):FO R lL lW lY lV sP h0 C tv cv last BI cl h':=
 ⟨I.up.trans u,u.get I.row (fun x=>x),I.BI.upd u (fun _ _ x=>x),I.Fu.upd u (fun _ _ x=>x),I.nC,I.nt,I.nc⟩
theorem FO.other(I:FO R lL lW lY lV sP h0 C tv cv last BI cl h){y:Nat}{vs:List Value}(hy:h[y]?=some (CE vs))(KG:h0.size<=y)(o:Obj):FO R lL lW lY lV sP h0 C tv cv last BI cl (h.setIfInBounds y o):=by
 have u:AN (fun b=>b=y) h (h.setIfInBounds y o):=AN.set _ _ _ rfl
 have hyC:C≠y:=fun e=>by
  have:=I.row
  rw [e,hy]at this
  injection this with this
  injection this with _ this _
  revert this;decide
 exact⟨I.up.over u (fun b hb=>by omega),u.get I.row hyC,I.BI.upd u (Ac I.BI hy (by decide)),I.Fu.upd u (Ac I.Fu hy (by decide)),I.nC,I.nt,I.nc⟩
theorem FO.pq{b cap:Nat}(I:FO R lL lW lY lV sP h0 C (.slice (some ⟨b,0,none⟩) BI.length cap) cv last BI cl h){j t:Nat}(hj:j<BI.length):FO R lL lW lY lV sP h0 C (.slice (some ⟨b,0,none⟩) BI.length cap) cv last (BI.set j t) cl (Af h ⟨b,0+j*1,none⟩ (.int .i64 t)):=by
 have u:AN (fun x=>x=b) h (Af h ⟨b,0+j*1,none⟩ (.int .i64 t)):=AN.Af _ _ _ rfl
 have hb:=I.nt b rfl
 have e1:0+j*1=j:=by omega
 refine⟨I.up.over u (fun b' DN=>by omega),u.get I.row (fun e=>Ac I.BI I.row (by decide) b rfl e.symm),?_,I.Fu.upd u (fun b' DN e=>Bq I.BI I.Fu (by decide) b rfl (by rw [<-e];exact DN)),I.nC,I.nt,I.nc⟩
 have:=I.BI.set (j:=j) (by rw [Ca];exact hj) (.int .i64 t)
 rw [e1,List.map_set,List.length_set]
 exact this
theorem Dx{y:Nat}{vs:List Value}{h:Hp}(hl:vs.length=8)(hy:h[y]?=some (CE vs)):∀j,j<8->(∃u,AF h ⟨y,0+j,none⟩=some u)/\Bf h ⟨y,0+j,none⟩=false/\¬(Fb (Γ:=Γ)).still δ.g ⟨y,0+j,none⟩:=fun j hj=>by
 obtain⟨v,hv⟩:∃v,vs[j]?=some v:=⟨_,Cl (by omega)⟩
 refine⟨⟨v,?_⟩,AS hy,fun x=>x⟩
 rw [Nat.zero_add]
 exact AD hy (by simp only [List.getElem?_toArray];exact hv)
theorem da(ok:Fh X AZ R)(m:HB R AZ lL lW lY lV sP h0)(I:FO R lL lW lY lV sP h0 C tv cv last BI cl h)(hl:BI.length=R.nb)(ti:TI R k BI)(hj:j<R.nb)(hk:k<=R.log.length):
  AY Tryz.prog main (Fb (Γ:=Γ)) 96 #[ptr C,.int .i64 j,.int .i64 k] h δ (CJ fun v h' AW=>AW=δ/\∃(Tm:List Nat) (t o c a n w x:Int) (f b:Bool),v= .tuple #[.agg (A4 t o c a n w x f).toArray,.bool b]/\(b=true↔j∈R.alive k)/\(b=true->1<=o/\o<=5/\ -1<=c/\c<(Ab R.log).length)/\
   Tm.length=R.nb/\TI R k Tm/\FO R lL lW lY lV sP h0 C tv cv last Tm cl h'/\AN (fun b=>blk tv=some b) h h'):=by
 have hlen:=ok.len
 have P3:=ok.most
 have Vv:=ok.Ly
 have Rj:=ok.nb
 obtain⟨aL,kL,eL⟩:=m.log.val
 obtain⟨aV,kV,eV⟩:=m.left.val
 obtain⟨aT,kT,eT⟩:=I.BI.val
 subst eL eV eT
 obtain⟨t0,oQ⟩:∃t0,BI[j]?=some t0:=⟨_,Cl (by omega)⟩
 obtain⟨ht1,oO⟩:=ti j t0 oQ
 obtain⟨bT,eT,cT,fT⟩:=C7 I.BI oQ
 subst eT
 have Rs:j<BI.length:=by omega
 obtain⟨y,hy⟩:∃y,y=h.size:=⟨_,rfl⟩
 have KG:h0.size<=y:=by have:=I.up.size;omega
 refine CK (n:=109) ?_
 repeat(first|refine AI ?_|refine AH ?_|refine AE ?_|refine AV ?_|refine Aq ?_|refine Bc ?_|refine Az ?_|refine Cn ?_)
 refine A6 (fun h'=>FO R (.slice aL R.log.length kL) lW lY (.slice aV R.left.length kV) sP h0 C (.slice (some ⟨bT,0,none⟩) BI.length kT) cv last BI cl h'/\AN (fun _=>False) h h'/\h'[y]?=some (CE [.int .i64 0,.int .i8 0,.int .i64 0,.int .i64 0,.int .i64 0,.int .i64 0,.int .i64 0,.bool false])) ⟨I.A5 (AN.push _ _),AN.push _ _,by rw [hy];exact AG _ _⟩ ?_
 rw [<-hy]
 have wG:h.size<=y:=by omega
 clear I cT fT hy
 rintro h1 ⟨I,u1,ly⟩
 obtain⟨bT',eT,cT,fT⟩:=C7 I.BI oQ
 injection eT with eT
 injection eT with eT
 subst eT
 have c9:AF h1 ⟨C,9,none⟩=some (.slice (some ⟨bT,0,none⟩) BI.length kT):=AD I.row rfl
 have c2:AF h1 ⟨C,2,none⟩=some (.slice aL R.log.length kL):=AD I.row rfl
 obtain⟨i0,hi0⟩:∃i0,i0=max k t0:=⟨_,rfl⟩
 repeat(first|refine AV ?_|refine Cd ?_|refine Av rfl (by assumption) ?_)
 refine gO (r:=(i0:Int)) rfl rfl rfl rfl (by split <;> omega) ?_
 repeat(first|refine AE ?_|refine Ak ?_|refine Aq ?_)
 refine B1 (fun i:Nat=>[(8,.int .i64 i),(6,ptr y),(0,ptr C),(1,.int .i64 j)]) (fun i h' AW=>k<=i/\i<=R.log.length/\(∀i' e,k<=i'->i'<i->R.log[i']?=some e->e.BI≠j)/\h'=h1/\AW=δ) (fun i=>R.log.length-i) i0 ⟨rfl,rfl,rfl,rfl,trivial⟩ ⟨by omega,by omega,fun i' e h1 h2 h3=>oO i' e h1 (by omega) h3,rfl,rfl⟩ ?_
 rintro i h2 FJ ⟨hik,oa,G7,rfl,rfl⟩ again
 by_cases CO:i<R.log.length
 ·obtain⟨e,he⟩:∃e,R.log[i]?=some e:=⟨_,Cl CO⟩
  obtain⟨bL,ea,A0,hz⟩:=Bt (FR (Ab R.log)) (m.log.upd I.up (fun _ _ x=>x)) he
  subst ea
  have w0:AF h2 ⟨bL,0+i*8+0,none⟩=some (.int .i64 e.BI):=A0 0 _ rfl
  have w1:AF h2 ⟨bL,0+i*8+1,none⟩=some (.int .i8 e.op):=A0 1 _ rfl
  obtain⟨w,i1,r,cw,hr,e1,aj⟩:=ok.chain.inv he
  have Qu:1<=e.op:=by rw [e1];exact hr.iM
  have Qt:e.op<=5:=by rw [e1];exact hr.mU
  obtain⟨-,i2,i3,-⟩:=UC he
  have qW:(Ab R.log).idxOf e.b<(Ab R.log).length:=by
   refine List.idxOf_lt_length_iff.2 ((IH _ _).2 ⟨e,Fg he,rfl⟩)
  by_cases om:e.BI=j
  ·repeat(first|refine AI ?_|refine AH ?_|refine AE ?_|refine Ar ?_|refine Ak ?_|refine AV ?_|refine Bc ?_|refine Az ?_|refine Bl ?_|refine Bs ?_|refine BN ?_|refine Cd ?_|refine BU ?_|refine Av rfl (by assumption) ?_)
   refine CS rfl ⟨nofun,nofun⟩ ⟨_,cT⟩ (fT _) (fun x=>x) ?_
   have I2:=I.pq (j:=j) (t:=i) Rs
   have FH:=Cq h2 ⟨bT,0+j*1,none⟩ (.int .i64 i) (r:=y) (fun e=>Ac I.BI ly (by decide) bT rfl e)
   rw [ly]at FH
   have Gh:TJ.A0 (Af h2 ⟨bT,0+j*1,none⟩ (.int .i64 i)) bL (0+i*8) (CF (Ab R.log) e):=by
    obtain⟨bL',ea,Gh,-⟩:=Bt (FR (Ab R.log)) (m.log.upd I2.up (fun _ _ x=>x)) he
    injection ea with ea
    injection ea with ea
    subst ea
    exact Gh
   change ER _ _ _ _ _ _ _ _ _ _ (Af h2 ⟨bT,0+j*1,none⟩ (.int .i64 i)) _ _
   have U2:AN (fun b=>blk (.slice (some ⟨bT,0,none⟩) BI.length kT)=some b) h (Af h2 ⟨bT,0+j*1,none⟩ (.int .i64 i)):=A2 (u1.mono (fun _ _ x=>x.elim)) (AN.Af (T:=fun b=>blk (.slice (some ⟨bT,0,none⟩) BI.length kT)=some b) _ _ _ rfl) (fun _ _ x=>x)
   generalize Af h2 ⟨bT,0+j*1,none⟩ (.int .i64 i)=h3 at I2 FH Gh U2⊢
   clear I c9 c2 ly cT fT A0 w0 w1 again
   have c2:AF h3 ⟨C,2,none⟩=some (.slice (some ⟨bL,0,none⟩) R.log.length kL):=AD I2.row rfl
   repeat(first|refine AI ?_|refine AH ?_|refine AE ?_|refine AV ?_|refine Bc ?_|refine Az ?_|refine Cd ?_|refine Av rfl (by assumption) ?_)
   refine C5 (vs:=CF (Ab R.log) e) rfl Gh ?_
   refine Bz (vs:=CF (Ab R.log) e) rfl rfl (by simp [CF,A4,OneCell]) (Dx rfl FH) ?_
   rw [Au (c:=[.int .i64 0,.int .i8 0,.int .i64 0,.int .i64 0,.int .i64 0,.int .i64 0,.int .i64 0,.bool false]) (vs:=CF (Ab R.log) e) FH rfl]
   repeat(first|refine AE ?_|refine Aq ?_|refine AQ ?_)
   refine Ll (vs:=CF (Ab R.log) e) rfl rfl rfl (C0 (by exact AJ FH)) rfl ⟨rfl,BI.set j i,_,_,_,_,_,_,_,_,true,rfl,⟨fun _=>Z8 hj hik he om,fun _=>rfl⟩,fun _=>⟨Qu,Qt,by omega,by omega⟩,by rw [List.length_set];exact hl,ti.set oa G7,I2.other FH KG _,A2 U2 (AN.set (T:=fun b=>b=y) _ _ _ rfl) (fun b hb e=>by omega)⟩
  ·repeat(first|refine AI ?_|refine AH ?_|refine AE ?_|refine Ar ?_|refine Ak ?_|refine Bb ?_|refine AV ?_|refine Aq ?_|refine Bc ?_|refine Az ?_|refine CW ?_|refine Bd ?_|refine Bs ?_|refine Bg ?_|refine BR (kd:=.i64) rfl (i64_in (by omega) (by omega)) ?_|refine BN ?_|refine Cd ?_|refine BU ?_|refine Am ?_|refine Av rfl (by assumption) ?_)
   exact Ah (again (i+1) _ _ (by omega) ⟨by omega,by omega,fun i' e' h1 h2 h3=>by
    by_cases xi:i'=i
    ·subst xi
     rw [he]at h3;cases h3;exact om
    ·exact G7 i' e' h1 (by omega) h3,rfl,rfl⟩) ⟨rfl,rfl,rfl,rfl,trivial⟩
 ·obtain rfl:i=R.log.length:=by omega
  clear again CO
  repeat(first|refine AI ?_|refine AH ?_|refine AE ?_|refine AV ?_|refine Bc ?_|refine Az ?_|refine Bg ?_|refine BN ?_|refine Am ?_|refine B8 ?_|refine Av rfl (by assumption) ?_)
  refine D7 (fun h'=>AF h' ⟨C,9,none⟩=some (.slice (some ⟨bT,0,none⟩) BI.length kT)/\AF h' ⟨C,2,none⟩=some (.slice aL R.log.length kL)) 12 ?_
  have hZ:_/\_:=And.intro c9 c2
  refine AU 0 hZ ?_
  refine BE 1 hZ ?_
  refine Ag 2 hZ ?_
  refine A8 3 (fun _ hz=>hz.1) hZ ?_
  refine AU 4 hZ ?_
  refine AU 5 hZ ?_
  refine BE 6 hZ ?_
  refine Ag 7 hZ ?_
  refine Ag 8 hZ ?_
  refine A8 9 (fun _ hz=>hz.2) hZ ?_
  refine Er 10 rfl (by kernel_rfl) rfl rfl rfl rfl hZ ?_
  refine CQ 11 rfl (by kernel_rfl) (fun ρ Q X Aa hq=>E4 (Aa _ _ rfl) (Aa _ _ rfl) (by omega) (by omega) hq) hZ ?_
  refine D6 (h':=Af h2 ⟨bT,0+j*1,none⟩ (.int .i64 R.log.length)) 12 rfl (by kernel_rfl) rfl rfl rfl (fun ρ Q X Aa hq=>BG (Aa _ _ rfl) (Aa _ _ rfl) ⟨nofun,nofun⟩ ⟨_,cT⟩ (fT _) (fun x=>x) hq) ?_
  refine BF ?_
  have I2:=I.pq (j:=j) (t:=R.log.length) Rs
  have FH:=Cq h2 ⟨bT,0+j*1,none⟩ (.int .i64 R.log.length) (r:=y) (fun e=>Ac I.BI ly (by decide) bT rfl e)
  rw [ly]at FH
  have U2:AN (fun b=>blk (.slice (some ⟨bT,0,none⟩) BI.length kT)=some b) h (Af h2 ⟨bT,0+j*1,none⟩ (.int .i64 R.log.length)):=A2 (u1.mono (fun _ _ x=>x.elim)) (AN.Af (T:=fun b=>blk (.slice (some ⟨bT,0,none⟩) BI.length kT)=some b) _ _ _ rfl) (fun _ _ x=>x)
  generalize Af h2 ⟨bT,0+j*1,none⟩ (.int .i64 R.log.length)=h3 at I2 FH U2⊢
  clear hZ I c9 c2 ly cT fT
  have c5:AF h3 ⟨C,5,none⟩=some (.slice aV R.left.length kV):=AD I2.row rfl
  repeat(first|refine AI ?_|refine AH ?_|refine AE ?_|refine Ak ?_|refine Aq ?_)
  refine B1 (fun i:Nat=>[(9,.int .i64 i),(6,ptr y),(0,ptr C),(1,.int .i64 j)]) (fun i h' AW=>i<=R.left.length/\(∀i' q,i'<i->R.left[i']?=some q->q.1≠j)/\h'=h3/\AW=FJ) (fun i=>R.left.length-i) 0 ⟨rfl,rfl,rfl,rfl,trivial⟩ ⟨Bv _,fun i' q h=>by omega,rfl,rfl⟩ ?_
  rintro i h3 Hz ⟨AFZ,qS,rfl,rfl⟩ again
  by_cases CO:i<R.left.length
  ·obtain⟨q,hq⟩:∃q,R.left[i]?=some q:=⟨_,Cl CO⟩
   obtain⟨bV,ea,A0,hz⟩:=Bt (IJ (Ab R.log) R.val) (m.left.upd I2.up (fun _ _ x=>x)) hq
   subst ea
   have w0:AF h3 ⟨bV,0+i*8+0,none⟩=some (.int .i64 q.1):=A0 0 _ rfl
   obtain⟨mq,hqr⟩:=ok.left q (Fg hq)
   by_cases om:q.1=j
   ·repeat(first|refine AI ?_|refine AH ?_|refine AE ?_|refine Ar ?_|refine Ak ?_|refine AV ?_|refine Bc ?_|refine Az ?_|refine Bs ?_|refine BN ?_|refine Cd ?_|refine BU ?_|refine Av rfl (by assumption) ?_)
    refine C5 (vs:=EJ (Ab R.log) R.val q) rfl A0 ?_
    refine Bz (vs:=EJ (Ab R.log) R.val q) rfl rfl (by simp [EJ,A4,OneCell]) (Dx rfl FH) ?_
    rw [Au (c:=[.int .i64 0,.int .i8 0,.int .i64 0,.int .i64 0,.int .i64 0,.int .i64 0,.int .i64 0,.bool false]) (vs:=EJ (Ab R.log) R.val q) FH rfl]
    repeat(first|refine AE ?_|refine Aq ?_|refine AQ ?_)
    refine Ll (vs:=EJ (Ab R.log) R.val q) rfl rfl rfl (C0 (by exact AJ FH)) rfl ⟨rfl,BI.set j R.log.length,_,_,_,_,_,_,_,_,true,rfl,⟨fun _=>J8.2 ⟨hj,.inl ⟨q,Fg hq,om⟩⟩,fun _=>rfl⟩,fun _=>⟨hqr.iM,hqr.mU,?_,?_⟩,by rw [List.length_set];exact hl,ti.set (CY _) G7,I2.other FH KG _,A2 U2 (AN.set (T:=fun b=>b=y) _ _ _ rfl) (fun b hb e=>by omega)⟩
    ·split <;> omega
    ·split
     ·rename_i hb
      have:=List.idxOf_lt_length_iff.2 hb
      omega
     ·omega
   ·repeat(first|refine AI ?_|refine AH ?_|refine AE ?_|refine Ar ?_|refine Ak ?_|refine Bb ?_|refine AV ?_|refine Aq ?_|refine Bc ?_|refine Az ?_|refine Bs ?_|refine Bg ?_|refine BR (kd:=.i64) rfl (i64_in (by omega) (by omega)) ?_|refine BN ?_|refine Cd ?_|refine BU ?_|refine Am ?_|refine Av rfl (by assumption) ?_)
    exact Ah (again (i+1) _ _ (by omega) ⟨by omega,fun i' q' h1 h3=>by
     by_cases xi:i'=i
     ·subst xi
      rw [hq]at h3;cases h3;exact om
     ·exact qS i' q' (by omega) h3,rfl,rfl⟩) ⟨rfl,rfl,rfl,rfl,trivial⟩
  ·obtain rfl:i=R.left.length:=by omega
   clear again CO
   have iX:j∉R.alive k:=fun hm=>by
    obtain⟨_,⟨q,hq,e⟩|⟨i,e,h1,h2,h3⟩⟩:=J8.1 hm
    ·obtain⟨i,hi⟩:=List.getElem?_of_mem hq
     exact qS i q (Dj hi).2.2 hi e
    ·exact G7 i e h1 (Dj h2).2.2 h2 h3
   repeat(first|refine AI ?_|refine AH ?_|refine AE ?_|refine AV ?_|refine Bc ?_|refine Az ?_|refine Bg ?_|refine BN ?_|refine Am ?_|refine B8 ?_|refine Av rfl (by assumption) ?_)
   refine Cr (cells:=#[.int .i64 0,.int .i8 0,.int .i64 0,.int .i64 0,.int .i64 0,.int .i64 0,.int .i64 0,.bool false]) rfl rfl rfl rfl ?_
   refine Bz (vs:=A4 0 0 0 0 0 0 0 false) rfl rfl (by simp [A4,OneCell]) (Dx rfl FH) ?_
   rw [Au (c:=[.int .i64 0,.int .i8 0,.int .i64 0,.int .i64 0,.int .i64 0,.int .i64 0,.int .i64 0,.bool false]) (vs:=A4 0 0 0 0 0 0 0 false) FH rfl]
   repeat(first|refine AE ?_|refine Aq ?_|refine AQ ?_)
   exact Ll (vs:=A4 0 0 0 0 0 0 0 false) rfl rfl rfl (C0 (by exact AJ FH)) rfl ⟨rfl,BI.set j R.log.length,_,_,_,_,_,_,_,_,false,rfl,⟨fun e=>(by cases e),fun e=>absurd e iX⟩,fun e=>(by cases e),by rw [List.length_set];exact hl,ti.set (CY _) G7,I2.other FH KG _,A2 U2 (AN.set (T:=fun b=>b=y) _ _ _ rfl) (fun b hb e=>by omega)⟩
end
end
section
abbrev D5:=Int×Int
def DR(n:D5):List Value:=[.int .i64 n.1,.int .i64 n.2]
abbrev JP(n:D5):Value:=.agg #[.int .i64 n.1,.int .i64 n.2]
theorem Zt(n:D5):(DR n).length=2:=rfl
structure WS where
 q:List (Bool×D5)
 hs:List (D5×Int)
 nv:Value
 gv:Value
 fv:Value
 hv:Value
 ov:Value
def H6:List (D5×Int)->D5->Int
 | [],_=>0
 | (m,v)::l,n=>if m=n then v else H6 l n
theorem Ss{n:D5}:∀{l:List (D5×Int)} {k:Nat} {v:Int},(∀j q,j<k->l[j]?=some q->q.1≠n)->l[k]?=some (n,v)->H6 l n=v
 | [],_,_,_,h=>by cases h
 | (m,w)::l,0,v,_,h=>by
  injection (show some (m,w)=some (n,v)from h)with h
  injection h with h1 h2
  subst h1 h2
  exact if_pos rfl
 | (m,w)::l,k+1,v,h0,h=>by
  have:m≠n:=h0 0 _ (by omega) rfl
  unfold H6
  rw [if_neg this]
  exact Ss (fun j q hj hq=>h0 (j+1) q (by omega) hq) h
theorem Sr{n:D5}:∀{l:List (D5×Int)},(∀q,q∈l->q.1≠n)->H6 l n=0
 | [],_=>rfl
 | (m,w)::l,h=>by
  unfold H6
  rw [if_neg (h (m,w) (by simp))]
  exact Sr fun q hq=>h q (by simp [hq])
abbrev zx(e:Int)(n:Nat)(lL lW lY lV:Value)(s:WS):List Value:=[.int .i8 e,.int .i64 n,lL,lW,lY,lV,AK,.bool false,s.nv,s.gv,s.fv,s.hv,s.ov]
abbrev eZ(e:Int)(n:Nat)(lL lW lY lV:Value)(s:WS):Obj:=.cells (zx e n lL lW lY lV s).toArray 146 (0,0)
abbrev GD(W i:Nat)(out:Bool)(t:Nat):Obj:=.cells #[ptr W,.int .i64 i,.bool out,.int .i64 t] 183 (0,0)
structure Ik(R:Rec)(nm:Nat->D5)(lL lW lY lV:Value)(h0:Hp)(W:Nat)(F:List Int)(s:WS)(h:Hp):Prop where
 up:AN (fun _=>False) h0 h
 row:h[W]?=some (eZ R.e R.log.length lL lW lY lV s)
 IL:AR h s.nv 134 2 s.q.length (s.q.flatMap fun x=>DR x.2)
 H2:AR h s.gv 4 1 s.q.length (s.q.map fun x=>Value.bool x.1)
 fst:AR h s.fv 2 1 F.length (F.map fun x=>Value.int .i64 x)
 Np:AR h s.hv 134 2 s.hs.length (s.hs.flatMap fun x=>DR x.1)
 NR:AR h s.ov 2 1 s.hs.length (s.hs.map fun x=>Value.int .i64 x.2)
 nW:h0.size<=W
 n1:∀b,blk s.nv=some b->h0.size<=b
 n2:∀b,blk s.gv=some b->h0.size<=b
 n3:∀b,blk s.fv=some b->h0.size<=b
 n4:∀b,blk s.hv=some b->h0.size<=b
 n5:∀b,blk s.ov=some b->h0.size<=b
 a1:∀b,blk s.nv=some b->blk s.hv≠some b
 a2:∀b,blk s.fv=some b->blk s.ov≠some b
def SU(R:Rec)(nm:Nat->D5)(q:List (Bool×D5)):Prop:=q.length=(Ab R.log).length/\∀(j b:Nat) (x:Bool×D5),(Ab R.log)[j]?=some b->q[j]?=some x->x.1=true->x.2=nm b
theorem SU.set{R:Rec}{nm:Nat->D5}{q:List (Bool×D5)}(x:SU R nm q){j b:Nat}(hb:(Ab R.log)[j]?=some b):SU R nm (q.set j (true,nm b)):=by
 refine⟨by rw [List.length_set];exact x.1,fun j' b' y DN hy ht=>?_⟩
 by_cases e:j'=j
 ·subst e
  have Cg:j'<q.length:=by rw [x.1];exact(Dj hb).2.2
  rw [List.getElem?_set_self Cg]at hy
  rw [hb]at DN
  cases hy;cases DN;rfl
 ·rw [OD (Ne.symm e)]at hy
  exact x.2 j' b' y DN hy ht
section
variable{R:Rec}{nm:Nat->D5}{lL lW lY lV:Value}{h0 h h':Hp}{W:Nat}{F:List Int}{s:WS}
theorem Ik.A5(I:Ik R nm lL lW lY lV h0 W F s h)(u:AN (fun _=>False) h h'):Ik R nm lL lW lY lV h0 W F s h':=
 ⟨I.up.trans u,u.get I.row (fun x=>x),I.IL.upd u (fun _ _ x=>x),I.H2.upd u (fun _ _ x=>x),I.fst.upd u (fun _ _ x=>x),I.Np.upd u (fun _ _ x=>x),I.NR.upd u (fun _ _ x=>x),I.nW,I.n1,I.n2,I.n3,I.n4,I.n5,I.a1,I.a2⟩
theorem Ik.other(I:Ik R nm lL lW lY lV h0 W F s h){y:Nat}{a:Array Value}{t:TypeId}(hy:h[y]?=some (.cells a t (0,0)))(KG:h0.size<=y)(h1:t≠146)(h2:t≠134)(h3:t≠4)(h4:t≠2)(o:Obj):Ik R nm lL lW lY lV h0 W F s (h.setIfInBounds y o):=by
 have u:AN (fun b=>b=y) h (h.setIfInBounds y o):=AN.set _ _ _ rfl
 have hyW:W≠y:=fun e=>by
  have:=I.row
  rw [e,hy]at this
  injection this with this
  injection this with _ this _
  exact h1 this
 exact⟨I.up.over u (fun b hb=>by omega),u.get I.row hyW,I.IL.upd u (Ac I.IL hy (Ne.symm h2)),I.H2.upd u (Ac I.H2 hy (Ne.symm h3)),I.fst.upd u (Ac I.fst hy (Ne.symm h4)),I.Np.upd u (Ac I.Np hy (Ne.symm h2)),I.NR.upd u (Ac I.NR hy (Ne.symm h4)),I.nW,I.n1,I.n2,I.n3,I.n4,I.n5,I.a1,I.a2⟩
end
def C3(R:Rec)(i t:Nat):List Ev:=Bm i (R.log.drop t)
theorem Re(R:Rec)(i:Nat):C3 R i 0=Bm i R.log:=by unfold C3;rw [List.drop_zero]
theorem Mp(R:Rec)(i:Nat):C3 R i R.log.length=[]:=by unfold C3;rw [List.drop_eq_nil_of_le (CY _)];rfl
theorem L7{R:Rec}{i t:Nat}{e:Ev}(h:R.log[t]?=some e):C3 R i t=if e.BI=i then e::C3 R i (t+1)else C3 R i (t+1):=by
 unfold C3
 have hk:=(Dj h).2.2
 rw [List.drop_eq_getElem_cons hk]
 have:R.log[t]=e:=by
  have:=Cl hk
  rw [h]at this
  injection this with this
  exact this.symm
 rw [this]
 unfold Bm
 by_cases hc:e.BI=i
 ·rw [if_pos hc,List.filter_cons_of_pos (by simpa using hc)]
 ·rw [if_neg hc,List.filter_cons_of_neg (by simpa using hc)]
def PF(R:Rec){A:Type}(i:Nat)(p:Pr A):Prop:=(∃r k,(i,r)∈R.left/\p= .step r k)\/((∀q,q∈R.left->q.1≠i)/\p= .done)
theorem PF.emit{R:Rec}{A:Type}{i:Nat}{p:Pr A}(x:PF R i p):∀a k,p≠ .emit a k:=by
 rintro a k rfl
 rcases x with⟨_,_,_,e⟩|⟨_,e⟩ <;> cases e
structure WAt(R:Rec){A:Type}(pf:Pr A)(x W i:Nat)(p:Pr A)(l:List Ev)(o:List A)(h:Hp):Prop where
 at_:∃t,t<=R.log.length/\C3 R i t=l/\h[x]?=some (GD W i false t)
 goes:Goes i p l o pf
structure zk(R:Rec)(x W i:Nat)(h:Hp):Prop where
 at_:∃t,t<=R.log.length/\C3 R i t=[]/\h[x]?=some (GD W i true t)
 left:∃r,(i,r)∈R.left
end
section
section
variable{Γ:Type}{P:Program}{main:Bool}{S:Cp Γ}{f:FuncId}{n:Nat}{k:List Item}{env:Env}{ds:List Deferred}{h:Hp}{δ:Ix Γ}{R:Cv Γ}
variable{ops:Array Oper}{l:List Oper}{d:Nat}{ty:TypeId}{pos:String}{af:Array Edge}{g:Option (Nat×Bool)}{Z:Hp->Prop}{zz:Nat}{m:Nat}{listed l':Array Bool}
theorem ZY{t t2:TypeId}{k1 k2:IntKind}[T6 P t k1 k2]{x y:Operand}{a1 a2 b1 b2:Int}{r:Bool}{ρ:Operand->Value}{dst:Option Nat}{Q:Next->Hp->Ix Γ->Prop}{X:Value->Hp->Ix Γ->Prop}(hx:ρ x= .agg #[.int k1 a1,.int k2 a2])(hy:ρ y= .agg #[.int k1 b1,.int k2 b2])(hr:(a1==b1&&a2==b2)=r)(hq:Q (.value (.bool r)) h δ):Aj P S (execOp ρ ⟨dst,.binOp .eql t x y t2,ty,pos,af,g⟩) h δ Q X:=
 E2 (by
  rw [hx,hy]
  exact Ms (by
   show Aj P S (Op.equal t _ _ >>= fun b=>pure (Value.bool b)) h δ _ X
   exact AM _ _ _ _ _ _ (QO (by rw [hr];exact hq))))
theorem Q5(i:Nat){t t2:TypeId}{k1 k2:IntKind}[T6 P t k1 k2]{x y:Operand}{a1 a2 b1 b2:Int}{r:Bool}(hi:ops[i]?=some ⟨some d,.binOp .eql t x y t2,ty,pos,af,g⟩)(hs:Ct ops listed zz i=true)(hl:listed.setIfInBounds i true=l')
  (hd:Nat.blt d n=true) (hw:Al ops env g=some true) (hx:ev env x=some (.agg #[.int k1 a1,.int k2 a2])) (hy:ev env y=some (.agg #[.int k1 b1,.int k2 b2])) (hr:(a1==b1&&a2==b2)=r) (hZ:Z h)
  (hn:EA P main S f n ops Z zz m l' k ((d,.bool r)::env) ds h δ R):EA P main S f n ops Z zz (m+1) listed k env ds h δ R:=
 Fz i hi hs hl hd hw (fun _ _ _ _ _ Aa _ hq=>ZY (Aa _ _ hx) (Aa _ _ hy) hr hq) hZ hn
theorem WV{xt:TypeId}{fs:Array Field}{fd:Field}{dd:TypeDesc}{j:Nat}{x:Operand}{cs:Array Value}{v:Value}{ρ:Operand->Value}{dst:Option Nat}{Q:Next->Hp->Ix Γ->Prop}{X:Value->Hp->Ix Γ->Prop}(hu:P.underlying xt=some (.struct fs))(hf:fs[j]?=some fd)(ht:P.underlying fd.type=some dd)(hs:(match dd with| .struct _=>true| .array _ _=>true|_=>false)=false)(hx:ρ x= .agg cs)(hv:cs[fd.offset]?=some v)(hq:Q (.value v) h δ):
  Aj P S (execOp ρ ⟨dst,.field xt x j,ty,pos,af,g⟩) h δ Q X:=by
 show Aj P S (Instr.field xt (ρ x) j >>= fun v=>pure (.value v)) h δ Q X
 rw [hx]
 refine AM _ _ _ _ _ _ ?_
 unfold Instr.field
 refine An hu ?_
 simp only [hf]
 show Aj P S (part fd.type cs fd.offset) h δ _ X
 unfold part isAgg
 refine AM _ _ _ _ _ _ ?_
 refine An ht ?_
 cases dd <;> first|(simp at hs;done)|(simp only [hv];exact hq)
theorem IV{xt:TypeId}{fs:Array Field}{fd:Field}{dd:TypeDesc}{j:Nat}{x:Operand}{cs:Array Value}{v:Value}(hu:P.underlying xt=some (.struct fs))(hf:fs[j]?=some fd)(ht:P.underlying fd.type=some dd)(hs:(match dd with| .struct _=>true| .array _ _=>true|_=>false)=false)
  (hw:Al ops env g=some true) (hd:Nat.blt d n=true) (hx:ev env x=some (.agg cs)) (hv:cs[fd.offset]?=some v) (hn:ER P main S f n ops l k ((d,v)::env) ds h δ R):ER P main S f n ops (⟨some d,.field xt x j,ty,pos,af,g⟩::l) k env ds h δ R:=
 DW hw hd (fun _ρ _Q _X Aa hq=>WV hu hf ht hs (Aa _ _ hx) hv hq) hn
end
theorem Yf{a b:D5}(h:a=b):(a.1==b.1&&a.2==b.2)=true:=by subst h;simp
theorem Ye{a b:D5}(h:a≠b):(a.1==b.1&&a.2==b.2)=false:=by
 obtain⟨a1,a2⟩:=a
 obtain⟨b1,b2⟩:=b
 by_cases h1:a1=b1
 ·by_cases h2:a2=b2
  ·subst h1 h2;exact absurd rfl h
  ·simp [h2]
 ·simp [h1]
abbrev HL(n:D5):Obj:=.cells #[.int .i64 n.1,.int .i64 n.2] 134 (0,0)
section
variable{Γ:Type}{main:Bool}{S:Cp Γ}{δ:Ix Γ}{R:Rec}{nm:Nat->D5}{lL lW lY lV:Value}{h0 h h':Hp}{W:Nat}{F:List Int}{s:WS}
theorem Qe{n:D5}(I:Ik R nm lL lW lY lV h0 W F s h)(hl:s.hs.length<=5000):
  AY Tryz.prog main S 176 #[ptr W,JP n] h δ (CJ fun v h' AW=>AW=δ/\v= .int .i64 (H6 s.hs n)/\AN (fun _=>False) h h'):=by
 obtain⟨q,hs,nv,gv,fv,hv,ov⟩:=s
 obtain⟨aH,kH,eH⟩:=I.Np.val
 obtain⟨aO,kO,eO⟩:=I.NR.val
 dsimp only at eH eO hl⊢
 subst eH eO
 obtain⟨y,hy⟩:∃y,y=h.size:=⟨_,rfl⟩
 refine CK (n:=31) ?_
 repeat(first|refine AI ?_|refine AH ?_|refine AE ?_|refine Ak ?_|refine Aq ?_|refine DO ?_)
 refine F4 (fun h'=>Ik R nm lL lW lY lV h0 W F ⟨q,hs,nv,gv,fv,.slice aH hs.length kH,.slice aO hs.length kO⟩ h'/\AN (fun _=>False) h h'/\h'[y]?=some (HL n)) ⟨I.A5 (AN.push _ _),AN.push _ _,by rw [hy];exact AG _ _⟩ ?_
 rw [<-hy]
 clear I hy
 rintro h1 ⟨I,u1,ly⟩
 have XI:AF h1 ⟨W,11,none⟩=some (.slice aH hs.length kH):=AD I.row rfl
 have an:AF h1 ⟨W,12,none⟩=some (.slice aO hs.length kO):=AD I.row rfl
 refine B1 (fun i:Nat=>[(5,.int .i64 i),(0,ptr W),(3,ptr y)]) (fun i h' AW=>i<=hs.length/\AW=δ/\h'=h1/\∀j q,j<i->hs[j]?=some q->q.1≠n) (fun i=>hs.length-i) 0 ⟨rfl,rfl,rfl,trivial⟩ ⟨Bv _,rfl,rfl,fun j q hj=>by omega⟩ ?_
 rintro i h2 FJ ⟨hi,rfl,rfl,G7⟩ again
 by_cases CO:i<hs.length
 ·obtain⟨⟨m,v⟩,hq⟩:∃x,hs[i]?=some x:=⟨_,Cl CO⟩
  obtain⟨bH,ea,A0,-⟩:=Bt (f:=fun x:D5×Int=>DR x.1) (fun _=>rfl) I.Np hq
  obtain⟨bO,eb,cO,-⟩:=C7 (f:=fun x:D5×Int=>Value.int .i64 x.2) I.NR hq
  subst ea eb
  repeat(first|refine AI ?_|refine AH ?_|refine AE ?_|refine Ar ?_|refine Ak ?_|refine AV ?_|refine Bc ?_|refine Az ?_|refine Bs ?_|refine BN ?_|refine BU ?_|refine Av rfl (by assumption) ?_)
  refine BO (fun h'=>h'=h2) ?_
  have hZ:h2=h2:=rfl
  refine AU 0 hZ ?_
  refine BE 1 hZ ?_
  refine Ag 2 hZ ?_
  refine FA 3 XI hZ ?_
  refine AU 4 hZ ?_
  refine GP 5 hZ ?_
  refine EP (vs:=DR m) 6 rfl (by kernel_rfl) rfl rfl rfl rfl rfl (fun _ hz=>by rw [hz];exact A0) hZ ?_
  refine EP (vs:=DR n) 7 rfl (by kernel_rfl) rfl rfl rfl rfl rfl (fun _ hz=>by rw [hz];exact C0 (by exact ly)) hZ ?_
  by_cases e:m=n
  ·refine Q5 8 rfl (by kernel_rfl) rfl rfl rfl rfl rfl (Yf e) hZ ?_
   refine BF ?_
   subst e
   rw [Ss G7 hq]
   repeat(first|refine AI ?_|refine AH ?_|refine AE ?_|refine AV ?_|refine Aq ?_|refine Bc ?_|refine Az ?_|refine Cd ?_|refine BU ?_|refine AQ ?_|refine Av rfl (by assumption) ?_)
   exact CL rfl ⟨rfl,rfl,u1⟩
  ·refine Q5 8 rfl (by kernel_rfl) rfl rfl rfl rfl rfl (Ye e) hZ ?_
   refine BF ?_
   repeat(first|refine AH ?_|refine AE ?_|refine Ar ?_|refine Bb ?_|refine AV ?_|refine Aq ?_|refine BR (kd:=.i64) rfl (i64_in (by omega) (by omega)) ?_|refine Am ?_)
   exact Ah (again (i+1) _ _ (by omega) ⟨by omega,rfl,rfl,fun j q hj xB=>by
    by_cases e':j=i
    ·subst e'
     rw [hq]at xB;cases xB;exact e
    ·exact G7 j q (by omega) xB⟩) ⟨rfl,rfl,rfl,trivial⟩
 ·obtain rfl:i=hs.length:=by omega
  rw [Sr fun q hq=>by
   obtain⟨j,hj,rfl⟩:=JZ.1 hq
   exact G7 j _ hj (Cl hj)]
  repeat(first|refine AI ?_|refine AH ?_|refine AE ?_|refine AV ?_|refine Aq ?_|refine Bc ?_|refine Az ?_|refine Bg ?_|refine BN ?_|refine Am ?_|refine AQ ?_|refine B8 ?_|refine Av rfl (by assumption) ?_)
  exact CL rfl ⟨rfl,rfl,u1⟩
end
end
section
theorem Zs{l:List Nat}{i j a:Nat}(hn:l.Nodup)(h1:l[i]?=some a)(h2:l[j]?=some a):i=j:=by
 obtain⟨l1,e1⟩:=Gv.1 h1
 obtain⟨l2,e2⟩:=Gv.1 h2
 have hp:=List.pairwise_iff_getElem.1 hn
 rcases Nat.lt_trichotomy i j with y|y|y
 ·exact absurd (e1.trans e2.symm) (hp i j l1 l2 y)
 ·exact y
 ·exact absurd (e2.trans e1.symm) (hp j i l2 l1 y)
theorem QY:∀(l:List (Bool×D5)) (j:Nat) (g:Bool) (n:D5),(l.set j (g,n)).flatMap (fun x=>DR x.2)=((l.flatMap fun x=>DR x.2).set (0+j*2) (.int .i64 n.1)).set (0+j*2+1) (.int .i64 n.2)
 | [],j,g,n=>by simp
 | c::t,0,g,n=>rfl
 | c::t,j+1,g,n=>by
  have ih:=QY t j g n
  rw [show 0+(j+1)*2+1=(0+j*2+1)+1+1 by omega,show 0+(j+1)*2=(0+j*2)+1+1 by omega]
  rw [List.set_cons_succ,List.flatMap_cons,List.flatMap_cons,ih]
  rfl
theorem We(l:List (Bool×D5)):(l.flatMap fun x=>DR x.2).length=l.length*2:=by
 induction l with
 | nil=>rfl
 | cons c t ih=>rw [List.flatMap_cons,C1,ih,Zt,List.length_cons];omega
theorem Wm(l:List (Bool×D5))(j:Nat)(n:D5):((l.set j (true,n)).map fun x=>Value.bool x.1)=(l.map fun x=>Value.bool x.1).set j (.bool true):=by rw [List.map_set]
section
variable{Γ:Type}{main:Bool}{S:Cp Γ}{δ:Ix Γ}{R:Rec}{nm:Nat->D5}{lL lW lY lV:Value}{h0 h h':Hp}{W:Nat}{F:List Int}{s:WS}{q:List (Bool×D5)}{hs:List (D5×Int)}{nv gv fv hv ov:Value}
theorem Ik.yH{b k j:Nat}{m:D5}{g:Bool}(I:Ik R nm lL lW lY lV h0 W F ⟨q,hs,nv,.slice (some ⟨b,0,none⟩) q.length k,fv,hv,ov⟩ h)(hq:q[j]?=some (g,m)):
  Ik R nm lL lW lY lV h0 W F ⟨q.set j (true,m),hs,nv,.slice (some ⟨b,0,none⟩) q.length k,fv,hv,ov⟩ (Af h ⟨b,0+j*1,none⟩ (.bool true)):=by
 have hj:=(Dj hq).2.2
 have u:AN (fun x=>x=b) h (Af h ⟨b,0+j*1,none⟩ (.bool true)):=AN.Af _ _ _ rfl
 have hb:=I.n2 b rfl
 have e1:0+j*1=j:=by omega
 refine⟨I.up.over u (fun b' DN=>by omega),u.get I.row (fun e=>Ac I.H2 I.row (by decide) b rfl e.symm),?_,?_,I.fst.upd u (fun b' DN e=>Bq I.fst I.H2 (by decide) b' DN (by rw [e];rfl)),I.Np.upd u (fun b' DN e=>Bq I.Np I.H2 (by decide) b' DN (by rw [e];rfl)),I.NR.upd u (fun b' DN e=>Bq I.NR I.H2 (by decide) b' DN (by rw [e];rfl)),I.nW,I.n1,I.n2,I.n3,I.n4,I.n5,I.a1,I.a2⟩
 ·have:=I.IL.upd u (fun b' DN e=>Bq I.IL I.H2 (by decide) b' DN (by rw [e];rfl))
  dsimp only at this⊢
  rw [List.length_set]
  have e2:((q.set j (true,m)).flatMap fun x=>DR x.2)=q.flatMap fun x=>DR x.2:=by
   rw [List.flatMap_def,List.flatMap_def,List.map_set]
   congr 1
   refine List.ext_getElem? fun i=>?_
   by_cases e:i=j
   ·subst e
    rw [List.getElem?_set_self (by simpa using hj),List.getElem?_map,hq]
    rfl
   ·rw [OD (Ne.symm e)]
  rw [e2]
  exact this
 ·have:=I.H2.set (j:=j) (by rw [Ca];exact hj) (.bool true)
  dsimp only at this⊢
  rw [e1,Wm,List.length_set]
  exact this
theorem Ik.pr{b k j:Nat}{m n:D5}{g:Bool}(I:Ik R nm lL lW lY lV h0 W F ⟨q,hs,.slice (some ⟨b,0,none⟩) q.length k,gv,fv,hv,ov⟩ h)(hq:q[j]?=some (g,m)):
  Ik R nm lL lW lY lV h0 W F ⟨q.set j (g,n),hs,.slice (some ⟨b,0,none⟩) q.length k,gv,fv,hv,ov⟩ (Cm h b (0+j*2) (DR n)):=by
 have hj:=(Dj hq).2.2
 have u:AN (fun x=>x=b) h (Cm h b (0+j*2) (DR n)):=(AN.Af (T:=fun x=>x=b) h ⟨b,0+j*2,none⟩ _ rfl).trans (AN.Af (T:=fun x=>x=b) _ ⟨b,0+j*2+1,none⟩ _ rfl)
 have hb:=I.n1 b rfl
 refine⟨I.up.over u (fun b' DN=>by omega),u.get I.row (fun e=>Ac I.IL I.row (by decide) b rfl e.symm),?_,?_,I.fst.upd u (fun b' DN e=>Bq I.fst I.IL (by decide) b' DN (by rw [e];rfl)),I.Np.upd u (fun b' DN e=>I.a1 b rfl (by rw [<-e];exact DN)),I.NR.upd u (fun b' DN e=>Bq I.NR I.IL (by decide) b' DN (by rw [e];rfl)),I.nW,I.n1,I.n2,I.n3,I.n4,I.n5,I.a1,I.a2⟩
 ·have l0:=We q
  have x1:=I.IL.set (j:=0+j*2) (by dsimp only;rw [l0];omega) (.int .i64 n.1)
  have x2:=x1.set (j:=0+j*2+1) (by dsimp only;rw [List.length_set,l0];omega) (.int .i64 n.2)
  dsimp only at x2⊢
  rw [QY,List.length_set]
  exact x2
 ·have:=I.H2.upd u (fun b' DN e=>Bq I.H2 I.IL (by decide) b' DN (by rw [e];rfl))
  dsimp only at this⊢
  rw [List.length_set,List.map_set]
  have e2:(q.map fun x=>Value.bool x.1).set j (.bool g)=q.map fun x=>Value.bool x.1:=by
   refine List.ext_getElem? fun i=>?_
   by_cases e:i=j
   ·subst e
    rw [List.getElem?_set_self (by simpa using hj),List.getElem?_map,hq]
    rfl
   ·rw [OD (Ne.symm e)]
  rw [e2]
  exact this
theorem fi{j b:Nat}(I:Ik R nm lL lW lY lV h0 W F s h)(hN:SU R nm s.q)(hb:(Ab R.log)[j]?=some b)(hF:F[j]?=some (H6 s.hs (nm b)))(SB:∀b',b'∈Ab R.log->nm b'=nm b->b'=b)(tq:(Ab R.log).length<=65536)(hhl:s.hs.length<=5000):
  AY Tryz.prog main (Fb (Γ:=Γ)) 175 #[ptr W,.int .i64 j,JP (nm b)] h δ (CJ fun v h' AW=>AW=δ/\v= .bool true/\Ik R nm lL lW lY lV h0 W F {s with q:=s.q.set j (true,nm b)} h'/\AN (fun c=>blk s.nv=some c\/blk s.gv=some c) h h'):=by
 obtain⟨q,hs,nv,gv,fv,hv,ov⟩:=s
 obtain⟨aN,kN,eN⟩:=I.IL.val
 obtain⟨aG,kG,eG⟩:=I.H2.val
 obtain⟨aF,kF,eF⟩:=I.fst.val
 dsimp only at eN eG eF hF hN hhl⊢
 subst eN eG eF
 have Vu:=hN.1
 have Rs:j<q.length:=by rw [Vu];exact(Dj hb).2.2
 obtain⟨⟨g0,m0⟩,hx⟩:∃x,q[j]?=some x:=⟨_,Cl Rs⟩
 have hFl:F.length<=10000000\/True:=.inr trivial
 obtain⟨y,hy⟩:∃y,y=h.size:=⟨_,rfl⟩
 obtain⟨bG,eG,cG,fG⟩:=C7 (f:=fun x:Bool×D5=>Value.bool x.1) I.H2 hx
 obtain⟨bN,eN,rN,fN⟩:=Bt (f:=fun x:Bool×D5=>DR x.2) (fun _=>rfl) I.IL hx
 obtain⟨bF,eF,cF,-⟩:=C7 (f:=fun x:Int=>Value.int .i64 x) I.fst hF
 subst eG eN eF
 dsimp only at cG rN
 refine CK (n:=86) ?_
 repeat(first|refine AI ?_|refine AH ?_|refine AE ?_|refine AV ?_|refine Aq ?_|refine Bc ?_|refine Az ?_|refine Bg ?_|refine DO ?_)
 refine A6 (fun h'=>Ik R nm lL lW lY lV h0 W F ⟨q,hs,.slice (some ⟨bN,0,none⟩) q.length kN,.slice (some ⟨bG,0,none⟩) q.length kG,.slice (some ⟨bF,0,none⟩) F.length kF,hv,ov⟩ h'/\AN (fun _=>False) h h'/\h'[y]?=some (HL (nm b))) ⟨I.A5 (AN.push _ _),AN.push _ _,by rw [hy];exact AG _ _⟩ ?_
 rw [<-hy]
 have mf:h.size<=y:=by omega
 have nN:=I.IL.lt (b:=bN) rfl
 have nG:=I.H2.lt (b:=bG) rfl
 clear I cG rN cF hy
 rintro h1 ⟨I,u1,ly⟩
 obtain⟨bG',eG,cG,fG⟩:=C7 (f:=fun x:Bool×D5=>Value.bool x.1) I.H2 hx
 obtain⟨bN',eN,rN,fN⟩:=Bt (f:=fun x:Bool×D5=>DR x.2) (fun _=>rfl) I.IL hx
 obtain⟨bF',eF,cF,-⟩:=C7 (f:=fun x:Int=>Value.int .i64 x) I.fst hF
 injection eG with eG
 injection eG with eG
 injection eN with eN
 injection eN with eN
 injection eF with eF
 injection eF with eF
 subst eG eN eF
 dsimp only at cG rN
 have c8:AF h1 ⟨W,8,none⟩=some (.slice (some ⟨bN,0,none⟩) q.length kN):=AD I.row rfl
 have c9:AF h1 ⟨W,9,none⟩=some (.slice (some ⟨bG,0,none⟩) q.length kG):=AD I.row rfl
 have rY:TJ.A0 h1 y 0 (DR (nm b)):=C0 (by exact ly)
 cases g0 with
 | true=>
  have em:m0=nm b:=hN.2 j b _ hb hx rfl
  subst em
  repeat(first|refine AI ?_|refine AH ?_|refine AE ?_|refine Ar ?_|refine AV ?_|refine Bc ?_|refine Az ?_|refine Bd ?_|refine Bg ?_|refine BN ?_|refine Cd ?_|refine BU ?_|refine Am ?_|refine Av rfl (by assumption) ?_)
  refine BO (fun h'=>h'=h1) ?_
  have hZ:h1=h1:=rfl
  refine AU 0 hZ ?_
  refine BE 1 hZ ?_
  refine Ag 2 hZ ?_
  refine FA 3 c8 hZ ?_
  refine AU 4 hZ ?_
  refine GP 5 hZ ?_
  refine EP (vs:=DR (nm b)) 6 rfl (by kernel_rfl) rfl rfl rfl rfl rfl (fun _ hz=>by rw [hz];exact rN) hZ ?_
  refine EP (vs:=DR (nm b)) 7 rfl (by kernel_rfl) rfl rfl rfl rfl rfl (fun _ hz=>by rw [hz];exact rY) hZ ?_
  refine Q5 8 rfl (by kernel_rfl) rfl rfl rfl rfl rfl (Yf rfl) hZ ?_
  refine Dp 9 hZ ?_
  refine BF ?_
  have eq:q.set j (true,nm b)=q:=by
   refine List.ext_getElem? fun i=>?_
   by_cases e:i=j
   ·subst e;rw [List.getElem?_set_self Rs,hx]
   ·rw [OD (Ne.symm e)]
  rw [eq]
  (repeat refine AQ ?_)
  exact CL rfl ⟨rfl,rfl,I,u1.mono (fun _ _ z=>z.elim)⟩
 | false=>
  repeat(first|refine AI ?_|refine AH ?_|refine AE ?_|refine Ar ?_|refine Ak ?_|refine AV ?_|refine Aq ?_|refine Bc ?_|refine Az ?_|refine Bd ?_|refine Bg ?_|refine BN ?_|refine Cd ?_|refine Am ?_|refine Av rfl (by assumption) ?_)
  refine B1 (fun i:Nat=>[(7,.int .i64 i),(5,ptr y),(0,ptr W),(1,.int .i64 j)]) (fun i h' AW=>AW=δ/\i<=q.length/\h'=h1) (fun i=>q.length-i) 0 ⟨rfl,rfl,rfl,rfl,trivial⟩ ⟨rfl,Bv _,rfl⟩ ?_
  rintro i h2 FJ ⟨rfl,hi,rfl⟩ again
  by_cases CO:i<q.length
  ·obtain⟨⟨g1,m1⟩,W4⟩:∃x,q[i]?=some x:=⟨_,Cl CO⟩
   obtain⟨bG',eG,cG1,-⟩:=C7 (f:=fun x:Bool×D5=>Value.bool x.1) I.H2 W4
   obtain⟨bN',eN,rN1,-⟩:=Bt (f:=fun x:Bool×D5=>DR x.2) (fun _=>rfl) I.IL W4
   injection eG with eG
   injection eG with eG
   injection eN with eN
   injection eN with eN
   subst eG eN
   dsimp only at cG1 rN1
   repeat(first|refine AI ?_|refine AH ?_|refine AE ?_|refine Ar ?_|refine Ak ?_|refine AV ?_|refine Bc ?_|refine Az ?_|refine Bs ?_|refine BN ?_|refine BU ?_|refine Av rfl (by assumption) ?_)
   refine BO (fun h'=>h'=h2) ?_
   have hZ:h2=h2:=rfl
   refine AU 0 hZ ?_
   refine BE 1 hZ ?_
   refine Ag 2 hZ ?_
   refine FA 3 c9 hZ ?_
   refine AU 4 hZ ?_
   refine GP 5 hZ ?_
   refine FA 6 cG1 hZ ?_
   refine AU 7 hZ ?_
   cases g1 with
   | false=>
    refine BB 8 hZ ?_
    refine BB 9 hZ ?_
    refine BB 10 hZ ?_
    refine BB 11 hZ ?_
    refine BB 12 hZ ?_
    refine BB 13 hZ ?_
    refine BB 14 hZ ?_
    refine BB 15 hZ ?_
    refine BB 16 hZ ?_
    refine Dz 17 hZ ?_
    refine BF ?_
    repeat(first|refine AH ?_|refine AE ?_|refine Ar ?_|refine Bb ?_|refine AV ?_|refine Aq ?_|refine BR (kd:=.i64) rfl (i64_in (by omega) (by omega)) ?_|refine Am ?_)
    exact Ah (again (i+1) _ _ (by omega) ⟨rfl,by omega,rfl⟩) ⟨rfl,rfl,rfl,rfl,trivial⟩
   | true=>
    have hni:i<(Ab R.log).length:=by omega
    obtain⟨b1,XE⟩:∃b1,(Ab R.log)[i]?=some b1:=⟨_,Cl hni⟩
    have em:m1=nm b1:=hN.2 i b1 _ XE W4 rfl
    subst em
    have B7:nm b1≠nm b:=fun e=>by
     have e1:=SB b1 (Fg XE) e
     subst e1
     have Ta:i≠j:=fun e=>by
      subst e
      rw [hx]at W4
      cases W4
     exact Ta (Zs (Ow R.log) XE hb)
    refine AU 8 hZ ?_
    refine BE 9 hZ ?_
    refine Ag 10 hZ ?_
    refine FA 11 c8 hZ ?_
    refine AU 12 hZ ?_
    refine GP 13 hZ ?_
    refine EP (vs:=DR (nm b1)) 14 rfl (by kernel_rfl) rfl rfl rfl rfl rfl (fun _ hz=>by rw [hz];exact rN1) hZ ?_
    refine EP (vs:=DR (nm b)) 15 rfl (by kernel_rfl) rfl rfl rfl rfl rfl (fun _ hz=>by rw [hz];exact rY) hZ ?_
    refine Q5 16 rfl (by kernel_rfl) rfl rfl rfl rfl rfl (Ye B7) hZ ?_
    refine IR 17 hZ ?_
    refine BF ?_
    repeat(first|refine AH ?_|refine AE ?_|refine Ar ?_|refine Bb ?_|refine AV ?_|refine Aq ?_|refine BR (kd:=.i64) rfl (i64_in (by omega) (by omega)) ?_|refine Am ?_)
    exact Ah (again (i+1) _ _ (by omega) ⟨rfl,by omega,rfl⟩) ⟨rfl,rfl,rfl,rfl,trivial⟩
  ·obtain rfl:i=q.length:=by omega
   clear again
   repeat(first|refine AI ?_|refine AH ?_|refine AE ?_|refine AV ?_|refine Bc ?_|refine Az ?_|refine Bg ?_|refine BN ?_|refine Cd ?_|refine Am ?_|refine B8 ?_|refine Av rfl (by assumption) ?_)
   refine CS rfl ⟨nofun,nofun⟩ ⟨_,cG⟩ (fG _) (fun x=>x) ?_
   have I2:=I.yH hx
   have aE:=Cq h2 ⟨bG,0+j*1,none⟩ (.bool true) (r:=y) (fun e=>by change bG=y at e;omega)
   rw [ly]at aE
   have u2:AN (fun c=>blk (.slice (some ⟨bN,0,none⟩) q.length kN)=some c\/blk (.slice (some ⟨bG,0,none⟩) q.length kG)=some c) h (Af h2 ⟨bG,0+j*1,none⟩ (.bool true)):=A2 (u1.mono (fun _ _ z=>z.elim)) (AN.Af (T:=fun c=>blk (.slice (some ⟨bN,0,none⟩) q.length kN)=some c\/blk (.slice (some ⟨bG,0,none⟩) q.length kG)=some c) _ _ _ (.inr rfl)) (fun _ _ z=>z)
   change ER _ _ _ _ _ _ _ _ _ _ (Af h2 ⟨bG,0+j*1,none⟩ (.bool true)) _ _
   generalize Af h2 ⟨bG,0+j*1,none⟩ (.bool true)=h3 at I2 aE u2⊢
   clear I u1 ly c8 c9 rY cG rN cF fN
   have az:(q.set j (true,m0))[j]?=some (true,m0):=List.getElem?_set_self Rs
   have lq:(q.set j (true,m0)).length=q.length:=List.length_set
   have xu:Ik R nm lL lW lY lV h0 W F ⟨q.set j (true,m0),hs,.slice (some ⟨bN,0,none⟩) (q.set j (true,m0)).length kN,.slice (some ⟨bG,0,none⟩) q.length kG,.slice (some ⟨bF,0,none⟩) F.length kF,hv,ov⟩ h3:=by rw [lq];exact I2
   obtain⟨bN',eN,rN,fN⟩:=Bt (f:=fun x:Bool×D5=>DR x.2) (fun _=>rfl) xu.IL az
   injection eN with eN
   injection eN with eN
   subst eN
   dsimp only at rN
   have c8:AF h3 ⟨W,8,none⟩=some (.slice (some ⟨bN,0,none⟩) q.length kN):=AD I2.row rfl
   have rY:TJ.A0 h3 y 0 (DR (nm b)):=C0 (by exact aE)
   repeat(first|refine AI ?_|refine AE ?_)
   refine D7 (fun h'=>h'=h3) 7 ?_
   have hZ:h3=h3:=rfl
   refine AU 0 hZ ?_
   refine BE 1 hZ ?_
   refine Ag 2 hZ ?_
   refine FA 3 c8 hZ ?_
   refine AU 4 hZ ?_
   refine EP (vs:=DR (nm b)) 5 rfl (by kernel_rfl) rfl rfl rfl rfl rfl (fun _ hz=>by rw [hz];exact rY) hZ ?_
   refine CQ 6 rfl (by kernel_rfl) (fun ρ Q X Aa hq=>E4 (Aa _ _ rfl) (Aa _ _ rfl) (by omega) (by omega) hq) hZ ?_
   refine D6 (h':=Cm h3 bN (0+j*2) (DR (nm b))) 7 rfl (by kernel_rfl) rfl rfl rfl (fun ρ Q X Aa hq=>B6 (vs:=DR (nm b)) (Aa _ _ rfl) (Aa _ _ rfl) rfl (by simp [DR,OneCell]) (fun j' Dm=>⟨by
    rcases (show j'=0\/j'=1 by have h2:j'<2:=Dm;omega)with rfl|rfl
    ·exact⟨_,rN 0 _ rfl⟩
    ·exact⟨_,rN 1 _ rfl⟩,fN _,fun x=>x⟩) hq) ?_
   refine BF ?_
   have I3:=xu.pr (n:=nm b) az
   rw [lq,List.set_set]at I3
   have u3:AN (fun x=>x=bN) h3 (Cm h3 bN (0+j*2) (DR (nm b))):=(AN.Af (T:=fun x=>x=bN) h3 ⟨bN,0+j*2,none⟩ _ rfl).trans (AN.Af (T:=fun x=>x=bN) _ ⟨bN,0+j*2+1,none⟩ _ rfl)
   have ly3:=u3.get aE (fun e=>by change y=bN at e;omega)
   have uu:=A2 u2 u3 (fun c _ e=>.inl (by rw [e];rfl))
   clear hZ I2 xu u2 u3 aE c8 rY rN fN
   generalize Cm h3 bN (0+j*2) (DR (nm b))=h4 at I3 ly3 uu⊢
   have hjF:=(Dj hF).2.2
   obtain⟨bF',eF,cF,-⟩:=C7 (f:=fun x:Int=>Value.int .i64 x) I3.fst hF
   injection eF with eF
   injection eF with eF
   subst eF
   have PC:AF h4 ⟨W,10,none⟩=some (.slice (some ⟨bF,0,none⟩) F.length kF):=AD I3.row rfl
   have rY:TJ.A0 h4 y 0 (DR (nm b)):=C0 (by exact ly3)
   (repeat refine AI ?_)
   refine BO (fun h'=>AF h' ⟨W,10,none⟩=some (.slice (some ⟨bF,0,none⟩) F.length kF)/\AF h' ⟨bF,0+j*1,none⟩=some (.int .i64 (H6 hs (nm b)))/\TJ.A0 h' y 0 (DR (nm b))) ?_
   have hZ:_/\_/\_:=And.intro PC ⟨cF,rY⟩
   refine AU 0 hZ ?_
   refine BE 1 hZ ?_
   refine Ag 2 hZ ?_
   refine A8 3 (fun _ hz=>hz.1) hZ ?_
   refine AU 4 hZ ?_
   refine GP 5 hZ ?_
   refine A8 6 (fun _ hz=>hz.2.1) hZ ?_
   refine AU 7 hZ ?_
   refine EP (vs:=DR (nm b)) 8 rfl (by kernel_rfl) rfl rfl rfl rfl rfl (fun _ hz=>hz.2.2) hZ ?_
   refine Bj 9 rfl (by kernel_rfl) rfl rfl rfl rfl rfl rfl (Qe I3 hhl) ?_
   rintro _ h5 Qi ⟨rfl,rfl,u5⟩
   have hZ:_/\_/\_:=And.intro (u5.AF hZ.1 (fun x=>x)) ⟨u5.AF hZ.2.1 (fun x=>x),fun a v hv=>u5.AF (hZ.2.2 a v hv) (fun x=>x)⟩
   refine⟨hZ,?_⟩
   refine G8 10 hZ ?_
   refine Dp 11 hZ ?_
   refine BF ?_
   (repeat refine AQ ?_)
   exact CL rfl ⟨rfl,rfl,I3.A5 u5,uu.trans (u5.mono (fun _ _ z=>z.elim))⟩
end
end
section
abbrev Ck:List Value:=A4 0 0 0 0 0 0 0 false
section
variable{Γ:Type}{main:Bool}{S:Cp Γ}{δ:Ix Γ}{R:Rec}{nm:Nat->D5}{lL lW lY lV sP:Value}{h0 h h':Hp}{W x i t:Nat}{F:List Int}{s:WS}{AZ:List Int}{X:Us}{out:Bool}
theorem SX(m:HB R AZ lL lW lY lV sP h0)(hlen:R.log.length<=65536)(I:Ik R nm lL lW lY lV h0 W F s h)(hx:h[x]?=some (GD W i out t))(aK:h0.size<=x)(ht:t<=R.log.length):
  AY Tryz.prog main (Fb (Γ:=Γ)) 80 #[ptr x] h δ (CJ fun v h' AW=>AW=δ/\∃t',t'<=R.log.length/\h'[x]?=some (GD W i out t')/\Ik R nm lL lW lY lV h0 W F s h'/\AN (fun b=>b=x) h h'/\
   ((∃e,C3 R i t=e::C3 R i t'/\e∈R.log/\v= .tuple #[.agg (CF (Ab R.log) e).toArray,.bool true])\/(C3 R i t=[]/\C3 R i t'=[]/\v= .tuple #[.agg Ck.toArray,.bool false]))):=by
 obtain⟨aL,kL,eL⟩:=m.log.val
 subst eL
 obtain⟨y,hy⟩:∃y,y=h.size:=⟨_,rfl⟩
 have KH:=Ap hx
 refine CK (n:=49) ?_
 repeat(first|refine AI ?_|refine AH ?_|refine AE ?_|refine Ak ?_|refine Aq ?_|refine Cn ?_)
 refine F4 (fun h'=>Ik R nm (.slice aL R.log.length kL) lW lY lV h0 W F s h'/\AN (fun b=>b=x) h h'/\h'[x]?=some (GD W i out t)/\h'[y]?=some (CE Ck)/\y<h'.size) ⟨I.A5 (AN.push _ _),AN.push _ _,Ao _ hx,by rw [hy];exact AG _ _,by rw [hy,CH];omega⟩ ?_
 rw [<-hy]
 have wF:y≠x:=by omega
 have wG:h.size<=y:=by omega
 have KG:h0.size<=y:=by have:=I.up.size;omega
 clear I hx hy KH
 rintro h1 ⟨I,u1,hx,ly,mf⟩
 refine B1 (fun _:Nat=>[(2,ptr y),(0,ptr x)]) (fun t1 h' AW=>AW=δ/\t1<=R.log.length/\C3 R i t=C3 R i t1/\Ik R nm (.slice aL R.log.length kL) lW lY lV h0 W F s h'/\AN (fun b=>b=x) h h'/\h'[x]?=some (GD W i out t1)/\h'[y]?=some (CE Ck)/\y<h'.size) (fun t1=>R.log.length-t1) t ⟨rfl,rfl,trivial⟩ ⟨rfl,ht,rfl,I,u1,hx,ly,mf⟩ ?_
 clear I u1 hx ly mf ht
 rintro t1 h2 FJ ⟨rfl,ht,Tt,I,u2,hx,ly,mf⟩ again
 have x0:AF h2 ⟨x,0,none⟩=some (ptr W):=AD hx rfl
 have x1:AF h2 ⟨x,1,none⟩=some (.int .i64 i):=AD hx rfl
 have x3:AF h2 ⟨x,3,none⟩=some (.int .i64 t1):=AD hx rfl
 have c2:AF h2 ⟨W,2,none⟩=some (.slice aL R.log.length kL):=AD I.row rfl
 (repeat refine AI ?_)
 refine BO (fun h'=>h'=h2) ?_
 have hZ:h2=h2:=rfl
 refine AU 0 hZ ?_
 refine BE 1 hZ ?_
 refine Ag 2 hZ ?_
 refine FA 3 x3 hZ ?_
 refine AU 4 hZ ?_
 refine BE 5 hZ ?_
 refine Ag 6 hZ ?_
 refine FA 7 x0 hZ ?_
 refine BE 8 hZ ?_
 refine Ag 9 hZ ?_
 refine Ag 10 hZ ?_
 refine FA 11 c2 hZ ?_
 refine Er 12 rfl (by kernel_rfl) rfl rfl rfl rfl hZ ?_
 by_cases CO:t1<R.log.length
 ·obtain⟨e,he⟩:∃e,R.log[t1]?=some e:=⟨_,Cl CO⟩
  obtain⟨bL,ea,A0,-⟩:=Bt (FR (Ab R.log)) (m.log.upd I.up (fun _ _ x=>x)) he
  subst ea
  refine G8 13 hZ ?_
  refine BF ?_
  clear hZ
  repeat(first|refine AI ?_|refine Ar ?_|refine Ak ?_|refine BU ?_)
  refine D7 (fun h'=>AF h' ⟨x,0,none⟩=some (ptr W)/\AF h' ⟨x,3,none⟩=some (.int .i64 t1)/\AF h' ⟨W,2,none⟩=some (.slice (some ⟨bL,0,none⟩) R.log.length kL)/\TJ.A0 h' bL (0+t1*8) (CF (Ab R.log) e)) 15 ?_
  have hZ:_/\_/\_/\_:=And.intro x0 ⟨x3,c2,A0⟩
  refine AU 0 hZ ?_
  refine BE 1 hZ ?_
  refine Ag 2 hZ ?_
  refine A8 3 (fun _ hz=>hz.1) hZ ?_
  refine BE 4 hZ ?_
  refine Ag 5 hZ ?_
  refine Ag 6 hZ ?_
  refine A8 7 (fun _ hz=>hz.2.2.1) hZ ?_
  refine AU 8 hZ ?_
  refine BE 9 hZ ?_
  refine Ag 10 hZ ?_
  refine A8 11 (fun _ hz=>hz.2.1) hZ ?_
  refine GP 12 hZ ?_
  refine EP (vs:=CF (Ab R.log) e) 13 rfl (by kernel_rfl) rfl rfl rfl rfl rfl (fun _ hz=>hz.2.2.2) hZ ?_
  have up:=AN.push (T:=fun _=>False) h2 (.cells Ck.toArray 38)
  refine CQ (v:=ptr h2.size) (h':=h2.push (.cells Ck.toArray 38)) 14 rfl (by kernel_rfl) (fun ρ Q X Aa hq=>Fa hq) ⟨up.AF x0 (fun x=>x),up.AF x3 (fun x=>x),up.AF c2 (fun x=>x),fun j v hv=>up.AF (A0 j v hv) (fun x=>x)⟩ ?_
  refine D6 (h':=h2.push (.cells (CF (Ab R.log) e).toArray 38)) 15 rfl (by kernel_rfl) rfl rfl rfl (fun ρ Q X Aa hq=>B6 (vs:=CF (Ab R.log) e) (Aa _ _ rfl) (Aa _ _ rfl) rfl (by simp [CF,A4,OneCell]) (Dx (vs:=Ck) rfl (AG _ _)) (by rw [Bw (c:=Ck) (vs:=CF (Ab R.log) e) rfl];exact hq)) ?_
  refine BF ?_
  clear hZ up
  obtain⟨z,hz⟩:∃z,z=h2.size:=⟨_,rfl⟩
  have hzx:z≠x:=by have:=Ap hx;omega
  have hzy:z≠y:=by omega
  refine F4 (fun h'=>Ik R nm (.slice (some ⟨bL,0,none⟩) R.log.length kL) lW lY lV h0 W F s h'/\AN (fun b=>b=x) h h'/\h'[x]?=some (GD W i out t1)/\h'[y]?=some (CE Ck)/\h'[z]?=some (CE (CF (Ab R.log) e))) ⟨I.A5 (AN.push _ _),u2.trans (AN.push _ _),Ao _ hx,Ao _ ly,by rw [hz];exact AG _ _⟩ ?_
  rw [<-hz]
  clear I u2 hx ly mf x0 x1 x3 c2 A0 hz
  rintro h3 ⟨I,u3,hx,ly,lz⟩
  have x3:AF h3 ⟨x,3,none⟩=some (.int .i64 t1):=AD hx rfl
  repeat(first|refine AI ?_|refine AH ?_|refine AV ?_|refine Bc ?_|refine Az ?_|refine Df ?_|refine BR (kd:=.i64) rfl (i64_in (by omega) (by omega)) ?_)
  refine CS rfl ⟨nofun,nofun⟩ ⟨_,x3⟩ (AS hx) (fun x=>x) ?_
  have e7:Af h3 ⟨x,3,none⟩ (.int .i64 (t1+1:Nat))=h3.setIfInBounds x (GD W i out (t1+1)):=As hx _
  have I4:=I.other hx aK (by decide) (by decide) (by decide) (by decide) (GD W i out (t1+1))
  have u4:AN (fun b=>b=x) h (h3.setIfInBounds x (GD W i out (t1+1))):=u3.trans (AN.set _ _ _ rfl)
  have tn:(h3.setIfInBounds x (GD W i out (t1+1)))[x]?=some (GD W i out (t1+1)):=AJ hx
  have XR:(h3.setIfInBounds x (GD W i out (t1+1)))[y]?=some (CE Ck):=by rw [AX _ (Ne.symm wF)];exact ly
  have vx:(h3.setIfInBounds x (GD W i out (t1+1)))[z]?=some (CE (CF (Ab R.log) e)):=by rw [AX _ (Ne.symm hzx)];exact lz
  rw [show((t1:Int)+1)=((t1+1:Nat):Int) by omega]
  change ER _ _ _ _ _ _ _ _ _ _ (Af h3 ⟨x,3,none⟩ (.int .i64 (t1+1:Nat))) _ _
  rw [e7]
  generalize h3.setIfInBounds x (GD W i out (t1+1))=h4 at I4 u4 tn XR vx⊢
  clear e7 I u3 hx ly lz x3
  have z0:AF h4 ⟨z,0,none⟩=some (.int .i64 e.BI):=AD vx rfl
  have x1:AF h4 ⟨x,1,none⟩=some (.int .i64 i):=AD tn rfl
  repeat(first|refine AI ?_|refine AE ?_)
  refine BO (fun h'=>h'=h4) ?_
  have hZ:h4=h4:=rfl
  refine Ag 0 hZ ?_
  refine FA 1 z0 hZ ?_
  refine AU 2 hZ ?_
  refine BE 3 hZ ?_
  refine Ag 4 hZ ?_
  refine FA 5 x1 hZ ?_
  by_cases hei:e.BI=i
  ·refine G8 6 hZ ?_
   refine BF ?_
   rw [L7 he,if_pos hei]at Tt
   clear hZ
   repeat(first|refine AI ?_|refine AH ?_|refine BU ?_)
   refine C5 (vs:=CF (Ab R.log) e) rfl (C0 (by exact vx)) ?_
   refine Bz (vs:=CF (Ab R.log) e) rfl rfl (by simp [CF,A4,OneCell]) (Dx rfl XR) ?_
   rw [Au (c:=Ck) (vs:=CF (Ab R.log) e) XR rfl]
   repeat(first|refine AE ?_|refine Aq ?_|refine AQ ?_)
   refine Ll (vs:=CF (Ab R.log) e) rfl rfl rfl (C0 (by exact AJ XR)) rfl ⟨rfl,t1+1,by omega,by rw [AX _ wF];exact tn,I4.other XR KG (by decide) (by decide) (by decide) (by decide) _,A2 u4 (AN.set (T:=fun b=>b=y) _ _ _ rfl) (fun b hb e=>by omega),.inl ⟨e,Tt,Fg he,rfl⟩⟩
  ·refine Dy 6 hZ ?_
   refine BF ?_
   rw [L7 he,if_neg hei]at Tt
   clear hZ
   repeat(first|refine Ar ?_|refine Bb ?_|refine Am ?_)
   exact Ah (again (t1+1) _ _ (by omega) ⟨rfl,by omega,Tt,I4,u4,tn,XR,Ap XR⟩) ⟨rfl,rfl,trivial⟩
 ·obtain rfl:t1=R.log.length:=by omega
  refine Dy 13 hZ ?_
  refine BF ?_
  rw [Mp]at Tt
  clear hZ
  repeat(first|refine AI ?_|refine AH ?_|refine Am ?_|refine B8 ?_)
  refine Cr (cells:=Ck.toArray) rfl rfl (by rfl) rfl ?_
  refine Bz (vs:=Ck) rfl rfl (by simp [A4,OneCell]) (Dx rfl ly) ?_
  rw [Au (c:=Ck) (vs:=Ck) ly rfl]
  repeat(first|refine AE ?_|refine Aq ?_|refine AQ ?_)
  refine Ll (vs:=Ck) rfl rfl rfl (C0 (by exact AJ ly)) rfl ⟨rfl,R.log.length,CY _,by rw [AX _ wF];exact hx,I.other ly KG (by decide) (by decide) (by decide) (by decide) _,A2 u2 (AN.set (T:=fun b=>b=y) _ _ _ rfl) (fun b hb e=>by omega),.inr ⟨Tt,Mp _ _,rfl⟩⟩
theorem SY(m:HB R AZ lL lW lY lV sP h0)(hlen:R.left.length<=65536)(I:Ik R nm lL lW lY lV h0 W F s h)(hx:h[x]?=some (GD W i out t))(AFi:h0.size<=x):
  AY Tryz.prog main (Fb (Γ:=Γ)) 81 #[ptr x] h δ (CJ fun v h' AW=>AW=δ/\AN (fun _=>False) h h'/\
   ((∃q,q∈R.left/\q.1=i/\v= .tuple #[.agg (EJ (Ab R.log) R.val q).toArray,.bool true])\/((∀q,q∈R.left->q.1≠i)/\v= .tuple #[.agg Ck.toArray,.bool false]))):=by
 obtain⟨aV,kV,eV⟩:=m.left.val
 subst eV
 obtain⟨y,hy⟩:∃y,y=h.size:=⟨_,rfl⟩
 refine CK (n:=47) ?_
 repeat(first|refine AI ?_|refine AH ?_|refine AE ?_|refine Ak ?_|refine Aq ?_|refine Cn ?_)
 refine F4 (fun h'=>Ik R nm lL lW lY (.slice aV R.left.length kV) h0 W F s h'/\AN (fun _=>False) h h'/\h'[x]?=some (GD W i out t)/\h'[y]?=some (CE Ck)) ⟨I.A5 (AN.push _ _),AN.push _ _,Ao _ hx,by rw [hy];exact AG _ _⟩ ?_
 rw [<-hy]
 have wG:h.size<=y:=by omega
 clear I hx hy
 rintro h1 ⟨I,u1,hx,ly⟩
 have x0:AF h1 ⟨x,0,none⟩=some (ptr W):=AD hx rfl
 have x1:AF h1 ⟨x,1,none⟩=some (.int .i64 i):=AD hx rfl
 have c5:AF h1 ⟨W,5,none⟩=some (.slice aV R.left.length kV):=AD I.row rfl
 refine B1 (fun j:Nat=>[(4,.int .i64 j),(2,ptr y),(0,ptr x)]) (fun j h' AW=>AW=δ/\j<=R.left.length/\h'=h1/\∀j' q,j'<j->R.left[j']?=some q->q.1≠i) (fun j=>R.left.length-j) 0 ⟨rfl,rfl,rfl,trivial⟩ ⟨rfl,Bv _,rfl,fun j' q hj=>by omega⟩ ?_
 rintro j h2 FJ ⟨rfl,hj,rfl,G7⟩ again
 by_cases CO:j<R.left.length
 ·obtain⟨q,hq⟩:∃q,R.left[j]?=some q:=⟨_,Cl CO⟩
  obtain⟨bV,ea,A0,-⟩:=Bt (IJ (Ab R.log) R.val) (m.left.upd I.up (fun _ _ x=>x)) hq
  subst ea
  have w0:AF h2 ⟨bV,0+j*8+0,none⟩=some (.int .i64 q.1):=A0 0 _ rfl
  repeat(first|refine AI ?_|refine AH ?_|refine AE ?_|refine Ar ?_|refine Ak ?_|refine AV ?_|refine Bc ?_|refine Az ?_|refine Df ?_|refine Bs ?_|refine BN ?_|refine BU ?_|refine Av rfl (by assumption) ?_)
  refine BO (fun h'=>h'=h2) ?_
  have hZ:h2=h2:=rfl
  refine AU 0 hZ ?_
  refine BE 1 hZ ?_
  refine Ag 2 hZ ?_
  refine FA 3 x0 hZ ?_
  refine BE 4 hZ ?_
  refine Ag 5 hZ ?_
  refine Ag 6 hZ ?_
  refine FA 7 c5 hZ ?_
  refine AU 8 hZ ?_
  refine GP 9 hZ ?_
  refine Ag 10 hZ ?_
  refine FA 11 w0 hZ ?_
  refine AU 12 hZ ?_
  refine BE 13 hZ ?_
  refine Ag 14 hZ ?_
  refine FA 15 x1 hZ ?_
  by_cases W7:q.1=i
  ·refine G8 16 hZ ?_
   refine BF ?_
   clear hZ
   repeat(first|refine AI ?_|refine AH ?_|refine AV ?_|refine Bc ?_|refine Az ?_|refine Df ?_|refine Cd ?_|refine BU ?_|refine Av rfl (by assumption) ?_)
   refine C5 (vs:=EJ (Ab R.log) R.val q) rfl A0 ?_
   refine Bz (vs:=EJ (Ab R.log) R.val q) rfl rfl (by simp [EJ,A4,OneCell]) (Dx rfl ly) ?_
   rw [Au (c:=Ck) (vs:=EJ (Ab R.log) R.val q) ly rfl]
   repeat(first|refine AE ?_|refine Aq ?_|refine AQ ?_)
   exact Ll (vs:=EJ (Ab R.log) R.val q) rfl rfl rfl (C0 (by exact AJ ly)) rfl ⟨rfl,A2 u1 (AN.set (T:=fun b=>b=y) _ _ _ rfl) (fun b hb e=>by omega),.inl ⟨q,Fg hq,W7,rfl⟩⟩
  ·refine Dy 16 hZ ?_
   refine BF ?_
   clear hZ
   repeat(first|refine AH ?_|refine AE ?_|refine Ar ?_|refine Bb ?_|refine AV ?_|refine Aq ?_|refine BR (kd:=.i64) rfl (i64_in (by omega) (by omega)) ?_|refine Am ?_)
   exact Ah (again (j+1) _ _ (by omega) ⟨rfl,by omega,rfl,fun j' q' h1 h2=>by
    by_cases e:j'=j
    ·subst e
     rw [hq]at h2;cases h2;exact W7
    ·exact G7 j' q' (by omega) h2⟩) ⟨rfl,rfl,rfl,trivial⟩
 ·obtain rfl:j=R.left.length:=by omega
  repeat(first|refine AI ?_|refine AH ?_|refine AE ?_|refine AV ?_|refine Bc ?_|refine Az ?_|refine Df ?_|refine Bg ?_|refine BN ?_|refine Am ?_|refine B8 ?_|refine Av rfl (by assumption) ?_)
  refine Cr (cells:=Ck.toArray) rfl rfl (by rfl) rfl ?_
  refine Bz (vs:=Ck) rfl rfl (by simp [A4,OneCell]) (Dx rfl ly) ?_
  rw [Au (c:=Ck) (vs:=Ck) ly rfl]
  repeat(first|refine AE ?_|refine Aq ?_|refine AQ ?_)
  exact Ll (vs:=Ck) rfl rfl rfl (C0 (by exact AJ ly)) rfl ⟨rfl,A2 u1 (AN.set (T:=fun b=>b=y) _ _ _ rfl) (fun b hb e=>by omega),.inr ⟨fun q hq=>by
   obtain⟨j',Dm,rfl⟩:=JZ.1 hq
   exact G7 j' _ Dm (Cl Dm),rfl⟩⟩
theorem de{j:Int}(I:Ik R nm lL lW lY lV h0 W F s h):AY Tryz.prog main S 82 #[ptr W,.int .i64 j] h δ (CJ (Gb (.bool false) h δ)):=by
 have c6:AF h ⟨W,6,none⟩=some AK:=AD I.row rfl
 refine CK (n:=26) ?_
 repeat(first|refine AI ?_|refine AH ?_|refine AE ?_|refine Ak ?_|refine Aq ?_)
 refine iA ?_
 repeat(first|refine AI ?_|refine AH ?_|refine AE ?_|refine AV ?_|refine Aq ?_|refine Bc ?_|refine Az ?_|refine Bg ?_|refine BN ?_|refine Am ?_|refine AQ ?_|refine B8 ?_|refine Av rfl (by assumption) ?_)
 exact DQ El
end
end
section
structure WC(X:Us)(AZ:List Int)(R:Rec)(nm:Nat->D5)(lL lW lY lV sP:Value)(h0:Hp)(s:WS):Prop where
 ok:Fh X AZ R
 m:HB R AZ lL lW lY lV sP h0
 inj:∀b b',X.FC b->X.FC b'->nm b=nm b'->b=b'
 xo:∀b,X.FC b->H6 s.hs (nm b)=R.v0 b
 MA:s.hs.length<=5000
def E6(R:Rec)(nm:Nat->D5)(lL lW lY lV:Value)(h0:Hp)(W:Nat)(s:WS)(h:Hp):Prop:=∃q,Ik R nm lL lW lY lV h0 W ((Ab R.log).map R.v0) {s with q:=q} h/\SU R nm q
def WT(s:WS)(x b:Nat):Prop:=b=x\/blk s.nv=some b\/blk s.gv=some b
structure LQ(R:Rec)(nm:Nat->D5)(lL lW lY lV:Value)(h0:Hp)(W:Nat)(s:WS){A:Type}(pf:Pr A)(x i:Nat)(p:Pr A)(l:List Ev)(o:List A)(h:Hp):Prop where
 all:E6 R nm lL lW lY lV h0 W s h
 at_:WAt R pf x W i p l o h
 x0:h0.size<=x
structure ap(R:Rec)(nm:Nat->D5)(lL lW lY lV:Value)(h0:Hp)(W:Nat)(s:WS)(x i:Nat)(h:Hp):Prop where
 all:E6 R nm lL lW lY lV h0 W s h
 out:zk R x W i h
 x0:h0.size<=x
section
variable{Γ:Type}{main:Bool}{S:Cp Γ}{δ:Ix Γ}{R:Rec}{nm:Nat->D5}{lL lW lY lV sP:Value}{h0 h h':Hp}{W x i t:Nat}{s:WS}{AZ:List Int}{X:Us}{A:Type}{pf p:Pr A}{r:Rq}{k:Int->Pr A}{l:List Ev}{o:List A}
theorem E6.A5(a:E6 R nm lL lW lY lV h0 W s h)(u:AN (fun _=>False) h h'):E6 R nm lL lW lY lV h0 W s h':=by
 obtain⟨q,I,N⟩:=a
 exact⟨q,I.A5 u,N⟩
theorem LQ.A5(w:LQ R nm lL lW lY lV h0 W s pf x i p l o h)(u:AN (fun _=>False) h h'):LQ R nm lL lW lY lV h0 W s pf x i p l o h':=by
 obtain⟨a,⟨⟨t,h1,h2,h3⟩,g⟩,x0⟩:=w
 exact⟨a.A5 u,⟨⟨t,h1,h2,u.get h3 (fun x=>x)⟩,g⟩,x0⟩
theorem ap.A5(w:ap R nm lL lW lY lV h0 W s x i h)(u:AN (fun _=>False) h h'):ap R nm lL lW lY lV h0 W s x i h':=by
 obtain⟨a,⟨⟨t,h1,h2,h3⟩,g⟩,x0⟩:=w
 exact⟨a.A5 u,⟨⟨t,h1,h2,u.get h3 (fun x=>x)⟩,g⟩,x0⟩
theorem E6.lt(a:E6 R nm lL lW lY lV h0 W s h):∀b,blk s.nv=some b\/blk s.gv=some b->b<h.size:=by
 obtain⟨q,I,N⟩:=a
 exact fun b hb=>hb.elim I.IL.lt I.H2.lt
theorem E6.ge(a:E6 R nm lL lW lY lV h0 W s h):∀b,blk s.nv=some b\/blk s.gv=some b->h0.size<=b:=by
 obtain⟨q,I,N⟩:=a
 exact fun b hb=>hb.elim (I.n1 b) (I.n2 b)
theorem LQ.wt(w:LQ R nm lL lW lY lV h0 W s pf x i p l o h):∀b,WT s x b->h0.size<=b/\b<h.size:=by
 obtain⟨t,h1,h2,h3⟩:=w.at_.at_
 rintro b (rfl|hb)
 ·exact⟨w.x0,Ap h3⟩
 ·exact⟨w.all.ge b hb,w.all.lt b hb⟩
theorem ap.wt(w:ap R nm lL lW lY lV h0 W s x i h):∀b,WT s x b->h0.size<=b/\b<h.size:=by
 obtain⟨t,h1,h2,h3⟩:=w.out.at_
 rintro b (rfl|hb)
 ·exact⟨w.x0,Ap h3⟩
 ·exact⟨w.all.ge b hb,w.all.lt b hb⟩
theorem LQ.cases(w:LQ R nm lL lW lY lV h0 W s pf x i (.step r k) l o h):(∃v l',l=Co i r v::l'/\Goes i (k v) l' o pf)\/(l=[]/\o=[]/\pf= .step r k):=by
 have g:=w.at_.goes
 generalize hp:Pr.step r k=p at g
 cases g with
 | nil=>exact .inr ⟨rfl,rfl,rfl⟩
 | emit=>cases hp
 | step v g=>
  injection hp with h1 h2
  subst h1 h2
  exact .inl ⟨v,_,rfl,g⟩
theorem L1{op:Int}{n:D5}{a c:Value}(hx:h[x]?=some (GD W i true t)):
  AY Tryz.prog main (Fb (Γ:=Γ)) 125 #[ptr x,.int .i8 op,JP n,a,c] h δ (CJ fun v h' AW=>AW=δ/\v= .agg Ck.toArray/\AN (fun _=>False) h h'):=by
 refine CK (n:=122) ?_
 repeat(first|refine AI ?_|refine AH ?_|refine AE ?_|refine AV ?_|refine Bc ?_|refine Az ?_|refine DO ?_|refine Cn ?_)
 simp only [Array.size_push]
 have u0:AN (fun _=>False) h ((h.push (HL n)).push (CE Ck)):=(AN.push _ _).trans (AN.push _ _)
 have gx:((h.push (HL n)).push (CE Ck))[x]?=some (GD W i true t):=Ao _ (Ao _ hx)
 have gy:((h.push (HL n)).push (CE Ck))[h.size+1]?=some (CE Ck):=by
  have:=AG (h.push (HL n)) (CE Ck)
  rwa [CH]at this
 refine A6 (fun h'=>AN (fun _=>False) h h'/\h'[x]?=some (GD W i true t)/\h'[h.size+1]?=some (CE Ck)) ⟨u0,gx,gy⟩ ?_
 clear u0 gx gy
 rintro h1 ⟨u0,gx,gy⟩
 have x2:AF h1 ⟨x,2,none⟩=some (.bool true):=AD gx rfl
 repeat(first|refine AI ?_|refine AH ?_|refine AE ?_|refine Df ?_|refine BU ?_)
 refine Cr (cells:=Ck.toArray) rfl rfl (by rfl) rfl ?_
 refine Bz (vs:=Ck) rfl rfl (by simp [A4,OneCell]) (Dx rfl gy) ?_
 rw [Au (c:=Ck) (vs:=Ck) gy rfl]
 repeat(first|refine AE ?_|refine AQ ?_)
 exact BD (vs:=Ck) rfl rfl rfl (C0 (by exact AJ gy)) ⟨rfl,rfl,A2 u0 (AN.set (T:=fun b=>b=h.size+1) _ _ _ rfl) (fun b hb e=>by omega)⟩
end
end
section
section
variable{Γ:Type}{main:Bool}{S:Cp Γ}{δ:Ix Γ}{R:Rec}{nm:Nat->D5}{lL lW lY lV sP:Value}{h0 h h':Hp}{W x i t:Nat}{s:WS}{AZ:List Int}{X:Us}{A:Type}{pf p:Pr A}{r:Rq}{k:Int->Pr A}{l:List Ev}{o:List A}
theorem WC.UB(C:WC X AZ R nm lL lW lY lV sP h0 s){e:Ev}(he:e∈R.log):X.FC e.b/\(Ab R.log)[(Ab R.log).idxOf e.b]?=some e.b:=by
 obtain⟨k,hk,rfl⟩:=JZ.1 he
 have Dh:=Cl hk
 obtain⟨w,i,r,_,hr,e1,_⟩:=C.ok.chain.inv Dh
 refine⟨by rw [e1];exact hr.cell,?_⟩
 have hm:(R.log[k]).b∈Ab R.log:=(IH _ _).2 ⟨_,he,rfl⟩
 have Cg:=List.idxOf_lt_length_iff.2 hm
 rw [Cl Cg]
 simp
theorem Fh.Wj(ok:Fh X AZ R){q q':Nat×Rq}(h:q∈R.left)(h':q'∈R.left)(e:q.1=q'.1):q=q':=by
 obtain⟨j,hj,rfl⟩:=JZ.1 h
 obtain⟨j',Dm,rfl⟩:=JZ.1 h'
 have hp:=List.pairwise_iff_getElem.1 ok.Xp
 rcases Nat.lt_trichotomy j j' with y|y|y
 ·have:=hp j j' hj Dm y;omega
 ·subst y;rfl
 ·have:=hp j' j Dm hj y;omega
theorem Nh(C:WC X AZ R nm lL lW lY lV sP h0 s)(Db:PF R i pf)(w:LQ R nm lL lW lY lV h0 W s pf x i (.step r k) l o h){n:D5}(hn:n=nm r.b):
  AY Tryz.prog main (Fb (Γ:=Γ)) 125 #[ptr x,.int .i8 r.op,JP n,.int .i64 r.arg,.int .i64 r.new] h δ (CJ fun v h' AW=>AW=δ/\AN (WT s x) h h'/\((∃w l',l=Co i r w::l'/\v= .agg (CF (Ab R.log) (Co i r w)).toArray/\LQ R nm lL lW lY lV h0 W s pf x i (k w) l' o h')\/(o=[]/\v= .agg Ck.toArray/\ap R nm lL lW lY lV h0 W s x i h'))):=by
 subst hn
 have hlen:R.log.length<=65536:=Dt C.ok.len C.ok.most
 have Vv:=Dt (Oa R.log) hlen
 have w9:=C.ok.Ly
 have T7:=w.cases
 have wt:=w.wt
 obtain⟨op,b,arg,new⟩:=r
 obtain⟨⟨q,I,N⟩,⟨⟨t,ht,hl,hx⟩,-⟩,aK⟩:=w
 dsimp only
 have u0:AN (fun _=>False) h ((h.push (HL (nm b))).push (CE Ck)):=(AN.push _ _).trans (AN.push _ _)
 obtain⟨yN,hyN⟩:∃yN,yN=h.size:=⟨_,rfl⟩
 obtain⟨y,hy⟩:∃y,y=h.size+1:=⟨_,rfl⟩
 have gN:((h.push (HL (nm b))).push (CE Ck))[yN]?=some (HL (nm b)):=by rw [hyN];exact Ao _ (AG _ _)
 have gy:((h.push (HL (nm b))).push (CE Ck))[y]?=some (CE Ck):=by
  have:=AG (h.push (HL (nm b))) (CE Ck)
  rw [CH]at this
  rw [hy];exact this
 refine CK (n:=122) ?_
 repeat(first|refine AI ?_|refine AH ?_|refine AE ?_|refine AV ?_|refine Bc ?_|refine Az ?_|refine DO ?_|refine Cn ?_)
 simp only [Array.size_push]
 refine A6 (fun h'=>Ik R nm lL lW lY lV h0 W ((Ab R.log).map R.v0) {s with q:=q} h'/\AN (fun _=>False) h h'/\h'[x]?=some (GD W i false t)/\h'[yN]?=some (HL (nm b))/\h'[y]?=some (CE Ck)) ⟨I.A5 u0,u0,Ao _ (Ao _ hx),gN,gy⟩ ?_
 rw [<-hy,<-hyN]
 have KH:=Ap hx
 have xQ:=I.up.size
 have nT:∀c,(blk s.nv=some c\/blk s.gv=some c)->c<h.size:=fun c hc=>(wt c (.inr hc)).2
 clear I hx gN gy u0
 rintro h1 ⟨I,u1,hx,gN,gy⟩
 have x2:AF h1 ⟨x,2,none⟩=some (.bool false):=AD hx rfl
 have bU:=u1.size
 repeat(first|refine AI ?_|refine AH ?_|refine AE ?_|refine Ar ?_|refine AV ?_|refine Df ?_|refine Am ?_)
 refine BV rfl (SX C.m hlen I hx aK ht) ?_
 clear I hx x2
 rintro _ h2 FJ ⟨rfl,t2,oO,hx,I,u2,hc⟩
 replace gN:=u2.get gN (by omega)
 replace gy:=u2.get gy (by omega)
 have hs2:=u2.size
 have hgy:=Ap gy
 have uu:AN (WT s x) h h2:=A2 (u1.mono (fun _ _ z=>z.elim)) u2 (fun c _ hc=>.inl hc)
 clear u1 u2
 rcases hc with⟨e,ho,he,rfl⟩|⟨ho,bX,rfl⟩
 ·obtain⟨w',l',e1,gk⟩:∃v l',C3 R i t2=l'/\e=Co i ⟨op,b,arg,new⟩ v/\l=e::l'/\Goes i (k v) l' o pf:=by
   rw [hl]at ho
   rcases T7 with⟨v,l',e1,g⟩|⟨e1,-,-⟩
   ·rw [ho]at e1
    injection e1 with e1 e2
    exact⟨v,l',e2,e1,by rw [ho,e2],g⟩
   ·rw [ho]at e1;cases e1
  obtain⟨e2,e3,gk⟩:=gk
  subst e2
  obtain⟨ic,hb⟩:=C.UB he
  change X.FC b at ic
  change (Ab R.log)[(Ab R.log).idxOf b]?=some b at hb
  have hF:((Ab R.log).map R.v0)[(Ab R.log).idxOf b]?=some (H6 s.hs (nm b)):=by rw [EQ,hb,C.xo b ic];rfl
  have SB:∀b',b'∈Ab R.log->nm b'=nm b->b'=b:=fun b' DN e=>C.inj b' b (by
   obtain⟨e',iZ,rfl⟩:=(IH _ _).1 DN
   exact(C.UB iZ).1) ic e
  obtain⟨z,hz⟩:∃z,z=h2.size:=⟨_,rfl⟩
  repeat(first|refine AV ?_|refine Eo ?_|refine Cn ?_)
  refine Bz (vs:=CF (Ab R.log) (Co i ⟨op,b,arg,new⟩ w')) rfl rfl (by simp [CF,A4,OneCell]) (Dx (vs:=Ck) rfl (AG _ _)) ?_
  rw [Bw (c:=[.int .i64 0,.int .i8 0,.int .i64 0,.int .i64 0,.int .i64 0,.int .i64 0,.int .i64 0,.bool false]) (vs:=CF (Ab R.log) (Co i ⟨op,b,arg,new⟩ w')) rfl]
  refine A6 (fun h'=>Ik R nm lL lW lY lV h0 W ((Ab R.log).map R.v0) {s with q:=q} h'/\AN (WT s x) h h'/\h'[x]?=some (GD W i false t2)/\h'[yN]?=some (HL (nm b))/\h'[y]?=some (CE Ck)/\h'[z]?=some (CE (CF (Ab R.log) (Co i ⟨op,b,arg,new⟩ w')))) ⟨I.A5 (AN.push _ _),uu.trans (AN.push _ _),Ao _ hx,Ao _ gN,Ao _ gy,by rw [hz];exact AG _ _⟩ ?_
  rw [<-hz]
  clear I uu hx gN gy
  rintro h3 ⟨I,u3,hx,gN,gy,gz⟩
  have z1:AF h3 ⟨z,1,none⟩=some (.int .i8 op):=AD gz rfl
  have z2:AF h3 ⟨z,2,none⟩=some (.int .i64 ((Ab R.log).idxOf b:Nat)):=AD gz rfl
  have z3:AF h3 ⟨z,3,none⟩=some (.int .i64 arg):=AD gz rfl
  have z4:AF h3 ⟨z,4,none⟩=some (.int .i64 new):=AD gz rfl
  have x0:AF h3 ⟨x,0,none⟩=some (ptr W):=AD hx rfl
  have rN:TJ.A0 h3 yN 0 (DR (nm b)):=C0 (by exact gN)
  generalize (Ab R.log).idxOf b=ix at hb hF z2
  repeat(first|refine AI ?_|refine AH ?_|refine AE ?_|refine AV ?_|refine Aq ?_|refine BU ?_)
  refine BO (fun h'=>AF h' ⟨z,1,none⟩=some (.int .i8 op)/\AF h' ⟨z,2,none⟩=some (.int .i64 ix)/\AF h' ⟨z,3,none⟩=some (.int .i64 arg)/\AF h' ⟨z,4,none⟩=some (.int .i64 new)/\AF h' ⟨x,0,none⟩=some (ptr W)/\TJ.A0 h' yN 0 (DR (nm b))) ?_
  have hZ:_/\_/\_/\_/\_/\_:=And.intro z1 ⟨z2,z3,z4,x0,rN⟩
  refine Ag 0 hZ ?_
  refine A8 1 (fun _ hz=>hz.1) hZ ?_
  refine AU 2 hZ ?_
  refine Dy 3 hZ ?_
  refine AU 4 hZ ?_
  refine Ag 5 hZ ?_
  refine A8 6 (fun _ hz=>hz.2.2.1) hZ ?_
  refine AU 7 hZ ?_
  refine Dy 8 hZ ?_
  refine Dz 9 hZ ?_
  refine AU 10 hZ ?_
  refine Ag 11 hZ ?_
  refine A8 12 (fun _ hz=>hz.2.2.2.1) hZ ?_
  refine AU 13 hZ ?_
  refine Dy 14 hZ ?_
  refine Dz 15 hZ ?_
  refine AU 16 hZ ?_
  refine AU 17 hZ ?_
  refine BE 18 hZ ?_
  refine Ag 19 hZ ?_
  refine A8 20 (fun _ hz=>hz.2.2.2.2.1) hZ ?_
  refine Ag 21 hZ ?_
  refine A8 22 (fun _ hz=>hz.2.1) hZ ?_
  refine EP (vs:=DR (nm b)) 23 rfl (by kernel_rfl) rfl rfl rfl rfl rfl (fun _ hz=>hz.2.2.2.2.2) hZ ?_
  refine Bj 24 rfl (by kernel_rfl) rfl rfl rfl rfl rfl rfl (fi (s:={s with q:=q}) I N hb hF SB Vv C.MA) ?_
  rintro _ h4 MC ⟨rfl,rfl,I4,u4⟩
  have nx:∀c,(blk s.nv=some c\/blk s.gv=some c)->c≠x:=fun c hc=>hc.elim (fun y=>Ac I.IL hx (by decide) c y) (fun y=>Ac I.H2 hx (by decide) c y)
  have nz:¬(blk s.nv=some z\/blk s.gv=some z):=fun hc=>by have:=nT _ hc;omega
  have nN:¬(blk s.nv=some yN\/blk s.gv=some yN):=fun hc=>by have:=nT _ hc;omega
  have ny:¬(blk s.nv=some y\/blk s.gv=some y):=fun hc=>by have:=nT _ hc;omega
  replace hx:=u4.get hx (fun hc=>nx x hc rfl)
  replace gN:=u4.get gN nN
  replace gy:=u4.get gy ny
  replace gz:=u4.get gz nz
  have z1:AF h4 ⟨z,1,none⟩=some (.int .i8 op):=u4.AF z1 nz
  have z2:AF h4 ⟨z,2,none⟩=some (.int .i64 ix):=u4.AF z2 nz
  have z3:AF h4 ⟨z,3,none⟩=some (.int .i64 arg):=u4.AF z3 nz
  have z4:AF h4 ⟨z,4,none⟩=some (.int .i64 new):=u4.AF z4 nz
  have x0:AF h4 ⟨x,0,none⟩=some (ptr W):=AD hx rfl
  have rN:TJ.A0 h4 yN 0 (DR (nm b)):=C0 (by exact gN)
  have hZ:_/\_/\_/\_/\_/\_:=And.intro z1 ⟨z2,z3,z4,x0,rN⟩
  refine⟨hZ,?_⟩
  refine KN 25 hZ ?_
  refine Dz 26 hZ ?_
  refine BF ?_
  have uu:AN (WT s x) h h4:=A2 u3 u4 (fun c _ hc=>.inr hc)
  clear hZ I u3 u4 z1 z2 z3 z4 x0 rN nx
  repeat(first|refine AI ?_|refine AH ?_|refine Ar ?_|refine Am ?_)
  refine C5 (vs:=CF (Ab R.log) (Co i ⟨op,b,arg,new⟩ w')) rfl (C0 (by exact gz)) ?_
  refine Bz (vs:=CF (Ab R.log) (Co i ⟨op,b,arg,new⟩ w')) rfl rfl (by simp [CF,A4,OneCell]) (Dx rfl gy) ?_
  rw [Au (c:=Ck) (vs:=CF (Ab R.log) (Co i ⟨op,b,arg,new⟩ w')) gy rfl]
  repeat(first|refine AE ?_|refine AQ ?_)
  refine BD (vs:=CF (Ab R.log) (Co i ⟨op,b,arg,new⟩ w')) rfl rfl rfl (C0 (by exact AJ gy)) ⟨rfl,A2 uu (AN.set (T:=fun c=>c=y) _ _ _ rfl) (fun c hc e=>by omega),.inl ⟨w',l',e3,rfl,⟨⟨_,I4.other gy (by omega) (by decide) (by decide) (by decide) (by decide) _,N.set hb⟩,⟨⟨t2,oO,e1,by rw [AX _ (by omega)];exact hx⟩,gk⟩,aK⟩⟩⟩
 ·obtain⟨eo,xe⟩:o=[]/\pf= .step ⟨op,b,arg,new⟩ k:=by
   rw [hl]at ho
   rcases T7 with⟨v,l',e1,g⟩|⟨-,e2,e3⟩
   ·rw [ho]at e1;cases e1
   ·exact⟨e2,e3⟩
  subst eo
  have PU:(i,(⟨op,b,arg,new⟩:Rq))∈R.left:=by
   rcases Db with⟨r',k',hm,e⟩|⟨-,e⟩
   ·rw [xe]at e
    injection e with e e'
    subst e
    exact hm
   ·rw [xe]at e;cases e
  clear T7 Db xe ho
  have ic:X.FC b:=(C.ok.left _ PU).2.cell
  obtain⟨z,hz⟩:∃z,z=h2.size:=⟨_,rfl⟩
  repeat(first|refine AV ?_|refine Eo ?_|refine Cn ?_)
  refine Bz (vs:=Ck) rfl rfl (by simp [A4,OneCell]) (Dx (vs:=Ck) rfl (AG _ _)) ?_
  rw [Bw (c:=[.int .i64 0,.int .i8 0,.int .i64 0,.int .i64 0,.int .i64 0,.int .i64 0,.int .i64 0,.bool false]) (vs:=Ck) rfl]
  refine A6 (fun h'=>Ik R nm lL lW lY lV h0 W ((Ab R.log).map R.v0) {s with q:=q} h'/\AN (WT s x) h h'/\h'[x]?=some (GD W i false t2)/\h'[yN]?=some (HL (nm b))/\h'[y]?=some (CE Ck)/\h'[z]?=some (CE Ck)) ⟨I.A5 (AN.push _ _),uu.trans (AN.push _ _),Ao _ hx,Ao _ gN,Ao _ gy,by rw [hz];exact AG _ _⟩ ?_
  rw [<-hz]
  clear I uu hx gN gy
  rintro h3 ⟨I,u3,hx,gN,gy,gz⟩
  repeat(first|refine AI ?_|refine AH ?_|refine AE ?_|refine Ar ?_|refine AV ?_|refine Aq ?_|refine Am ?_)
  refine BV rfl (SY C.m (Dt w9 (by decide)) I hx aK) ?_
  rintro _ h4 MC ⟨rfl,u4,hc⟩
  obtain⟨q',Eh,e4,rfl⟩:∃q',q'∈R.left/\q'.1=i/\_:=hc.resolve_right fun hn=>hn.1 _ PU rfl
  obtain rfl:=C.ok.Wj Eh PU e4
  clear e4 Eh hc
  replace I:=I.A5 u4
  replace hx:=u4.get hx (fun z=>z)
  replace gN:=u4.get gN (fun z=>z)
  replace gy:=u4.get gy (fun z=>z)
  replace gz:=u4.get gz (fun z=>z)
  replace u3:AN (WT s x) h h4:=A2 u3 u4 (fun _ _ z=>z.elim)
  clear u4
  obtain⟨cv,Vx⟩:∃cv:Int,cv=if b∈Ab R.log then((Ab R.log).idxOf b:Int)else -1:=⟨_,rfl⟩
  have eL:EJ (Ab R.log) R.val (i,⟨op,b,arg,new⟩)=A4 i op cv arg new (R.val b) (R.val b) false:=by rw [Vx];rfl
  rw [eL]
  repeat(first|refine AV ?_|refine Eo ?_)
  refine Bz (vs:=A4 i op cv arg new (R.val b) (R.val b) false) rfl rfl (by simp [A4,OneCell]) (Dx rfl gz) ?_
  rw [Au (c:=Ck) (vs:=A4 i op cv arg new (R.val b) (R.val b) false) gz rfl]
  refine A6 (fun h'=>Ik R nm lL lW lY lV h0 W ((Ab R.log).map R.v0) {s with q:=q} h'/\AN (WT s x) h h'/\h'[x]?=some (GD W i false t2)/\h'[yN]?=some (HL (nm b))/\h'[y]?=some (CE Ck)/\h'[z]?=some (CE (A4 i op cv arg new (R.val b) (R.val b) false))) ⟨I.other gz (by omega) (by decide) (by decide) (by decide) (by decide) _,A2 u3 (AN.set (T:=fun c=>c=z) _ _ _ rfl) (fun c hc e=>by omega),by rw [AX _ (by omega)];exact hx,by rw [AX _ (by omega)];exact gN,by rw [AX _ (by omega)];exact gy,AJ gz⟩ ?_
  clear I u3 hx gN gy gz
  rintro h5 ⟨I,u5,hx,gN,gy,gz⟩
  have z1:AF h5 ⟨z,1,none⟩=some (.int .i8 op):=AD gz rfl
  have z2:AF h5 ⟨z,2,none⟩=some (.int .i64 cv):=AD gz rfl
  have z3:AF h5 ⟨z,3,none⟩=some (.int .i64 arg):=AD gz rfl
  have z4:AF h5 ⟨z,4,none⟩=some (.int .i64 new):=AD gz rfl
  have z5:AF h5 ⟨z,5,none⟩=some (.int .i64 (R.val b)):=AD gz rfl
  have x0:AF h5 ⟨x,0,none⟩=some (ptr W):=AD hx rfl
  have rN:TJ.A0 h5 yN 0 (DR (nm b)):=C0 (by exact gN)
  repeat(first|refine AI ?_|refine AE ?_|refine Aq ?_)
  refine UD (fun _:Unit=>[(10,ptr y),(0,ptr x),(111,.bool false)]) (fun _ h' AW=>AW=MC/\E6 R nm lL lW lY lV h0 W s h'/\AN (WT s x) h h'/\h'[x]?=some (GD W i false t2)/\h'[y]?=some (CE Ck)) (fun key=>?_) ?_
  ·refine BO (fun h'=>AF h' ⟨z,1,none⟩=some (.int .i8 op)/\AF h' ⟨z,2,none⟩=some (.int .i64 cv)/\AF h' ⟨z,3,none⟩=some (.int .i64 arg)/\AF h' ⟨z,4,none⟩=some (.int .i64 new)/\AF h' ⟨z,5,none⟩=some (.int .i64 (R.val b))/\AF h' ⟨x,0,none⟩=some (ptr W)/\TJ.A0 h' yN 0 (DR (nm b))) ?_
   have hZ:_/\_/\_/\_/\_/\_/\_:=And.intro z1 ⟨z2,z3,z4,z5,x0,rN⟩
   refine AU 0 hZ ?_
   refine KN 1 hZ ?_
   refine AU 2 hZ ?_
   refine Ag 3 hZ ?_
   refine A8 4 (fun _ hz=>hz.1) hZ ?_
   refine AU 5 hZ ?_
   refine Dy 6 hZ ?_
   refine Dz 7 hZ ?_
   refine AU 8 hZ ?_
   refine Ag 9 hZ ?_
   refine A8 10 (fun _ hz=>hz.2.2.1) hZ ?_
   refine AU 11 hZ ?_
   refine Dy 12 hZ ?_
   refine Dz 13 hZ ?_
   refine AU 14 hZ ?_
   refine Ag 15 hZ ?_
   refine A8 16 (fun _ hz=>hz.2.2.2.1) hZ ?_
   refine AU 17 hZ ?_
   refine Dy 18 hZ ?_
   refine Dz 19 hZ ?_
   refine AU 20 hZ ?_
   refine Ag 21 hZ ?_
   refine A8 22 (fun _ hz=>hz.2.1) hZ ?_
   by_cases Tb:b∈Ab R.log
   ·rw [if_pos Tb]at Vx
    obtain⟨-,hb⟩:True/\(Ab R.log)[(Ab R.log).idxOf b]?=some b:=⟨trivial,by
     have Cg:=List.idxOf_lt_length_iff.2 Tb
     rw [List.getElem?_eq_getElem Cg];simp⟩
    have hF:((Ab R.log).map R.v0)[(Ab R.log).idxOf b]?=some (H6 s.hs (nm b)):=by rw [EQ,hb,C.xo b ic];rfl
    have SB:∀b',b'∈Ab R.log->nm b'=nm b->b'=b:=fun b' DN e=>C.inj b' b (by
     obtain⟨e',iZ,rfl⟩:=(IH _ _).1 DN
     exact(C.UB iZ).1) ic e
    generalize (Ab R.log).idxOf b=ix at hb hF Vx
    subst Vx
    refine G8 23 hZ ?_
    refine AU 24 hZ ?_
    refine AU 25 hZ ?_
    refine BE 26 hZ ?_
    refine Ag 27 hZ ?_
    refine A8 28 (fun _ hz=>hz.2.2.2.2.2.1) hZ ?_
    refine Ag 29 hZ ?_
    refine A8 30 (fun _ hz=>hz.2.1) hZ ?_
    refine EP (vs:=DR (nm b)) 31 rfl (by kernel_rfl) rfl rfl rfl rfl rfl (fun _ hz=>hz.2.2.2.2.2.2) hZ ?_
    refine Bj 32 rfl (by kernel_rfl) rfl rfl rfl rfl rfl rfl (fi (s:={s with q:=q}) I N hb hF SB Vv C.MA) ?_
    rintro _ h6 TW ⟨rfl,rfl,I6,u6⟩
    have nx:¬(blk s.nv=some x\/blk s.gv=some x):=fun hc=>hc.elim (fun y=>Ac I.IL hx (by decide) x y rfl) (fun y=>Ac I.H2 hx (by decide) x y rfl)
    have nz:¬(blk s.nv=some z\/blk s.gv=some z):=fun hc=>by have:=nT _ hc;omega
    have nN:¬(blk s.nv=some yN\/blk s.gv=some yN):=fun hc=>by have:=nT _ hc;omega
    have ny:¬(blk s.nv=some y\/blk s.gv=some y):=fun hc=>by have:=nT _ hc;omega
    have hZ:_/\_/\_/\_/\_/\_/\_:=And.intro (u6.AF z1 nz) ⟨u6.AF z2 nz,u6.AF z3 nz,u6.AF z4 nz,u6.AF z5 nz,u6.AF x0 nx,fun j v hv=>u6.AF (rN j v hv) nN⟩
    refine⟨hZ,?_⟩
    refine KN 33 hZ ?_
    refine IR 34 hZ ?_
    refine Dz 35 hZ ?_
    refine AU 36 hZ ?_
    refine Ag 37 hZ ?_
    refine A8 38 (fun _ hz=>hz.2.1) hZ ?_
    refine Dy 39 hZ ?_
    refine AU 40 hZ ?_
    refine BB 41 hZ ?_
    refine BB 42 hZ ?_
    refine BB 43 hZ ?_
    refine BB 44 hZ ?_
    refine BB 45 hZ ?_
    refine BB 46 hZ ?_
    refine BB 47 hZ ?_
    refine BB 48 hZ ?_
    refine BB 49 hZ ?_
    refine Dz 50 hZ ?_
    refine Dz 51 hZ ?_
    refine BF ?_
    exact Ah (key () _ _ ⟨rfl,⟨_,I6,N.set hb⟩,A2 u5 u6 (fun c _ hc=>.inr hc),u6.get hx nx,u6.get gy ny⟩) ⟨rfl,rfl,rfl,trivial⟩
   ·rw [if_neg Tb]at Vx
    subst Vx
    have hvb:R.val b=H6 s.hs (nm b):=by rw [C.ok.chain.first Tb,C.xo b ic]
    refine Dy 23 hZ ?_
    refine AU 24 hZ ?_
    refine BB 25 hZ ?_
    refine BB 26 hZ ?_
    refine BB 27 hZ ?_
    refine BB 28 hZ ?_
    refine BB 29 hZ ?_
    refine BB 30 hZ ?_
    refine BB 31 hZ ?_
    refine BB 32 hZ ?_
    refine BB 33 hZ ?_
    refine Dz 34 hZ ?_
    refine Dz 35 hZ ?_
    refine AU 36 hZ ?_
    refine Ag 37 hZ ?_
    refine A8 38 (fun _ hz=>hz.2.1) hZ ?_
    refine G8 39 hZ ?_
    refine AU 40 hZ ?_
    refine Ag 41 hZ ?_
    refine A8 42 (fun _ hz=>hz.2.2.2.2.1) hZ ?_
    refine AU 43 hZ ?_
    refine BE 44 hZ ?_
    refine Ag 45 hZ ?_
    refine A8 46 (fun _ hz=>hz.2.2.2.2.2.1) hZ ?_
    refine EP (vs:=DR (nm b)) 47 rfl (by kernel_rfl) rfl rfl rfl rfl rfl (fun _ hz=>hz.2.2.2.2.2.2) hZ ?_
    refine Bj 48 rfl (by kernel_rfl) rfl rfl rfl rfl rfl rfl (Qe (s:={s with q:=q}) I C.MA) ?_
    rintro _ h6 TW ⟨rfl,rfl,u6⟩
    have hZ:_/\_/\_/\_/\_/\_/\_:=And.intro (u6.AF z1 (fun x=>x)) ⟨u6.AF z2 (fun x=>x),u6.AF z3 (fun x=>x),u6.AF z4 (fun x=>x),u6.AF z5 (fun x=>x),u6.AF x0 (fun x=>x),fun j v hv=>u6.AF (rN j v hv) (fun x=>x)⟩
    refine⟨hZ,?_⟩
    refine Dy 49 hZ ?_
    refine IR 50 hZ ?_
    refine Dz 51 hZ ?_
    refine BF ?_
    exact Ah (key () _ _ ⟨rfl,⟨q,I.A5 u6,N⟩,A2 u5 u6 (fun _ _ hc=>hc.elim),u6.get hx (fun x=>x),u6.get gy (fun x=>x)⟩) ⟨rfl,rfl,rfl,trivial⟩
  clear I u5 hx gN gy gz z1 z2 z3 z4 z5 x0 rN eL Vx
  rintro _ h6 TW ⟨rfl,⟨q6,I,N⟩,u6,hx,gy⟩
  refine OC rfl (Ar ?_)
  repeat(first|refine AI ?_|refine AH ?_|refine AV ?_|refine Bc ?_|refine Az ?_)
  have x2:AF h6 ⟨x,2,none⟩=some (.bool false):=AD hx rfl
  refine CS rfl ⟨nofun,nofun⟩ ⟨_,x2⟩ (AS hx) (fun x=>x) ?_
  have e7:Af h6 ⟨x,2,none⟩ (.bool true)=h6.setIfInBounds x (GD W i true t2):=As hx _
  change ER _ _ _ _ _ _ _ _ _ _ (Af h6 ⟨x,2,none⟩ (.bool true)) _ _
  rw [e7]
  have tj:(h6.setIfInBounds x (GD W i true t2))[x]?=some (GD W i true t2):=AJ hx
  have pG:(h6.setIfInBounds x (GD W i true t2))[y]?=some (CE Ck):=by rw [AX _ (by omega)];exact gy
  have I7:=I.other hx aK (by decide) (by decide) (by decide) (by decide) (GD W i true t2)
  have u7:AN (WT s x) h (h6.setIfInBounds x (GD W i true t2)):=u6.trans (AN.set _ _ _ (.inl rfl))
  clear e7 I u6 hx gy x2
  generalize h6.setIfInBounds x (GD W i true t2)=h7 at tj pG I7 u7⊢
  repeat(first|refine AI ?_|refine AH ?_|refine AE ?_)
  refine Cr (cells:=Ck.toArray) rfl rfl (by rfl) rfl ?_
  refine Bz (vs:=Ck) rfl rfl (by simp [A4,OneCell]) (Dx rfl pG) ?_
  rw [Au (c:=Ck) (vs:=Ck) pG rfl]
  repeat(first|refine AE ?_|refine AQ ?_)
  refine BD (vs:=Ck) rfl rfl rfl (C0 (by exact AJ pG)) ⟨rfl,A2 u7 (AN.set (T:=fun c=>c=y) _ _ _ rfl) (fun c hc e=>by omega),.inr ⟨rfl,rfl,⟨⟨_,I7.other pG (by omega) (by decide) (by decide) (by decide) (by decide) _,N⟩,⟨⟨t2,oO,bX,by rw [AX _ (by omega)];exact tj⟩,⟨_,PU⟩⟩,aK⟩⟩⟩
end
end
section
section
variable{Γ:Type}{main:Bool}{S:Cp Γ}{δ:Ix Γ}{R:Rec}{nm:Nat->D5}{lL lW lY lV sP:Value}{h0 h h':Hp}{W x i t:Nat}{s:WS}{AZ:List Int}{X:Us}{A:Type}{pf p:Pr A}{k:Int->Pr A}{l:List Ev}{o:List A}
def cn(R:Rec)(nm:Nat->D5)(lL lW lY lV:Value)(h0:Hp)(W:Nat)(s:WS)(pf:Pr A)(x i:Nat)(r:Rq)(k:Int->Pr A)(l:List Ev)(o:List A)(f:Int->Value)(z:Value)(h:Hp)(v:Value)(h':Hp):Prop:=
 AN (WT s x) h h'/\((∃w l',l=Co i r w::l'/\v=f w/\LQ R nm lL lW lY lV h0 W s pf x i (k w) l' o h')\/(o=[]/\v=z/\ap R nm lL lW lY lV h0 W s x i h'))
theorem ZK(C:WC X AZ R nm lL lW lY lV sP h0 s)(Db:PF R i pf){b:Nat}(w:LQ R nm lL lW lY lV h0 W s pf x i (.step ⟨1,b,0,0⟩ k) l o h){n:D5}(hn:n=nm b):
  AY Tryz.prog main (Fb (Γ:=Γ)) 139 #[ptr x,JP n] h δ (CJ fun v h' AW=>AW=δ/\cn R nm lL lW lY lV h0 W s pf x i ⟨1,b,0,0⟩ k l o (fun w=>.int .i64 w) (.int .i64 0) h v h'):=by
 subst hn
 refine CK (n:=9) ?_
 repeat(first|refine AI ?_|refine AH ?_|refine AE ?_|refine AV ?_|refine Aq ?_|refine DO ?_)
 refine C5 (vs:=DR (nm b)) rfl (C0 (by exact AG _ _)) ?_
 skip
 refine BV rfl (Nh (r:=⟨1,b,0,0⟩) C Db (w.A5 (AN.push _ _)) rfl) ?_
 rintro _ h2 FJ ⟨rfl,u2,hc⟩
 have uu:AN (WT s x) h h2:=A2 (AN.push (T:=WT s x) h (HL (nm b))) u2 (fun _ _ z=>z)
 rcases hc with⟨w',l',e1,rfl,w2⟩|⟨e1,rfl,w2⟩
 ·refine IV (v:=.int .i64 w') Tryz.underlying38 rfl Tryz.underlying2 rfl rfl rfl rfl rfl ?_
  repeat(first|refine AE ?_|refine Aq ?_|refine AQ ?_)
  exact CL rfl ⟨rfl,uu,.inl ⟨w',l',e1,rfl,w2⟩⟩
 ·refine IV (v:=.int .i64 0) Tryz.underlying38 rfl Tryz.underlying2 rfl rfl rfl rfl rfl ?_
  repeat(first|refine AE ?_|refine Aq ?_|refine AQ ?_)
  exact CL rfl ⟨rfl,uu,.inr ⟨e1,rfl,w2⟩⟩
theorem WJ(C:WC X AZ R nm lL lW lY lV sP h0 s)(Db:PF R i pf){b:Nat}{v:Int}(w:LQ R nm lL lW lY lV h0 W s pf x i (.step ⟨2,b,v,0⟩ k) l o h){n:D5}(hn:n=nm b):
  AY Tryz.prog main (Fb (Γ:=Γ)) 191 #[ptr x,JP n,.int .i64 v] h δ (CJ fun _ h' AW=>AW=δ/\cn R nm lL lW lY lV h0 W s pf x i ⟨2,b,v,0⟩ k l o (fun _=>.tuple #[]) (.tuple #[]) h (.tuple #[]) h'):=by
 subst hn
 refine CK (n:=10) ?_
 repeat(first|refine AI ?_|refine AH ?_|refine AE ?_|refine AV ?_|refine DO ?_)
 refine C5 (vs:=DR (nm b)) rfl (C0 (by exact AG _ _)) ?_
 (repeat refine AV ?_)
 refine BV rfl (Nh (r:=⟨2,b,v,0⟩) C Db (w.A5 (AN.push _ _)) rfl) ?_
 rintro _ h2 FJ ⟨rfl,u2,hc⟩
 have uu:AN (WT s x) h h2:=A2 (AN.push (T:=WT s x) h (HL (nm b))) u2 (fun _ _ z=>z)
 rcases hc with⟨w',l',e1,rfl,w2⟩|⟨e1,rfl,w2⟩
 ·(repeat refine AE ?_)
  exact FQ (Eu rfl ⟨rfl,uu,.inl ⟨w',l',e1,rfl,w2⟩⟩)
 ·(repeat refine AE ?_)
  exact FQ (Eu rfl ⟨rfl,uu,.inr ⟨e1,rfl,w2⟩⟩)
theorem dB(C:WC X AZ R nm lL lW lY lV sP h0 s)(Db:PF R i pf){b:Nat}{v c:Int}(w:LQ R nm lL lW lY lV h0 W s pf x i (.step ⟨3,b,v,c⟩ k) l o h){n:D5}(hn:n=nm b):
  AY Tryz.prog main (Fb (Γ:=Γ)) 105 #[ptr x,JP n,.int .i64 v,.int .i64 c] h δ (CJ fun z h' AW=>AW=δ/\cn R nm lL lW lY lV h0 W s pf x i ⟨3,b,v,c⟩ k l o (fun w=>.bool (decide (w=v))) (.bool false) h z h'):=by
 subst hn
 refine CK (n:=15) ?_
 repeat(first|refine AI ?_|refine AH ?_|refine AE ?_|refine AV ?_|refine Aq ?_|refine DO ?_)
 refine C5 (vs:=DR (nm b)) rfl (C0 (by exact AG _ _)) ?_
 (repeat refine AV ?_)
 refine BV rfl (Nh (r:=⟨3,b,v,c⟩) C Db (w.A5 (AN.push _ _)) rfl) ?_
 rintro _ h2 FJ ⟨rfl,u2,hc⟩
 have uu:AN (WT s x) h h2:=A2 (AN.push (T:=WT s x) h (HL (nm b))) u2 (fun _ _ z=>z)
 rcases hc with⟨w',l',e1,rfl,w2⟩|⟨e1,rfl,w2⟩
 ·refine IV (v:=.bool (decide (w'=v))) Tryz.underlying38 rfl Tryz.underlying4 rfl rfl rfl rfl (by
   by_cases e:w'=v
   ·simp [CF,A4,Co,behind,e]
   ·simp [CF,A4,Co,behind,e]) ?_
  repeat(first|refine AE ?_|refine Aq ?_|refine AQ ?_)
  exact CL rfl ⟨rfl,uu,.inl ⟨w',l',e1,rfl,w2⟩⟩
 ·refine IV (v:=.bool false) Tryz.underlying38 rfl Tryz.underlying4 rfl rfl rfl rfl rfl ?_
  repeat(first|refine AE ?_|refine Aq ?_|refine AQ ?_)
  exact CL rfl ⟨rfl,uu,.inr ⟨e1,rfl,w2⟩⟩
theorem dC(C:WC X AZ R nm lL lW lY lV sP h0 s)(Db:PF R i pf){b:Nat}{v:Int}(w:LQ R nm lL lW lY lV h0 W s pf x i (.step ⟨4,b,v,0⟩ k) l o h){n:D5}(hn:n=nm b):
  AY Tryz.prog main (Fb (Γ:=Γ)) 107 #[ptr x,JP n,.int .i64 v] h δ (CJ fun z h' AW=>AW=δ/\cn R nm lL lW lY lV h0 W s pf x i ⟨4,b,v,0⟩ k l o (fun w=>.int .i64 (IntKind.i64.wrap (w+v))) (.int .i64 0) h z h'):=by
 subst hn
 refine CK (n:=12) ?_
 repeat(first|refine AI ?_|refine AH ?_|refine AE ?_|refine AV ?_|refine Aq ?_|refine DO ?_)
 refine C5 (vs:=DR (nm b)) rfl (C0 (by exact AG _ _)) ?_
 (repeat refine AV ?_)
 refine BV rfl (Nh (r:=⟨4,b,v,0⟩) C Db (w.A5 (AN.push _ _)) rfl) ?_
 rintro _ h2 FJ ⟨rfl,u2,hc⟩
 have uu:AN (WT s x) h h2:=A2 (AN.push (T:=WT s x) h (HL (nm b))) u2 (fun _ _ z=>z)
 rcases hc with⟨w',l',e1,rfl,w2⟩|⟨e1,rfl,w2⟩
 ·refine IV (v:=.int .i64 (IntKind.i64.wrap (w'+v))) Tryz.underlying38 rfl Tryz.underlying2 rfl rfl rfl rfl rfl ?_
  repeat(first|refine AE ?_|refine Aq ?_|refine AQ ?_)
  exact CL rfl ⟨rfl,uu,.inl ⟨w',l',e1,rfl,w2⟩⟩
 ·refine IV (v:=.int .i64 0) Tryz.underlying38 rfl Tryz.underlying2 rfl rfl rfl rfl rfl ?_
  repeat(first|refine AE ?_|refine Aq ?_|refine AQ ?_)
  exact CL rfl ⟨rfl,uu,.inr ⟨e1,rfl,w2⟩⟩
end
end
section
section
variable{Γ:Type}{main:Bool}{S:Cp Γ}{δ:Ix Γ}{R:Rec}{nm:Nat->D5}{lL lW lY lV sP:Value}{h0 h h':Hp}{W x i t m:Nat}{s:WS}{AZ:List Int}{X:Us}{A:Type}{pf p:Pr A}{k:Int->Pr A}{l:List Ev}{o:List A}
theorem LQ.row(w:LQ R nm lL lW lY lV h0 W s pf x i p l o h):AF h ⟨x,2,none⟩=some (.bool false):=by
 obtain⟨t,ht,hl,hx⟩:=w.at_.at_
 exact AD hx rfl
theorem ap.row(w:ap R nm lL lW lY lV h0 W s x i h):AF h ⟨x,2,none⟩=some (.bool true):=by
 obtain⟨t,ht,hl,hx⟩:=w.out.at_
 exact AD hx rfl
end
end
section
section
variable{Γ:Type}{main:Bool}{S:Cp Γ}{δ:Ix Γ}{R:Rec}{nm:Nat->D5}{lL lW lY lV sP:Value}{h0 h h':Hp}{W x i t:Nat}{s:WS}{AZ:List Int}{X:Us}{A:Type}{pf p:Pr A}{out:Bool}
theorem lG(C:WC X AZ R nm lL lW lY lV sP h0 s)(a:E6 R nm lL lW lY lV h0 W s h)(hx:h[x]?=some (GD W i out t))(aK:h0.size<=x)(ht:t<=R.log.length)(ho:C3 R i t=[])(hl:out=true↔∃q,q∈R.left/\q.1=i):
  AY Tryz.prog main (Fb (Γ:=Γ)) 55 #[ptr x,.bool false] h δ (CJ fun _ h' AW=>AW=δ/\E6 R nm lL lW lY lV h0 W s h'/\AN (fun b=>b=x) h h'):=by
 obtain⟨q,I,N⟩:=a
 have hlen:R.log.length<=65536:=Dt C.ok.len C.ok.most
 have w9:=Dt C.ok.Ly (show 64<=65536 by decide)
 refine CK (n:=72) ?_
 repeat(first|refine AI ?_|refine AH ?_|refine AV ?_)
 refine BV rfl (SX C.m hlen I hx aK ht) ?_
 clear I hx
 rintro _ h2 FJ ⟨rfl,t2,oO,hx,I,u2,⟨e,bX,-,-⟩|⟨-,bX,rfl⟩⟩
 ·rw [ho]at bX;cases bX
 repeat(first|refine AV ?_|refine Eo ?_|refine Cn ?_)
 refine Bz (vs:=Ck) rfl rfl (by simp [A4,OneCell]) (Dx (vs:=Ck) rfl (AG _ _)) ?_
 rw [Bw (c:=[.int .i64 0,.int .i8 0,.int .i64 0,.int .i64 0,.int .i64 0,.int .i64 0,.int .i64 0,.bool false]) (vs:=Ck) rfl]
 refine A6 (fun h'=>Ik R nm lL lW lY lV h0 W ((Ab R.log).map R.v0) {s with q:=q} h'/\AN (fun b=>b=x) h h'/\h'[x]?=some (GD W i out t2)) ⟨I.A5 (AN.push _ _),u2.trans (AN.push _ _),Ao _ hx⟩ ?_
 clear I u2 hx
 rintro h3 ⟨I,u3,hx⟩
 repeat(first|refine AI ?_|refine AH ?_|refine AE ?_|refine AV ?_|refine Aq ?_)
 refine BV rfl (SY C.m w9 I hx aK) ?_
 rintro v4 h4 MC ⟨rfl,u4,hc⟩
 obtain⟨vs,hvs,rfl,hl8⟩:∃vs:List Value,vs.length=8/\v4=Value.tuple #[.agg vs.toArray,.bool out]/\∀v∈vs,OneCell v:=by
  rcases hc with⟨q',Eh,e,rfl⟩|⟨hn,rfl⟩
  ·have:out=true:=hl.2 ⟨q',Eh,e⟩
   subst this
   exact⟨EJ (Ab R.log) R.val q',rfl,rfl,by simp [EJ,A4,OneCell]⟩
  ·have:out=false:=by
    cases out with
    | false=>rfl
    | true=>obtain⟨q',Eh,e⟩:=hl.1 rfl;exact absurd e (hn q' Eh)
   subst this
   exact⟨Ck,rfl,rfl,by simp [A4,OneCell]⟩
 replace I:=I.A5 u4
 replace hx:=u4.get hx (fun z=>z)
 replace u3:AN (fun b=>b=x) h h4:=u3.trans (u4.mono (fun _ _ z=>z.elim))
 clear u4 hc
 repeat(first|refine AV ?_|refine Eo ?_|refine Cn ?_)
 refine Bz (vs:=vs) rfl hvs hl8 (Dx (vs:=Ck) rfl (AG _ _)) ?_
 rw [Bw (c:=[.int .i64 0,.int .i8 0,.int .i64 0,.int .i64 0,.int .i64 0,.int .i64 0,.int .i64 0,.bool false]) (vs:=vs) (by rw [hvs];rfl)]
 refine A6 (fun h'=>Ik R nm lL lW lY lV h0 W ((Ab R.log).map R.v0) {s with q:=q} h'/\AN (fun b=>b=x) h h'/\h'[x]?=some (GD W i out t2)) ⟨I.A5 (AN.push _ _),u3.trans (AN.push _ _),Ao _ hx⟩ ?_
 clear I u3 hx
 rintro h5 ⟨I,u5,hx⟩
 have x0:AF h5 ⟨x,0,none⟩=some (ptr W):=AD hx rfl
 have x1:AF h5 ⟨x,1,none⟩=some (.int .i64 i):=AD hx rfl
 have x2:AF h5 ⟨x,2,none⟩=some (.bool out):=AD hx rfl
 repeat(first|refine AI ?_|refine AE ?_|refine Aq ?_)
 refine BO (fun h'=>h'=h5) ?_
 have hZ:h5=h5:=rfl
 refine AU 0 hZ ?_
 refine AU 1 hZ ?_
 refine AU 2 hZ ?_
 refine AU 3 hZ ?_
 refine BE 4 hZ ?_
 refine Ag 5 hZ ?_
 refine FA 6 x2 hZ ?_
 refine Yv (r:=true) 7 rfl (by kernel_rfl) rfl rfl rfl rfl rfl (by cases out <;> rfl) hZ ?_
 refine Dz 8 hZ ?_
 refine AU 9 hZ ?_
 refine AU 10 hZ ?_
 refine AU 11 hZ ?_
 refine BB 12 hZ ?_
 refine BB 13 hZ ?_
 refine BB 14 hZ ?_
 refine BB 15 hZ ?_
 refine BB 16 hZ ?_
 refine BB 17 hZ ?_
 refine BB 18 hZ ?_
 refine BB 19 hZ ?_
 refine BB 20 hZ ?_
 refine BB 21 hZ ?_
 refine BB 22 hZ ?_
 refine BB 23 hZ ?_
 refine BB 24 hZ ?_
 refine BB 25 hZ ?_
 refine BB 26 hZ ?_
 refine Dz 27 hZ ?_
 refine Dz 28 hZ ?_
 refine BF ?_
 repeat(first|refine AI ?_|refine Ar ?_|refine Am ?_)
 refine BO (fun h'=>h'=h5) ?_
 refine AU 0 hZ ?_
 refine KN 1 hZ ?_
 refine AU 2 hZ ?_
 refine AU 3 hZ ?_
 refine BE 4 hZ ?_
 refine Ag 5 hZ ?_
 refine FA 6 x0 hZ ?_
 refine AU 7 hZ ?_
 refine BE 8 hZ ?_
 refine Ag 9 hZ ?_
 refine FA 10 x1 hZ ?_
 refine FE 11 rfl (by kernel_rfl) rfl rfl rfl rfl rfl rfl (de I) hZ ?_
 refine IR 12 hZ ?_
 refine BF ?_
 repeat(first|refine Ar ?_|refine Am ?_)
 exact FQ (Eu rfl ⟨rfl,⟨q,I,N⟩,u5⟩)
end
end
section
structure RW where
 X:Us
 AZ:List Int
 R:Rec
 nm:Nat->D5
 lL:Value
 lW:Value
 lY:Value
 lV:Value
 sP:Value
 h0:Hp
 W:Nat
 s:WS
 Wd:Nat
 V:Value
 ws:List Value
 c:CP
 F:FK->Nat
 fs:Fs
def G9(i j:Nat):D5:=(2000000+i,j)
def Qq(k:Nat):D5:=(14000000+k,0)
structure RW.Ok(b:RW):Prop where
 C:WC b.X b.AZ b.R b.nm b.lL b.lW b.lY b.lV b.sP b.h0 b.s
 nmC:∀i j,i<b.c.nC->j<34->b.nm (b.c.B i j)=G9 i j
 nmK:∀k,k<b.c.nK->b.nm (b.c.K k)=Qq k
 c:b.c.Ok
 xV:∀q s,(q,s)∈b.fs->b.F q=s
 uy:b.fs.length<=32768
 nT:b.c.nT<=64
 nK:b.c.nK<=8
 V:Hh b.h0 b.V b.ws
 len:b.ws.length=b.c.sc.length
 sc:∀(s:Nat) (l:List BH),b.c.sc[s]?=some l->l.length<=30/\∃v,b.ws[s]?=some v/\AR b.h0 v 41 7 l.length (l.flatMap By)
 sl:∀(s:Nat) (l:List BH) (q:BH),b.c.sc[s]?=some l->q∈l->∃va vl vc,q.l= .slice va vl vc
 few:b.c.sc.length<=16
 ops:∀(s:Nat) (l:List BH) (q:BH),b.c.sc[s]?=some l->q∈l->(10<=q.op/\q.op<=13)\/100<=q.op
structure RG where
 K:Fs
 fv:Value
 T:Nat->List TE
 tv:Nat->Value
 kept:List (Nat×Obj)
 wait:Bool
def E0(x:FK×Nat):List Value:=[.int .i64 (2000000+(x.1.1:Int)),.int .i64 (x.1.2.1:Int),.int .i64 x.1.2.2,.int .i64 3,.int .i64 0,.int .i64 (x.2:Int),.int .i64 0,.int .i64 0,.int .i64 0,.int .i64 0,AK,.int .i64 0,.int .i64 0,.int .i64 0,.int .i64 0,AK]
def NE(b:RW)(TB:Nat)(fv:Value)(wait Fx:Bool):List Value:=[ptr b.W,b.V,.int .i64 b.c.nT,.slice (some ⟨TB,0,none⟩) b.c.nT b.c.nT,AK,AK,AK,AK,AK,AK,AK,.int .i64 b.c.nC,.int .i64 0,.int .i64 b.c.nK,.int .i64 0,fv,.bool wait,.bool Fx]
abbrev Ns(b:RW)(TB:Nat)(fv:Value)(wait Fx:Bool):Obj:=.cells (NE b TB fv wait Fx).toArray 83 (0,0)
abbrev PR(x i:Nat):Obj:=.cells #[ptr x,.int .i64 i,.int .i64 0,AK] 141 (0,0)
structure PD(b:RW)(TB n0:Nat)(g:RG)(h:Hp):Prop where
 up:AN (fun _=>False) b.h0 h
 row:h[b.Wd]?=some (Ns b TB g.fv g.wait (decide (n0<g.K.length)))
 IN:AR h g.fv 131 16 g.K.length (g.K.flatMap E0)
 out:h[TB]?=some (.cells ((List.range b.c.nT).map g.tv).toArray 73 (0,0))
 NQ:∀j,j<b.c.nT->AR h (g.tv j) 89 6 (g.T j).length ((g.T j).flatMap Ex)
 inj:∀j k y,j<b.c.nT->k<b.c.nT->blk (g.tv j)=some y->blk (g.tv k)=some y->j=k
 kept:∀q,q∈g.kept->h[q.1]?=some q.2/\∃l,q.2=Cy l
 tok:∀j e,e∈g.T j->N3 g.kept e
 nW:b.h0.size<=b.Wd
 nB:b.h0.size<=TB
 nF:∀y,blk g.fv=some y->b.h0.size<=y
 nV:∀j y,j<b.c.nT->blk (g.tv j)=some y->b.h0.size<=y
def Tj(t:TypeId):Prop:=t=134\/t=4\/t=183\/t=83\/t=131\/t=89\/t=73
def Kp(h h':Hp):Prop:=h.size<=h'.size/\∀(y:Nat) (a:Array Value) (t:TypeId),h[y]?=some (.cells a t (0,0))->¬Tj t->h'[y]?=some (.cells a t (0,0))
theorem Kp.refl(h:Hp):Kp h h:=⟨CY _,fun _ _ _ x _=>x⟩
theorem Kp.trans{h1 h2 h3:Hp}(a:Kp h1 h2)(b:Kp h2 h3):Kp h1 h3:=⟨Dt a.1 b.1,fun y v t x n=>b.2 y v t (a.2 y v t x n) n⟩
theorem BA{h h':Hp}(u:AN (fun _=>False) h h'):Kp h h':=⟨u.size,fun _ _ _ x _=>u.get x (fun z=>z)⟩
theorem Jd{h h':Hp}{S:Nat->Prop}(u:AN S h h')(hS:∀y,S y->y<h.size->∃a t,h[y]?=some (.cells a t (0,0))/\Tj t):Kp h h':=by
 refine⟨u.size,fun y a t x n=>u.get x fun z=>?_⟩
 obtain⟨a',t',e,w⟩:=hS y z (Ap x)
 rw [x]at e
 injection e with e
 injection e with _ e _
 exact n (e▸w)
theorem IU{h:Hp}{s:Value}{e sz n:Nat}{cells:List Value}(x:AR h s e sz n cells):∀y,blk s=some y->∃a,h[y]?=some (.cells a e (0,0)):=by
 intro y hy
 obtain⟨_,⟨rfl,_⟩|⟨b1,cap,rest,rfl,h1,h2,h3⟩⟩:=x
 ·cases hy
 ·cases hy;exact⟨_,h3⟩
section
variable{b:RW}{TB n0:Nat}{g:RG}{h h':Hp}
theorem PD.JO(I:PD b TB n0 g h){S:Nat->Prop}(u:AN S h h')(hS:∀y,S y->b.h0.size<=y/\(y<h.size->∃a t,h[y]?=some (.cells a t (0,0))/\t≠83/\t≠131/\t≠89/\t≠73/\t≠2)):PD b TB n0 g h':=by
 have ne:∀{y:Nat} {a:Array Value} {t:TypeId},h[y]?=some (.cells a t (0,0))->(t=83\/t=131\/t=89\/t=73\/t=2)->¬S y:=fun {y a t} hy ht hs=>by
  obtain⟨a',t',e,q1,q2,q3,q4,q5⟩:=(hS y hs).2 (Ap hy)
  rw [hy]at e
  injection e with e
  injection e with _ e _
  subst e
  rcases ht with z|z|z|z|z
  ·exact q1 z
  ·exact q2 z
  ·exact q3 z
  ·exact q4 z
  ·exact q5 z
 refine⟨I.up.over u (fun y hy=>(hS y hy).1),u.get I.row (ne I.row (.inl rfl)),I.IN.upd u fun y hy=>?_,u.get I.out (ne I.out (.inr (.inr (.inr (.inl rfl))))),fun j hj=>(I.NQ j hj).upd u fun y hy=>?_,I.inj,fun q hq=>?_,I.tok,I.nW,I.nB,I.nF,I.nV⟩
 ·obtain⟨a,e⟩:=IU I.IN y hy
  exact ne e (.inr (.inl rfl))
 ·obtain⟨a,e⟩:=IU (I.NQ j hj) y hy
  exact ne e (.inr (.inr (.inl rfl)))
 ·obtain⟨h1,l,h2⟩:=I.kept q hq
  refine⟨?_,l,h2⟩
  rw [h2]at h1⊢
  exact u.get h1 (ne h1 (.inr (.inr (.inr (.inr rfl)))))
theorem PD.parts(I:PD b TB n0 g h){S:Nat->Prop}{P:TypeId->Prop}(u:AN S h h')(hS:∀y,S y->b.h0.size<=y/\(y<h.size->∃a t,h[y]?=some (.cells a t (0,0))/\P t)):
  AN (fun _=>False) b.h0 h'/\(¬P 83->h'[b.Wd]?=some (Ns b TB g.fv g.wait (decide (n0<g.K.length))))/\(¬P 131->AR h' g.fv 131 16 g.K.length (g.K.flatMap E0))/\(¬P 73->h'[TB]?=some (.cells ((List.range b.c.nT).map g.tv).toArray 73 (0,0)))/\
  (¬P 89->∀j,j<b.c.nT->AR h' (g.tv j) 89 6 (g.T j).length ((g.T j).flatMap Ex))/\(¬P 2->∀q,q∈g.kept->h'[q.1]?=some q.2/\∃l,q.2=Cy l):=by
 have ne:∀{y:Nat} {a:Array Value} {t:TypeId},h[y]?=some (.cells a t (0,0))->¬P t->¬S y:=fun {y a t} hy ht hs=>by
  obtain⟨a',t',e,q⟩:=(hS y hs).2 (Ap hy)
  rw [hy]at e
  injection e with e
  injection e with _ e _
  subst e
  exact ht q
 refine⟨I.up.over u (fun y hy=>(hS y hy).1),fun p=>u.get I.row (ne I.row p),fun p=>I.IN.upd u fun y hy=>?_,fun p=>u.get I.out (ne I.out p),fun p j hj=>(I.NQ j hj).upd u fun y hy=>?_,fun p q hq=>?_⟩
 ·obtain⟨a,e⟩:=IU I.IN y hy
  exact ne e p
 ·obtain⟨a,e⟩:=IU (I.NQ j hj) y hy
  exact ne e p
 ·obtain⟨h1,l,h2⟩:=I.kept q hq
  refine⟨?_,l,h2⟩
  rw [h2]at h1⊢
  exact u.get h1 (ne h1 p)
theorem PD.A5(I:PD b TB n0 g h)(u:AN (fun _=>False) h h'):PD b TB n0 g h':=I.JO u fun _ z=>z.elim
end
section
variable{R:Rec}{nm:Nat->D5}{lL lW lY lV:Value}{h0 h h':Hp}{W:Nat}{F:List Int}{s:WS}{A:Type}{pf p:Pr A}{x i:Nat}{l:List Ev}{o:List A}
def T5(h:Hp)(h0:Hp)(S:Nat->Prop):Prop:=∀y,S y->h0.size<=y/\(y<h.size->∃a t,h[y]?=some (.cells a t (0,0))/\t≠146/\t≠134/\t≠4/\t≠2/\t≠183)
theorem Ik.JO(I:Ik R nm lL lW lY lV h0 W F s h){S:Nat->Prop}(u:AN S h h')(hS:T5 h h0 S):Ik R nm lL lW lY lV h0 W F s h':=by
 have ne:∀{y:Nat} {a:Array Value} {t:TypeId},h[y]?=some (.cells a t (0,0))->(t=146\/t=134\/t=4\/t=2)->¬S y:=fun {y a t} hy ht hs=>by
  obtain⟨a',t',e,q1,q2,q3,q4,q5⟩:=(hS y hs).2 (Ap hy)
  rw [hy]at e
  injection e with e
  injection e with _ e _
  subst e
  rcases ht with z|z|z|z
  ·exact q1 z
  ·exact q2 z
  ·exact q3 z
  ·exact q4 z
 have sl:∀{v:Value} {e sz n:Nat} {cells:List Value},AR h v e sz n cells->(e=146\/e=134\/e=4\/e=2)->AR h' v e sz n cells:=fun {v e sz n cells} z ht=>z.upd u fun y hy=>by
  obtain⟨a,q⟩:=IU z y hy
  exact ne q ht
 exact⟨I.up.over u (fun y hy=>(hS y hy).1),u.get I.row (ne I.row (.inl rfl)),sl I.IL (.inr (.inl rfl)),sl I.H2 (.inr (.inr (.inl rfl))),sl I.fst (.inr (.inr (.inr rfl))),sl I.Np (.inr (.inl rfl)),sl I.NR (.inr (.inr (.inr rfl))),I.nW,I.n1,I.n2,I.n3,I.n4,I.n5,I.a1,I.a2⟩
theorem E6.JO(a:E6 R nm lL lW lY lV h0 W s h){S:Nat->Prop}(u:AN S h h')(hS:T5 h h0 S):E6 R nm lL lW lY lV h0 W s h':=by
 obtain⟨q,I,N⟩:=a
 exact⟨q,I.JO u hS,N⟩
theorem VQ{out:Bool}{t:Nat}(hx:h[x]?=some (GD W i out t)){S:Nat->Prop}(u:AN S h h')(hS:T5 h h0 S):h'[x]?=some (GD W i out t):=u.get hx fun hs=>by
 obtain⟨a',t',e,q1,q2,q3,q4,q5⟩:=(hS x hs).2 (Ap hx)
 rw [hx]at e
 injection e with e
 injection e with _ e _
 exact q5 e.symm
theorem LQ.JO(w:LQ R nm lL lW lY lV h0 W s pf x i p l o h){S:Nat->Prop}(u:AN S h h')(hS:T5 h h0 S):LQ R nm lL lW lY lV h0 W s pf x i p l o h':=by
 obtain⟨a,⟨⟨t,h1,h2,h3⟩,g⟩,x0⟩:=w
 exact⟨a.JO u hS,⟨⟨t,h1,h2,VQ h3 u hS⟩,g⟩,x0⟩
theorem E6.pZ(a:E6 R nm lL lW lY lV h0 W s h){out:Bool}{t:Nat}(hx:h[x]?=some (GD W i out t)):∀y,WT s x y->∃c e,h[y]?=some (.cells c e (0,0))/\(e=183\/e=134\/e=4):=by
 obtain⟨q,I,-⟩:=a
 rintro y (rfl|hy|hy)
 ·exact⟨_,_,hx,.inl rfl⟩
 ·obtain⟨c,e⟩:=IU I.IL y hy
  exact⟨c,_,e,.inr (.inl rfl)⟩
 ·obtain⟨c,e⟩:=IU I.H2 y hy
  exact⟨c,_,e,.inr (.inr rfl)⟩
end
structure qp(b:RW)(Bh:WR)(x i:Nat)(h:Hp):Prop where
 all:E6 b.R b.nm b.lL b.lW b.lY b.lV b.h0 b.W b.s h
 x0:b.h0.size<=x
 at_:∃t,t<=b.R.log.length/\h[x]?=some (GD b.W i true t)/\(Bh.w=false->C3 b.R i t=[]/\∃r,(i,r)∈b.R.left)
structure fR(b:RW)(Bh:WR)(pf:Pr It)(x i:Nat)(p:PA)(g:RG)(h:Hp)(l:List Ev)(o:List It):Prop where
 w:LQ b.R b.nm b.lL b.lW b.lY b.lV b.h0 b.W b.s pf x i (Rp b.c.rq b.F p) l o h
 K:(B2 o g.K).K=Bh.K
 t:(g.T i).map TE.p++(B2 o g.K).t=Bh.t
 wt:(B2 o g.K).w=Bh.w
 kn:∀q s,It.kn q s∈o->(q,s)∈b.fs
structure TL where
 T:Nat->List TE
 L:List Nat
structure RT(b:RW)(TB n0 x i hd:Nat)(T0:TL)(pf:Pr It)(Bh:WR)(p:PA)(g:RG)(h:Hp):Prop where
 mem:PD b TB n0 g h
 Mw:∀j,j≠i->g.T j=T0.T j
 own:∀y,y∈T0.L->(∃a,h[y]?=some (.cells a 89 (0,0))/\a.size=6)/\(∀j,j<b.c.nT->¬blk (g.tv j)=some y)
 Jv:R1 b.fs g.K
 n0:n0<=g.K.length
 tl:Bh.t.length<=3000000
 lt:i<b.c.nT
 hd:h[hd]?=some (PR x i)
 st:(g.wait=false/\∃l o,fR b Bh pf x i p g h l o)\/(g.wait=Bh.w/\qp b Bh x i h/\g.K=Bh.K/\(g.T i).map TE.p=Bh.t)
section
variable{Γ:Type}{main:Bool}{S:Cp Γ}{δ:Ix Γ}{b:RW}{TB n0 x i hd:Nat}{T0:TL}{pf:Pr It}{Bh:WR}{p:PA}{k:Int->PA}{g:RG}{h h':Hp}
theorem RT.all(r:RT b TB n0 x i hd T0 pf Bh p g h):E6 b.R b.nm b.lL b.lW b.lY b.lV b.h0 b.W b.s h:=r.st.elim (fun⟨_,_,_,z⟩=>z.w.all) fun z=>z.2.1.all
theorem RT.A5(r:RT b TB n0 x i hd T0 pf Bh p g h)(u:AN (fun _=>False) h h'):RT b TB n0 x i hd T0 pf Bh p g h':=by
 refine⟨r.mem.A5 u,r.Mw,fun y hy=>⟨(r.own y hy).1.imp fun a z=>⟨u.get z.1 (fun z=>z),z.2⟩,(r.own y hy).2⟩,r.Jv,r.n0,r.tl,r.lt,u.get r.hd (fun z=>z),r.st.imp (fun⟨e,l,o,z⟩=>⟨e,l,o,z.w.A5 u,z.K,z.t,z.wt,z.kn⟩) fun⟨e,z,z2⟩=>⟨e,⟨z.all.A5 u,z.x0,?_⟩,z2⟩⟩
 obtain⟨t,h1,h2,h3⟩:=z.at_
 exact⟨t,h1,u.get h2 (fun z=>z),h3⟩
def Jc(b:RW)(Bh:WR)(x i:Nat)(g:RG)(h:Hp):Prop:=g.wait=Bh.w/\qp b Bh x i h/\g.K=Bh.K/\(g.T i).map TE.p=Bh.t
theorem RT.F6{p':PA}(r:RT b TB n0 x i hd T0 pf Bh p g h)(o:Jc b Bh x i g h):RT b TB n0 x i hd T0 pf Bh p' g h:=⟨r.mem,r.Mw,r.own,r.Jv,r.n0,r.tl,r.lt,r.hd,.inr o⟩
theorem RT.flag(r:RT b TB n0 x i hd T0 pf Bh p g h):∃f:Bool,AF h ⟨x,2,none⟩=some (.bool f)/\((f=false/\g.wait=false/\∃l o,fR b Bh pf x i p g h l o)\/(f=true/\Jc b Bh x i g h)):=by
 rcases r.st with⟨e,l,o,z⟩|⟨e,z,z2⟩
 ·exact⟨false,z.w.row,.inl ⟨rfl,e,l,o,z⟩⟩
 ·obtain⟨t,h1,h2,h3⟩:=z.at_
  exact⟨true,AD h2 rfl,.inr ⟨rfl,e,z,z2⟩⟩
theorem RT.cases(r:RT b TB n0 x i hd T0 pf Bh p g h):(AF h ⟨x,2,none⟩=some (.bool false)/\g.wait=false/\∃l o,fR b Bh pf x i p g h l o)\/(AF h ⟨x,2,none⟩=some (.bool true)/\Jc b Bh x i g h):=by
 obtain⟨f,h1,⟨rfl,h2⟩|⟨rfl,h2⟩⟩:=r.flag
 ·exact .inl ⟨h1,h2⟩
 ·exact .inr ⟨h1,h2⟩
theorem RT.X(r:RT b TB n0 x i hd T0 pf Bh p g h):AF h ⟨hd,0,none⟩=some (ptr x):=AD r.hd rfl
theorem fR.stuck(ok:b.Ok)(Db:PF b.R i pf){l:List Ev}{o:List It}(z:fR b Bh pf x i stuck g h l o):False:=by
 rcases z.w.cases with⟨v,l',e,-⟩|⟨-,-,e⟩
 ·obtain⟨t,ht,hl,-⟩:=z.w.at_.at_
  have hm:Co i (b.c.rq ⟨0,0,0,0⟩) v∈C3 b.R i t:=by rw [hl,e];simp
  have aS:Co i (b.c.rq ⟨0,0,0,0⟩) v∈b.R.log:=List.mem_of_mem_drop (SP.1 hm).1
  obtain⟨n,hn,he⟩:=JZ.1 aS
  obtain⟨w,i',r,cw,hr,e1,aj⟩:=ok.C.ok.chain.inv (Cl hn)
  rw [he]at e1
  have q1:(0:Int)=r.op:=congrArg Ev.op e1
  have q2:=hr.iM
  omega
 ·rcases Db with⟨r',k',hm,e'⟩|⟨-,e'⟩
  ·rw [e]at e'
   injection e' with e' _
   have q1:=(ok.C.ok.left _ hm).2.iM
   have q2:(0:Int)=r'.op:=congrArg Rq.op e'
   change 1<=r'.op at q1
   omega
  ·rw [e]at e';cases e'
theorem RT.grd(ok:b.Ok)(Db:PF b.R i pf){c:Prop}[Decidable c](r:RT b TB n0 x i hd T0 pf Bh (if c then p else stuck) g h):RT b TB n0 x i hd T0 pf Bh p g h/\(c\/Jc b Bh x i g h):=by
 by_cases hc:c
 ·rw [if_pos hc]at r;exact⟨r,.inl hc⟩
 ·rw [if_neg hc]at r
  rcases r.st with⟨e,l,o,z⟩|z
  ·exact(z.stuck ok Db).elim
  ·exact⟨r.F6 z,.inr z⟩
end
end
section
section
variable{Γ:Type}{main:Bool}{S:Cp Γ}{δ:Ix Γ}{h h':Hp}{W x i t:Nat}
theorem cy{n:D5}(hx:h[x]?=some (GD W i true t)):
  AY Tryz.prog main (Fb (Γ:=Γ)) 139 #[ptr x,JP n] h δ (CJ fun v h' AW=>AW=δ/\v= .int .i64 0/\AN (fun _=>False) h h'):=by
 refine CK (n:=9) ?_
 repeat(first|refine AI ?_|refine AH ?_|refine AE ?_|refine AV ?_|refine Aq ?_|refine DO ?_)
 refine C5 (vs:=DR n) rfl (C0 (by exact AG _ _)) ?_
 skip
 refine BV rfl (L1 (Ao _ hx)) ?_
 rintro _ h2 FJ ⟨rfl,rfl,u2⟩
 have uu:AN (fun _=>False) h h2:=(AN.push h (HL n)).trans u2
 refine IV (v:=.int .i64 0) Tryz.underlying38 rfl Tryz.underlying2 rfl rfl rfl rfl rfl ?_
 repeat(first|refine AE ?_|refine Aq ?_|refine AQ ?_)
 exact CL rfl ⟨rfl,rfl,uu⟩
theorem ZE{n:D5}{v:Int}(hx:h[x]?=some (GD W i true t)):
  AY Tryz.prog main (Fb (Γ:=Γ)) 191 #[ptr x,JP n,.int .i64 v] h δ (CJ fun _ h' AW=>AW=δ/\AN (fun _=>False) h h'):=by
 refine CK (n:=10) ?_
 repeat(first|refine AI ?_|refine AH ?_|refine AE ?_|refine AV ?_|refine DO ?_)
 refine C5 (vs:=DR n) rfl (C0 (by exact AG _ _)) ?_
 (repeat refine AV ?_)
 refine BV rfl (L1 (Ao _ hx)) ?_
 rintro _ h2 FJ ⟨rfl,rfl,u2⟩
 have uu:AN (fun _=>False) h h2:=(AN.push h (HL n)).trans u2
 (repeat refine AE ?_)
 exact FQ (Eu rfl ⟨rfl,uu⟩)
theorem j9{n:D5}{v c:Int}(hx:h[x]?=some (GD W i true t)):
  AY Tryz.prog main (Fb (Γ:=Γ)) 105 #[ptr x,JP n,.int .i64 v,.int .i64 c] h δ (CJ fun z h' AW=>AW=δ/\z= .bool false/\AN (fun _=>False) h h'):=by
 refine CK (n:=15) ?_
 repeat(first|refine AI ?_|refine AH ?_|refine AE ?_|refine AV ?_|refine Aq ?_|refine DO ?_)
 refine C5 (vs:=DR n) rfl (C0 (by exact AG _ _)) ?_
 (repeat refine AV ?_)
 refine BV rfl (L1 (Ao _ hx)) ?_
 rintro _ h2 FJ ⟨rfl,rfl,u2⟩
 have uu:AN (fun _=>False) h h2:=(AN.push h (HL n)).trans u2
 refine IV (v:=.bool false) Tryz.underlying38 rfl Tryz.underlying4 rfl rfl rfl rfl rfl ?_
 repeat(first|refine AE ?_|refine Aq ?_|refine AQ ?_)
 exact CL rfl ⟨rfl,rfl,uu⟩
theorem kD{n:D5}{v:Int}(hx:h[x]?=some (GD W i true t)):
  AY Tryz.prog main (Fb (Γ:=Γ)) 107 #[ptr x,JP n,.int .i64 v] h δ (CJ fun z h' AW=>AW=δ/\z= .int .i64 0/\AN (fun _=>False) h h'):=by
 refine CK (n:=12) ?_
 repeat(first|refine AI ?_|refine AH ?_|refine AE ?_|refine AV ?_|refine Aq ?_|refine DO ?_)
 refine C5 (vs:=DR n) rfl (C0 (by exact AG _ _)) ?_
 (repeat refine AV ?_)
 refine BV rfl (L1 (Ao _ hx)) ?_
 rintro _ h2 FJ ⟨rfl,rfl,u2⟩
 have uu:AN (fun _=>False) h h2:=(AN.push h (HL n)).trans u2
 refine IV (v:=.int .i64 0) Tryz.underlying38 rfl Tryz.underlying2 rfl rfl rfl rfl rfl ?_
 repeat(first|refine AE ?_|refine Aq ?_|refine AQ ?_)
 exact CL rfl ⟨rfl,rfl,uu⟩
end
section
variable{Γ:Type}{main:Bool}{S:Cp Γ}{δ:Ix Γ}{b:RW}{TB n0 x i hd:Nat}{T0:TL}{pf:Pr It}{Bh:WR}{p:PA}{k:Int->PA}{g:RG}{h h':Hp}{l l':List Ev}{o:List It}
theorem NX(a:E6 b.R b.nm b.lL b.lW b.lY b.lV b.h0 b.W b.s h){out:Bool}{t:Nat}(hx:h[x]?=some (GD b.W i out t))(x0:b.h0.size<=x):∀y,WT b.s x y->b.h0.size<=y/\(y<h.size->∃c e,h[y]?=some (.cells c e (0,0))/\e≠83/\e≠131/\e≠89/\e≠73/\e≠2):=fun y hy=>by
 refine⟨?_,fun _=>?_⟩
 ·rcases hy with rfl|hy
  ·exact x0
  ·exact a.ge y hy
 ·obtain⟨c,e,h1,h2⟩:=a.pZ hx y hy
  refine⟨c,e,h1,?_⟩
  rcases h2 with rfl|rfl|rfl <;> decide
theorem fU(a:E6 b.R b.nm b.lL b.lW b.lY b.lV b.h0 b.W b.s h){out:Bool}{t:Nat}(hx:h[x]?=some (GD b.W i out t))(u:AN (WT b.s x) h h'):Kp h h':=Jd u fun y hy _=>by
 obtain⟨c,e,h1,h2⟩:=a.pZ hx y hy
 exact⟨c,e,h1,h2.elim (fun z=>.inr (.inr (.inl z))) fun z=>z.elim .inl fun z=>.inr (.inl z)⟩
theorem OG:¬Tj 141:=by unfold Tj;decide
theorem RT.qA(rt:RT b TB n0 x i hd T0 pf Bh p g h){S:Nat->Prop}(u:AN S h h')(hS:∀y,S y->b.h0.size<=y/\(y<h.size->∃a t,h[y]?=some (.cells a t (0,0))/\t≠83/\t≠131/\t≠89/\t≠73/\t≠2)):∀y,y∈T0.L->(∃a,h'[y]?=some (.cells a 89 (0,0))/\a.size=6)/\(∀j,j<b.c.nT->¬blk (g.tv j)=some y):=fun y hy=>by
 obtain⟨⟨a,h1,h2⟩,h3⟩:=rt.own y hy
 refine⟨⟨a,u.get h1 fun hs=>?_,h2⟩,h3⟩
 obtain⟨a',t',e,q1,q2,q3,q4,q5⟩:=(hS y hs).2 (Ap h1)
 rw [h1]at e
 injection e with e
 injection e with _ e _
 exact q3 e.symm
theorem RT.Ax{r:Rq}{w:Int}(rt:RT b TB n0 x i hd T0 pf Bh (.step r k) g h)(z:fR b Bh pf x i (.step r k) g h l o)(hw:g.wait=false)(u:AN (WT b.s x) h h')(_e:l=Co i (b.c.rq r) w::l')(wi:LQ b.R b.nm b.lL b.lW b.lY b.lV b.h0 b.W b.s pf x i (Rp b.c.rq b.F (k w)) l' o h'):RT b TB n0 x i hd T0 pf Bh (k w) g h'/\Kp h h':=by
 obtain⟨t,h1,h2,h3⟩:=z.w.at_.at_
 have kp:=fU z.w.all h3 u
 exact⟨⟨rt.mem.JO u (NX z.w.all h3 z.w.x0),rt.Mw,rt.qA u (NX z.w.all h3 z.w.x0),rt.Jv,rt.n0,rt.tl,rt.lt,kp.2 _ _ _ rt.hd OG,.inl ⟨hw,l',o,wi,z.K,z.t,z.wt,z.kn⟩⟩,kp⟩
theorem RT.left{p':PA}(rt:RT b TB n0 x i hd T0 pf Bh p g h)(z:fR b Bh pf x i p g h l o)(hw:g.wait=false)(u:AN (WT b.s x) h h')(e:o=[])(wo:ap b.R b.nm b.lL b.lW b.lY b.lV b.h0 b.W b.s x i h'):RT b TB n0 x i hd T0 pf Bh p' g h'/\Kp h h'/\Jc b Bh x i g h':=by
 obtain⟨t,h1,h2,h3⟩:=z.w.at_.at_
 have kp:=fU z.w.all h3 u
 subst e
 obtain⟨t',q1,q2,q3⟩:=wo.out.at_
 have hk:g.K=Bh.K:=z.K
 have ht:(g.T i).map TE.p=Bh.t:=by have:=z.t;rwa [show(B2 [] g.K).t=[]from rfl,DI]at this
 have ho:Jc b Bh x i g h':=⟨hw.trans z.wt,⟨wo.all,wo.x0,t',q1,q3,fun _=>⟨q2,wo.out.left⟩⟩,hk,ht⟩
 exact⟨⟨rt.mem.JO u (NX z.w.all h3 z.w.x0),rt.Mw,rt.qA u (NX z.w.all h3 z.w.x0),rt.Jv,rt.n0,rt.tl,rt.lt,kp.2 _ _ _ rt.hd OG,.inr ho⟩,kp,ho⟩
theorem RT.Dl{p':PA}(rt:RT b TB n0 x i hd T0 pf Bh p g h)(z:Jc b Bh x i g h)(u:AN (fun _=>False) h h'):RT b TB n0 x i hd T0 pf Bh p' g h'/\Kp h h'/\Jc b Bh x i g h':=by
 have r2:=(rt.F6 (p':=p') z).A5 u
 obtain⟨e,z,z2⟩:=z
 obtain⟨t,h1,h2,h3⟩:=z.at_
 exact⟨r2,BA u,e,⟨z.all.A5 u,z.x0,t,h1,u.get h2 (fun z=>z),h3⟩,z2⟩
theorem SF(ok:b.Ok)(Db:PF b.R i pf){c:Nat}{n:D5}(r:RT b TB n0 x i hd T0 pf Bh (.step ⟨1,c,0,0⟩ k) g h)(hn:n=b.nm (b.c.blk c)):
  AY Tryz.prog main (Fb (Γ:=Γ)) 139 #[ptr x,JP n] h δ (CJ fun v h' AW=>AW=δ/\Kp h h'/\∃z,v= .int .i64 z/\RT b TB n0 x i hd T0 pf Bh (k z) g h'/\(AF h' ⟨x,2,none⟩=some (.bool true)->z=0)):=by
 rcases r.st with⟨hw,l,o,z⟩|z
 ·refine(ZK ok.C Db z.w hn).mono ?_
  rintro(v|ps) h' AW hq
  ·obtain⟨e,u,⟨w,l',e1,hv,wi⟩|⟨e1,hv,wo⟩⟩:=hq
   ·obtain⟨a,kp⟩:=r.Ax z hw u e1 wi
    exact⟨e,kp,w,hv,a,fun q=>by rw [wi.row]at q;cases q⟩
   ·obtain⟨a,kp,-⟩:=r.left (p':=k 0) z hw u e1 wo
    exact⟨e,kp,0,hv,a,fun _=>rfl⟩
  ·exact hq.elim
 ·obtain⟨t,h1,h2,h3⟩:=z.2.1.at_
  refine(cy h2).mono ?_
  rintro(v|ps) h' AW hq
  ·obtain⟨e,hv,u⟩:=hq
   obtain⟨a,kp,-⟩:=r.Dl (p':=k 0) z u
   exact⟨e,kp,0,hv,a,fun _=>rfl⟩
  ·exact hq.elim
theorem K2(ok:b.Ok)(Db:PF b.R i pf){c:Nat}{v:Int}{n:D5}(r:RT b TB n0 x i hd T0 pf Bh (.step ⟨2,c,v,0⟩ fun _=>p) g h)(hn:n=b.nm (b.c.blk c)):
  AY Tryz.prog main (Fb (Γ:=Γ)) 191 #[ptr x,JP n,.int .i64 v] h δ (CJ fun _ h' AW=>AW=δ/\Kp h h'/\RT b TB n0 x i hd T0 pf Bh p g h'):=by
 rcases r.st with⟨hw,l,o,z⟩|z
 ·refine(WJ ok.C Db z.w hn).mono ?_
  rintro(q|ps) h' AW hq
  ·obtain⟨e,u,⟨w,l',e1,hv,wi⟩|⟨e1,hv,wo⟩⟩:=hq
   ·obtain⟨a,kp⟩:=r.Ax z hw u e1 wi
    exact⟨e,kp,a⟩
   ·obtain⟨a,kp,-⟩:=r.left (p':=p) z hw u e1 wo
    exact⟨e,kp,a⟩
  ·exact hq.elim
 ·obtain⟨t,h1,h2,h3⟩:=z.2.1.at_
  refine(ZE h2).mono ?_
  rintro(q|ps) h' AW hq
  ·obtain⟨e,u⟩:=hq
   obtain⟨a,kp,-⟩:=r.Dl (p':=p) z u
   exact⟨e,kp,a⟩
  ·exact hq.elim
theorem bz(ok:b.Ok)(Db:PF b.R i pf){c:Nat}{v nw:Int}{n:D5}(r:RT b TB n0 x i hd T0 pf Bh (.step ⟨3,c,v,nw⟩ k) g h)(hn:n=b.nm (b.c.blk c)):
  AY Tryz.prog main (Fb (Γ:=Γ)) 105 #[ptr x,JP n,.int .i64 v,.int .i64 nw] h δ (CJ fun q h' AW=>AW=δ/\Kp h h'/\((q= .bool true/\RT b TB n0 x i hd T0 pf Bh (k v) g h'/\AF h' ⟨x,2,none⟩=some (.bool false))\/(q= .bool false/\∃z,z≠v/\RT b TB n0 x i hd T0 pf Bh (k z) g h'))):=by
 rcases r.st with⟨hw,l,o,z⟩|z
 ·refine(dB ok.C Db z.w hn).mono ?_
  rintro(q|ps) h' AW hq
  ·obtain⟨e,u,⟨w,l',e1,hv,wi⟩|⟨e1,hv,wo⟩⟩:=hq
   ·obtain⟨a,kp⟩:=r.Ax z hw u e1 wi
    by_cases mh:w=v
    ·subst mh
     exact⟨e,kp,.inl ⟨by rw [hv];simp,a,wi.row⟩⟩
    ·exact⟨e,kp,.inr ⟨by rw [hv];show Value.bool (decide (w=v))=_;rw [Gj mh],w,mh,a⟩⟩
   ·obtain⟨a,kp,-⟩:=r.left (p':=k (v+1)) z hw u e1 wo
    exact⟨e,kp,.inr ⟨hv,v+1,by omega,a⟩⟩
  ·exact hq.elim
 ·obtain⟨t,h1,h2,h3⟩:=z.2.1.at_
  refine(j9 h2).mono ?_
  rintro(q|ps) h' AW hq
  ·obtain⟨e,hv,u⟩:=hq
   obtain⟨a,kp,-⟩:=r.Dl (p':=k (v+1)) z u
   exact⟨e,kp,.inr ⟨hv,v+1,by omega,a⟩⟩
  ·exact hq.elim
theorem yP(ok:b.Ok)(Db:PF b.R i pf){c:Nat}{v:Int}{n:D5}(r:RT b TB n0 x i hd T0 pf Bh (.step ⟨4,c,v,0⟩ k) g h)(hn:n=b.nm (b.c.blk c)):
  AY Tryz.prog main (Fb (Γ:=Γ)) 107 #[ptr x,JP n,.int .i64 v] h δ (CJ fun q h' AW=>AW=δ/\Kp h h'/\∃z,q= .int .i64 (IntKind.i64.wrap (z+v))/\RT b TB n0 x i hd T0 pf Bh (k z) g h'):=by
 have e0:(0:Int)=IntKind.i64.wrap (-v+v):=by rw [show -v+v=0 by omega];rfl
 rcases r.st with⟨hw,l,o,z⟩|z
 ·refine(dC ok.C Db z.w hn).mono ?_
  rintro(q|ps) h' AW hq
  ·obtain⟨e,u,⟨w,l',e1,hv,wi⟩|⟨e1,hv,wo⟩⟩:=hq
   ·obtain⟨a,kp⟩:=r.Ax z hw u e1 wi
    exact⟨e,kp,w,hv,a⟩
   ·obtain⟨a,kp,-⟩:=r.left (p':=k (-v)) z hw u e1 wo
    exact⟨e,kp,-v,by rw [hv,<-e0],a⟩
  ·exact hq.elim
 ·obtain⟨t,h1,h2,h3⟩:=z.2.1.at_
  refine(kD h2).mono ?_
  rintro(q|ps) h' AW hq
  ·obtain⟨e,hv,u⟩:=hq
   obtain⟨a,kp,-⟩:=r.Dl (p':=k (-v)) z u
   exact⟨e,kp,-v,by rw [hv,<-e0],a⟩
  ·exact hq.elim
end
end
section
section
variable{Γ:Type}{main:Bool}{S:Cp Γ}{δ:Ix Γ}{h h':Hp}
theorem QQ{k id:Int}(hk:0<=k/\k<=100)(hi:0<=id/\id<=1000000):AY Tryz.prog main S 49 #[.int .i64 k,.int .i64 id] h δ (CJ (Gb (.int .i64 (k*1000000+id)) h δ)):=by
 refine CK (n:=9) ?_
 repeat(first|refine AI ?_|refine AH ?_|refine AE ?_|refine AV ?_|refine Aq ?_|refine BR (kd:=.i64) rfl (i64_in (by omega) (by omega)) ?_|refine tA (kd:=.i64) rfl rfl rfl rfl (i64_in (by omega) (by omega)) ?_|refine AQ ?_)
 exact DQ El
theorem DX{k id p:Int}(hk:0<=k/\k<=100)(hi:0<=id/\id<=1000000)(hS:∀o,¬S.still δ.g ⟨h.size,o,none⟩):AY Tryz.prog main S 51 #[.int .i64 k,.int .i64 id,.int .i64 p] h δ (CJ fun w h' AW=>AW=δ/\w=JP (k*1000000+id,p)/\AN (fun _=>False) h h'):=by
 refine CK (n:=12) ?_
 repeat(first|refine AI ?_|refine AH ?_|refine AE ?_|refine AV ?_|refine Cn ?_)
 refine Bx rfl (QQ hk hi) ?_
 (repeat refine AV ?_)
 refine Ep (cells:=#[.int .i64 (k*1000000+id),.int .i64 p]) ?_
 refine ET (AG h _) rfl rfl rfl rfl (by simp [OneCell]) (by simp [OneCell]) hS ?_
 rw [CC]
 repeat(first|refine AE ?_|refine AQ ?_)
 exact BD (vs:=DR (k*1000000+id,p)) rfl rfl rfl (C0 (by exact AG _ _)) ⟨rfl,rfl,AN.push _ _⟩
theorem VX{id:Int}(hi:0<=id/\id<=1000000):AY Tryz.prog main S 190 #[.int .i64 id] h δ (CJ (Gb (.int .i64 (2000000+id)) h δ)):=by
 refine CK (n:=5) ?_
 repeat(first|refine AI ?_|refine AH ?_|refine AE ?_|refine AV ?_|refine Aq ?_)
 refine Bx rfl (QQ ⟨by omega,by omega⟩ hi) ?_
 rw [show(2:Int)*1000000=2000000 by omega]
 repeat(first|refine AE ?_|refine Aq ?_|refine AQ ?_)
 exact DQ El
theorem Nc{b:Bool}:AY Tryz.prog main S 143 #[.bool b] h δ (CJ (Gb (.int .i64 (if b then 1 else 0)) h δ)):=by
 refine CK (n:=4) ?_
 cases b with
 | true=>
  repeat(first|refine AI ?_|refine AH ?_|refine AE ?_|refine AV ?_|refine Aq ?_|refine BU ?_|refine AQ ?_)
  exact DQ El
 | false=>
  repeat(first|refine AI ?_|refine AH ?_|refine AE ?_|refine Ar ?_|refine AV ?_|refine Aq ?_|refine Am ?_|refine AQ ?_)
  exact DQ El
theorem dV{v d:Int}(hv:0<=v/\v<=4611686018427387904)(hd:0<=d):AY Tryz.prog main S 192 #[.int .i64 v,.int .i64 d] h δ (CJ (Gb (.int .i64 (GF v d)) h δ)):=by
 refine CK (n:=12) ?_
 unfold GF
 by_cases h1:4611686018427387904-v<d
 ·rw [if_pos h1,show v+(4611686018427387904-v)=4611686018427387904 by omega]
  repeat(first|refine AI ?_|refine AH ?_|refine AE ?_|refine AV ?_|refine Aq ?_|refine Bs ?_|refine SM (kd:=.i64) rfl rfl rfl rfl (i64_in (by omega) (by omega)) ?_|refine BU ?_|refine AQ ?_)
  exact DQ El
 ·rw [if_neg h1]
  repeat(first|refine AI ?_|refine AH ?_|refine AE ?_|refine Ar ?_|refine AV ?_|refine Aq ?_|refine Bg ?_|refine BR (kd:=.i64) rfl (i64_in (by omega) (by omega)) ?_|refine SM (kd:=.i64) rfl rfl rfl rfl (i64_in (by omega) (by omega)) ?_|refine Am ?_|refine AQ ?_)
  exact DQ El
abbrev Kw(s:Int):List Value:=[.int .i64 3,.int .i64 0,.int .i64 s,.int .i64 0,.int .i64 0,.int .i64 0,.int .i64 0,AK]
abbrev WA:List Value:=[.int .i64 0,.int .i64 0,.int .i64 0,.int .i64 0,.int .i64 0,.int .i64 0,.int .i64 0,AK]
theorem Zg{s:Int}(hS:∀o,¬S.still δ.g ⟨h.size,o,none⟩):AY Tryz.prog main S 142 #[.int .i64 s] h δ (CJ fun w h' AW=>AW=δ/\w= .agg (Kw s).toArray/\AN (fun _=>False) h h'):=by
 refine CK (n:=5) ?_
 repeat(first|refine AI ?_|refine AH ?_|refine AE ?_|refine AV ?_|refine Cn ?_)
 refine Ep (cells:=(Kw s).toArray) ?_
 refine Bz (vs:=Kw s) rfl rfl (by simp [Kw,OneCell]) (A3 (c:=WA) (AG _ _) rfl hS) ?_
 rw [Au (c:=WA) (vs:=Kw s) (AG _ _) rfl]
 repeat(first|refine AE ?_|refine AQ ?_)
 refine BD (vs:=Kw s) rfl rfl rfl (C0 (by exact AJ (AG _ _))) ⟨rfl,rfl,?_⟩
 rw [CC]
 exact AN.push _ _
theorem WZ{e:Int}(hS:∀o,¬S.still δ.g ⟨h.size,o,none⟩):AY Tryz.prog main S 174 #[.int .i64 e] h δ (CJ fun w h' AW=>AW=δ/\w= .agg (Kz e).toArray/\AN (fun _=>False) h h'):=by
 refine CK (n:=8) ?_
 by_cases he:e=0
 ·subst he
  rw [GY]
  repeat(first|refine AI ?_|refine AH ?_|refine AE ?_|refine AV ?_|refine Bs ?_|refine Cn ?_|refine BU ?_)
  refine Ep (cells:=#[.int .i64 0,.int .i64 0,AK]) ?_
  refine Bz (vs:=[.int .i64 0,.int .i64 0,AK]) rfl rfl (by simp [OneCell]) (A3 (c:=[.int .i64 0,.int .i64 0,AK]) (AG _ _) rfl hS) ?_
  rw [Au (c:=[.int .i64 0,.int .i64 0,AK]) (vs:=[.int .i64 0,.int .i64 0,AK]) (AG _ _) rfl]
  repeat(first|refine AE ?_|refine AQ ?_)
  refine BD (vs:=[.int .i64 0,.int .i64 0,AK]) rfl rfl rfl (C0 (by exact AJ (AG _ _))) ⟨rfl,rfl,?_⟩
  rw [CC]
  exact AN.push _ _
 ·rw [Jj he]
  repeat(first|refine AI ?_|refine AH ?_|refine AE ?_|refine Ar ?_|refine AV ?_|refine Bg ?_|refine Cn ?_|refine Am ?_)
  refine Ep (cells:=#[.int .i64 7,.int .i64 e,AK]) ?_
  refine Bz (vs:=[.int .i64 7,.int .i64 e,AK]) rfl rfl (by simp [OneCell]) (A3 (c:=[.int .i64 0,.int .i64 0,AK]) (AG _ _) rfl hS) ?_
  rw [Au (c:=[.int .i64 0,.int .i64 0,AK]) (vs:=[.int .i64 7,.int .i64 e,AK]) (AG _ _) rfl]
  repeat(first|refine AE ?_|refine AQ ?_)
  refine BD (vs:=[.int .i64 7,.int .i64 e,AK]) rfl rfl rfl (C0 (by exact AJ (AG _ _))) ⟨rfl,rfl,?_⟩
  rw [CC]
  exact AN.push _ _
theorem Dv{va:Option Addr}{vl vc:Nat}{e:Int}(hS:∀b,h.size<=b->∀o,¬S.still δ.g ⟨b,o,none⟩):AY Tryz.prog main S 122 #[.int .i64 e,.slice va vl vc] h δ (CJ fun w h' AW=>AW=δ/\w=PO (.slice va vl vc) e/\AN (fun _=>False) h h'):=by
 refine CK (n:=9) ?_
 repeat(first|refine AI ?_|refine AH ?_|refine AE ?_|refine AV ?_|refine Cn ?_)
 refine BV rfl (WZ (hS _ (by simp))) ?_
 rintro _ h2 FJ ⟨rfl,rfl,u2⟩
 have g2:=u2.get (AG h (A9 z6)) (fun x=>x)
 by_cases he:e=0
 ·subst he
  rw [GY]
  skip
  refine Ep (cells:=([.int .i64 0,.int .i64 0,.slice va vl vc,.int .i64 0,.int .i64 0,AK]).toArray) ?_
  refine Bz (vs:=[.int .i64 0,.int .i64 0,.slice va vl vc,.int .i64 0,.int .i64 0,AK]) rfl rfl (by simp [OneCell]) (A3 (c:=z6) g2 rfl (hS _ (Nat.le_refl _))) ?_
  rw [Au (c:=z6) (vs:=[.int .i64 0,.int .i64 0,.slice va vl vc,.int .i64 0,.int .i64 0,AK]) g2 rfl]
  repeat(first|refine AE ?_|refine AQ ?_)
  refine BD (vs:=[.int .i64 0,.int .i64 0,.slice va vl vc,.int .i64 0,.int .i64 0,AK]) rfl rfl rfl (C0 (by exact AJ g2)) ⟨rfl,by unfold PO Aw;rw [GY];rfl,?_⟩
  exact A2 ((AN.push (T:=fun _=>False) h (A9 z6)).trans u2) (AN.set (T:=fun b=>b=h.size) _ _ _ rfl) (fun c hc e=>by omega)
 ·rw [Jj he]
  skip
  refine Ep (cells:=([.int .i64 0,.int .i64 0,.slice va vl vc,.int .i64 7,.int .i64 e,AK]).toArray) ?_
  refine Bz (vs:=[.int .i64 0,.int .i64 0,.slice va vl vc,.int .i64 7,.int .i64 e,AK]) rfl rfl (by simp [OneCell]) (A3 (c:=z6) g2 rfl (hS _ (Nat.le_refl _))) ?_
  rw [Au (c:=z6) (vs:=[.int .i64 0,.int .i64 0,.slice va vl vc,.int .i64 7,.int .i64 e,AK]) g2 rfl]
  repeat(first|refine AE ?_|refine AQ ?_)
  refine BD (vs:=[.int .i64 0,.int .i64 0,.slice va vl vc,.int .i64 7,.int .i64 e,AK]) rfl rfl rfl (C0 (by exact AJ g2)) ⟨rfl,by unfold PO Aw;rw [(Jj he)];rfl,?_⟩
  exact A2 ((AN.push (T:=fun _=>False) h (A9 z6)).trans u2) (AN.set (T:=fun b=>b=h.size) _ _ _ rfl) (fun c hc e=>by omega)
end
end
section
theorem MY(x:FK×Nat):(E0 x).length=16:=rfl
theorem Yq{q:FK}{s:Nat}:∀{K:Fs} {n:Nat},(∀(m:Nat) (x:FK×Nat),m<n->K[m]?=some x->x.1≠q)->K[n]?=some (q,s)->Eb K q=some s
 | [],_,_,h=>by cases h
 | (k,s')::K,0,_,h=>by
  injection (show some (k,s')=some (q,s)from h)with h
  cases h
  exact if_pos rfl
 | (k,s')::K,n+1,h0,h=>by
  show(if k=q then some s' else Eb K q)=some s
  rw [if_neg (h0 0 (k,s') (by omega) rfl)]
  exact Yq (fun m x hm hx=>h0 (m+1) x (by omega) hx) h
theorem Yp{q:FK}:∀{K:Fs},(∀(m:Nat) (x:FK×Nat),K[m]?=some x->x.1≠q)->Eb K q=none
 | [],_=>rfl
 | (k,s')::K,h=>by
  show(if k=q then some s' else Eb K q)=none
  rw [if_neg (h 0 (k,s') rfl)]
  exact Yp fun m x hx=>h (m+1) x hx
section
variable{Γ:Type}{main:Bool}{S:Cp Γ}{δ:Ix Γ}{b:RW}{TB n0 x i hd:Nat}{T0:TL}{pf:Pr It}{Bh:WR}{p:PA}{k:Int->PA}{g:RG}{h h':Hp}{l l':List Ev}{o:List It}
theorem Sm(I:PD b TB n0 g h){c j:Nat}{r:Int}(hK:g.K.length<=32768):AY Tryz.prog main S 77 #[ptr b.Wd,.int .i64 (2000000+(c:Int)),.int .i64 (j:Int),.int .i64 r] h δ (CJ fun v h' AW=>AW=δ/\h'=h/\((v= .int .i64 (-1)/\Eb g.K (c,j,r)=none)\/∃(n s:Nat),v= .int .i64 n/\g.K[n]?=some ((c,j,r),s)/\Eb g.K (c,j,r)=some s)):=by
 obtain⟨aF,kF,eF⟩:=I.IN.val
 have Tf:AF h ⟨b.Wd,15,none⟩=some g.fv:=AD I.row rfl
 rw [eF]at Tf
 refine CK (n:=54) ?_
 repeat(first|refine AI ?_|refine AH ?_|refine AE ?_|refine Ak ?_|refine Aq ?_)
 refine B1 (fun q:Nat=>[(9,.int .i64 q),(0,ptr b.Wd),(1,.int .i64 (2000000+(c:Int))),(2,.int .i64 (j:Int)),(3,.int .i64 r)]) (fun q h' AW=>AW=δ/\h'=h/\q<=g.K.length/\∀m y,m<q->g.K[m]?=some y->y.1≠(c,j,r)) (fun q=>g.K.length-q) 0 ⟨rfl,rfl,rfl,rfl,rfl,trivial⟩ ⟨rfl,rfl,Bv _,fun m y hm=>absurd hm (QB _)⟩ ?_
 rintro q h1 H0 ⟨rfl,rfl,hq,G7⟩ again
 by_cases CO:q<g.K.length
 ·obtain⟨⟨⟨c',j',r'⟩,s'⟩,hy⟩:∃y,g.K[q]?=some y:=⟨_,Cl CO⟩
  have IN:=I.IN
  rw [eF]at IN
  obtain⟨bF,ea,A0,-⟩:=Bt MY IN hy
  subst ea
  have f0:AF h1 ⟨bF,0+q*16,none⟩=some (.int .i64 (2000000+(c':Int))):=A0 0 _ rfl
  have f1:AF h1 ⟨bF,0+q*16+1,none⟩=some (.int .i64 (j':Int)):=A0 1 _ rfl
  have f2:AF h1 ⟨bF,0+q*16+2,none⟩=some (.int .i64 r'):=A0 2 _ rfl
  have ji:((c',j',r'):FK)≠(c,j,r)->∀m y,m<q+1->g.K[m]?=some y->y.1≠(c,j,r):=fun B7 m y hm w6=>by
   by_cases e:m=q
   ·subst e;rw [hy]at w6;cases w6;exact B7
   ·exact G7 m y (by omega) w6
  clear A0 IN
  by_cases e1:c'=c
  ·subst e1
   by_cases e2:j'=j
   ·subst e2
    by_cases e3:r'=r
    ·subst e3
     repeat(first|refine AI ?_|refine AH ?_|refine AE ?_|refine Ar ?_|refine Ak ?_|refine AV ?_|refine Aq ?_|refine Bc ?_|refine Az ?_|refine Bl ?_|refine Bs ?_|refine BN ?_|refine Cd ?_|refine BU ?_|refine AQ ?_|refine Av rfl (by assumption) ?_)
     exact CL rfl ⟨rfl,rfl,.inr ⟨q,s',rfl,hy,Yq G7 hy⟩⟩
    ·have g1:=ji fun z=>e3 (by cases z;rfl)
     repeat(first|refine AI ?_|refine AH ?_|refine AE ?_|refine Ar ?_|refine Ak ?_|refine Bb ?_|refine AV ?_|refine Aq ?_|refine Bc ?_|refine Az ?_|refine Bl ?_|refine Bs ?_|refine Bg ?_|refine BR (kd:=.i64) rfl (i64_in (by omega) (by omega)) ?_|refine BN ?_|refine Cd ?_|refine BU ?_|refine Am ?_|refine Av rfl (by assumption) ?_)
     exact Ah (again (q+1) _ _ (by omega) ⟨rfl,rfl,by omega,g1⟩) ⟨rfl,rfl,rfl,rfl,rfl,trivial⟩
   ·have g1:=ji fun z=>e2 (by cases z;rfl)
    repeat(first|refine AI ?_|refine AH ?_|refine AE ?_|refine Ar ?_|refine Ak ?_|refine Bb ?_|refine AV ?_|refine Aq ?_|refine Bc ?_|refine Az ?_|refine CW ?_|refine Bl ?_|refine Bd ?_|refine Bs ?_|refine Bg ?_|refine BR (kd:=.i64) rfl (i64_in (by omega) (by omega)) ?_|refine BN ?_|refine Cd ?_|refine BU ?_|refine Am ?_|refine Av rfl (by assumption) ?_)
    exact Ah (again (q+1) _ _ (by omega) ⟨rfl,rfl,by omega,g1⟩) ⟨rfl,rfl,rfl,rfl,rfl,trivial⟩
  ·have g1:=ji fun z=>e1 (by cases z;rfl)
   repeat(first|refine AI ?_|refine AH ?_|refine AE ?_|refine Ar ?_|refine Ak ?_|refine Bb ?_|refine AV ?_|refine Aq ?_|refine Bc ?_|refine Az ?_|refine CW ?_|refine Bd ?_|refine Bs ?_|refine Bg ?_|refine BR (kd:=.i64) rfl (i64_in (by omega) (by omega)) ?_|refine BN ?_|refine Cd ?_|refine BU ?_|refine Am ?_|refine Av rfl (by assumption) ?_)
   exact Ah (again (q+1) _ _ (by omega) ⟨rfl,rfl,by omega,g1⟩) ⟨rfl,rfl,rfl,rfl,rfl,trivial⟩
 ·obtain rfl:q=g.K.length:=by omega
  have g1:Eb g.K (c,j,r)=none:=Yp fun m y hy=>G7 m y (Gv.1 hy).1 hy
  repeat(first|refine AI ?_|refine AH ?_|refine AE ?_|refine AV ?_|refine Aq ?_|refine Bc ?_|refine Az ?_|refine Bg ?_|refine BN ?_|refine Am ?_|refine AQ ?_|refine B8 ?_|refine Av rfl (by assumption) ?_)
  exact CL rfl ⟨rfl,rfl,.inl ⟨rfl,g1⟩⟩
end
end
end Go.Proofs.YtfkalocplonkiaaGreat
