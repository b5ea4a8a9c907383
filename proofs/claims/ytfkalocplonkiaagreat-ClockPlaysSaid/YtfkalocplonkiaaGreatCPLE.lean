/- Steps of the walk and of the plain law (CpI to ChkB). Conditions: as each lemma says. -/
import Derived.Test.YtfkalocplonkiaaGreatCPLD
set_option linter.unusedSectionVars false
set_option linter.unusedVariables false
set_option linter.unusedSimpArgs false
set_option maxHeartbeats 8000000
set_option maxRecDepth 8000
namespace Go.Proofs.YtfkalocplonkiaaGreat
open Go Go.TJ Go.Conc Go.Proofs
section
theorem Yy{Γ:Type}{P:Program}{main:Bool}{S:Cp Γ}{f:FuncId}{n:Nat}{ops:Array Oper}{l:List Oper}{k:List Item}{env:Env}{ds:List Deferred}{h:Hp}{δ:Ix Γ}{R:Cv Γ}{d:Nat}{ty:TypeId}{pos:String}{af:Array Edge}{g:Option (Nat×Bool)}{t xt:TypeId}{x:Operand}{v:Value}{dd:TypeDesc}(hu:P.underlying t=some dd)(hw:Al ops env g=some true)(hd:Nat.blt d n=true)(hx:ev env x=some (.iface t v))(B7:∀ms,dd≠ .interface ms)
  (hn:ER P main S f n ops l k ((d,.tuple #[v,.bool true])::env) ds h δ R):ER P main S f n ops (⟨some d,.typeAssert x xt t true,ty,pos,af,g⟩::l) k env ds h δ R:=
 DW hw hd (fun ρ Q X Aa hq=>by
  show Aj P S (Instr.typeAssert (ρ x) xt t true >>= fun v=>pure (.value v)) h δ Q X
  rw [Aa x _ hx]
  refine AM _ _ _ _ _ _ ?_
  unfold Instr.typeAssert
  refine An hu ?_
  cases dd <;> first|exact absurd rfl (B7 _)|(dsimp only;rw [if_pos rfl];exact hq)) hn
theorem Yx{Γ:Type}{P:Program}{main:Bool}{S:Cp Γ}{f:FuncId}{n:Nat}{ops:Array Oper}{l:List Oper}{k:List Item}{env:Env}{ds:List Deferred}{h:Hp}{δ:Ix Γ}{R:Cv Γ}{d:Nat}{ty:TypeId}{pos:String}{af:Array Edge}{g:Option (Nat×Bool)}{t xt:TypeId}{x:Operand}{z:Value}{dd:TypeDesc}{sz C9:Nat}[hi:Cw P t sz C9 z](hu:P.underlying t=some dd)(hw:Al ops env g=some true)(hd:Nat.blt d n=true)(hx:ev env x=some .nilIface)(B7:∀ms,dd≠ .interface ms)
  (hn:ER P main S f n ops l k ((d,.tuple #[z,.bool false])::env) ds h δ R):ER P main S f n ops (⟨some d,.typeAssert x xt t true,ty,pos,af,g⟩::l) k env ds h δ R:=
 DW hw hd (fun ρ Q X Aa hq=>by
  obtain⟨inf,NA,W9,fB,Xb⟩:=hi.get
  show Aj P S (Instr.typeAssert (ρ x) xt t true >>= fun v=>pure (.value v)) h δ Q X
  rw [Aa x _ hx]
  refine AM _ _ _ _ _ _ ?_
  unfold Instr.typeAssert
  refine An hu ?_
  cases dd <;> first|exact absurd rfl (B7 _)|exact Cf NA Xb hq) hn
def Kz(e:Int):List Value:=if e=0 then [.int .i64 0,.int .i64 0,AK]else [.int .i64 7,.int .i64 e,AK]
def qf(e:Int):Value:=.iface 52 (.int .i64 e)
section
variable{Γ:Type}{main:Bool}{S:Cp Γ}{h:Hp}{δ:Ix Γ}
theorem A3{y m:Nat}{c:List Value}{e:TypeId}(hy:h[y]?=some (.cells c.toArray e (0,0)))(hm:c.length=m)(hS:∀o,¬S.still δ.g ⟨y,o,none⟩):∀j,j<m->(∃u,AF h ⟨y,0+j,none⟩=some u)/\Bf h ⟨y,0+j,none⟩=false/\¬S.still δ.g ⟨y,0+j,none⟩:=fun j hj=>by
 refine⟨?_,AS hy,hS _⟩
 have Dm:j<c.length:=by omega
 exact⟨c[j],by rw [Nat.zero_add];exact AD hy (by simp [Dm])⟩
theorem KC(hS:∀o,¬S.still δ.g ⟨h.size,o,none⟩):AY Tryz.prog main S 35 #[.nilIface] h δ (CJ fun w h' AW=>w= .agg (Kz 0).toArray/\AN (fun _=>False) h h'/\AW=δ):=by
 refine CK (n:=15) ?_
 repeat(first|refine AI ?_|refine AH ?_|refine AE ?_|refine AV ?_|refine Cn ?_)
 refine Yx (by rfl) rfl rfl rfl (fun _ z=>by cases z) ?_
 repeat(first|refine AI ?_|refine AH ?_|refine AE ?_|refine AV ?_|refine Aq ?_|refine B9 ?_|refine Eo ?_|refine BU ?_)
 refine Cr (cells:=([.int .i64 0,.int .i64 0,AK]).toArray) rfl rfl rfl rfl ?_
 refine Bz (vs:=[.int .i64 0,.int .i64 0,AK]) rfl rfl (by simp [OneCell]) (A3 (c:=[.int .i64 0,.int .i64 0,AK]) (AG _ _) rfl hS) ?_
 rw [Au (c:=[.int .i64 0,.int .i64 0,AK]) (vs:=[.int .i64 0,.int .i64 0,AK]) (AG _ _) rfl]
 repeat(first|refine AE ?_|refine AQ ?_)
 refine BD (vs:=[.int .i64 0,.int .i64 0,AK]) rfl rfl rfl (C0 (by exact AJ (AG _ _))) ⟨rfl,?_,rfl⟩
 rw [CC]
 exact AN.push _ _
theorem Wt{e:Int}(he:e≠0)(hS:∀o,¬S.still δ.g ⟨h.size,o,none⟩):AY Tryz.prog main S 35 #[qf e] h δ (CJ fun w h' AW=>w= .agg (Kz e).toArray/\AN (fun _=>False) h h'/\AW=δ):=by
 have e9:Kz e=[.int .i64 7,.int .i64 e,AK]:=if_neg he
 rw [e9]
 refine CK (n:=15) ?_
 repeat(first|refine AI ?_|refine AH ?_|refine AE ?_|refine AV ?_|refine Cn ?_)
 refine Yy (by rfl) rfl rfl rfl (fun _ z=>by cases z) ?_
 repeat(first|refine AI ?_|refine AH ?_|refine AE ?_|refine Ar ?_|refine AV ?_|refine Aq ?_|refine B9 ?_|refine Eo ?_|refine Am ?_)
 refine Cr (cells:=([.int .i64 7,.int .i64 e,AK]).toArray) rfl rfl rfl rfl ?_
 refine Bz (vs:=[.int .i64 7,.int .i64 e,AK]) rfl rfl (by simp [OneCell]) (A3 (c:=[.int .i64 0,.int .i64 0,AK]) (AG _ _) rfl hS) ?_
 rw [Au (c:=[.int .i64 0,.int .i64 0,AK]) (vs:=[.int .i64 7,.int .i64 e,AK]) (AG _ _) rfl]
 repeat(first|refine AE ?_|refine AQ ?_)
 refine BD (vs:=[.int .i64 7,.int .i64 e,AK]) rfl rfl rfl (C0 (by exact AJ (AG _ _))) ⟨rfl,?_,rfl⟩
 rw [CC]
 exact AN.push _ _
def Aw(vv:Value)(e:Int):List Value:=[.int .i64 0,.int .i64 0,vv]++Kz e
def PO(vv:Value)(e:Int):Value:=.agg (Aw vv e).toArray
abbrev A9(l:List Value):Obj:=.cells l.toArray 89 (0,0)
def z6:List Value:=[.int .i64 0,.int .i64 0,AK,.int .i64 0,.int .i64 0,AK]
theorem GY:Kz 0=[.int .i64 0,.int .i64 0,AK]:=if_pos rfl
theorem Jj{e:Int}(he:e≠0):Kz e=[.int .i64 7,.int .i64 e,AK]:=if_neg he
theorem Eg{va:Option Addr}{vl vc:Nat}(hS:∀b,h.size<=b->∀o,¬S.still δ.g ⟨b,o,none⟩):AY Tryz.prog main S 67 #[.nilIface,.slice va vl vc] h δ (CJ fun w h' AW=>w=PO (.slice va vl vc) 0/\AN (fun _=>False) h h'/\AW=δ):=by
 refine CK (n:=21) ?_
 repeat(first|refine AI ?_|refine AH ?_|refine AE ?_|refine AV ?_|refine Cn ?_)
 refine Yx (by rfl) rfl rfl rfl (fun _ z=>by cases z) ?_
 repeat(first|refine AI ?_|refine AH ?_|refine AE ?_|refine Ar ?_|refine AV ?_|refine Aq ?_|refine CW ?_|refine Bd ?_|refine Eo ?_|refine Am ?_)
 refine BV rfl (KC (hS _ (by simp))) ?_
 rintro _ h2 FJ ⟨rfl,u2,rfl⟩
 have g2:=u2.get (AG h (A9 z6)) (fun x=>x)
 rw [GY]
 skip
 refine Ep (cells:=([.int .i64 0,.int .i64 0,.slice va vl vc,.int .i64 0,.int .i64 0,AK]).toArray) ?_
 refine Bz (vs:=[.int .i64 0,.int .i64 0,.slice va vl vc,.int .i64 0,.int .i64 0,AK]) rfl rfl (by simp [OneCell]) (A3 (c:=z6) g2 rfl (hS _ (Nat.le_refl _))) ?_
 rw [Au (c:=z6) (vs:=[.int .i64 0,.int .i64 0,.slice va vl vc,.int .i64 0,.int .i64 0,AK]) g2 rfl]
 repeat(first|refine AE ?_|refine AQ ?_)
 refine BD (vs:=[.int .i64 0,.int .i64 0,.slice va vl vc,.int .i64 0,.int .i64 0,AK]) rfl rfl rfl (C0 (by exact AJ g2)) ⟨by unfold PO Aw;rw [GY];rfl,?_,rfl⟩
 exact A2 ((AN.push (T:=fun _=>False) h (A9 z6)).trans u2) (AN.set (T:=fun b=>b=h.size) _ _ _ rfl) (fun c hc e=>by omega)
theorem LK{va:Option Addr}{vl vc:Nat}{e:Int}(hS:∀b,h.size<=b->∀o,¬S.still δ.g ⟨b,o,none⟩):AY Tryz.prog main S 67 #[qf e,.slice va vl vc] h δ (CJ fun w h' AW=>w=PO (.slice va vl vc) e/\AN (fun _=>False) h h'/\AW=δ):=by
 refine CK (n:=21) ?_
 repeat(first|refine AI ?_|refine AH ?_|refine AE ?_|refine AV ?_|refine Cn ?_)
 refine Yy (by rfl) rfl rfl rfl (fun _ z=>by cases z) ?_
 by_cases he:e=0
 ·subst he
  repeat(first|refine AI ?_|refine AH ?_|refine AE ?_|refine AV ?_|refine Aq ?_|refine Bl ?_|refine Eo ?_|refine Bs ?_|refine BU ?_)
  refine BV rfl (KC (hS _ (by simp))) ?_
  rintro _ h2 FJ ⟨rfl,u2,rfl⟩
  have g2:=u2.get (AG h (A9 z6)) (fun x=>x)
  rw [GY]
  skip
  refine Ep (cells:=([.int .i64 0,.int .i64 0,.slice va vl vc,.int .i64 0,.int .i64 0,AK]).toArray) ?_
  refine Bz (vs:=[.int .i64 0,.int .i64 0,.slice va vl vc,.int .i64 0,.int .i64 0,AK]) rfl rfl (by simp [OneCell]) (A3 (c:=z6) g2 rfl (hS _ (Nat.le_refl _))) ?_
  rw [Au (c:=z6) (vs:=[.int .i64 0,.int .i64 0,.slice va vl vc,.int .i64 0,.int .i64 0,AK]) g2 rfl]
  repeat(first|refine AE ?_|refine AQ ?_)
  refine BD (vs:=[.int .i64 0,.int .i64 0,.slice va vl vc,.int .i64 0,.int .i64 0,AK]) rfl rfl rfl (C0 (by exact AJ g2)) ⟨by unfold PO Aw;rw [GY];rfl,?_,rfl⟩
  exact A2 ((AN.push (T:=fun _=>False) h (A9 z6)).trans u2) (AN.set (T:=fun b=>b=h.size) _ _ _ rfl) (fun c hc e=>by omega)
 ·repeat(first|refine AI ?_|refine AH ?_|refine AE ?_|refine Ar ?_|refine AV ?_|refine Aq ?_|refine Bl ?_|refine Eo ?_|refine Bg ?_|refine Am ?_)
  refine BV rfl (Wt he (hS _ (by simp))) ?_
  rintro _ h2 FJ ⟨rfl,u2,rfl⟩
  have g2:=u2.get (AG h (A9 z6)) (fun x=>x)
  rw [Jj he]
  skip
  refine Ep (cells:=([.int .i64 0,.int .i64 0,.slice va vl vc,.int .i64 7,.int .i64 e,AK]).toArray) ?_
  refine Bz (vs:=[.int .i64 0,.int .i64 0,.slice va vl vc,.int .i64 7,.int .i64 e,AK]) rfl rfl (by simp [OneCell]) (A3 (c:=z6) g2 rfl (hS _ (Nat.le_refl _))) ?_
  rw [Au (c:=z6) (vs:=[.int .i64 0,.int .i64 0,.slice va vl vc,.int .i64 7,.int .i64 e,AK]) g2 rfl]
  repeat(first|refine AE ?_|refine AQ ?_)
  refine BD (vs:=[.int .i64 0,.int .i64 0,.slice va vl vc,.int .i64 7,.int .i64 e,AK]) rfl rfl rfl (C0 (by exact AJ g2)) ⟨by unfold PO Aw;rw [Jj he];rfl,?_,rfl⟩
  exact A2 ((AN.push (T:=fun _=>False) h (A9 z6)).trans u2) (AN.set (T:=fun b=>b=h.size) _ _ _ rfl) (fun c hc e=>by omega)
theorem dn{cs:Array Value}:AY Tryz.prog main S 65 #[.agg cs] h δ (CJ fun w h' AW=>w= .nilIface/\AN (fun _=>False) h h'/\AW=δ):=by
 refine CK (n:=3) ?_
 repeat(first|refine AI ?_|refine AH ?_|refine AE ?_|refine Aq ?_|refine DO ?_|refine AQ ?_)
 exact CL rfl ⟨rfl,AN.push _ _,rfl⟩
def Bu(a k n:Int):List Value:=[.int .i64 a,.int .i64 k,.int .i64 n,AK]
abbrev GC(l:List Value):Obj:=.cells l.toArray 129 (0,0)
theorem Oj{a b c:Int}(hS:∀o,¬S.still δ.g ⟨h.size,o,none⟩):AY Tryz.prog main S 64 #[.int .i64 a,.int .i64 b,.int .i64 c] h δ (CJ fun w h' AW=>∃x k n:Int,w= .agg (Bu x k n).toArray/\AN (fun _=>False) h h'/\AW=δ):=by
 refine CK (n:=22) ?_
 by_cases h1:b=1
 ·subst h1
  repeat(first|refine AI ?_|refine AH ?_|refine AE ?_|refine Ar ?_|refine Ak ?_|refine AV ?_|refine Aq ?_|refine Bs ?_|refine Cn ?_|refine BU ?_)
  refine Ep (cells:=#[.int .i64 1,.int .i64 c,AK]) ?_
  refine Ep (cells:=(Bu 0 1 c).toArray) ?_
  refine Bz (vs:=Bu 0 1 c) rfl rfl (by simp [Bu,OneCell]) (A3 (c:=[.int .i64 0,.int .i64 0,.int .i64 0,AK]) (AG _ _) rfl hS) ?_
  rw [Au (c:=[.int .i64 0,.int .i64 0,.int .i64 0,AK]) (vs:=Bu 0 1 c) (AG _ _) rfl]
  repeat(first|refine AE ?_|refine AQ ?_)
  refine BD (vs:=Bu 0 1 c) rfl rfl rfl (C0 (by exact AJ (AG _ _))) ⟨0,1,c,rfl,?_,rfl⟩
  rw [CC]
  exact AN.push _ _
 by_cases h2:b=2
 ·subst h2
  repeat(first|refine AI ?_|refine AH ?_|refine AE ?_|refine Ar ?_|refine Ak ?_|refine AV ?_|refine Aq ?_|refine Bs ?_|refine Bg ?_|refine Cn ?_|refine BU ?_|refine Am ?_)
  refine Ep (cells:=#[.int .i64 2,.int .i64 c,AK]) ?_
  refine Ep (cells:=(Bu 0 2 c).toArray) ?_
  refine Bz (vs:=Bu 0 2 c) rfl rfl (by simp [Bu,OneCell]) (A3 (c:=[.int .i64 0,.int .i64 0,.int .i64 0,AK]) (AG _ _) rfl hS) ?_
  rw [Au (c:=[.int .i64 0,.int .i64 0,.int .i64 0,AK]) (vs:=Bu 0 2 c) (AG _ _) rfl]
  repeat(first|refine AE ?_|refine AQ ?_)
  refine BD (vs:=Bu 0 2 c) rfl rfl rfl (C0 (by exact AJ (AG _ _))) ⟨0,2,c,rfl,?_,rfl⟩
  rw [CC]
  exact AN.push _ _
 by_cases h3:b=3
 ·subst h3
  repeat(first|refine AI ?_|refine AH ?_|refine AE ?_|refine Ak ?_|refine AV ?_|refine Aq ?_|refine Bs ?_|refine Bg ?_|refine Cn ?_|refine BU ?_|refine Am ?_)
  refine Ep (cells:=#[.int .i64 3,.int .i64 c,AK]) ?_
  refine Ep (cells:=(Bu 0 3 c).toArray) ?_
  refine Bz (vs:=Bu 0 3 c) rfl rfl (by simp [Bu,OneCell]) (A3 (c:=[.int .i64 0,.int .i64 0,.int .i64 0,AK]) (AG _ _) rfl hS) ?_
  rw [Au (c:=[.int .i64 0,.int .i64 0,.int .i64 0,AK]) (vs:=Bu 0 3 c) (AG _ _) rfl]
  repeat(first|refine AE ?_|refine AQ ?_)
  refine BD (vs:=Bu 0 3 c) rfl rfl rfl (C0 (by exact AJ (AG _ _))) ⟨0,3,c,rfl,?_,rfl⟩
  rw [CC]
  exact AN.push _ _
 by_cases h5:b=5
 ·subst h5
  repeat(first|refine AI ?_|refine AH ?_|refine AE ?_|refine Ak ?_|refine AV ?_|refine Aq ?_|refine Bs ?_|refine Bg ?_|refine Cn ?_|refine BU ?_|refine Am ?_)
  refine Ep (cells:=#[.int .i64 5,.int .i64 0,AK]) ?_
  refine Ep (cells:=(Bu 0 5 0).toArray) ?_
  refine Bz (vs:=Bu 0 5 0) rfl rfl (by simp [Bu,OneCell]) (A3 (c:=[.int .i64 0,.int .i64 0,.int .i64 0,AK]) (AG _ _) rfl hS) ?_
  rw [Au (c:=[.int .i64 0,.int .i64 0,.int .i64 0,AK]) (vs:=Bu 0 5 0) (AG _ _) rfl]
  repeat(first|refine AE ?_|refine AQ ?_)
  refine BD (vs:=Bu 0 5 0) rfl rfl rfl (C0 (by exact AJ (AG _ _))) ⟨0,5,0,rfl,?_,rfl⟩
  rw [CC]
  exact AN.push _ _
 repeat(first|refine AI ?_|refine AH ?_|refine AE ?_|refine Ar ?_|refine Ak ?_|refine Bb ?_|refine AV ?_|refine Aq ?_|refine Bg ?_|refine Cn ?_|refine Am ?_)
 refine Ep (cells:=(Bu a 0 0).toArray) ?_
 refine Bz (vs:=Bu a 0 0) rfl rfl (by simp [Bu,OneCell]) (A3 (c:=[.int .i64 0,.int .i64 0,.int .i64 0,AK]) (AG _ _) rfl hS) ?_
 rw [Au (c:=[.int .i64 0,.int .i64 0,.int .i64 0,AK]) (vs:=Bu a 0 0) (AG _ _) rfl]
 repeat(first|refine AE ?_|refine AQ ?_)
 refine BD (vs:=Bu a 0 0) rfl rfl rfl (C0 (by exact AJ (AG _ _))) ⟨a,0,0,rfl,?_,rfl⟩
 rw [CC]
 exact AN.push _ _
theorem Vg{a b c:Int}(hS:∀b,h.size<=b->∀o,¬S.still δ.g ⟨b,o,none⟩):AY Tryz.prog main S 36 #[.int .i64 a,.int .i64 b,.int .i64 c] h δ (CJ fun w h' AW=>(∃x:Int,w= .tuple #[.int .i64 x,.nilIface])/\AN (fun _=>False) h h'/\AW=δ):=by
 refine CK (n:=18) ?_
 repeat(first|refine AI ?_|refine AH ?_|refine AE ?_|refine AV ?_|refine Aq ?_)
 refine BV rfl (Oj (hS _ (CY _))) ?_
 rintro _ h2 FJ ⟨x,k,n,rfl,u2,rfl⟩
 (repeat refine Cn ?_)
 refine Bz (vs:=Bu x k n) rfl rfl (by simp [Bu,OneCell]) (A3 (c:=[.int .i64 0,.int .i64 0,.int .i64 0,AK]) (AG _ _) rfl (hS _ u2.size)) ?_
 rw [Au (c:=[.int .i64 0,.int .i64 0,.int .i64 0,AK]) (vs:=Bu x k n) (AG _ _) rfl]
 have hg:((h2.push (GC [.int .i64 0,.int .i64 0,.int .i64 0,AK])).setIfInBounds h2.size (GC (Bu x k n)))[h2.size]?=some (GC (Bu x k n)):=AJ (AG _ _)
 have hu:AN (fun _=>False) h ((h2.push (GC [.int .i64 0,.int .i64 0,.int .i64 0,AK])).setIfInBounds h2.size (GC (Bu x k n))):=u2.trans (by rw [CC];exact AN.push _ _)
 change ER _ _ _ _ _ _ _ _ _ _ ((h2.push (GC [.int .i64 0,.int .i64 0,.int .i64 0,AK])).setIfInBounds h2.size (GC (Bu x k n))) _ _
 generalize (h2.push (GC [.int .i64 0,.int .i64 0,.int .i64 0,AK])).setIfInBounds h2.size (GC (Bu x k n))=h3 at hg hu
 repeat(first|refine AI ?_|refine AE ?_)
 refine BO (fun h'=>h'[h2.size]?=some (GC (Bu x k n))) ?_
 have hZ:=hg
 refine Ag 0 hZ ?_
 refine D8 1 rfl (by kernel_rfl) (fun _ hz=>(AD hz rfl)) hZ ?_
 refine Ag 2 hZ ?_
 refine EP (vs:=[.int .i64 k,.int .i64 n,AK]) 3 rfl (by kernel_rfl) rfl rfl rfl rfl rfl (fun _ hz=>fun j v hv=>?_) hZ ?_
 ·rcases j with _|_|_|j
  ·cases hv;exact AD hz rfl
  ·cases hv;exact AD hz rfl
  ·cases hv;exact AD hz rfl
  ·cases hv
 refine Bj 4 rfl (by kernel_rfl) rfl rfl rfl rfl rfl rfl dn ?_
 rintro _ h4 MC ⟨rfl,u4,rfl⟩
 refine⟨u4.get hg (fun x=>x),?_⟩
 have hZ:=u4.get hg (fun x=>x)
 refine Dp 5 hZ ?_
 refine Dp 6 hZ ?_
 refine BF ?_
 (repeat refine AQ ?_)
 exact EL rfl rfl rfl ⟨⟨x,rfl⟩,hu.trans u4,rfl⟩
theorem P5{b:Bool}:AY Tryz.prog main S 92 #[.bool b] h δ (CJ (Gb (.int .i64 (if b then 1 else 0)) h δ)):=by
 refine CK (n:=4) ?_
 cases b with
 | true=>
  repeat(first|refine AI ?_|refine AH ?_|refine AE ?_|refine AV ?_|refine Aq ?_|refine BU ?_|refine AQ ?_)
  exact DQ El
 | false=>
  repeat(first|refine AI ?_|refine AH ?_|refine AE ?_|refine Ar ?_|refine AV ?_|refine Aq ?_|refine Am ?_|refine AQ ?_)
  exact DQ El
end
section
variable{d:CD}{u u' u1 u2:CV}{h h' h1:Hp}{i:Nat}{γ Ae E5 KF:GG (XC d)}{L L':List (Nat×Obj)}{p:PA}{t id m:Nat}{H:List (Nat×Int)}
theorem Z3(a:C8 d i γ u L h p)(ht:t=γ.p.tb i){main:Bool}{S:Cp (GG (XC d))}{δ:Ix (GG (XC d))}:AY Tryz.prog main S 63 #[ptr t] h δ (CJ (Gb (.int .i64 i) h δ)):=by
 obtain⟨v,t',o,c,b0,n,w,y,k,Gp,CR⟩:=a.BI.row
 rw [<-ht]at CR
 have c0:AF h ⟨t,0,none⟩=some (ptr γ.p.R):=AD CR rfl
 have c1:AF h ⟨t,1,none⟩=some (.int .i64 i):=AD CR rfl
 have Rm:AF h ⟨t,13,none⟩=some (.bool false):=AD CR rfl
 refine CK (n:=10) ?_
 repeat(first|refine AI ?_|refine AH ?_|refine AE ?_|refine AV ?_|refine Aq ?_)
 refine Bx rfl (Jz c0 Rm) ?_
 repeat(first|refine AI ?_|refine AH ?_|refine AE ?_|refine Ar ?_|refine AV ?_|refine Aq ?_|refine Bc ?_|refine Az ?_|refine Df ?_|refine B9 ?_|refine Am ?_|refine AQ ?_)
 exact DQ El
end
end
section
structure ao where
 V:Value
 Hs:Value
 Ks:Value
 Cs:Value
 ws:List Value
 nH:Nat
def By(q:BH):List Value:=[.int .i64 q.op,.int .i64 q.a,.int .i64 q.b,.int .i64 q.c,.int .i64 q.d,.int .i64 q.f,q.l]
structure vF(d:CD)(x:ao)(h:Hp):Prop where
 w:AF h ⟨d.c.w,0,none⟩=some x.V/\AF h ⟨d.c.w,13,none⟩=some x.Hs/\AF h ⟨d.c.w,14,none⟩=some x.Ks/\AF h ⟨d.c.w,15,none⟩=some x.Cs
 V:Hh h x.V x.ws
 sc:∀(s:Nat) (l:List BH),d.c.sc[s]?=some l->∃v,x.ws[s]?=some v/\AR h v 41 7 l.length (l.flatMap By)
 H:Hh h x.Hs ((List.range x.nH).map fun t=>ptr (d.hb t))
 K:Hh h x.Ks ((List.range d.c.nK).map fun k=>ptr (d.c.K k))
 C:Hh h x.Cs ((List.range d.c.nC).map fun j=>ptr (d.c.C j))
structure NK(d:CD)(x:ao):Prop where
 ok:d.Ok
 w:d.old d.c.w
 N:vF d x d.hN
 V:∀b,blk x.V=some b->d.old b
 len:x.ws.length=d.c.sc.length
 sc:∀(s:Nat) (v:Value),x.ws[s]?=some v->∀b,blk v=some b->d.old b
 H:∀b,blk x.Hs=some b->d.old b
 K:∀b,blk x.Ks=some b->d.old b
 C:∀b,blk x.Cs=some b->d.old b
 nH:x.nH<=64/\d.c.nT<=x.nH
 small:∀(s:Nat) (l:List BH),d.c.sc[s]?=some l->l.length<=30
 sl:∀(s:Nat) (l:List BH) (q:BH),d.c.sc[s]?=some l->q∈l->∃va vl vc,q.l= .slice va vl vc
theorem Hh.Tn{h h':Hp}{s:Value}{vs:List Value}(x:Hh h s vs)(hb:∀b,blk s=some b->h'[b]?=h[b]?):Hh h' s vs:=by
 refine⟨x.val,fun i v hv=>?_⟩
 obtain⟨b,o,k,e,hc⟩:=x.cell i v hv
 refine⟨b,o,k,e,?_⟩
 rw [Jo (hb b (by rw [e];rfl))]
 exact hc
section
variable{d:CD}{x:ao}{u u' u1 u2:CV}{h h' h1:Hp}{i:Nat}{γ Ae E5 KF:GG (XC d)}{L L':List (Nat×Obj)}{p:PA}{t id m:Nat}{H:List (Nat×Int)}
theorem NK.now(E:NK d x)(hh:∀b,d.old b->h[b]?=d.hN[b]?):vF d x h:=by
 have N:=E.N
 have hw:=fun o=>Jo (a:=⟨d.c.w,o,none⟩) (hh d.c.w E.w)
 refine⟨⟨(hw 0).trans N.w.1,(hw 13).trans N.w.2.1,(hw 14).trans N.w.2.2.1,(hw 15).trans N.w.2.2.2⟩,N.V.Tn fun b hb=>hh b (E.V b hb),fun s l hl=>?_,N.H.Tn fun b hb=>hh b (E.H b hb),N.K.Tn fun b hb=>hh b (E.K b hb),N.C.Tn fun b hb=>hh b (E.C b hb)⟩
 obtain⟨v,h1,h2⟩:=N.sc s l hl
 exact⟨v,h1,Q7 h2 fun b hb=>hh b (E.sc s v h1 b hb)⟩
theorem C8.wd(E:NK d x)(a:C8 d i γ u L h p):vF d x h:=E.now a.I.old
theorem lI(E:NK d x)(a:C8 d i γ u L h p)(ht:t=γ.p.tb i):AY Tryz.prog false (ED Tryz.prog (PX (XC d)) (i+1)) 34 #[ptr d.c.w,ptr t] h ⟨0,γ⟩ (CJ fun w h' AW=>w=ptr (d.hb i)/\AW=⟨0,γ⟩/\C8 d i γ {u with th:=ut u.th i (ptr t)} L h' p):=by
 have N:=a.wd E
 have hi:i<64:=F0 a.lt E.ok.nT
 have hiH:i<x.nH:=F0 a.lt E.nH.2
 have AFg:=E.nH.1
 obtain⟨b,o,k,e,hc⟩:=N.H.cell i (ptr (d.hb i)) (by rw [EQ,List.getElem?_range hiH];rfl)
 have Rm:=N.w.2.1
 rw [e,Ca,List.length_range]at Rm
 have hh:=a.I.IM i hi
 refine CK (n:=35) ?_
 repeat(first|refine AI ?_|refine AH ?_|refine AE ?_|refine AV ?_|refine Aq ?_)
 refine Bx rfl (Z3 a ht) ?_
 repeat(first|refine AI ?_|refine AH ?_|refine AE ?_|refine Ar ?_|refine AV ?_|refine Aq ?_|refine Bc ?_|refine Az ?_|refine Bd ?_|refine Bg ?_|refine BN ?_|refine Cd ?_|refine Am ?_|refine Av rfl (by assumption) ?_)
 refine CS rfl (by simp [OneCell]) ⟨_,AD hh rfl⟩ (AS hh) (a.free (.inl (.inl (E.ok.hb i hi)))) ?_
 repeat(first|refine AI ?_|refine AH ?_|refine AE ?_|refine AV ?_|refine Aq ?_|refine AQ ?_)
 exact CL rfl ⟨rfl,rfl,a.who E.ok hi _⟩
abbrev Bo(q:BH):Obj:=.cells (By q).toArray 41 (0,0)
def ai(d:CD)(q:BH):Value:=if 0<=q.a/\q.a<d.c.nC then ptr (d.c.C q.a.toNat)else .pointer none
theorem dp{Γ:Type}{main:Bool}{S:Cp Γ}{δ:Ix Γ}(N:vF d x h){q:BH}:AY Tryz.prog main S 90 #[ptr d.c.w,.agg (By q).toArray] h δ (CJ fun w h' AW=>w=ai d q/\AN (fun _=>False) h h'/\AW=δ):=by
 have hu:AN (fun _=>False) h (h.push (Bo q)):=AN.push _ _
 have gy:(h.push (Bo q))[h.size]?=some (Bo q):=AG _ _
 have Tf:=hu.AF N.w.2.2.2 (fun x=>x)
 refine CK (n:=26) ?_
 repeat(first|refine AI ?_|refine AH ?_|refine AE ?_|refine Aq ?_|refine DO ?_)
 change EK _ _ _ _ _ _ _ _ (h.push (Bo q)) _ _
 obtain⟨y,hy⟩:∃y,y=h.size:=⟨_,rfl⟩
 rw [<-hy]at gy⊢
 obtain⟨av,kv,ev⟩:=N.C.val
 rw [ev,Ca,List.length_range]at Tf
 have cell:=N.C.cell
 rw [ev,Ca,List.length_range]at cell
 clear ev hy
 have e1:AF (h.push (Bo q)) ⟨y,1,none⟩=some (.int .i64 q.a):=AD gy rfl
 have zY:∀z:Nat,z<d.c.nC->∃b o,av=some ⟨b,o,none⟩/\AF (h.push (Bo q)) ⟨b,o+z*1,none⟩=some (ptr (d.c.C z)):=fun z hz=>by
  obtain⟨b,o,k,e,hc⟩:=cell z (ptr (d.c.C z)) (by rw [EQ,List.getElem?_range hz];rfl)
  cases e
  exact⟨b,o,rfl,hu.AF hc (fun x=>x)⟩
 clear cell
 generalize h.push (Bo q)=h2 at *
 refine BO (fun h'=>h'=h2) ?_
 have hZ:h2=h2:=rfl
 by_cases h0:0<=q.a
 ·by_cases h1:q.a<d.c.nC
  ·obtain⟨z,hz⟩:∃z:Nat,q.a=z:=⟨q.a.toNat,by omega⟩
   have XB:ai d q=ptr (d.c.C z):=by unfold ai;rw [if_pos ⟨h0,h1⟩,hz];rfl
   rw [XB]
   rw [hz]at h0 h1 e1
   obtain⟨b,o,rfl,hc⟩:=zY z (by omega)
   refine Ag 0 hZ ?_
   refine D8 1 rfl (by kernel_rfl) (fun _ hz=>hz▸e1) hZ ?_
   refine G8 2 hZ ?_
   refine AU 3 hZ ?_
   refine Ag 4 hZ ?_
   refine D8 5 rfl (by kernel_rfl) (fun _ hz=>hz▸e1) hZ ?_
   refine AU 6 hZ ?_
   refine BE 7 hZ ?_
   refine Ag 8 hZ ?_
   refine D8 9 rfl (by kernel_rfl) (fun _ hz=>hz▸Tf) hZ ?_
   refine Er 10 rfl (by kernel_rfl) rfl rfl rfl rfl hZ ?_
   refine G8 11 hZ ?_
   refine IR 12 hZ ?_
   refine BF ?_
   repeat(first|refine AI ?_|refine BU ?_)
   refine BO (fun h'=>h'=h2) ?_
   have hZ:h2=h2:=rfl
   refine AU 0 hZ ?_
   refine BE 1 hZ ?_
   refine Ag 2 hZ ?_
   refine D8 3 rfl (by kernel_rfl) (fun _ hz=>hz▸Tf) hZ ?_
   refine Ag 4 hZ ?_
   refine D8 5 rfl (by kernel_rfl) (fun _ hz=>hz▸e1) hZ ?_
   refine GP 6 hZ ?_
   refine D8 7 rfl (by kernel_rfl) (fun _ hz=>hz▸hc) hZ ?_
   refine Dp 8 hZ ?_
   refine BF ?_
   (repeat refine AQ ?_)
   exact CL rfl ⟨rfl,hu,rfl⟩
  ·have XB:ai d q= .pointer none:=by unfold ai;rw [if_neg fun z=>h1 z.2]
   rw [XB]
   refine Ag 0 hZ ?_
   refine D8 1 rfl (by kernel_rfl) (fun _ hz=>hz▸e1) hZ ?_
   refine G8 2 hZ ?_
   refine AU 3 hZ ?_
   refine Ag 4 hZ ?_
   refine D8 5 rfl (by kernel_rfl) (fun _ hz=>hz▸e1) hZ ?_
   refine AU 6 hZ ?_
   refine BE 7 hZ ?_
   refine Ag 8 hZ ?_
   refine D8 9 rfl (by kernel_rfl) (fun _ hz=>hz▸Tf) hZ ?_
   refine Er 10 rfl (by kernel_rfl) rfl rfl rfl rfl hZ ?_
   refine Dy 11 hZ ?_
   refine IR 12 hZ ?_
   refine BF ?_
   repeat(first|refine AI ?_|refine AH ?_|refine AE ?_|refine Ar ?_|refine Aq ?_|refine Am ?_|refine AQ ?_)
   exact CL rfl ⟨rfl,hu,rfl⟩
 ·have XB:ai d q= .pointer none:=by unfold ai;rw [if_neg fun z=>h0 z.1]
  rw [XB]
  refine Ag 0 hZ ?_
  refine D8 1 rfl (by kernel_rfl) (fun _ hz=>hz▸e1) hZ ?_
  refine Dy 2 hZ ?_
  refine AU 3 hZ ?_
  refine BB 4 hZ ?_
  refine BB 5 hZ ?_
  refine BB 6 hZ ?_
  refine BB 7 hZ ?_
  refine BB 8 hZ ?_
  refine BB 9 hZ ?_
  refine BB 10 hZ ?_
  refine BB 11 hZ ?_
  refine Dz 12 hZ ?_
  refine BF ?_
  repeat(first|refine AI ?_|refine AH ?_|refine AE ?_|refine Ar ?_|refine Aq ?_|refine Am ?_|refine AQ ?_)
  exact CL rfl ⟨rfl,hu,rfl⟩
theorem Z2{Γ:Type}{main:Bool}{S:Cp Γ}{δ:Ix Γ}{f k:Int}{va:Option Addr}{vl vc:Nat}:AY Tryz.prog main S 111 #[.slice va vl vc,.int .i64 f,.int .i64 k] h δ (CJ (Gb (.int .i64 (if k<f/\f<vl then f else -1)) h δ)):=by
 refine CK (n:=17) ?_
 by_cases h1:k<f
 ·by_cases h2:f<vl
  ·rw [if_pos ⟨h1,h2⟩]
   repeat(first|refine AI ?_|refine AH ?_|refine AE ?_|refine AV ?_|refine Aq ?_|refine Bl ?_|refine Bs ?_|refine BN ?_|refine BU ?_|refine AQ ?_)
   exact DQ El
  ·rw [if_neg fun z=>h2 z.2]
   repeat(first|refine AI ?_|refine AH ?_|refine AE ?_|refine Ar ?_|refine AV ?_|refine Aq ?_|refine Bl ?_|refine Bs ?_|refine Bg ?_|refine BN ?_|refine Am ?_|refine AQ ?_)
   exact DQ El
 ·rw [if_neg fun z=>h1 z.1]
  repeat(first|refine AI ?_|refine AH ?_|refine AE ?_|refine Ar ?_|refine AV ?_|refine Aq ?_|refine CW ?_|refine Bd ?_|refine Bg ?_|refine Am ?_|refine AQ ?_)
  exact DQ El
theorem Ie(E:NK d x)(a:C8 d i γ u L h p){f:Int}{k:Nat}:AY Tryz.prog false (ED Tryz.prog (PX (XC d)) (i+1)) 91 #[ptr d.c.w,.int .i64 f,.int .i64 k] h ⟨0,γ⟩ (CJ fun w h' AW=>∃u':CV,AW=⟨0,γ⟩/\C8 d i γ u' L h' p/\JK d i γ u γ u'/\((w= .nilFunc/\¬((k:Int)<f/\f<(d.c.sc.length:Nat)))\/((k:Int)<f/\f<(d.c.sc.length:Nat))/\Xm d.c u'.kept w f.toNat)):=by
 have a1:=a.keep E.ok (.cells #[ptr d.c.w] 59 (0,0))
 have N:=a1.wd E
 have hu:AN (fun _=>False) h (h.push (.cells #[ptr d.c.w] 59 (0,0))):=AN.push _ _
 have gy:=AG h (.cells #[ptr d.c.w] 59 (0,0))
 have cV:=N.w.1
 obtain⟨av,kv,ev⟩:=N.V.val
 rw [ev,E.len]at cV
 have e0:AF (h.push (.cells #[ptr d.c.w] 59 (0,0))) ⟨h.size,0,none⟩=some (ptr d.c.w):=AD gy rfl
 refine CK (n:=19) ?_
 repeat(first|refine AI ?_|refine AH ?_|refine AE ?_|refine AV ?_|refine Aq ?_|refine Bc ?_|refine Az ?_|refine Df ?_|refine VL rfl rfl rfl ?_|refine Av rfl (by assumption) ?_)
 refine Bx rfl Z2 ?_
 obtain⟨z,hz⟩:∃z:Int,z=(if(k:Int)<f/\f<(d.c.sc.length:Nat)then f else -1):=⟨_,rfl⟩
 rw [<-hz]
 (repeat refine OB rfl rfl ?_)
 refine CS rfl (by simp [OneCell]) ⟨_,AD (AG _ _) rfl⟩ (AS (AG _ _)) (a1.free (.inr (.inr (Nat.le_refl _)))) ?_
 rw [As (AG _ _)]
 change ER _ _ _ _ _ _ _ _ _ _ (((h.push (.cells #[ptr d.c.w] 59 (0,0))).push (.cells #[.int .i64 0] 3 (0,0))).setIfInBounds (h.push (.cells #[ptr d.c.w] 59 (0,0))).size (.cells #[.int .i64 z] 3 (0,0))) _ _
 rw [CC]
 have a2:=a1.keep E.ok (.cells #[.int .i64 z] 3 (0,0))
 have e1:AF ((h.push (.cells #[ptr d.c.w] 59 (0,0))).push (.cells #[.int .i64 z] 3 (0,0))) ⟨(h.push (.cells #[ptr d.c.w] 59 (0,0))).size,0,none⟩=some (.int .i64 z):=AD (AG _ _) rfl
 by_cases h0:z<0
 ·repeat(first|refine AI ?_|refine AH ?_|refine AE ?_|refine Aq ?_|refine Bs ?_|refine BU ?_|refine AQ ?_|refine Av rfl (by assumption) ?_)
  exact CL rfl ⟨_,rfl,a2,⟨Gk.refl _ _,rfl,rfl,fun q hq=>GR _ (GR _ hq),CY _,CY _⟩,.inl ⟨rfl,fun hh=>by rw [if_pos hh]at hz;omega⟩⟩
 ·have hs:(k:Int)<f/\f<(d.c.sc.length:Nat):=by
   apply Classical.byContradiction
   intro hh
   rw [if_neg hh]at hz
   omega
  rw [if_pos hs]at hz
  obtain⟨s,rfl⟩:∃s:Nat,z=s:=⟨z.toNat,by omega⟩
  repeat(first|refine AI ?_|refine AH ?_|refine AE ?_|refine Ar ?_|refine Bg ?_|refine Am ?_|refine Av rfl (by assumption) ?_)
  refine SN (fv:=#[]) (cv:=#[ptr h.size,ptr (h.push (.cells #[ptr d.c.w] 59 (0,0))).size]) rfl rfl (fun ρ Aa=>⟨C4 Aa (vs:=[]) rfl,C4 Aa (vs:=[ptr h.size,ptr (h.push (.cells #[ptr d.c.w] 59 (0,0))).size]) rfl⟩) ?_
  repeat(first|refine AE ?_|refine Aq ?_|refine AQ ?_)
  exact CL rfl ⟨_,rfl,a2,⟨Gk.refl _ _,rfl,rfl,fun q hq=>GR _ (GR _ hq),CY _,CY _⟩,.inr ⟨hs,h.size,_,rfl,GR _ (BX _ (DD.2 rfl)),BX _ (by rw [show f.toNat=s by omega];exact DD.2 rfl),by omega⟩⟩
end
end
section
theorem Zz{Γ:Type}{P:Program}{main:Bool}{S:Cp Γ}{f:FuncId}{n:Nat}{k:List Item}{env:Env}{h:Hp}{δ:Ix Γ}{R:Cv Γ}{ops:Array Oper}{Z:Hp->Prop}{z m:Nat}{listed l':Array Bool}{d:Nat}{ty:TypeId}{pos:String}{af:Array Edge}{g:Option (Nat×Bool)}{i:Nat}{x:Operand}{args:Array Operand}{FL:Array TypeId}{fn:Func}[hf:BC P f fn]{c:FuncId}{cap ws:Array Value}{vs:List Value}[AT P c]{Q:Value->Hp->Ix Γ->Prop}{Y:List PanicEntry->Hp->Ix Γ->Prop}
  (hi:ops[i]?=some ⟨some d,.call {callee:=.value x,args,argTypes:=FL},ty,pos,af,g⟩) (hl:listed.setIfInBounds i true=l') (hd:Nat.blt d n=true) (hw:Al ops env g=some true) (hx:ev env x=some (.func (.func c) #[] cap)) (ha:Pq env args.toList=some vs) (My:vs.toArray++cap=ws)
  (hc:AY P main S c ws h δ (Ge Q Y)) (hY:∀p h' AW,Y p h' AW->R (.Rh p) h' AW) (hn:∀v h' AW,Q v h' AW->Z h'/\EA P main S f n ops Z z m l' k ((d,v)::env) [] h' AW R):iw P main S f n ops Z z m listed k env [] h δ R i:=by
 subst hl
 intro a ka
 unfold NV
 simp only [hi]
 rw [if_pos (CN ka (o:=⟨some d,.call {callee:=.value x,args,argTypes:=FL},ty,pos,af,g⟩) hw),ka.defers]
 subst My
 refine HI rfl (ka.eval hx) (C4 (fun x v hx=>ka.eval hx) ha) (hc.mono ?_)
 rintro(v|p) h' AW hq
 ·exact⟨.inr (hn v h' AW hq).1,(hn v h' AW hq).2 _ (ka.put v hd)⟩
 ·exact fun a' oy=>WU.jG (oy.trans ka.defers) hf.out (hY _ _ _ hq)
theorem L0{Γ:Type}{P:Program}{main:Bool}{S:Cp Γ}{f:FuncId}{n:Nat}{k:List Item}{env:Env}{ds:List Deferred}{h:Hp}{δ:Ix Γ}{R:Cv Γ}{ops:Array Oper}{Z:Hp->Prop}{z m:Nat}{listed l':Array Bool}{d:Nat}{ty:TypeId}{pos:String}{af:Array Edge}{g:Option (Nat×Bool)}{i:Nat}{x:Operand}{args:Array Operand}{FL:Array TypeId}{c:FuncId}{cap ws:Array Value}{vs:List Value}[AT P c]{Q:Value->Hp->Ix Γ->Prop}
  (hi:ops[i]?=some ⟨some d,.call {callee:=.value x,args,argTypes:=FL},ty,pos,af,g⟩) (hl:listed.setIfInBounds i true=l') (hd:Nat.blt d n=true) (hw:Al ops env g=some true) (hx:ev env x=some (.func (.func c) #[] cap)) (ha:Pq env args.toList=some vs) (My:vs.toArray++cap=ws)
  (hc:AY P main S c ws h δ (CJ Q)) (hn:∀v h' AW,Q v h' AW->Z h'/\EA P main S f n ops Z z m l' k ((d,v)::env) ds h' AW R):iw P main S f n ops Z z m listed k env ds h δ R i:=by
 subst hl
 intro a ka
 unfold NV
 simp only [hi]
 rw [if_pos (CN ka (o:=⟨some d,.call {callee:=.value x,args,argTypes:=FL},ty,pos,af,g⟩) hw)]
 subst My
 refine HI rfl (ka.eval hx) (C4 (fun x v hx=>ka.eval hx) ha) (hc.mono ?_)
 rintro(v|p) h' AW hq
 ·exact⟨.inr (hn v h' AW hq).1,(hn v h' AW hq).2 _ (ka.put v hd)⟩
 ·exact hq.elim
theorem Ed{Γ:Type}{P:Program}{main:Bool}{S:Cp Γ}{f:FuncId}{n:Nat}{k:List Item}{env:Env}{ds:List Deferred}{h:Hp}{δ:Ix Γ}{R:Cv Γ}{ops:Array Oper}{d:Nat}{ty:TypeId}{pos:String}{af:Array Edge}{g:Option (Nat×Bool)}{Z:Hp->Prop}{zz:Nat}{m:Nat}{listed l':Array Bool}(i:Nat){x:Operand}{j:Nat}{vs:Array Value}{v:Value}(hi:ops[i]?=some ⟨some d,.extract x j,ty,pos,af,g⟩)(hs:Ct ops listed zz i=true)(hl:listed.setIfInBounds i true=l')
  (hd:Nat.blt d n=true) (hw:Al ops env g=some true) (hx:ev env x=some (.tuple vs)) (hv:vs[j]?=some v) (hZ:Z h)
  (hn:EA P main S f n ops Z zz m l' k ((d,v)::env) ds h δ R):EA P main S f n ops Z zz (m+1) listed k env ds h δ R:=
 Fz i hi hs hl hd hw (fun ρ _ _ Q X Aa _ hq=>by
  show Aj P S (Instr.extract (ρ x) j >>= fun v=>pure (.value v)) _ _ Q X
  rw [Aa x _ hx]
  unfold Instr.extract
  simp only [hv]
  exact hq) hZ hn
def Cy(vs:List Int):Obj:=.cells (vs.map fun x=>Value.int .i64 x).toArray 2 (0,0)
def KL(kept:List (Nat×Obj))(vs:List Int)(vv:Value):Prop:=(vs=[]/\vv=AK)\/∃b,vv= .slice (some ⟨b,0,none⟩) vs.length vs.length/\(b,Cy vs)∈kept
def qo(d:CD)(i:Nat)(γ:GG (XC d))(u:CV)(kk:List Int->Int->PA)(L:List (Nat×Obj))(w:Value)(h':Hp)(AW:Ix (GG (XC d))):Prop:=
 ∃(Ae:GG (XC d)) (u':CV) (vs:List Int) (vv:Value) (e:Int),AW=⟨0,Ae⟩/\w=PO vv e/\KL u'.kept vs vv/\C8 d i Ae u' L h' (kk vs e)/\JK d i γ u Ae u'
theorem AP{vv:Value}{e:Int}:(Aw vv e).length=6:=by
 unfold Aw Kz;split <;> rfl
theorem BM{va:Option Addr}{vl vc:Nat}{e:Int}:∀v∈Aw (.slice va vl vc) e,OneCell v:=by
 unfold Aw Kz;split <;> simp [OneCell]
section
variable{d:CD}{x:ao}{u u' u1 u2:CV}{h h' h1:Hp}{i:Nat}{γ Ae E5 KF:GG (XC d)}{L L':List (Nat×Obj)}{p:PA}{t id m y:Nat}{H:List (Nat×Int)}{q:BH}
theorem C8.cast{p':PA}(a:C8 d i γ u L h p)(e:p=p'):C8 d i γ u L h p':=e▸a
theorem JK.Ek(g:JK d i γ u E5 u1)(o:Nat×Obj):JK d i γ u E5 {u1 with kept:=u1.kept++[o]}:=⟨g.al,g.hold,g.th,fun q hq=>GR _ (g.kept q hq),g.len,g.L9⟩
theorem jD{k:Nat}{f:Int}{c:CP}{kept:List (Nat×Obj)}{w:Value}(h:(w= .nilFunc/\¬((k:Int)<f/\f<(c.sc.length:Nat)))\/((k:Int)<f/\f<(c.sc.length:Nat))/\Xm c kept w f.toNat):(w= .nilFunc/\(if(k:Int)<f/\f<(c.sc.length:Nat)then some f.toNat else none)=none)\/∃s,Xm c kept w s/\(if(k:Int)<f/\f<(c.sc.length:Nat)then some f.toNat else none)=some s:=by
 rcases h with⟨h1,h2⟩|⟨h1,h2⟩
 ·exact .inl ⟨h1,if_neg h2⟩
 ·exact .inr ⟨_,h2,if_pos h1⟩
theorem ML{z:Nat}(e:q.a=z)(h:z<d.c.nC):ai d q=ptr (d.c.C z):=by unfold ai;rw [if_pos ⟨by omega,by omega⟩,e];rfl
theorem J4(h:¬(0<=q.a/\q.a<d.c.nC)):ai d q= .pointer none:=if_neg h
theorem dj(E:NK d x)(hR:∀m',m'<m->SR d i m'){k:Nat}{kk:List Int->Int->PA}(G6:10<=q.op/\q.op<20)(a:C8 d i γ u L h (E1 d.c.sc d.c.nC d.c.nK (EH d.c.sc d.c.nC d.c.nK m) k q kk))(PK:GO d.c (u.hold i)<=m)(Mz:u.th i=ptr (γ.p.tb i))(W6:(u.told i).length<=31*DJ i γ+31):AY Tryz.prog false (ED Tryz.prog (PX (XC d)) (i+1)) 66 #[ptr d.c.w,ptr (d.hb i),.agg (By q).toArray,.int .i64 k] h ⟨0,γ⟩ (Ge (qo d i γ u kk L) (Halt (XC d) i γ.p)):=by
 have ok:=E.ok
 have EN:i<64:=F0 a.lt ok.nT
 obtain⟨y6,Rr⟩:∃y,y=h.size:=⟨_,rfl⟩
 obtain⟨y8,Qj⟩:∃y,y=(h.push (Bo q)).size:=⟨_,rfl⟩
 have a0:=(a.alloc ok (Bo q)).alloc ok (A9 z6)
 have Kt:=(a.alloc ok (Bo q)).fresh
 refine CK (n:=100) ?_
 refine AI ?_
 refine AH ?_
 refine DO ?_
 refine Cn ?_
 refine AE ?_
 change EK _ _ _ _ _ _ _ _ ((h.push (Bo q)).push (A9 z6)) _ _
 change EK _ _ _ _ _ _ ((8,ptr (h.push (Bo q)).size)::(6,ptr h.size)::_) _ _ _ _
 rw [<-Qj]at a0 Kt⊢
 rw [<-Rr]at a0 Kt⊢
 have g6:=a0.own (q:=(y6,Bo q)) (C2 _ BJ)
 generalize (h.push (Bo q)).push (A9 z6)=h1 at a0 g6⊢
 have N:=a0.wd E
 repeat(first|refine AI ?_|refine AH ?_|refine AV ?_)
 refine C5 (vs:=By q) rfl (C0 (by exact g6)) ?_
 skip
 refine BV rfl (dp N) ?_
 rintro _ h2 FJ ⟨rfl,u2,rfl⟩
 have a2:=a0.A5 ok u2
 clear N g6 a0 u2
 have g6:=a2.own (q:=(y6,Bo q)) (C2 _ BJ)
 have Qn:AF h2 ⟨y6,0,none⟩=some (.int .i64 q.op):=AD g6 rfl
 have iv:AF h2 ⟨y6,2,none⟩=some (.int .i64 q.b):=AD g6 rfl
 have c63:AF h2 ⟨y6,3,none⟩=some (.int .i64 q.c):=AD g6 rfl
 have xm:AF h2 ⟨y6,5,none⟩=some (.int .i64 q.f):=AD g6 rfl
 have Rt:=a2.I.IM i EN
 rw [Mz]at Rt
 have cH:AF h2 ⟨d.hb i,0,none⟩=some (ptr (γ.p.tb i)):=AD Rt rfl
 have Xi:=JK.refl d i γ u
 unfold E1 at a2
 by_cases Gq:q.op=10
 ·rw [Gq]at Qn
  rw [if_pos Gq]at a2
  by_cases CO:0<=q.a/\q.a<d.c.nC
  ·obtain⟨z,hz⟩:∃z:Nat,q.a=z:=⟨q.a.toNat,by omega⟩
   have MD:z<d.c.nC:=by omega
   rw [ML hz MD]
   rw [if_pos (show PE d.c.nC q from CO),hz]at a2
   change C8 d i γ u ((y8,A9 z6)::(y6,Bo q)::L) h2 (.step ⟨1,cc z 0,0,0⟩ fun v=>kk [v] 0)at a2
   repeat(first|refine AI ?_|refine AH ?_|refine AE ?_|refine Ak ?_|refine AV ?_|refine Aq ?_|refine Bc ?_|refine Az ?_|refine Df ?_|refine Bs ?_|refine BU ?_)
   refine Dr rfl rfl rfl rfl rfl (dk ok a2 MD rfl) (fun _ _ _ y=>y) ?_
   rintro _ h4 MC ⟨Pk,u4,w,rfl,rfl,a4,HD⟩
   skip
   refine Fv (sz:=1) (z:=.int .i64 0) (cells:=#[.int .i64 w]) ?_
   have AB:=a4.keep ok (Cy [w])
   have gb:=HD.Ek (h4.size,Cy [w])
   have HM:KL ({u4 with kept:=u4.kept++[(h4.size,Cy [w])]}:CV).kept [w] (.slice (some ⟨h4.size,0,none⟩) ([w]).length ([w]).length):=.inr ⟨h4.size,rfl,BX _ (DD.2 rfl)⟩
   change ER _ _ _ _ _ _ _ _ _ _ (h4.push (Cy [w])) _ _
   skip
   refine BV rfl (Eg fun _ hb _=>AB.free (.inr (.inr hb))) ?_
   rintro _ h3 Hz ⟨rfl,u3,rfl⟩
   have AC:=AB.A5 ok u3
   have g8:=AC.own (q:=(y8,A9 z6)) BJ
   refine Bz (vs:=Aw (.slice (some ⟨h4.size,0,none⟩) 1 1) 0) rfl AP BM (A3 (c:=z6) g8 rfl (fun _=>AC.free (.inr (.inl ⟨_,BJ,rfl⟩)))) ?_
   rw [Au (c:=z6) (vs:=Aw (.slice (some ⟨h4.size,0,none⟩) 1 1) 0) g8 (by rw [AP];rfl)]
   have a9:=AC.put ok (o:=A9 (Aw (.slice (some ⟨h4.size,0,none⟩) 1 1) 0)) Kt
   repeat(first|refine AE ?_|refine AQ ?_)
   exact BD (vs:=Aw (.slice (some ⟨h4.size,0,none⟩) 1 1) 0) rfl rfl AP (C0 (by exact a9.own (q:=(y8,A9 (Aw (.slice (some ⟨h4.size,0,none⟩) 1 1) 0))) BJ)) ⟨Pk,_,[w],(.slice (some ⟨h4.size,0,none⟩) 1 1),0,rfl,rfl,HM,(a9.drop ok).drop ok,gb⟩
  ·rw [J4 CO]
   rw [if_neg (show ¬PE d.c.nC q from CO)]at a2
   repeat(first|refine AI ?_|refine AH ?_|refine AE ?_|refine Ak ?_|refine AV ?_|refine Aq ?_|refine Bc ?_|refine Az ?_|refine Df ?_|refine Bs ?_|refine BU ?_)
   refine Bx rfl Ws ?_
   skip
   refine Fv (sz:=1) (z:=.int .i64 0) (cells:=#[.int .i64 0]) ?_
   have AB:=a2.keep ok (Cy [0])
   have gb:=Xi.Ek (h2.size,Cy [0])
   have HM:KL ({u with kept:=u.kept++[(h2.size,Cy [0])]}:CV).kept [0] (.slice (some ⟨h2.size,0,none⟩) ([0]).length ([0]).length):=.inr ⟨h2.size,rfl,BX _ (DD.2 rfl)⟩
   change ER _ _ _ _ _ _ _ _ _ _ (h2.push (Cy [0])) _ _
   skip
   refine BV rfl (Eg fun _ hb _=>AB.free (.inr (.inr hb))) ?_
   rintro _ h3 Hz ⟨rfl,u3,rfl⟩
   have AC:=AB.A5 ok u3
   have g8:=AC.own (q:=(y8,A9 z6)) BJ
   refine Bz (vs:=Aw (.slice (some ⟨h2.size,0,none⟩) 1 1) 0) rfl AP BM (A3 (c:=z6) g8 rfl (fun _=>AC.free (.inr (.inl ⟨_,BJ,rfl⟩)))) ?_
   rw [Au (c:=z6) (vs:=Aw (.slice (some ⟨h2.size,0,none⟩) 1 1) 0) g8 (by rw [AP];rfl)]
   have a9:=AC.put ok (o:=A9 (Aw (.slice (some ⟨h2.size,0,none⟩) 1 1) 0)) Kt
   repeat(first|refine AE ?_|refine AQ ?_)
   exact BD (vs:=Aw (.slice (some ⟨h2.size,0,none⟩) 1 1) 0) rfl rfl AP (C0 (by exact a9.own (q:=(y8,A9 (Aw (.slice (some ⟨h2.size,0,none⟩) 1 1) 0))) BJ)) ⟨γ,_,[0],(.slice (some ⟨h2.size,0,none⟩) 1 1),0,rfl,rfl,HM,(a9.drop ok).drop ok,gb⟩
 rw [if_neg Gq]at a2
 by_cases NC:q.op=11
 ·rw [NC]at Qn
  rw [if_pos NC]at a2
  have E9:∀{Ae:GG (XC d)} {u':CV} {L':List (Nat×Obj)} {h':Hp} {p:PA},C8 d i Ae u' L' h' p->(y6,Bo q)∈L'->u'.th i=u.th i->AF h' ⟨d.hb i,0,none⟩=some (ptr (γ.p.tb i))/\AF h' ⟨y6,2,none⟩=some (.int .i64 q.b)/\AF h' ⟨y6,5,none⟩=some (.int .i64 q.f):=fun {Ae u' L' h' dl} b hb hu=>by
   have g:=b.own hb
   have g2:=b.I.IM i EN
   rw [hu,Mz]at g2
   exact⟨AD g2 rfl,AD g rfl,AD g rfl⟩
  have m6:(y6,Bo q)∈(y8,A9 z6)::(y6,Bo q)::L:=C2 _ BJ
  have hZ:=E9 a2 m6 rfl
  repeat(first|refine AI ?_|refine AH ?_|refine AE ?_|refine Ak ?_|refine Aq ?_|refine Az ?_|refine Df ?_|refine Bs ?_|refine Bg ?_|refine BU ?_|refine Am ?_)
  refine lX (fun z:Nat×GG (XC d)×CV×Int×Int×Int=>[(11,.int .i64 z.2.2.2.2.2),(10,ptr z.1),(8,ptr y8)]) (fun z h' AW=>AW=⟨0,z.2.1⟩/\C8 d i z.2.1 z.2.2.1 ((z.1,Ba z.2.2.2.1 z.2.2.2.2.1)::(y8,A9 z6)::(y6,Bo q)::L) h' (kk [z.2.2.2.1,z.2.2.2.2.1] z.2.2.2.2.2)/\JK d i γ u z.2.1 z.2.2.1) (fun h'=>AF h' ⟨d.hb i,0,none⟩=some (ptr (γ.p.tb i))/\AF h' ⟨y6,2,none⟩=some (.int .i64 q.b)/\AF h' ⟨y6,5,none⟩=some (.int .i64 q.f)) 18 (fun key=>?_) ?_
  ·by_cases CO:0<=q.a/\q.a<d.c.nC
   ·obtain⟨z,hz⟩:∃z:Nat,q.a=z:=⟨q.a.toNat,by omega⟩
    have MD:z<d.c.nC:=by omega
    rw [ML hz MD]
    rw [if_pos (show PE d.c.nC q from CO),hz]at a2
    change C8 d i γ u ((y8,A9 z6)::(y6,Bo q)::L) h2 (LX z q.b (if(k:Int)<q.f/\q.f<(d.c.sc.length:Nat)then some q.f.toNat else none) (fun x r e=>kk [x,r] e))at a2
    refine AU 0 hZ ?_
    refine AU 1 hZ ?_
    refine BE 2 hZ ?_
    refine Ag 3 hZ ?_
    refine A8 4 (fun _ hz=>hz.1) hZ ?_
    refine Ag 5 hZ ?_
    refine A8 6 (fun _ hz=>hz.2.1) hZ ?_
    refine AU 7 hZ ?_
    refine Ag 8 hZ ?_
    refine A8 9 (fun _ hz=>hz.2.2) hZ ?_
    refine AU 10 hZ ?_
    refine ON 11 16 (by kernel_rfl) ?_ ?_
    ·refine L0 (i:=11) rfl rfl rfl rfl rfl rfl rfl (Ie E a2) ?_
     rintro fv h3 Hz ⟨u3,rfl,a3,JE,bc⟩
     refine⟨E9 a3 m6 JE.th,?_⟩
     have hZ:=E9 a3 m6 JE.th
     refine ON 12 16 (by kernel_rfl) ?_ ?_
     ·refine Zz (i:=12) rfl rfl rfl rfl rfl rfl rfl (RS ok a3 MD rfl (jD bc)) (fun _ _ _ y=>y.along JE.al) ?_
      rintro _ h4 MC ⟨Pk,u4,s,r,e,rfl,rfl,a4,HD⟩
      have Rl:=JE.trans HD
      refine⟨E9 a4 m6 Rl.th,?_⟩
      have hZ:=E9 a4 m6 Rl.th
      refine AU 13 hZ ?_
      refine Ed 14 rfl (by kernel_rfl) rfl rfl rfl rfl rfl hZ ?_
      refine Ed 15 rfl (by kernel_rfl) rfl rfl rfl rfl rfl hZ ?_
      have a5:=a4.alloc ok (Ba 0 0)
      have f5:=a4.fresh
      have hZ:=E9 a5 (C2 _ m6) Rl.th
      refine CQ (v:=ptr h4.size) (h':=h4.push (Ba 0 0)) 16 rfl (by kernel_rfl) (fun ρ Q X Aa hq=>Fa hq) hZ ?_
      have LP:=a5.own (q:=(h4.size,Ba 0 0)) BJ
      have a6:=a5.put ok (o:=Ba s r) f5
      have hZ:=E9 a6 (C2 _ m6) (Rl).th
      refine Fy (h':=((h4.push (Ba 0 0))).setIfInBounds h4.size (Ba s r)) 17 rfl (by kernel_rfl) rfl rfl (fun ρ Q X Aa hq=>B6 (vs:=[.int .i64 s,.int .i64 r]) (Aa _ _ rfl) (Aa _ _ rfl) rfl (by simp [OneCell]) (A3 (c:=[.int .i64 0,.int .i64 0]) LP rfl (fun _=>a5.free (.inr (.inl ⟨_,List.mem_cons_self,rfl⟩)))) (by rw [Au (c:=[.int .i64 0,.int .i64 0]) (vs:=[.int .i64 s,.int .i64 r]) LP rfl];exact hq)) hZ ?_
      refine Dp 18 hZ ?_
      refine BF ?_
      exact Ah (key (h4.size,Pk,u4,s,r,e) _ _ ⟨rfl,a6,Rl⟩) ⟨rfl,rfl,rfl,trivial⟩
     ·have fP:=a3.alloc ok (Ba 0 0)
      have f3:=a3.fresh
      have m7:=C2 (h3.size,Ba 0 0) m6
      have hZ:=E9 fP m7 JE.th
      refine Ht (i:=16) (v:=ptr h3.size) (h':=h3.push (Ba 0 0)) rfl rfl rfl rfl (fun ρ Q X Aa hq=>Fa hq) hZ ?_
      refine Gc 12 rfl (by kernel_rfl) rfl rfl rfl rfl rfl rfl (RS ok fP MD rfl (jD bc)) (fun _ _ _ y=>y.along JE.al) ?_
      rintro _ h4 MC ⟨Pk,u4,s,r,e,rfl,rfl,a4,HD⟩
      have Rl:=JE.trans HD
      refine⟨E9 a4 m7 Rl.th,?_⟩
      have hZ:=E9 a4 m7 Rl.th
      refine AU 13 hZ ?_
      refine Ed 14 rfl (by kernel_rfl) rfl rfl rfl rfl rfl hZ ?_
      refine Ed 15 rfl (by kernel_rfl) rfl rfl rfl rfl rfl hZ ?_
      have LP:=a4.own (q:=(h3.size,Ba 0 0)) BJ
      have a6:=a4.put ok (o:=Ba s r) f3
      have hZ:=E9 a6 (C2 _ m6) (Rl).th
      refine Fy (h':=(h4).setIfInBounds h3.size (Ba s r)) 17 rfl (by kernel_rfl) rfl rfl (fun ρ Q X Aa hq=>B6 (vs:=[.int .i64 s,.int .i64 r]) (Aa _ _ rfl) (Aa _ _ rfl) rfl (by simp [OneCell]) (A3 (c:=[.int .i64 0,.int .i64 0]) LP rfl (fun _=>a4.free (.inr (.inl ⟨_,List.mem_cons_self,rfl⟩)))) (by rw [Au (c:=[.int .i64 0,.int .i64 0]) (vs:=[.int .i64 s,.int .i64 r]) LP rfl];exact hq)) hZ ?_
      refine Dp 18 hZ ?_
      refine BF ?_
      exact Ah (key (h3.size,Pk,u4,s,r,e) _ _ ⟨rfl,a6,Rl⟩) ⟨rfl,rfl,rfl,trivial⟩
    ·have pT:=a2.alloc ok (Ba 0 0)
     have f2:=a2.fresh
     have m7:=C2 (h2.size,Ba 0 0) m6
     have hZ:=E9 pT m7 rfl
     refine Ht (i:=16) (v:=ptr h2.size) (h':=h2.push (Ba 0 0)) rfl rfl rfl rfl (fun ρ Q X Aa hq=>Fa hq) hZ ?_
     refine Bj 11 rfl (by kernel_rfl) rfl rfl rfl rfl rfl rfl (Ie E pT) ?_
     rintro fv h3 Hz ⟨u3,rfl,a3,JE,bc⟩
     refine⟨E9 a3 m7 JE.th,?_⟩
     have hZ:=E9 a3 m7 JE.th
     refine Gc 12 rfl (by kernel_rfl) rfl rfl rfl rfl rfl rfl (RS ok a3 MD rfl (jD bc)) (fun _ _ _ y=>y.along JE.al) ?_
     rintro _ h4 MC ⟨Pk,u4,s,r,e,rfl,rfl,a4,HD⟩
     have Rl:=JE.trans HD
     refine⟨E9 a4 m7 Rl.th,?_⟩
     have hZ:=E9 a4 m7 Rl.th
     refine AU 13 hZ ?_
     refine Ed 14 rfl (by kernel_rfl) rfl rfl rfl rfl rfl hZ ?_
     refine Ed 15 rfl (by kernel_rfl) rfl rfl rfl rfl rfl hZ ?_
     have LP:=a4.own (q:=(h2.size,Ba 0 0)) BJ
     have a6:=a4.put ok (o:=Ba s r) f2
     have hZ:=E9 a6 (C2 _ m6) (Rl).th
     refine Fy (h':=(h4).setIfInBounds h2.size (Ba s r)) 17 rfl (by kernel_rfl) rfl rfl (fun ρ Q X Aa hq=>B6 (vs:=[.int .i64 s,.int .i64 r]) (Aa _ _ rfl) (Aa _ _ rfl) rfl (by simp [OneCell]) (A3 (c:=[.int .i64 0,.int .i64 0]) LP rfl (fun _=>a4.free (.inr (.inl ⟨_,List.mem_cons_self,rfl⟩)))) (by rw [Au (c:=[.int .i64 0,.int .i64 0]) (vs:=[.int .i64 s,.int .i64 r]) LP rfl];exact hq)) hZ ?_
     refine Dp 18 hZ ?_
     refine BF ?_
     exact Ah (key (h2.size,Pk,u4,s,r,e) _ _ ⟨rfl,a6,Rl⟩) ⟨rfl,rfl,rfl,trivial⟩
   ·rw [J4 CO]
    rw [if_neg (show ¬PE d.c.nC q from CO)]at a2
    refine AU 0 hZ ?_
    refine AU 1 hZ ?_
    refine BE 2 hZ ?_
    refine Ag 3 hZ ?_
    refine A8 4 (fun _ hz=>hz.1) hZ ?_
    refine Ag 5 hZ ?_
    refine A8 6 (fun _ hz=>hz.2.1) hZ ?_
    refine AU 7 hZ ?_
    refine Ag 8 hZ ?_
    refine A8 9 (fun _ hz=>hz.2.2) hZ ?_
    refine AU 10 hZ ?_
    refine ON 11 16 (by kernel_rfl) ?_ ?_
    ·refine L0 (i:=11) rfl rfl rfl rfl rfl rfl rfl (Ie E a2) ?_
     rintro fv h3 Hz ⟨u3,rfl,a3,JE,bc⟩
     refine⟨E9 a3 m6 JE.th,?_⟩
     have hZ:=E9 a3 m6 JE.th
     refine ON 12 16 (by kernel_rfl) ?_ ?_
     ·refine L0 (i:=12) rfl rfl rfl rfl rfl rfl rfl (Mb fun _=>a3.free (.inr (.inr (CY _)))) ?_
      rintro _ h4 MC ⟨rfl,u4,rfl⟩
      have a4:=(a3).A5 ok u4
      refine⟨E9 a4 m6 JE.th,?_⟩
      have hZ:=E9 a4 m6 JE.th
      refine AU 13 hZ ?_
      refine Ed 14 rfl (by kernel_rfl) rfl rfl rfl rfl rfl hZ ?_
      refine Ed 15 rfl (by kernel_rfl) rfl rfl rfl rfl rfl hZ ?_
      have a5:=a4.alloc ok (Ba 0 0)
      have f5:=a4.fresh
      have hZ:=E9 a5 (C2 _ m6) JE.th
      refine CQ (v:=ptr h4.size) (h':=h4.push (Ba 0 0)) 16 rfl (by kernel_rfl) (fun ρ Q X Aa hq=>Fa hq) hZ ?_
      have LP:=a5.own (q:=(h4.size,Ba 0 0)) BJ
      have a6:=a5.put ok (o:=Ba 0 0) f5
      have hZ:=E9 a6 (C2 _ m6) (JE).th
      refine Fy (h':=((h4.push (Ba 0 0))).setIfInBounds h4.size (Ba 0 0)) 17 rfl (by kernel_rfl) rfl rfl (fun ρ Q X Aa hq=>B6 (vs:=[.int .i64 0,.int .i64 0]) (Aa _ _ rfl) (Aa _ _ rfl) rfl (by simp [OneCell]) (A3 (c:=[.int .i64 0,.int .i64 0]) LP rfl (fun _=>a5.free (.inr (.inl ⟨_,List.mem_cons_self,rfl⟩)))) (by rw [Au (c:=[.int .i64 0,.int .i64 0]) (vs:=[.int .i64 0,.int .i64 0]) LP rfl];exact hq)) hZ ?_
      refine Dp 18 hZ ?_
      refine BF ?_
      exact Ah (key (h4.size,γ,u3,0,0,2) _ _ ⟨rfl,a6,JE⟩) ⟨rfl,rfl,rfl,trivial⟩
     ·have fP:=a3.alloc ok (Ba 0 0)
      have f3:=a3.fresh
      have m7:=C2 (h3.size,Ba 0 0) m6
      have hZ:=E9 fP m7 JE.th
      refine Ht (i:=16) (v:=ptr h3.size) (h':=h3.push (Ba 0 0)) rfl rfl rfl rfl (fun ρ Q X Aa hq=>Fa hq) hZ ?_
      refine Bj 12 rfl (by kernel_rfl) rfl rfl rfl rfl rfl rfl (Mb fun _=>fP.free (.inr (.inr (CY _)))) ?_
      rintro _ h4 MC ⟨rfl,u4,rfl⟩
      have a4:=(fP).A5 ok u4
      refine⟨E9 a4 m7 JE.th,?_⟩
      have hZ:=E9 a4 m7 JE.th
      refine AU 13 hZ ?_
      refine Ed 14 rfl (by kernel_rfl) rfl rfl rfl rfl rfl hZ ?_
      refine Ed 15 rfl (by kernel_rfl) rfl rfl rfl rfl rfl hZ ?_
      have LP:=a4.own (q:=(h3.size,Ba 0 0)) BJ
      have a6:=a4.put ok (o:=Ba 0 0) f3
      have hZ:=E9 a6 (C2 _ m6) (JE).th
      refine Fy (h':=(h4).setIfInBounds h3.size (Ba 0 0)) 17 rfl (by kernel_rfl) rfl rfl (fun ρ Q X Aa hq=>B6 (vs:=[.int .i64 0,.int .i64 0]) (Aa _ _ rfl) (Aa _ _ rfl) rfl (by simp [OneCell]) (A3 (c:=[.int .i64 0,.int .i64 0]) LP rfl (fun _=>a4.free (.inr (.inl ⟨_,List.mem_cons_self,rfl⟩)))) (by rw [Au (c:=[.int .i64 0,.int .i64 0]) (vs:=[.int .i64 0,.int .i64 0]) LP rfl];exact hq)) hZ ?_
      refine Dp 18 hZ ?_
      refine BF ?_
      exact Ah (key (h3.size,γ,u3,0,0,2) _ _ ⟨rfl,a6,JE⟩) ⟨rfl,rfl,rfl,trivial⟩
    ·have pT:=a2.alloc ok (Ba 0 0)
     have f2:=a2.fresh
     have m7:=C2 (h2.size,Ba 0 0) m6
     have hZ:=E9 pT m7 rfl
     refine Ht (i:=16) (v:=ptr h2.size) (h':=h2.push (Ba 0 0)) rfl rfl rfl rfl (fun ρ Q X Aa hq=>Fa hq) hZ ?_
     refine Bj 11 rfl (by kernel_rfl) rfl rfl rfl rfl rfl rfl (Ie E pT) ?_
     rintro fv h3 Hz ⟨u3,rfl,a3,JE,bc⟩
     refine⟨E9 a3 m7 JE.th,?_⟩
     have hZ:=E9 a3 m7 JE.th
     refine Bj 12 rfl (by kernel_rfl) rfl rfl rfl rfl rfl rfl (Mb fun _=>a3.free (.inr (.inr (CY _)))) ?_
     rintro _ h4 MC ⟨rfl,u4,rfl⟩
     have a4:=(a3).A5 ok u4
     refine⟨E9 a4 m7 JE.th,?_⟩
     have hZ:=E9 a4 m7 JE.th
     refine AU 13 hZ ?_
     refine Ed 14 rfl (by kernel_rfl) rfl rfl rfl rfl rfl hZ ?_
     refine Ed 15 rfl (by kernel_rfl) rfl rfl rfl rfl rfl hZ ?_
     have LP:=a4.own (q:=(h2.size,Ba 0 0)) BJ
     have a6:=a4.put ok (o:=Ba 0 0) f2
     have hZ:=E9 a6 (C2 _ m6) (JE).th
     refine Fy (h':=(h4).setIfInBounds h2.size (Ba 0 0)) 17 rfl (by kernel_rfl) rfl rfl (fun ρ Q X Aa hq=>B6 (vs:=[.int .i64 0,.int .i64 0]) (Aa _ _ rfl) (Aa _ _ rfl) rfl (by simp [OneCell]) (A3 (c:=[.int .i64 0,.int .i64 0]) LP rfl (fun _=>a4.free (.inr (.inl ⟨_,List.mem_cons_self,rfl⟩)))) (by rw [Au (c:=[.int .i64 0,.int .i64 0]) (vs:=[.int .i64 0,.int .i64 0]) LP rfl];exact hq)) hZ ?_
     refine Dp 18 hZ ?_
     refine BF ?_
     exact Ah (key (h2.size,γ,u3,0,0,2) _ _ ⟨rfl,a6,JE⟩) ⟨rfl,rfl,rfl,trivial⟩
  ·clear hZ
   rintro⟨vK,KT,u3,s,r,e⟩ h3 Hz ⟨DL,a3,JE⟩
   dsimp only at DL a3 JE⊢
   subst DL
   have LP:=a3.own (q:=(vK,Ba s r)) BJ
   have c0:AF h3 ⟨vK,0,none⟩=some (.int .i64 s):=AD LP rfl
   have c1:AF h3 ⟨vK,1,none⟩=some (.int .i64 r):=AD LP rfl
   have a4:=a3.drop ok
   repeat(first|refine AI ?_|refine AH ?_|refine AV ?_)
   refine Q8 (by rfl) rfl rfl rfl (fun _ z=>by cases z) ?_
   repeat(first|refine Az ?_|refine Df ?_)
   refine LB (sz:=1) (z:=.int .i64 0) (cells:=#[.int .i64 s,.int .i64 r]) rfl rfl rfl (by omega) (by omega) (by kernel_rfl) ?_
   have AB:=a4.keep ok (Cy [s,r])
   have gb:=JE.Ek (h3.size,Cy [s,r])
   have HM:KL ({u3 with kept:=u3.kept++[(h3.size,Cy [s,r])]}:CV).kept [s,r] (.slice (some ⟨h3.size,0,none⟩) ([s,r]).length ([s,r]).length):=.inr ⟨h3.size,rfl,BX _ (DD.2 rfl)⟩
   change ER _ _ _ _ _ _ _ _ _ _ (h3.push (Cy [s,r])) _ _
   skip
   refine BV rfl (LK fun _ hb _=>AB.free (.inr (.inr hb))) ?_
   rintro _ h5 Qi ⟨rfl,u5,rfl⟩
   have AC:=AB.A5 ok u5
   have g8:=AC.own (q:=(y8,A9 z6)) BJ
   refine Bz (vs:=Aw (.slice (some ⟨h3.size,0,none⟩) 2 2) e) rfl AP BM (A3 (c:=z6) g8 rfl (fun _=>AC.free (.inr (.inl ⟨_,BJ,rfl⟩)))) ?_
   rw [Au (c:=z6) (vs:=Aw (.slice (some ⟨h3.size,0,none⟩) 2 2) e) g8 (by rw [AP];rfl)]
   have a9:=AC.put ok (o:=A9 (Aw (.slice (some ⟨h3.size,0,none⟩) 2 2) e)) Kt
   repeat(first|refine AE ?_|refine AQ ?_)
   exact BD (vs:=Aw (.slice (some ⟨h3.size,0,none⟩) 2 2) e) rfl rfl AP (C0 (by exact a9.own (q:=(y8,A9 (Aw (.slice (some ⟨h3.size,0,none⟩) 2 2) e))) BJ)) ⟨KT,_,[s,r],(.slice (some ⟨h3.size,0,none⟩) 2 2),e,rfl,rfl,HM,(a9.drop ok).drop ok,gb⟩
 rw [if_neg NC]at a2
 by_cases Rx:q.op=12
 ·rw [Rx]at Qn
  rw [if_pos Rx]at a2
  have E9:∀{Ae:GG (XC d)} {u':CV} {L':List (Nat×Obj)} {h':Hp} {p:PA},C8 d i Ae u' L' h' p->(y6,Bo q)∈L'->u'.th i=u.th i->AF h' ⟨d.hb i,0,none⟩=some (ptr (γ.p.tb i))/\AF h' ⟨y6,3,none⟩=some (.int .i64 q.c):=fun {Ae u' L' h' dl} b hb hu=>by
   have g:=b.own hb
   have g2:=b.I.IM i EN
   rw [hu,Mz]at g2
   exact⟨AD g2 rfl,AD g rfl⟩
  have m6:(y6,Bo q)∈(y8,A9 z6)::(y6,Bo q)::L:=C2 _ BJ
  have hZ:=E9 a2 m6 rfl
  by_cases U9:0<=q.b
  ·by_cases XE:q.b<16
   ·repeat(first|refine AI ?_|refine AH ?_|refine AE ?_|refine Ak ?_|refine AV ?_|refine Aq ?_|refine Az ?_|refine Df ?_|refine Bl ?_|refine Bs ?_|refine Bg ?_|refine BU ?_|refine Am ?_)
    refine D7 (fun h'=>AF h' ⟨d.hb i,0,none⟩=some (ptr (γ.p.tb i))/\AF h' ⟨y6,3,none⟩=some (.int .i64 q.c)) 13 ?_
    refine AU 0 hZ ?_
    refine AU 1 hZ ?_
    refine BE 2 hZ ?_
    refine Ag 3 hZ ?_
    refine A8 4 (fun _ hz=>hz.1) hZ ?_
    refine AU 5 hZ ?_
    refine Ag 6 hZ ?_
    refine A8 7 (fun _ hz=>hz.2) hZ ?_
    refine CQ (v:=.agg #[.int .i64 q.b,.int .i64 q.c]) (h':=h2) 8 rfl (by kernel_rfl) (fun ρ Q X Aa hq=>De (parts:=[(0,.int .i64 q.b),(1,.int .i64 q.c)]) Aa rfl rfl hq) hZ ?_
    by_cases CO:0<=q.a/\q.a<d.c.nC
    ·obtain⟨z,hz⟩:∃z:Nat,q.a=z:=⟨q.a.toNat,by omega⟩
     have MD:z<d.c.nC:=by omega
     rw [ML hz MD]
     rw [if_pos (show PE d.c.nC q from CO),hz]at a2
     have a2:=a2.cast (p':=FD z q.b q.c fun b=>kk [if b then 1 else 0] 0) (by first|rfl|(unfold FD;rw [if_neg (by omega),if_neg (by omega)]))
     refine Gc 9 rfl (by kernel_rfl) rfl rfl rfl rfl rfl rfl (Oi ok a2 MD rfl) (fun _ _ _ y=>y) ?_
     rintro _ h4 MC ⟨Pk,u4,b,rfl,rfl,a4,HD⟩
     refine⟨E9 a4 m6 HD.th,?_⟩
     have hZ:=E9 a4 m6 HD.th
     refine FE 10 rfl (by kernel_rfl) rfl rfl rfl rfl rfl rfl P5 hZ ?_
     obtain⟨w,hw⟩:∃w:Int,w=(if b=true then 1 else 0):=⟨_,rfl⟩
     have AA:=a4.cast (p':=kk [w] 0) (by rw [hw];first|done|rfl)
     rw [<-hw]
     have AB:=AA.keep ok (Cy [w])
     have gb:=HD.Ek (h4.size,Cy [w])
     have HM:KL ({u4 with kept:=u4.kept++[(h4.size,Cy [w])]}:CV).kept [w] (.slice (some ⟨h4.size,0,none⟩) 1 1):=.inr ⟨h4.size,rfl,BX _ (DD.2 rfl)⟩
     have hZ:=E9 AB m6 HD.th
     refine CQ (v:=.slice (some ⟨h4.size,0,none⟩) 1 1) (h':=h4.push (Cy [w])) 11 rfl (by kernel_rfl) (fun ρ Q X Aa hq=>BW (sz:=1) (z:=.int .i64 0) Aa rfl (by omega) (by omega) rfl rfl hq) hZ ?_
     refine Bj 12 rfl (by kernel_rfl) rfl rfl rfl rfl rfl rfl (Eg fun _ hb _=>AB.free (.inr (.inr hb))) ?_
     rintro _ h5 Qi ⟨rfl,u5,rfl⟩
     have AC:=AB.A5 ok u5
     refine⟨E9 AC m6 HD.th,?_⟩
     have g8:=AC.own (q:=(y8,A9 z6)) BJ
     have a9:=AC.put ok (o:=A9 (Aw (.slice (some ⟨h4.size,0,none⟩) 1 1) 0)) Kt
     refine D6 (h':=h5.setIfInBounds y8 (A9 (Aw (.slice (some ⟨h4.size,0,none⟩) 1 1) 0))) 13 rfl (by kernel_rfl) rfl rfl rfl (fun ρ Q X Aa hq=>B6 (vs:=Aw (.slice (some ⟨h4.size,0,none⟩) 1 1) 0) (Aa _ _ rfl) (Aa _ _ rfl) AP BM (A3 (c:=z6) g8 rfl (fun _=>AC.free (.inr (.inl ⟨_,BJ,rfl⟩)))) (by rw [Au (c:=z6) (vs:=Aw (.slice (some ⟨h4.size,0,none⟩) 1 1) 0) g8 (by rw [AP];rfl)];exact hq)) ?_
     refine BF ?_
     (repeat refine AQ ?_)
     exact BD (vs:=Aw (.slice (some ⟨h4.size,0,none⟩) 1 1) 0) rfl rfl AP (C0 (by exact a9.own (q:=(y8,A9 (Aw (.slice (some ⟨h4.size,0,none⟩) 1 1) 0))) BJ)) ⟨Pk,_,[w],_,0,rfl,rfl,HM,(a9.drop ok).drop ok,gb⟩
    ·rw [J4 CO]
     rw [if_neg (show ¬PE d.c.nC q from CO)]at a2
     refine Bj 9 rfl (by kernel_rfl) rfl rfl rfl rfl rfl rfl LL ?_
     rintro _ h4 MC ⟨rfl,nk,rfl⟩
     have a4:=a2.A5 ok nk
     refine⟨E9 a4 m6 rfl,?_⟩
     have hZ:=E9 a4 m6 rfl
     have HD:=Xi
     refine FE 10 rfl (by kernel_rfl) rfl rfl rfl rfl rfl rfl P5 hZ ?_
     obtain⟨w,hw⟩:∃w:Int,w=(if false=true then 1 else 0):=⟨_,rfl⟩
     have AA:=a4.cast (p':=kk [w] 0) (by rw [hw];first|done|rfl)
     rw [<-hw]
     have AB:=AA.keep ok (Cy [w])
     have gb:=HD.Ek (h4.size,Cy [w])
     have HM:KL ({u with kept:=u.kept++[(h4.size,Cy [w])]}:CV).kept [w] (.slice (some ⟨h4.size,0,none⟩) 1 1):=.inr ⟨h4.size,rfl,BX _ (DD.2 rfl)⟩
     have hZ:=E9 AB m6 HD.th
     refine CQ (v:=.slice (some ⟨h4.size,0,none⟩) 1 1) (h':=h4.push (Cy [w])) 11 rfl (by kernel_rfl) (fun ρ Q X Aa hq=>BW (sz:=1) (z:=.int .i64 0) Aa rfl (by omega) (by omega) rfl rfl hq) hZ ?_
     refine Bj 12 rfl (by kernel_rfl) rfl rfl rfl rfl rfl rfl (Eg fun _ hb _=>AB.free (.inr (.inr hb))) ?_
     rintro _ h5 Qi ⟨rfl,u5,rfl⟩
     have AC:=AB.A5 ok u5
     refine⟨E9 AC m6 HD.th,?_⟩
     have g8:=AC.own (q:=(y8,A9 z6)) BJ
     have a9:=AC.put ok (o:=A9 (Aw (.slice (some ⟨h4.size,0,none⟩) 1 1) 0)) Kt
     refine D6 (h':=h5.setIfInBounds y8 (A9 (Aw (.slice (some ⟨h4.size,0,none⟩) 1 1) 0))) 13 rfl (by kernel_rfl) rfl rfl rfl (fun ρ Q X Aa hq=>B6 (vs:=Aw (.slice (some ⟨h4.size,0,none⟩) 1 1) 0) (Aa _ _ rfl) (Aa _ _ rfl) AP BM (A3 (c:=z6) g8 rfl (fun _=>AC.free (.inr (.inl ⟨_,BJ,rfl⟩)))) (by rw [Au (c:=z6) (vs:=Aw (.slice (some ⟨h4.size,0,none⟩) 1 1) 0) g8 (by rw [AP];rfl)];exact hq)) ?_
     refine BF ?_
     (repeat refine AQ ?_)
     exact BD (vs:=Aw (.slice (some ⟨h4.size,0,none⟩) 1 1) 0) rfl rfl AP (C0 (by exact a9.own (q:=(y8,A9 (Aw (.slice (some ⟨h4.size,0,none⟩) 1 1) 0))) BJ)) ⟨γ,_,[w],_,0,rfl,rfl,HM,(a9.drop ok).drop ok,gb⟩
   ·repeat(first|refine AI ?_|refine AH ?_|refine AE ?_|refine Ar ?_|refine Ak ?_|refine AV ?_|refine Aq ?_|refine Az ?_|refine Df ?_|refine Bl ?_|refine Bs ?_|refine Bg ?_|refine BU ?_|refine Am ?_)
    refine D7 (fun h'=>AF h' ⟨d.hb i,0,none⟩=some (ptr (γ.p.tb i))/\AF h' ⟨y6,3,none⟩=some (.int .i64 q.c)) 13 ?_
    refine AU 0 hZ ?_
    refine AU 1 hZ ?_
    refine BE 2 hZ ?_
    refine Ag 3 hZ ?_
    refine A8 4 (fun _ hz=>hz.1) hZ ?_
    refine AU 5 hZ ?_
    refine Ag 6 hZ ?_
    refine A8 7 (fun _ hz=>hz.2) hZ ?_
    refine CQ (v:=.agg #[.int .i64 (-1),.int .i64 q.c]) (h':=h2) 8 rfl (by kernel_rfl) (fun ρ Q X Aa hq=>De (parts:=[(0,.int .i64 (-1)),(1,.int .i64 q.c)]) Aa rfl rfl hq) hZ ?_
    by_cases CO:0<=q.a/\q.a<d.c.nC
    ·obtain⟨z,hz⟩:∃z:Nat,q.a=z:=⟨q.a.toNat,by omega⟩
     have MD:z<d.c.nC:=by omega
     rw [ML hz MD]
     rw [if_pos (show PE d.c.nC q from CO),hz]at a2
     have a2:=a2.cast (p':=FD z (-1) q.c fun b=>kk [if b then 1 else 0] 0) (by first|rfl|(unfold FD;rw [if_neg (by omega),if_neg (by omega)]))
     refine Gc 9 rfl (by kernel_rfl) rfl rfl rfl rfl rfl rfl (Oi ok a2 MD rfl) (fun _ _ _ y=>y) ?_
     rintro _ h4 MC ⟨Pk,u4,b,rfl,rfl,a4,HD⟩
     refine⟨E9 a4 m6 HD.th,?_⟩
     have hZ:=E9 a4 m6 HD.th
     refine FE 10 rfl (by kernel_rfl) rfl rfl rfl rfl rfl rfl P5 hZ ?_
     obtain⟨w,hw⟩:∃w:Int,w=(if b=true then 1 else 0):=⟨_,rfl⟩
     have AA:=a4.cast (p':=kk [w] 0) (by rw [hw];first|done|rfl)
     rw [<-hw]
     have AB:=AA.keep ok (Cy [w])
     have gb:=HD.Ek (h4.size,Cy [w])
     have HM:KL ({u4 with kept:=u4.kept++[(h4.size,Cy [w])]}:CV).kept [w] (.slice (some ⟨h4.size,0,none⟩) 1 1):=.inr ⟨h4.size,rfl,BX _ (DD.2 rfl)⟩
     have hZ:=E9 AB m6 HD.th
     refine CQ (v:=.slice (some ⟨h4.size,0,none⟩) 1 1) (h':=h4.push (Cy [w])) 11 rfl (by kernel_rfl) (fun ρ Q X Aa hq=>BW (sz:=1) (z:=.int .i64 0) Aa rfl (by omega) (by omega) rfl rfl hq) hZ ?_
     refine Bj 12 rfl (by kernel_rfl) rfl rfl rfl rfl rfl rfl (Eg fun _ hb _=>AB.free (.inr (.inr hb))) ?_
     rintro _ h5 Qi ⟨rfl,u5,rfl⟩
     have AC:=AB.A5 ok u5
     refine⟨E9 AC m6 HD.th,?_⟩
     have g8:=AC.own (q:=(y8,A9 z6)) BJ
     have a9:=AC.put ok (o:=A9 (Aw (.slice (some ⟨h4.size,0,none⟩) 1 1) 0)) Kt
     refine D6 (h':=h5.setIfInBounds y8 (A9 (Aw (.slice (some ⟨h4.size,0,none⟩) 1 1) 0))) 13 rfl (by kernel_rfl) rfl rfl rfl (fun ρ Q X Aa hq=>B6 (vs:=Aw (.slice (some ⟨h4.size,0,none⟩) 1 1) 0) (Aa _ _ rfl) (Aa _ _ rfl) AP BM (A3 (c:=z6) g8 rfl (fun _=>AC.free (.inr (.inl ⟨_,BJ,rfl⟩)))) (by rw [Au (c:=z6) (vs:=Aw (.slice (some ⟨h4.size,0,none⟩) 1 1) 0) g8 (by rw [AP];rfl)];exact hq)) ?_
     refine BF ?_
     (repeat refine AQ ?_)
     exact BD (vs:=Aw (.slice (some ⟨h4.size,0,none⟩) 1 1) 0) rfl rfl AP (C0 (by exact a9.own (q:=(y8,A9 (Aw (.slice (some ⟨h4.size,0,none⟩) 1 1) 0))) BJ)) ⟨Pk,_,[w],_,0,rfl,rfl,HM,(a9.drop ok).drop ok,gb⟩
    ·rw [J4 CO]
     rw [if_neg (show ¬PE d.c.nC q from CO)]at a2
     refine Bj 9 rfl (by kernel_rfl) rfl rfl rfl rfl rfl rfl LL ?_
     rintro _ h4 MC ⟨rfl,nk,rfl⟩
     have a4:=a2.A5 ok nk
     refine⟨E9 a4 m6 rfl,?_⟩
     have hZ:=E9 a4 m6 rfl
     have HD:=Xi
     refine FE 10 rfl (by kernel_rfl) rfl rfl rfl rfl rfl rfl P5 hZ ?_
     obtain⟨w,hw⟩:∃w:Int,w=(if false=true then 1 else 0):=⟨_,rfl⟩
     have AA:=a4.cast (p':=kk [w] 0) (by rw [hw];first|done|rfl)
     rw [<-hw]
     have AB:=AA.keep ok (Cy [w])
     have gb:=HD.Ek (h4.size,Cy [w])
     have HM:KL ({u with kept:=u.kept++[(h4.size,Cy [w])]}:CV).kept [w] (.slice (some ⟨h4.size,0,none⟩) 1 1):=.inr ⟨h4.size,rfl,BX _ (DD.2 rfl)⟩
     have hZ:=E9 AB m6 HD.th
     refine CQ (v:=.slice (some ⟨h4.size,0,none⟩) 1 1) (h':=h4.push (Cy [w])) 11 rfl (by kernel_rfl) (fun ρ Q X Aa hq=>BW (sz:=1) (z:=.int .i64 0) Aa rfl (by omega) (by omega) rfl rfl hq) hZ ?_
     refine Bj 12 rfl (by kernel_rfl) rfl rfl rfl rfl rfl rfl (Eg fun _ hb _=>AB.free (.inr (.inr hb))) ?_
     rintro _ h5 Qi ⟨rfl,u5,rfl⟩
     have AC:=AB.A5 ok u5
     refine⟨E9 AC m6 HD.th,?_⟩
     have g8:=AC.own (q:=(y8,A9 z6)) BJ
     have a9:=AC.put ok (o:=A9 (Aw (.slice (some ⟨h4.size,0,none⟩) 1 1) 0)) Kt
     refine D6 (h':=h5.setIfInBounds y8 (A9 (Aw (.slice (some ⟨h4.size,0,none⟩) 1 1) 0))) 13 rfl (by kernel_rfl) rfl rfl rfl (fun ρ Q X Aa hq=>B6 (vs:=Aw (.slice (some ⟨h4.size,0,none⟩) 1 1) 0) (Aa _ _ rfl) (Aa _ _ rfl) AP BM (A3 (c:=z6) g8 rfl (fun _=>AC.free (.inr (.inl ⟨_,BJ,rfl⟩)))) (by rw [Au (c:=z6) (vs:=Aw (.slice (some ⟨h4.size,0,none⟩) 1 1) 0) g8 (by rw [AP];rfl)];exact hq)) ?_
     refine BF ?_
     (repeat refine AQ ?_)
     exact BD (vs:=Aw (.slice (some ⟨h4.size,0,none⟩) 1 1) 0) rfl rfl AP (C0 (by exact a9.own (q:=(y8,A9 (Aw (.slice (some ⟨h4.size,0,none⟩) 1 1) 0))) BJ)) ⟨γ,_,[w],_,0,rfl,rfl,HM,(a9.drop ok).drop ok,gb⟩
  ·repeat(first|refine AI ?_|refine AH ?_|refine AE ?_|refine Ar ?_|refine Ak ?_|refine AV ?_|refine Aq ?_|refine Az ?_|refine Df ?_|refine CW ?_|refine Bd ?_|refine Bs ?_|refine Bg ?_|refine BU ?_|refine Am ?_)
   refine D7 (fun h'=>AF h' ⟨d.hb i,0,none⟩=some (ptr (γ.p.tb i))/\AF h' ⟨y6,3,none⟩=some (.int .i64 q.c)) 13 ?_
   refine AU 0 hZ ?_
   refine AU 1 hZ ?_
   refine BE 2 hZ ?_
   refine Ag 3 hZ ?_
   refine A8 4 (fun _ hz=>hz.1) hZ ?_
   refine AU 5 hZ ?_
   refine Ag 6 hZ ?_
   refine A8 7 (fun _ hz=>hz.2) hZ ?_
   refine CQ (v:=.agg #[.int .i64 (-1),.int .i64 q.c]) (h':=h2) 8 rfl (by kernel_rfl) (fun ρ Q X Aa hq=>De (parts:=[(0,.int .i64 (-1)),(1,.int .i64 q.c)]) Aa rfl rfl hq) hZ ?_
   by_cases CO:0<=q.a/\q.a<d.c.nC
   ·obtain⟨z,hz⟩:∃z:Nat,q.a=z:=⟨q.a.toNat,by omega⟩
    have MD:z<d.c.nC:=by omega
    rw [ML hz MD]
    rw [if_pos (show PE d.c.nC q from CO),hz]at a2
    have a2:=a2.cast (p':=FD z (-1) q.c fun b=>kk [if b then 1 else 0] 0) (by first|rfl|(unfold FD;rw [if_neg (by omega),if_neg (by omega)]))
    refine Gc 9 rfl (by kernel_rfl) rfl rfl rfl rfl rfl rfl (Oi ok a2 MD rfl) (fun _ _ _ y=>y) ?_
    rintro _ h4 MC ⟨Pk,u4,b,rfl,rfl,a4,HD⟩
    refine⟨E9 a4 m6 HD.th,?_⟩
    have hZ:=E9 a4 m6 HD.th
    refine FE 10 rfl (by kernel_rfl) rfl rfl rfl rfl rfl rfl P5 hZ ?_
    obtain⟨w,hw⟩:∃w:Int,w=(if b=true then 1 else 0):=⟨_,rfl⟩
    have AA:=a4.cast (p':=kk [w] 0) (by rw [hw];first|done|rfl)
    rw [<-hw]
    have AB:=AA.keep ok (Cy [w])
    have gb:=HD.Ek (h4.size,Cy [w])
    have HM:KL ({u4 with kept:=u4.kept++[(h4.size,Cy [w])]}:CV).kept [w] (.slice (some ⟨h4.size,0,none⟩) 1 1):=.inr ⟨h4.size,rfl,BX _ (DD.2 rfl)⟩
    have hZ:=E9 AB m6 HD.th
    refine CQ (v:=.slice (some ⟨h4.size,0,none⟩) 1 1) (h':=h4.push (Cy [w])) 11 rfl (by kernel_rfl) (fun ρ Q X Aa hq=>BW (sz:=1) (z:=.int .i64 0) Aa rfl (by omega) (by omega) rfl rfl hq) hZ ?_
    refine Bj 12 rfl (by kernel_rfl) rfl rfl rfl rfl rfl rfl (Eg fun _ hb _=>AB.free (.inr (.inr hb))) ?_
    rintro _ h5 Qi ⟨rfl,u5,rfl⟩
    have AC:=AB.A5 ok u5
    refine⟨E9 AC m6 HD.th,?_⟩
    have g8:=AC.own (q:=(y8,A9 z6)) BJ
    have a9:=AC.put ok (o:=A9 (Aw (.slice (some ⟨h4.size,0,none⟩) 1 1) 0)) Kt
    refine D6 (h':=h5.setIfInBounds y8 (A9 (Aw (.slice (some ⟨h4.size,0,none⟩) 1 1) 0))) 13 rfl (by kernel_rfl) rfl rfl rfl (fun ρ Q X Aa hq=>B6 (vs:=Aw (.slice (some ⟨h4.size,0,none⟩) 1 1) 0) (Aa _ _ rfl) (Aa _ _ rfl) AP BM (A3 (c:=z6) g8 rfl (fun _=>AC.free (.inr (.inl ⟨_,BJ,rfl⟩)))) (by rw [Au (c:=z6) (vs:=Aw (.slice (some ⟨h4.size,0,none⟩) 1 1) 0) g8 (by rw [AP];rfl)];exact hq)) ?_
    refine BF ?_
    (repeat refine AQ ?_)
    exact BD (vs:=Aw (.slice (some ⟨h4.size,0,none⟩) 1 1) 0) rfl rfl AP (C0 (by exact a9.own (q:=(y8,A9 (Aw (.slice (some ⟨h4.size,0,none⟩) 1 1) 0))) BJ)) ⟨Pk,_,[w],_,0,rfl,rfl,HM,(a9.drop ok).drop ok,gb⟩
   ·rw [J4 CO]
    rw [if_neg (show ¬PE d.c.nC q from CO)]at a2
    refine Bj 9 rfl (by kernel_rfl) rfl rfl rfl rfl rfl rfl LL ?_
    rintro _ h4 MC ⟨rfl,nk,rfl⟩
    have a4:=a2.A5 ok nk
    refine⟨E9 a4 m6 rfl,?_⟩
    have hZ:=E9 a4 m6 rfl
    have HD:=Xi
    refine FE 10 rfl (by kernel_rfl) rfl rfl rfl rfl rfl rfl P5 hZ ?_
    obtain⟨w,hw⟩:∃w:Int,w=(if false=true then 1 else 0):=⟨_,rfl⟩
    have AA:=a4.cast (p':=kk [w] 0) (by rw [hw];first|done|rfl)
    rw [<-hw]
    have AB:=AA.keep ok (Cy [w])
    have gb:=HD.Ek (h4.size,Cy [w])
    have HM:KL ({u with kept:=u.kept++[(h4.size,Cy [w])]}:CV).kept [w] (.slice (some ⟨h4.size,0,none⟩) 1 1):=.inr ⟨h4.size,rfl,BX _ (DD.2 rfl)⟩
    have hZ:=E9 AB m6 HD.th
    refine CQ (v:=.slice (some ⟨h4.size,0,none⟩) 1 1) (h':=h4.push (Cy [w])) 11 rfl (by kernel_rfl) (fun ρ Q X Aa hq=>BW (sz:=1) (z:=.int .i64 0) Aa rfl (by omega) (by omega) rfl rfl hq) hZ ?_
    refine Bj 12 rfl (by kernel_rfl) rfl rfl rfl rfl rfl rfl (Eg fun _ hb _=>AB.free (.inr (.inr hb))) ?_
    rintro _ h5 Qi ⟨rfl,u5,rfl⟩
    have AC:=AB.A5 ok u5
    refine⟨E9 AC m6 HD.th,?_⟩
    have g8:=AC.own (q:=(y8,A9 z6)) BJ
    have a9:=AC.put ok (o:=A9 (Aw (.slice (some ⟨h4.size,0,none⟩) 1 1) 0)) Kt
    refine D6 (h':=h5.setIfInBounds y8 (A9 (Aw (.slice (some ⟨h4.size,0,none⟩) 1 1) 0))) 13 rfl (by kernel_rfl) rfl rfl rfl (fun ρ Q X Aa hq=>B6 (vs:=Aw (.slice (some ⟨h4.size,0,none⟩) 1 1) 0) (Aa _ _ rfl) (Aa _ _ rfl) AP BM (A3 (c:=z6) g8 rfl (fun _=>AC.free (.inr (.inl ⟨_,BJ,rfl⟩)))) (by rw [Au (c:=z6) (vs:=Aw (.slice (some ⟨h4.size,0,none⟩) 1 1) 0) g8 (by rw [AP];rfl)];exact hq)) ?_
    refine BF ?_
    (repeat refine AQ ?_)
    exact BD (vs:=Aw (.slice (some ⟨h4.size,0,none⟩) 1 1) 0) rfl rfl AP (C0 (by exact a9.own (q:=(y8,A9 (Aw (.slice (some ⟨h4.size,0,none⟩) 1 1) 0))) BJ)) ⟨γ,_,[w],_,0,rfl,rfl,HM,(a9.drop ok).drop ok,gb⟩
 rw [if_neg Rx]at a2
 by_cases ag:q.op=13
 ·rw [ag]at Qn
  rw [if_pos ag]at a2
  have E9:∀{Ae:GG (XC d)} {u':CV} {L':List (Nat×Obj)} {h':Hp} {p:PA},C8 d i Ae u' L' h' p->(y6,Bo q)∈L'->u'.th i=u.th i->AF h' ⟨d.hb i,0,none⟩=some (ptr (γ.p.tb i))/\AF h' ⟨y6,2,none⟩=some (.int .i64 q.b):=fun {Ae u' L' h' dl} b hb hu=>by
   have g:=b.own hb
   have g2:=b.I.IM i EN
   rw [hu,Mz]at g2
   exact⟨AD g2 rfl,AD g rfl⟩
  have m6:(y6,Bo q)∈(y8,A9 z6)::(y6,Bo q)::L:=C2 _ BJ
  have hZ:=E9 a2 m6 rfl
  by_cases CO:0<=q.a/\q.a<d.c.nC
  ·obtain⟨z,hz⟩:∃z:Nat,q.a=z:=⟨q.a.toNat,by omega⟩
   have MD:z<d.c.nC:=by omega
   rw [ML hz MD]
   rw [if_pos (show PE d.c.nC q from CO),hz]at a2
   change C8 d i γ u ((y8,A9 z6)::(y6,Bo q)::L) h2 (if q.b<0 then(fun n e=>kk [n] e) (0:Int) (1:Int)else EH d.c.sc d.c.nC d.c.nK m z q.b fun n e=>kk [n] e)at a2
   repeat(first|refine AI ?_|refine AH ?_|refine AE ?_|refine Ak ?_|refine Aq ?_|refine Az ?_|refine Df ?_|refine Bs ?_|refine Bg ?_|refine BU ?_|refine Am ?_)
   refine BO (fun h'=>AF h' ⟨d.hb i,0,none⟩=some (ptr (γ.p.tb i))/\AF h' ⟨y6,2,none⟩=some (.int .i64 q.b)) ?_
   refine AU 0 hZ ?_
   refine AU 1 hZ ?_
   refine BE 2 hZ ?_
   refine Ag 3 hZ ?_
   refine A8 4 (fun _ hz=>hz.1) hZ ?_
   refine Ag 5 hZ ?_
   refine A8 6 (fun _ hz=>hz.2) hZ ?_
   refine Gc 7 rfl (by kernel_rfl) rfl rfl rfl rfl rfl rfl (dq ok hR a2 PK MD rfl Mz W6) (fun _ _ _ y=>y) ?_
   rintro _ h4 MC ⟨Pk,u4,r,e,rfl,rfl,a4,HD⟩
   refine⟨E9 a4 m6 HD.th,?_⟩
   have hZ:=E9 a4 m6 HD.th
   refine AU 8 hZ ?_
   refine Ed 9 rfl (by kernel_rfl) rfl rfl rfl rfl rfl hZ ?_
   refine Ed 10 rfl (by kernel_rfl) rfl rfl rfl rfl rfl hZ ?_
   refine Dp 11 hZ ?_
   refine Dp 12 hZ ?_
   refine BF ?_
   repeat(first|refine AI ?_|refine AH ?_|refine AV ?_)
   refine Q8 (by rfl) rfl rfl rfl (fun _ z=>by cases z) ?_
   (repeat refine AV ?_)
   refine Fv (sz:=1) (z:=.int .i64 0) (cells:=#[.int .i64 r]) ?_
   have AB:=a4.keep ok (Cy [r])
   have gb:=HD.Ek (h4.size,Cy [r])
   have HM:KL ({u4 with kept:=u4.kept++[(h4.size,Cy [r])]}:CV).kept [r] (.slice (some ⟨h4.size,0,none⟩) ([r]).length ([r]).length):=.inr ⟨h4.size,rfl,BX _ (DD.2 rfl)⟩
   change ER _ _ _ _ _ _ _ _ _ _ (h4.push (Cy [r])) _ _
   skip
   refine BV rfl (LK fun _ hb _=>AB.free (.inr (.inr hb))) ?_
   rintro _ h5 Qi ⟨rfl,u5,rfl⟩
   have AC:=AB.A5 ok u5
   have g8:=AC.own (q:=(y8,A9 z6)) BJ
   refine Bz (vs:=Aw (.slice (some ⟨h4.size,0,none⟩) 1 1) e) rfl AP BM (A3 (c:=z6) g8 rfl (fun _=>AC.free (.inr (.inl ⟨_,BJ,rfl⟩)))) ?_
   rw [Au (c:=z6) (vs:=Aw (.slice (some ⟨h4.size,0,none⟩) 1 1) e) g8 (by rw [AP];rfl)]
   have a9:=AC.put ok (o:=A9 (Aw (.slice (some ⟨h4.size,0,none⟩) 1 1) e)) Kt
   repeat(first|refine AE ?_|refine AQ ?_)
   exact BD (vs:=Aw (.slice (some ⟨h4.size,0,none⟩) 1 1) e) rfl rfl AP (C0 (by exact a9.own (q:=(y8,A9 (Aw (.slice (some ⟨h4.size,0,none⟩) 1 1) e))) BJ)) ⟨Pk,_,[r],(.slice (some ⟨h4.size,0,none⟩) 1 1),e,rfl,rfl,HM,(a9.drop ok).drop ok,gb⟩
  ·rw [J4 CO]
   obtain⟨r,hr⟩:∃r:Int,r=0:=⟨_,rfl⟩
   obtain⟨e,he⟩:∃r:Int,r=2:=⟨_,rfl⟩
   rw [if_neg (show ¬PE d.c.nC q from CO)]at a2
   obtain⟨h4,h24⟩:∃h4,h4=h2:=⟨_,rfl⟩
   have a4:=a2.cast (p':=kk [r] e) (by rw [hr,he])
   rw [<-h24]at a4
   have XB:=Wu (main:=false) (S:=ED Tryz.prog (PX (XC d)) (i+1)) (h:=h2) (δ:=⟨0,γ⟩) (t:=ptr (γ.p.tb i)) (x:=q.b)
   rw [<-hr,<-he]at XB
   repeat(first|refine AI ?_|refine AH ?_|refine AE ?_|refine Ak ?_|refine Aq ?_|refine Az ?_|refine Df ?_|refine Bs ?_|refine Bg ?_|refine BU ?_|refine Am ?_)
   refine BO (fun h'=>AF h' ⟨d.hb i,0,none⟩=some (ptr (γ.p.tb i))/\AF h' ⟨y6,2,none⟩=some (.int .i64 q.b)) ?_
   refine AU 0 hZ ?_
   refine AU 1 hZ ?_
   refine BE 2 hZ ?_
   refine Ag 3 hZ ?_
   refine A8 4 (fun _ hz=>hz.1) hZ ?_
   refine Ag 5 hZ ?_
   refine A8 6 (fun _ hz=>hz.2) hZ ?_
   refine FE 7 rfl (by kernel_rfl) rfl rfl rfl rfl rfl rfl XB hZ ?_
   rw [<-h24]at hZ⊢
   have HD:=Xi
   refine AU 8 hZ ?_
   refine Ed 9 rfl (by kernel_rfl) rfl rfl rfl rfl rfl hZ ?_
   refine Ed 10 rfl (by kernel_rfl) rfl rfl rfl rfl rfl hZ ?_
   refine Dp 11 hZ ?_
   refine Dp 12 hZ ?_
   refine BF ?_
   repeat(first|refine AI ?_|refine AH ?_|refine AV ?_)
   refine Q8 (by rfl) rfl rfl rfl (fun _ z=>by cases z) ?_
   (repeat refine AV ?_)
   refine Fv (sz:=1) (z:=.int .i64 0) (cells:=#[.int .i64 r]) ?_
   have AB:=a4.keep ok (Cy [r])
   have gb:=HD.Ek (h4.size,Cy [r])
   have HM:KL ({u with kept:=u.kept++[(h4.size,Cy [r])]}:CV).kept [r] (.slice (some ⟨h4.size,0,none⟩) ([r]).length ([r]).length):=.inr ⟨h4.size,rfl,BX _ (DD.2 rfl)⟩
   change ER _ _ _ _ _ _ _ _ _ _ (h4.push (Cy [r])) _ _
   skip
   refine BV rfl (LK fun _ hb _=>AB.free (.inr (.inr hb))) ?_
   rintro _ h5 Qi ⟨rfl,u5,rfl⟩
   have AC:=AB.A5 ok u5
   have g8:=AC.own (q:=(y8,A9 z6)) BJ
   refine Bz (vs:=Aw (.slice (some ⟨h4.size,0,none⟩) 1 1) e) rfl AP BM (A3 (c:=z6) g8 rfl (fun _=>AC.free (.inr (.inl ⟨_,BJ,rfl⟩)))) ?_
   rw [Au (c:=z6) (vs:=Aw (.slice (some ⟨h4.size,0,none⟩) 1 1) e) g8 (by rw [AP];rfl)]
   have a9:=AC.put ok (o:=A9 (Aw (.slice (some ⟨h4.size,0,none⟩) 1 1) e)) Kt
   repeat(first|refine AE ?_|refine AQ ?_)
   exact BD (vs:=Aw (.slice (some ⟨h4.size,0,none⟩) 1 1) e) rfl rfl AP (C0 (by exact a9.own (q:=(y8,A9 (Aw (.slice (some ⟨h4.size,0,none⟩) 1 1) e))) BJ)) ⟨γ,_,[r],(.slice (some ⟨h4.size,0,none⟩) 1 1),e,rfl,rfl,HM,(a9.drop ok).drop ok,gb⟩
 ·rw [if_neg ag,if_neg fun z=>by omega]at a2
  repeat(first|refine AI ?_|refine AH ?_|refine AE ?_|refine Ar ?_|refine Ak ?_|refine Bb ?_|refine Aq ?_|refine Az ?_|refine Df ?_|refine Bg ?_|refine Am ?_)
  refine Ep (cells:=(Aw AK 0).toArray) ?_
  have AC:=a2
  have g8:=AC.own (q:=(y8,A9 z6)) BJ
  refine Bz (vs:=Aw AK 0) rfl AP BM (A3 (c:=z6) g8 rfl (fun _=>AC.free (.inr (.inl ⟨_,BJ,rfl⟩)))) ?_
  rw [Au (c:=z6) (vs:=Aw AK 0) g8 (by rw [AP];rfl)]
  have a9:=AC.put ok (o:=A9 (Aw AK 0)) Kt
  repeat(first|refine AE ?_|refine AQ ?_)
  exact BD (vs:=Aw AK 0) rfl rfl AP (C0 (by exact a9.own (q:=(y8,A9 (Aw AK 0))) BJ)) ⟨γ,_,[],AK,0,rfl,rfl,(.inl ⟨rfl,rfl⟩),(a9.drop ok).drop ok,Xi⟩
end
end
section
section
variable{d:CD}{x:ao}{u u' u1 u2:CV}{h h' h1:Hp}{i:Nat}{γ Ae E5 KF:GG (XC d)}{L L':List (Nat×Obj)}{p:PA}{t id m y:Nat}{H:List (Nat×Int)}{q:BH}
theorem Hh.one{s:Value}{vs:List Value}(r:Hh h s vs){z:Nat}{v:Value}(hv:vs[z]?=some v):∃b o k,s= .slice (some ⟨b,o,none⟩) vs.length k/\∀h':Hp,Hh h' s vs->AF h' ⟨b,o+z*1,none⟩=some v:=by
 obtain⟨b,o,k,e,-⟩:=r.cell z v hv
 refine⟨b,o,k,e,fun h' r'=>?_⟩
 obtain⟨b',o',k',e',hc⟩:=r'.cell z v hv
 rw [e]at e'
 cases e'
 exact hc
theorem lJ(E:NK d x)(hR:∀m',m'<m->SR d i m'){k:Nat}{kk:List Int->Int->PA}(a:C8 d i γ u L h (E1 d.c.sc d.c.nC d.c.nK (EH d.c.sc d.c.nC d.c.nK m) k q kk))(PK:GO d.c (u.hold i)<=m)(Mz:u.th i=ptr (γ.p.tb i))(W6:(u.told i).length<=31*DJ i γ+31):AY Tryz.prog false (ED Tryz.prog (PX (XC d)) (i+1)) 38 #[ptr d.c.w,ptr (d.hb i),.agg (By q).toArray,.int .i64 k] h ⟨0,γ⟩ (Ge (qo d i γ u kk L) (Halt (XC d) i γ.p)):=by
 have ok:=E.ok
 have EN:i<64:=F0 a.lt ok.nT
 obtain⟨y6,Rr⟩:∃y,y=h.size:=⟨_,rfl⟩
 obtain⟨y8,Qj⟩:∃y,y=(h.push (Bo q)).size:=⟨_,rfl⟩
 have a2:=(a.alloc ok (Bo q)).alloc ok (A9 z6)
 have Kt:=(a.alloc ok (Bo q)).fresh
 refine CK (n:=58) ?_
 refine AI ?_
 refine AH ?_
 refine DO ?_
 refine Cn ?_
 refine AE ?_
 change EK _ _ _ _ _ _ _ _ ((h.push (Bo q)).push (A9 z6)) _ _
 change EK _ _ _ _ _ _ ((8,ptr (h.push (Bo q)).size)::(6,ptr h.size)::_) _ _ _ _
 rw [<-Qj]at a2 Kt⊢
 rw [<-Rr]at a2 Kt⊢
 generalize (h.push (Bo q)).push (A9 z6)=h2 at a2⊢
 have g6:=a2.own (q:=(y6,Bo q)) (C2 _ BJ)
 have Qn:AF h2 ⟨y6,0,none⟩=some (.int .i64 q.op):=AD g6 rfl
 have V3:AF h2 ⟨y6,1,none⟩=some (.int .i64 q.a):=AD g6 rfl
 have Rt:=a2.I.IM i EN
 rw [Mz]at Rt
 have cH:AF h2 ⟨d.hb i,0,none⟩=some (ptr (γ.p.tb i)):=AD Rt rfl
 have Xi:=JK.refl d i γ u
 have N:=a2.wd E
 by_cases G6:10<=q.op/\q.op<20
 ·obtain⟨Qu,Qt⟩:=G6
  repeat(first|refine AI ?_|refine AH ?_|refine AE ?_|refine Ak ?_|refine AV ?_|refine Aq ?_|refine Az ?_|refine Df ?_|refine Bl ?_|refine Bs ?_|refine BU ?_)
  refine C5 (vs:=By q) rfl (C0 (by exact g6)) ?_
  (repeat refine AV ?_)
  refine Dr rfl rfl rfl rfl rfl (dj E hR ⟨Qu,Qt⟩ a2 PK Mz W6) (fun _ _ _ y=>y) ?_
  rintro _ h3 Hz ⟨KT,u3,vs,vv,e,rfl,rfl,XV,AC,JE⟩
  obtain⟨va,vl,vc,rfl⟩:∃va vl vc,vv= .slice va vl vc:=by
   rcases XV with⟨-,rfl⟩|⟨b,rfl,-⟩
   ·exact⟨_,_,_,rfl⟩
   ·exact⟨_,_,_,rfl⟩
  have g8:=AC.own (q:=(y8,A9 z6)) BJ
  refine Bz (vs:=Aw (.slice va vl vc) e) rfl AP BM (A3 (c:=z6) g8 rfl (fun _=>AC.free (.inr (.inl ⟨_,BJ,rfl⟩)))) ?_
  rw [Au (c:=z6) (vs:=Aw (.slice va vl vc) e) g8 (by rw [AP];rfl)]
  have a9:=AC.put ok (o:=A9 (Aw (.slice va vl vc) e)) Kt
  repeat(first|refine AE ?_|refine AQ ?_)
  exact BD (vs:=Aw (.slice va vl vc) e) rfl rfl AP (C0 (by exact a9.own (q:=(y8,A9 (Aw (.slice va vl vc) e))) BJ)) ⟨KT,_,vs,(.slice va vl vc),e,rfl,rfl,XV,(a9.drop ok).drop ok,JE⟩
 have Rv:E1 d.c.sc d.c.nC d.c.nK (EH d.c.sc d.c.nC d.c.nK m) k q kk=if q.op=102/\0<=q.a/\q.a<d.c.nK then .step ⟨4,ck q.a.toNat,1,0⟩ fun w=>kk [IntKind.i64.wrap (w+1)] 0 else kk [] 0:=by
  unfold E1
  rw [if_neg (by omega),if_neg (by omega),if_neg (by omega),if_neg (by omega)]
 rw [Rv]at a2
 clear Rv
 have cK:=N.w.2.2.1
 obtain⟨av,kv,ev⟩:=N.K.val
 rw [Ca,List.length_range]at ev
 by_cases Tv:q.op=102
 ·rw [Tv]at Qn
  by_cases aX:0<=q.a
  ·by_cases aU:q.a<d.c.nK
   ·obtain⟨z,hz⟩:∃z:Nat,q.a=z:=⟨q.a.toNat,by omega⟩
    have MD:z<d.c.nK:=by omega
    rw [if_pos ⟨Tv,aX,aU⟩,hz]at a2
    change C8 d i γ u ((y8,A9 z6)::(y6,Bo q)::L) h2 (.step ⟨4,ck z,1,0⟩ fun w=>kk [IntKind.i64.wrap (w+1)] 0)at a2
    rw [hz]at V3 aX aU
    obtain⟨b,o,kk,e,lA⟩:=N.K.one (z:=z) (v:=ptr (d.c.K z)) (by rw [EQ,List.getElem?_range MD];rfl)
    rw [Ca,List.length_range]at e
    have E9:∀{Ae:GG (XC d)} {u':CV} {L':List (Nat×Obj)} {h':Hp} {p:PA},C8 d i Ae u' L' h' p->(y6,Bo q)∈L'->u'.th i=u.th i->AF h' ⟨d.hb i,0,none⟩=some (ptr (γ.p.tb i))/\AF h' ⟨y6,0,none⟩=some (.int .i64 102)/\AF h' ⟨y6,1,none⟩=some (.int .i64 z)/\AF h' ⟨d.c.w,14,none⟩=some (.slice (some ⟨b,o,none⟩) d.c.nK kk)/\AF h' ⟨b,o+z*1,none⟩=some (ptr (d.c.K z)):=fun {Ae u' L' h' dl} b hb hu=>by
     have g:=b.own hb
     have g2:=b.I.IM i EN
     rw [hu,Mz]at g2
     have N':=b.wd E
     refine⟨AD g2 rfl,?_,?_,by rw [<-e];exact N'.w.2.2.1,lA _ N'.K⟩
     ·rw [<-Tv];exact AD g rfl
     ·rw [<-hz];exact AD g rfl
    have m6:(y6,Bo q)∈(y8,A9 z6)::(y6,Bo q)::L:=C2 _ BJ
    have hZ:=E9 a2 m6 rfl
    clear cK V3 cH ev
    repeat(first|refine AI ?_|refine AH ?_|refine AE ?_|refine Ak ?_|refine AV ?_|refine Aq ?_|refine Az ?_|refine Df ?_|refine Bl ?_|refine Bs ?_|refine Bg ?_|refine Am ?_)
    refine BO (fun h'=>AF h' ⟨d.hb i,0,none⟩=some (ptr (γ.p.tb i))/\AF h' ⟨y6,0,none⟩=some (.int .i64 102)/\AF h' ⟨y6,1,none⟩=some (.int .i64 z)/\AF h' ⟨d.c.w,14,none⟩=some (.slice (some ⟨b,o,none⟩) d.c.nK kk)/\AF h' ⟨b,o+z*1,none⟩=some (ptr (d.c.K z))) ?_
    refine Ag 0 hZ ?_
    refine A8 1 (fun _ hz=>hz.2.1) hZ ?_
    refine G8 2 hZ ?_
    refine AU 3 hZ ?_
    refine Ag 4 hZ ?_
    refine A8 5 (fun _ hz=>hz.2.2.1) hZ ?_
    refine G8 6 hZ ?_
    refine IR 7 hZ ?_
    refine AU 8 hZ ?_
    refine Ag 9 hZ ?_
    refine A8 10 (fun _ hz=>hz.2.2.1) hZ ?_
    refine AU 11 hZ ?_
    refine BE 12 hZ ?_
    refine Ag 13 hZ ?_
    refine A8 14 (fun _ hz=>hz.2.2.2.1) hZ ?_
    refine Er 15 rfl (by kernel_rfl) rfl rfl rfl rfl hZ ?_
    refine G8 16 hZ ?_
    refine IR 17 hZ ?_
    refine Dp 18 hZ ?_
    refine BF ?_
    repeat(first|refine AI ?_|refine BU ?_)
    refine D7 (fun h'=>AF h' ⟨d.hb i,0,none⟩=some (ptr (γ.p.tb i))/\AF h' ⟨y6,0,none⟩=some (.int .i64 102)/\AF h' ⟨y6,1,none⟩=some (.int .i64 z)/\AF h' ⟨d.c.w,14,none⟩=some (.slice (some ⟨b,o,none⟩) d.c.nK kk)/\AF h' ⟨b,o+z*1,none⟩=some (ptr (d.c.K z))) 15 ?_
    refine AU 0 hZ ?_
    refine BE 1 hZ ?_
    refine Ag 2 hZ ?_
    refine A8 3 (fun _ hz=>hz.2.2.2.1) hZ ?_
    refine Ag 4 hZ ?_
    refine A8 5 (fun _ hz=>hz.2.2.1) hZ ?_
    refine GP 6 hZ ?_
    refine A8 7 (fun _ hz=>hz.2.2.2.2) hZ ?_
    refine AU 8 hZ ?_
    refine BE 9 hZ ?_
    refine Ag 10 hZ ?_
    refine A8 11 (fun _ hz=>hz.1) hZ ?_
    refine Gc 12 rfl (by kernel_rfl) rfl rfl rfl rfl rfl rfl (r8 ok a2 (b:=d.c.K z) OL (.inr ⟨z,MD,rfl⟩) rfl) (fun _ _ _ y=>y) ?_
    rintro _ h4 MC ⟨Pk,u4,rfl,rfl,g4,hv4⟩
    obtain⟨w,hw⟩:∃w,w=IntKind.i64.wrap (Pk.p.val (d.c.K z)+1):=⟨_,rfl⟩
    rw [<-hw]at g4 hv4⊢
    clear hw
    have a4:=g4.plain ok hv4 (fun i' j' Dc Dm=>ok.c.K z i' _ MD Dc (by omega)) (fun i' Dc=>ok.c.K z i' _ MD Dc (by omega)) (.inl fun i' j' Dc Dm=>ok.c.K z i' _ MD Dc Dm)
    have HD:=g4.go
    refine⟨E9 a4 m6 HD.th,?_⟩
    have AB:=a4.keep ok (Cy [w])
    have gb:=HD.Ek (h4.size,Cy [w])
    have HM:KL ({u4 with kept:=u4.kept++[(h4.size,Cy [w])]}:CV).kept [w] (.slice (some ⟨h4.size,0,none⟩) 1 1):=.inr ⟨h4.size,rfl,BX _ (DD.2 rfl)⟩
    have hZ:=E9 AB m6 HD.th
    refine CQ (v:=.slice (some ⟨h4.size,0,none⟩) 1 1) (h':=h4.push (Cy [w])) 13 rfl (by kernel_rfl) (fun ρ Q X Aa hq=>BW (sz:=1) (z:=.int .i64 0) Aa rfl (by omega) (by omega) rfl rfl hq) hZ ?_
    refine Bj 14 rfl (by kernel_rfl) rfl rfl rfl rfl rfl rfl (Eg fun _ hb _=>AB.free (.inr (.inr hb))) ?_
    rintro _ h5 Qi ⟨rfl,u5,rfl⟩
    have AC:=AB.A5 ok u5
    refine⟨E9 AC m6 HD.th,?_⟩
    have g8:=AC.own (q:=(y8,A9 z6)) BJ
    have a9:=AC.put ok (o:=A9 (Aw (.slice (some ⟨h4.size,0,none⟩) 1 1) 0)) Kt
    refine D6 (h':=h5.setIfInBounds y8 (A9 (Aw (.slice (some ⟨h4.size,0,none⟩) 1 1) 0))) 15 rfl (by kernel_rfl) rfl rfl rfl (fun ρ Q X Aa hq=>B6 (vs:=Aw (.slice (some ⟨h4.size,0,none⟩) 1 1) 0) (Aa _ _ rfl) (Aa _ _ rfl) AP BM (A3 (c:=z6) g8 rfl (fun _=>AC.free (.inr (.inl ⟨_,BJ,rfl⟩)))) (by rw [Au (c:=z6) (vs:=Aw (.slice (some ⟨h4.size,0,none⟩) 1 1) 0) g8 (by rw [AP];rfl)];exact hq)) ?_
    refine BF ?_
    (repeat refine AQ ?_)
    exact BD (vs:=Aw (.slice (some ⟨h4.size,0,none⟩) 1 1) 0) rfl rfl AP (C0 (by exact a9.own (q:=(y8,A9 (Aw (.slice (some ⟨h4.size,0,none⟩) 1 1) 0))) BJ)) ⟨Pk,_,[w],_,0,rfl,rfl,HM,(a9.drop ok).drop ok,gb⟩
   ·rw [if_neg fun z=>aU z.2.2]at a2
    rw [ev]at cK
    repeat(first|refine AI ?_|refine AH ?_|refine AE ?_|refine Ak ?_|refine AV ?_|refine Aq ?_|refine Az ?_|refine Df ?_|refine Bl ?_|refine Bs ?_|refine Bg ?_|refine Am ?_)
    refine BO (fun h'=>h'=h2) ?_
    have hZ:h2=h2:=rfl
    refine Ag 0 hZ ?_
    refine D8 1 rfl (by kernel_rfl) (fun _ hz=>hz▸Qn) hZ ?_
    refine G8 2 hZ ?_
    refine AU 3 hZ ?_
    refine Ag 4 hZ ?_
    refine D8 5 rfl (by kernel_rfl) (fun _ hz=>hz▸V3) hZ ?_
    refine G8 6 hZ ?_
    refine IR 7 hZ ?_
    refine AU 8 hZ ?_
    refine Ag 9 hZ ?_
    refine D8 10 rfl (by kernel_rfl) (fun _ hz=>hz▸V3) hZ ?_
    refine AU 11 hZ ?_
    refine BE 12 hZ ?_
    refine Ag 13 hZ ?_
    refine D8 14 rfl (by kernel_rfl) (fun _ hz=>hz▸cK) hZ ?_
    refine Er 15 rfl (by kernel_rfl) rfl rfl rfl rfl hZ ?_
    refine Dy 16 hZ ?_
    refine IR 17 hZ ?_
    refine Dp 18 hZ ?_
    refine BF ?_
    repeat(first|refine AI ?_|refine AH ?_|refine Ar ?_|refine Bb ?_|refine Am ?_)
    refine Ep (cells:=(Aw AK 0).toArray) ?_
    have AC:=a2
    have g8:=AC.own (q:=(y8,A9 z6)) BJ
    refine Bz (vs:=Aw AK 0) rfl AP BM (A3 (c:=z6) g8 rfl (fun _=>AC.free (.inr (.inl ⟨_,BJ,rfl⟩)))) ?_
    rw [Au (c:=z6) (vs:=Aw AK 0) g8 (by rw [AP];rfl)]
    have a9:=AC.put ok (o:=A9 (Aw AK 0)) Kt
    repeat(first|refine AE ?_|refine AQ ?_)
    exact BD (vs:=Aw AK 0) rfl rfl AP (C0 (by exact a9.own (q:=(y8,A9 (Aw AK 0))) BJ)) ⟨γ,_,[],AK,0,rfl,rfl,(.inl ⟨rfl,rfl⟩),(a9.drop ok).drop ok,Xi⟩
  ·rw [if_neg fun z=>aX z.2.1]at a2
   repeat(first|refine AI ?_|refine AH ?_|refine AE ?_|refine Ak ?_|refine AV ?_|refine Aq ?_|refine Az ?_|refine Df ?_|refine Bl ?_|refine Bs ?_|refine Bg ?_|refine Am ?_)
   refine BO (fun h'=>h'=h2) ?_
   have hZ:h2=h2:=rfl
   refine Ag 0 hZ ?_
   refine D8 1 rfl (by kernel_rfl) (fun _ hz=>hz▸Qn) hZ ?_
   refine G8 2 hZ ?_
   refine AU 3 hZ ?_
   refine Ag 4 hZ ?_
   refine D8 5 rfl (by kernel_rfl) (fun _ hz=>hz▸V3) hZ ?_
   refine Dy 6 hZ ?_
   refine IR 7 hZ ?_
   refine AU 8 hZ ?_
   refine BB 9 hZ ?_
   refine BB 10 hZ ?_
   refine BB 11 hZ ?_
   refine BB 12 hZ ?_
   refine BB 13 hZ ?_
   refine BB 14 hZ ?_
   refine BB 15 hZ ?_
   refine BB 16 hZ ?_
   refine Dz 17 hZ ?_
   refine Dp 18 hZ ?_
   refine BF ?_
   repeat(first|refine AI ?_|refine AH ?_|refine Ar ?_|refine Bb ?_|refine Am ?_)
   refine Ep (cells:=(Aw AK 0).toArray) ?_
   have AC:=a2
   have g8:=AC.own (q:=(y8,A9 z6)) BJ
   refine Bz (vs:=Aw AK 0) rfl AP BM (A3 (c:=z6) g8 rfl (fun _=>AC.free (.inr (.inl ⟨_,BJ,rfl⟩)))) ?_
   rw [Au (c:=z6) (vs:=Aw AK 0) g8 (by rw [AP];rfl)]
   have a9:=AC.put ok (o:=A9 (Aw AK 0)) Kt
   repeat(first|refine AE ?_|refine AQ ?_)
   exact BD (vs:=Aw AK 0) rfl rfl AP (C0 (by exact a9.own (q:=(y8,A9 (Aw AK 0))) BJ)) ⟨γ,_,[],AK,0,rfl,rfl,(.inl ⟨rfl,rfl⟩),(a9.drop ok).drop ok,Xi⟩
 ·rw [if_neg fun z=>Tv z.1]at a2
  by_cases Gq:10<=q.op
  ·have xP:20<=q.op:=by omega
   repeat(first|refine AI ?_|refine AH ?_|refine AE ?_|refine Ak ?_|refine AV ?_|refine Aq ?_|refine Az ?_|refine Df ?_|refine Bl ?_|refine Bs ?_|refine Bg ?_|refine Am ?_)
   refine BO (fun h'=>h'=h2) ?_
   have hZ:h2=h2:=rfl
   refine Ag 0 hZ ?_
   refine D8 1 rfl (by kernel_rfl) (fun _ hz=>hz▸Qn) hZ ?_
   refine Dy 2 hZ ?_
   refine AU 3 hZ ?_
   refine BB 4 hZ ?_
   refine BB 5 hZ ?_
   refine BB 6 hZ ?_
   refine Dz 7 hZ ?_
   refine AU 8 hZ ?_
   refine BB 9 hZ ?_
   refine BB 10 hZ ?_
   refine BB 11 hZ ?_
   refine BB 12 hZ ?_
   refine BB 13 hZ ?_
   refine BB 14 hZ ?_
   refine BB 15 hZ ?_
   refine BB 16 hZ ?_
   refine Dz 17 hZ ?_
   refine Dp 18 hZ ?_
   refine BF ?_
   repeat(first|refine AI ?_|refine AH ?_|refine Ar ?_|refine Bb ?_|refine Am ?_)
   refine Ep (cells:=(Aw AK 0).toArray) ?_
   have AC:=a2
   have g8:=AC.own (q:=(y8,A9 z6)) BJ
   refine Bz (vs:=Aw AK 0) rfl AP BM (A3 (c:=z6) g8 rfl (fun _=>AC.free (.inr (.inl ⟨_,BJ,rfl⟩)))) ?_
   rw [Au (c:=z6) (vs:=Aw AK 0) g8 (by rw [AP];rfl)]
   have a9:=AC.put ok (o:=A9 (Aw AK 0)) Kt
   repeat(first|refine AE ?_|refine AQ ?_)
   exact BD (vs:=Aw AK 0) rfl rfl AP (C0 (by exact a9.own (q:=(y8,A9 (Aw AK 0))) BJ)) ⟨γ,_,[],AK,0,rfl,rfl,(.inl ⟨rfl,rfl⟩),(a9.drop ok).drop ok,Xi⟩
  ·repeat(first|refine AI ?_|refine AH ?_|refine AE ?_|refine Ak ?_|refine AV ?_|refine Aq ?_|refine Az ?_|refine Df ?_|refine CW ?_|refine Bd ?_|refine Bg ?_|refine Am ?_)
   refine BO (fun h'=>h'=h2) ?_
   have hZ:h2=h2:=rfl
   refine Ag 0 hZ ?_
   refine D8 1 rfl (by kernel_rfl) (fun _ hz=>hz▸Qn) hZ ?_
   refine Dy 2 hZ ?_
   refine AU 3 hZ ?_
   refine BB 4 hZ ?_
   refine BB 5 hZ ?_
   refine BB 6 hZ ?_
   refine Dz 7 hZ ?_
   refine AU 8 hZ ?_
   refine BB 9 hZ ?_
   refine BB 10 hZ ?_
   refine BB 11 hZ ?_
   refine BB 12 hZ ?_
   refine BB 13 hZ ?_
   refine BB 14 hZ ?_
   refine BB 15 hZ ?_
   refine BB 16 hZ ?_
   refine Dz 17 hZ ?_
   refine Dp 18 hZ ?_
   refine BF ?_
   repeat(first|refine AI ?_|refine AH ?_|refine Ar ?_|refine Bb ?_|refine Am ?_)
   refine Ep (cells:=(Aw AK 0).toArray) ?_
   have AC:=a2
   have g8:=AC.own (q:=(y8,A9 z6)) BJ
   refine Bz (vs:=Aw AK 0) rfl AP BM (A3 (c:=z6) g8 rfl (fun _=>AC.free (.inr (.inl ⟨_,BJ,rfl⟩)))) ?_
   rw [Au (c:=z6) (vs:=Aw AK 0) g8 (by rw [AP];rfl)]
   have a9:=AC.put ok (o:=A9 (Aw AK 0)) Kt
   repeat(first|refine AE ?_|refine AQ ?_)
   exact BD (vs:=Aw AK 0) rfl rfl AP (C0 (by exact a9.own (q:=(y8,A9 (Aw AK 0))) BJ)) ⟨γ,_,[],AK,0,rfl,rfl,(.inl ⟨rfl,rfl⟩),(a9.drop ok).drop ok,Xi⟩
end
end
section
def Dd(s k:Int)(vv:Value)(e:Int):List Value:=[.int .i64 s,.int .i64 k,vv]++Kz e
def LW(s k:Int)(vs:List Int)(vv:Value)(e:Int):TE:=⟨s,k,vs,vv,if e=0 then 0 else 7,e⟩
theorem Jf{s k e:Int}{vs:List Int}{vv:Value}:Dd s k vv e=Ex (LW s k vs vv e):=by
 unfold Dd Ex LW Kz
 by_cases h:e=0
 ·subst h;rfl
 ·dsimp only
  rw [if_neg h,if_neg h];rfl
theorem F7{s k e:Int}{vv:Value}:(Dd s k vv e).length=6:=by
 unfold Dd Kz;split <;> rfl
theorem Lq{s k:Int}{va:Option Addr}{vl vc:Nat}{e:Int}:∀v∈Dd s k (.slice va vl vc) e,OneCell v:=by
 unfold Dd Kz;split <;> simp [OneCell]
theorem QH{s a k e:Int}{vv:Value}:(Dd a k vv e).toArray.setIfInBounds 0 (.int .i64 s)=(Dd s k vv e).toArray:=by simp [Dd]
theorem QG{s a k e:Int}{vv:Value}:(Dd s a vv e).toArray.setIfInBounds 1 (.int .i64 k)=(Dd s k vv e).toArray:=by simp [Dd]
theorem Oe{e:TE}{va:Option Addr}{vl vc:Nat}(h:e.vv= .slice va vl vc):∀v∈Ex e,OneCell v:=by
 unfold Ex;rw [h];simp [OneCell]
theorem Sy{sc:List (List BH)}{nC nK:Nat}{HZ:Nat->Int->(Int->Int->PA)->PA}{s:Nat}{k:PA}{j:Nat}{l:List BH}{q:BH}(hq:l[j]?=some q):DV sc nC nK HZ s k j (l.drop j)=if q.op=100\/q.op=101 then k else E1 sc nC nK HZ s q fun vs e=>.emit (bm s j vs e) (DV sc nC nK HZ s k (j+1) (l.drop (j+1))):=by
 obtain⟨h1,h2⟩:=Gv.1 hq
 rw [List.drop_eq_getElem_cons h1,h2]
 rfl
theorem Qb{sc:List (List BH)}{nC nK:Nat}{HZ:Nat->Int->(Int->Int->PA)->PA}{s:Nat}{k:PA}{j:Nat}{l:List BH}(hj:l.length<=j):DV sc nC nK HZ s k j (l.drop j)=k:=by
 rw [List.drop_eq_nil_of_le hj]
 rfl
section
variable{d:CD}{x:ao}{u u' u1 u2:CV}{h h' h1 h5:Hp}{i:Nat}{γ Ae E5 KF:GG (XC d)}{L L':List (Nat×Obj)}{p:PA}{t id m y:Nat}{H:List (Nat×Int)}{q:BH}
theorem Rn.PP{s:Nat}(g:Rn d i s γ u E5 u1)(e:TE)(Vr:Nat->Value)(o':Nat->List It)(r':Nat->PA):Rn d i (s+1) γ u E5 {u1 with told:=ut u1.told i (u1.told i++[e]),tv:=Vr,out:=o',Dg:=r'}:=
 ⟨g.al,g.hold,g.th,g.kept,g.len,by
  show(ut u1.told i (u1.told i++[e]) i).length+_<=_
  rw [AL,C1]
  have:=g.L9
  show(u1.told i).length+1+_<=_
  omega⟩
theorem Yw{s:Nat}(g:Rn d i s γ u E5 u1)(o:Nat×Obj):Rn d i s γ u E5 {u1 with kept:=u1.kept++[o]}:=⟨g.al,g.hold,g.th,fun q hq=>GR _ (g.kept q hq),g.len,g.L9⟩
theorem C8.RE(a:C8 d i γ u L h p)(hi:i<64):∀b o,blk (u.tv i)=some b->¬(ED Tryz.prog (PX (XC d)) (i+1)).still γ ⟨b,o,none⟩:=fun b o hb=>a.free (.inl (.inr ⟨(a.I.JF i b hi hb).1,.inl ⟨i,hi,hb⟩⟩))
theorem C8.N5(ok:d.Ok)(a:C8 d i γ u L h p)(hi:i<64){b:Nat}(hb:blk (u.tv i)=some b):b≠d.hb i/\(∀q,q∈L->q.1≠b)/\b<h.size:=by
 have I:=a.I
 have N0:Le d u.toCU b:=.inr ⟨(I.JF i b hi hb).1,.inl ⟨i,hi,hb⟩⟩
 exact⟨fun e=>(I.JF i b hi hb).2 (e▸ok.hb i hi),fun q hq e=>(a.BI.GJ.1 q hq).2 (e▸N0),a.Hg N0⟩
theorem Mc:∀{l:List BH} {k:Nat} {q:BH},l[k]?=some q->∀j,j<(By q).length->(l.flatMap By)[k*7+j]?=(By q)[j]?
 | [],_,_,h,_,_=>by cases h
 | y::l,0,q,h,r,hr=>by
  have e:y=q:=by simpa using h
  subst e
  rw [List.flatMap_cons,Iy (show 0*7+r<(By y).length by omega)]
  congr 1;omega
 | y::l,j+1,q,h,r,hr=>by
  rw [List.flatMap_cons,List.getElem?_append_right (show(By y).length<=(j+1)*7+r by show 7<=_;omega),<-Mc (l:=l) (k:=j) (by simpa using h) r hr]
  congr 1
  show(j+1)*7+r-7=_
  omega
theorem Yr(E:NK d x)(hR:∀m',m'<m->SR d i m'){s:Nat}{sc:List BH}{tf:Bool}{k:PA}(a:C8 d i γ u L h (if tf=true then .emit ⟨s,-1,[0],0,0⟩ (DV d.c.sc d.c.nC d.c.nK (EH d.c.sc d.c.nC d.c.nK m) s k 0 sc)else DV d.c.sc d.c.nC d.c.nK (EH d.c.sc d.c.nC d.c.nK m) s k 0 sc))(PK:GO d.c (u.hold i)<=m)(W6:(u.told i).length<=31*DJ i γ)(ht:t=γ.p.tb i)(hs:d.c.sc[s]?=some sc)(KI:sc.length<=30):AY Tryz.prog false (ED Tryz.prog (PX (XC d)) (i+1)) 21 #[ptr d.c.w,ptr t,.int .i64 s,.int .i64 0,.nilIface,.bool false,.bool tf] h ⟨0,γ⟩
  (Ge (fun _ h' AW=>∃(Ae:GG (XC d)) (u':CV),AW=⟨0,Ae⟩/\C8 d i Ae u' L h' k/\Rn d i 31 γ {u with th:=ut u.th i (ptr t)} Ae u') (Halt (XC d) i γ.p)):=by
 have ok:=E.ok
 have EN:i<64:=F0 a.lt ok.nT
 have Tt:=a.MI
 have MA:s<d.c.sc.length:=(Gv.1 hs).1
 refine CK (n:=108) ?_
 repeat(first|refine AI ?_|refine AH ?_|refine AE ?_|refine AV ?_|refine Aq ?_)
 refine BV rfl (lI E a ht) ?_
 rintro _ h1 H0 ⟨rfl,rfl,a1⟩
 have jO:({u with th:=ut u.th i (ptr t)}:CV).th i=ptr t:=AL _ _ _
 have yk:(({u with th:=ut u.th i (ptr t)}:CV).told i).length<=31*DJ i γ:=W6
 have qY:GO d.c (({u with th:=ut u.th i (ptr t)}:CV).hold i)<=m:=PK
 clear W6 PK
 generalize ({u with th:=ut u.th i (ptr t)}:CV)=u1 at a1 jO yk qY⊢
 refine Aq ?_
 repeat(first|refine AE ?_|refine AI ?_|refine AH ?_)
 refine AV ?_
 repeat(first|refine AE ?_|refine AI ?_)
 refine F3 (fun _:CV=>[(16,ptr (d.hb i)),(0,ptr d.c.w),(2,.int .i64 s),(5,.bool false)]) (fun u2 h' AW=>AW=⟨0,γ⟩/\C8 d i γ u2 L h' (DV d.c.sc d.c.nC d.c.nK (EH d.c.sc d.c.nC d.c.nK m) s k 0 sc)/\Rn d i 1 γ u1 γ u2) (fun _ key=>?_) ?_
 ·cases tf with
  | false=>
   rw [if_neg nofun]at a1
   repeat(first|refine Ar ?_|refine Am ?_)
   exact Ah (key u1 _ _ ⟨rfl,a1,⟨Gk.refl _ _,rfl,rfl,fun _ h=>h,CY _,Nat.le_succ _⟩⟩) ⟨rfl,rfl,rfl,rfl,trivial⟩
  | true=>
   rw [if_pos rfl]at a1
   (repeat refine BU ?_)
   refine D7 (fun h'=>AF h' ⟨d.hb i,2,none⟩=some (u1.tv i)) 15 ?_
   have hZ:AF h1 ⟨d.hb i,2,none⟩=some (u1.tv i):=AD (a1.I.IM i EN) rfl
   refine AU 0 hZ ?_
   refine AU 1 hZ ?_
   refine BE 2 hZ ?_
   refine Ag 3 hZ ?_
   refine A8 4 (fun _ hz=>hz) hZ ?_
   refine AU 5 hZ ?_
   refine AU 6 hZ ?_
   refine AU 8 hZ ?_
   refine ON 7 9 (by kernel_rfl) ?_ ?_
   ·have a2:=a1.keep ok (Cy [0])
    have g2:=Yw (JK.refl d i γ u1) (h1.size,Cy [0])
    have hv:KL ({u1 with kept:=u1.kept++[(h1.size,Cy [0])]}:CV).kept [0] (.slice (some ⟨h1.size,0,none⟩) 1 1):=.inr ⟨h1.size,rfl,BX _ (DD.2 rfl)⟩
    obtain⟨u2,Ti⟩:∃u2:CV,u2={u1 with kept:=u1.kept++[(h1.size,Cy [0])]}:=⟨_,rfl⟩
    have W5:u2.tv i=u1.tv i:=by rw [Ti]
    have wW:u2.told i=u1.told i:=by rw [Ti]
    rw [<-Ti]at a2 g2 hv
    have z2:AF (h1.push (Cy [0])) ⟨d.hb i,2,none⟩=some (u1.tv i):=W5▸AD (a2.I.IM i EN) rfl
    refine Ht (i:=7) (v:=.slice (some ⟨h1.size,0,none⟩) 1 1) (h':=h1.push (Cy [0])) rfl rfl rfl rfl (fun ρ Q X Aa hq=>BW (sz:=1) (z:=.int .i64 0) Aa rfl (by omega) (by omega) rfl rfl hq) z2 ?_
    refine Bj 9 rfl (by kernel_rfl) rfl rfl rfl rfl rfl rfl (KC fun o=>a2.free (.inr (.inr (CY _)))) ?_
    rintro _ h3 Hz ⟨rfl,u3,rfl⟩
    have a3:=a2.A5 ok u3
    have z3:AF h3 ⟨d.hb i,2,none⟩=some (u1.tv i):=W5▸AD (a3.I.IM i EN) rfl
    refine⟨z3,?_⟩
    have hZ:=z3
    refine CQ (v:=.agg (Dd s (-1) (.slice (some ⟨h1.size,0,none⟩) 1 1) 0).toArray) (h':=h3) 10 rfl (by kernel_rfl) (fun ρ Q X Aa hq=>De (parts:=[(0,.int .i64 s),(1,.int .i64 (-1)),(2,.slice (some ⟨h1.size,0,none⟩) 1 1),(3,.agg (Kz 0).toArray)]) Aa rfl (by rfl) hq) hZ ?_
    have a4:=a3.A5 ok (AN.push (T:=fun _=>False) h3 (A9 (Dd s (-1) (.slice (some ⟨h1.size,0,none⟩) 1 1) 0)))
    have bh:AF (h3.push (A9 (Dd s (-1) (.slice (some ⟨h1.size,0,none⟩) 1 1) 0))) ⟨d.hb i,2,none⟩=some (u1.tv i):=W5▸AD (a4.I.IM i EN) rfl
    refine CQ (v:=.slice (some ⟨h3.size,0,none⟩) 1 1) (h':=h3.push (A9 (Dd s (-1) (.slice (some ⟨h1.size,0,none⟩) 1 1) 0))) 11 rfl (by kernel_rfl) (fun ρ Q X Aa hq=>BW (sz:=6) (parts:=[(0,.agg (Dd s (-1) (.slice (some ⟨h1.size,0,none⟩) 1 1) 0).toArray)]) Aa rfl (by omega) (by omega) rfl rfl hq) bh ?_
    have hlen:(u2.told i).length<=31*65536:=by rw [wW];omega
    rw [<-W5]
    have nn:=(AR.upd (a3.I.sl i EN) (AN.push (T:=fun _=>False) h3 (A9 (Dd s (-1) (.slice (some ⟨h1.size,0,none⟩) 1 1) 0))) (fun _ _ z=>z))
    refine F5 (new:=(Dd s (-1) (.slice (some ⟨h1.size,0,none⟩) 1 1) 0)) 12 rfl (by kernel_rfl) rfl rfl rfl rfl rfl nn (AG _ _) F7 Lq (by omega) (by omega) rfl (a3.RE EN) ?_
    intro s' h5 HY u5 MB
    have TZ:AN (fun b=>blk (u2.tv i)=some b) h3 h5:=(AN.push (T:=fun b=>blk (u2.tv i)=some b) h3 (A9 (Dd s (-1) (.slice (some ⟨h1.size,0,none⟩) 1 1) 0))).trans u5
    have ab:AF h5 ⟨d.hb i,2,none⟩=some (u2.tv i):=TZ.AF (AD (a3.I.IM i EN) rfl) (fun z=>(a3.N5 ok EN z).1 rfl)
    refine⟨ab,?_⟩
    have hZ:=ab
    refine CQ (v:=ptr (d.hb i)) (h':=h5) 13 rfl (by kernel_rfl) (fun ρ Q X Aa hq=>BY (Aa _ _ rfl) hq) hZ ?_
    refine CQ (v:=.pointer (some ⟨d.hb i,2,none⟩)) (h':=h5) 14 rfl (by kernel_rfl) (fun ρ Q X Aa hq=>Ce (Aa _ _ rfl) hq) hZ ?_
    obtain⟨av,cv,es⟩:=HY.val
    have pS:=C8.PP ok (e:=LW s (-1) [0] (.slice (some ⟨h1.size,0,none⟩) 1 1) 0) a3 EN (h1:=h5) (s':=s') ⟨hv⟩ TZ (by rw [<-Jf];exact HY) (fun b hb=>(MB b hb).imp (fun x=>x) fun e=>by rw [e,CH];omega)
    have g5:=TZ.get (a3.I.IM i EN) (fun z=>(a3.N5 ok EN z).1 rfl)
    refine D6 (h':=Af h5 ⟨d.hb i,2,none⟩ s') 15 rfl (by kernel_rfl) rfl rfl rfl (fun ρ Q X Aa hq=>BG (Aa _ _ rfl) (Aa _ _ rfl) (by rw [es];simp [OneCell]) ⟨_,AD g5 rfl⟩ (AS g5) (a3.free (.inl (.inl (ok.hb i EN)))) hq) ?_
    refine BF ?_
    skip
    exact Ah (key _ _ _ ⟨rfl,pS,g2.PP _ _ _ _⟩) ⟨rfl,rfl,rfl,rfl,trivial⟩
   ·refine L0 (i:=9) rfl rfl rfl rfl rfl rfl rfl (KC fun o=>a1.free (.inr (.inr (CY _)))) ?_
    rintro _ h2 Hz ⟨rfl,u3,rfl⟩
    have a2:=a1.A5 ok u3
    refine⟨AD (a2.I.IM i EN) rfl,?_⟩
    have a3:=a2.keep ok (Cy [0])
    have g2:=Yw (JK.refl d i γ u1) (h2.size,Cy [0])
    have hv:KL ({u1 with kept:=u1.kept++[(h2.size,Cy [0])]}:CV).kept [0] (.slice (some ⟨h2.size,0,none⟩) 1 1):=.inr ⟨h2.size,rfl,BX _ (DD.2 rfl)⟩
    obtain⟨u2,Ti⟩:∃u2:CV,u2={u1 with kept:=u1.kept++[(h2.size,Cy [0])]}:=⟨_,rfl⟩
    have W5:u2.tv i=u1.tv i:=by rw [Ti]
    have wW:u2.told i=u1.told i:=by rw [Ti]
    rw [<-Ti]at a3 g2 hv
    obtain⟨h3,hh3⟩:∃h3,h3=h2.push (Cy [0]):=⟨_,rfl⟩
    rw [<-hh3]at a3
    have hZ:AF h3 ⟨d.hb i,2,none⟩=some (u1.tv i):=W5▸AD (a3.I.IM i EN) rfl
    refine CQ (v:=.slice (some ⟨h2.size,0,none⟩) 1 1) (h':=h3) 7 rfl (by kernel_rfl) (fun ρ Q X Aa hq=>BW (sz:=1) (z:=.int .i64 0) Aa rfl (by omega) (by omega) rfl rfl (hh3▸hq)) hZ ?_
    refine CQ (v:=.agg (Dd s (-1) (.slice (some ⟨h2.size,0,none⟩) 1 1) 0).toArray) (h':=h3) 10 rfl (by kernel_rfl) (fun ρ Q X Aa hq=>De (parts:=[(0,.int .i64 s),(1,.int .i64 (-1)),(2,.slice (some ⟨h2.size,0,none⟩) 1 1),(3,.agg (Kz 0).toArray)]) Aa rfl (by rfl) hq) hZ ?_
    have a4:=a3.A5 ok (AN.push (T:=fun _=>False) h3 (A9 (Dd s (-1) (.slice (some ⟨h2.size,0,none⟩) 1 1) 0)))
    have bh:AF (h3.push (A9 (Dd s (-1) (.slice (some ⟨h2.size,0,none⟩) 1 1) 0))) ⟨d.hb i,2,none⟩=some (u1.tv i):=W5▸AD (a4.I.IM i EN) rfl
    refine CQ (v:=.slice (some ⟨h3.size,0,none⟩) 1 1) (h':=h3.push (A9 (Dd s (-1) (.slice (some ⟨h2.size,0,none⟩) 1 1) 0))) 11 rfl (by kernel_rfl) (fun ρ Q X Aa hq=>BW (sz:=6) (parts:=[(0,.agg (Dd s (-1) (.slice (some ⟨h2.size,0,none⟩) 1 1) 0).toArray)]) Aa rfl (by omega) (by omega) rfl rfl hq) bh ?_
    have hlen:(u2.told i).length<=31*65536:=by rw [wW];omega
    rw [<-W5]
    have nn:=(AR.upd (a3.I.sl i EN) (AN.push (T:=fun _=>False) h3 (A9 (Dd s (-1) (.slice (some ⟨h2.size,0,none⟩) 1 1) 0))) (fun _ _ z=>z))
    refine F5 (new:=(Dd s (-1) (.slice (some ⟨h2.size,0,none⟩) 1 1) 0)) 12 rfl (by kernel_rfl) rfl rfl rfl rfl rfl nn (AG _ _) F7 Lq (by omega) (by omega) rfl (a3.RE EN) ?_
    intro s' h5 HY u5 MB
    have TZ:AN (fun b=>blk (u2.tv i)=some b) h3 h5:=(AN.push (T:=fun b=>blk (u2.tv i)=some b) h3 (A9 (Dd s (-1) (.slice (some ⟨h2.size,0,none⟩) 1 1) 0))).trans u5
    have ab:AF h5 ⟨d.hb i,2,none⟩=some (u2.tv i):=TZ.AF (AD (a3.I.IM i EN) rfl) (fun z=>(a3.N5 ok EN z).1 rfl)
    refine⟨ab,?_⟩
    have hZ:=ab
    refine CQ (v:=ptr (d.hb i)) (h':=h5) 13 rfl (by kernel_rfl) (fun ρ Q X Aa hq=>BY (Aa _ _ rfl) hq) hZ ?_
    refine CQ (v:=.pointer (some ⟨d.hb i,2,none⟩)) (h':=h5) 14 rfl (by kernel_rfl) (fun ρ Q X Aa hq=>Ce (Aa _ _ rfl) hq) hZ ?_
    obtain⟨av,cv,es⟩:=HY.val
    have pS:=C8.PP ok (e:=LW s (-1) [0] (.slice (some ⟨h2.size,0,none⟩) 1 1) 0) a3 EN (h1:=h5) (s':=s') ⟨hv⟩ TZ (by rw [<-Jf];exact HY) (fun b hb=>(MB b hb).imp (fun x=>x) fun e=>by rw [e,CH];omega)
    have g5:=TZ.get (a3.I.IM i EN) (fun z=>(a3.N5 ok EN z).1 rfl)
    refine D6 (h':=Af h5 ⟨d.hb i,2,none⟩ s') 15 rfl (by kernel_rfl) rfl rfl rfl (fun ρ Q X Aa hq=>BG (Aa _ _ rfl) (Aa _ _ rfl) (by rw [es];simp [OneCell]) ⟨_,AD g5 rfl⟩ (AS g5) (a3.free (.inl (.inl (ok.hb i EN)))) hq) ?_
    refine BF ?_
    skip
    exact Ah (key _ _ _ ⟨rfl,pS,g2.PP _ _ _ _⟩) ⟨rfl,rfl,rfl,rfl,trivial⟩
 ·rintro u2 h2 FJ ⟨rfl,a2,g2⟩
  clear a1
  repeat(first|refine AI ?_|refine AH ?_|refine AE ?_|refine Ak ?_|refine Aq ?_)
  refine B1 (fun q:Nat×GG (XC d)×CV=>[(17,.int .i64 q.1),(16,ptr (d.hb i)),(0,ptr d.c.w),(2,.int .i64 s),(5,.bool false)]) (fun q h' AW=>AW=⟨0,q.2.1⟩/\q.1<=sc.length/\C8 d i q.2.1 q.2.2 L h' (DV d.c.sc d.c.nC d.c.nK (EH d.c.sc d.c.nC d.c.nK m) s k q.1 (sc.drop q.1))/\Rn d i (1+q.1) γ u1 q.2.1 q.2.2) (fun q=>sc.length-q.1) (0,γ,u2) ⟨rfl,rfl,rfl,rfl,rfl,trivial⟩ ⟨rfl,Bv _,a2,g2⟩ ?_
  clear a2 g2
  rintro⟨j,KT,u3⟩ h3 Hz ⟨DL,hk,a3,g3⟩ again
  dsimp only at DL hk a3 g3 again⊢
  subst DL
  have N:=a3.wd E
  obtain⟨sv,wY,jS⟩:=N.sc s sc hs
  obtain⟨b,o,kk,e,ou⟩:=N.V.one wY
  have c0:AF h3 ⟨d.c.w,0,none⟩=some (.slice (some ⟨b,o,none⟩) x.ws.length kk):=by rw [<-e];exact N.w.1
  have c1:AF h3 ⟨b,o+s*1,none⟩=some sv:=ou _ N.V
  have My:s<x.ws.length:=by rw [E.len];exact MA
  obtain⟨av,cv,fJ⟩:=jS.val
  by_cases oX:j<sc.length
  case neg=>
   have ek:j=sc.length:=by omega
   subst ek
   rw [Qb (CY _)]at a3
   rw [fJ]at c1
   repeat(first|refine AI ?_|refine AH ?_|refine AE ?_|refine AV ?_|refine Aq ?_|refine Bc ?_|refine Az ?_|refine Bg ?_|refine BN ?_|refine Cd ?_|refine Am ?_|refine AQ ?_|refine B8 ?_|refine Av rfl (by assumption) ?_)
   exact EL rfl rfl rfl ⟨KT,u3,rfl,a3,⟨g3.al,g3.hold,g3.th,g3.kept,g3.len,by have:=g3.L9;omega⟩⟩
  obtain⟨q,hq⟩:∃q,sc[j]?=some q:=⟨_,Cl oX⟩
  rw [Sy hq]at a3
  obtain⟨b2,zZ,e2,Rw,-⟩:=AR.cell jS (by omega)
  rw [e2]at c1
  have SC:TJ.A0 h3 b2 (0+j*7) (By q):=fun r v hv=>by
   rw [show 0+j*7+r=j*7+r by omega]
   refine Rw _ _ ?_
   rw [Mc hq r (by have:=(Gv.1 hv).1;exact this)]
   exact hv
  obtain⟨la,ll,lc,tq⟩:=E.sl s sc q hs (Fg hq)
  obtain⟨eU,cQ⟩:∃y,y=h3.size:=⟨_,rfl⟩
  obtain⟨h4,oc⟩:∃h4,h4=h3.push (Bo ⟨0,0,0,0,0,0,AK⟩):=⟨_,rfl⟩
  have f4:=a3.fresh
  have a4:=a3.alloc ok (Bo ⟨0,0,0,0,0,0,AK⟩)
  rw [<-oc,<-cQ]at a4
  rw [<-cQ]at f4
  repeat(first|refine AI ?_|refine AH ?_|refine AE ?_|refine Ar ?_|refine Ak ?_|refine AV ?_|refine Bc ?_|refine Az ?_|refine Bs ?_|refine BN ?_|refine Cd ?_|refine BU ?_|refine Av rfl (by assumption) ?_)
  refine C5 (vs:=By q) rfl SC ?_
  (repeat refine Cn ?_)
  change ER _ _ _ _ _ _ _ _ _ _ (h3.push (Bo ⟨0,0,0,0,0,0,AK⟩)) _ _
  rw [<-oc,<-cQ]
  have g4:=a4.own (q:=(eU,Bo ⟨0,0,0,0,0,0,AK⟩)) BJ
  refine Bz (vs:=By q) rfl rfl (by rw [By,tq];simp [OneCell]) (A3 (c:=By ⟨0,0,0,0,0,0,AK⟩) g4 rfl (fun _=>a4.free (.inr (.inl ⟨_,List.mem_cons_self,rfl⟩)))) ?_
  rw [Au (c:=By ⟨0,0,0,0,0,0,AK⟩) (vs:=By q) g4 rfl]
  have a5:=a4.put ok (o:=Bo q) f4
  change ER _ _ _ _ _ _ _ _ _ _ (h4.setIfInBounds eU (Bo q)) _ _
  generalize h4.setIfInBounds eU (Bo q)=h5 at a5⊢
  clear g4 oc cQ
  clear a4 SC c0 c1 Rw N ou jS fJ e2 e
  have pK:=a5.own (q:=(eU,Bo q)) BJ
  have d0:AF h5 ⟨eU,0,none⟩=some (.int .i64 q.op):=AD pK rfl
  have d2:AF h5 ⟨eU,2,none⟩=some (.int .i64 q.b):=AD pK rfl
  have d3:AF h5 ⟨eU,3,none⟩=some (.int .i64 q.c):=AD pK rfl
  have d4:AF h5 ⟨eU,4,none⟩=some (.int .i64 q.d):=AD pK rfl
  by_cases Tx:q.op=100
  ·rw [if_pos (.inl Tx)]at a5
   rw [Tx]at d0
   repeat(first|refine AI ?_|refine AH ?_|refine AE ?_|refine AV ?_|refine Az ?_|refine Df ?_|refine CW ?_|refine Bl ?_|refine Bs ?_|refine BU ?_)
   refine BV rfl (Vg fun b hb _=>a5.free (.inr (.inr hb))) ?_
   rintro _ h6 TW ⟨⟨z,rfl⟩,u6,rfl⟩
   have a6:=a5.A5 ok u6
   repeat(first|refine AE ?_|refine Aq ?_|refine Eo ?_|refine AQ ?_)
   exact EL rfl rfl rfl ⟨KT,u3,rfl,a6.drop ok,⟨g3.al,g3.hold,g3.th,g3.kept,g3.len,by have:=g3.L9;omega⟩⟩
  by_cases Tw:q.op=101
  ·rw [if_pos (.inr Tw)]at a5
   rw [Tw]at d0
   repeat(first|refine AI ?_|refine AH ?_|refine AE ?_|refine AV ?_|refine Az ?_|refine Df ?_|refine B9 ?_|refine Bl ?_|refine Bd ?_|refine Bs ?_|refine Bg ?_|refine BU ?_)
   refine BV rfl (Vg fun b hb _=>a5.free (.inr (.inr hb))) ?_
   rintro _ h6 TW ⟨⟨z,rfl⟩,u6,rfl⟩
   have a6:=a5.A5 ok u6
   repeat(first|refine AE ?_|refine Aq ?_|refine Eo ?_|refine AQ ?_)
   exact EL rfl rfl rfl ⟨KT,u3,rfl,a6.drop ok,⟨g3.al,g3.hold,g3.th,g3.kept,g3.len,by have:=g3.L9;omega⟩⟩
  rw [if_neg fun z=>z.elim Tx Tw]at a5
  repeat(first|refine AI ?_|refine AH ?_|refine AE ?_|refine Ar ?_|refine AV ?_|refine Az ?_|refine Df ?_|refine CW ?_|refine Bd ?_|refine Bg ?_|refine Am ?_)
  refine C5 (vs:=By q) rfl (C0 (by exact pK)) ?_
  (repeat refine AV ?_)
  refine Dr rfl rfl rfl rfl rfl (lJ E hR a5 (by rw [g3.hold];exact qY) (by rw [g3.th,jO,ht,g3.al.tb]) (by have:=g3.L9;unfold DJ at *;omega)) (fun _ _ _ y=>y.along g3.al) ?_
  rintro _ h6 TW ⟨Pk,u4,vs,vv,e,rfl,rfl,XV,a6,g4⟩
  obtain⟨va,vl,vc,pM⟩:∃va vl vc,vv= .slice va vl vc:=by
   rcases XV with⟨-,rfl⟩|⟨b,rfl,-⟩
   ·exact⟨_,_,_,rfl⟩
   ·exact⟨_,_,_,rfl⟩
  have Rl:=g3.trans g4
  obtain⟨Wy,cL⟩:∃y,y=h6.size:=⟨_,rfl⟩
  obtain⟨h7,xD⟩:∃h7,h7=h6.push (A9 z6):=⟨_,rfl⟩
  have f7:=a6.fresh
  have a7:=a6.alloc ok (A9 z6)
  rw [<-xD,<-cL]at a7
  rw [<-cL]at f7
  (repeat refine Cn ?_)
  change ER _ _ _ _ _ _ _ _ _ _ (h6.push (A9 z6)) _ _
  rw [<-xD,<-cL]
  clear xD cL
  have g7:=a7.own (q:=(Wy,A9 z6)) BJ
  refine Bz (vs:=Dd 0 0 vv e) rfl F7 (by rw [pM];exact Lq) (A3 (c:=z6) g7 rfl (fun _=>a7.free (.inr (.inl ⟨_,BJ,rfl⟩)))) ?_
  rw [Au (c:=z6) (vs:=Dd 0 0 vv e) g7 (by rw [F7];rfl)]
  have a8:=a7.put ok (o:=A9 (Dd 0 0 vv e)) f7
  change ER _ _ _ _ _ _ _ _ _ _ (h7.setIfInBounds Wy (A9 (Dd 0 0 vv e))) _ _
  generalize h7.setIfInBounds Wy (A9 (Dd 0 0 vv e))=h8 at a8⊢
  have g8:=a8.own (q:=(Wy,A9 (Dd 0 0 vv e))) BJ
  repeat(first|refine AI ?_|refine AH ?_|refine AE ?_|refine AV ?_|refine Az ?_)
  refine CS rfl (by simp [OneCell]) ⟨_,AD g8 rfl⟩ (AS g8) (a8.free (.inr (.inl ⟨_,List.mem_cons_self,rfl⟩))) ?_
  rw [As g8,QH]
  have a9:=a8.put ok (o:=A9 (Dd s 0 vv e)) f7
  change ER _ _ _ _ _ _ _ _ _ _ (h8.setIfInBounds Wy (A9 (Dd s 0 vv e))) _ _
  generalize h8.setIfInBounds Wy (A9 (Dd s 0 vv e))=h9 at a9⊢
  have g9:=a9.own (q:=(Wy,A9 (Dd s 0 vv e))) BJ
  repeat(first|refine AI ?_|refine AH ?_|refine AE ?_|refine AV ?_|refine Az ?_)
  refine CS rfl (by simp [OneCell]) ⟨_,AD g9 rfl⟩ (AS g9) (a9.free (.inr (.inl ⟨_,List.mem_cons_self,rfl⟩))) ?_
  rw [As g9,QG]
  change ER _ _ _ _ _ _ _ _ _ _ (h9.setIfInBounds Wy (A9 (Dd s j vv e))) _ _
  rw [Jf (s:=s) (k:=j) (vs:=vs) (vv:=vv) (e:=e)]
  have NU:=a9.put ok (o:=A9 (Ex (LW s j vs vv e))) f7
  generalize h9.setIfInBounds Wy (A9 (Ex (LW s j vs vv e)))=Gq at NU⊢
  have LP:=NU.own (q:=(Wy,A9 (Ex (LW s j vs vv e)))) BJ
  clear a7 a8 a9 g7 g8 g9 a6
  have ABv:=NU.MI
  have hlen:(u4.told i).length<=31*65536+31:=by have:=Rl.L9;unfold DJ at *;omega
  have Ky:=Oe (e:=LW s j vs vv e) pM
  obtain⟨RQ,LV⟩:∃R,R=Ex (LW s j vs vv e):=⟨_,rfl⟩
  have Pp:RQ.length=6:=by rw [LV];rfl
  have o9:Instr.fill (fun i=>some (i*6,6)) #[.int .i64 0,.int .i64 0,AK,.int .i64 0,.int .i64 0,AK] [(0,.agg RQ.toArray)]=some RQ.toArray:=by rw [LV];rfl
  (repeat refine AE ?_)
  rw [<-LV]at NU LP Ky
  refine D7 (fun h'=>AF h' ⟨d.hb i,2,none⟩=some (u4.tv i)/\TJ.A0 h' Wy 0 RQ) 10 ?_
  have hZ:_/\_:=And.intro (AD (NU.I.IM i EN) rfl:AF Gq ⟨d.hb i,2,none⟩=some (u4.tv i)) (CA (vs:=RQ) (rest:=[]) (by rw [DI];exact LP))
  refine AU 0 hZ ?_
  refine AU 1 hZ ?_
  refine BE 2 hZ ?_
  refine Ag 3 hZ ?_
  refine A8 4 (fun _ hz=>hz.1) hZ ?_
  refine EP (vs:=RQ) 5 rfl (by kernel_rfl) rfl rfl rfl rfl Pp (fun _ hz=>hz.2) hZ ?_
  have R0:=NU.A5 ok (AN.push (T:=fun _=>False) Gq (A9 RQ))
  have hZ:_/\_:=And.intro (AD (R0.I.IM i EN) rfl:AF (Gq.push (A9 RQ)) ⟨d.hb i,2,none⟩=some (u4.tv i)) (CA (vs:=RQ) (rest:=[]) (by rw [DI];exact R0.own (q:=(Wy,A9 RQ)) BJ))
  refine CQ (v:=.slice (some ⟨Gq.size,0,none⟩) 1 1) (h':=Gq.push (A9 RQ)) 6 rfl (by kernel_rfl) (fun ρ Q X Aa hq=>BW (sz:=6) (parts:=[(0,.agg RQ.toArray)]) Aa rfl (by omega) (by omega) rfl (by exact o9) hq) hZ ?_
  have nn:=(AR.upd (NU.I.sl i EN) (AN.push (T:=fun _=>False) Gq (A9 RQ)) (fun _ _ z=>z))
  refine F5 (new:=RQ) 7 rfl (by kernel_rfl) rfl rfl rfl rfl rfl nn (AG _ _) Pp Ky (by omega) (by omega) rfl (NU.RE EN) ?_
  intro s' h5 HY u5 MB
  have TZ:AN (fun b=>blk (u4.tv i)=some b) Gq h5:=(AN.push (T:=fun b=>blk (u4.tv i)=some b) Gq (A9 RQ)).trans u5
  have ab:AF h5 ⟨d.hb i,2,none⟩=some (u4.tv i):=TZ.AF (AD (NU.I.IM i EN) rfl) (fun z=>(NU.N5 ok EN z).1 rfl)
  have g5:=TZ.get (NU.I.IM i EN) (fun z=>(NU.N5 ok EN z).1 rfl)
  have g19:=TZ.get LP (fun z=>(NU.N5 ok EN z).2.1 _ BJ rfl)
  have hZ:_/\_:=And.intro ab (CA (vs:=RQ) (rest:=[]) (by rw [DI];exact g19))
  refine⟨hZ,?_⟩
  refine CQ (v:=ptr (d.hb i)) (h':=h5) 8 rfl (by kernel_rfl) (fun ρ Q X Aa hq=>BY (Aa _ _ rfl) hq) hZ ?_
  refine CQ (v:=.pointer (some ⟨d.hb i,2,none⟩)) (h':=h5) 9 rfl (by kernel_rfl) (fun ρ Q X Aa hq=>Ce (Aa _ _ rfl) hq) hZ ?_
  obtain⟨av5,cv5,es⟩:=HY.val
  have pS:=C8.PP ok (e:=LW s j vs vv e) NU EN (h1:=h5) (s':=s') ⟨XV⟩ TZ (by rw [<-LV];exact HY) (fun b hb=>(MB b hb).imp (fun x=>x) fun e=>by rw [e,CH];omega)
  refine D6 (h':=Af h5 ⟨d.hb i,2,none⟩ s') 10 rfl (by kernel_rfl) rfl rfl rfl (fun ρ Q X Aa hq=>BG (Aa _ _ rfl) (Aa _ _ rfl) (by rw [es];simp [OneCell]) ⟨_,AD g5 rfl⟩ (AS g5) (NU.free (.inl (.inl (ok.hb i EN)))) hq) ?_
  refine BF ?_
  repeat(first|refine AH ?_|refine AE ?_|refine Bb ?_|refine AV ?_|refine Aq ?_|refine BR (kd:=.i64) rfl (i64_in (by omega) (by omega)) ?_)
  exact Ah (again (j+1,Pk,_) _ _ (by show sc.length-(j+1)<sc.length-j;omega) ⟨rfl,by show j+1<=sc.length;omega,(pS.drop ok).drop ok,Rl.PP _ _ _ _⟩) ⟨rfl,rfl,rfl,rfl,rfl,trivial⟩
end
end
section
def Rp(rq:Rq->Rq)(F:FK->Nat):PA->Pr It
 | .done=>.done
 | .step r k=>.step (rq r) fun w=>Rp rq F (k w)
 | .emit e k=>.emit (.tl e) (Rp rq F k)
 | .Hd q s k=>.emit (.kn q s) (Rp rq F k)
 | .ask q k=>.emit (.ak q (F q)) (Rp rq F (k (F q)))
theorem Goes.trans{A:Type}{i:Nat}{p q r:Pr A}{l l':List Ev}{o o':List A}(g:Goes i p l o q)(g':Goes i q l' o' r):Goes i p (l++l') (o++o') r:=by
 induction g with
 | nil p=>exact g'
 | emit _ ih=>exact .emit (ih g')
 | step w _ ih=>exact .step w (ih g')
def VP(fs:Fs)(F:FK->Nat):Prop:=∀q s,Eb fs q=some s->F q=s
theorem Gm{rq:Rq->Rq}{F:FK->Nat}{i:Nat}:∀{p:PA} {f f':Fs} {o o':List It} {p':PA},settle p f o=(f',o',p')->VP f' F->(∃y,f'=f++y)/\∃x,o'=o++x/\Goes i (Rp rq F p) [] x (Rp rq F p')
 | .done,f,f',o,o',p',h,_=>by
  injection h with h1 h2
  injection h2 with h2 h3
  subst h1 h2 h3
  exact⟨⟨[],(DI _).symm⟩,[],(DI _).symm,.nil _⟩
 | .step r k,f,f',o,o',p',h,_=>by
  injection h with h1 h2
  injection h2 with h2 h3
  subst h1 h2 h3
  exact⟨⟨[],(DI _).symm⟩,[],(DI _).symm,.nil _⟩
 | .emit e k,f,f',o,o',p',h,hF=>by
  obtain⟨hy,x,h1,h2⟩:=Gm (i:=i) (rq:=rq) (p:=k) h hF
  exact⟨hy,.tl e::x,by rw [h1,Ke];rfl,.emit h2⟩
 | .Hd q s k,f,f',o,o',p',h,hF=>by
  obtain⟨⟨y,hy⟩,x,h1,h2⟩:=Gm (i:=i) (rq:=rq) (p:=k) h hF
  exact⟨⟨(q,s)::y,by rw [hy,Ke];rfl⟩,.kn q s::x,by rw [h1,Ke];rfl,.emit h2⟩
 | .ask q k,f,f',o,o',p',h,hF=>by
  unfold settle at h
  cases hq:Eb f q with
  | none=>
   rw [hq]at h
   injection h with h1 h2
   injection h2 with h2 h3
   subst h1 h2 h3
   exact⟨⟨[],(DI _).symm⟩,[],(DI _).symm,.nil _⟩
  | some s=>
   rw [hq]at h
   obtain⟨⟨y,hy⟩,x,h1,h2⟩:=Gm (i:=i) (rq:=rq) (p:=k s) h hF
   have hs:F q=s:=hF q s (by rw [hy];exact II hq)
   refine⟨⟨y,hy⟩,.ak q s::x,by rw [h1,Ke];rfl,?_⟩
   show Goes i (.emit (.ak q (F q)) (Rp rq F (k (F q)))) [] _ _
   rw [hs]
   exact .emit h2
structure Hq(nT:Nat)(fs:Fs)(out:Nat->List It):Prop where
 asks:∀j q s,It.ak q s∈out j->Eb fs q=some s
 td:∀j q s,It.kn q s∈out j->(q,s)∈fs
 ord:∀n q s,fs[n]?=some (q,s)->∃j a b,j<nT/\out j=a++ .kn q s::b/\∀q' s',It.ak q' s'∈a->∃(m iK:Nat),m<n/\fs[m]?=some (q',iK)
theorem Hq.nil{nT:Nat}:Hq nT [] fun _=>[]:=⟨fun _ _ _ h=>(by cases h),fun _ _ _ h=>(by cases h),fun _ _ _ h=>(by cases h)⟩
theorem Vd{q:FK}{s:Nat}{fs:Fs}(h:Eb fs q=some s):∃m,m<fs.length/\fs[m]?=some (q,s):=by
 obtain⟨m,hm,e⟩:=JZ.1 (Ng h)
 exact⟨m,hm,by rw [Cl hm,e]⟩
theorem Hq.more{nT i:Nat}{fs:Fs}{out:Nat->List It}(x:Hq nT fs out){e:It}(h1:∀q s,e= .ak q s->Eb fs q=some s)(h2:∀q s,e≠ .kn q s):Hq nT fs (ut out i (out i++[e])):=by
 have key:∀j y,y∈ut out i (out i++[e]) j->y∈out j\/y=e:=fun j y hy=>by
  by_cases ej:j=i
  ·subst ej
   rw [AL]at hy
   exact(Ff.1 hy).imp id DD.1
  ·rw [Ai _ _ ej]at hy;exact .inl hy
 refine⟨fun j q s h=>(key j _ h).elim (x.asks j q s) fun e'=>h1 q s e'.symm,fun j q s h=>(key j _ h).elim (x.td j q s) fun e'=>absurd e'.symm (h2 q s),fun n q s hn=>?_⟩
 obtain⟨j,a,b,hj,h3,h4⟩:=x.ord n q s hn
 by_cases ej:j=i
 ·subst ej
  exact⟨j,a,b++[e],hj,by rw [AL,h3,Ke];rfl,h4⟩
 ·exact⟨j,a,b,hj,by rw [Ai _ _ ej];exact h3,h4⟩
theorem Hq.knows{nT i:Nat}{fs:Fs}{out:Nat->List It}(x:Hq nT fs out)(hi:i<nT)(q:FK)(s:Nat):Hq nT (fs++[(q,s)]) (ut out i (out i++[.kn q s])):=by
 have key:∀j y,y∈ut out i (out i++[.kn q s]) j->y∈out j\/y= .kn q s:=fun j y hy=>by
  by_cases ej:j=i
  ·subst ej
   rw [AL]at hy
   exact(Ff.1 hy).imp id DD.1
  ·rw [Ai _ _ ej]at hy;exact .inl hy
 refine⟨fun j q' s' h=>?_,fun j q' s' h=>?_,fun n q' s' hn=>?_⟩
 ·rcases key j _ h with z|z
  ·exact II (x.asks j q' s' z)
  ·cases z
 ·rcases key j _ h with z|z
  ·exact GR _ (x.td j q' s' z)
  ·cases z;exact BX _ (DD.2 rfl)
 ·rcases EM n fs.length with Cg|hge
  ·rw [Iy Cg]at hn
   obtain⟨j,a,b,hj,h3,h4⟩:=x.ord n q' s' hn
   have h5:∀q1 s1,It.ak q1 s1∈a->∃(m iK:Nat),m<n/\(fs++[(q,s)])[m]?=some (q1,iK):=fun q1 s1 h=>by
    obtain⟨m,iK,hm,aS⟩:=h4 q1 s1 h
    exact⟨m,iK,hm,by rw [Iy (by omega)];exact aS⟩
   by_cases ej:j=i
   ·subst ej
    exact⟨j,a,b++[.kn q s],hj,by rw [AL,h3,Ke];rfl,h5⟩
   ·exact⟨j,a,b,hj,by rw [Ai _ _ ej];exact h3,h5⟩
  ·have XZ:=(Gv.1 hn).1
   rw [C1,List.length_singleton]at XZ
   obtain rfl:n=fs.length:=by omega
   rw [IB (CY _),Nat.sub_self]at hn
   cases hn
   refine⟨i,out i,[],hi,AL _ _ _,fun q1 s1 h=>?_⟩
   obtain⟨m,hm,aS⟩:=Vd (x.asks i q1 s1 h)
   exact⟨m,s1,hm,by rw [Iy hm];exact aS⟩
theorem Hq.settle{nT i:Nat}(hi:i<nT):∀{p:PA} {f f':Fs} {out:Nat->List It} {o':List It} {p':PA},settle p f (out i)=(f',o',p')->Hq nT f out->Hq nT f' (ut out i o')
 | .done,f,f',out,o',p',h,x=>by
  injection h with h1 h2
  injection h2 with h2 h3
  subst h1 h2
  rw [FU];exact x
 | .step r k,f,f',out,o',p',h,x=>by
  injection h with h1 h2
  injection h2 with h2 h3
  subst h1 h2
  rw [FU];exact x
 | .emit e k,f,f',out,o',p',h,x=>by
  have y:=Hq.settle hi (p:=k) (f:=f) (out:=ut out i (out i++[.tl e])) (o':=o') (p':=p') (by rw [AL];exact h) (x.more (fun _ _ z=>by cases z) fun _ _ z=>by cases z)
  rwa [Mf]at y
 | .Hd q s k,f,f',out,o',p',h,x=>by
  have y:=Hq.settle hi (p:=k) (f:=f++[(q,s)]) (out:=ut out i (out i++[.kn q s])) (o':=o') (p':=p') (by rw [AL];exact h) (x.knows hi q s)
  rwa [Mf]at y
 | .ask q k,f,f',out,o',p',h,x=>by
  unfold Go.Proofs.YtfkalocplonkiaaGreat.settle at h
  cases hq:Eb f q with
  | none=>
   rw [hq]at h
   injection h with h1 h2
   injection h2 with h2 h3
   subst h1 h2
   rw [FU];exact x
  | some s=>
   rw [hq]at h
   have y:=Hq.settle hi (p:=k s) (f:=f) (out:=ut out i (out i++[.ak q s])) (o':=o') (p':=p') (by rw [AL];exact h) (x.more (fun _ _ z=>by cases z;exact hq) fun _ _ z=>by cases z)
   rwa [Mf]at y
def Kb:PA->Nat->Prop
 | .done,_=>True
 | .step _ k,n=>∀w,Kb (k w) (n+1)
 | .emit _ k,n=>Kb k n
 | .Hd _ _ k,n=>∃m,n=m+2/\Kb k m
 | .ask _ k,n=>∀s,Kb (k s) n
theorem Kb.mono:∀{p:PA} {n m:Nat},Kb p n->n<=m->Kb p m
 | .done,_,_,_,_=>trivial
 | .step _ k,_,_,h,hm=>fun w=>(h w).mono (Nat.succ_le_succ hm)
 | .emit _ k,_,_,h,hm=>Kb.mono (p:=k) h hm
 | .Hd _ _ k,_,m,h,hm=>by
  obtain⟨j,e,h⟩:=h
  exact⟨m-2,by omega,Kb.mono (p:=k) h (by omega)⟩
 | .ask _ k,_,_,h,hm=>fun s=>(h s).mono hm
theorem Kb.settle:∀{p:PA} {n:Nat} {f f':Fs} {o o':List It} {p':PA},Kb p n->settle p f o=(f',o',p')->∃n',Kb p' n'/\n'+2*f'.length=n+2*f.length
 | .done,n,f,f',o,o',p',_,h=>by
  injection h with h1 h2
  injection h2 with h2 h3
  subst h1 h2 h3
  exact⟨n,trivial,rfl⟩
 | .step r k,n,f,f',o,o',p',hk,h=>by
  injection h with h1 h2
  injection h2 with h2 h3
  subst h1 h2 h3
  exact⟨n,hk,rfl⟩
 | .emit e k,n,f,f',o,o',p',hk,h=>Kb.settle (p:=k) hk h
 | .Hd q s k,n,f,f',o,o',p',hk,h=>by
  obtain⟨m,rfl,hk⟩:=hk
  obtain⟨n',h1,h2⟩:=Kb.settle (p:=k) hk h
  rw [C1,List.length_singleton]at h2
  exact⟨n',h1,by omega⟩
 | .ask q k,n,f,f',o,o',p',hk,h=>by
  unfold Go.Proofs.YtfkalocplonkiaaGreat.settle at h
  cases hq:Eb f q with
  | none=>
   rw [hq]at h
   injection h with h1 h2
   injection h2 with h2 h3
   subst h1 h2 h3
   exact⟨n,hk,rfl⟩
  | some s=>
   rw [hq]at h
   exact Kb.settle (p:=k s) (hk s) h
section
variable{rq:Rq->Rq}{P:Nat->PA}{l:List Ev}{nT:Nat}
theorem Ov{i:Nat}{e:Ev}:Bm i (l++[e])=if e.BI=i then Bm i l++[e]else Bm i l:=by
 unfold Bm
 rw [List.filter_append]
 by_cases h:e.BI=i
 ·rw [if_pos h,List.filter_cons_of_pos (by simpa using h)];rfl
 ·rw [if_neg h,List.filter_cons_of_neg (by simpa using h)]
  exact DI _
theorem Zw(hQ:∀j,Quiet (P j))(h:Fi rq P l){F:FK->Nat}:VP (Cz P l).fs F->∀i,Goes i (Rp rq F (P i)) (Bm i l) ((Cz P l).out i) (Rp rq F ((Cz P l).Dg i)):=by
 induction h with
 | nil=>
  intro hF i
  obtain⟨o',p',e⟩:=hQ i
  have hz:settle (P i) [] []=([],o',p'):=by rw [e];rfl
  obtain⟨-,x,h1,h2⟩:=Gm (i:=i) (rq:=rq) (F:=F) hz hF
  show Goes i _ [] (settle (P i) [] []).2.1 (Rp rq F (settle (P i) [] []).2.2)
  rw [hz]
  dsimp only
  rw [h1]
  exact h2
 | @snoc l i r k w hf hr ih=>
  intro hF j
  rw [Gl]at hF⊢
  have hs:=GW (z:=Cz P l) (w:=w) hr
  change VP (KO (Cz P l) (i,w)).fs F at hF
  change Goes j _ _ ((KO (Cz P l) (i,w)).out j) (Rp rq F ((KO (Cz P l) (i,w)).Dg j))
  rw [hs]at hF⊢
  dsimp only at hF⊢
  obtain⟨⟨y,hy⟩,x,h1,h2⟩:=Gm (i:=j) (rq:=rq) (F:=F) (p:=k w) (f:=(Cz P l).fs) (o:=(Cz P l).out i) rfl hF
  have hF0:VP (Cz P l).fs F:=fun q s hq=>hF q s (by rw [hy];exact II hq)
  have g:=ih hF0 j
  rw [Ov]
  by_cases e:i=j
  ·subst e
   rw [if_pos (show(Co i (rq r) w).BI=i from rfl),AL,AL,h1]
   refine g.trans ?_
   rw [hr]
   exact .step w h2
  ·rw [if_neg (show ¬(Co i (rq r) w).BI=j from e),Ai _ _ (Ne.symm e),Ai _ _ (Ne.symm e)]
   exact g
theorem ZS(hQ:∀j,Quiet (P j))(h:Fi rq P l):(∀e,e∈l->e.BI<nT)->Hq nT (Cz P l).fs (Cz P l).out:=by
 induction h with
 | nil=>
  intro _
  have no:∀j y,y∈(Cz P []).out j->(∀q s,y≠ .ak q s)/\∀q s,y≠ .kn q s:=fun j y hy=>by
   obtain⟨o',p',e⟩:=hQ j
   have hz:settle (P j) [] ((fun _:Nat=>([]:List It)) j)=([],o',p'):=by rw [e];rfl
   have z:=Hq.settle (nT:=j+1) (SQ j) hz Hq.nil
   change y∈(settle (P j) [] []).2.1 at hy
   rw [show settle (P j) [] []=([],o',p')from hz]at hy
   refine⟨fun q s e'=>?_,fun q s e'=>?_⟩
   ·have:=z.asks j q s (by rw [AL,<-e'];exact hy)
    cases this
   ·have:=z.td j q s (by rw [AL,<-e'];exact hy)
    cases this
  exact⟨fun j q s hm=>absurd rfl ((no j _ hm).1 q s),fun j q s hm=>absurd rfl ((no j _ hm).2 q s),fun n q s hn=>by cases hn⟩
 | @snoc l i r k w hf hr ih=>
  intro ht
  have x:=ih fun e he=>ht e (GR _ he)
  have hi:i<nT:=ht _ (BX _ (DD.2 rfl))
  rw [Gl]
  show Hq nT (KO (Cz P l) (i,w)).fs (KO (Cz P l) (i,w)).out
  rw [GW hr]
  exact Hq.settle hi rfl x
theorem km(hQ:∀j,Quiet (P j))(hK:∀j,Kb (P j) 0)(h:Fi rq P l):(∀e,e∈l->e.BI<nT)->∃cr:Nat->Nat,(∀j,Kb ((Cz P l).Dg j) (cr j))/\JI (fun j=>(cr j:Int)) nT+2*(Cz P l).fs.length<=l.length:=by
 induction h with
 | nil=>
  intro _
  refine⟨fun _=>0,fun j=>?_,?_⟩
  ·obtain⟨o',p',e⟩:=hQ j
   have hz:settle (P j) [] []=([],o',p'):=by rw [e];rfl
   obtain⟨n',h1,h2⟩:=Kb.settle (hK j) hz
   show Kb (settle (P j) [] []).2.2 0
   rw [hz]
   have:n'=0:=by simp at h2;omega
   rw [<-this];exact h1
  ·have:∀n,JI (fun _=>(((0:Nat)):Int)) n=0:=fun n=>by
    induction n with
    | zero=>rfl
    | succ n ih=>show JI _ n+0=0;rw [ih];rfl
   rw [this];exact Mh _
 | @snoc l i r k w hf hr ih=>
  intro ht
  obtain⟨cr,h1,h2⟩:=ih fun e he=>ht e (GR _ he)
  have hi:i<nT:=ht _ (BX _ (DD.2 rfl))
  rw [Gl]
  change ∃cr:Nat->Nat,(∀j,Kb ((KO (Cz P l) (i,w)).Dg j) (cr j))/\JI (fun j=>(cr j:Int)) nT+2*(KO (Cz P l) (i,w)).fs.length<=(l++[Co i (rq r) w]).length
  rw [GW hr]
  have hk:=h1 i
  rw [hr]at hk
  obtain⟨n',h3,h4⟩:=Kb.settle (hk w) (f:=(Cz P l).fs) (o:=(Cz P l).out i) rfl
  refine⟨ut cr i n',fun j=>?_,?_⟩
  ·dsimp only
   by_cases e:j=i
   ·subst e;rw [AL,AL];exact h3
   ·rw [Ai _ _ e,Ai _ _ e];exact h1 j
  ·have:=Ol (f:=fun j=>(cr j:Int)) (f':=fun j=>((ut cr i n' j:Nat):Int)) hi fun j _ hj=>by
    show((ut cr i n' j:Nat):Int)=cr j
    rw [Ai _ _ hj]
   rw [this,C1,List.length_singleton]
   dsimp only
   rw [AL]
   omega
theorem Qa(hQ:∀j,Quiet (P j))(hK:∀j,Kb (P j) 0)(h:Fi rq P l)(ht:∀e,e∈l->e.BI<nT):2*(Cz P l).fs.length<=l.length:=by
 obtain⟨cr,-,h2⟩:=km hQ hK h ht
 have:∀n,0<=JI (fun j=>(cr j:Int)) n:=fun n=>by
  induction n with
  | zero=>exact Mh _
  | succ n ih=>exact Int.add_nonneg ih (Int.natCast_nonneg _)
 have:=this nT
 omega
end
theorem IE{n:Nat}:Kb stuck n:=fun _=>trivial
theorem RL{c:Nat}{due:Int}{s:Nat}{k:Int->Int->Int->PA}:∀{n m:Nat},(∀a b e,Kb (k a b e) m)->Kb (KP c due s k n) m
 | 0,m,h=>h 0 0 12
 | n+1,m,h=>fun x=>by
  dsimp only
  split
  ·split
   ·intro w
    dsimp only
    split
    ·exact⟨m,rfl,fun _ _=>(h _ _ _).mono (by omega)⟩
    ·exact(RL h).mono (by omega)
   ·exact(RL h).mono (by omega)
  ·exact IE
theorem dJ{c:Nat}{due:Int}{f:Option Nat}{k:Int->Int->Int->PA}{m:Nat}(h:∀a b e,Kb (k a b e) m):Kb (LX c due f k) m:=by
 unfold LX
 split
 ·cases f with
  | none=>exact h _ _ _
  | some s=>exact RL h
 ·exact h _ _ _
theorem ZQ{c:Nat}{s r:Int}{k:Bool->PA}{m:Nat}(h:∀b,Kb (k b) m):Kb (FD c s r k) m:=by
 unfold FD
 split
 ·exact fun w=>(h _).mono (by omega)
 ·exact h _
theorem Lv{c:Nat}{now:Int}{k:Option (Nat×Int)->PA}:∀{n m:Nat} {b:Option (Nat×Int×Int)},(∀o,Kb (k o) m)->Kb (GM c now k n b) m
 | 0,m,b,h=>h _
 | n+1,m,b,h=>fun x=>by
  dsimp only
  split
  ·split
   ·intro w
    dsimp only
    split
    ·exact(Lv h).mono (by omega)
    ·exact(Lv h).mono (by omega)
   ·exact(Lv h).mono (by omega)
  ·exact IE
theorem RX{ring:Nat->PA->PA}(hr:∀s k m,Kb k m->Kb (ring s k) m){c:Nat}{now:Int}{k:Int->Int->PA}:∀{n g m:Nat},(∀a b,Kb (k a b) m)->Kb (He ring c now k n g) m
 | 0,_,m,h=>IE
 | n+1,g,m,h=>by
  unfold He
  refine Lv fun o=>?_
  cases o with
  | none=>exact fun _=>(h _ _).mono (by omega)
  | some q=>
   obtain⟨j,x⟩:=q
   dsimp only
   split
   ·exact fun _=>(h _ _).mono (by omega)
   ·intro w
    dsimp only
    split
    ·exact fun s=>hr _ _ _ fun _=>(RX hr h).mono (by omega)
    ·exact(RX hr h).mono (by omega)
section
variable{sc:List (List BH)}{nC nK:Nat}
theorem Z6{HZ:Nat->Int->(Int->Int->PA)->PA}(ha:∀c d k m,(∀a b,Kb (k a b) m)->Kb (HZ c d k) m){s:Nat}{q:BH}{k:List Int->Int->PA}{m:Nat}(h:∀a b,Kb (k a b) m):Kb (E1 sc nC nK HZ s q k) m:=by
 unfold E1
 repeat' split
 all_goals first|exact h _ _|exact fun _=>(h _ _).mono (by omega)|exact dJ fun _ _ _=>h _ _|exact ZQ fun _=>h _ _|exact ha _ _ _ _ fun _ _=>h _ _
theorem Og{HZ:Nat->Int->(Int->Int->PA)->PA}(ha:∀c d k m,(∀a b,Kb (k a b) m)->Kb (HZ c d k) m){s:Nat}{k:PA}{m:Nat}(h:Kb k m):∀{l:List BH} {j:Nat},Kb (DV sc nC nK HZ s k j l) m
 | [],_=>h
 | q::l,j=>by
  unfold DV
  split
  ·exact h
  ·exact Z6 ha fun _ _=>Og ha h
theorem Zj{HZ:Nat->Int->(Int->Int->PA)->PA}(ha:∀c d k m,(∀a b,Kb (k a b) m)->Kb (HZ c d k) m){s:Nat}{k:PA}{m:Nat}(h:Kb k m):Kb (Il sc nC nK HZ s k) m:=by
 unfold Il
 split
 ·exact Og ha h
 ·exact IE
theorem eJ{ring:Nat->PA->PA}(hr:∀s k m,Kb k m->Kb (ring s k) m){c N:Nat}{d:Int}{k:Int->Int->PA}{m:Nat}(h:∀a b,Kb (k a b) m):Kb (.step ⟨3,cc c 1,0,1⟩ fun w=>if w=0 then .step ⟨1,cc c 0,0,0⟩ fun v=>if 0<=v/\v<=4611686018427387904 then .step ⟨2,cc c 0,GF v d,0⟩ fun _=>He ring c (GF v d) k N 0 else stuck else k 0 14) m:=by
 intro w
 dsimp only
 split
 ·intro v
  dsimp only
  split
  ·exact fun _=>(RX hr h).mono (by omega)
  ·exact IE
 ·exact(h _ _).mono (by omega)
theorem dz{n:Nat}:∀(c:Nat) (d:Int) (k:Int->Int->PA) (m:Nat),(∀a b,Kb (k a b) m)->Kb (EH sc nC nK n c d k) m:=by
 induction n with
 | zero=>
  intro c d k m h w
  dsimp only
  split
  ·exact IE
  ·exact(h _ _).mono (by omega)
 | succ n ih=>
  intro c d k m h
  exact eJ (N:=65537) (fun s k m hk=>Zj ih hk) h
theorem VT(i:Nat):Kb (Nt sc nC nK i) 0:=Og dz (show Kb .done 0 from trivial)
end
end
section
def HA(K:Fs)(q:FK)(s:Nat):Fs:=match Eb K q with
 | some _=>K
 | none=>K++[(q,s)]
structure WR where
 K:Fs
 t:List TP
 w:Bool
def B2:List It->Fs->WR
 | [],K=>⟨K,[],false⟩
 | .tl e::o,K=>⟨(B2 o K).K,e::(B2 o K).t,(B2 o K).w⟩
 | .kn q s::o,K=>B2 o (HA K q s)
 | .ak q _::o,K=>match Eb K q with
  | some _=>B2 o K
  | none=>⟨K,[],true⟩
theorem Od(K:Fs)(q:FK)(s:Nat):∃y,HA K q s=K++y:=by
 unfold HA
 split
 ·exact⟨[],(DI _).symm⟩
 ·exact⟨_,rfl⟩
theorem Zu(K:Fs)(q:FK)(s:Nat):Eb (HA K q s) q≠none:=by
 unfold HA
 cases h:Eb K q with
 | some s'=>dsimp only;rw [h];exact nofun
 | none=>
  dsimp only
  rw [Lp,h]
  show(if q=q then some s else none)≠none
  rw [if_pos rfl];exact nofun
theorem J0{K y:Fs}{q:FK}(h:Eb K q≠none):Eb (K++y) q≠none:=by
 cases e:Eb K q with
 | none=>exact absurd e h
 | some s=>rw [II e];exact nofun
theorem HF:∀{o:List It} {K:Fs},∃y,(B2 o K).K=K++y
 | [],K=>⟨[],(DI _).symm⟩
 | .tl e::o,K=>HF (o:=o)
 | .kn q s::o,K=>by
  obtain⟨y,hy⟩:=Od K q s
  obtain⟨z,hz⟩:=HF (o:=o) (K:=HA K q s)
  exact⟨y++z,by show(B2 o (HA K q s)).K=_;rw [hz,hy,Ke]⟩
 | .ak q s::o,K=>by
  unfold B2
  split
  ·exact HF (o:=o)
  ·exact⟨[],(DI _).symm⟩
theorem Ib:∀{o:List It} {K:Fs},(B2 o K).w=false->(B2 o K).t=JL o
 | [],K,_=>rfl
 | .tl e::o,K,h=>by show e::(B2 o K).t=e::JL o;rw [Ib (o:=o) h]
 | .kn q s::o,K,h=>Ib (o:=o) (K:=HA K q s) h
 | .ak q s::o,K,h=>by
  unfold B2 at h⊢
  cases e:Eb K q with
  | none=>rw [e]at h;cases h
  | some s'=>rw [e]at h;exact Ib (o:=o) h
theorem Hl{q:FK}{s:Nat}{b:List It}:∀{a:List It} {K:Fs},(∀q' s',It.ak q' s'∈a->Eb K q'≠none)->Eb (B2 (a++ .kn q s::b) K).K q≠none
 | [],K,_=>by
  obtain⟨y,hy⟩:=HF (o:=b) (K:=HA K q s)
  show Eb (B2 b (HA K q s)).K q≠none
  rw [hy]
  exact J0 (Zu K q s)
 | .tl e::a,K,h=>Hl (a:=a) fun q' s' hm=>h q' s' (C2 _ hm)
 | .kn q1 s1::a,K,h=>by
  refine Hl (a:=a) (K:=HA K q1 s1) fun q' s' hm=>?_
  obtain⟨y,hy⟩:=Od K q1 s1
  rw [hy]
  exact J0 (h q' s' (C2 _ hm))
 | .ak q1 s1::a,K,h=>by
  have h1:=h q1 s1 BJ
  show Eb (B2 (.ak q1 s1::(a++ .kn q s::b)) K).K q≠none
  unfold B2
  cases e:Eb K q1 with
  | none=>exact absurd e h1
  | some s'=>exact Hl (a:=a) fun q' s' hm=>h q' s' (C2 _ hm)
theorem HC:∀{o:List It} {K:Fs},(∀q' s',It.ak q' s'∈o->Eb K q'≠none)->(B2 o K).w=false
 | [],_,_=>rfl
 | .tl e::o,K,h=>HC (o:=o) fun q' s' hm=>h q' s' (C2 _ hm)
 | .kn q s::o,K,h=>HC (o:=o) (K:=HA K q s) fun q' s' hm=>by
  obtain⟨y,hy⟩:=Od K q s
  rw [hy]
  exact J0 (h q' s' (C2 _ hm))
 | .ak q s::o,K,h=>by
  unfold B2
  cases e:Eb K q with
  | none=>exact absurd e (h q s BJ)
  | some s'=>exact HC (o:=o) fun q' s' hm=>h q' s' (C2 _ hm)
structure R1(fs K:Fs):Prop where
 sub:∀x,x∈K->x∈fs
 nd:(K.map Prod.fst).Nodup
theorem R1.nil(fs:Fs):R1 fs []:=⟨fun _ h=>(by cases h),List.nodup_nil⟩
theorem R1.add{fs K:Fs}(h:R1 fs K){q:FK}{s:Nat}(hq:(q,s)∈fs):R1 fs (HA K q s):=by
 unfold HA
 cases e:Eb K q with
 | some s'=>exact h
 | none=>
  refine⟨fun x hx=>(Ff.1 hx).elim (h.sub x) fun z=>by rw [DD.1 z];exact hq,?_⟩
  rw [EF,List.nodup_append]
  refine⟨h.nd,by simp,fun a ha b hb=>?_⟩
  obtain⟨x,hx,rfl⟩:=Iu.1 ha
  rw [List.map_singleton,DD]at hb
  subst hb
  intro e'
  exact Sw e x.2 (by rw [<-e'];exact hx)
theorem UE{fs:Fs}:∀{o:List It} {K:Fs},(∀q s,It.kn q s∈o->(q,s)∈fs)->R1 fs K->R1 fs (B2 o K).K
 | [],_,_,h=>h
 | .tl e::o,K,hk,h=>UE (o:=o) (fun q s hm=>hk q s (C2 _ hm)) h
 | .kn q s::o,K,hk,h=>UE (o:=o) (fun q s hm=>hk q s (C2 _ hm)) (h.add (hk q s BJ))
 | .ak q s::o,K,hk,h=>by
  unfold B2
  cases e:Eb K q with
  | none=>exact h
  | some s'=>exact UE (o:=o) (fun q s hm=>hk q s (C2 _ hm)) h
theorem QX{α:Type}[DecidableEq α]:∀{l m:List α},l.Nodup->(∀x,x∈l->x∈m)->l.length<=m.length
 | [],_,_,_=>Bv _
 | a::l,m,hn,hs=>by
  rw [List.nodup_cons]at hn
  have ha:=hs a BJ
  have:=QX (l:=l) (m:=m.erase a) hn.2 fun x hx=>(List.mem_erase_of_ne (fun(e:x=a)=>hn.1 (e▸hx))).2 (hs x (C2 _ hx))
  rw [List.length_erase_of_mem ha]at this
  have:=List.length_pos_of_mem ha
  show l.length+1<=_
  omega
theorem R1.len{fs K:Fs}(h:R1 fs K):K.length<=fs.length:=by
 have:=QX (l:=K) (m:=fs) (by
  have:=h.nd
  clear h
  induction K with
  | nil=>exact List.nodup_nil
  | cons x K ih=>
   rw [List.map_cons,List.nodup_cons]at this
   exact List.nodup_cons.2 ⟨fun hx=>this.1 (Iu.2 ⟨x,hx,rfl⟩),ih this.2⟩) h.sub
 exact this
def pk(out:Nat->List It)(K:Fs):Nat->Fs
 | 0=>K
 | i+1=>(B2 (out i) (pk out K i)).K
theorem Q0{out:Nat->List It}{K:Fs}:∀{i:Nat},∃y,pk out K i=K++y
 | 0=>⟨[],(DI _).symm⟩
 | i+1=>by
  obtain⟨y,hy⟩:=Q0 (out:=out) (K:=K) (i:=i)
  obtain⟨z,hz⟩:=HF (o:=out i) (K:=pk out K i)
  exact⟨y++z,by show(B2 (out i) (pk out K i)).K=_;rw [hz,hy,Ke]⟩
theorem fX{out:Nat->List It}{K:Fs}{q:FK}{i:Nat}:∀{j:Nat},Eb (pk out K i) q≠none->Eb (pk out K (i+j)) q≠none
 | 0,h=>h
 | j+1,h=>by
  obtain⟨z,hz⟩:=HF (o:=out (i+j)) (K:=pk out K (i+j))
  show Eb (B2 (out (i+j)) (pk out K (i+j))).K q≠none
  rw [hz]
  exact J0 (fX h)
theorem Uj{fs K:Fs}{out:Nat->List It}{nT:Nat}(x:Hq nT fs out){i:Nat}(hw:(B2 (out i) (pk out K i)).w=true):K.length<(pk out K nT).length:=by
 have hex:∃(n:Nat) (q:FK) (s:Nat),fs[n]?=some (q,s)/\Eb K q=none:=by
  apply Classical.byContradiction
  intro G7
  have:(B2 (out i) (pk out K i)).w=false:=HC fun q s hm=>by
   obtain⟨n,-,hn⟩:=Vd (x.asks i q s hm)
   obtain⟨y,hy⟩:=Q0 (out:=out) (K:=K) (i:=i)
   rw [hy]
   exact J0 fun z=>G7 ⟨n,q,s,hn,z⟩
  rw [this]at hw;cases hw
 have yt:∃n:Nat,(∃(q:FK) (s:Nat),fs[n]?=some (q,s)/\Eb K q=none)/\∀m:Nat,m<n->∀(q:FK) (s:Nat),fs[m]?=some (q,s)->Eb K q≠none:=by
  obtain⟨n,hn⟩:=hex
  induction n using Nat.strongRecOn with
  | _ n ih=>
   by_cases h:∃m:Nat,m<n/\∃(q:FK) (s:Nat),fs[m]?=some (q,s)/\Eb K q=none
   ·obtain⟨m,hm,h⟩:=h;exact ih m hm h
   ·exact⟨n,hn,fun m hm q s hq hz=>h ⟨m,hm,q,s,hq,hz⟩⟩
 obtain⟨n,⟨q,s,hq,G7⟩,Tu⟩:=yt
 obtain⟨j,a,b,hj,ho,ha⟩:=x.ord n q s hq
 have h1:Eb (pk out K (j+1)) q≠none:=by
  show Eb (B2 (out j) (pk out K j)).K q≠none
  rw [ho]
  refine Hl fun q' s' hm=>?_
  obtain⟨m,iK,uJ,aS⟩:=ha q' s' hm
  obtain⟨y,hy⟩:=Q0 (out:=out) (K:=K) (i:=j)
  rw [hy]
  exact J0 (Tu m uJ q' iK aS)
 have h2:Eb (pk out K nT) q≠none:=by
  have:=fX (j:=nT-(j+1)) h1
  rwa [show j+1+(nT-(j+1))=nT by omega]at this
 obtain⟨y,hy⟩:=Q0 (out:=out) (K:=K) (i:=nT)
 rw [hy]at h2⊢
 rw [C1]
 cases y with
 | nil=>rw [DI]at h2;exact absurd G7 h2
 | cons _ _=>rw [List.length_cons];omega
end
section
def KX(acc:List Nat)(l:List Ev):List Nat:=l.foldl (fun a e=>if e.b∈a then a else a++[e.b]) acc
theorem MT:∀(l:List Ev) (acc:List Nat),∃s,KX acc l=acc++s
 | [],acc=>⟨[],by simp [KX]⟩
 | e::l,acc=>by
  by_cases h:e.b∈acc
  ·obtain⟨s,hs⟩:=MT l acc
   exact⟨s,by unfold KX at hs⊢;rw [List.foldl_cons,if_pos h];exact hs⟩
  ·obtain⟨s,hs⟩:=MT l (acc++[e.b])
   exact⟨e.b::s,by unfold KX at hs⊢;rw [List.foldl_cons,if_neg h,hs];simp⟩
theorem Zr(l l':List Ev):∃s,Ab (l++l')=Ab l++s:=by
 obtain⟨s,hs⟩:=MT l' (Ab l)
 exact⟨s,by unfold Ab at hs⊢;rw [List.foldl_append];exact hs⟩
theorem Jm:∀(l:List Ev) (acc:List Nat),acc.Nodup->(KX acc l).Nodup
 | [],acc,h=>h
 | e::l,acc,h=>by
  unfold KX
  rw [List.foldl_cons]
  by_cases he:e.b∈acc
  ·rw [if_pos he];exact Jm l acc h
  ·rw [if_neg he]
   refine Jm l _ (List.nodup_append.2 ⟨h,by simp,fun a ha b hb=>?_⟩)
   rw [DD.1 hb]
   exact fun e'=>he (e'▸ha)
theorem Ow(l:List Ev):(Ab l).Nodup:=Jm l [] List.nodup_nil
theorem Dj{α:Type}{l:List α}{k:Nat}{a:α}(h:l[k]?=some a):l.take (k+1)=l.take k++[a]/\l=l.take (k+1)++l.drop (k+1)/\k<l.length:=by
 have hk:k<l.length:=by
  rcases EM k l.length with y|y
  ·exact y
  ·rw [Iz y]at h;cases h
 refine⟨?_,(List.take_append_drop _ _).symm,hk⟩
 rw [List.take_add_one,h];rfl
theorem UC{l:List Ev}{k:Nat}{e:Ev}(h:l[k]?=some e):(Ab l).idxOf e.b=(Ab (l.take (k+1))).idxOf e.b/\(Ab l).idxOf e.b<(Ab (l.take (k+1))).length/\(Ab (l.take (k+1)))[(Ab l).idxOf e.b]?=some e.b/\
  ((e.b∈Ab (l.take k)/\Ab (l.take (k+1))=Ab (l.take k)/\(Ab l).idxOf e.b<(Ab (l.take k)).length)\/(e.b∉Ab (l.take k)/\Ab (l.take (k+1))=Ab (l.take k)++[e.b]/\(Ab l).idxOf e.b=(Ab (l.take k)).length)):=by
 obtain⟨h1,h2,h3⟩:=Dj h
 have hm:e.b∈Ab (l.take (k+1)):=(IH _ _).2 ⟨e,by rw [h1];simp,rfl⟩
 obtain⟨s,hs⟩:=Zr (l.take (k+1)) (l.drop (k+1))
 rw [<-h2]at hs
 have e1:(Ab l).idxOf e.b=(Ab (l.take (k+1))).idxOf e.b:=by rw [hs];exact MV hm s
 have Cg:=List.idxOf_lt_length_iff.2 hm
 refine⟨e1,e1▸Cg,?_,?_⟩
 ·rw [e1,List.getElem?_eq_getElem Cg];simp
 ·by_cases hc:e.b∈Ab (l.take k)
  ·left
   have e2:Ab (l.take (k+1))=Ab (l.take k):=by rw [h1,Fl,if_pos hc]
   refine⟨hc,e2,?_⟩
   rw [e1,e2];exact List.idxOf_lt_length_iff.2 hc
  ·right
   have e2:Ab (l.take (k+1))=Ab (l.take k)++[e.b]:=by rw [h1,Fl,if_neg hc]
   refine⟨hc,e2,?_⟩
   rw [e1,e2,List.idxOf_append,if_neg hc]
   simp
theorem Yh{f:Nat->Int}{b:Nat}{x:Int}{F:Int->Value}:∀{l:List Nat},l.Nodup->b∈l->(l.map fun c=>F (ut f b x c))=(l.map fun c=>F (f c)).set (l.idxOf b) (F x)
 | [],_,h=>by cases h
 | a::l,hn,h=>by
  obtain⟨h1,h2⟩:=List.nodup_cons.1 hn
  by_cases e:a=b
  ·subst e
   have:(l.map fun c=>F (ut f a x c))=l.map fun c=>F (f c):=QC fun c hc=>by rw [Ai _ _ (fun e:c=a=>h1 (by rw [<-e];exact hc))]
   simp [this,AL]
  ·have hb:b∈l:=(Ew.1 h).resolve_left (Ne.symm e)
   have e':(a==b)=false:=by simpa using e
   simp only [List.map_cons,List.idxOf_cons,e',cond_false,List.set_cons_succ,Ai _ _ e]
   rw [Yh h2 hb]
section
variable{X:Us}{v0 v v':Nat->Int}{l:List Ev}
theorem Ej.inv(c:Ej X v0 l v){k:Nat}{e:Ev}(h:l[k]?=some e):∃(w:Nat->Int) (i:Nat) (r:Rq),Ej X v0 (l.take k) w/\JJ X r/\e=Co i r (w r.b)/\Ej X v0 (l.take (k+1)) (ut w r.b (behind r.op (w r.b) r.arg r.new).1):=by
 induction c with
 | nil=>cases h
 | @snoc l v i r c hr ih=>
  rcases Nat.lt_trichotomy k l.length with y|y|y
  ·rw [Iy y]at h
   rw [List.take_append_of_le_length (by omega),List.take_append_of_le_length (by omega)]
   exact ih h
  ·subst y
   rw [IB (CY _),Nat.sub_self]at h
   obtain rfl:Co i r (v r.b)=e:=by simpa using h
   rw [List.take_left,List.take_of_length_le (by simp)]
   exact⟨v,i,r,c,hr,rfl,.snoc i r c hr⟩
  ·rw [List.getElem?_eq_none (by simp;omega)]at h;cases h
theorem Ej.El(c:Ej X v0 l v):∀{v'},Ej X v0 l v'->v'=v:=by
 induction c with
 | nil=>
  intro v' c'
  generalize hl:([]:List Ev)=l' at c'
  cases c' with
  | nil=>rfl
  | snoc=>simp at hl
 | @snoc l v i r c hr ih=>
  intro v' c'
  generalize hl:l++[Co i r (v r.b)]=l' at c'
  cases c' with
  | nil=>simp at hl
  | @snoc l2 w i2 r2 c2 iU=>
   obtain⟨h1,h2⟩:=List.append_inj' hl rfl
   subst h1
   have:=ih c2
   subst this
   have h3:Co i r (w r.b)=Co i2 r2 (w r2.b):=by simpa using h2
   have hb:r.b=r2.b:=congrArg Ev.b h3
   have ho:r.op=r2.op:=congrArg Ev.op h3
   have ha:r.arg=r2.arg:=congrArg Ev.arg h3
   have hn:r.new=r2.new:=congrArg Ev.new h3
   rw [hb,ho,ha,hn]
theorem Ej.first(c:Ej X v0 l v){b:Nat}(h:b∉Ab l):v b=v0 b:=by
 induction c with
 | nil=>rfl
 | @snoc l v i r c hr ih=>
  rw [Fl]at h
  have hb:b≠r.b:=fun e=>by
   subst e
   split at h
   ·rename_i y;exact h y
   ·exact h (by simp [Co])
  rw [Ai _ _ hb]
  refine ih fun y=>h ?_
  split
  ·exact y
  ·exact GR _ y
theorem Ej.cell(c:Ej X v0 l v){b:Nat}(h:b∈Ab l):X.FC b:=by
 induction c with
 | nil=>cases h
 | @snoc l v i r c hr ih=>
  rw [Fl]at h
  split at h
  ·exact ih h
  ·rcases Ff.1 h with y|y
   ·exact ih y
   ·rw [DD.1 y];exact hr.cell
end
structure Rec where
 nb:Nat
 most:Nat
 e:Int
 log:List Ev
 Da:List Nat
 left:List (Nat×Rq)
 v0:Nat->Int
 val:Nat->Int
def Rec.alive(R:Rec)(k:Nat):List Nat:=(List.range R.nb).filter (fun j=>R.left.any (fun q=>q.1==j)||(R.log.drop k).any (fun e=>e.BI==j))
structure Fh(X:Us)(AZ:List Int)(R:Rec):Prop where
 nb:R.nb<=64
 most:R.most<=65536
 len:R.log.length<=R.most
 Da:R.Da.length=R.log.length
 chain:Ej X R.v0 R.log R.val
 left:∀q,q∈R.left->q.1<R.nb/\JJ X q.2
 Xp:R.left.Pairwise fun a b=>a.1<b.1
 turns:∀(k:Nat) (e:Ev),R.log[k]?=some e->R.Da[k]?=some (R.alive k).length/\e.BI=FI AZ ((R.log.take k).map (·.BI)) (R.alive k)/\e.BI∈R.alive k
 XX:(R.e=1/\R.left=[])\/(R.e=2/\R.left≠[]/\R.log.length=R.most)
def EJ(ns:List Nat)(v:Nat->Int)(q:Nat×Rq):List Value:=A4 q.1 q.2.op (if q.2.b∈ns then(ns.idxOf q.2.b:Int)else -1) q.2.arg q.2.new (v q.2.b) (v q.2.b) false
structure HB(R:Rec)(AZ:List Int)(lL lW lY lV sP:Value)(h:Hp):Prop where
 log:AR h lL 38 8 R.log.length (R.log.flatMap (CF (Ab R.log)))
 Ax:AR h lW 3 1 (R.log.map (·.BI)).length ((R.log.map (·.BI)).map fun(n:Nat)=>Value.int .i64 (n:Int))
 Da:AR h lY 3 1 R.Da.length (R.Da.map fun(n:Nat)=>Value.int .i64 (n:Int))
 left:AR h lV 38 8 R.left.length (R.left.flatMap (EJ (Ab R.log) R.val))
 AZ:Hh h sP (AZ.map fun x=>.int .i64 x)
theorem HB.upd{R:Rec}{AZ:List Int}{lL lW lY lV sP:Value}{h h':Hp}(m:HB R AZ lL lW lY lV sP h)(u:AN (fun _=>False) h h'):HB R AZ lL lW lY lV sP h':=
 ⟨m.log.upd u (fun _ _ x=>x),m.Ax.upd u (fun _ _ x=>x),m.Da.upd u (fun _ _ x=>x),m.left.upd u (fun _ _ x=>x),m.AZ.upd u (fun _ _ _ x=>x)⟩
def R5:Ph->Rq
 | .Bp r=>r
 | _=>⟨0,0,0,0⟩
def Li{U:Type}(p:PS U)(v0:Nat->Int)(nb most:Nat)(e:Int):Rec:=⟨nb,most,e,p.log,p.Da,(p.live nb).map fun j=>(j,R5 (p.st j)),v0,p.val⟩
theorem TF{U:Type}{p:PS U}{v0:Nat->Int}{nb most:Nat}{e:Int}(hn:p.num=nb)(k:Nat):(Li p v0 nb most e).alive k=E7 p k:=by
 unfold Rec.alive E7 Li
 rw [hn]
 refine List.filter_congr fun j hj=>?_
 have Dm:j<nb:=Iv.1 hj
 have:(List.map (fun j=>(j,R5 (p.st j))) (p.live nb)).any (fun q=>q.1==j)=!p.gone j:=by
  rw [List.any_map]
  cases hg:p.gone j
  ·refine List.any_eq_true.2 ⟨j,F8.2 ⟨Dm,hg⟩,by simp⟩
  ·refine List.any_eq_false.2 fun x hx=>?_
   obtain⟨_,az⟩:=F8.1 hx
   have:x≠j:=fun e=>by rw [e,hg]at az;cases az
   simpa using this
 dsimp only
 rw [this]
theorem EZ.record{X:Us}{v0:Nat->Int}{AZ:List Int}{nb most:Nat}{p:PS X.U}{e:Int}{lL lW lY lV _sP:Value}{h:Hp}(E:EZ X v0 AZ nb most p e lL lW lY lV h)(Rj:nb<=64)(hm:most<=65536):Fh X AZ (Li p v0 nb most e):=by
 have rg:=E.reg
 have hlen:p.log.length<=most:=by
  rcases E.XX with⟨-,-,h⟩|⟨-,-,h⟩
  ·exact h
  ·exact Nat.le_of_eq h
 have st:∀j,j<nb->p.gone j=false->∃r,p.st j= .Bp r/\JJ X r:=fun j hj hg=>by
  rcases rg.alive j hj with⟨_,r,h1,h2⟩|⟨h1,_⟩
  ·exact⟨r,h1,h2⟩
  ·rw [hg]at h1;cases h1
 refine⟨Rj,hm,hlen,rg.Da,rg.chain,fun q hq=>?_,?_,fun k ev hk=>?_,?_⟩
 ·obtain⟨j,hj,rfl⟩:=Iu.1 hq
  obtain⟨h1,h2⟩:=F8.1 hj
  obtain⟨r,h3,h4⟩:=st j h1 h2
  exact⟨h1,by show JJ X (R5 (p.st j));rw [h3];exact h4⟩
 ·show(List.map _ (p.live nb)).Pairwise _
  rw [List.pairwise_map]
  unfold PS.live
  exact List.Pairwise.filter _ List.pairwise_lt_range
 ·rw [TF rg.num]
  exact rg.turns k ev hk
 ·rcases E.XX with⟨h1,h2,-⟩|⟨h1,h2,h3⟩
  ·exact .inl ⟨h1,by show List.map _ (p.live nb)=[];rw [h2];rfl⟩
  ·exact .inr ⟨h1,fun e=>h2 (List.map_eq_nil_iff.1 e),h3⟩
theorem EZ.mem{X:Us}{v0:Nat->Int}{AZ:List Int}{nb most:Nat}{p:PS X.U}{e:Int}{lL lW lY lV sP:Value}{h:Hp}(E:EZ X v0 AZ nb most p e lL lW lY lV h)(hP:Hh h sP (AZ.map fun x=>.int .i64 x)):HB (Li p v0 nb most e) AZ lL lW lY lV sP h:=by
 have rg:=E.reg
 refine⟨E.log,by have:=E.Ax;rw [rg.Ax]at this;exact this,E.Da,?_,hP⟩
 have e1:(p.live nb).flatMap (Im p (Ab p.log))=((p.live nb).map fun j=>(j,R5 (p.st j))).flatMap (EJ (Ab p.log) p.val):=by
  rw [List.flatMap_map]
  have:∀l:List Nat,(∀j,j∈l->j∈p.live nb)->l.flatMap (Im p (Ab p.log))=l.flatMap fun a=>EJ (Ab p.log) p.val (a,R5 (p.st a)):=fun l=>by
   induction l with
   | nil=>intro _;rfl
   | cons j l ih=>
    intro hl
    obtain⟨h1,h2⟩:=F8.1 (hl j (by simp))
    have:∃r,p.st j= .Bp r:=by
     rcases rg.alive j h1 with⟨_,r,h1,_⟩|⟨h1,_⟩
     ·exact⟨r,h1⟩
     ·rw [h2]at h1;cases h1
    obtain⟨r,hr⟩:=this
    rw [List.flatMap_cons,List.flatMap_cons,ih (fun x hx=>hl x (by simp [hx]))]
    congr 1
    unfold Im EJ
    rw [hr]
    rfl
  exact this _ fun _ x=>x
 have:=E.left
 rw [e1]at this
 show AR h lV _ 8 ((p.live nb).map fun j=>(j,R5 (p.st j))).length _
 rw [Ca]
 exact this
theorem Ve{α:Type}{c:Nat}{f:α->List Value}(hf:∀a,(f a).length=c):∀{l:List α} {k:Nat} {a:α},l[k]?=some a->∀j,j<c->(l.flatMap f)[k*c+j]?=(f a)[j]?
 | [],_,_,h,_,_=>by cases h
 | x::l,0,a,h,j,hj=>by
  obtain rfl:x=a:=by simpa using h
  rw [List.flatMap_cons,Nat.zero_mul,Nat.zero_add,Iy (by rw [hf];exact hj)]
 | x::l,k+1,a,h,j,hj=>by
  rw [List.flatMap_cons,IB (by rw [hf,Nat.succ_mul];omega),hf,show(k+1)*c+j-c=k*c+j by rw [Nat.succ_mul];omega]
  exact Ve hf (by simpa using h) j hj
theorem Bt{h:Hp}{a:Option Addr}{n cap e c:Nat}{α:Type}{f:α->List Value}(hf:∀a,(f a).length=c){l:List α}(x:AR h (.slice a n cap) e c l.length (l.flatMap f)){k:Nat}{q:α}(hk:l[k]?=some q):
  ∃b,a=some ⟨b,0,none⟩/\A0 h b (0+k*c) (f q)/\∀o,Bf h ⟨b,o,none⟩=false:=by
 obtain⟨_,_,Cg⟩:=Dj hk
 obtain⟨b,WI,e1,hc,hz⟩:=x.cell (by omega)
 injection e1 with e1 _ _
 refine⟨b,e1,fun j v hv=>?_,hz⟩
 have hj:j<c:=by
  rcases EM j c with y|y
  ·exact y
  ·rw [Iz (by rw [hf];exact y)]at hv;cases hv
 rw [Nat.zero_add]
 exact hc _ _ ((Ve hf hk j hj).trans hv)
theorem C7{h:Hp}{a:Option Addr}{n cap e:Nat}{α:Type}{f:α->Value}{l:List α}(x:AR h (.slice a n cap) e 1 l.length (l.map f)){k:Nat}{q:α}(hk:l[k]?=some q):
  ∃b,a=some ⟨b,0,none⟩/\AF h ⟨b,0+k*1,none⟩=some (f q)/\∀o,Bf h ⟨b,o,none⟩=false:=by
 obtain⟨_,_,Cg⟩:=Dj hk
 obtain⟨b,WI,e1,hc,hz⟩:=x.cell (by omega)
 injection e1 with e1 _ _
 refine⟨b,e1,?_,hz⟩
 rw [Nat.zero_add,Nat.mul_one]
 exact hc _ _ (by rw [EQ,hk];rfl)
theorem FR(ns:List Nat)(e:Ev):(CF ns e).length=8:=rfl
theorem IJ(ns:List Nat)(v:Nat->Int)(q:Nat×Rq):(EJ ns v q).length=8:=rfl
abbrev qj(e:Int)(n:Nat)(lL lW lY lV sP:Value)(most:Nat)(tv cv:Value)(last:Int):List Value:=[.int .i8 e,.int .i64 n,lL,lW,lY,lV,AK,sP,.int .i64 most,tv,cv,.int .i64 last]
abbrev KR(e:Int)(n:Nat)(lL lW lY lV sP:Value)(most:Nat)(tv cv:Value)(last:Int):Obj:=.cells (qj e n lL lW lY lV sP most tv cv last).toArray 123 (0,0)
end
section
section
variable{Γ:Type}{main:Bool}{S:Cp Γ}{δ:Ix Γ}{h:Hp}
theorem Ww{op Dl arg new:Int}(h1:1<=op)(h2:op<=5):AY Tryz.prog main S 73 #[.int .i8 op,.int .i64 Dl,.int .i64 arg,.int .i64 new] h δ (CJ (Gb (.tuple #[.int .i64 (behind op Dl arg new).1,.bool (behind op Dl arg new).2]) h δ)):=by
 refine CK (n:=27) ?_
 rcases (show op=1\/op=2\/op=3\/op=4\/op=5 by omega)with rfl|rfl|rfl|rfl|rfl
 ·repeat(first|refine AI ?_|refine AH ?_|refine AE ?_|refine Ar ?_|refine Ak ?_|refine Bb ?_|refine AV ?_|refine Aq ?_|refine Bg ?_|refine Am ?_|refine AQ ?_)
  exact EL rfl rfl rfl El
 ·repeat(first|refine AI ?_|refine AH ?_|refine AE ?_|refine Ar ?_|refine Ak ?_|refine AV ?_|refine Aq ?_|refine Bs ?_|refine BU ?_|refine AQ ?_)
  exact EL rfl rfl rfl El
 ·by_cases e:Dl=arg
  ·have e1:behind 3 Dl arg new=(new,true):=by unfold behind;simp [e]
   rw [e1]
   repeat(first|refine AI ?_|refine AH ?_|refine AE ?_|refine Ak ?_|refine AV ?_|refine Aq ?_|refine Bs ?_|refine Bg ?_|refine BU ?_|refine Am ?_|refine AQ ?_)
   exact EL rfl rfl rfl El
  ·have e1:behind 3 Dl arg new=(Dl,false):=by unfold behind;simp [e]
   rw [e1]
   repeat(first|refine AI ?_|refine AH ?_|refine AE ?_|refine Ar ?_|refine Ak ?_|refine Bb ?_|refine AV ?_|refine Aq ?_|refine Bs ?_|refine Bg ?_|refine BU ?_|refine Am ?_|refine AQ ?_)
   exact EL rfl rfl rfl El
 ·have e1:behind 4 Dl arg new=(IntKind.i64.wrap (Dl+arg),false):=rfl
  rw [e1]
  repeat(first|refine AI ?_|refine AH ?_|refine AE ?_|refine Ak ?_|refine AV ?_|refine Aq ?_|refine Bs ?_|refine Bg ?_|refine BU ?_|refine Am ?_)
  refine BR (kd:=.i64) rfl rfl ?_
  repeat(first|refine AE ?_|refine Aq ?_|refine AQ ?_)
  exact EL rfl rfl rfl El
 ·repeat(first|refine AI ?_|refine AH ?_|refine AE ?_|refine Ak ?_|refine AV ?_|refine Aq ?_|refine Bs ?_|refine Bg ?_|refine BU ?_|refine Am ?_|refine AQ ?_)
  exact EL rfl rfl rfl El
theorem ZM{m:Nat}(hm:m<=65536):AY Tryz.prog main S 42 #[.int .i64 m] h δ (CJ (Gb (.int .i64 m) h δ)):=by
 refine CK (n:=8) ?_
 repeat(first|refine AI ?_|refine AH ?_|refine AE ?_|refine Ar ?_|refine AV ?_|refine Aq ?_|refine Bg ?_|refine Am ?_|refine AQ ?_)
 exact DQ El
theorem Zn{x:Int}{n:Nat}(hn:0<n)(mr:n<=1000):AY Tryz.prog main S 97 #[.int .i64 x,.int .i64 n] h δ (CJ (Gb (.int .i64 (x % (n:Int))) h δ)):=by
 have h1:=Int.lt_tmod_of_pos x (b:=(n:Int)) (by omega)
 have h2:=Int.tmod_lt_of_pos x (b:=(n:Int)) (by omega)
 have h3:=Int.emod_nonneg x (b:=(n:Int)) (by omega)
 have h4:=Int.emod_lt_of_pos x (b:=(n:Int)) (by omega)
 have h5:x.tmod n=x % (n:Int)\/x.tmod n+n=x % (n:Int):=by
  have k:=Om x (m:=(n:Int)) (by omega)
  have k2:(x.tmod n+n).tmod n=(x.tmod n+n) % (n:Int):=Int.tmod_eq_emod_of_nonneg (by omega)
  rcases Int.lt_or_le (x.tmod n) 0 with y|y
  ·right
   rw [<-k,k2,Int.emod_eq_of_lt (by omega) (by omega)]
  ·left
   rw [<-k,k2,Int.add_emod_right,Int.emod_eq_of_lt (by omega) (by omega)]
 generalize hr:x % (n:Int)=r at h3 h4 h5⊢
 refine CK (n:=15) ?_
 repeat(first|refine AI ?_|refine AH ?_|refine AE ?_|refine AV ?_|refine Aq ?_)
 refine SL (r:=x.tmod (n:Int)) rfl rfl rfl rfl (by omega) rfl ?_
 generalize x.tmod (n:Int)=q at h1 h2 h5⊢
 by_cases hq:q<0
 ·obtain rfl:r=q+n:=by omega
  repeat(first|refine AI ?_|refine AH ?_|refine AE ?_|refine AV ?_|refine Aq ?_|refine Bs ?_|refine BR (kd:=.i64) rfl (i64_in (by omega) (by omega)) ?_|refine BU ?_|refine AQ ?_)
  exact DQ El
 ·obtain rfl:r=q:=by omega
  repeat(first|refine AI ?_|refine AH ?_|refine AE ?_|refine Ar ?_|refine AV ?_|refine Aq ?_|refine Bg ?_|refine Am ?_|refine AQ ?_)
  exact DQ El
theorem db{l:List Nat}{last:Int}{sv:Value}(hl:AR h sv 3 1 l.length (l.map fun(n:Nat)=>Value.int .i64 (n:Int)))(B7:l≠[])(hlen:l.length<=1000):AY Tryz.prog main S 98 #[sv,.int .i64 last] h δ (CJ (Gb (.int .i64 (roundOf l last)) h δ)):=by
 have SA:0<l.length:=OE.2 B7
 obtain⟨a,kL,rfl⟩:=hl.val
 obtain⟨bL,ea,uX,_⟩:=C7 hl (k:=0) (q:=l.headD 0) (by cases l with|nil=>exact absurd rfl B7|cons a t=>rfl)
 subst ea
 refine CK (n:=25) ?_
 repeat(first|refine AI ?_|refine AH ?_|refine AE ?_|refine Ak ?_|refine Aq ?_)
 refine B1 (fun i:Nat=>[(5,.int .i64 i),(0,.slice (some ⟨bL,0,none⟩) l.length kL),(1,.int .i64 last)]) (fun i h' AW=>i<=l.length/\h'=h/\AW=δ/\∀(k x:Nat),k<i->l[k]?=some x->(x:Int)<=last) (fun i=>l.length-i) 0 ⟨rfl,rfl,rfl,trivial⟩ ⟨Bv _,rfl,rfl,fun k x hk=>by omega⟩ ?_
 rintro i h1 H0 ⟨hi,rfl,rfl,hb⟩ again
 by_cases CO:i<l.length
 ·obtain⟨j,hj⟩:∃j,l[i]?=some j:=⟨_,Cl CO⟩
  obtain⟨b2,e2,hc,_⟩:=C7 hl hj
  injection e2 with e2
  injection e2 with e2
  subst e2
  by_cases od:last<(j:Int)
  ·repeat(first|refine AI ?_|refine AH ?_|refine AE ?_|refine Ar ?_|refine Ak ?_|refine AV ?_|refine Aq ?_|refine Bs ?_|refine BN ?_|refine Cd ?_|refine BU ?_|refine AQ ?_|refine Av rfl (by assumption) ?_)
   refine DQ ?_
   rw [OX hj od hb]
   exact El
  ·repeat(first|refine AI ?_|refine AH ?_|refine AE ?_|refine Ar ?_|refine Ak ?_|refine Bb ?_|refine AV ?_|refine Aq ?_|refine Bs ?_|refine Bg ?_|refine BR (kd:=.i64) rfl (i64_in (by omega) (by omega)) ?_|refine BN ?_|refine Cd ?_|refine BU ?_|refine Am ?_|refine Av rfl (by assumption) ?_)
   refine Ah (again (i+1) _ _ (by omega) ⟨by omega,rfl,rfl,fun k x hk hx=>?_⟩) ⟨rfl,rfl,rfl,trivial⟩
   by_cases e:k=i
   ·subst e
    rw [hj]at hx;cases hx;omega
   ·exact hb k x (by omega) hx
 ·obtain rfl:i=l.length:=by omega
  clear again
  repeat(first|refine AI ?_|refine AH ?_|refine AE ?_|refine AV ?_|refine Aq ?_|refine Bg ?_|refine BN ?_|refine Cd ?_|refine Am ?_|refine AQ ?_|refine B8 ?_|refine Av rfl (by assumption) ?_)
  refine DQ ?_
  rw [LH (fun k x hx=>hb k x (Dj hx).2.2 hx)]
  exact El
end
end
end Go.Proofs.YtfkalocplonkiaaGreat
