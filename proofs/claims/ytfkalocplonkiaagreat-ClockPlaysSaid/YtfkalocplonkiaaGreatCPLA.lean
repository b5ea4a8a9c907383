/- Steps of the walk and of the plain law (TjCore to Facts). Conditions: as each lemma says. -/
import Derived.Conc.Own
import Derived.Conc.Deaf
import Derived.Tactics
import Derived.Conc.CompanyCalls
import Derived.OrdersHeld
import Derived.Test.YtfkalocplonkiaaGreatProg
import Derived.KernelRfl
set_option linter.unusedSectionVars false
set_option linter.unusedVariables false
set_option linter.unusedSimpArgs false
namespace Go.TJ
abbrev BJ:=@List.mem_cons_self
abbrev BX:=@List.mem_append_right
abbrev GR:=@List.mem_append_left
abbrev C2:=@List.mem_cons_of_mem
abbrev CY:=@Nat.le_refl
abbrev D4:=@Option.some.inj
abbrev Cl:=@List.getElem?_eq_getElem
abbrev Dt:=@Nat.le_trans
abbrev DD:=@List.mem_singleton
abbrev Gv:=@List.getElem?_eq_some_iff
abbrev G5:=@Array.getElem?_setIfInBounds_ne
abbrev Kf:=@Array.getElem?_setIfInBounds_self_of_lt
abbrev Iz:=@List.getElem?_eq_none
abbrev F0:=@Nat.lt_of_lt_of_le
abbrev Fg:=@List.mem_of_getElem?
abbrev C1:=@List.length_append
abbrev DI:=@List.append_nil
abbrev Bv:=@Nat.zero_le
abbrev Mh:=@Int.le_refl
abbrev CH:=@Array.size_push
abbrev OF:=@Nat.lt_of_succ_lt_succ
abbrev Ff:=@List.mem_append
abbrev Ew:=@List.mem_cons
abbrev Ke:=@List.append_assoc
abbrev EM:=@Nat.lt_or_ge
abbrev Mg:=@beq_eq_false_iff_ne
abbrev Iy:=@List.getElem?_append_left
abbrev IB:=@List.getElem?_append_right
abbrev VN:=@Nat.lt_of_le_of_lt
abbrev Iv:=@List.mem_range
abbrev Iu:=@List.mem_map
abbrev SQ:=@Nat.lt_succ_self
abbrev JZ:=@List.mem_iff_getElem
abbrev EQ:=@List.getElem?_map
abbrev QC:=@List.map_congr_left
abbrev Ca:=@List.length_map
abbrev JY:=@Array.size_setIfInBounds
abbrev OE:=@List.length_pos_iff
abbrev VM:=@Array.getElem?_push_lt
abbrev QB:=@Nat.not_lt_zero
abbrev SP:=@List.mem_filter
abbrev H9:=@decide_eq_true
abbrev SO:=@of_decide_eq_true
abbrev Gj:=@decide_eq_false
abbrev OD:=@List.getElem?_set_ne
abbrev JX:=@List.length_replicate
abbrev Ln:=@List.flatMap_append
abbrev EF:=@List.map_append
section
open Go Go.Conc
abbrev Hp:=Array Obj
def AF(h:Hp)(a:Addr):Option Value:=
 match h[a.block]? with
 | some (.cells c _ _)=>if a.spot.isSome then none else c[a.off]?
 | _=>none
def Bf(h:Hp)(a:Addr):Bool:=
 match h[a.block]? with
 | some (.cells _ _ (lo,hi))=>lo<=a.off&&a.off<hi
 | _=>false
def Af(h:Hp)(a:Addr)(v:Value):Hp:=h.modify a.block fun
 | .cells c elem frozen=>.cells (if a.spot.isSome then c else c.setIfInBounds a.off v) elem frozen
 | o=>o
def IT(h:Hp)(r:Nat):Option (TypeId×Nat):=
 match h[r]? with
 | some (.cells c elem _)=>some (elem,c.size)
 | _=>none
structure Ix(Γ:Type) where
 d:Nat
 g:Γ
structure Cp(Γ:Type) where
 still:Γ->Addr->Prop
 nf:Goroutine->Hp->Ix Γ->(Goroutine->Hp->Ix Γ->Prop)->Prop
def fa(m:Mark)(d:Nat):Nat:=
 match m with
 | .disable=>d+1
 | .enable=>d-1
 | _=>d
def Px{Γ:Type}(m:Mark)(δ:Ix Γ):Ix Γ:=⟨fa m δ.d,δ.g⟩
def Et{Γ:Type}(δ:Ix Γ)(es:Array Event):Ix Γ:=⟨deafBehind δ.d es,δ.g⟩
def MO(o:Obj):Prop:=∀c e f,o= .cells c e f->f=(0,0)
def Aj{Γ:Type}(P:Program)(S:Cp Γ){α:Type}:Sem α->Hp->Ix Γ->(α->Hp->Ix Γ->Prop)->(Value->Hp->Ix Γ->Prop)->Prop
 | .pure a,h,δ,Q,_=>Q a h δ
 | .load _ a k,h,δ,Q,X=>∃v,AF h a=some v/\Aj P S (k v) h δ Q X
 | .store _ a v k,h,δ,Q,X=>(∀c,v≠ .agg c)/\(∀c,v≠ .tuple c)/\(∃o,AF h a=some o)/\Bf h a=false/\¬S.still δ.g a/\Aj P S k (Af h a v) δ Q X
 | .new o k,h,δ,Q,X=>MO o/\Aj P S (k h.size) (h.push o) δ Q X
 | .shape r k,h,δ,Q,X=>Aj P S (k (IT h r)) h δ Q X
 | .freeze _ _ _,_,_,_,_=>False
 | .frozen a k,h,δ,Q,X=>Aj P S (k (Bf h a)) h δ Q X
 | .getObj r k,h,δ,Q,X=>∃o,h[r]?=some o/\(∀c e f,o≠ .cells c e f)/\Aj P S (k o) h δ Q X
 | .setObj r o k,h,δ,Q,X=>o.isChan=false/\(∀c e f,o≠ .cells c e f)/\(∃o',h[r]?=some o'/\(∀c e f,o'≠ .cells c e f)/\o'.isChan=false)/\Aj P S k (h.setIfInBounds r o) δ Q X
 | .choose q k,h,δ,Q,X=>∀n,((q.forced=true/\n=0)\/(q.forced=false/\∃t,n=q.cut t))->Aj P S (k n) h δ Q X
 | .sys _ _,_,_,_,_=>False
 | .program k,h,δ,Q,X=>Aj P S (k P) h δ Q X
 | .mark m k,h,δ,Q,X=>(∀a,m≠ .read a)/\(∀a,m≠ .write a)/\Aj P S k h (Px m δ) Q X
 | .halt (.panic v),h,δ,_,X=>X v h δ
 | .halt _,_,_,_,_=>False
def Lc(S:Addr->Prop)(e:Event):Prop:=
 (∀a,e.loc= .cell a->e.write=true->¬S a)/\(∀a,e.loc≠ .mark (.read a))/\(∀a,e.loc≠ .mark (.write a))/\(∀r,e.loc= .obj r->e.write=true->e.sync=false)/\e.loc≠ .output/\e.loc≠ .goroutines/\(∀m,e.loc= .mark m->e.sync=true)
structure Ei(S:Addr->Prop)(h h':Hp):Prop where
 still:∀(a:Addr) (v:Value),S a->AF h a=some v->AF h' a=some v
 chan:∀(r:Nat) (o:Obj),h[r]?=some o->o.isChan=true->h'[r]?=some o
 size:h.size<=h'.size
 PW:∀a:Addr,Bf h' a=Bf h a
theorem Ei.refl(S:Addr->Prop)(h:Hp):Ei S h h:=⟨fun _ _ _ x=>x,fun _ _ x _=>x,CY _,fun _=>rfl⟩
theorem Ei.trans{S:Addr->Prop}{a b c:Hp}(x:Ei S a b)(y:Ei S b c):Ei S a c:=
 ⟨fun l v hl hv=>y.still l v hl (x.still l v hl hv),fun r o h1 h2=>y.chan r o (x.chan r o h1 h2) h2,Dt x.size y.size,fun a=>(y.PW a).trans (x.PW a)⟩
structure FN(w w':World):Prop where
 tape:w'.tape=w.tape
 os:w'.os=w.os
 output:w'.output=w.output
theorem FN.refl(w:World):FN w w:=⟨rfl,rfl,rfl⟩
theorem FN.trans{a b c:World}(x:FN a b)(y:FN b c):FN a c:=⟨y.tape.trans x.tape,y.os.trans x.os,y.output.trans x.output⟩
theorem IK(h:Hp)(a:Addr)(v:Value):(Af h a v).size=h.size:=by simp [Af]
theorem EG(h:Hp)(a:Addr)(v:Value)(r:Nat):(Af h a v)[r]?=if a.block=r then(h[r]?).map (fun
  | .cells c elem frozen=>.cells (if a.spot.isSome then c else c.setIfInBounds a.off v) elem frozen
  | o=>o)else h[r]?:=by
 simp only [Af,Array.getElem?_modify]
theorem Cq(h:Hp)(a:Addr)(v:Value){r:Nat}(hr:a.block≠r):(Af h a v)[r]?=h[r]?:=by
 rw [EG,if_neg hr]
theorem Fp(h:Hp)(a:Addr)(v:Value){c:Array Value}{e:TypeId}{f:Nat×Nat}(hb:h[a.block]?=some (.cells c e f))(hs:a.spot=none):
  (Af h a v)[a.block]?=some (.cells (c.setIfInBounds a.off v) e f):=by
 rw [EG,if_pos rfl,hb];simp [hs]
theorem DG{h:Hp}{a:Addr}{v:Value}(hc:AF h a=some v):∃c e f,h[a.block]?=some (.cells c e f)/\a.spot=none/\c[a.off]?=some v:=by
 unfold AF at hc
 split at hc
 ·rename_i c e f hb
  split at hc
  ·cases hc
  ·rename_i hs
   exact⟨c,e,f,hb,by simpa using hs,hc⟩
 ·cases hc
theorem AD{h:Hp}{b off:Nat}{v:Value}{c:Array Value}{e:TypeId}{f:Nat×Nat}(hb:h[b]?=some (.cells c e f))(hv:c[off]?=some v):AF h ⟨b,off,none⟩=some v:=by
 simp [AF,hb,hv]
theorem AS{h:Hp}{b off:Nat}{c:Array Value}{e:TypeId}(hb:h[b]?=some (.cells c e (0,0))):Bf h ⟨b,off,none⟩=false:=by
 simp [Bf,hb]
theorem DK(h:Hp)(a b:Addr)(v:Value)(B7:a≠b)(ho:∃o,AF h a=some o):AF (Af h a v) b=AF h b:=by
 obtain⟨o,ho⟩:=ho
 obtain⟨c,e,f,hb,hs,hv⟩:=DG ho
 by_cases ox:a.block=b.block
 ·unfold AF
  rw [<-ox,Fp h a v hb hs,hb]
  dsimp only
  split
  ·rfl
  ·rename_i ow
   have cd:a.off≠b.off:=by
    intro e
    apply B7
    cases a;cases b
    simp_all
   exact G5 cd
 ·unfold AF
  rw [Cq h a v ox]
theorem LJ(h:Hp)(a b:Addr)(v:Value):Bf (Af h a v) b=Bf h b:=by
 unfold Bf
 rw [EG]
 by_cases e:a.block=b.block
 ·rw [if_pos e]
  cases h[b.block]? with
  | none=>rfl
  | some o=>cases o <;> rfl
 ·rw [if_neg e]
theorem Ei.Af{S:Addr->Prop}{h:Hp}{a:Addr}{v:Value}(hc:∃o,AF h a=some o)(hS:¬S a):Ei S h (Af h a v):=by
 refine⟨fun b x hb hx=>(DK h a b v (fun e=>hS (e▸hb)) hc).trans hx,fun r o hr ho=>?_,by rw [IK];exact CY _,fun q=>LJ h a q v⟩
 obtain⟨x,hx⟩:=hc
 obtain⟨c,e,f,hb,hs,hv⟩:=DG hx
 by_cases ox:a.block=r
 ·subst ox
  rw [hb]at hr
  cases hr
  cases ho
 ·rw [Cq h a v ox,hr]
theorem Ao{h:Hp}{r:Nat}{x:Obj}(o:Obj)(hr:h[r]?=some x):(h.push o)[r]?=some x:=by
 have:r<h.size:=by
  rcases EM r h.size with y|y
  ·exact y
  ·simp [Array.getElem?_eq_none y]at hr
 rw [VM this,<-Array.getElem?_eq_getElem this,hr]
theorem Gw{c:Array Value}{e:TypeId}:MO (.cells c e (0,0)):=by
 intro _ _ _ h;cases h;rfl
theorem Up{h:Hp}{o:Obj}(ho:MO o)(a:Addr):Bf (h.push o) a=Bf h a:=by
 unfold Bf
 rcases Nat.lt_trichotomy a.block h.size with x|x|x
 ·rw [VM x,Array.getElem?_eq_getElem x]
 ·rw [x]
  simp only [Array.getElem?_push_size,Array.getElem?_eq_none (Nat.le_refl _)]
  cases o with
  | cells c e f=>have:=ho c e f rfl;subst this;simp
  | _=>rfl
 ·rw [Array.getElem?_eq_none (by simp;omega),Array.getElem?_eq_none (by omega)]
theorem Ei.push{S:Addr->Prop}{h:Hp}(o:Obj)(ho:MO o):Ei S h (h.push o):=by
 refine⟨fun a v _ hv=>?_,fun r x hr hx=>Ao o hr,by simp,Up ho⟩
 obtain⟨c,e,f,hb,hs,hc⟩:=DG hv
 unfold AF
 rw [Ao o hb]
 simp [hs,hc]
theorem Ei.setObj{S:Addr->Prop}{h:Hp}{r:Nat}{o o':Obj}(hr:h[r]?=some o')(hc:∀c e f,o'≠ .cells c e f)(hn:o'.isChan=false)(hk:∀c e f,o≠ .cells c e f):Ei S h (h.setIfInBounds r o):=by
 have Cg:r<h.size:=by
  rcases EM r h.size with x|x
  ·exact x
  ·simp [Array.getElem?_eq_none x]at hr
 refine⟨fun a v _ hv=>hv▸?_,fun q x hq hx=>?_,by simp,fun a=>?_⟩
 rotate_left
 rotate_left
 ·unfold Bf
  by_cases e:r=a.block
  ·subst e
   rw [Kf Cg,hr]
   cases o <;> cases o' <;> first|rfl|exact absurd rfl (hc _ _ _)|exact absurd rfl (hk _ _ _)
  ·rw [G5 e]
 ·unfold AF
  by_cases e:r=a.block
  ·subst e
   rw [Kf Cg,hr]
   cases o <;> cases o' <;> first|rfl|exact absurd rfl (hc _ _ _)|exact absurd rfl (hk _ _ _)
  ·rw [G5 e]
 ·by_cases e:r=q
  ·subst e
   rw [hr]at hq
   cases hq
   rw [hn]at hx
   cases hx
  ·rw [G5 e,hq]
theorem AM{Γ:Type}{P:Program}{S:Cp Γ}{α β:Type}(s:Sem α)(f:α->Sem β):∀(h:Hp) (δ:Ix Γ) (Q:β->Hp->Ix Γ->Prop) (X:Value->Hp->Ix Γ->Prop),
  Aj P S s h δ (fun a h' AW=>Aj P S (f a) h' AW Q X) X->Aj P S (s.bind f) h δ Q X:=by
 induction s with
 | pure a=>intro h δ Q X hs;exact hs
 | load m a k ih=>intro h δ Q X ⟨v,hv,hs⟩;exact⟨v,hv,ih v _ _ _ _ hs⟩
 | store m a v k ih=>intro h δ Q X ⟨h1,h2,h3,h4,h5,hs⟩;exact⟨h1,h2,h3,h4,h5,ih _ _ _ _ hs⟩
 | new o k ih=>intro h δ Q X hs;exact⟨hs.1,ih _ _ _ _ _ hs.2⟩
 | shape r k ih=>intro h δ Q X hs;exact ih _ _ _ _ _ hs
 | freeze a n k ih=>intro h δ Q X hs;exact hs.elim
 | frozen a k ih=>intro h δ Q X hs;exact ih _ _ _ _ _ hs
 | getObj r k ih=>intro h δ Q X ⟨o,h1,h2,hs⟩;exact⟨o,h1,h2,ih _ _ _ _ _ hs⟩
 | setObj r o k ih=>intro h δ Q X ⟨h1,h2,h3,hs⟩;exact⟨h1,h2,h3,ih _ _ _ _ hs⟩
 | choose q k ih=>intro h δ Q X hs n hn;exact ih _ _ _ _ _ (hs n hn)
 | sys c k ih=>intro h δ Q X hs;exact hs.elim
 | program k ih=>intro h δ Q X hs;exact ih _ _ _ _ _ hs
 | mark m k ih=>intro h δ Q X ⟨h1,h2,hs⟩;exact⟨h1,h2,ih _ _ _ _ hs⟩
 | halt x=>
  intro h δ Q X hs
  cases x <;> first|exact hs|exact hs.elim
theorem HH{Γ:Type}{P:Program}{S:Cp Γ}{α:Type}(s:Sem α):∀(h:Hp) (δ:Ix Γ) {Q Q':α->Hp->Ix Γ->Prop} {X X':Value->Hp->Ix Γ->Prop},
  Aj P S s h δ Q X->(∀a h δ,Q a h δ->Q' a h δ)->(∀v h δ,X v h δ->X' v h δ)->Aj P S s h δ Q' X':=by
 induction s with
 | pure a=>intro h δ Q Q' X X' hs hq _;exact hq _ _ _ hs
 | load m a k ih=>intro h δ Q Q' X X' ⟨v,hv,hs⟩ hq hx;exact⟨v,hv,ih v _ _ hs hq hx⟩
 | store m a v k ih=>intro h δ Q Q' X X' ⟨h1,h2,h3,h4,h5,hs⟩ hq hx;exact⟨h1,h2,h3,h4,h5,ih _ _ hs hq hx⟩
 | new o k ih=>intro h δ Q Q' X X' hs hq hx;exact⟨hs.1,ih _ _ _ hs.2 hq hx⟩
 | shape r k ih=>intro h δ Q Q' X X' hs hq hx;exact ih _ _ _ hs hq hx
 | freeze a n k ih=>intro h δ Q Q' X X' hs;exact hs.elim
 | frozen a k ih=>intro h δ Q Q' X X' hs hq hx;exact ih _ _ _ hs hq hx
 | getObj r k ih=>intro h δ Q Q' X X' ⟨o,h1,h2,hs⟩ hq hx;exact⟨o,h1,h2,ih _ _ _ hs hq hx⟩
 | setObj r o k ih=>intro h δ Q Q' X X' ⟨h1,h2,h3,hs⟩ hq hx;exact⟨h1,h2,h3,ih _ _ hs hq hx⟩
 | choose q k ih=>intro h δ Q Q' X X' hs hq hx n hn;exact ih _ _ _ (hs n hn) hq hx
 | sys c k ih=>intro h δ Q Q' X X' hs;exact hs.elim
 | program k ih=>intro h δ Q Q' X X' hs hq hx;exact ih _ _ _ hs hq hx
 | mark m k ih=>intro h δ Q Q' X X' ⟨h1,h2,hs⟩ hq hx;exact⟨h1,h2,ih _ _ hs hq hx⟩
 | halt x=>
  intro h δ Q Q' X X' hs hq hx
  cases x <;> first|exact hs.elim|exact hx _ _ _ hs
theorem JD(δ:Nat):deafBehind δ #[]=δ:=by simp [deafBehind]
theorem HK{Γ:Type}(δ:Ix Γ):Et δ #[]=δ:=by simp [Et,JD]
theorem HV(δ:Nat)(a b:Array Event):deafBehind δ (a++b)=deafBehind (deafBehind δ a) b:=by
 simp [deafBehind]
theorem Qd{Γ:Type}(δ:Ix Γ)(a b:Array Event):Et δ (a++b)=Et (Et δ a) b:=by
 simp [Et,HV]
theorem O0{Γ:Type}(δ:Ix Γ)(a:Addr)(wr sy:Bool):Et δ #[⟨.cell a,wr,sy⟩]=δ:=by simp [Et,deafBehind]
theorem Qc{Γ:Type}(δ:Ix Γ)(r:Nat)(wr sy:Bool):Et δ #[⟨.obj r,wr,sy⟩]=δ:=by simp [Et,deafBehind]
theorem Ux{Γ:Type}(δ:Ix Γ)(m:Mark):Et δ #[⟨.mark m,false,true⟩]=Px m δ:=by cases m <;> simp [Et,deafBehind,Px,fa]
def vG{Γ:Type}(S:Cp Γ){α:Type}(Q:α->Hp->Ix Γ->Prop)(X:Value->Hp->Ix Γ->Prop)(h:Hp)(δ:Ix Γ)(w:World)(es:Array Event):Result α->Prop
 | .ok a w'=>FN w w'/\Ei (S.still δ.g) h w'.heap/\Q a w'.heap (Et δ es)
 | .halt (.panic v) w'=>FN w w'/\Ei (S.still δ.g) h w'.heap/\X v w'.heap (Et δ es)
 | _=>False
theorem T3{Γ:Type}{S:Cp Γ}{α:Type}{Q:α->Hp->Ix Γ->Prop}{X:Value->Hp->Ix Γ->Prop}{h h1:Hp}{δ:Ix Γ}{w w1:World}{vB es:Array Event}{r:Result α}
  (hs:FN w w1) (hh:Ei (S.still δ.g) h h1) (hr:vG S Q X h1 (Et δ vB) w1 es r):vG S Q X h δ w (vB++es) r:=by
 unfold vG at *
 split
 ·obtain⟨a,b,c⟩:=hr
  exact⟨hs.trans a,hh.trans b,by rw [Qd];exact c⟩
 ·obtain⟨a,b,c⟩:=hr
  exact⟨hs.trans a,hh.trans b,by rw [Qd];exact c⟩
 ·split at hr <;> simp_all
theorem LD{Γ:Type}{P:Program}{S:Cp Γ}{α:Type}(s:Sem α):∀(h:Hp) (δ:Ix Γ) (Q:α->Hp->Ix Γ->Prop) (X:Value->Hp->Ix Γ->Prop),Aj P S s h δ Q X->
  ∀(w:World),w.heap=h->∀Ku,∃es r,s.runT P w Ku=(r,Ku++es)/\(∀e∈es,Lc (S.still δ.g) e)/\vG S Q X h δ w es r:=by
 induction s with
 | pure a=>
  intro h δ Q X hs w hw Ku
  subst hw
  exact⟨#[],.ok a w,by simp [Sem.runT],by simp,FN.refl _,Ei.refl _ _,by rw [HK];exact hs⟩
 | load m a k ih=>
  intro h δ Q X ⟨v,hv,hs⟩ w hw Ku
  subst hw
  have hc:w.cell? a=some v:=hv
  obtain⟨es,r,h1,h2,h3⟩:=ih v _ δ Q X hs w rfl (Ku.push ⟨.cell a,false,m== .atomic⟩)
  refine⟨#[⟨.cell a,false,m== .atomic⟩]++es,r,by simp only [Sem.runT,hc];rw [h1,Array.push_eq_append,Array.append_assoc],fun e he=>?_,?_⟩
  ·rcases Array.mem_append.1 he with he|he
   ·simp at he;subst he;simp [Lc]
   ·exact h2 e he
  ·exact T3 (FN.refl _) (Ei.refl _ _) (by rw [O0];exact h3)
 | store m a v k ih=>
  intro h δ Q X ⟨h1,h2,h3,h4,h5,hs⟩ w hw Ku
  subst hw
  obtain⟨o,ho⟩:=h3
  have hc:w.cell? a=some o:=ho
  have hf:w.frozen? a=false:=h4
  obtain⟨es,r,g1,g2,g3⟩:=ih _ δ Q X hs (w.setCell a v) rfl (Ku.push ⟨.cell a,true,m== .atomic⟩)
  refine⟨#[⟨.cell a,true,m== .atomic⟩]++es,r,?_,fun e he=>?_,?_⟩
  ·have:(Sem.store m a v k).runT P w Ku=k.runT P (w.setCell a v) (Ku.push ⟨.cell a,true,m== .atomic⟩):=by
    cases v <;> first|exact absurd rfl (h1 _)|exact absurd rfl (h2 _)|simp only [Sem.runT,hc,hf,Bool.false_eq_true,if_false]
   rw [this,g1,Array.push_eq_append,Array.append_assoc]
  ·rcases Array.mem_append.1 he with he|he
   ·simp at he;subst he;simp [Lc,h5]
   ·exact g2 e he
  ·exact T3 (w1:=w.setCell a v) ⟨rfl,rfl,rfl⟩ (Ei.Af ⟨o,ho⟩ h5) (by rw [O0];exact g3)
 | new o k ih=>
  intro h δ Q X hs w hw Ku
  subst hw
  obtain⟨es,r,g1,g2,g3⟩:=ih w.heap.size _ δ Q X hs.2 {w with heap:=w.heap.push o} rfl Ku
  refine⟨es,r,by simp only [Sem.runT];exact g1,g2,?_⟩
  have:=T3 (vB:=#[]) (δ:=δ) (⟨rfl,rfl,rfl⟩:FN w {w with heap:=w.heap.push o}) (Ei.push (S:=S.still δ.g) o hs.1) (by rw [HK];exact g3)
  simpa using this
 | shape r k ih=>
  intro h δ Q X hs w hw Ku
  subst hw
  obtain⟨es,r',g1,g2,g3⟩:=ih (w.shape? r) _ δ Q X hs w rfl Ku
  exact⟨es,r',by simp only [Sem.runT];exact g1,g2,g3⟩
 | freeze a n k ih=>intro h δ Q X hs;exact hs.elim
 | frozen a k ih=>
  intro h δ Q X hs w hw Ku
  subst hw
  obtain⟨es,r',g1,g2,g3⟩:=ih (w.frozen? a) _ δ Q X hs w rfl Ku
  exact⟨es,r',by simp only [Sem.runT];exact g1,g2,g3⟩
 | getObj r k ih=>
  intro h δ Q X ⟨o,h1,h2,hs⟩ w hw Ku
  subst hw
  obtain⟨es,r',g1,g2,g3⟩:=ih o _ δ Q X hs w rfl (Ku.push ⟨.obj r,false,o.isChan⟩)
  refine⟨#[⟨.obj r,false,o.isChan⟩]++es,r',?_,fun e he=>?_,?_⟩
  ·have:(Sem.getObj r k).runT P w Ku=(k o).runT P w (Ku.push ⟨.obj r,false,o.isChan⟩):=by
    cases o <;> first|exact absurd rfl (h2 _ _ _)|simp only [Sem.runT,h1]
   rw [this,g1,Array.push_eq_append,Array.append_assoc]
  ·rcases Array.mem_append.1 he with he|he
   ·simp at he;subst he;simp [Lc]
   ·exact g2 e he
  ·exact T3 (FN.refl _) (Ei.refl _ _) (by rw [Qc];exact g3)
 | setObj r o k ih=>
  intro h δ Q X ⟨h1,hk,⟨o',h2,h3,h4⟩,hs⟩ w hw Ku
  subst hw
  obtain⟨es,r',g1,g2,g3⟩:=ih _ δ Q X hs {w with heap:=w.heap.setIfInBounds r o} rfl (Ku.push ⟨.obj r,true,o.isChan⟩)
  refine⟨#[⟨.obj r,true,o.isChan⟩]++es,r',?_,fun e he=>?_,?_⟩
  ·have:(Sem.setObj r o k).runT P w Ku=k.runT P {w with heap:=w.heap.setIfInBounds r o} (Ku.push ⟨.obj r,true,o.isChan⟩):=by
    cases o' <;> first|exact absurd rfl (h3 _ _ _)|simp only [Sem.runT,h2]
   rw [this,g1,Array.push_eq_append,Array.append_assoc]
  ·rcases Array.mem_append.1 he with he|he
   ·simp at he;subst he;simp [Lc,h1]
   ·exact g2 e he
  ·exact T3 (w1:={w with heap:=w.heap.setIfInBounds r o}) ⟨rfl,rfl,rfl⟩ (Ei.setObj h2 h3 h4 hk) (by rw [Qc];exact g3)
 | choose q k ih=>
  intro h δ Q X hs w hw Ku
  subst hw
  by_cases hf:q.forced=true
  ·obtain⟨es,r,g1,g2,g3⟩:=ih 0 _ δ Q X (hs 0 (.inl ⟨hf,rfl⟩)) w rfl Ku
   exact⟨es,r,by simp only [Sem.runT,hf,if_true];exact g1,g2,g3⟩
  ·have Xd:q.forced=false:=by simpa using hf
   obtain⟨es,r,g1,g2,g3⟩:=ih (q.cut (w.tape w.drawn q)) _ δ Q X (hs _ (.inr ⟨Xd,_,rfl⟩)) {w with drawn:=w.drawn+1} rfl Ku
   refine⟨es,r,by simp only [Sem.runT,Xd,Bool.false_eq_true,if_false];exact g1,g2,?_⟩
   have:=T3 (vB:=#[]) (δ:=δ) (⟨rfl,rfl,rfl⟩:FN w {w with drawn:=w.drawn+1}) (Ei.refl (S.still δ.g) w.heap) (by rw [HK];exact g3)
   simpa using this
 | sys c k ih=>intro h δ Q X hs;exact hs.elim
 | program k ih=>
  intro h δ Q X hs w hw Ku
  subst hw
  obtain⟨es,r',g1,g2,g3⟩:=ih P _ δ Q X hs w rfl Ku
  exact⟨es,r',by simp only [Sem.runT];exact g1,g2,g3⟩
 | mark m k ih=>
  intro h δ Q X ⟨h1,h2,hs⟩ w hw Ku
  subst hw
  obtain⟨es,r',g1,g2,g3⟩:=ih _ (Px m δ) Q X hs w rfl (Ku.push ⟨.mark m,false,true⟩)
  refine⟨#[⟨.mark m,false,true⟩]++es,r',by simp only [Sem.runT];rw [g1,Array.push_eq_append,Array.append_assoc],fun e he=>?_,?_⟩
  ·rcases Array.mem_append.1 he with he|he
   ·simp at he;subst he
    exact⟨by simp,fun a=>by simpa using h1 a,fun a=>by simpa using h2 a,by simp,by simp,by simp,by simp⟩
   ·exact g2 e he
  ·exact T3 (FN.refl _) (Ei.refl _ _) (by rw [Ux];exact g3)
 | halt x=>
  intro h δ Q X hs w hw Ku
  subst hw
  refine⟨#[],.halt x w,by simp [Sem.runT],by simp,?_⟩
  cases x <;> first|exact hs.elim|exact⟨FN.refl _,Ei.refl _ _,by rw [HK];exact hs⟩
theorem Wk(h:Hp)(a:Addr)(v w:Value):Af (Af h a v) a w=Af h a w:=by
 apply Array.ext_getElem?
 intro i
 rw [EG,EG,EG]
 by_cases e:a.block=i
 ·simp only [if_pos e]
  cases h[i]? with
  | none=>rfl
  | some o=>
   cases o <;> simp
   split <;> simp
 ·simp only [if_neg e]
theorem Fo{h:Hp}{a:Addr}{v:Value}(hc:AF h a=some v):Af h a v=h:=by
 obtain⟨c,e,f,hb,hs,hv⟩:=DG hc
 apply Array.ext_getElem?
 intro i
 rw [EG]
 by_cases e:a.block=i
 ·subst e
  rw [if_pos rfl,hb]
  simp only [hs,Option.map_some,Option.isSome_none,Bool.false_eq_true,if_false]
  congr 2
  apply Array.ext_getElem?
  intro j
  by_cases e:a.off=j
  ·subst e
   have:a.off<c.size:=by
    rcases EM a.off c.size with y|y
    ·exact y
    ·simp [Array.getElem?_eq_none y]at hv
   rw [Kf this,hv]
  ·rw [G5 e]
 ·rw [if_neg e]
theorem EC{h:Hp}{a:Addr}{u v:Value}(hc:AF h a=some u):AF (Af h a v) a=some v:=by
 obtain⟨c,e,f,hb,hs,hv⟩:=DG hc
 have Cg:a.off<c.size:=by
  rcases EM a.off c.size with y|y
  ·exact y
  ·simp [Array.getElem?_eq_none y]at hv
 unfold AF
 rw [Fp h a v hb hs]
 simp [hs,Cg]
end
section
open Go Go.Conc
variable{Γ:Type}
def Je(P:Program)(main:Bool)(S:Cp Γ)(X:Goroutine->Hp->Ix Γ->Prop)(g:Goroutine)(h:Hp)(δ:Ix Γ):Prop:=
 g.status= .running/\∀w:World,w.heap=h->∃g' w' es,stepG P main g w= .go g' w' es/\FN w w'/\Ei (S.still δ.g) h w'.heap/\(∀e∈es,Lc (S.still δ.g) e)/\X g' w'.heap (Et δ es)
inductive Dq (P:Program) (main:Bool) (S:Cp Γ) (Stop:Goroutine->Hp->Ix Γ->Prop):Goroutine->Hp->Ix Γ->Prop
 | stop {g:Goroutine} {h:Hp} {δ:Ix Γ}:Stop g h δ->Dq P main S Stop g h δ
 | step {g:Goroutine} {h:Hp} {δ:Ix Γ} (X:Goroutine->Hp->Ix Γ->Prop):(∀g h δ,X g h δ->Dq P main S Stop g h δ)->Je P main S X g h δ->Dq P main S Stop g h δ
 | H7 {g:Goroutine} {h:Hp} {δ:Ix Γ} (X:Goroutine->Hp->Ix Γ->Prop):(∀g h δ,X g h δ->Dq P main S Stop g h δ)->S.nf g h δ X->Dq P main S Stop g h δ
section
variable{P:Program}{main:Bool}{S:Cp Γ}
theorem Je.mono{X Y:Goroutine->Hp->Ix Γ->Prop}{g:Goroutine}{h:Hp}{δ:Ix Γ}(hs:Je P main S X g h δ)(wM:∀g h δ,X g h δ->Y g h δ):Je P main S Y g h δ:=
 ⟨hs.1,fun w hw=>let ⟨g',w',es,a,b,c,d,e⟩:=hs.2 w hw;⟨g',w',es,a,b,c,d,wM _ _ _ e⟩⟩
theorem Dq.bind{A B:Goroutine->Hp->Ix Γ->Prop}{g:Goroutine}{h:Hp}{δ:Ix Γ}(hr:Dq P main S A g h δ)(ua:∀g h δ,A g h δ->Dq P main S B g h δ):Dq P main S B g h δ:=by
 induction hr with
 | stop hs=>exact ua _ _ _ hs
 | step X _ Dn ih=>exact .step X (fun g h δ hx=>ih g h δ hx) Dn
 | H7 X _ hy ih=>exact .H7 X (fun g h δ hx=>ih g h δ hx) hy
theorem Dq.mono{A B:Goroutine->Hp->Ix Γ->Prop}{g:Goroutine}{h:Hp}{δ:Ix Γ}(hr:Dq P main S A g h δ)(ua:∀g h δ,A g h δ->B g h δ):Dq P main S B g h δ:=
 hr.bind fun _ _ _ x=>.stop (ua _ _ _ x)
theorem Dq.Hi{A:Goroutine->Hp->Ix Γ->Prop}{g:Goroutine}{h:Hp}{δ:Ix Γ}(Dn:Je P main S (Dq P main S A) g h δ):Dq P main S A g h δ:=
 .step _ (fun _ _ _ x=>x) Dn
theorem Dq.ctl{A:Goroutine->Hp->Ix Γ->Prop}{g g':Goroutine}{h:Hp}{δ:Ix Γ}(hg:g.status= .running)(Dn:∀w,stepG P main g w= .go g' w)(hr:Dq P main S A g' h δ):Dq P main S A g h δ:=
 .Hi ⟨hg,fun w hw=>⟨g',w,#[],Dn w,FN.refl _,by rw [hw];exact Ei.refl _ _,by simp,by rw [HK,hw];exact hr⟩⟩
end
inductive Fin where
 | ret (v:Value)
 | Rh (chain:List PanicEntry)
abbrev Cv(Γ:Type):=Fin->Hp->Ix Γ->Prop
def fb(f:FuncId)(kind:CallKind):Frame:={(default:Frame)with fn:=f,kind:=kind}
def Reads(P:Program)(fn:Func)(tmps:Array Value)(h:Hp)(v:Value):Prop:=
 ∀w:World,w.heap=h->∃es,(results fn tmps).runT P w #[]=(.ok v w,es)/\∀e∈es,∃a,e=⟨.cell a,false,false⟩
def Left(P:Program)(f:FuncId)(kind:CallKind)(cs:List Frame)(R:Cv Γ)(g:Goroutine)(h:Hp)(δ:Ix Γ):Prop:=
 ∃a todo mode fn,g=G {(fb f kind).at a todo with mode:=mode} cs/\a.defers=[]/\P.funcs[f]?=some fn/\
  ((mode= .returning/\∃v,Reads P fn a.tmps h v/\R (.ret v) h δ)\/(∃chain,mode= .panicking chain/\R (.Rh chain) h δ))
theorem Left.mono{P:Program}{f:FuncId}{kind:CallKind}{cs:List Frame}{R R':Cv Γ}(hR:∀x h δ,R x h δ->R' x h δ){g:Goroutine}{h:Hp}{δ:Ix Γ}(hl:Left P f kind cs R g h δ):Left P f kind cs R' g h δ:=by
 obtain⟨a,todo,mode,fn,h1,h2,h3,h4⟩:=hl
 refine⟨a,todo,mode,fn,h1,h2,h3,h4.imp ?_ ?_⟩
 ·rintro⟨h5,v,h6,h7⟩;exact⟨h5,v,h6,hR _ _ _ h7⟩
 ·rintro⟨c,h5,h6⟩;exact⟨c,h5,hR _ _ _ h6⟩
def AY(P:Program)(main:Bool)(S:Cp Γ)(f:FuncId)(args:Array Value)(h:Hp)(δ:Ix Γ)(R:Cv Γ):Prop:=
 ∀kind,kind≠ .early->∀cs,Dq P main S (Left P f kind cs R) (G (Frame.enter P f args kind) cs) h δ
def WK(P:Program)(main:Bool)(S:Cp Γ)(f:FuncId)(todo:List Item)(a:Act)(h:Hp)(δ:Ix Γ)(R:Cv Γ):Prop:=
 ∀kind,kind≠ .early->∀cs,Dq P main S (Left P f kind cs R) (G ((fb f kind).at a todo) cs) h δ
def WU(P:Program)(main:Bool)(S:Cp Γ)(f:FuncId)(mode:FrameMode)(a:Act)(h:Hp)(δ:Ix Γ)(R:Cv Γ):Prop:=
 ∀kind,kind≠ .early->∀cs todo,Dq P main S (Left P f kind cs R) (G {(fb f kind).at a todo with mode:=mode} cs) h δ
section
variable{P:Program}{main:Bool}{S:Cp Γ}{f:FuncId}{a:Act}{h:Hp}{δ:Ix Γ}{R:Cv Γ}{k:List Item}
theorem AY.mono{args:Array Value}{R':Cv Γ}(hc:AY P main S f args h δ R)(hR:∀x h δ,R x h δ->R' x h δ):AY P main S f args h δ R':=
 fun kind hk cs=>(hc kind hk cs).mono fun _ _ _ x=>x.mono hR
theorem WK.mono{R':Cv Γ}(hc:WK P main S f k a h δ R)(hR:∀x h δ,R x h δ->R' x h δ):WK P main S f k a h δ R':=
 fun kind hk cs=>(hc kind hk cs).mono fun _ _ _ x=>x.mono hR
theorem WU.mono{mode:FrameMode}{R':Cv Γ}(hc:WU P main S f mode a h δ R)(hR:∀x h δ,R x h δ->R' x h δ):WU P main S f mode a h δ R':=
 fun kind hk cs todo=>(hc kind hk cs todo).mono fun _ _ _ x=>x.mono hR
theorem AY.enter{args:Array Value}{fn:Func}{c:Code}(hf:P.funcs[f]?=some fn)(hb:fn.body=some c)
  (hw:WK P main S f [.code c] {tmps:=args++Array.replicate (fn.ntmps-args.size) undef,defers:=[]} h δ R):AY P main S f args h δ R:=by
 intro kind hk cs
 have e:Frame.enter P f args kind=(fb f kind).at {tmps:=args++Array.replicate (fn.ntmps-args.size) undef,defers:=[]} [.code c]:=by
  simp [Frame.enter,Frame.at,hf,hb,fb]
 rw [e]
 exact hw kind hk cs
theorem WK.skip(hw:WK P main S f k a h δ R):WK P main S f (.code .skip::k) a h δ R:=
 fun kind hk cs=>.ctl rfl (fun _=>stepG_skip) (hw kind hk cs)
theorem WK.inBlock{id:Nat}(hw:WK P main S f k a h δ R):WK P main S f (.inBlock id::k) a h δ R:=
 fun kind hk cs=>.ctl rfl (fun _=>stepG_inBlock) (hw kind hk cs)
theorem WK.seq{x y:Code}(hw:WK P main S f (.code x:: .code y::k) a h δ R):WK P main S f (.code (.seq x y)::k) a h δ R:=
 fun kind hk cs=>.ctl rfl (fun _=>stepG_seq) (hw kind hk cs)
theorem WK.block{id:Nat}{c:Code}(hw:WK P main S f (.code c:: .inBlock id::k) a h δ R):WK P main S f (.code (.block id c)::k) a h δ R:=
 fun kind hk cs=>.ctl rfl (fun _=>stepG_block) (hw kind hk cs)
theorem WK.loop{c:Code}(hw:WK P main S f (.code c:: .inLoop c::k) a h δ R):WK P main S f (.code (.loop c)::k) a h δ R:=
 fun kind hk cs=>.ctl rfl (fun _=>stepG_loop) (hw kind hk cs)
theorem WK.inLoop{c:Code}(hw:WK P main S f (.code c:: .inLoop c::k) a h δ R):WK P main S f (.inLoop c::k) a h δ R:=
 fun kind hk cs=>.ctl rfl (fun _=>stepG_inLoop) (hw kind hk cs)
theorem WK.exit{id:Nat}{k':List Item}(he:exitTo id k=some k')(hw:WK P main S f k' a h δ R):WK P main S f (.code (.exit id)::k) a h δ R:=
 fun kind hk cs=>.ctl rfl (fun _=>stepG_exit he) (hw kind hk cs)
theorem WK.cond{c:Operand}{x y:Code}{t:Bool}(hc:a.eval c= .bool t)(hw:WK P main S f (.code (if t then x else y)::k) a h δ R):WK P main S f (.code (.cond c x y)::k) a h δ R:=
 fun kind hk cs=>.ctl rfl (fun _=>stepG_cond hc) (hw kind hk cs)
theorem WK.region{id:Nat}{ops:Array Oper}(hw:WK P main S f (.inRegion ops (List.range ops.size)::k) a h δ R):WK P main S f (.code (.region id ops false)::k) a h δ R:=
 fun kind hk cs=>.ctl rfl (fun _=>stepG_region) (hw kind hk cs)
theorem jy{ops:Array Oper}(hw:WK P main S f k a h δ R):WK P main S f (.inRegion ops []::k) a h δ R:=
 fun kind hk cs=>.ctl rfl (fun _=>stepG_region_end) (hw kind hk cs)
theorem WK.done(hw:WU P main S f .returning a h δ R):WK P main S f [] a h δ R:=
 fun kind hk cs=>.ctl rfl (fun _=>stepG_end) (hw kind hk cs [])
theorem WK.ret(hw:WU P main S f .returning a h δ R):WK P main S f (.code .ret::k) a h δ R:=
 fun kind hk cs=>.ctl rfl (fun w=>by simp [G,stepG,stepG.exec,Frame.at]) (hw kind hk cs (.code .ret::k))
theorem zj{id:Nat}{ops:Array Oper}(hw:∀t,WK P main S f (.inRegion ops (Region.schedule (P.follows .mixedOrders) ops t)::k) a h δ R):WK P main S f (.code (.region id ops true)::k) a h δ R:=
 fun kind hk cs=>.Hi ⟨rfl,fun w hw'=>by
  subst hw'
  refine⟨G ((fb f kind).at a (.inRegion ops (Region.schedule (P.follows .mixedOrders) ops (w.tape w.drawn (.order f id)))::k)) cs,{w with drawn:=w.drawn+1},#[],?_,⟨rfl,rfl,rfl⟩,Ei.refl _ _,by simp,?_⟩
  ·simp [G,stepG,stepG.exec,Frame.at,choose,Sem.run,Question.forced,Question.cut,fb]
  ·rw [HK]
   exact hw _ kind hk cs⟩
theorem WU.V7{fn:Func}{v:Value}(hd:a.defers=[])(hf:P.funcs[f]?=some fn)(hv:Reads P fn a.tmps h v)(hR:R (.ret v) h δ):WU P main S f .returning a h δ R:=
 fun _ _ _ todo=>.stop ⟨a,todo,.returning,fn,rfl,hd,hf,.inl ⟨rfl,v,hv,hR⟩⟩
theorem WU.jG{fn:Func}{chain:List PanicEntry}(hd:a.defers=[])(hf:P.funcs[f]?=some fn)(hR:R (.Rh chain) h δ):WU P main S f (.panicking chain) a h δ R:=
 fun _ _ _ todo=>.stop ⟨a,todo,.panicking chain,fn,rfl,hd,hf,.inr ⟨chain,rfl,hR⟩⟩
theorem Lt{fn:Func}{tmps:Array Value}{v:Value}(hr:∀w,(results fn tmps).run P w= .ok v w)(he:∀w,(results fn tmps).events P w #[]=#[]):Reads P fn tmps h v:=
 fun w _=>⟨#[],by rw [Sem.runT_eq,hr,he],by simp⟩
theorem Uf{fn:Func}{tmps:Array Value}(hr:fn.results=#[]):Reads P fn tmps h (.tuple #[]):=
 Lt (fun w=>results_none hr _ P w) (fun _=>events_results_none hr _ _)
theorem Wa{fn:Func}{tmps:Array Value}{t:Tmp}{v:Value}(hr:fn.results=#[.tmp t])(hv:tmps.getD t undef=v):Reads P fn tmps h v:=
 hv▸Lt (fun w=>results_tmp hr _ P w) (fun _=>events_results_tmp hr _ _)
theorem Ue{fn:Func}{tmps:Array Value}{t u:Tmp}{v x:Value}(hr:fn.results=#[.tmp t,.tmp u])(hv:tmps.getD t undef=v)(hx:tmps.getD u undef=x):Reads P fn tmps h (.tuple #[v,x]):=
 hv▸hx▸Lt (fun w=>results_tmp2 hr _ P w) (fun _=>events_results_tmp2 hr _ _)
theorem Ud{fn:Func}{tmps:Array Value}{t u q:Tmp}{v x y:Value}(hr:fn.results=#[.tmp t,.tmp u,.tmp q])(hv:tmps.getD t undef=v)(hx:tmps.getD u undef=x)(hy:tmps.getD q undef=y):Reads P fn tmps h (.tuple #[v,x,y]):=
 hv▸hx▸hy▸Lt (fun w=>by simp [results,hr]) (fun w=>by simp [results,hr])
end
theorem Md{es:Array Event}(he:∀e∈es,∃a,e=(⟨.cell a,false,false⟩:Event))(δ:Nat):deafBehind δ es=δ:=by
 obtain⟨l⟩:=es
 induction l with
 | nil=>rfl
 | cons e l ih=>
  have h1:=ih fun x hx=>he x (by simp at hx⊢;exact .inr hx)
  obtain⟨a,rfl⟩:=he e (by simp)
  simpa [deafBehind]using h1
theorem Ga{P:Program}{f:FuncId}{S:Addr->Prop}{es:Array Event}(he:∀e∈es,∃a,e=(⟨.cell a,false,false⟩:Event)):(∀e∈seen P f es,Lc S e)/\∀δ:Ix Γ,Et δ (seen P f es)=δ:=
 ⟨fun e h=>by obtain⟨a,rfl⟩:=he e (mem_seen h);simp [Lc],fun δ=>by simp only [Et,Md (fun e h=>he e (mem_seen h)) δ.d]⟩
theorem Pg(quiet:FuncId->Bool)(q:Bool)(kept:Array Event)(e:Event)(he:∀m,e.loc= .mark m->e.sync=true)(δ:Nat):
  deafBehind δ (seenStep quiet (q,kept) e).2=deafBehind (deafBehind δ kept) #[e]:=by
 unfold seenStep
 dsimp only
 split
 ·rename_i hf
  simp [deafBehind,hf]
 ·dsimp only
  split
  ·rename_i hq
   have rQ:e.sync=false:=by simp at hq;exact hq.2
   cases qU:e.loc with
   | mark m=>exact absurd (he m qU) (by simp [rQ])
   | _=>simp [deafBehind,qU]
  ·rw [Array.push_eq_append,HV]
theorem WW(quiet:FuncId->Bool)(δ:Nat):∀(l:List Event) (q:Bool) (kept:Array Event),(∀e∈l,∀m,e.loc= .mark m->e.sync=true)->
  deafBehind δ (l.foldl (seenStep quiet) (q,kept)).2=deafBehind (deafBehind δ kept) l.toArray:=by
 intro l
 induction l with
 | nil=>intro q kept _;simp [deafBehind]
 | cons e l ih=>
  intro q kept hl
  have e1:(e::l).toArray=#[e]++l.toArray:=by simp
  rw [List.foldl_cons,e1,HV,<-Pg quiet q kept e (hl e (BJ ..)) δ]
  exact ih (seenStep quiet (q,kept) e).1 (seenStep quiet (q,kept) e).2 fun x hx=>hl x (C2 _ hx)
theorem NO{P:Program}{f:FuncId}(es:Array Event)(hs:∀e∈es,∀m,e.loc= .mark m->e.sync=true)(δ:Nat):deafBehind δ (seen P f es)=deafBehind δ es:=by
 rw [seen_def,WW _ δ es.toList _ #[] (by simpa using hs),JD]
theorem Uw{P:Program}{f:FuncId}(es:Array Event)(hs:∀e∈es,∀m,e.loc= .mark m->e.sync=true)(δ:Ix Γ):Et δ (seen P f es)=Et δ es:=by
 simp only [Et,NO es hs]
end
section
open Go Go.Conc
variable{Γ:Type}
section
variable{P:Program}{main:Bool}{S:Cp Γ}{f:FuncId}{a:Act}{h:Hp}{δ:Ix Γ}{R:Cv Γ}{k:List Item}
theorem zh{g:FuncId}{ops:Array Oper}{i:Nat}{rest:List Nat}{o:Oper}{kind:CallKind}{cs:List Frame}(ho:ops[i]?=some o)(hk:kind≠ .early)
  {Rg:Cv Γ} (jV:∀v h δ,Rg (.ret v) h δ->WK P main S f (.inRegion ops rest::k) (a.put o.dst v) h δ R) (jX:∀c h δ,Rg (.Rh c) h δ->WU P main S f (.panicking c) a h δ R):
  ∀x h δ,Left P g .normal ((fb f kind).at a (.inRegion ops (i::rest)::k)::cs) Rg x h δ->Dq P main S (Left P f kind cs R) x h δ:=by
 rintro x h δ ⟨a',todo,mode,fn,rfl,hd,hf,⟨rfl,v,hv,hR⟩|⟨c,rfl,hR⟩⟩
 ·refine .Hi ⟨rfl,fun w hw=>?_⟩
  obtain⟨es,Be,Qm⟩:=hv w hw
  refine⟨G ((fb f kind).at (a.put o.dst v) (.inRegion ops rest::k)) cs,w,seen P g es,?_,FN.refl _,by rw [hw];exact Ei.refl _ _,(Ga (Γ:=Γ) Qm).1,?_⟩
  ·have Ho:((fb f kind).at a (.inRegion ops (i::rest)::k)).finish v=(fb f kind).at (a.put o.dst v) (.inRegion ops rest::k):=by rw [Frame.finish_at,ho];rfl
   rw [<-Ho]
   simp only [G,stepG,unwind,Frame.at,hd,hf,fb,Be]
   simp [doReturn,GStep.after]
  ·rw [(Ga (Γ:=Γ) (S:=S.still δ.g) Qm).2,hw]
   exact jV v h δ hR kind hk cs
 ·refine .ctl (g':=G {(fb f kind).at a (.inRegion ops (i::rest)::k)with mode:=.panicking c} cs) rfl (fun w=>?_) (jX c h δ hR kind hk cs _)
  simp [G,stepG,unwind,Frame.at,hd,hf,fb,Frame.catches,Frame.raise]
def tR(P:Program)(main:Bool)(S:Cp Γ)(f:FuncId)(ops:Array Oper)(rest:List Nat)(k:List Item)(a:Act)(dst:Option Tmp)(R:Cv Γ):Next->Hp->Ix Γ->Prop
 | .value v,h,δ=>WK P main S f (.inRegion ops rest::k) (a.put dst v) h δ R
 | .skip,h,δ=>WK P main S f (.inRegion ops rest::k) (a.put dst undef) h δ R
 | .defer d,h,δ=>WK P main S f (.inRegion ops rest::k) ({a with defers:=d::a.defers}.put dst undef) h δ R
 | .enter g args,h,δ=>AY P main S g args h δ fun
   | .ret v,h',AW=>WK P main S f (.inRegion ops rest::k) (a.put dst v) h' AW R
   | .Rh c,h',AW=>WU P main S f (.panicking c) a h' AW R
 | _,_,_=>False
theorem MZ{S:Addr->Prop}{es:Array Event}(he:∀e∈es,Lc S e):(∀e∈seen P f es,Lc S e)/\∀δ:Ix Γ,Et δ (seen P f es)=Et δ es:=
 ⟨fun e h=>he e (mem_seen h),fun δ=>Uw es (fun e h=>(he e h).2.2.2.2.2.2) δ⟩
theorem K4(d:Deferred)(dst:Option Tmp):({a with defers:=d::a.defers}:Act).put dst undef={a.put dst undef with defers:=d::a.defers}:=by
 cases dst <;> rfl
theorem WK.op{ops:Array Oper}{i:Nat}{rest:List Nat}{o:Oper}(ho:ops[i]?=some o)(hw:Region.wanted o (yielded ops a.tmps)=true)
  (hs:Aj P S (execOp a.eval o) h δ (tR P main S f ops rest k a o.dst R) (fun v h' AW=>WU P main S f (.panicking [{v,recovered:=false}]) a h' AW R)):
  WK P main S f (.inRegion ops (i::rest)::k) a h δ R:=by
 intro kind hk cs
 refine .Hi ⟨rfl,fun w oK=>?_⟩
 obtain⟨es,r,Be,Ru,Nx⟩:=LD _ h δ _ _ hs w oK #[]
 have Dh:(kind==CallKind.early)=false:=by simpa using hk
 have Ho:∀v,((fb f kind).at a (.inRegion ops (i::rest)::k)).finish v=(fb f kind).at (a.put o.dst v) (.inRegion ops rest::k):=fun v=>by rw [Frame.finish_at,ho];rfl
 have KZ:(execOp a.eval o).runT P w #[]=(r,es):=by simpa using Be
 have Xf:stepG P main (G ((fb f kind).at a (.inRegion ops (i::rest)::k)) cs) w=stepG.apply P true ((fb f kind).at a (.inRegion ops (i::rest)::k)) cs none (execOp a.eval o) w:=stepG_oper ho hw
 have GN:((fb f kind).at a (.inRegion ops (i::rest)::k)).kind=kind:=rfl
 have No:((fb f kind).at a (.inRegion ops (i::rest)::k)).fn=f:=rfl
 have YH:((fb f kind).at a (.inRegion ops (i::rest)::k)).todo= .inRegion ops (i::rest)::k:=rfl
 obtain⟨Qv,P4⟩:=MZ (Γ:=Γ) (P:=P) (f:=f) Ru
 cases r with
 | ok n w'=>
  obtain⟨KY,aa,hq⟩:=Nx
  rw [<-P4]at hq
  cases n with
  | value v=>
   refine⟨G ((fb f kind).at (a.put o.dst v) (.inRegion ops rest::k)) cs,w',seen P f es,?_,KY,aa,Qv,hq kind hk cs⟩
   rw [Xf,<-Ho]
   simp only [stepG.apply,KZ,if_true,GN,Dh,No,Bool.false_eq_true,if_false]
   simp [GStep.after,G]
  | skip=>
   refine⟨G ((fb f kind).at (a.put o.dst undef) (.inRegion ops rest::k)) cs,w',seen P f es,?_,KY,aa,Qv,hq kind hk cs⟩
   rw [Xf,<-Ho]
   simp only [stepG.apply,KZ,if_true,GN,Dh,No,Bool.false_eq_true,if_false]
   simp [GStep.after,G]
  | defer d=>
   refine⟨G ((fb f kind).at ({a with defers:=d::a.defers}.put o.dst undef) (.inRegion ops rest::k)) cs,w',seen P f es,?_,KY,aa,Qv,hq kind hk cs⟩
   have YQ:({(fb f kind).at a (.inRegion ops (i::rest)::k)with defers:=d::a.defers}:Frame).finish undef=(fb f kind).at ({a with defers:=d::a.defers}.put o.dst undef) (.inRegion ops rest::k):=by
    have:=Frame.finish_at (fb f kind) {a with defers:=d::a.defers} ops i rest k undef
    rw [ho]at this;exact this
   rw [Xf,<-YQ]
   simp only [stepG.apply,KZ,if_true,GN,Dh,No,Bool.false_eq_true,if_false]
   simp [GStep.after,G,Frame.at]
  | enter g args=>
   refine⟨G (Frame.enter P g args .normal) ((fb f kind).at a (.inRegion ops (i::rest)::k)::cs),w',seen P f es,?_,KY,aa,Qv,?_⟩
   ·rw [Xf]
    simp only [stepG.apply,KZ,if_true,GN,Dh,No,YH,Bool.false_eq_true,if_false]
    simp [GStep.after,G]
   ·exact(hq .normal (by simp) _).bind (zh ho hk (fun v h δ x=>x) (fun c h δ x=>x))
  | _=>exact hq.elim
 | halt x w'=>
  cases x with
  | panic v=>
   obtain⟨KY,aa,hq⟩:=Nx
   rw [<-P4]at hq
   refine⟨G {(fb f kind).at a (.inRegion ops (i::rest)::k)with mode:=.panicking [{v,recovered:=false}]} cs,w',seen P f es,?_,KY,aa,Qv,hq kind hk cs _⟩
   rw [Xf]
   simp only [stepG.apply,KZ,if_true,GN,Dh,No,Bool.false_eq_true,if_false]
   simp [GStep.after,G,Frame.raise,Frame.at,fb]
  | _=>exact Nx.elim
theorem qm{ops:Array Oper}{i:Nat}{rest:List Nat}{o:Oper}(ho:ops[i]?=some o)(hw:Region.wanted o (yielded ops a.tmps)=false)
  (hn:WK P main S f (.inRegion ops rest::k) (a.put o.dst undef) h δ R):WK P main S f (.inRegion ops (i::rest)::k) a h δ R:=by
 intro kind hk cs
 refine .ctl rfl (fun w=>?_) (hn kind hk cs)
 have Ho:((fb f kind).at a (.inRegion ops (i::rest)::k)).finish undef=(fb f kind).at (a.put o.dst undef) (.inRegion ops rest::k):=by rw [Frame.finish_at,ho];rfl
 rw [<-Ho]
 simp [G,stepG,stepG.exec,Frame.at,ho,hw]
theorem Hy{g:FuncId}{fn:Func}{c:Code}(hf:P.funcs[g]?=some fn)(hb:fn.body=some c)(hn:fn.name≠ "runtime.NumGoroutine")(args:Array Value)(w:World):
  (callFunc g args).runT P w #[]=(.ok (.enter g args) w,#[]):=by
 have XZ:(fn.name== "runtime.NumGoroutine")=false:=by simpa using hn
 unfold callFunc
 change Sem.runT P (Sem.bind (Sem.program Sem.pure) _) w #[]=_
 simp only [Sem.bind,Sem.runT,hf,hb,XZ,Option.isNone,Bool.false_eq_true,if_false]
 rfl
theorem Ko{g:FuncId}{fn:Func}{c:Code}(hf:P.funcs[g]?=some fn)(hb:fn.body=some c)(hn:fn.name≠ "runtime.NumGoroutine"){args:Array Value}{Q:Next->Hp->Ix Γ->Prop}{X:Value->Hp->Ix Γ->Prop}
  (hq:Q (.enter g args) h δ):Aj P S (callFunc g args) h δ Q X:=by
 have XZ:(fn.name== "runtime.NumGoroutine")=false:=by simpa using hn
 unfold callFunc
 change Aj P S (Sem.bind (Sem.program Sem.pure) _) h δ Q X
 simp only [Sem.bind,Aj,hf,hb,XZ,Option.isNone,Bool.false_eq_true,if_false]
 exact hq
theorem WU.Z0{g:FuncId}{cap args:Array Value}{ds:List Deferred}{fn:Func}{c:Code}(hf:P.funcs[g]?=some fn)(hb:fn.body=some c)(hn:fn.name≠ "runtime.NumGoroutine")
  (hc:AY P main S g (args++cap) h δ fun
   | .ret _,h',AW=>WU P main S f .returning {a with defers:=ds} h' AW R
   | .Rh _,_,_=>False) (hd:a.defers={target:=.fn (.func g) cap,args:=args}::ds):WU P main S f .returning a h δ R:=by
 intro kind hk cs todo
 have hinv:∀w,(invoke (.fn (.func g) cap) args).runT P w #[]=(.ok (.enter g (args++cap)) w,#[]):=by
  intro w
  have e:(invoke (.fn (.func g) cap) args).runT P w #[]=(callFunc g (args++cap)).runT P w #[]:=rfl
  rw [e]
  exact Hy hf hb hn (args++cap) w
 refine .ctl (g':=G (Frame.enter P g (args++cap) .deferred) ({(fb f kind).at {a with defers:=ds} todo with mode:=.returning}::cs)) rfl (fun w=>?_) ?_
 ·simp only [G,stepG,unwind,Frame.at,hd,callDeferred,fb]
  rw [hinv]
  simp [GStep.after,seen_def]
 ·refine(hc .deferred (by simp) _).bind ?_
  rintro x h δ ⟨a',ABs,mode,xY,rfl,XA,Xd,⟨rfl,v,hv,hR⟩|⟨c,rfl,hR⟩⟩
  ·refine .Hi ⟨rfl,fun w hw=>?_⟩
   obtain⟨es,Be,Qm⟩:=hv w hw
   refine⟨G {(fb f kind).at {a with defers:=ds} todo with mode:=.returning} cs,w,seen P g es,?_,FN.refl _,by rw [hw];exact Ei.refl _ _,(Ga (Γ:=Γ) Qm).1,?_⟩
   ·simp only [G,stepG,unwind,Frame.at,XA,Xd,fb,Be]
    simp [doReturn,GStep.after]
   ·rw [(Ga (Γ:=Γ) (S:=S.still δ.g) Qm).2,hw]
    exact hR kind hk cs todo
  ·exact hR.elim
end
end
section
open Go Go.Conc
variable{Γ:Type}
class Cw (P:Program) (t:TypeId) (sz:outParam Nat) (C9:outParam Nat) (z:outParam Value):Prop where
 out:(P.info? t).map (fun i=>(i.size,i.bytes,i.zero))=some (sz,C9,some z)
theorem Cw.get{P:Program}{t sz C9:Nat}{z:Value}(i:Cw P t sz C9 z):∃inf,P.info? t=some inf/\inf.size=sz/\inf.bytes=C9/\inf.zero=some z:=by
 have:=i.out
 cases h:P.info? t with
 | none=>rw [h]at this;cases this
 | some inf=>rw [h]at this;simp at this;exact⟨inf,rfl,this⟩
class AO (P:Program) (s Jw:Nat) (off:outParam Nat):Prop where
 out:∃fields fd inf,P.underlying s=some (.struct fields)/\fields[Jw]?=some fd/\fd.offset=off/\P.info? fd.type=some inf/\inf.size≠0
theorem AO.mk'{P:Program}{s Jw off sz C9 ft:Nat}{z:Value}{fields:Array Field}{fd:Field}(hu:P.underlying s=some (.struct fields))(hf:fields[Jw]?=some fd)(ho:fd.offset=off)(ht:fd.type=ft)(i:Cw P ft sz C9 z)(hs:sz≠0):AO P s Jw off:=by
 obtain⟨inf,h1,h2,_⟩:=i.get
 exact⟨fields,fd,inf,hu,hf,ho,ht▸h1,h2▸hs⟩
theorem Cu{P:Program}{s Jw off sz C9:Nat}{z:Value}{fields:Array Field}{fd:Field}(ft:Nat)(hu:P.underlying s=some (.struct fields))[i:Cw P ft sz C9 z](hf:fields[Jw]?=some fd:=by exact rfl)(ho:fd.offset=off:=by exact rfl)(ht:fd.type=ft:=by exact rfl)(hs:sz≠0:=by decide):AO P s Jw off:=AO.mk' hu hf ho ht i hs
def SD:TypeDesc->Bool
 | .struct _| .array _ _=>true
 | _=>false
class DU (P:Program) (t:TypeId):Prop where
 out:∃d,P.underlying t=some d/\SD d=false/\∃inf,P.info? t=some inf/\inf.size=1
theorem DU.mk'{P:Program}{t C9:Nat}{z:Value}{d:TypeDesc}(hu:P.underlying t=some d)(hd:SD d=false)(i:Cw P t 1 C9 z):DU P t:=by
 obtain⟨inf,h1,h2,_⟩:=i.get
 exact⟨d,hu,hd,inf,h1,h2⟩
class FP (P:Program) (t:TypeId) (n:outParam Nat):Prop where
 out:∃d,P.underlying t=some d/\SD d=true/\∃inf,P.info? t=some inf/\inf.size=n
theorem FP.mk'{P:Program}{t n C9:Nat}{z:Value}{d:TypeDesc}(hu:P.underlying t=some d)(hd:SD d=true)(i:Cw P t n C9 z):FP P t n:=by
 obtain⟨inf,h1,h2,_⟩:=i.get
 exact⟨d,hu,hd,inf,h1,h2⟩
theorem KU{P:Program}{t C9:Nat}{z:Value}{d:TypeDesc}(hu:P.underlying t=some d)[i:Cw P t 1 C9 z](hd:SD d=false:=by exact rfl):DU P t:=DU.mk' hu hd i
theorem Xl{P:Program}{t n C9:Nat}{z:Value}{d:TypeDesc}(hu:P.underlying t=some d)[i:Cw P t n C9 z](hd:SD d=true:=by exact rfl):FP P t n:=FP.mk' hu hd i
class Es (P:Program) (t:TypeId) (d:outParam TypeDesc):Prop where
 out:P.underlying t=some d
class BC (P:Program) (f:FuncId) (fn:outParam Func):Prop where
 out:P.funcs[f]?=some fn
class JA (P:Program) (f:FuncId) (e:outParam (Array Value->Sem Value)):Prop where
 out:∃fn,P.funcs[f]?=some fn/\(fn.name== "runtime.NumGoroutine")=false/\fn.body.isNone=true/\Extern.findNext fn=none/\Extern.find fn=some e
section
variable{P:Program}{S:Cp Γ}{h:Hp}{δ:Ix Γ}{X:Value->Hp->Ix Γ->Prop}
theorem EV{β:Type}{b:β}{Q:β->Hp->Ix Γ->Prop}(hs:Q b h δ):Aj P S (pure b) h δ Q X:=hs
theorem A1{α β:Type}{a:α}{g:α->Sem β}{Q:β->Hp->Ix Γ->Prop}(hs:Aj P S (g a) h δ Q X):Aj P S (pure a >>= g) h δ Q X:=hs
theorem An{β:Type}{t:TypeId}{d:TypeDesc}(hu:P.underlying t=some d){g:TypeDesc->Sem β}{Q:β->Hp->Ix Γ->Prop}(hs:Aj P S (g d) h δ Q X):Aj P S (underlying t >>= g) h δ Q X:=by
 change Aj P S (Sem.bind (Sem.bind (Sem.program Sem.pure) _) g) h δ Q X
 simp only [Sem.bind,Aj,hu]
 exact hs
theorem Em{β:Type}{t:TypeId}{i:TypeInfo}(hu:P.info? t=some i){g:TypeInfo->Sem β}{Q:β->Hp->Ix Γ->Prop}(hs:Aj P S (g i) h δ Q X):Aj P S (typeInfo t >>= g) h δ Q X:=by
 change Aj P S (Sem.bind (Sem.bind (Sem.program Sem.pure) _) g) h δ Q X
 simp only [Sem.bind,Aj,hu]
 exact hs
theorem Cb{β:Type}{t:TypeId}{i:TypeInfo}(hu:P.info? t=some i){g:Nat->Sem β}{Q:β->Hp->Ix Γ->Prop}(hs:Aj P S (g i.size) h δ Q X):Aj P S (sizeOf t >>= g) h δ Q X:=by
 refine AM _ _ _ _ _ _ (AM _ _ _ _ _ _ ?_)
 change Aj P S (Sem.bind (Sem.program Sem.pure) _) h δ _ X
 simp only [Sem.bind,Aj,hu]
 exact hs
theorem Cf{β:Type}{t:TypeId}{i:TypeInfo}{z:Value}(hu:P.info? t=some i)(hz:i.zero=some z){g:Value->Sem β}{Q:β->Hp->Ix Γ->Prop}(hs:Aj P S (g z) h δ Q X):Aj P S (zeroValue t >>= g) h δ Q X:=by
 refine AM _ _ _ _ _ _ (AM _ _ _ _ _ _ ?_)
 change Aj P S (Sem.bind (Sem.program Sem.pure) _) h δ _ X
 simp only [Sem.bind,Aj,hu]
 refine A1 (g:=fun inf:TypeInfo=>(match inf.zero with|some v=>pure v|none=>unsupported (.resourceLimit "a value of more than 2^22 cells"):Sem Value)) ?_
 simp only [hz]
 exact hs
theorem Oq{β:Type}{t:TypeId}{d:TypeDesc}(hu:P.underlying t=some d){g:Bool->Sem β}{Q:β->Hp->Ix Γ->Prop}(hs:Aj P S (g (SD d)) h δ Q X):Aj P S (isAgg t >>= g) h δ Q X:=by
 refine AM _ _ _ _ _ _ ?_
 unfold isAgg
 refine An hu ?_
 cases d <;> exact hs
def OneCell(v:Value):Prop:=(∀c,v≠ .agg c)/\(∀c,v≠ .tuple c)
def A0(h:Hp)(b off:Nat)(vs:List Value):Prop:=∀(i:Nat) (v:Value),vs[i]?=some v->AF h ⟨b,off+i,none⟩=some v
theorem add_eq(b off n:Nat):(⟨b,off,none⟩:Addr).add n=⟨b,off+n,none⟩:=by
 unfold Addr.add;split
 ·simp_all
 ·rfl
theorem HW{b off:Nat}{Q:Array Value->Hp->Ix Γ->Prop}:∀(vs:List Value) (i:Nat) (acc:Array Value),(∀(j:Nat) (v:Value),vs[j]?=some v->AF h ⟨b,off+i+j,none⟩=some v)->
  Q (acc++vs.toArray) h δ->Aj P S (loadCellsFrom ⟨b,off,none⟩ i vs.length acc) h δ Q X:=by
 intro vs
 induction vs with
 | nil=>intro i acc _ hq;show Q acc h δ;simpa using hq
 | cons v vs ih=>
  intro i acc hr hq
  simp only [List.length_cons,loadCellsFrom]
  refine⟨v,?_,?_⟩
  ·rw [add_eq];exact hr 0 v rfl
  ·refine ih (i+1) (acc.push v) (fun j x hx=>?_) ?_
   ·have:=hr (j+1) x hx
    rw [show off+(i+1)+j=off+i+(j+1) by omega];exact this
   ·rw [show acc.push v++vs.toArray=acc++(v::vs).toArray by simp];exact hq
theorem Kh{t:TypeId}[s:DU P t]{a:Addr}{v:Value}{Q:Value->Hp->Ix Γ->Prop}(hc:AF h a=some v)(hq:Q v h δ):Aj P S (loadVar t a) h δ Q X:=by
 obtain⟨d,hu,hd,_⟩:=s.out
 unfold loadVar
 refine Oq hu ?_
 rw [hd]
 exact⟨v,hc,hq⟩
theorem Kg{t n:TypeId}[s:FP P t n]{b off:Nat}{vs:List Value}{Q:Value->Hp->Ix Γ->Prop}(hn:vs.length=n)(hc:A0 h b off vs)(hq:Q (.agg vs.toArray) h δ):Aj P S (loadVar t ⟨b,off,none⟩) h δ Q X:=by
 obtain⟨d,hu,hd,inf,hi,Ey⟩:=s.out
 unfold loadVar
 refine Oq hu ?_
 rw [hd]
 simp only [if_true]
 refine Cb hi ?_
 refine AM _ _ _ _ _ _ ?_
 rw [Ey,<-hn]
 refine HW vs 0 #[] (fun j v hv=>by simpa using hc j v hv) ?_
 show Q (.agg (#[]++vs.toArray)) h δ
 simpa using hq
def Cm(h:Hp)(b off:Nat):List Value->Hp
 | []=>h
 | v::vs=>Cm (Af h ⟨b,off,none⟩ v) b (off+1) vs
theorem Gz{b off:Nat}{Q:Unit->Hp->Ix Γ->Prop}:∀(vs:List Value) (i:Nat) (h:Hp),(∀v∈vs,OneCell v)->(∀j,j<vs.length->(∃o,AF h ⟨b,off+i+j,none⟩=some o)/\Bf h ⟨b,off+i+j,none⟩=false/\¬S.still δ.g ⟨b,off+i+j,none⟩)->
  Q () (Cm h b (off+i) vs) δ->Aj P S (storeCells ⟨b,off,none⟩ vs i) h δ Q X:=by
 intro vs
 induction vs with
 | nil=>intro i h _ _ hq;exact hq
 | cons v vs ih=>
  intro i h h1 hc hq
  unfold storeCells
  obtain⟨h3,h4,h5⟩:=hc 0 (by simp)
  rw [Nat.add_zero]at h3 h4 h5
  refine⟨(h1 v (by simp)).1,(h1 v (by simp)).2,by rw [add_eq];exact h3,by rw [add_eq];exact h4,by rw [add_eq];exact h5,?_⟩
  rw [add_eq]
  refine ih (i+1) _ (fun x hx=>h1 x (C2 _ hx)) (fun j hj=>?_) hq
  obtain⟨⟨o,g3⟩,g4,g5⟩:=hc (j+1) (by simp;omega)
  rw [show off+i+(j+1)=off+(i+1)+j by omega]at g3 g4 g5
  refine⟨⟨o,?_⟩,?_,g5⟩
  ·rw [DK _ _ _ _ (by simp;omega) h3];exact g3
  ·obtain⟨c,e,f,hb,_,_⟩:=DG g3
   unfold Bf at g4⊢
   dsimp only at hb g4⊢
   rw [hb]at g4
   rw [EG]
   simp only [hb]
   simpa using g4
theorem Jr{t:TypeId}[s:DU P t]{b off:Nat}{v:Value}{Q:Unit->Hp->Ix Γ->Prop}(hv:OneCell v)(hc:∃o,AF h ⟨b,off,none⟩=some o)(hf:Bf h ⟨b,off,none⟩=false)(hS:¬S.still δ.g ⟨b,off,none⟩)
  (hq:Q () (Af h ⟨b,off,none⟩ v) δ):Aj P S (storeVar t ⟨b,off,none⟩ v) h δ Q X:=by
 obtain⟨d,hu,hd,inf,hi,Ey⟩:=s.out
 have kz:v.cells=#[v]:=by
  unfold Value.cells
  split
  ·exact absurd rfl (hv.1 _)
  ·rfl
 unfold storeVar
 refine Cb hi ?_
 rw [kz,Ey]
 exact Gz [v] 0 h (by simpa using hv) (fun j hj=>by
  have:j=0:=by simp at hj;omega
  subst this;exact⟨hc,hf,hS⟩) hq
theorem Jq{t n:TypeId}[s:FP P t n]{b off:Nat}{vs:List Value}{Q:Unit->Hp->Ix Γ->Prop}(hn:vs.length=n)(hv:∀v∈vs,OneCell v)(hc:∀j,j<n->(∃o,AF h ⟨b,off+j,none⟩=some o)/\Bf h ⟨b,off+j,none⟩=false/\¬S.still δ.g ⟨b,off+j,none⟩)
  (hq:Q () (Cm h b off vs) δ):Aj P S (storeVar t ⟨b,off,none⟩ (.agg vs.toArray)) h δ Q X:=by
 obtain⟨d,hu,hd,inf,hi,Ey⟩:=s.out
 unfold storeVar
 refine Cb hi ?_
 have:(Value.agg vs.toArray).cells.size=inf.size:=by simp [Value.cells,Ey,hn]
 simp only [this,ne_eq,not_true_eq_false,if_false]
 exact Gz vs 0 h hv (fun j hj=>by simpa using hc j (hn▸hj)) hq
end
end
section
open Go Go.Conc
variable{Γ:Type}
abbrev Env:=List (Nat×Value)
def look:Env->Nat->Option Value
 | [],_=>none
 | (i,v)::l,j=>match Nat.beq i j with
  | true=>some v
  | false=>look l j
def ev(env:Env):Operand->Option Value
 | .tmp t=>look env t
 | .const v=>some v
 | .global g=>some (.pointer (some ⟨g,0,none⟩))
 | .func f=>some (.func (.func f) #[] #[])
structure Kn(n:Nat)(env:Env)(ds:List Deferred)(a:Act):Prop where
 size:a.tmps.size=n
 defers:a.defers=ds
 knows:∀i v,look env i=some v->a.tmps[i]?=some v
theorem Kn.eval{n:Nat}{env:Env}{ds:List Deferred}{a:Act}(k:Kn n env ds a){x:Operand}{v:Value}(h:ev env x=some v):a.eval x=v:=by
 cases x with
 | tmp t=>simp only [Act.eval,Array.getD_eq_getD_getElem?,k.knows t v h];rfl
 | const c=>exact D4 h
 | global g=>exact D4 h
 | func f=>exact D4 h
theorem HJ(i:Nat)(v:Value)(l:Env)(j:Nat):look ((i,v)::l) j=if i=j then some v else look l j:=by
 simp only [look]
 split
 ·rename_i h;rw [if_pos (Nat.eq_of_beq_eq_true h)]
 ·rename_i h;rw [if_neg (fun e=>by subst e;simp at h)]
theorem Kn.put{n:Nat}{env:Env}{ds:List Deferred}{a:Act}(k:Kn n env ds a){d:Nat}(v:Value)(hd:Nat.blt d n=true):Kn n ((d,v)::env) ds (a.put (some d) v):=by
 have XA:d<n:=by simpa [Nat.blt_eq]using hd
 refine⟨by simp [Act.put,k.size],k.defers,fun i x hx=>?_⟩
 rw [HJ]at hx
 simp only [Act.put]
 by_cases e:d=i
 ·subst e
  rw [if_pos rfl]at hx
  rw [Kf (by rw [k.size];exact XA),hx]
 ·rw [if_neg e]at hx
  rw [G5 e]
  exact k.knows i x hx
def Nu:Env->Env->Prop
 | [],_=>True
 | (i,v)::l,env=>look env i=some v/\Nu l env
theorem QI{e env:Env}(h:Nu e env){i:Nat}{v:Value}(hl:look e i=some v):look env i=some v:=by
 induction e with
 | nil=>cases hl
 | cons p l ih=>
  obtain⟨j,x⟩:=p
  rw [HJ]at hl
  obtain⟨h1,h2⟩:=h
  split at hl
  ·rename_i e;subst e;cases hl;exact h1
  ·exact ih h2 hl
theorem Kn.sub{n:Nat}{env e:Env}{ds:List Deferred}{a:Act}(k:Kn n env ds a)(h:Nu e env):Kn n e ds a:=
 ⟨k.size,k.defers,fun i v hl=>k.knows i v (QI h hl)⟩
def keep(env:Env)(is:List Nat):Env:=is.filterMap fun i=>(look env i).map fun v=>(i,v)
theorem WM(env:Env)(is:List Nat):Nu (keep env is) env:=by
 induction is with
 | nil=>trivial
 | cons i l ih=>
  unfold keep at *
  rw [List.filterMap_cons]
  cases h:look env i with
  | none=>exact ih
  | some v=>exact⟨h,ih⟩
def Al(ops:Array Oper)(env:Env):Option (Nat×Bool)->Option Bool
 | none=>some true
 | some (j,b)=>
  match (ops[j]?).bind (·.dst)with
  | some t=>match look env t with
   | some (.bool x)=>some (x==b)
   | some (.tuple _)=>some false
   | _=>none
  | none=>none
theorem CN{ops:Array Oper}{n:Nat}{env:Env}{ds:List Deferred}{a:Act}(k:Kn n env ds a){o:Oper}{b:Bool}(h:Al ops env o.guard=some b):Region.wanted o (yielded ops a.tmps)=b:=by
 unfold Region.wanted
 cases hg:o.guard with
 | none=>rw [hg]at h;simp [Al]at h;simp [h]
 | some p=>
  obtain⟨j,x⟩:=p
  rw [hg]at h
  simp only [Al]at h
  split at h
  ·rename_i t ht
   split at h
   ·rename_i y hy
    have e:yielded ops a.tmps j=some y:=by
     unfold yielded
     rw [ht]
     simp only [Option.bind_some,k.knows t _ hy]
    dsimp only
    rw [e]
    have:(y==x)=b:=D4 h
    simpa using this
   ·rename_i y hy
    have e:yielded ops a.tmps j=none:=by
     unfold yielded
     rw [ht]
     simp only [Option.bind_some,k.knows t _ hy]
    dsimp only
    rw [e]
    have:false=b:=D4 h
    simpa using this
   ·cases h
  ·cases h
section
variable(P:Program)(main:Bool)(S:Cp Γ)(f:FuncId)(n:Nat)
def EK(todo:List Item)(env:Env)(ds:List Deferred)(h:Hp)(δ:Ix Γ)(R:Cv Γ):Prop:=∀a,Kn n env ds a->WK P main S f todo a h δ R
def EU(mode:FrameMode)(env:Env)(ds:List Deferred)(h:Hp)(δ:Ix Γ)(R:Cv Γ):Prop:=∀a,Kn n env ds a->WU P main S f mode a h δ R
def ER(ops:Array Oper)(l:List Oper)(k:List Item)(env:Env)(ds:List Deferred)(h:Hp)(δ:Ix Γ)(R:Cv Γ):Prop:=
 ∀rest:List Nat,rest.map (fun i=>ops[i]?)=l.map some->EK P main S f n (.inRegion ops rest::k) env ds h δ R
end
section
variable{P:Program}{main:Bool}{S:Cp Γ}{f:FuncId}{n:Nat}{k:List Item}{env:Env}{ds:List Deferred}{h:Hp}{δ:Ix Γ}{R:Cv Γ}
theorem jx{todo:List Item}{e:Env}(hs:Nu e env)(hk:EK P main S f n todo e ds h δ R):EK P main S f n todo env ds h δ R:=fun a ka=>hk a (ka.sub hs)
theorem AFj{todo:List Item}(is:List Nat)(hk:EK P main S f n todo (keep env is) ds h δ R):EK P main S f n todo env ds h δ R:=jx (WM env is) hk
theorem Ar(hw:EK P main S f n k env ds h δ R):EK P main S f n (.code .skip::k) env ds h δ R:=fun a ka=>WK.skip (hw a ka)
theorem Bb{id:Nat}(hw:EK P main S f n k env ds h δ R):EK P main S f n (.inBlock id::k) env ds h δ R:=fun a ka=>WK.inBlock (hw a ka)
theorem AI{x y:Code}(hw:EK P main S f n (.code x:: .code y::k) env ds h δ R):EK P main S f n (.code (.seq x y)::k) env ds h δ R:=fun a ka=>WK.seq (hw a ka)
theorem Ak{id:Nat}{c:Code}(hw:EK P main S f n (.code c:: .inBlock id::k) env ds h δ R):EK P main S f n (.code (.block id c)::k) env ds h δ R:=fun a ka=>WK.block (hw a ka)
theorem iA{c:Code}(hw:EK P main S f n (.code c:: .inLoop c::k) env ds h δ R):EK P main S f n (.code (.loop c)::k) env ds h δ R:=fun a ka=>WK.loop (hw a ka)
theorem tQ{c:Code}(hw:EK P main S f n (.code c:: .inLoop c::k) env ds h δ R):EK P main S f n (.inLoop c::k) env ds h δ R:=fun a ka=>WK.inLoop (hw a ka)
theorem tP{id:Nat}{k':List Item}(he:exitTo id k=some k')(hw:EK P main S f n k' env ds h δ R):EK P main S f n (.code (.exit id)::k) env ds h δ R:=fun a ka=>WK.exit he (hw a ka)
theorem B8{id:Nat}{k':List Item}(hw:EK P main S f n k' env ds h δ R)(he:exitTo id k=some k':=by exact rfl):EK P main S f n (.code (.exit id)::k) env ds h δ R:=tP he hw
theorem hU{c:Operand}{x y:Code}(hc:ev env c=some (.bool true))(hw:EK P main S f n (.code x::k) env ds h δ R):EK P main S f n (.code (.cond c x y)::k) env ds h δ R:=fun a ka=>WK.cond (ka.eval hc) (hw a ka)
theorem BU{c:Operand}{x y:Code}(hw:EK P main S f n (.code x::k) env ds h δ R)(hc:ev env c=some (.bool true):=by exact rfl):EK P main S f n (.code (.cond c x y)::k) env ds h δ R:=hU hc hw
theorem OC{c:Operand}{x y:Code}(hc:ev env c=some (.bool false))(hw:EK P main S f n (.code y::k) env ds h δ R):EK P main S f n (.code (.cond c x y)::k) env ds h δ R:=fun a ka=>WK.cond (ka.eval hc) (hw a ka)
theorem Am{c:Operand}{x y:Code}(hw:EK P main S f n (.code y::k) env ds h δ R)(hc:ev env c=some (.bool false):=by exact rfl):EK P main S f n (.code (.cond c x y)::k) env ds h δ R:=OC hc hw
theorem YX{c:Operand}{x y:Code}{t:Bool}(hc:ev env c=some (.bool t))(h1:t=true->EK P main S f n (.code x::k) env ds h δ R)(h2:t=false->EK P main S f n (.code y::k) env ds h δ R):EK P main S f n (.code (.cond c x y)::k) env ds h δ R:=
 fun a ka=>WK.cond (ka.eval hc) (by
  cases t
  ·exact h2 rfl a ka
  ·exact h1 rfl a ka)
theorem FQ(hw:EU P main S f n .returning env ds h δ R):EK P main S f n [] env ds h δ R:=fun a ka=>WK.done (hw a ka)
theorem AQ(hw:EU P main S f n .returning env ds h δ R):EK P main S f n (.code .ret::k) env ds h δ R:=fun a ka=>WK.ret (hw a ka)
theorem AH{id:Nat}{ops:Array Oper}(hw:ER P main S f n ops ops.toList k env ds h δ R):EK P main S f n (.code (.region id ops false)::k) env ds h δ R:=by
 intro a ka
 refine WK.region (hw _ ?_ a ka)
 apply List.ext_getElem?
 intro i
 simp only [List.getElem?_map,Array.getElem?_toList]
 by_cases hi:i<ops.size
 ·simp [hi]
 ·have h1:(List.range ops.size)[i]?=none:=by simp;omega
  have h2:ops[i]?=none:=by simp;omega
  rw [h1,h2];rfl
theorem AE{ops:Array Oper}(hw:EK P main S f n k env ds h δ R):ER P main S f n ops [] k env ds h δ R:=by
 intro rest hr a ka
 have:rest=[]:=by simpa using hr
 subst this
 exact jy (hw a ka)
theorem G4{ops:Array Oper}{o:Oper}{l:List Oper}{rest:List Nat}(hr:rest.map (fun i=>ops[i]?)=(o::l).map some):∃i r,rest=i::r/\ops[i]?=some o/\r.map (fun i=>ops[i]?)=l.map some:=by
 cases rest with
 | nil=>cases hr
 | cons i r=>simp at hr;exact⟨i,r,rfl,hr.1,by simpa using hr.2⟩
theorem tO{ops:Array Oper}{l:List Oper}{d:Nat}{op:Op}{ty:TypeId}{pos:String}{af:Array Edge}{g:Option (Nat×Bool)}(hw:Al ops env g=some false)(hd:Nat.blt d n=true)
  (hn:ER P main S f n ops l k ((d,undef)::env) ds h δ R):ER P main S f n ops (⟨some d,op,ty,pos,af,g⟩::l) k env ds h δ R:=by
 intro rest hr a ka
 obtain⟨i,r,rfl,ho,IQ⟩:=G4 hr
 exact qm ho (CN ka (o:=⟨some d,op,ty,pos,af,g⟩) hw) (hn r IQ _ (ka.put undef hd))
theorem CW{ops:Array Oper}{l:List Oper}{d:Nat}{op:Op}{ty:TypeId}{pos:String}{af:Array Edge}{g:Option (Nat×Bool)}(hn:ER P main S f n ops l k ((d,undef)::env) ds h δ R)(hw:Al ops env g=some false:=by exact rfl)(hd:Nat.blt d n=true:=by exact rfl):ER P main S f n ops (⟨some d,op,ty,pos,af,g⟩::l) k env ds h δ R:=tO hw hd hn
theorem YW{ops:Array Oper}{l:List Oper}{d:Nat}{op:Op}{ty:TypeId}{pos:String}{af:Array Edge}{g:Option (Nat×Bool)}{Q:Value->Hp->Ix Γ->Prop}(hw:Al ops env g=some true)(hd:Nat.blt d n=true)
  (hs:∀ρ:Operand->Value,(∀x v,ev env x=some v->ρ x=v)->Aj P S (execOp ρ ⟨some d,op,ty,pos,af,g⟩) h δ (fun nx h' AW=>∃v,nx= .value v/\Q v h' AW) (fun v h' AW=>EU P main S f n (.panicking [{v,recovered:=false}]) env ds h' AW R))
  (hn:∀v h' AW,Q v h' AW->ER P main S f n ops l k ((d,v)::env) ds h' AW R):ER P main S f n ops (⟨some d,op,ty,pos,af,g⟩::l) k env ds h δ R:=by
 intro rest hr a ka
 obtain⟨i,r,rfl,ho,IQ⟩:=G4 hr
 refine WK.op ho (CN ka (o:=⟨some d,op,ty,pos,af,g⟩) hw) (HH _ _ _ (hs a.eval (fun x v hx=>ka.eval hx)) ?_ (fun v h δ hx=>hx a ka))
 rintro nx h' AW ⟨v,rfl,hq⟩
 exact hn v h' AW hq r IQ _ (ka.put v hd)
theorem gu{ops:Array Oper}{l:List Oper}{op:Op}{ty:TypeId}{pos:String}{af:Array Edge}{g:Option (Nat×Bool)}{Q:Hp->Ix Γ->Prop}(hw:Al ops env g=some true)
  (hs:∀ρ:Operand->Value,(∀x v,ev env x=some v->ρ x=v)->Aj P S (execOp ρ ⟨none,op,ty,pos,af,g⟩) h δ (fun nx h' AW=>(nx= .skip\/∃v,nx= .value v)/\Q h' AW) (fun v h' AW=>EU P main S f n (.panicking [{v,recovered:=false}]) env ds h' AW R))
  (hn:∀h' AW,Q h' AW->ER P main S f n ops l k env ds h' AW R):ER P main S f n ops (⟨none,op,ty,pos,af,g⟩::l) k env ds h δ R:=by
 intro rest hr a ka
 obtain⟨i,r,rfl,ho,IQ⟩:=G4 hr
 refine WK.op ho (CN ka (o:=⟨none,op,ty,pos,af,g⟩) hw) (HH _ _ _ (hs a.eval (fun x v hx=>ka.eval hx)) ?_ (fun v h δ hx=>hx a ka))
 rintro nx h' AW ⟨rfl|⟨v,rfl⟩,hq⟩
 ·exact hn h' AW hq r IQ _ ka
 ·exact hn h' AW hq r IQ _ ka
theorem gn{ops:Array Oper}{l:List Oper}{d:Nat}{op:Op}{ty:TypeId}{pos:String}{af:Array Edge}{g:Option (Nat×Bool)}{c:FuncId}{args:Array Value}(hw:Al ops env g=some true)(hd:Nat.blt d n=true)
  (hs:∀(ρ:Operand->Value) (Q:Next->Hp->Ix Γ->Prop) (X:Value->Hp->Ix Γ->Prop),(∀x v,ev env x=some v->ρ x=v)->Q (.enter c args) h δ->Aj P S (execOp ρ ⟨some d,op,ty,pos,af,g⟩) h δ Q X)
  (hn:AY P main S c args h δ fun
   | .ret v,h',AW=>ER P main S f n ops l k ((d,v)::env) ds h' AW R
   | .Rh p,h',AW=>EU P main S f n (.panicking p) env ds h' AW R):ER P main S f n ops (⟨some d,op,ty,pos,af,g⟩::l) k env ds h δ R:=by
 intro rest hr a ka
 obtain⟨i,r,rfl,ho,IQ⟩:=G4 hr
 refine WK.op ho (CN ka (o:=⟨some d,op,ty,pos,af,g⟩) hw) (hs a.eval _ _ (fun x v hx=>ka.eval hx) (hn.mono ?_))
 rintro(v|p) h' AW hq
 ·exact hq r IQ _ (ka.put v hd)
 ·exact hq a ka
theorem tN{ops:Array Oper}{l:List Oper}{op:Op}{ty:TypeId}{pos:String}{af:Array Edge}{g:Option (Nat×Bool)}{d:Deferred}(hw:Al ops env g=some true)
  (hs:∀(ρ:Operand->Value) (Q:Next->Hp->Ix Γ->Prop) (X:Value->Hp->Ix Γ->Prop),(∀x v,ev env x=some v->ρ x=v)->Q (.defer d) h δ->Aj P S (execOp ρ ⟨none,op,ty,pos,af,g⟩) h δ Q X)
  (hn:ER P main S f n ops l k env (d::ds) h δ R):ER P main S f n ops (⟨none,op,ty,pos,af,g⟩::l) k env ds h δ R:=by
 intro rest hr a ka
 obtain⟨i,r,rfl,ho,IQ⟩:=G4 hr
 refine WK.op ho (CN ka (o:=⟨none,op,ty,pos,af,g⟩) hw) (hs a.eval _ _ (fun x v hx=>ka.eval hx) ?_)
 exact hn r IQ _ ⟨ka.size,by simp [Act.put,ka.defers],ka.knows⟩
end
end
section
open Go Go.Conc
variable{Γ:Type}
theorem Pa{α:Type}(s:Sem α):(s >>= fun v=>pure v)=s:=by
 show Sem.bind s Sem.pure=s
 induction s with
 | pure a=>rfl
 | load m a k ih=>simp only [Sem.bind];congr;funext x;exact ih x
 | store m a v k ih=>simp only [Sem.bind];congr
 | new o k ih=>simp only [Sem.bind];congr;funext x;exact ih x
 | shape r k ih=>simp only [Sem.bind];congr;funext x;exact ih x
 | freeze a n k ih=>simp only [Sem.bind];congr
 | frozen a k ih=>simp only [Sem.bind];congr;funext x;exact ih x
 | getObj r k ih=>simp only [Sem.bind];congr;funext x;exact ih x
 | setObj r o k ih=>simp only [Sem.bind];congr
 | choose q k ih=>simp only [Sem.bind];congr;funext x;exact ih x
 | sys c k ih=>simp only [Sem.bind];congr;funext x;exact ih x
 | program k ih=>simp only [Sem.bind];congr;funext x;exact ih x
 | mark m k ih=>simp only [Sem.bind];congr
 | halt x=>rfl
theorem kh{env:Env}{ρ:Operand->Value}{args:Array Operand}{vs:Array Value}(Aa:∀x v,ev env x=some v->ρ x=v)(ha:args.toList.map (ev env)=vs.toList.map some):args.map ρ=vs:=by
 obtain⟨a⟩:=args
 obtain⟨v⟩:=vs
 simp only [List.map_toArray,Array.mk.injEq]
 simp only at ha
 induction a generalizing v with
 | nil=>cases v <;> simp_all
 | cons x a ih=>
  cases v with
  | nil=>simp at ha
  | cons y v=>
   simp only [List.map_cons,List.cons.injEq]at ha⊢
   exact⟨Aa x y ha.1,ih v ha.2⟩
def Pq(env:Env):List Operand->Option (List Value)
 | []=>some []
 | x::l=>match ev env x,Pq env l with
  | some v,some vs=>some (v::vs)
  | _,_=>none
theorem C4{env:Env}{ρ:Operand->Value}{args:Array Operand}{vs:List Value}(Aa:∀x v,ev env x=some v->ρ x=v)(ha:Pq env args.toList=some vs):args.map ρ=vs.toArray:=by
 refine kh Aa ?_
 obtain⟨a⟩:=args
 simp only at ha⊢
 induction a generalizing vs with
 | nil=>simp only [Pq,Option.some.injEq]at ha;subst ha;rfl
 | cons x a ih=>
  simp only [Pq]at ha
  split at ha
  ·rename_i v ws h1 h2
   cases ha
   simp only [List.map_cons,h1]
   rw [ih h2]
  ·cases ha
section
variable{P:Program}{main:Bool}{S:Cp Γ}{f:FuncId}{n:Nat}{k:List Item}{env:Env}{ds:List Deferred}{h:Hp}{δ:Ix Γ}{R:Cv Γ}
variable{ops:Array Oper}{l:List Oper}{d:Nat}{ty:TypeId}{pos:String}{af:Array Edge}{g:Option (Nat×Bool)}
theorem DW{op:Op}{v:Value}{h':Hp}(hw:Al ops env g=some true)(hd:Nat.blt d n=true)
  (hs:∀(ρ:Operand->Value) (Q:Next->Hp->Ix Γ->Prop) (X:Value->Hp->Ix Γ->Prop),(∀x v,ev env x=some v->ρ x=v)->Q (.value v) h' δ->Aj P S (execOp ρ ⟨some d,op,ty,pos,af,g⟩) h δ Q X)
  (hn:ER P main S f n ops l k ((d,v)::env) ds h' δ R):ER P main S f n ops (⟨some d,op,ty,pos,af,g⟩::l) k env ds h δ R:=
 YW (Q:=fun v' V1 AW=>v'=v/\V1=h'/\AW=δ) hw hd (fun ρ Aa=>hs ρ _ _ Aa ⟨v,rfl,rfl,rfl,rfl⟩) (by rintro _ _ _ ⟨rfl,rfl,rfl⟩;exact hn)
theorem YV{op:Op}{h':Hp}(hw:Al ops env g=some true)
  (hs:∀(ρ:Operand->Value) (Q:Next->Hp->Ix Γ->Prop) (X:Value->Hp->Ix Γ->Prop),(∀x v,ev env x=some v->ρ x=v)->Q .skip h' δ->Aj P S (execOp ρ ⟨none,op,ty,pos,af,g⟩) h δ Q X)
  (hn:ER P main S f n ops l k env ds h' δ R):ER P main S f n ops (⟨none,op,ty,pos,af,g⟩::l) k env ds h δ R:=
 gu (Q:=fun V1 AW=>V1=h'/\AW=δ) hw (fun ρ Aa=>hs ρ _ _ Aa ⟨.inl rfl,rfl,rfl⟩) (by rintro _ _ ⟨rfl,rfl⟩;exact hn)
theorem tM{x:Operand}{v:Value}(hw:Al ops env g=some true)(hd:Nat.blt d n=true)(hx:ev env x=some v)
  (hn:ER P main S f n ops l k ((d,v)::env) ds h δ R):ER P main S f n ops (⟨some d,.move x,ty,pos,af,g⟩::l) k env ds h δ R:=
 DW hw hd (fun ρ Q X Aa hq=>by show Q (.value (ρ x)) h δ;rw [Aa x v hx];exact hq) hn
theorem AV{x:Operand}{v:Value}(hn:ER P main S f n ops l k ((d,v)::env) ds h δ R)(hw:Al ops env g=some true:=by exact rfl)(hd:Nat.blt d n=true:=by exact rfl)(hx:ev env x=some v:=by exact rfl):ER P main S f n ops (⟨some d,.move x,ty,pos,af,g⟩::l) k env ds h δ R:=tM hw hd hx hn
theorem tL{x:Operand}{v:Value}(hw:Al ops env g=some true)(hd:Nat.blt d n=true)(hx:ev env x=some v)
  (hn:ER P main S f n ops l k ((d,v)::env) ds h δ R):ER P main S f n ops (⟨some d,.assign x,ty,pos,af,g⟩::l) k env ds h δ R:=
 DW hw hd (fun ρ Q X Aa hq=>by show Q (.value (ρ x)) h δ;rw [Aa x v hx];exact hq) hn
theorem Aq{x:Operand}{v:Value}(hn:ER P main S f n ops l k ((d,v)::env) ds h δ R)(hw:Al ops env g=some true:=by exact rfl)(hd:Nat.blt d n=true:=by exact rfl)(hx:ev env x=some v:=by exact rfl):ER P main S f n ops (⟨some d,.assign x,ty,pos,af,g⟩::l) k env ds h δ R:=tL hw hd hx hn
theorem tK{c x y:Operand}{v:Value}(hw:Al ops env g=some true)(hd:Nat.blt d n=true)(hc:ev env c=some (.bool true))(hx:ev env x=some v)
  (hn:ER P main S f n ops l k ((d,v)::env) ds h δ R):ER P main S f n ops (⟨some d,.pick c x y,ty,pos,af,g⟩::l) k env ds h δ R:=
 DW hw hd (fun ρ Q X Aa hq=>by
  show Aj P S (asBool (ρ c) >>= fun b=>pure (.value (if b then ρ x else ρ y))) h δ Q X
  rw [Aa c _ hc]
  show Q (.value (ρ x)) h δ
  rw [Aa x v hx];exact hq) hn
theorem Bl{c x y:Operand}{v:Value}(hn:ER P main S f n ops l k ((d,v)::env) ds h δ R)(hw:Al ops env g=some true:=by exact rfl)(hd:Nat.blt d n=true:=by exact rfl)(hc:ev env c=some (.bool true):=by exact rfl)(hx:ev env x=some v:=by exact rfl):ER P main S f n ops (⟨some d,.pick c x y,ty,pos,af,g⟩::l) k env ds h δ R:=tK hw hd hc hx hn
theorem tJ{c x y:Operand}{v:Value}(hw:Al ops env g=some true)(hd:Nat.blt d n=true)(hc:ev env c=some (.bool false))(hx:ev env y=some v)
  (hn:ER P main S f n ops l k ((d,v)::env) ds h δ R):ER P main S f n ops (⟨some d,.pick c x y,ty,pos,af,g⟩::l) k env ds h δ R:=
 DW hw hd (fun ρ Q X Aa hq=>by
  show Aj P S (asBool (ρ c) >>= fun b=>pure (.value (if b then ρ x else ρ y))) h δ Q X
  rw [Aa c _ hc]
  show Q (.value (ρ y)) h δ
  rw [Aa y v hx];exact hq) hn
theorem Bd{c x y:Operand}{v:Value}(hn:ER P main S f n ops l k ((d,v)::env) ds h δ R)(hw:Al ops env g=some true:=by exact rfl)(hd:Nat.blt d n=true:=by exact rfl)(hc:ev env c=some (.bool false):=by exact rfl)(hx:ev env y=some v:=by exact rfl):ER P main S f n ops (⟨some d,.pick c x y,ty,pos,af,g⟩::l) k env ds h δ R:=tJ hw hd hc hx hn
theorem tI{x:Operand}{a:Addr}(hw:Al ops env g=some true)(hd:Nat.blt d n=true)(hx:ev env x=some (.pointer (some a)))
  (hn:ER P main S f n ops l k ((d,.pointer (some a))::env) ds h δ R):ER P main S f n ops (⟨some d,.nilCheck x,ty,pos,af,g⟩::l) k env ds h δ R:=
 DW hw hd (fun ρ Q X Aa hq=>by
  unfold execOp
  simp only [Aa x _ hx]
  exact hq) hn
theorem Bc{x:Operand}{a:Addr}(hn:ER P main S f n ops l k ((d,.pointer (some a))::env) ds h δ R)(hw:Al ops env g=some true:=by exact rfl)(hd:Nat.blt d n=true:=by exact rfl)(hx:ev env x=some (.pointer (some a)):=by exact rfl):ER P main S f n ops (⟨some d,.nilCheck x,ty,pos,af,g⟩::l) k env ds h δ R:=tI hw hd hx hn
theorem L6{s Jw off:Nat}[fo:AO P s Jw off]{b o:Nat}{Q:Value->Hp->Ix Γ->Prop}{X:Value->Hp->Ix Γ->Prop}(hq:Q (.pointer (some ⟨b,o+off,none⟩)) h δ):
  Aj P S (Instr.fieldAt s (.pointer (some ⟨b,o,none⟩)) Jw) h δ Q X:=by
 obtain⟨fields,fd,inf,hu,hf,ho,hi,hs⟩:=fo.out
 unfold Instr.fieldAt
 refine An hu ?_
 simp only [hf]
 refine A1 ?_
 refine AM _ _ _ _ _ _ ?_
 unfold fieldPlace
 refine Cb hi ?_
 rw [if_neg hs,add_eq,ho]
 exact hq
theorem tH{s Jw off:Nat}[fo:AO P s Jw off]{x:Operand}{b o:Nat}(hw:Al ops env g=some true)(hd:Nat.blt d n=true)(hx:ev env x=some (.pointer (some ⟨b,o,none⟩)))
  (hn:ER P main S f n ops l k ((d,.pointer (some ⟨b,o+off,none⟩))::env) ds h δ R):ER P main S f n ops (⟨some d,.fieldAddr s x Jw,ty,pos,af,g⟩::l) k env ds h δ R:=
 DW hw hd (fun ρ Q X Aa hq=>by
  show Aj P S (Instr.fieldAt s (ρ x) Jw >>= fun v=>pure (.value v)) h δ Q X
  rw [Aa x _ hx]
  exact AM _ _ _ _ _ _ (L6 hq)) hn
theorem Az{s Jw off:Nat}[fo:AO P s Jw off]{x:Operand}{b o:Nat}(hn:ER P main S f n ops l k ((d,.pointer (some ⟨b,o+off,none⟩))::env) ds h δ R)(hw:Al ops env g=some true:=by exact rfl)(hd:Nat.blt d n=true:=by exact rfl)(hx:ev env x=some (.pointer (some ⟨b,o,none⟩)):=by exact rfl):ER P main S f n ops (⟨some d,.fieldAddr s x Jw,ty,pos,af,g⟩::l) k env ds h δ R:=tH hw hd hx hn
theorem gm{t:TypeId}[DU P t]{x:Operand}{a:Addr}{v:Value}(hw:Al ops env g=some true)(hd:Nat.blt d n=true)(hx:ev env x=some (.pointer (some a)))(hc:AF h a=some v)
  (hn:ER P main S f n ops l k ((d,v)::env) ds h δ R):ER P main S f n ops (⟨some d,.load t x,ty,pos,af,g⟩::l) k env ds h δ R:=
 DW hw hd (fun ρ Q X Aa hq=>by
  show Aj P S ((Instr.sureAddr (ρ x) >>= fun a=>loadVar t a) >>= fun v=>pure (.value v)) h δ Q X
  rw [Aa x _ hx]
  exact AM _ _ _ _ _ _ (A1 (Kh hc hq))) hn
theorem Df{t:TypeId}[DU P t]{x:Operand}{a:Addr}{v:Value}(hn:ER P main S f n ops l k ((d,v)::env) ds h δ R)(hw:Al ops env g=some true:=by exact rfl)(hd:Nat.blt d n=true:=by exact rfl)(hx:ev env x=some (.pointer (some a)):=by exact rfl)(hc:AF h a=some v:=by exact(AD (by assumption) rfl)):ER P main S f n ops (⟨some d,.load t x,ty,pos,af,g⟩::l) k env ds h δ R:=gm hw hd hx hc hn
theorem Av{t:TypeId}[DU P t]{x:Operand}{a:Addr}{v:Value}(ew:(Al ops env g,Nat.blt d n,ev env x)=(some true,true,some (.pointer (some a))))(hc:AF h a=some v)(hn:ER P main S f n ops l k ((d,v)::env) ds h δ R):ER P main S f n ops (⟨some d,.load t x,ty,pos,af,g⟩::l) k env ds h δ R:=by
 simp only [Prod.mk.injEq]at ew
 exact gm ew.1 ew.2.1 ew.2.2 hc hn
theorem gf{t m:Nat}[FP P t m]{x:Operand}{b o:Nat}{vs:List Value}(hw:Al ops env g=some true)(hd:Nat.blt d n=true)(hx:ev env x=some (.pointer (some ⟨b,o,none⟩)))(hm:vs.length=m)(hc:A0 h b o vs)
  (hn:ER P main S f n ops l k ((d,.agg vs.toArray)::env) ds h δ R):ER P main S f n ops (⟨some d,.load t x,ty,pos,af,g⟩::l) k env ds h δ R:=
 DW hw hd (fun ρ Q X Aa hq=>by
  show Aj P S ((Instr.sureAddr (ρ x) >>= fun a=>loadVar t a) >>= fun v=>pure (.value v)) h δ Q X
  rw [Aa x _ hx]
  exact AM _ _ _ _ _ _ (A1 (Kg hm hc hq))) hn
theorem C5{t m:Nat}[FP P t m]{x:Operand}{b o:Nat}{vs:List Value}(ew:(Al ops env g,Nat.blt d n,ev env x,vs.length)=(some true,true,some (.pointer (some ⟨b,o,none⟩)),m))(hc:A0 h b o vs)(hn:ER P main S f n ops l k ((d,.agg vs.toArray)::env) ds h δ R):ER P main S f n ops (⟨some d,.load t x,ty,pos,af,g⟩::l) k env ds h δ R:=by
 simp only [Prod.mk.injEq]at ew
 exact gf ew.1 ew.2.1 ew.2.2.1 ew.2.2.2 hc hn
theorem gd{t:TypeId}[DU P t]{x y:Operand}{b o:Nat}{v:Value}(hw:Al ops env g=some true)(hx:ev env x=some (.pointer (some ⟨b,o,none⟩)))(hy:ev env y=some v)(hv:OneCell v)
  (hc:∃u,AF h ⟨b,o,none⟩=some u) (hf:Bf h ⟨b,o,none⟩=false) (hS:¬S.still δ.g ⟨b,o,none⟩)
  (hn:ER P main S f n ops l k env ds (Af h ⟨b,o,none⟩ v) δ R):ER P main S f n ops (⟨none,.store t x y,ty,pos,af,g⟩::l) k env ds h δ R:=
 YV hw (fun ρ Q X Aa hq=>by
  show Aj P S ((Instr.sureAddr (ρ x) >>= fun a=>storeVar t a (ρ y)) >>= fun _=>pure .skip) h δ Q X
  rw [Aa x _ hx,Aa y _ hy]
  exact AM _ _ _ _ _ _ (A1 (Jr hv hc hf hS hq))) hn
theorem CS{t:TypeId}[DU P t]{x y:Operand}{b o:Nat}{v:Value}(ew:(Al ops env g,ev env x,ev env y)=(some true,some (.pointer (some ⟨b,o,none⟩)),some v))(hv:OneCell v)(hc:∃u,AF h ⟨b,o,none⟩=some u)(hf:Bf h ⟨b,o,none⟩=false)(hS:¬S.still δ.g ⟨b,o,none⟩)(hn:ER P main S f n ops l k env ds (Af h ⟨b,o,none⟩ v) δ R):ER P main S f n ops (⟨none,.store t x y,ty,pos,af,g⟩::l) k env ds h δ R:=by
 simp only [Prod.mk.injEq]at ew
 exact gd ew.1 ew.2.1 ew.2.2 hv hc hf hS hn
theorem gZ{t m:Nat}[FP P t m]{x y:Operand}{b o:Nat}{vs:List Value}(hw:Al ops env g=some true)(hx:ev env x=some (.pointer (some ⟨b,o,none⟩)))(hy:ev env y=some (.agg vs.toArray))(hm:vs.length=m)(hv:∀v∈vs,OneCell v)
  (hc:∀j,j<m->(∃u,AF h ⟨b,o+j,none⟩=some u)/\Bf h ⟨b,o+j,none⟩=false/\¬S.still δ.g ⟨b,o+j,none⟩)
  (hn:ER P main S f n ops l k env ds (Cm h b o vs) δ R):ER P main S f n ops (⟨none,.store t x y,ty,pos,af,g⟩::l) k env ds h δ R:=
 YV hw (fun ρ Q X Aa hq=>by
  show Aj P S ((Instr.sureAddr (ρ x) >>= fun a=>storeVar t a (ρ y)) >>= fun _=>pure .skip) h δ Q X
  rw [Aa x _ hx,Aa y _ hy]
  exact AM _ _ _ _ _ _ (A1 (Jq hm hv hc hq))) hn
theorem Bz{t m:Nat}[FP P t m]{x y:Operand}{b o:Nat}{vs:List Value}(ew:(Al ops env g,ev env x,ev env y)=(some true,some (.pointer (some ⟨b,o,none⟩)),some (.agg vs.toArray)))(hm:vs.length=m)(hv:∀v∈vs,OneCell v)(hc:∀j,j<m->(∃u,AF h ⟨b,o+j,none⟩=some u)/\Bf h ⟨b,o+j,none⟩=false/\¬S.still δ.g ⟨b,o+j,none⟩)(hn:ER P main S f n ops l k env ds (Cm h b o vs) δ R):ER P main S f n ops (⟨none,.store t x y,ty,pos,af,g⟩::l) k env ds h δ R:=by
 simp only [Prod.mk.injEq]at ew
 exact gZ ew.1 ew.2.1 ew.2.2 hm hv hc hn
theorem OB{t sz C9:Nat}{z:Value}[i:Cw P t sz C9 z](hw:Al ops env g=some true)(hd:Nat.blt d n=true)
  (hn:ER P main S f n ops l k ((d,.pointer (some ⟨h.size,0,none⟩))::env) ds (h.push (.cells z.cells t)) δ R):ER P main S f n ops (⟨some d,.alloc t,ty,pos,af,g⟩::l) k env ds h δ R:=
 DW hw hd (fun ρ Q X Aa hq=>by
  show Aj P S (Instr.alloc t true (.tuple #[]) >>= fun v=>pure (.value v)) h δ Q X
  refine AM _ _ _ _ _ _ ?_
  unfold Instr.alloc
  obtain⟨inf,h1,h2,h3,h4⟩:=i.get
  exact Cf h1 h4 ⟨Gw,hq⟩) hn
theorem VL{t:TypeId}{x:Operand}{v:Value}(hw:Al ops env g=some true)(hd:Nat.blt d n=true)(hx:ev env x=some v)
  (hn:ER P main S f n ops l k ((d,.pointer (some ⟨h.size,0,none⟩))::env) ds (h.push (.cells v.cells t)) δ R):ER P main S f n ops (⟨some d,.box t x,ty,pos,af,g⟩::l) k env ds h δ R:=
 DW hw hd (fun ρ Q X Aa hq=>by
  show Aj P S (Instr.box t (ρ x) >>= fun v=>pure (.value v)) h δ Q X
  rw [Aa x _ hx]
  exact⟨Gw,hq⟩) hn
theorem tG{t:TypeId}{x:Operand}{cs:Array Value}(hw:Al ops env g=some true)(hd:Nat.blt d n=true)(hx:ev env x=some (.agg cs))
  (hn:ER P main S f n ops l k ((d,.pointer (some ⟨h.size,0,none⟩))::env) ds (h.push (.cells cs t)) δ R):ER P main S f n ops (⟨some d,.box t x,ty,pos,af,g⟩::l) k env ds h δ R:=
 VL hw hd hx hn
theorem DO{t:TypeId}{x:Operand}{cs:Array Value}(hn:ER P main S f n ops l k ((d,.pointer (some ⟨h.size,0,none⟩))::env) ds (h.push (.cells cs t)) δ R)(hw:Al ops env g=some true:=by exact rfl)(hd:Nat.blt d n=true:=by exact rfl)(hx:ev env x=some (.agg cs):=by exact rfl):ER P main S f n ops (⟨some d,.box t x,ty,pos,af,g⟩::l) k env ds h δ R:=tG hw hd hx hn
class zu (P:Program) (t:TypeId) (parts:Array (Nat×Value)) (v:outParam Value):Prop where
 out:∀(S:Cp Γ) (h:Hp) (δ:Ix Γ) (Q:Value->Hp->Ix Γ->Prop) (X:Value->Hp->Ix Γ->Prop),Q v h δ->Aj P S (Instr.build t parts) h δ Q X
theorem tF{t:TypeId}{ps:Array (Nat×Operand)}{parts:Array (Nat×Value)}{v:Value}(hw:Al ops env g=some true)(hd:Nat.blt d n=true)
  (hp:∀ρ:Operand->Value,(∀x v,ev env x=some v->ρ x=v)->ps.map (fun(i,x)=>(i,ρ x))=parts) (hb:∀(Q:Value->Hp->Ix Γ->Prop) (X:Value->Hp->Ix Γ->Prop),Q v h δ->Aj P S (Instr.build t parts) h δ Q X)
  (hn:ER P main S f n ops l k ((d,v)::env) ds h δ R):ER P main S f n ops (⟨some d,.build t ps,ty,pos,af,g⟩::l) k env ds h δ R:=
 DW hw hd (fun ρ Q X Aa hq=>by
  show Aj P S (Instr.build t (ps.map fun(i,x)=>(i,ρ x)) >>= fun v=>pure (.value v)) h δ Q X
  rw [hp ρ Aa]
  exact AM _ _ _ _ _ _ (hb _ _ hq)) hn
theorem tE{x:Operand}{i:Nat}{vs:Array Value}{v:Value}(hw:Al ops env g=some true)(hd:Nat.blt d n=true)(hx:ev env x=some (.tuple vs))(hv:vs[i]?=some v)
  (hn:ER P main S f n ops l k ((d,v)::env) ds h δ R):ER P main S f n ops (⟨some d,.extract x i,ty,pos,af,g⟩::l) k env ds h δ R:=
 DW hw hd (fun ρ Q X Aa hq=>by
  show Aj P S (Instr.extract (ρ x) i >>= fun v=>pure (.value v)) h δ Q X
  rw [Aa x _ hx]
  unfold Instr.extract
  simp only [hv]
  exact hq) hn
theorem Eo{x:Operand}{i:Nat}{vs:Array Value}{v:Value}(hn:ER P main S f n ops l k ((d,v)::env) ds h δ R)(hw:Al ops env g=some true:=by exact rfl)(hd:Nat.blt d n=true:=by exact rfl)(hx:ev env x=some (.tuple vs):=by exact rfl)(hv:vs[i]?=some v:=by exact rfl):ER P main S f n ops (⟨some d,.extract x i,ty,pos,af,g⟩::l) k env ds h δ R:=tE hw hd hx hv hn
theorem tD{x:Operand}{b:Bool}{t:TypeId}(hw:Al ops env g=some true)(hd:Nat.blt d n=true)(hx:ev env x=some (.bool b))
  (hn:ER P main S f n ops l k ((d,.bool (!b))::env) ds h δ R):ER P main S f n ops (⟨some d,.unOp .not t x,ty,pos,af,g⟩::l) k env ds h δ R:=
 DW hw hd (fun ρ Q X Aa hq=>by
  show Aj P S (Op.unary .not (ρ x) >>= fun v=>pure (.value v)) h δ Q X
  rw [Aa x _ hx]
  exact hq) hn
theorem B9{x:Operand}{b:Bool}{t:TypeId}(hn:ER P main S f n ops l k ((d,.bool (!b))::env) ds h δ R)(hw:Al ops env g=some true:=by exact rfl)(hd:Nat.blt d n=true:=by exact rfl)(hx:ev env x=some (.bool b):=by exact rfl):ER P main S f n ops (⟨some d,.unOp .not t x,ty,pos,af,g⟩::l) k env ds h δ R:=tD hw hd hx hn
theorem tC{x:Operand}{kd:IntKind}{a r:Int}{t:TypeId}(hw:Al ops env g=some true)(hd:Nat.blt d n=true)(hx:ev env x=some (.int kd a))(hr:kd.wrap (0-a)=r)
  (hn:ER P main S f n ops l k ((d,.int kd r)::env) ds h δ R):ER P main S f n ops (⟨some d,.unOp .neg t x,ty,pos,af,g⟩::l) k env ds h δ R:=
 DW hw hd (fun ρ Q X Aa hq=>by
  show Aj P S (Op.unary .neg (ρ x) >>= fun v=>pure (.value v)) h δ Q X
  rw [Aa x _ hx]
  show Q (.value (.int kd (kd.wrap (0-a)))) h δ
  rw [hr];exact hq) hn
theorem SN{fn:Fn}{first cap:Array Operand}{fv cv:Array Value}(hw:Al ops env g=some true)(hd:Nat.blt d n=true)
  (hf:∀ρ:Operand->Value,(∀x v,ev env x=some v->ρ x=v)->first.map ρ=fv/\cap.map ρ=cv)
  (hn:ER P main S f n ops l k ((d,.func fn fv cv)::env) ds h δ R):ER P main S f n ops (⟨some d,.makeFunc fn first cap,ty,pos,af,g⟩::l) k env ds h δ R:=
 DW hw hd (fun ρ Q X Aa hq=>by
  show Q (.value (.func fn (first.map ρ) (cap.map ρ))) h δ
  rw [(hf ρ Aa).1,(hf ρ Aa).2];exact hq) hn
theorem E2{op:BinOp}{t t2:TypeId}{x y:Operand}{ρ:Operand->Value}{dst:Option Nat}{Q:Next->Hp->Ix Γ->Prop}{X:Value->Hp->Ix Γ->Prop}
  (hs:Aj P S (eqGuard op t x y (ρ x) (ρ y)) h δ (fun _ h' AW=>Aj P S (binOp op t (ρ x) (ρ y)) h' AW (fun v V1 V5=>Q (.value v) V1 V5) X) X):Aj P S (execOp ρ ⟨dst,.binOp op t x y t2,ty,pos,af,g⟩) h δ Q X:=by
 show Aj P S ((eqGuard op t x y (ρ x) (ρ y) >>= fun _=>binOp op t (ρ x) (ρ y)) >>= fun v=>pure (.value v)) h δ Q X
 exact AM _ _ _ _ _ _ (AM _ _ _ _ _ _ hs)
theorem Mr{op:BinOp}{t:TypeId}{x y:Operand}{kx ky:IntKind}{a b:Int}:eqGuard op t x y (.int kx a) (.int ky b)=pure ():=by
 unfold eqGuard
 cases op <;> rfl
theorem QA{op:BinOp}{t t2:TypeId}{x y:Operand}{kd:IntKind}{a b:Int}{v:Value}(hw:Al ops env g=some true)(hd:Nat.blt d n=true)(hx:ev env x=some (.int kd a))(hy:ev env y=some (.int kd b))
  (hv:binOp op t (.int kd a) (.int kd b)=pure v)
  (hn:ER P main S f n ops l k ((d,v)::env) ds h δ R):ER P main S f n ops (⟨some d,.binOp op t x y t2,ty,pos,af,g⟩::l) k env ds h δ R:=
 DW hw hd (fun ρ Q X Aa hq=>E2 (by
  rw [Aa x _ hx,Aa y _ hy,Mr,hv]
  exact hq)) hn
theorem binOp_add{t:TypeId}{kd:IntKind}{a b:Int}:binOp .add t (.int kd a) (.int kd b)=pure (.int kd (kd.wrap (a+b))):=by simp [binOp,Op.intArith]
theorem binOp_sub{t:TypeId}{kd:IntKind}{a b:Int}:binOp .sub t (.int kd a) (.int kd b)=pure (.int kd (kd.wrap (a-b))):=by simp [binOp,Op.intArith]
theorem binOp_mul{t:TypeId}{kd:IntKind}{a b:Int}:binOp .mul t (.int kd a) (.int kd b)=pure (.int kd (kd.wrap (a*b))):=by simp [binOp,Op.intArith]
theorem binOp_rem{t:TypeId}{kd:IntKind}{a b:Int}(hb:b≠0):binOp .rem t (.int kd a) (.int kd b)=pure (.int kd (a.tmod b)):=by simp [binOp,Op.intDiv,hb]
theorem binOp_eql{t:TypeId}{kd:IntKind}{a b:Int}:binOp .eql t (.int kd a) (.int kd b)=pure (.bool (a==b)):=by simp [binOp,Op.intCmp]
theorem binOp_neq{t:TypeId}{kd:IntKind}{a b:Int}:binOp .neq t (.int kd a) (.int kd b)=pure (.bool (a !=b)):=by simp [binOp,Op.intCmp]
theorem binOp_lss{t:TypeId}{kd:IntKind}{a b:Int}:binOp .lss t (.int kd a) (.int kd b)=pure (.bool (decide (a<b))):=by simp [binOp,Op.intCmp]
theorem binOp_leq{t:TypeId}{kd:IntKind}{a b:Int}:binOp .leq t (.int kd a) (.int kd b)=pure (.bool (decide (a<=b))):=by simp [binOp,Op.intCmp]
theorem binOp_gtr{t:TypeId}{kd:IntKind}{a b:Int}:binOp .gtr t (.int kd a) (.int kd b)=pure (.bool (decide (b<a))):=by simp [binOp,Op.intCmp]
theorem binOp_geq{t:TypeId}{kd:IntKind}{a b:Int}:binOp .geq t (.int kd a) (.int kd b)=pure (.bool (decide (b<=a))):=by simp [binOp,Op.intCmp]
section arith
variable{t t2:TypeId}{x y:Operand}{kd:IntKind}{a b r:Int}
theorem tB(hw:Al ops env g=some true)(hd:Nat.blt d n=true)(hx:ev env x=some (.int kd a))(hy:ev env y=some (.int kd b))(hr:kd.wrap (a+b)=r)
  (hn:ER P main S f n ops l k ((d,.int kd r)::env) ds h δ R):ER P main S f n ops (⟨some d,.binOp .add t x y t2,ty,pos,af,g⟩::l) k env ds h δ R:=QA hw hd hx hy (by rw [binOp_add,hr]) hn
theorem BR(ew:(Al ops env g,Nat.blt d n,ev env x,ev env y)=(some true,true,some (.int kd a),some (.int kd b)))(hr:kd.wrap (a+b)=r)(hn:ER P main S f n ops l k ((d,.int kd r)::env) ds h δ R):ER P main S f n ops (⟨some d,.binOp .add t x y t2,ty,pos,af,g⟩::l) k env ds h δ R:=by
 simp only [Prod.mk.injEq]at ew
 exact tB ew.1 ew.2.1 ew.2.2.1 ew.2.2.2 hr hn
theorem SM(hw:Al ops env g=some true)(hd:Nat.blt d n=true)(hx:ev env x=some (.int kd a))(hy:ev env y=some (.int kd b))(hr:kd.wrap (a-b)=r)
  (hn:ER P main S f n ops l k ((d,.int kd r)::env) ds h δ R):ER P main S f n ops (⟨some d,.binOp .sub t x y t2,ty,pos,af,g⟩::l) k env ds h δ R:=QA hw hd hx hy (by rw [binOp_sub,hr]) hn
theorem tA(hw:Al ops env g=some true)(hd:Nat.blt d n=true)(hx:ev env x=some (.int kd a))(hy:ev env y=some (.int kd b))(hr:kd.wrap (a*b)=r)
  (hn:ER P main S f n ops l k ((d,.int kd r)::env) ds h δ R):ER P main S f n ops (⟨some d,.binOp .mul t x y t2,ty,pos,af,g⟩::l) k env ds h δ R:=QA hw hd hx hy (by rw [binOp_mul,hr]) hn
theorem SL(hw:Al ops env g=some true)(hd:Nat.blt d n=true)(hx:ev env x=some (.int kd a))(hy:ev env y=some (.int kd b))(hb:b≠0)(hr:a.tmod b=r)
  (hn:ER P main S f n ops l k ((d,.int kd r)::env) ds h δ R):ER P main S f n ops (⟨some d,.binOp .rem t x y t2,ty,pos,af,g⟩::l) k env ds h δ R:=QA hw hd hx hy (by rw [binOp_rem hb,hr]) hn
theorem JN(hn:ER P main S f n ops l k ((d,.int kd r)::env) ds h δ R)(hw:Al ops env g=some true:=by exact rfl)(hd:Nat.blt d n=true:=by exact rfl)(hx:ev env x=some (.int kd a):=by exact rfl)(hy:ev env y=some (.int kd b):=by exact rfl)(hb:b≠0:=by decide)(hr:a.tmod b=r:=by exact rfl):ER P main S f n ops (⟨some d,.binOp .rem t x y t2,ty,pos,af,g⟩::l) k env ds h δ R:=SL hw hd hx hy hb hr hn
def JR:BinOp->Int->Int->Prop
 | .eql,a,b=>a=b
 | .neq,a,b=>a≠b
 | .lss,a,b=>a<b
 | .leq,a,b=>a<=b
 | .gtr,a,b=>b<a
 | .geq,a,b=>b<=a
 | _,_,_=>False
def Ip:BinOp->Bool
 | .eql| .neq| .lss| .leq| .gtr| .geq=>true
 | _=>false
theorem O1{op:BinOp}(hc:Ip op=true)(hp:JR op a b):binOp op t (.int kd a) (.int kd b)=pure (.bool true):=by
 cases op <;> first|cases hc|skip
 ·rw [binOp_eql,show(a==b)=true from beq_iff_eq.2 hp]
 ·rw [binOp_neq,show(a !=b)=true from bne_iff_ne.2 hp]
 ·rw [binOp_lss,H9 (show a<b from hp)]
 ·rw [binOp_leq,H9 (show a<=b from hp)]
 ·rw [binOp_gtr,H9 (show b<a from hp)]
 ·rw [binOp_geq,H9 (show b<=a from hp)]
theorem O2{op:BinOp}(hc:Ip op=true)(hp:¬JR op a b):binOp op t (.int kd a) (.int kd b)=pure (.bool false):=by
 cases op <;> first|cases hc|skip
 ·rw [binOp_eql,show(a==b)=false from Mg.2 hp]
 ·rw [binOp_neq,show(a !=b)=false from by
   have:a=b:=Classical.not_not.1 hp
   simp [this]]
 ·rw [binOp_lss,Gj (show ¬a<b from hp)]
 ·rw [binOp_leq,Gj (show ¬a<=b from hp)]
 ·rw [binOp_gtr,Gj (show ¬b<a from hp)]
 ·rw [binOp_geq,Gj (show ¬b<=a from hp)]
theorem gV{op:BinOp}(hc:Ip op=true)(hw:Al ops env g=some true)(hd:Nat.blt d n=true)(hx:ev env x=some (.int kd a))(hy:ev env y=some (.int kd b))(hp:JR op a b)
  (hn:ER P main S f n ops l k ((d,.bool true)::env) ds h δ R):ER P main S f n ops (⟨some d,.binOp op t x y t2,ty,pos,af,g⟩::l) k env ds h δ R:=QA hw hd hx hy (O1 hc hp) hn
theorem Bs{op:BinOp}(hn:ER P main S f n ops l k ((d,.bool true)::env) ds h δ R)(hc:Ip op=true:=by exact rfl)(hw:Al ops env g=some true:=by exact rfl)(hd:Nat.blt d n=true:=by exact rfl)(hx:ev env x=some (.int kd a):=by exact rfl)(hy:ev env y=some (.int kd b):=by exact rfl)(hp:JR op a b:=by first|(dsimp only [JR];omega)|exact rfl|exact Int.le_refl _):ER P main S f n ops (⟨some d,.binOp op t x y t2,ty,pos,af,g⟩::l) k env ds h δ R:=gV hc hw hd hx hy hp hn
theorem gU{op:BinOp}(hc:Ip op=true)(hw:Al ops env g=some true)(hd:Nat.blt d n=true)(hx:ev env x=some (.int kd a))(hy:ev env y=some (.int kd b))(hp:¬JR op a b)
  (hn:ER P main S f n ops l k ((d,.bool false)::env) ds h δ R):ER P main S f n ops (⟨some d,.binOp op t x y t2,ty,pos,af,g⟩::l) k env ds h δ R:=QA hw hd hx hy (O2 hc hp) hn
theorem Bg{op:BinOp}(hn:ER P main S f n ops l k ((d,.bool false)::env) ds h δ R)(hc:Ip op=true:=by exact rfl)(hw:Al ops env g=some true:=by exact rfl)(hd:Nat.blt d n=true:=by exact rfl)(hx:ev env x=some (.int kd a):=by exact rfl)(hy:ev env y=some (.int kd b):=by exact rfl)(hp:¬JR op a b:=by first|(dsimp only [JR];omega)|exact rfl|exact Int.le_refl _):ER P main S f n ops (⟨some d,.binOp op t x y t2,ty,pos,af,g⟩::l) k env ds h δ R:=gU hc hw hd hx hy hp hn
theorem s9{op:BinOp}(hc:Ip op=true)(hw:Al ops env g=some true)(hd:Nat.blt d n=true)(hx:ev env x=some (.int kd a))(hy:ev env y=some (.int kd b))
  (h1:JR op a b->ER P main S f n ops l k ((d,.bool true)::env) ds h δ R) (h2:¬JR op a b->ER P main S f n ops l k ((d,.bool false)::env) ds h δ R):ER P main S f n ops (⟨some d,.binOp op t x y t2,ty,pos,af,g⟩::l) k env ds h δ R:=by
 by_cases hp:JR op a b
 ·exact gV hc hw hd hx hy hp (h1 hp)
 ·exact gU hc hw hd hx hy hp (h2 hp)
end arith
theorem gT{op:BinOp}{t t2:TypeId}{x y:Operand}{u w v:Value}(hw:Al ops env g=some true)(hd:Nat.blt d n=true)(hx:ev env x=some u)(hy:ev env y=some w)
  (hg:eqGuard op t x y u w=pure ()) (hv:∀(Q:Value->Hp->Ix Γ->Prop) (X:Value->Hp->Ix Γ->Prop),Q v h δ->Aj P S (binOp op t u w) h δ Q X)
  (hn:ER P main S f n ops l k ((d,v)::env) ds h δ R):ER P main S f n ops (⟨some d,.binOp op t x y t2,ty,pos,af,g⟩::l) k env ds h δ R:=
 DW hw hd (fun ρ Q X Aa hq=>E2 (by
  rw [Aa x _ hx,Aa y _ hy,hg]
  exact hv _ _ hq)) hn
def Iq:TypeDesc->Value->Value->Option Bool
 | .pointer _,.pointer none,.pointer a=>some a.isNone
 | .pointer _,.pointer (some _),.pointer none=>some false
 | .func _ _ _,.nilFunc,.nilFunc=>some true
 | .func _ _ _,.func _ _ _,.nilFunc=>some false
 | .chan _ _,.chan c,.chan d=>some (c==d)
 | .bool,.bool a,.bool b=>some (a==b)
 | .slice _,.slice none _ _,.slice b _ _=>some b.isNone
 | .slice _,.slice (some _) _ _,.slice none _ _=>some false
 | _,_,_=>none
theorem LF{t:TypeId}{dd:TypeDesc}{u w:Value}(hu:P.underlying t=some dd){Q:Bool->Hp->Ix Γ->Prop}{X:Value->Hp->Ix Γ->Prop}{r:Bool}(hr:Iq dd u w=some r)(hq:Q r h δ):
  Aj P S (Op.equal t u w) h δ Q X:=by
 unfold Op.equal Op.maxDepth Op.equalIn
 refine An hu ?_
 unfold Iq at hr
 split at hr <;> first|cases hr|skip
 all_goals exact hq
theorem P9{t t2:TypeId}{x y:Operand}{u w:Value}{dd:TypeDesc}{r:Bool}[hu:Es P t dd](hw:Al ops env g=some true)(hd:Nat.blt d n=true)(hx:ev env x=some u)(hy:ev env y=some w)(hr:Iq dd u w=some r)
  (hn:ER P main S f n ops l k ((d,.bool r)::env) ds h δ R):ER P main S f n ops (⟨some d,.binOp .eql t x y t2,ty,pos,af,g⟩::l) k env ds h δ R:=by
 refine gT hw hd hx hy ?_ (fun Q X hq=>?_) hn
 ·unfold Iq at hr
  unfold eqGuard
  split at hr <;> first|rfl|(cases hr;done)
 ·have e:binOp .eql t u w=(Op.equal t u w >>= fun b=>pure (.bool b)):=by
   unfold Iq at hr
   split at hr <;> first|rfl|(cases hr;done)
  rw [e]
  exact AM _ _ _ _ _ _ (LF hu.out hr hq)
theorem Lm{t t2:TypeId}{x y:Operand}{u w:Value}{dd:TypeDesc}{r:Bool}[hu:Es P t dd](hw:Al ops env g=some true)(hd:Nat.blt d n=true)(hx:ev env x=some u)(hy:ev env y=some w)(hr:Iq dd u w=some r)
  (hn:ER P main S f n ops l k ((d,.bool (!r))::env) ds h δ R):ER P main S f n ops (⟨some d,.binOp .neq t x y t2,ty,pos,af,g⟩::l) k env ds h δ R:=by
 refine gT hw hd hx hy ?_ (fun Q X hq=>?_) hn
 ·unfold Iq at hr
  unfold eqGuard
  split at hr <;> first|rfl|(cases hr;done)
 ·have e:binOp .neq t u w=(Op.equal t u w >>= fun b=>pure (.bool (!b))):=by
   unfold Iq at hr
   split at hr <;> first|rfl|(cases hr;done)
  rw [e]
  exact AM _ _ _ _ _ _ (LF hu.out hr hq)
class AT (P:Program) (c:FuncId):Prop where
 out:∃fn code,P.funcs[c]?=some fn/\fn.body=some code/\fn.name≠ "runtime.NumGoroutine"
theorem Cx{P:Program}{c:FuncId}{fn:Func}{code:Code}(h:P.funcs[c]?=some fn)(h1:fn.body=some code:=by exact rfl)(h2:decide (fn.name≠ "runtime.NumGoroutine")=true:=by kernel_rfl):AT P c:=⟨fn,code,h,h1,of_decide_eq_true h2⟩
theorem HI{op:Op}{dst:Option Nat}{x:Operand}{args:Array Operand}{FL:Array TypeId}{c:FuncId}{cap vs:Array Value}[hb:AT P c]{ρ:Operand->Value}{Q:Next->Hp->Ix Γ->Prop}{X:Value->Hp->Ix Γ->Prop}
  (G6:op= .call {callee:=.value x,args,argTypes:=FL}) (hx:ρ x= .func (.func c) #[] cap) (ha:args.map ρ=vs) (hq:Q (.enter c (vs++cap)) h δ):Aj P S (execOp ρ ⟨dst,op,ty,pos,af,g⟩) h δ Q X:=by
 subst G6
 show Aj P S (Deferred.ofValue (ρ x) (args.map ρ) >>= fun d=>invoke d.target d.args) h δ Q X
 rw [hx,ha]
 obtain⟨fn,code,h1,h2,h3⟩:=hb.out
 have e:(#[]:Array Value)++vs=vs:=by simp
 show Aj P S (callFunc c ((#[]++vs)++cap)) h δ Q X
 rw [e]
 exact Ko h1 h2 h3 hq
theorem sx{x:Operand}{args:Array Operand}{FL:Array TypeId}{c:FuncId}{cap:Array Value}{vs:List Value}[AT P c](hw:Al ops env g=some true)(hd:Nat.blt d n=true)(hx:ev env x=some (.func (.func c) #[] cap))
  (ha:Pq env args.toList=some vs)
  (hn:AY P main S c (vs.toArray++cap) h δ fun
   | .ret v,h',AW=>ER P main S f n ops l k ((d,v)::env) ds h' AW R
   | .Rh p,h',AW=>EU P main S f n (.panicking p) env ds h' AW R):ER P main S f n ops (⟨some d,.call {callee:=.value x,args,argTypes:=FL},ty,pos,af,g⟩::l) k env ds h δ R:=
 gn hw hd (fun _ _ _ Aa hq=>HI rfl (Aa x _ hx) (C4 Aa ha) hq) hn
theorem sw{x:Operand}{args:Array Operand}{FL:Array TypeId}{c:FuncId}{cap:Array Value}{vs:List Value}(hw:Al ops env g=some true)(hx:ev env x=some (.func (.func c) #[] cap))
  (ha:Pq env args.toList=some vs)
  (hn:ER P main S f n ops l k env ({target:=.fn (.func c) cap,args:=vs.toArray}::ds) h δ R):ER P main S f n ops (⟨none,.defer {callee:=.value x,args,argTypes:=FL},ty,pos,af,g⟩::l) k env ds h δ R:=
 tN hw (fun ρ Q X Aa hq=>by
  show Aj P S (Deferred.ofValue (ρ x) (args.map ρ) >>= fun d=>pure (.defer d)) h δ Q X
  rw [Aa x _ hx,C4 Aa ha]
  have e:(#[]:Array Value)++vs.toArray=vs.toArray:=by simp
  show Q (.defer {target:=.fn (.func c) cap,args:=#[]++vs.toArray}) h δ
  rw [e];exact hq) hn
def Ty:Nat->List Value->Env
 | _,[]=>[]
 | i,v::l=>(i,v)::Ty (i+1) l
theorem KE:∀(vs:List Value) (j i:Nat) (v:Value),look (Ty j vs) i=some v->j<=i/\vs[i-j]?=some v
 | [],_,_,_,h=>by cases h
 | x::l,j,i,v,h=>by
  rw [Ty,HJ]at h
  split at h
  ·rename_i e;subst e;cases h;simp
  ·rename_i e
   obtain⟨h1,h2⟩:=KE l (j+1) i v h
   refine⟨by omega,?_⟩
   rw [show i-j=(i-(j+1))+1 by omega]
   simpa using h2
theorem AY.start{fn:Func}{c:Code}{args:Array Value}[hf:BC P f fn](hb:fn.body=some c)(hn:args.size+(fn.ntmps-args.size)=n)
  (hk:EK P main S f n [.code c] (Ty 0 args.toList) [] h δ R):AY P main S f args h δ R:=by
 refine AY.enter hf.out hb (hk _ ⟨by simp [hn],rfl,fun i v hl=>?_⟩)
 obtain⟨_,h2⟩:=KE _ _ _ _ hl
 have h3:args[i]?=some v:=by simpa using h2
 have hi:i<args.size:=by
  rcases EM i args.size with x|x
  ·exact x
  ·simp [Array.getElem?_eq_none x]at h3
 rw [Array.getElem?_append_left hi,h3]
theorem CK{fn:Func}{c:Code}{args:Array Value}[hf:BC P f fn](hk:EK P main S f n [.code c] (Ty 0 args.toList) [] h δ R)(hb:fn.body=some c:=by exact rfl)(hn:args.size+(fn.ntmps-args.size)=n:=by exact rfl):AY P main S f args h δ R:=AY.start hb hn hk
theorem Ds{a:Act}(ka:Kn n env ds a){t:Nat}{v:Value}(hv:look env t=some v):a.tmps.getD t undef=v:=by
 rw [Array.getD_eq_getD_getElem?,ka.knows t v hv];rfl
theorem Eu{fn:Func}[hf:BC P f fn](hr:fn.results=#[])(hR:R (.ret (.tuple #[])) h δ):EU P main S f n .returning env [] h δ R:=
 fun _ ka=>WU.V7 ka.defers hf.out (Uf hr) hR
theorem gS{fn:Func}{t:Tmp}{v:Value}[hf:BC P f fn](hr:fn.results=#[.tmp t])(hv:look env t=some v)(hR:R (.ret v) h δ):EU P main S f n .returning env [] h δ R:=
 fun _ ka=>WU.V7 ka.defers hf.out (Wa hr (Ds ka hv)) hR
theorem DQ{fn:Func}{t:Tmp}{v:Value}[hf:BC P f fn](hR:R (.ret v) h δ)(hr:fn.results=#[.tmp t]:=by exact rfl)(hv:look env t=some v:=by exact rfl):EU P main S f n .returning env [] h δ R:=gS hr hv hR
theorem CL{fn:Func}{t:Tmp}{v:Value}[hf:BC P f fn](ew:(fn.results,look env t)=(#[.tmp t],some v))(hR:R (.ret v) h δ):EU P main S f n .returning env [] h δ R:=by
 simp only [Prod.mk.injEq]at ew
 exact gS ew.1 ew.2 hR
theorem EL{fn:Func}{t u:Tmp}{v x:Value}[hf:BC P f fn](hr:fn.results=#[.tmp t,.tmp u])(hv:look env t=some v)(hx:look env u=some x)(hR:R (.ret (.tuple #[v,x])) h δ):EU P main S f n .returning env [] h δ R:=
 fun _ ka=>WU.V7 ka.defers hf.out (Ue hr (Ds ka hv) (Ds ka hx)) hR
theorem SK{fn:Func}{t u q:Tmp}{v x y:Value}[hf:BC P f fn](hr:fn.results=#[.tmp t,.tmp u,.tmp q])(hv:look env t=some v)(hx:look env u=some x)(hy:look env q=some y)(hR:R (.ret (.tuple #[v,x,y])) h δ):EU P main S f n .returning env [] h δ R:=
 fun _ ka=>WU.V7 ka.defers hf.out (Ud hr (Ds ka hv) (Ds ka hx) (Ds ka hy)) hR
theorem su{c:FuncId}{cap args:Array Value}[hb:AT P c]
  (hc:AY P main S c (args++cap) h δ fun
   | .ret _,h',AW=>EU P main S f n .returning env ds h' AW R
   | .Rh _,_,_=>False):EU P main S f n .returning env ({target:=.fn (.func c) cap,args:=args}::ds) h δ R:=by
 intro a ka
 obtain⟨fn,code,h1,h2,h3⟩:=hb.out
 refine WU.Z0 h1 h2 h3 (hc.mono ?_) ka.defers
 rintro(v|p) h' AW hq
 ·exact hq _ ⟨ka.size,rfl,ka.knows⟩
 ·exact hq
theorem ZZ{op:Op}{dst:Option Nat}{x:Operand}{args:Array Operand}{FL:Array TypeId}{c:FuncId}{vs:Array Value}{e:Array Value->Sem Value}[he:JA P c e]{ρ:Operand->Value}{Q:Next->Hp->Ix Γ->Prop}{X:Value->Hp->Ix Γ->Prop}
  (G6:op= .call {callee:=.value x,args,argTypes:=FL}) (hx:ρ x= .func (.func c) #[] #[]) (ha:args.map ρ=vs) (hq:Aj P S (e vs) h δ (fun v h' AW=>Q (.value v) h' AW) X):Aj P S (execOp ρ ⟨dst,op,ty,pos,af,g⟩) h δ Q X:=by
 subst G6
 show Aj P S (Deferred.ofValue (ρ x) (args.map ρ) >>= fun d=>invoke d.target d.args) h δ Q X
 rw [hx,ha]
 obtain⟨fn,h1,h2,h3,h4,h5⟩:=he.out
 have e1:(#[]:Array Value)++vs++#[]=vs:=by simp
 show Aj P S (callFunc c ((#[]++vs)++#[])) h δ Q X
 rw [e1]
 unfold callFunc
 change Aj P S (Sem.bind (Sem.program Sem.pure) _) h δ Q X
 simp only [Sem.bind,Aj,h1,h2,h3,h4,h5,Bool.false_eq_true,if_false,if_true]
 refine⟨by simp,by simp,?_⟩
 show Aj P S (Sem.bind (e vs) fun v=>pure (.value v)) h δ Q X
 exact AM _ _ _ _ _ _ hq
theorem H8{x:Operand}{args:Array Operand}{FL:Array TypeId}{c:FuncId}{vs:List Value}{e:Array Value->Sem Value}{v:Value}{h':Hp}{AW:Ix Γ}[JA P c e](hw:Al ops env g=some true)(hd:Nat.blt d n=true)(hx:ev env x=some (.func (.func c) #[] #[]))
  (ha:Pq env args.toList=some vs) (hs:∀(Q:Value->Hp->Ix Γ->Prop) (X:Value->Hp->Ix Γ->Prop),Q v h' AW->Aj P S (e vs.toArray) h δ Q X)
  (hn:ER P main S f n ops l k ((d,v)::env) ds h' AW R):ER P main S f n ops (⟨some d,.call {callee:=.value x,args,argTypes:=FL},ty,pos,af,g⟩::l) k env ds h δ R:=
 YW (Q:=fun v1 h1 H0=>v1=v/\h1=h'/\H0=AW) hw hd (fun ρ Aa=>ZZ (c:=c) rfl (Aa x _ hx) (C4 Aa ha) (hs _ _ ⟨v,rfl,rfl,rfl,rfl⟩)) (by rintro _ _ _ ⟨rfl,rfl,rfl⟩;exact hn)
section dt
variable{a:Addr}{kd:IntKind}{Q:Value->Hp->Ix Γ->Prop}{X:Value->Hp->Ix Γ->Prop}
theorem MQ{β:Type}{x:Int}(hc:AF h a=some (.int kd x)){g:Value->Sem β}{Q:β->Hp->Ix Γ->Prop}(hs:Aj P S (g (.int kd x)) h δ Q X):Aj P S (Extern.Atomic.read (.int kd) a >>= g) h δ Q X:=by
 refine AM _ _ _ _ _ _ ⟨_,hc,?_⟩
 show Aj P S (if kd=kd then pure (Value.int kd x)else _) h δ _ X
 rw [if_pos rfl]
 exact hs
theorem UY{x:Int}(hc:AF h a=some (.int kd x))(hq:Q (.int kd x) h δ):Aj P S (Extern.Atomic.loadT (.int kd) #[.pointer (some a)]) h δ Q X:=by
 have e:Extern.Atomic.loadT (.int kd) #[.pointer (some a)]=(Extern.Atomic.read (.int kd) a >>= fun v=>pure v):=by
  show Extern.Atomic.read (.int kd) a=_
  exact(Pa _).symm
 rw [e]
 exact MQ hc hq
theorem TA{u v:Value}(hv:OneCell v)(hc:AF h a=some u)(hz:Bf h a=false)(hS:¬S.still δ.g a)(hq:Q (.tuple #[]) (Af h a v) δ):Aj P S (Extern.Atomic.storeT #[.pointer (some a),v]) h δ Q X:=
 ⟨hv.1,hv.2,⟨u,hc⟩,hz,hS,hq⟩
theorem LN{β:Type}{v:Value}(hc:AF h a=some v)(hz:Bf h a=false){g:Bool->Sem β}{Q:β->Hp->Ix Γ->Prop}(hs:Aj P S (g false) h δ Q X):Aj P S (Extern.Atomic.touchesFrozen a >>= g) h δ Q X:=by
 obtain⟨c,e,f,hb,wZ,hv⟩:=DG hc
 have h1:IT h a.block=some (e,c.size):=by simp [IT,hb]
 refine AM _ _ _ _ _ _ ?_
 change Aj P S (Sem.bind (Sem.bind (Sem.shape a.block Sem.pure) _) _) h δ _ X
 simp only [Sem.bind,Aj,h1,Option.isSome]
 show Aj P S (Sem.frozen a Sem.pure) h δ _ X
 simp only [Aj,hz]
 exact hs
theorem MR{x y:Int}{k2:IntKind}{nv:Value}(hnv:OneCell nv)(hc:AF h a=some (.int kd x))(hz:Bf h a=false)(hS:¬S.still δ.g a)
  (hq:if x=y then Q (.bool true) (Af h a nv) δ else Q (.bool false) h δ):Aj P S (Extern.Atomic.casT (.int kd) #[.pointer (some a),.int k2 y,nv]) h δ Q X:=by
 show Aj P S (asAddr (.pointer (some a)) >>= _) h δ Q X
 refine A1 ?_
 refine LN hc hz ?_
 show Aj P S (Extern.Atomic.read (.int kd) a >>= _) h δ Q X
 refine MQ hc ?_
 by_cases e:x=y
 ·rw [if_pos e]at hq
  subst e
  show Aj P S (if(x==x)=true then(store a nv .atomic >>= fun _=>pure (.bool (x==x)))else pure (.bool (x==x))) h δ Q X
  simp only [beq_self_eq_true,if_true]
  exact⟨hnv.1,hnv.2,⟨_,hc⟩,hz,hS,hq⟩
 ·rw [if_neg e]at hq
  show Aj P S (if(x==y)=true then(store a nv .atomic >>= fun _=>pure (.bool (x==y)))else pure (.bool (x==y))) h δ Q X
  have:(x==y)=false:=Mg.2 e
  simp only [this,Bool.false_eq_true,if_false]
  exact hq
theorem QP{x y r:Int}{k2:IntKind}(hc:AF h a=some (.int kd x))(hz:Bf h a=false)(hS:¬S.still δ.g a)(hr:kd.wrap (x+y)=r)(hq:Q (.int kd r) (Af h a (.int kd r)) δ):
  Aj P S (Extern.Atomic.update (Op.intArith .add) kd true #[.pointer (some a),.int k2 y]) h δ Q X:=by
 subst hr
 show Aj P S (Extern.Atomic.read (.int kd) a >>= _) h δ Q X
 refine MQ hc ?_
 exact⟨by simp,by simp,⟨_,hc⟩,hz,hS,hq⟩
theorem Ic{m:Mark}(h1:∀a,m≠ .read a)(h2:∀a,m≠ .write a){vs:Array Value}(hq:Q (.tuple #[]) h (Px m δ)):Aj P S ((fun _=>do mark m;pure Extern.Race.none_:Array Value->Sem Value) vs) h δ Q X:=
 ⟨h1,h2,hq⟩
theorem Mn{m:Addr->Mark}(h1:∀x a,m x≠ .read a)(h2:∀x a,m x≠ .write a)(hq:Q (.tuple #[]) h (Px (m a) δ)):Aj P S (Extern.Race.marked m #[.pointer (some a)]) h δ Q X:=
 ⟨h1 a,h2 a,hq⟩
end dt
theorem gR{src dst t sz C9:Nat}{z:Value}[hs:Es P src (.pointer t)][hdt:Es P dst .unsafePointer][i:Cw P t sz C9 z]{x:Operand}{a:Addr}{v:Value}(hw:Al ops env g=some true)(hd:Nat.blt d n=true)(hx:ev env x=some (.pointer (some a)))(Ey:sz≠0)(hc:AF h a=some v)
  (hn:ER P main S f n ops l k ((d,.pointer (some a))::env) ds h δ R):ER P main S f n ops (⟨some d,.convert src dst x,ty,pos,af,g⟩::l) k env ds h δ R:=
 DW hw hd (fun ρ Q X Aa hq=>by
  show Aj P S (convert src dst (ρ x) >>= fun v=>pure (.value v)) h δ Q X
  rw [Aa x _ hx]
  refine AM _ _ _ _ _ _ ?_
  unfold convert
  refine An hs.out (An hdt.out ?_)
  show Aj P S (Conv.unsafePointer src dst (.pointer (some a))) h δ _ X
  unfold Conv.unsafePointer
  refine An hs.out (An hdt.out ?_)
  obtain⟨c,e,f,hb,wZ,hv⟩:=DG hc
  have h1:IT h a.block=some (e,c.size):=by simp [IT,hb]
  obtain⟨inf,g1,g2,g3,g4⟩:=i.get
  have Cg:a.off<c.size:=by
   rcases EM a.off c.size with y|y
   ·exact y
   ·simp [Array.getElem?_eq_none y]at hv
  show Aj P S (Conv.seenAt a >>= _) h δ _ X
  refine AM _ _ _ _ _ _ ?_
  unfold Conv.seenAt
  change Aj P S (Sem.bind (Sem.bind (Sem.shape a.block Sem.pure) _) _) h δ _ X
  simp only [Sem.bind,Aj,h1,Option.isSome]
  show Aj P S (cellsIn a.block >>= _) h δ _ X
  refine AM _ _ _ _ _ _ ?_
  unfold cellsIn
  change Aj P S (Sem.bind (Sem.shape a.block Sem.pure) _) h δ _ X
  simp only [Sem.bind,Aj,h1]
  refine Cb g1 ?_
  have h2:¬(inf.size=0):=by rw [g2];exact Ey
  have h3:¬(a.off≥c.size):=by omega
  simp only [h2,h3,decide_false,Bool.false_and,Bool.or_self,Bool.false_eq_true,if_false]
  exact hq) hn
def CJ(Q:Value->Hp->Ix Γ->Prop):Cv Γ
 | .ret v,h,δ=>Q v h δ
 | .Rh _,_,_=>False
theorem gQ{x:Operand}{args:Array Operand}{FL:Array TypeId}{c:FuncId}{cap ws:Array Value}{vs:List Value}[AT P c]{Q:Value->Hp->Ix Γ->Prop}(hw:Al ops env g=some true)(hd:Nat.blt d n=true)(hx:ev env x=some (.func (.func c) #[] cap))
  (ha:Pq env args.toList=some vs) (My:vs.toArray++cap=ws) (hc:AY P main S c ws h δ (CJ Q))
  (hn:∀v h' AW,Q v h' AW->ER P main S f n ops l k ((d,v)::env) ds h' AW R):ER P main S f n ops (⟨some d,.call {callee:=.value x,args,argTypes:=FL},ty,pos,af,g⟩::l) k env ds h δ R:=by
 subst My
 refine sx hw hd hx ha (hc.mono ?_)
 rintro(v|p) h' AW hq
 ·exact hn _ _ _ hq
 ·exact hq.elim
theorem BV{x:Operand}{args:Array Operand}{FL:Array TypeId}{c:FuncId}{cap ws:Array Value}{vs:List Value}[AT P c]{Q:Value->Hp->Ix Γ->Prop}(ew:(Al ops env g,Nat.blt d n,ev env x,Pq env args.toList,vs.toArray++cap)=(some true,true,some (.func (.func c) #[] cap),some vs,ws))(hc:AY P main S c ws h δ (CJ Q))(hn:∀v h' AW,Q v h' AW->ER P main S f n ops l k ((d,v)::env) ds h' AW R):ER P main S f n ops (⟨some d,.call {callee:=.value x,args,argTypes:=FL},ty,pos,af,g⟩::l) k env ds h δ R:=by
 simp only [Prod.mk.injEq]at ew
 exact gQ ew.1 ew.2.1 ew.2.2.1 ew.2.2.2.1 ew.2.2.2.2 hc hn
theorem ss{c:FuncId}{cap args ws:Array Value}[AT P c]{Q:Value->Hp->Ix Γ->Prop}(My:args++cap=ws)(hc:AY P main S c ws h δ (CJ Q))
  (hn:∀v h' AW,Q v h' AW->EU P main S f n .returning env ds h' AW R):EU P main S f n .returning env ({target:=.fn (.func c) cap,args:=args}::ds) h δ R:=by
 subst My
 refine su (hc.mono ?_)
 rintro(v|p) h' AW hq
 ·exact hn _ _ _ hq
 ·exact hq
def Gb(v:Value)(h':Hp)(AW:Ix Γ):Value->Hp->Ix Γ->Prop:=fun v1 h1 H0=>v1=v/\h1=h'/\H0=AW
theorem sr{x:Operand}{args:Array Operand}{FL:Array TypeId}{c:FuncId}{cap ws:Array Value}{vs:List Value}[AT P c]{v:Value}{h':Hp}{AW:Ix Γ}(hw:Al ops env g=some true)(hd:Nat.blt d n=true)(hx:ev env x=some (.func (.func c) #[] cap))
  (ha:Pq env args.toList=some vs) (My:vs.toArray++cap=ws) (hc:AY P main S c ws h δ (CJ (Gb v h' AW)))
  (hn:ER P main S f n ops l k ((d,v)::env) ds h' AW R):ER P main S f n ops (⟨some d,.call {callee:=.value x,args,argTypes:=FL},ty,pos,af,g⟩::l) k env ds h δ R:=
 gQ hw hd hx ha My hc (by rintro _ _ _ ⟨rfl,rfl,rfl⟩;exact hn)
theorem Bx{x:Operand}{args:Array Operand}{FL:Array TypeId}{c:FuncId}{cap ws:Array Value}{vs:List Value}[AT P c]{v:Value}{h':Hp}{AW:Ix Γ}(ew:(Al ops env g,Nat.blt d n,ev env x,Pq env args.toList,vs.toArray++cap)=(some true,true,some (.func (.func c) #[] cap),some vs,ws))(hc:AY P main S c ws h δ (CJ (Gb v h' AW)))(hn:ER P main S f n ops l k ((d,v)::env) ds h' AW R):ER P main S f n ops (⟨some d,.call {callee:=.value x,args,argTypes:=FL},ty,pos,af,g⟩::l) k env ds h δ R:=by
 simp only [Prod.mk.injEq]at ew
 exact sr ew.1 ew.2.1 ew.2.2.1 ew.2.2.2.1 ew.2.2.2.2 hc hn
theorem so{c:FuncId}{cap args ws:Array Value}[AT P c]{v:Value}{h':Hp}{AW:Ix Γ}(My:args++cap=ws)(hc:AY P main S c ws h δ (CJ (Gb v h' AW)))
  (hn:EU P main S f n .returning env ds h' AW R):EU P main S f n .returning env ({target:=.fn (.func c) cap,args:=args}::ds) h δ R:=
 ss My hc (by rintro _ _ _ ⟨rfl,rfl,rfl⟩;exact hn)
theorem El{v:Value}{h':Hp}{AW:Ix Γ}:CJ (Gb v h' AW) (.ret v) h' AW:=⟨rfl,rfl,rfl⟩
theorem B1{σ:Type}(E:σ->Env)(I:σ->Hp->Ix Γ->Prop)(μ:σ->Nat){body:Code}(s0:σ)(hE:Nu (E s0) env)(hI:I s0 h δ)
  (ko:∀s h δ,I s h δ->(∀s' h' AW,μ s'<μ s->I s' h' AW->EK P main S f n (.inLoop body::k) (E s') ds h' AW R)->EK P main S f n (.code body:: .inLoop body::k) (E s) ds h δ R):
  EK P main S f n (.code (.loop body)::k) env ds h δ R:=by
 have key:∀m s h δ,μ s<m->I s h δ->EK P main S f n (.code body:: .inLoop body::k) (E s) ds h δ R:=by
  intro m
  induction m with
  | zero=>intro s h δ hm;omega
  | succ m ih=>
   intro s h δ hm hI
   exact ko s h δ hI fun s' h' AW Cg pD=>tQ (ih s' h' AW (by omega) pD)
 exact jx hE (iA (key (μ s0+1) s0 h δ (by omega) hI))
theorem i64_in{x:Int}(h1:-9223372036854775808<=x)(h2:x<=9223372036854775807):IntKind.i64.wrap x=x:=by
 simp only [IntKind.wrap,IntKind.signed,IntKind.bits]
 simp
 omega
theorem i32_in{x:Int}(h1:-2147483648<=x)(h2:x<=2147483647):IntKind.i32.wrap x=x:=by
 simp only [IntKind.wrap,IntKind.signed,IntKind.bits]
 simp
 omega
end
end
section
open Go Go.Conc
variable{Γ:Type}
section
variable{P:Program}{main:Bool}{S:Cp Γ}{f:FuncId}{n:Nat}{k:List Item}{R:Cv Γ}{ops:Array Oper}{Z:Hp->Prop}{z:Nat}
def UL(P:Program)(main:Bool)(S:Cp Γ)(f:FuncId)(c:List PanicEntry)(ds:List Deferred)(R:Cv Γ)(h:Hp)(δ:Ix Γ):Prop:=
 ∀a:Act,a.defers=ds->WU P main S f (.panicking c) a h δ R
def YY(P:Program)(main:Bool)(S:Cp Γ)(f:FuncId)(R:Cv Γ)(K:Act->Hp->Ix Γ->Prop)(a:Act)(dst:Option Tmp):Next->Hp->Ix Γ->Prop
 | .value v,h,δ=>K (a.put dst v) h δ
 | .skip,h,δ=>K (a.put dst undef) h δ
 | .enter g args,h,δ=>AY P main S g args h δ fun
   | .ret v,h',AW=>K (a.put dst v) h' AW
   | .Rh c,h',AW=>UL P main S f c a.defers R h' AW
 | _,_,_=>False
def NV(P:Program)(main:Bool)(S:Cp Γ)(f:FuncId)(R:Cv Γ)(ops:Array Oper)(i:Nat)(K:Act->Hp->Ix Γ->Prop)(a:Act)(h:Hp)(δ:Ix Γ):Prop:=
 match ops[i]? with
 | none=>False
 | some o=>if Region.wanted o (yielded ops a.tmps)=true then
   Aj P S (execOp a.eval o) h δ (YY P main S f R K a o.dst) (fun v h' AW=>UL P main S f [{v,recovered:=false}] a.defers R h' AW)
  else K (a.put o.dst undef) h δ
theorem NV.mono{i:Nat}{K K':Act->Hp->Ix Γ->Prop}{a:Act}{h:Hp}{δ:Ix Γ}(hk:∀a h δ,K a h δ->K' a h δ)(hh:NV P main S f R ops i K a h δ):NV P main S f R ops i K' a h δ:=by
 unfold NV at *
 split
 ·rename_i hn;simp only [hn]at hh
 ·rename_i o ho
  simp only [ho]at hh
  split
  ·rename_i hw
   simp only [hw,if_true]at hh
   refine HH _ _ _ hh (fun nx h δ hx=>?_) (fun _ _ _ x=>x)
   cases nx <;> first|exact hk _ _ _ hx|exact hx.elim|skip
   refine AY.mono hx ?_
   rintro(v|c) h' AW y
   ·exact hk _ _ _ y
   ·exact y
  ·rename_i hw
   simp only [hw]at hh
   exact hk _ _ _ hh
def NN(P:Program)(main:Bool)(S:Cp Γ)(f:FuncId)(k:List Item)(R:Cv Γ)(ops:Array Oper)(Z:Hp->Prop)(z:Nat):Nat->Array Bool->Act->Hp->Ix Γ->Prop
 | 0,listed,a,h,δ=>Region.ready .any ops listed=[]/\WK P main S f k a h δ R
 | m+1,listed,a,h,δ=>(Region.ready .any ops listed=[]->WK P main S f k a h δ R)/\
   ∀i∈Region.ready .any ops listed,NV P main S f R ops i (fun a' h' AW=>(i=z\/Z h')/\NN P main S f k R ops Z z m (listed.setIfInBounds i true) a' h' AW) a h δ
theorem NV.sound{i:Nat}{rest:List Nat}{a:Act}{h:Hp}{δ:Ix Γ}(hh:NV P main S f R ops i (fun a' h' AW=>WK P main S f (.inRegion ops rest::k) a' h' AW R) a h δ):WK P main S f (.inRegion ops (i::rest)::k) a h δ R:=by
 unfold NV at hh
 split at hh
 ·exact hh.elim
 ·rename_i o ho
  split at hh
  ·rename_i hw
   refine WK.op ho hw (HH _ _ _ hh (fun nx h δ hx=>?_) (fun v h δ hx=>hx a rfl))
   cases nx <;> first|exact hx|exact hx.elim|skip
   refine AY.mono hx ?_
   rintro(v|c) h' AW y
   ·exact y
   ·exact y a rfl
  ·rename_i hw
   exact qm ho (by simpa using hw) hh
theorem NN.sound:∀(m t:Nat) (listed:Array Bool) (a:Act) (h:Hp) (δ:Ix Γ),NN P main S f k R ops Z z m listed a h δ->
  WK P main S f (.inRegion ops (Region.linearise.go .any ops m t listed [])::k) a h δ R:=by
 intro m
 induction m with
 | zero=>intro t listed a h δ hh;simpa [Region.linearise.go]using jy hh.2
 | succ m ih=>
  intro t listed a h δ hh
  obtain⟨h0,h1⟩:=hh
  simp only [Region.linearise.go]
  change WK P main S f (.inRegion ops (match (Region.ready .any ops listed)[t % (Region.ready .any ops listed).length]? with
   | some i=>Region.linearise.go .any ops m (t / (Region.ready .any ops listed).length) (listed.setIfInBounds i true) [i]
   | none=>[].reverse)::k) a h δ R
  cases hi:(Region.ready .any ops listed)[t % (Region.ready .any ops listed).length]? with
  | none=>
   have yq:Region.ready .any ops listed=[]:=by
    cases hr:Region.ready .any ops listed with
    | nil=>rfl
    | cons x xs=>
     rw [hr]at hi
     have Cg:t % (x::xs).length<(x::xs).length:=Nat.mod_lt _ (by simp)
     simp at hi
     simp at Cg
     omega
   simpa using jy (h0 yq)
  | some i=>
   simp only []
   rw [linearise_go_acc,List.reverse_singleton,List.singleton_append]
   exact NV.sound (NV.mono (fun a h δ x=>ih _ _ a h δ x.2) (h1 i (Fg hi)))
def N2(P:Program)(S:Cp Γ)(ops:Array Oper)(Z:Hp->Prop)(o:Oper)(v:Value)(a:Act):Prop:=
 (Region.wanted o (yielded ops a.tmps)=true/\∀h δ (Q:Next->Hp->Ix Γ->Prop) (X:Value->Hp->Ix Γ->Prop),Z h->Q (.value v) h δ->Aj P S (execOp a.eval o) h δ Q X)\/
 (Region.wanted o (yielded ops a.tmps)=false/\v=undef)
theorem N2.opK{i:Nat}{o:Oper}{v:Value}{a:Act}(hi:ops[i]?=some o)(hy:N2 P S ops Z o v a){K:Act->Hp->Ix Γ->Prop}{h:Hp}{δ:Ix Γ}(hZ:Z h)(hk:K (a.put o.dst v) h δ):NV P main S f R ops i K a h δ:=by
 unfold NV
 simp only [hi]
 rcases hy with⟨hw,hv⟩|⟨hw,rfl⟩
 ·rw [if_pos hw]
  exact hv h δ _ _ hZ hk
 ·rw [if_neg (by simp [hw])]
  exact hk
theorem N2.same{o:Oper}{v:Value}{a a':Act}(hy:N2 P S ops Z o v a)(he:execOp a'.eval o=execOp a.eval o)
  (hw:Region.wanted o (yielded ops a'.tmps)=Region.wanted o (yielded ops a.tmps)):N2 P S ops Z o v a':=by
 unfold N2 at *
 rw [he,hw]
 exact hy
theorem put_defers(a:Act)(d:Option Tmp)(v:Value):(a.put d v).defers=a.defers:=by cases d <;> rfl
theorem NV.put{j:Nat}{oi oj:Oper}{v:Value}(hj:ops[j]?=some oj)(Xf:oi.apart ops oj=true)(hsi:∀cs b,oi.op≠ .select cs b)(hsj:∀cs b,oj.op≠ .select cs b)
  {K:Act->Hp->Ix Γ->Prop} {a:Act} {h:Hp} {δ:Ix Γ} (hy:N2 P S ops Z oi v a) (hh:NV P main S f R ops j K (a.put oi.dst v) h δ):
  NV P main S f R ops j (fun a' h' AW=>N2 P S ops Z oi v a'/\K (a'.put oi.dst v) h' AW) a h δ:=by
 obtain⟨h1,h2,h3⟩:=Oper.apart_spec Xf
 have keep:∀(a:Act),N2 P S ops Z oi v a->∀u,N2 P S ops Z oi v (a.put oj.dst u):=fun a hy u=>
  hy.same (execOp_put oi hsi a oj.dst u h3) (wanted_put oi a oj.dst u h3)
 unfold NV at *
 simp only [hj]at *
 rw [wanted_put oj a oi.dst v h1]at hh
 split
 ·rename_i hw
  simp only [hw,if_true]at hh
  rw [execOp_put oj hsj a oi.dst v h1]at hh
  refine HH _ _ _ hh (fun nx h δ hx=>?_) (fun x h δ hx=>by rw [put_defers]at hx;exact hx)
  cases nx <;> simp only [YY]at hx⊢
  case value u=>exact⟨keep a hy u,by rw [<-Act.put_comm a v u h2];exact hx⟩
  case skip=>exact⟨keep a hy _,by rw [<-Act.put_comm a v undef h2];exact hx⟩
  case enter g args=>
   refine AY.mono hx ?_
   rintro(u|c) h' AW y
   ·exact⟨keep a hy u,by rw [<-Act.put_comm a v u h2];exact y⟩
   ·dsimp only at y⊢
    rw [put_defers]at y
    exact y
 ·rename_i hw
  simp only [hw]at hh
  exact⟨keep a hy _,by rw [<-Act.put_comm a v undef h2];exact hh⟩
def Region.pinned(ops:Array Oper)(z i:Nat):Bool:=match ops[z]? with
 | none=>true
 | some o=>(i==z)||o.after.any fun e=>Region.binds .any e&&e.on==i
theorem NN.first{i:Nat}{oi:Oper}{v:Value}(hi:ops[i]?=some oi)(qO:∀(j:Nat) (o:Oper) cs b,ops[j]?=some o->o.op≠ .select cs b)(cU:TJ.Region.pinned ops z i=true):
  ∀(m:Nat) (listed:Array Bool) (a:Act) (h:Hp) (δ:Ix Γ),
   (∀j oj,ops[j]?=some oj->j≠i->listed.getD j true=false->(∀e∈oj.after,Region.binds .any e=true->e.on≠i)->oi.apart ops oj=true)->
   i∈Region.ready .any ops listed->N2 P S ops Z oi v a->Z h->
   NN P main S f k R ops Z z m (listed.setIfInBounds i true) (a.put oi.dst v) h δ->NN P main S f k R ops Z z (m+1) listed a h δ:=by
 intro m
 induction m with
 | zero=>
  intro listed a h δ _ hr hy hZ H
  refine⟨fun x=>(by rw [x]at hr;cases hr),fun j hj=>?_⟩
  by_cases M9:j=i
  ·subst M9;exact hy.opK hi hZ ⟨.inr hZ,H⟩
  ·have:=ready_mono hj M9
   rw [H.1]at this
   cases this
 | succ m ih=>
  intro listed a h δ YP hr hy hZ H
  refine⟨fun x=>(by rw [x]at hr;cases hr),fun j hj=>?_⟩
  by_cases M9:j=i
  ·subst M9;exact hy.opK hi hZ ⟨.inr hZ,H⟩
  ·have h1:=H.2 j (ready_mono hj M9)
   obtain⟨qV,oj,tx,Tu⟩:=mem_ready.1 hj
   have qR:∀e∈oj.after,Region.binds .any e=true->e.on≠i:=fun e he hb heq=>by
    have g1:=Tu e he hb
    have g0:=(mem_ready.1 hr).1
    rw [heq]at g1
    rcases EM i listed.size with h'|h'
    ·simp [h']at g0 g1;rw [g0]at g1;cases g1
    ·simp [Array.getElem?_eq_none h']at g1
   have hjz:j≠z:=fun e=>by
    subst e
    unfold TJ.Region.pinned at cU
    rw [tx]at cU
    simp only [Bool.or_eq_true,beq_iff_eq]at cU
    rcases cU with x|x
    ·exact M9 x.symm
    ·obtain⟨q,hq,hb⟩:=Array.any_eq_true.1 x
     simp only [Bool.and_eq_true,beq_iff_eq]at hb
     exact qR _ (Array.getElem_mem hq) hb.1 hb.2
   have h2:=NV.put tx (YP j oj tx M9 qV qR) (fun cs b=>qO i oi cs b hi) (fun cs b=>qO j oj cs b tx) hy h1
   have ku:∀k ok,ops[k]?=some ok->k≠i->(listed.setIfInBounds j true).getD k true=false->
     (∀e∈ok.after,Region.binds .any e=true->e.on≠i)->oi.apart ops ok=true:=fun k ok hk hki hun G7=>by
    refine YP k ok hk hki ?_ G7
    by_cases hjk:j=k
    ·subst hjk;exact qV
    ·rw [getD_set_ne true hjk]at hun;exact hun
   refine NV.mono (fun a' h' AW h3=>⟨h3.2.1,ih (listed.setIfInBounds j true) a' h' AW ku (ready_mono hr (Ne.symm M9)) h3.1 (h3.2.1.resolve_left hjz) ?_⟩) h2
   rw [Array.setIfInBounds_comm _ _ M9]
   exact h3.2.2
def EA(P:Program)(main:Bool)(S:Cp Γ)(f:FuncId)(n:Nat)(ops:Array Oper)(Z:Hp->Prop)(z:Nat)(m:Nat)(listed:Array Bool)(k:List Item)(env:Env)(ds:List Deferred)(h:Hp)(δ:Ix Γ)(R:Cv Γ):Prop:=
 ∀a,Kn n env ds a->NN P main S f k R ops Z z m listed a h δ
class SV (P:Program):Prop where
 out:P.follows .mixedOrders=true
variable{env:Env}{ds:List Deferred}{h:Hp}{δ:Ix Γ}
theorem D7[hm:SV P]{id:Nat}(Z:Hp->Prop)(z:Nat)(hw:EA P main S f n ops Z z ops.size (Array.replicate ops.size false) k env ds h δ R):EK P main S f n (.code (.region id ops true)::k) env ds h δ R:=by
 intro a ka
 refine zj fun t=>?_
 have e:Region.schedule (P.follows .mixedOrders) ops t=Region.linearise.go .any ops ops.size t (Array.replicate ops.size false) []:=by
  simp only [Region.schedule,hm.out,Bool.true_or,if_true]
  rfl
 rw [e]
 exact NN.sound ops.size t _ a h δ (hw a ka)
theorem BO[SV P]{id:Nat}(Z:Hp->Prop)(hw:EA P main S f n ops Z 1000000 ops.size (Array.replicate ops.size false) k env ds h δ R):EK P main S f n (.code (.region id ops true)::k) env ds h δ R:=D7 Z 1000000 hw
def Ct(ops:Array Oper)(listed:Array Bool)(z i:Nat):Bool:=(Region.noSelect ops&&TJ.Region.pinned ops z i)&&(Region.free .any ops listed i&&(Region.ready .any ops listed).contains i)
theorem Sb{ops:Array Oper}{listed:Array Bool}{z i:Nat}(h:Ct ops listed z i=true):(Region.noSelect ops&&TJ.Region.pinned ops z i)=true/\Region.free .any ops listed i=true/\(Region.ready .any ops listed).contains i=true:=
 ⟨(Bool.and_eq_true_iff.1 h).1,Bool.and_eq_true_iff.1 (Bool.and_eq_true_iff.1 h).2⟩
theorem Fz(i:Nat){d:Nat}{op:Op}{ty:TypeId}{pos:String}{af:Array Edge}{g:Option (Nat×Bool)}{m:Nat}{listed l':Array Bool}{v:Value}
  (hi:ops[i]?=some ⟨some d,op,ty,pos,af,g⟩) (hs:Ct ops listed z i=true) (hl:listed.setIfInBounds i true=l')
  (hd:Nat.blt d n=true) (hw:Al ops env g=some true)
  (hy:∀(ρ:Operand->Value) (h:Hp) (δ:Ix Γ) (Q:Next->Hp->Ix Γ->Prop) (X:Value->Hp->Ix Γ->Prop),(∀x v,ev env x=some v->ρ x=v)->Z h->Q (.value v) h δ->Aj P S (execOp ρ ⟨some d,op,ty,pos,af,g⟩) h δ Q X) (hZ:Z h)
  (hn:EA P main S f n ops Z z m l' k ((d,v)::env) ds h δ R):EA P main S f n ops Z z (m+1) listed k env ds h δ R:=by
 obtain⟨hs,hf,hr⟩:=Sb hs
 subst hl
 intro a ka
 refine NN.first hi (Region.noSelect_spec (Bool.and_eq_true_iff.1 hs).1) (Bool.and_eq_true_iff.1 hs).2 m listed a h δ (Region.free_spec hi hf) (by simpa using hr) (.inl ⟨CN ka (o:=⟨some d,op,ty,pos,af,g⟩) hw,fun h δ Q X hZ hq=>hy a.eval h δ Q X (fun x v hx=>ka.eval hx) hZ hq⟩) hZ ?_
 exact hn _ (ka.put v hd)
theorem sm(i:Nat){d:Nat}{op:Op}{ty:TypeId}{pos:String}{af:Array Edge}{g:Option (Nat×Bool)}{m:Nat}{listed l':Array Bool}
  (hi:ops[i]?=some ⟨some d,op,ty,pos,af,g⟩) (hs:Ct ops listed z i=true) (hl:listed.setIfInBounds i true=l')
  (hd:Nat.blt d n=true) (hw:Al ops env g=some false) (hZ:Z h)
  (hn:EA P main S f n ops Z z m l' k ((d,undef)::env) ds h δ R):EA P main S f n ops Z z (m+1) listed k env ds h δ R:=by
 obtain⟨hs,hf,hr⟩:=Sb hs
 subst hl
 intro a ka
 refine NN.first hi (Region.noSelect_spec (Bool.and_eq_true_iff.1 hs).1) (Bool.and_eq_true_iff.1 hs).2 m listed a h δ (Region.free_spec hi hf) (by simpa using hr) (.inr ⟨CN ka (o:=⟨some d,op,ty,pos,af,g⟩) hw,rfl⟩) hZ ?_
 exact hn _ (ka.put undef hd)
theorem BB(i:Nat){d:Nat}{op:Op}{ty:TypeId}{pos:String}{af:Array Edge}{g:Option (Nat×Bool)}{m:Nat}{listed l':Array Bool}(hZ:Z h)(hn:EA P main S f n ops Z z m l' k ((d,undef)::env) ds h δ R)(hi:ops[i]?=some ⟨some d,op,ty,pos,af,g⟩:=by exact rfl)(hs:Ct ops listed z i=true:=by kernel_rfl)(hl:listed.setIfInBounds i true=l':=by exact rfl)(hd:Nat.blt d n=true:=by exact rfl)(hw:Al ops env g=some false:=by exact rfl):EA P main S f n ops Z z (m+1) listed k env ds h δ R:=sm i hi hs hl hd hw hZ hn
theorem P8(i:Nat){o:Oper}{m:Nat}{listed l':Array Bool}(hi:ops[i]?=some o)(hr:Region.ready .any ops listed=[i])(hl:listed.setIfInBounds i true=l')
  (hw:Al ops env o.guard=some true)
  (hs:∀(a:Act),Kn n env ds a->Aj P S (execOp a.eval o) h δ (YY P main S f R (fun a' h' AW=>(i=z\/Z h')/\NN P main S f k R ops Z z m l' a' h' AW) a o.dst) (fun v h' AW=>UL P main S f [{v,recovered:=false}] ds R h' AW)):
  EA P main S f n ops Z z (m+1) listed k env ds h δ R:=by
 subst hl
 intro a ka
 refine⟨fun x=>(by rw [x]at hr;cases hr),fun j hj=>?_⟩
 rw [hr]at hj
 have:j=i:=by simpa using hj
 subst this
 unfold NV
 simp only [hi]
 rw [if_pos (CN ka hw),ka.defers]
 exact hs a ka
theorem sj{m:Nat}{listed:Array Bool}(hr:Region.ready .any ops listed=[])(hw:EK P main S f n k env ds h δ R):EA P main S f n ops Z z m listed k env ds h δ R:=by
 intro a ka
 cases m with
 | zero=>exact⟨hr,hw a ka⟩
 | succ m=>exact⟨fun _=>hw a ka,by rw [hr];simp⟩
theorem BF{m:Nat}{listed:Array Bool}(hw:EK P main S f n k env ds h δ R)(hr:Region.ready .any ops listed=[]:=by kernel_rfl):EA P main S f n ops Z z m listed k env ds h δ R:=sj hr hw
theorem Bj(i:Nat){d:Nat}{x:Operand}{args:Array Operand}{FL:Array TypeId}{ty:TypeId}{pos:String}{af:Array Edge}{g:Option (Nat×Bool)}{m:Nat}{listed l':Array Bool}{c:FuncId}{cap ws:Array Value}{vs:List Value}[AT P c]{Q:Value->Hp->Ix Γ->Prop}
  (hi:ops[i]?=some ⟨some d,.call {callee:=.value x,args,argTypes:=FL},ty,pos,af,g⟩) (hr:Region.ready .any ops listed=[i]) (hl:listed.setIfInBounds i true=l') (hd:Nat.blt d n=true)
  (hw:Al ops env g=some true) (hx:ev env x=some (.func (.func c) #[] cap)) (ha:Pq env args.toList=some vs) (My:vs.toArray++cap=ws) (hc:AY P main S c ws h δ (CJ Q))
  (hn:∀v h' AW,Q v h' AW->Z h'/\EA P main S f n ops Z z m l' k ((d,v)::env) ds h' AW R):EA P main S f n ops Z z (m+1) listed k env ds h δ R:=by
 subst My
 refine P8 i hi hr hl hw fun a ka=>?_
 refine HI rfl (ka.eval hx) (C4 (fun x v hx=>ka.eval hx) ha) (hc.mono ?_)
 rintro(v|p) h' AW hq
 ·exact⟨.inr (hn v h' AW hq).1,(hn v h' AW hq).2 _ (ka.put v hd)⟩
 ·exact hq.elim
theorem FE(i:Nat){d:Nat}{x:Operand}{args:Array Operand}{FL:Array TypeId}{ty:TypeId}{pos:String}{af:Array Edge}{g:Option (Nat×Bool)}{m:Nat}{listed l':Array Bool}{c:FuncId}{cap ws:Array Value}{vs:List Value}[AT P c]{v:Value}{h':Hp}{AW:Ix Γ}
  (hi:ops[i]?=some ⟨some d,.call {callee:=.value x,args,argTypes:=FL},ty,pos,af,g⟩) (hr:Region.ready .any ops listed=[i]) (hl:listed.setIfInBounds i true=l') (hd:Nat.blt d n=true)
  (hw:Al ops env g=some true) (hx:ev env x=some (.func (.func c) #[] cap)) (ha:Pq env args.toList=some vs) (My:vs.toArray++cap=ws) (hc:AY P main S c ws h δ (CJ (Gb v h' AW))) (hZ:Z h')
  (hn:EA P main S f n ops Z z m l' k ((d,v)::env) ds h' AW R):EA P main S f n ops Z z (m+1) listed k env ds h δ R:=
 Bj i hi hr hl hd hw hx ha My hc (by rintro _ _ _ ⟨rfl,rfl,rfl⟩;exact⟨hZ,hn⟩)
theorem sg(i:Nat){d:Nat}{op:Op}{ty:TypeId}{pos:String}{af:Array Edge}{g:Option (Nat×Bool)}{m:Nat}{listed l':Array Bool}{v:Value}{h':Hp}
  (hi:ops[i]?=some ⟨some d,op,ty,pos,af,g⟩) (hr:Region.ready .any ops listed=[i]) (hl:listed.setIfInBounds i true=l') (hd:Nat.blt d n=true) (hw:Al ops env g=some true)
  (hs:∀(ρ:Operand->Value) (Q:Next->Hp->Ix Γ->Prop) (X:Value->Hp->Ix Γ->Prop),(∀x v,ev env x=some v->ρ x=v)->Q (.value v) h' δ->Aj P S (execOp ρ ⟨some d,op,ty,pos,af,g⟩) h δ Q X) (hZ:Z h')
  (hn:EA P main S f n ops Z z m l' k ((d,v)::env) ds h' δ R):EA P main S f n ops Z z (m+1) listed k env ds h δ R:=by
 refine P8 i hi hr hl hw fun a ka=>?_
 exact hs a.eval _ _ (fun x v hx=>ka.eval hx) ⟨.inr hZ,hn _ (ka.put v hd)⟩
theorem CQ(i:Nat){d:Nat}{op:Op}{ty:TypeId}{pos:String}{af:Array Edge}{g:Option (Nat×Bool)}{m:Nat}{listed l':Array Bool}{v:Value}{h':Hp}(ew:(ops[i]?,listed.setIfInBounds i true,Nat.blt d n,Al ops env g)=(some ⟨some d,op,ty,pos,af,g⟩,l',true,some true))(hr:Region.ready .any ops listed=[i])(hs:∀(ρ:Operand->Value) (Q:Next->Hp->Ix Γ->Prop) (X:Value->Hp->Ix Γ->Prop),(∀x v,ev env x=some v->ρ x=v)->Q (.value v) h' δ->Aj P S (execOp ρ ⟨some d,op,ty,pos,af,g⟩) h δ Q X)(hZ:Z h')(hn:EA P main S f n ops Z z m l' k ((d,v)::env) ds h' δ R):EA P main S f n ops Z z (m+1) listed k env ds h δ R:=by
 simp only [Prod.mk.injEq]at ew
 exact sg i ew.1 hr ew.2.1 ew.2.2.1 ew.2.2.2 hs hZ hn
theorem Fy(i:Nat){op:Op}{ty:TypeId}{pos:String}{af:Array Edge}{g:Option (Nat×Bool)}{m:Nat}{listed l':Array Bool}{h':Hp}
  (hi:ops[i]?=some ⟨none,op,ty,pos,af,g⟩) (hr:Region.ready .any ops listed=[i]) (hl:listed.setIfInBounds i true=l') (hw:Al ops env g=some true)
  (hs:∀(ρ:Operand->Value) (Q:Next->Hp->Ix Γ->Prop) (X:Value->Hp->Ix Γ->Prop),(∀x v,ev env x=some v->ρ x=v)->Q .skip h' δ->Aj P S (execOp ρ ⟨none,op,ty,pos,af,g⟩) h δ Q X) (hZ:Z h')
  (hn:EA P main S f n ops Z z m l' k env ds h' δ R):EA P main S f n ops Z z (m+1) listed k env ds h δ R:=by
 refine P8 i hi hr hl hw fun a ka=>?_
 exact hs a.eval _ _ (fun x v hx=>ka.eval hx) ⟨.inr hZ,hn _ ⟨ka.size,ka.defers,ka.knows⟩⟩
theorem D6(i:Nat){op:Op}{ty:TypeId}{pos:String}{af:Array Edge}{g:Option (Nat×Bool)}{m:Nat}{listed l':Array Bool}{h':Hp}
  (hi:ops[i]?=some ⟨none,op,ty,pos,af,g⟩) (hr:Region.ready .any ops listed=[i]) (hl:listed.setIfInBounds i true=l') (hw:Al ops env g=some true) (hz:i=z)
  (hs:∀(ρ:Operand->Value) (Q:Next->Hp->Ix Γ->Prop) (X:Value->Hp->Ix Γ->Prop),(∀x v,ev env x=some v->ρ x=v)->Q .skip h' δ->Aj P S (execOp ρ ⟨none,op,ty,pos,af,g⟩) h δ Q X)
  (hn:EA P main S f n ops Z z m l' k env ds h' δ R):EA P main S f n ops Z z (m+1) listed k env ds h δ R:=by
 refine P8 i hi hr hl hw fun a ka=>?_
 exact hs a.eval _ _ (fun x v hx=>ka.eval hx) ⟨.inl hz,hn _ ⟨ka.size,ka.defers,ka.knows⟩⟩
end
end
section
open Go Go.Conc
variable{Γ:Type}
section
variable{P:Program}{S:Cp Γ}{h:Hp}{δ:Ix Γ}{ρ:Operand->Value}{dst:Option Nat}{ty:TypeId}{pos:String}{af:Array Edge}{g:Option (Nat×Bool)}{Q:Next->Hp->Ix Γ->Prop}{X:Value->Hp->Ix Γ->Prop}
theorem Ji{x:Operand}{v:Value}(hx:ρ x=v)(hq:Q (.value v) h δ):Aj P S (execOp ρ ⟨dst,.move x,ty,pos,af,g⟩) h δ Q X:=by
 show Q (.value (ρ x)) h δ;rw [hx];exact hq
theorem Ee{x:Operand}{v:Value}(hx:ρ x=v)(hq:Q (.value v) h δ):Aj P S (execOp ρ ⟨dst,.assign x,ty,pos,af,g⟩) h δ Q X:=by
 show Q (.value (ρ x)) h δ;rw [hx];exact hq
theorem BY{x:Operand}{a:Addr}(hx:ρ x= .pointer (some a))(hq:Q (.value (.pointer (some a))) h δ):Aj P S (execOp ρ ⟨dst,.nilCheck x,ty,pos,af,g⟩) h δ Q X:=by
 unfold execOp;simp only [hx];exact hq
theorem Ce{s Jw off:Nat}[AO P s Jw off]{x:Operand}{b o:Nat}(hx:ρ x= .pointer (some ⟨b,o,none⟩))(hq:Q (.value (.pointer (some ⟨b,o+off,none⟩))) h δ):Aj P S (execOp ρ ⟨dst,.fieldAddr s x Jw,ty,pos,af,g⟩) h δ Q X:=by
 show Aj P S (Instr.fieldAt s (ρ x) Jw >>= fun v=>pure (.value v)) h δ Q X
 rw [hx]
 exact AM _ _ _ _ _ _ (L6 hq)
theorem EB{t:TypeId}[DU P t]{x:Operand}{a:Addr}{v:Value}(hx:ρ x= .pointer (some a))(hc:AF h a=some v)(hq:Q (.value v) h δ):Aj P S (execOp ρ ⟨dst,.load t x,ty,pos,af,g⟩) h δ Q X:=by
 show Aj P S ((Instr.sureAddr (ρ x) >>= fun a=>loadVar t a) >>= fun v=>pure (.value v)) h δ Q X
 rw [hx]
 exact AM _ _ _ _ _ _ (A1 (Kh hc hq))
theorem WQ{t m:Nat}[FP P t m]{x:Operand}{b o:Nat}{vs:List Value}(hx:ρ x= .pointer (some ⟨b,o,none⟩))(hm:vs.length=m)(hc:A0 h b o vs)(hq:Q (.value (.agg vs.toArray)) h δ):Aj P S (execOp ρ ⟨dst,.load t x,ty,pos,af,g⟩) h δ Q X:=by
 show Aj P S ((Instr.sureAddr (ρ x) >>= fun a=>loadVar t a) >>= fun v=>pure (.value v)) h δ Q X
 rw [hx]
 exact AM _ _ _ _ _ _ (A1 (Kg hm hc hq))
theorem BG{t:TypeId}[DU P t]{x y:Operand}{b o:Nat}{v:Value}(hx:ρ x= .pointer (some ⟨b,o,none⟩))(hy:ρ y=v)(hv:OneCell v)
  (hc:∃u,AF h ⟨b,o,none⟩=some u) (hf:Bf h ⟨b,o,none⟩=false) (hS:¬S.still δ.g ⟨b,o,none⟩) (hq:Q .skip (Af h ⟨b,o,none⟩ v) δ):Aj P S (execOp ρ ⟨dst,.store t x y,ty,pos,af,g⟩) h δ Q X:=by
 show Aj P S ((Instr.sureAddr (ρ x) >>= fun a=>storeVar t a (ρ y)) >>= fun _=>pure .skip) h δ Q X
 rw [hx,hy]
 exact AM _ _ _ _ _ _ (A1 (Jr hv hc hf hS hq))
theorem B6{t m:Nat}[FP P t m]{x y:Operand}{b o:Nat}{vs:List Value}(hx:ρ x= .pointer (some ⟨b,o,none⟩))(hy:ρ y= .agg vs.toArray)(hm:vs.length=m)(hv:∀v∈vs,OneCell v)
  (hc:∀j,j<m->(∃u,AF h ⟨b,o+j,none⟩=some u)/\Bf h ⟨b,o+j,none⟩=false/\¬S.still δ.g ⟨b,o+j,none⟩) (hq:Q .skip (Cm h b o vs) δ):Aj P S (execOp ρ ⟨dst,.store t x y,ty,pos,af,g⟩) h δ Q X:=by
 show Aj P S ((Instr.sureAddr (ρ x) >>= fun a=>storeVar t a (ρ y)) >>= fun _=>pure .skip) h δ Q X
 rw [hx,hy]
 exact AM _ _ _ _ _ _ (A1 (Jq hm hv hc hq))
theorem Sg{x:Operand}{b:Bool}{t:TypeId}(hx:ρ x= .bool b)(hq:Q (.value (.bool (!b))) h δ):Aj P S (execOp ρ ⟨dst,.unOp .not t x,ty,pos,af,g⟩) h δ Q X:=by
 show Aj P S (Op.unary .not (ρ x) >>= fun v=>pure (.value v)) h δ Q X
 rw [hx]
 exact hq
theorem OV{op:BinOp}{t t2:TypeId}{x y:Operand}{kd:IntKind}{a b:Int}{v:Value}(hx:ρ x= .int kd a)(hy:ρ y= .int kd b)(hv:binOp op t (.int kd a) (.int kd b)=pure v)(hq:Q (.value v) h δ):
  Aj P S (execOp ρ ⟨dst,.binOp op t x y t2,ty,pos,af,g⟩) h δ Q X:=E2 (by
  rw [hx,hy,Mr,hv]
  exact hq)
theorem dP{t t2:TypeId}{x y:Operand}{kd:IntKind}{a b r:Int}(hx:ρ x= .int kd a)(hy:ρ y= .int kd b)(hr:kd.wrap (a+b)=r)(hq:Q (.value (.int kd r)) h δ):
  Aj P S (execOp ρ ⟨dst,.binOp .add t x y t2,ty,pos,af,g⟩) h δ Q X:=OV hx hy (by rw [binOp_add,hr]) hq
theorem dM{t t2:TypeId}{x y:Operand}{kd:IntKind}{a b r:Int}(hx:ρ x= .int kd a)(hy:ρ y= .int kd b)(hr:kd.wrap (a-b)=r)(hq:Q (.value (.int kd r)) h δ):
  Aj P S (execOp ρ ⟨dst,.binOp .sub t x y t2,ty,pos,af,g⟩) h δ Q X:=OV hx hy (by rw [binOp_sub,hr]) hq
theorem Ls{c x y:Operand}{b:Bool}{v:Value}(hc:ρ c= .bool b)(hx:(if b then ρ x else ρ y)=v)(hq:Q (.value v) h δ):Aj P S (execOp ρ ⟨dst,.pick c x y,ty,pos,af,g⟩) h δ Q X:=by
 show Aj P S (asBool (ρ c) >>= fun b=>pure (.value (if b then ρ x else ρ y))) h δ Q X
 rw [hc]
 show Q (.value (if b then ρ x else ρ y)) h δ
 rw [hx];exact hq
theorem YU(b o n:Nat):(⟨b,o,none⟩:Addr).add n=⟨b,o+n,none⟩:=add_eq b o n
theorem Pd{t len e sz C9:Nat}{z:Value}[u:Es P t (.array len e)][i:Cw P e sz C9 z]{b o:Nat}{kd:IntKind}{ix:Int}(h0:0<=ix)(h1:ix<len){Q:Value->Hp->Ix Γ->Prop}{X:Value->Hp->Ix Γ->Prop}
  (hq:Q (.pointer (some ⟨b,o+ix.toNat*sz,none⟩)) h δ):Aj P S (Instr.indexAt t (.pointer (some ⟨b,o,none⟩)) (.int kd ix)) h δ Q X:=by
 unfold Instr.indexAt
 refine A1 ?_
 refine An u.out ?_
 show Aj P S (underlying t >>= _) h δ Q X
 refine An u.out ?_
 obtain⟨inf,g1,g2,g3,g4⟩:=i.get
 show Aj P S (if 0<=ix/\ix<len then _ else _) h δ Q X
 rw [if_pos ⟨h0,h1⟩]
 refine Cb g1 ?_
 rw [g2,YU]
 exact hq
theorem Rc{t e sz C9 len cap:Nat}{z:Value}[u:Es P t (.slice e)][i:Cw P e sz C9 z]{b o:Nat}{kd:IntKind}{ix:Int}(h0:0<=ix)(h1:ix<len){Q:Value->Hp->Ix Γ->Prop}{X:Value->Hp->Ix Γ->Prop}
  (hq:Q (.pointer (some ⟨b,o+ix.toNat*sz,none⟩)) h δ):Aj P S (Instr.indexAt t (.slice (some ⟨b,o,none⟩) len cap) (.int kd ix)) h δ Q X:=by
 unfold Instr.indexAt
 refine A1 ?_
 refine An u.out ?_
 show Aj P S (underlying t >>= _) h δ Q X
 refine An u.out ?_
 obtain⟨inf,g1,g2,g3,g4⟩:=i.get
 show Aj P S (if 0<=ix/\ix<len then _ else _) h δ Q X
 rw [if_pos ⟨h0,h1⟩]
 refine Cb g1 ?_
 rw [g2,YU]
 exact hq
theorem L4{t len e sz C9:Nat}{z:Value}[Es P t (.array len e)][Cw P e sz C9 z]{x y:Operand}{b o:Nat}{kd:IntKind}{ix:Int}(hx:ρ x= .pointer (some ⟨b,o,none⟩))(hy:ρ y= .int kd ix)(h0:0<=ix)(h1:ix<len)
  (hq:Q (.value (.pointer (some ⟨b,o+ix.toNat*sz,none⟩))) h δ):Aj P S (execOp ρ ⟨dst,.indexAddr t x y,ty,pos,af,g⟩) h δ Q X:=by
 show Aj P S (Instr.indexAt t (ρ x) (ρ y) >>= fun v=>pure (.value v)) h δ Q X
 rw [hx,hy]
 exact AM _ _ _ _ _ _ (Pd h0 h1 hq)
theorem E4{t e sz C9 len cap:Nat}{z:Value}[Es P t (.slice e)][Cw P e sz C9 z]{x y:Operand}{b o:Nat}{kd:IntKind}{ix:Int}(hx:ρ x= .slice (some ⟨b,o,none⟩) len cap)(hy:ρ y= .int kd ix)(h0:0<=ix)(h1:ix<len)
  (hq:Q (.value (.pointer (some ⟨b,o+ix.toNat*sz,none⟩))) h δ):Aj P S (execOp ρ ⟨dst,.indexAddr t x y,ty,pos,af,g⟩) h δ Q X:=by
 show Aj P S (Instr.indexAt t (ρ x) (ρ y) >>= fun v=>pure (.value v)) h δ Q X
 rw [hx,hy]
 exact AM _ _ _ _ _ _ (Rc h0 h1 hq)
theorem Fq{b:Builtin}{args:Array Operand}{FL:Array TypeId}{vs:Array Value}(ha:args.map ρ=vs)(hq:∀cs,Aj P S (builtin b FL ty cs vs) h δ Q X):
  Aj P S (execOp ρ ⟨dst,.call {callee:=.builtin b,args,argTypes:=FL},ty,pos,af,g⟩) h δ Q X:=by
 show Aj P S (resolve ρ {callee:=.builtin b,args,argTypes:=FL} ty >>= fun d=>invoke d.target d.args) h δ Q X
 unfold resolve
 dsimp only
 rw [ha]
 exact hq _
theorem QL{x:Operand}{t e:TypeId}{FL:Array TypeId}[u:Es P t (.slice e)]{a:Option Addr}{len cap:Nat}(Gp:FL[0]?=some t)(hx:ρ x= .slice a len cap)(hq:Q (.value (.int .i64 len)) h δ):
  Aj P S (execOp ρ ⟨dst,.call {callee:=.builtin .len,args:=#[x],argTypes:=FL},ty,pos,af,g⟩) h δ Q X:=by
 refine Fq (vs:=#[.slice a len cap]) (by simp [hx]) fun cs=>?_
 show Aj P S (Builtin.len_ FL ty #[.slice a len cap] >>= fun v=>pure (.value v)) h δ Q X
 refine AM _ _ _ _ _ _ ?_
 unfold Builtin.len_
 simp only [Gp]
 show Aj P S (underlying t >>= _) h δ _ X
 exact An u.out hq
theorem dN{x y:Operand}{FL:Array TypeId}{kd:IntKind}{a b r:Int}(hx:ρ x= .int kd a)(hy:ρ y= .int kd b)(hr:(if b<a then b else a)=r)(hq:Q (.value (.int kd r)) h δ):
  Aj P S (execOp ρ ⟨dst,.call {callee:=.builtin .min,args:=#[x,y],argTypes:=FL},ty,pos,af,g⟩) h δ Q X:=by
 subst hr
 exact Fq (vs:=#[.int kd a,.int kd b]) (by simp [hx,hy]) fun cs=>hq
theorem dO{x y:Operand}{FL:Array TypeId}{kd:IntKind}{a b r:Int}(hx:ρ x= .int kd a)(hy:ρ y= .int kd b)(hr:(if b > a then b else a)=r)(hq:Q (.value (.int kd r)) h δ):
  Aj P S (execOp ρ ⟨dst,.call {callee:=.builtin .max,args:=#[x,y],argTypes:=FL},ty,pos,af,g⟩) h δ Q X:=by
 subst hr
 exact Fq (vs:=#[.int kd a,.int kd b]) (by simp [hx,hy]) fun cs=>hq
end
section
variable{P:Program}{main:Bool}{S:Cp Γ}{f:FuncId}{n:Nat}{k:List Item}{env:Env}{ds:List Deferred}{h:Hp}{δ:Ix Γ}{R:Cv Γ}
variable{ops:Array Oper}{l:List Oper}{d:Nat}{ty:TypeId}{pos:String}{af:Array Edge}{g:Option (Nat×Bool)}
theorem P7{t len e sz C9:Nat}{z:Value}[Es P t (.array len e)][Cw P e sz C9 z]{x y:Operand}{b o:Nat}{kd:IntKind}{ix:Int}(hw:Al ops env g=some true)(hd:Nat.blt d n=true)(hx:ev env x=some (.pointer (some ⟨b,o,none⟩)))(hy:ev env y=some (.int kd ix))(h0:0<=ix)(h1:ix<len)
  (hn:ER P main S f n ops l k ((d,.pointer (some ⟨b,o+ix.toNat*sz,none⟩))::env) ds h δ R):ER P main S f n ops (⟨some d,.indexAddr t x y,ty,pos,af,g⟩::l) k env ds h δ R:=
 DW hw hd (fun _ _ _ Aa hq=>L4 (Aa _ _ hx) (Aa _ _ hy) h0 h1 hq) hn
theorem gP{t e sz C9 len cap:Nat}{z:Value}[Es P t (.slice e)][Cw P e sz C9 z]{x y:Operand}{b o:Nat}{kd:IntKind}{ix:Int}(hw:Al ops env g=some true)(hd:Nat.blt d n=true)(hx:ev env x=some (.slice (some ⟨b,o,none⟩) len cap))(hy:ev env y=some (.int kd ix))(h0:0<=ix)(h1:ix<len)
  (hn:ER P main S f n ops l k ((d,.pointer (some ⟨b,o+ix.toNat*sz,none⟩))::env) ds h δ R):ER P main S f n ops (⟨some d,.indexAddr t x y,ty,pos,af,g⟩::l) k env ds h δ R:=
 DW hw hd (fun _ _ _ Aa hq=>E4 (Aa _ _ hx) (Aa _ _ hy) h0 h1 hq) hn
theorem Cd{t e sz C9 len cap:Nat}{z:Value}[Es P t (.slice e)][Cw P e sz C9 z]{x y:Operand}{b o:Nat}{kd:IntKind}{ix:Int}(hn:ER P main S f n ops l k ((d,.pointer (some ⟨b,o+ix.toNat*sz,none⟩))::env) ds h δ R)(hw:Al ops env g=some true:=by exact rfl)(hd:Nat.blt d n=true:=by exact rfl)(hx:ev env x=some (.slice (some ⟨b,o,none⟩) len cap):=by exact rfl)(hy:ev env y=some (.int kd ix):=by exact rfl)(h0:0<=ix:=by omega)(h1:ix<len:=by omega):ER P main S f n ops (⟨some d,.indexAddr t x y,ty,pos,af,g⟩::l) k env ds h δ R:=gP hw hd hx hy h0 h1 hn
theorem se{x:Operand}{t e:TypeId}{FL:Array TypeId}[Es P t (.slice e)]{a:Option Addr}{len cap:Nat}(hw:Al ops env g=some true)(hd:Nat.blt d n=true)(Gp:FL[0]?=some t)(hx:ev env x=some (.slice a len cap))
  (hn:ER P main S f n ops l k ((d,.int .i64 len)::env) ds h δ R):ER P main S f n ops (⟨some d,.call {callee:=.builtin .len,args:=#[x],argTypes:=FL},ty,pos,af,g⟩::l) k env ds h δ R:=
 DW hw hd (fun _ _ _ Aa hq=>QL Gp (Aa _ _ hx) hq) hn
theorem VK{x y:Operand}{FL:Array TypeId}{kd:IntKind}{a b r:Int}(hw:Al ops env g=some true)(hd:Nat.blt d n=true)(hx:ev env x=some (.int kd a))(hy:ev env y=some (.int kd b))(hr:(if b<a then b else a)=r)
  (hn:ER P main S f n ops l k ((d,.int kd r)::env) ds h δ R):ER P main S f n ops (⟨some d,.call {callee:=.builtin .min,args:=#[x,y],argTypes:=FL},ty,pos,af,g⟩::l) k env ds h δ R:=
 DW hw hd (fun _ _ _ Aa hq=>dN (Aa _ _ hx) (Aa _ _ hy) hr hq) hn
theorem gO{x y:Operand}{FL:Array TypeId}{kd:IntKind}{a b r:Int}(hw:Al ops env g=some true)(hd:Nat.blt d n=true)(hx:ev env x=some (.int kd a))(hy:ev env y=some (.int kd b))(hr:(if b > a then b else a)=r)
  (hn:ER P main S f n ops l k ((d,.int kd r)::env) ds h δ R):ER P main S f n ops (⟨some d,.call {callee:=.builtin .max,args:=#[x,y],argTypes:=FL},ty,pos,af,g⟩::l) k env ds h δ R:=
 DW hw hd (fun _ _ _ Aa hq=>dO (Aa _ _ hx) (Aa _ _ hy) hr hq) hn
theorem LO{b off:Nat}{w:World}:∀(vs:List Value) (i:Nat) (acc:Array Value) (es:Array Event),(∀(j:Nat) (v:Value),vs[j]?=some v->AF w.heap ⟨b,off+i+j,none⟩=some v)->
  ∃Ps,(loadCellsFrom ⟨b,off,none⟩ i vs.length acc).runT P w es=(.ok (acc++vs.toArray) w,es++Ps)/\∀e∈Ps,∃a,e=(⟨.cell a,false,false⟩:Event):=by
 intro vs
 induction vs with
 | nil=>intro i acc es _;exact⟨#[],by simp [loadCellsFrom],by simp⟩
 | cons v vs ih=>
  intro i acc es hr
  have h0:w.cell? ⟨b,off+i,none⟩=some v:=hr 0 v rfl
  obtain⟨Ps,h1,h2⟩:=ih (i+1) (acc.push v) (es.push ⟨.cell ⟨b,off+i,none⟩,false,false⟩) (fun j x hx=>by
   have:=hr (j+1) x hx
   rw [show off+(i+1)+j=off+i+(j+1) by omega];exact this)
  refine⟨#[⟨.cell ⟨b,off+i,none⟩,false,false⟩]++Ps,?_,fun e he=>?_⟩
  ·simp only [List.length_cons,loadCellsFrom]
   change Sem.runT P (Sem.load .plain ((⟨b,off,none⟩:Addr).add i) fun v=>loadCellsFrom ⟨b,off,none⟩ (i+1) vs.length (acc.push v)) w es=_
   rw [YU]
   simp only [Sem.runT,h0]
   have e1:((Mode.plain==Mode.atomic):Bool)=false:=rfl
   rw [e1,h1,(Array.push_eq_append:es.push _=_),Array.append_assoc]
   simp
  ·rcases Array.mem_append.1 he with x|x
   ·simp at x;exact⟨_,x⟩
   ·exact h2 e x
theorem MS{α β:Type}(s:Sem α)(f:α->Sem β):∀(w w':World) (es Ps:Array Event) (a:α),s.runT P w es=(.ok a w',Ps)->(Sem.bind s f).runT P w es=(f a).runT P w' Ps:=by
 intro w w' es Ps a hs
 have h1:=congrArg Prod.fst hs
 have h2:=congrArg Prod.snd hs
 simp only [Sem.runT_eq]at h1 h2⊢
 have e1:(Sem.bind s f)=(s >>= f):=rfl
 rw [e1]
 simp [h1,h2,Result.andThen,Result.evThen]
theorem Kk{t m:Nat}[s:FP P t m]{b off:Nat}{vs:List Value}{w:World}(hm:vs.length=m)(hr:A0 w.heap b off vs)(es:Array Event):
  ∃Ps,(loadVar t ⟨b,off,none⟩).runT P w es=(.ok (.agg vs.toArray) w,es++Ps)/\∀e∈Ps,∃a,e=(⟨.cell a,false,false⟩:Event):=by
 obtain⟨d,hu,hd,inf,hi,Ey⟩:=s.out
 obtain⟨Ps,h1,h2⟩:=LO (P:=P) (w:=w) (b:=b) (off:=off) vs 0 #[] es (fun j v hv=>by simpa using hr j v hv)
 refine⟨Ps,?_,h2⟩
 have hA:Sem.runT P (isAgg t) w es=(.ok true w,es):=by
  unfold isAgg underlying
  change Sem.runT P (Sem.bind (Sem.bind (Sem.program Sem.pure) _) _) w es=_
  simp only [Sem.bind,Sem.runT,hu]
  cases d <;> first|rfl|cases hd
 have hZ:Sem.runT P (sizeOf t) w es=(.ok m w,es):=by
  unfold sizeOf typeInfo
  change Sem.runT P (Sem.bind (Sem.bind (Sem.program Sem.pure) _) _) w es=_
  simp only [Sem.bind,Sem.runT,hi]
  subst Ey
  rfl
 unfold loadVar
 change Sem.runT P (Sem.bind (isAgg t) _) w es=_
 rw [MS _ _ _ _ _ _ _ hA]
 simp only [if_true]
 change Sem.runT P (Sem.bind (sizeOf t) _) w es=_
 rw [MS _ _ _ _ _ _ _ hZ]
 change Sem.runT P (Sem.bind (loadCells ⟨b,off,none⟩ m) fun c=>Sem.pure (Value.agg c)) w es=_
 unfold loadCells
 rw [<-hm,MS _ _ _ _ _ _ _ h1]
 simp [Sem.runT]
theorem O7{fn:Func}{tmps:Array Value}{t:Tmp}{cT m:Nat}{u:Tmp}[FP P cT m]{b off:Nat}{vs:List Value}{x:Value}(hr:fn.results=#[.cell t cT,.tmp u])(ht:tmps.getD t undef= .pointer (some ⟨b,off,none⟩))(hm:vs.length=m)(hc:A0 h b off vs)
  (hx:tmps.getD u undef=x):Reads P fn tmps h (.tuple #[.agg vs.toArray,x]):=by
 intro w hw
 subst hw
 obtain⟨Ps,h1,h2⟩:=Kk (P:=P) (t:=cT) hm hc #[]
 refine⟨Ps,?_,h2⟩
 have e1:Sem.run P (loadVar cT ⟨b,off,none⟩) w= .ok (.agg vs.toArray) w:=by simpa using congrArg Prod.fst h1
 have e2:Sem.events P (loadVar cT ⟨b,off,none⟩) w #[]=Ps:=by simpa using congrArg Prod.snd h1
 have ha:asAddr (.pointer (some ⟨b,off,none⟩))=pure ⟨b,off,none⟩:=rfl
 have aM:tmps[t]?.getD undef= .pointer (some ⟨b,off,none⟩):=by rw [<-ht,Array.getD_eq_getD_getElem?]
 have LU:tmps[u]?.getD undef=x:=by rw [<-hx,Array.getD_eq_getD_getElem?]
 simp [results,hr,aM,LU,ha,e1,e2,Result.andThen]
theorem Ll{fn:Func}{t u:Tmp}{cT m:Nat}[FP P cT m]{b off:Nat}{vs:List Value}{x:Value}[hf:BC P f fn](hr:fn.results=#[.cell t cT,.tmp u])(ht:look env t=some (.pointer (some ⟨b,off,none⟩)))(hm:vs.length=m)(hc:A0 h b off vs)
  (hx:look env u=some x) (hR:R (.ret (.tuple #[.agg vs.toArray,x])) h δ):EU P main S f n .returning env [] h δ R:=
 fun _ ka=>WU.V7 ka.defers hf.out (O7 hr (Ds ka ht) hm hc (Ds ka hx)) hR
end
section
variable{P:Program}{main:Bool}{S:Cp Γ}{f:FuncId}{n:Nat}{k:List Item}{env:Env}{ds:List Deferred}{h:Hp}{δ:Ix Γ}{R:Cv Γ}
variable{ops:Array Oper}{d:Nat}{ty:TypeId}{pos:String}{af:Array Edge}{g:Option (Nat×Bool)}{Z:Hp->Prop}{zz:Nat}{m:Nat}{listed l':Array Bool}
theorem sZ(i:Nat){x:Operand}{v:Value}(hi:ops[i]?=some ⟨some d,.move x,ty,pos,af,g⟩)(hs:Ct ops listed zz i=true)(hl:listed.setIfInBounds i true=l')
  (hd:Nat.blt d n=true) (hw:Al ops env g=some true) (hx:ev env x=some v) (hZ:Z h)
  (hn:EA P main S f n ops Z zz m l' k ((d,v)::env) ds h δ R):EA P main S f n ops Z zz (m+1) listed k env ds h δ R:=
 Fz i hi hs hl hd hw (fun _ _ _ _ _ Aa _ hq=>Ji (Aa _ _ hx) hq) hZ hn
theorem AU(i:Nat){x:Operand}{v:Value}(hZ:Z h)(hn:EA P main S f n ops Z zz m l' k ((d,v)::env) ds h δ R)(hi:ops[i]?=some ⟨some d,.move x,ty,pos,af,g⟩:=by exact rfl)(hs:Ct ops listed zz i=true:=by kernel_rfl)(hl:listed.setIfInBounds i true=l':=by exact rfl)(hd:Nat.blt d n=true:=by exact rfl)(hw:Al ops env g=some true:=by exact rfl)(hx:ev env x=some v:=by exact rfl):EA P main S f n ops Z zz (m+1) listed k env ds h δ R:=sZ i hi hs hl hd hw hx hZ hn
theorem sX(i:Nat){x:Operand}{v:Value}(hi:ops[i]?=some ⟨some d,.assign x,ty,pos,af,g⟩)(hs:Ct ops listed zz i=true)(hl:listed.setIfInBounds i true=l')
  (hd:Nat.blt d n=true) (hw:Al ops env g=some true) (hx:ev env x=some v) (hZ:Z h)
  (hn:EA P main S f n ops Z zz m l' k ((d,v)::env) ds h δ R):EA P main S f n ops Z zz (m+1) listed k env ds h δ R:=
 Fz i hi hs hl hd hw (fun _ _ _ _ _ Aa _ hq=>Ee (Aa _ _ hx) hq) hZ hn
theorem Dp(i:Nat){x:Operand}{v:Value}(hZ:Z h)(hn:EA P main S f n ops Z zz m l' k ((d,v)::env) ds h δ R)(hi:ops[i]?=some ⟨some d,.assign x,ty,pos,af,g⟩:=by exact rfl)(hs:Ct ops listed zz i=true:=by kernel_rfl)(hl:listed.setIfInBounds i true=l':=by exact rfl)(hd:Nat.blt d n=true:=by exact rfl)(hw:Al ops env g=some true:=by exact rfl)(hx:ev env x=some v:=by exact rfl):EA P main S f n ops Z zz (m+1) listed k env ds h δ R:=sX i hi hs hl hd hw hx hZ hn
theorem sV(i:Nat){x:Operand}{a:Addr}(hi:ops[i]?=some ⟨some d,.nilCheck x,ty,pos,af,g⟩)(hs:Ct ops listed zz i=true)(hl:listed.setIfInBounds i true=l')
  (hd:Nat.blt d n=true) (hw:Al ops env g=some true) (hx:ev env x=some (.pointer (some a))) (hZ:Z h)
  (hn:EA P main S f n ops Z zz m l' k ((d,.pointer (some a))::env) ds h δ R):EA P main S f n ops Z zz (m+1) listed k env ds h δ R:=
 Fz i hi hs hl hd hw (fun _ _ _ _ _ Aa _ hq=>BY (Aa _ _ hx) hq) hZ hn
theorem BE(i:Nat){x:Operand}{a:Addr}(hZ:Z h)(hn:EA P main S f n ops Z zz m l' k ((d,.pointer (some a))::env) ds h δ R)(hi:ops[i]?=some ⟨some d,.nilCheck x,ty,pos,af,g⟩:=by exact rfl)(hs:Ct ops listed zz i=true:=by kernel_rfl)(hl:listed.setIfInBounds i true=l':=by exact rfl)(hd:Nat.blt d n=true:=by exact rfl)(hw:Al ops env g=some true:=by exact rfl)(hx:ev env x=some (.pointer (some a)):=by exact rfl):EA P main S f n ops Z zz (m+1) listed k env ds h δ R:=sV i hi hs hl hd hw hx hZ hn
theorem sU(i:Nat){s Jw off:Nat}[AO P s Jw off]{x:Operand}{b o:Nat}(hi:ops[i]?=some ⟨some d,.fieldAddr s x Jw,ty,pos,af,g⟩)(hs:Ct ops listed zz i=true)(hl:listed.setIfInBounds i true=l')
  (hd:Nat.blt d n=true) (hw:Al ops env g=some true) (hx:ev env x=some (.pointer (some ⟨b,o,none⟩))) (hZ:Z h)
  (hn:EA P main S f n ops Z zz m l' k ((d,.pointer (some ⟨b,o+off,none⟩))::env) ds h δ R):EA P main S f n ops Z zz (m+1) listed k env ds h δ R:=
 Fz i hi hs hl hd hw (fun _ _ _ _ _ Aa _ hq=>Ce (Aa _ _ hx) hq) hZ hn
theorem Ag(i:Nat){s Jw off:Nat}[AO P s Jw off]{x:Operand}{b o:Nat}(hZ:Z h)(hn:EA P main S f n ops Z zz m l' k ((d,.pointer (some ⟨b,o+off,none⟩))::env) ds h δ R)(hi:ops[i]?=some ⟨some d,.fieldAddr s x Jw,ty,pos,af,g⟩:=by exact rfl)(hs:Ct ops listed zz i=true:=by kernel_rfl)(hl:listed.setIfInBounds i true=l':=by exact rfl)(hd:Nat.blt d n=true:=by exact rfl)(hw:Al ops env g=some true:=by exact rfl)(hx:ev env x=some (.pointer (some ⟨b,o,none⟩)):=by exact rfl):EA P main S f n ops Z zz (m+1) listed k env ds h δ R:=sU i hi hs hl hd hw hx hZ hn
theorem sS(i:Nat){x:Operand}{b:Bool}{t:TypeId}(hi:ops[i]?=some ⟨some d,.unOp .not t x,ty,pos,af,g⟩)(hs:Ct ops listed zz i=true)(hl:listed.setIfInBounds i true=l')
  (hd:Nat.blt d n=true) (hw:Al ops env g=some true) (hx:ev env x=some (.bool b)) (hZ:Z h)
  (hn:EA P main S f n ops Z zz m l' k ((d,.bool (!b))::env) ds h δ R):EA P main S f n ops Z zz (m+1) listed k env ds h δ R:=
 Fz i hi hs hl hd hw (fun _ _ _ _ _ Aa _ hq=>Sg (Aa _ _ hx) hq) hZ hn
theorem KN(i:Nat){x:Operand}{b:Bool}{t:TypeId}(hZ:Z h)(hn:EA P main S f n ops Z zz m l' k ((d,.bool (!b))::env) ds h δ R)(hi:ops[i]?=some ⟨some d,.unOp .not t x,ty,pos,af,g⟩:=by exact rfl)(hs:Ct ops listed zz i=true:=by kernel_rfl)(hl:listed.setIfInBounds i true=l':=by exact rfl)(hd:Nat.blt d n=true:=by exact rfl)(hw:Al ops env g=some true:=by exact rfl)(hx:ev env x=some (.bool b):=by exact rfl):EA P main S f n ops Z zz (m+1) listed k env ds h δ R:=sS i hi hs hl hd hw hx hZ hn
theorem YT(i:Nat){t:TypeId}[DU P t]{x:Operand}{a:Addr}{v:Value}(hi:ops[i]?=some ⟨some d,.load t x,ty,pos,af,g⟩)(hs:Ct ops listed zz i=true)(hl:listed.setIfInBounds i true=l')
  (hd:Nat.blt d n=true) (hw:Al ops env g=some true) (hx:ev env x=some (.pointer (some a))) (hc:∀h,Z h->AF h a=some v) (hZ:Z h)
  (hn:EA P main S f n ops Z zz m l' k ((d,v)::env) ds h δ R):EA P main S f n ops Z zz (m+1) listed k env ds h δ R:=
 Fz i hi hs hl hd hw (fun _ _ _ _ _ Aa hz hq=>EB (Aa _ _ hx) (hc _ hz) hq) hZ hn
theorem A8(i:Nat){t:TypeId}[DU P t]{x:Operand}{a:Addr}{v:Value}(hc:∀h,Z h->AF h a=some v)(hZ:Z h)(hn:EA P main S f n ops Z zz m l' k ((d,v)::env) ds h δ R)(hi:ops[i]?=some ⟨some d,.load t x,ty,pos,af,g⟩:=by exact rfl)(hs:Ct ops listed zz i=true:=by kernel_rfl)(hl:listed.setIfInBounds i true=l':=by exact rfl)(hd:Nat.blt d n=true:=by exact rfl)(hw:Al ops env g=some true:=by exact rfl)(hx:ev env x=some (.pointer (some a)):=by exact rfl):EA P main S f n ops Z zz (m+1) listed k env ds h δ R:=YT i hi hs hl hd hw hx hc hZ hn
theorem D8(i:Nat){t:TypeId}[DU P t]{x:Operand}{a:Addr}{v:Value}(ew:(ops[i]?,listed.setIfInBounds i true,Nat.blt d n,Al ops env g,ev env x)=(some ⟨some d,.load t x,ty,pos,af,g⟩,l',true,some true,some (.pointer (some a))))(hs:Ct ops listed zz i=true)(hc:∀h,Z h->AF h a=some v)(hZ:Z h)(hn:EA P main S f n ops Z zz m l' k ((d,v)::env) ds h δ R):EA P main S f n ops Z zz (m+1) listed k env ds h δ R:=by
 simp only [Prod.mk.injEq]at ew
 exact YT i ew.1 hs ew.2.1 ew.2.2.1 ew.2.2.2.1 ew.2.2.2.2 hc hZ hn
theorem FA{h0:Hp}{t:TypeId}[DU P t]{x:Operand}{a:Addr}{v:Value}(i:Nat)(hc:AF h0 a=some v)(hZ:(fun h'=>h'=h0) h)(hn:EA P main S f n ops (fun h'=>h'=h0) zz m l' k ((d,v)::env) ds h δ R)(hi:ops[i]?=some ⟨some d,.load t x,ty,pos,af,g⟩:=by exact rfl)(hs:Ct ops listed zz i=true:=by kernel_rfl)(hl:listed.setIfInBounds i true=l':=by exact rfl)(hd:Nat.blt d n=true:=by exact rfl)(hw:Al ops env g=some true:=by exact rfl)(hx:ev env x=some (.pointer (some a)):=by exact rfl):EA P main S f n ops (fun h'=>h'=h0) zz (m+1) listed k env ds h δ R:=YT i hi hs hl hd hw hx (fun _ hz=>by rw [hz];exact hc) hZ hn
theorem EP(i:Nat){t q:Nat}[FP P t q]{x:Operand}{b o:Nat}{vs:List Value}(hi:ops[i]?=some ⟨some d,.load t x,ty,pos,af,g⟩)(hs:Ct ops listed zz i=true)(hl:listed.setIfInBounds i true=l')
  (hd:Nat.blt d n=true) (hw:Al ops env g=some true) (hx:ev env x=some (.pointer (some ⟨b,o,none⟩))) (hm:vs.length=q) (hc:∀h,Z h->A0 h b o vs) (hZ:Z h)
  (hn:EA P main S f n ops Z zz m l' k ((d,.agg vs.toArray)::env) ds h δ R):EA P main S f n ops Z zz (m+1) listed k env ds h δ R:=
 Fz i hi hs hl hd hw (fun _ _ _ _ _ Aa hz hq=>WQ (Aa _ _ hx) hm (hc _ hz) hq) hZ hn
theorem EW(i:Nat){t t2:TypeId}{x y:Operand}{kd:IntKind}{a b r:Int}(hi:ops[i]?=some ⟨some d,.binOp .add t x y t2,ty,pos,af,g⟩)(hs:Ct ops listed zz i=true)(hl:listed.setIfInBounds i true=l')
  (hd:Nat.blt d n=true) (hw:Al ops env g=some true) (hx:ev env x=some (.int kd a)) (hy:ev env y=some (.int kd b)) (oR:kd.wrap (a+b)=r) (hZ:Z h)
  (hn:EA P main S f n ops Z zz m l' k ((d,.int kd r)::env) ds h δ R):EA P main S f n ops Z zz (m+1) listed k env ds h δ R:=
 Fz i hi hs hl hd hw (fun _ _ _ _ _ Aa _ hq=>dP (Aa _ _ hx) (Aa _ _ hy) oR hq) hZ hn
theorem Kd(i:Nat){t t2:TypeId}{x y:Operand}{kd:IntKind}{a b r:Int}(hi:ops[i]?=some ⟨some d,.binOp .sub t x y t2,ty,pos,af,g⟩)(hs:Ct ops listed zz i=true)(hl:listed.setIfInBounds i true=l')
  (hd:Nat.blt d n=true) (hw:Al ops env g=some true) (hx:ev env x=some (.int kd a)) (hy:ev env y=some (.int kd b)) (oR:kd.wrap (a-b)=r) (hZ:Z h)
  (hn:EA P main S f n ops Z zz m l' k ((d,.int kd r)::env) ds h δ R):EA P main S f n ops Z zz (m+1) listed k env ds h δ R:=
 Fz i hi hs hl hd hw (fun _ _ _ _ _ Aa _ hq=>dM (Aa _ _ hx) (Aa _ _ hy) oR hq) hZ hn
theorem UJ(i:Nat){op:BinOp}{t t2:TypeId}{x y:Operand}{kd:IntKind}{a b:Int}{v:Value}(hi:ops[i]?=some ⟨some d,.binOp op t x y t2,ty,pos,af,g⟩)(hs:Ct ops listed zz i=true)(hl:listed.setIfInBounds i true=l')
  (hd:Nat.blt d n=true) (hw:Al ops env g=some true) (hx:ev env x=some (.int kd a)) (hy:ev env y=some (.int kd b)) (hv:binOp op t (.int kd a) (.int kd b)=pure v) (hZ:Z h)
  (hn:EA P main S f n ops Z zz m l' k ((d,v)::env) ds h δ R):EA P main S f n ops Z zz (m+1) listed k env ds h δ R:=
 Fz i hi hs hl hd hw (fun _ _ _ _ _ Aa _ hq=>OV (Aa _ _ hx) (Aa _ _ hy) hv hq) hZ hn
theorem MN(i:Nat){t len e sz C9:Nat}{z:Value}[Es P t (.array len e)][Cw P e sz C9 z]{x y:Operand}{b o:Nat}{kd:IntKind}{ix:Int}(hi:ops[i]?=some ⟨some d,.indexAddr t x y,ty,pos,af,g⟩)(hs:Ct ops listed zz i=true)(hl:listed.setIfInBounds i true=l')
  (hd:Nat.blt d n=true) (hw:Al ops env g=some true) (hx:ev env x=some (.pointer (some ⟨b,o,none⟩))) (hy:ev env y=some (.int kd ix)) (h0:0<=ix) (h1:ix<len) (hZ:Z h)
  (hn:EA P main S f n ops Z zz m l' k ((d,.pointer (some ⟨b,o+ix.toNat*sz,none⟩))::env) ds h δ R):EA P main S f n ops Z zz (m+1) listed k env ds h δ R:=
 Fz i hi hs hl hd hw (fun _ _ _ _ _ Aa _ hq=>L4 (Aa _ _ hx) (Aa _ _ hy) h0 h1 hq) hZ hn
theorem mL(i:Nat){t e sz C9 len cap:Nat}{z:Value}[Es P t (.slice e)][Cw P e sz C9 z]{x y:Operand}{b o:Nat}{kd:IntKind}{ix:Int}(hi:ops[i]?=some ⟨some d,.indexAddr t x y,ty,pos,af,g⟩)(hs:Ct ops listed zz i=true)(hl:listed.setIfInBounds i true=l')
  (hd:Nat.blt d n=true) (hw:Al ops env g=some true) (hx:ev env x=some (.slice (some ⟨b,o,none⟩) len cap)) (hy:ev env y=some (.int kd ix)) (h0:0<=ix) (h1:ix<len) (hZ:Z h)
  (hn:EA P main S f n ops Z zz m l' k ((d,.pointer (some ⟨b,o+ix.toNat*sz,none⟩))::env) ds h δ R):EA P main S f n ops Z zz (m+1) listed k env ds h δ R:=
 Fz i hi hs hl hd hw (fun _ _ _ _ _ Aa _ hq=>E4 (Aa _ _ hx) (Aa _ _ hy) h0 h1 hq) hZ hn
theorem GP(i:Nat){t e sz C9 len cap:Nat}{z:Value}[Es P t (.slice e)][Cw P e sz C9 z]{x y:Operand}{b o:Nat}{kd:IntKind}{ix:Int}(hZ:Z h)(hn:EA P main S f n ops Z zz m l' k ((d,.pointer (some ⟨b,o+ix.toNat*sz,none⟩))::env) ds h δ R)(hi:ops[i]?=some ⟨some d,.indexAddr t x y,ty,pos,af,g⟩:=by exact rfl)(hs:Ct ops listed zz i=true:=by kernel_rfl)(hl:listed.setIfInBounds i true=l':=by exact rfl)(hd:Nat.blt d n=true:=by exact rfl)(hw:Al ops env g=some true:=by exact rfl)(hx:ev env x=some (.slice (some ⟨b,o,none⟩) len cap):=by exact rfl)(hy:ev env y=some (.int kd ix):=by exact rfl)(h0:0<=ix:=by omega)(h1:ix<len:=by omega):EA P main S f n ops Z zz (m+1) listed k env ds h δ R:=mL i hi hs hl hd hw hx hy h0 h1 hZ hn
theorem mK(i:Nat){x:Operand}{t e:TypeId}{FL:Array TypeId}[Es P t (.slice e)]{a:Option Addr}{len cap:Nat}(hi:ops[i]?=some ⟨some d,.call {callee:=.builtin .len,args:=#[x],argTypes:=FL},ty,pos,af,g⟩)(hs:Ct ops listed zz i=true)(hl:listed.setIfInBounds i true=l')
  (hd:Nat.blt d n=true) (hw:Al ops env g=some true) (Gp:FL[0]?=some t) (hx:ev env x=some (.slice a len cap)) (hZ:Z h)
  (hn:EA P main S f n ops Z zz m l' k ((d,.int .i64 len)::env) ds h δ R):EA P main S f n ops Z zz (m+1) listed k env ds h δ R:=
 Fz i hi hs hl hd hw (fun _ _ _ _ _ Aa _ hq=>QL Gp (Aa _ _ hx) hq) hZ hn
end
end
section
open Go Go.Conc
variable{Γ:Type}
structure AN(T:Nat->Prop)(h h':Hp):Prop where
 size:h.size<=h'.size
 same:∀b,b<h.size->¬T b->h'[b]?=h[b]?
theorem AN.refl(T:Nat->Prop)(h:Hp):AN T h h:=⟨CY _,fun _ _ _=>rfl⟩
theorem AN.trans{T:Nat->Prop}{a b c:Hp}(x:AN T a b)(y:AN T b c):AN T a c:=
 ⟨Dt x.size y.size,fun i hi hT=>(y.same i (F0 hi x.size) hT).trans (x.same i hi hT)⟩
theorem AN.mono{T T':Nat->Prop}{a b:Hp}(x:AN T a b)(h:∀i,i<a.size->T i->T' i):AN T' a b:=
 ⟨x.size,fun i hi hT=>x.same i hi fun t=>hT (h i hi t)⟩
theorem AN.push{T:Nat->Prop}(h:Hp)(o:Obj):AN T h (h.push o):=⟨by simp,fun b hb _=>by rw [Array.getElem?_push_lt hb,Array.getElem?_eq_getElem hb]⟩
theorem AN.set{T:Nat->Prop}(h:Hp)(b:Nat)(o:Obj)(hT:T b):AN T h (h.setIfInBounds b o):=
 ⟨by simp,fun i _ hi=>Array.getElem?_setIfInBounds_ne (fun e:b=i=>hi (e▸hT))⟩
theorem AN.Af{T:Nat->Prop}(h:Hp)(a:Addr)(v:Value)(hT:T a.block):AN T h (Af h a v):=
 ⟨by rw [IK];exact CY _,fun i _ hi=>Cq h a v (fun e:a.block=i=>hi (e▸hT))⟩
theorem AN.get{T:Nat->Prop}{h h':Hp}(x:AN T h h'){b:Nat}{o:Obj}(hb:h[b]?=some o)(hT:¬T b):h'[b]?=some o:=by
 have:b<h.size:=by
  rcases EM b h.size with y|y
  ·exact y
  ·simp [Array.getElem?_eq_none y]at hb
 rw [x.same b this hT,hb]
theorem AN.AF{T:Nat->Prop}{h h':Hp}(x:AN T h h'){a:Addr}{v:Value}(hc:AF h a=some v)(hT:¬T a.block):AF h' a=some v:=by
 obtain⟨c,e,f,hb,hs,hv⟩:=DG hc
 unfold TJ.AF
 rw [x.get hb hT]
 simp [hs,hv]
theorem Ap{h:Hp}{b:Nat}{o:Obj}(hb:h[b]?=some o):b<h.size:=by
 rcases EM b h.size with y|y
 ·exact y
 ·simp [Array.getElem?_eq_none y]at hb
theorem AJ{h:Hp}{b:Nat}{o o':Obj}(hb:h[b]?=some o):(h.setIfInBounds b o')[b]?=some o':=
 Kf (Ap hb)
theorem AX{h:Hp}{b i:Nat}(o':Obj)(B7:b≠i):(h.setIfInBounds b o')[i]?=h[i]?:=G5 B7
theorem AG(h:Hp)(o:Obj):(h.push o)[h.size]?=some o:=by simp
theorem CB{h:Hp}{b:Nat}(o':Obj){a:Addr}(B7:b≠a.block):AF (h.setIfInBounds b o') a=AF h a:=by
 unfold AF;rw [AX o' B7]
theorem A7{h:Hp}{o:Obj}{a:Addr}{v:Value}(hc:AF h a=some v):AF (h.push o) a=some v:=(AN.push (T:=fun _=>False) h o).AF hc (fun x=>x)
theorem set_set{h:Hp}{b:Nat}(o o':Obj):(h.setIfInBounds b o).setIfInBounds b o'=h.setIfInBounds b o':=by
 simp
theorem CC(h:Hp)(o o':Obj):(h.push o).setIfInBounds h.size o'=h.push o':=by
 apply Array.ext_getElem?
 intro i
 by_cases e:h.size=i
 ·subst e;simp
 ·rw [AX _ e]
  rcases EM i h.size with y|y
  ·rw [VM y,VM y]
  ·rw [Array.getElem?_eq_none (by simp;omega),Array.getElem?_eq_none (by simp;omega)]
abbrev Fb:Cp Γ:=⟨fun _ _=>False,fun _ _ _ _=>False⟩
def up{α:Type}(f:Nat->α)(i:Nat)(x:α):Nat->α:=fun j=>if j=i then x else f j
theorem VS{α:Type}(f:Nat->α)(i:Nat)(x:α):up f i x i=x:=by simp [up]
theorem YD{α:Type}(f:Nat->α){i j:Nat}(x:α)(h:j≠i):up f i x j=f j:=by simp [up,h]
theorem Zv{h:Hp}{b:Nat}{u v x y:Value}{e:TypeId}{f:Nat×Nat}(hb:h[b]?=some (.cells #[u,v] e f)):Cm h b 0 [x,y]=h.setIfInBounds b (.cells #[x,y] e f):=by
 apply Array.ext_getElem?
 intro i
 simp only [Cm]
 rw [EG,EG]
 by_cases hi:b=i
 ·subst hi
  rw [if_pos rfl,if_pos rfl,hb,AJ hb]
  rfl
 ·simp only [if_neg hi]
  rw [AX _ hi]
abbrev Xq(v:Value)(e:TypeId):Obj:=.cells #[v] e (0,0)
theorem Sv{h:Hp}{b:Nat}{u v:Value}{e:TypeId}{f:Nat×Nat}(hb:h[b]?=some (.cells #[u] e f)):Af h ⟨b,0,none⟩ v=h.setIfInBounds b (.cells #[v] e f):=by
 apply Array.ext_getElem?
 intro i
 rw [EG]
 by_cases hi:b=i
 ·subst hi
  rw [if_pos rfl,hb,AJ hb]
  rfl
 ·rw [if_neg hi,AX _ hi]
theorem AN.over{T:Nat->Prop}{h0 h h':Hp}(x:AN (fun _=>False) h0 h)(y:AN T h h')(hT:∀b,T b->h0.size<=b):AN (fun _=>False) h0 h':=
 ⟨Dt x.size y.size,fun i hi _=>(y.same i (F0 hi x.size) fun t=>by have:=hT _ t;omega).trans (x.same i hi fun z=>z)⟩
end
section
open Go Go.Conc
variable{Γ:Type}
def OZ(P:Program):List Field->List (Nat×Nat)->Prop
 | [],[]=>True
 | f::fs,(o,s)::ps=>f.offset=o/\(∃inf,P.info? f.type=some inf/\inf.size=s)/\OZ P fs ps
 | _,_=>False
class DF (P:Program) (t:TypeId) (pl:outParam (List (Nat×Nat))):Prop where
 out:∃fields:List Field,P.underlying t=some (.struct fields.toArray)/\OZ P fields pl
theorem Ad{P:Program}{t sz C9:Nat}{z:Value}[i:Cw P t sz C9 z]:∃inf,P.info? t=some inf/\inf.size=sz:=by
 obtain⟨inf,h1,h2,_⟩:=i.get;exact⟨inf,h1,h2⟩
section
variable{P:Program}{main:Bool}{S:Cp Γ}{f:FuncId}{n:Nat}{k:List Item}{env:Env}{ds:List Deferred}{h:Hp}{δ:Ix Γ}{R:Cv Γ}
variable{ops:Array Oper}{l:List Oper}{d:Nat}{ty:TypeId}{pos:String}{af:Array Edge}{g:Option (Nat×Bool)}
theorem Mm:∀(fs:List Field) (pl:List (Nat×Nat)),OZ P fs pl->∀{Q:List (Nat×Nat)->Hp->Ix Γ->Prop} {X:Value->Hp->Ix Γ->Prop},Q pl h δ->Aj P S (fs.mapM fun f=>(do pure (f.offset,<-sizeOf f.type):Sem (Nat×Nat))) h δ Q X
 | [],[],_,Q,X,hq=>by simpa [List.mapM_nil]using (show Aj P S (pure []) h δ Q X from hq)
 | f::fs,(o,s)::ps,⟨h1,⟨inf,h2,h3⟩,h4⟩,Q,X,hq=>by
  rw [List.mapM_cons]
  refine AM _ _ _ _ _ _ ?_
  refine Cb h2 ?_
  show Aj P S (fs.mapM _ >>= _) h δ _ X
  refine AM _ _ _ _ _ _ ?_
  refine Mm fs ps h4 ?_
  show Q ((f.offset,inf.size)::ps) h δ
  rw [h1,h3];exact hq
 | [],_::_,x,_,_,_=>x.elim
 | _::_,[],x,_,_,_=>x.elim
theorem Ou{t sz C9:Nat}{z:Value}{pl:List (Nat×Nat)}[i:Cw P t sz C9 z][p:DF P t pl]{parts:Array (Nat×Value)}{cells:Array Value}{Q:Value->Hp->Ix Γ->Prop}{X:Value->Hp->Ix Γ->Prop}
  (hf:Instr.fill (fun i=>pl.toArray[i]?) z.cells parts.toList=some cells) (hq:Q (.agg cells) h δ):Aj P S (Instr.build t parts) h δ Q X:=by
 obtain⟨fields,hu,hp⟩:=p.out
 obtain⟨inf,g1,g2,g3,g4⟩:=i.get
 unfold Instr.build
 refine Cf g1 g4 ?_
 refine An hu ?_
 show Aj P S (fields.toArray.mapM _ >>= _) h δ Q X
 refine AM _ _ _ _ _ _ ?_
 rw [List.mapM_toArray]
 show Aj P S (Sem.bind (fields.mapM _) fun a=>Sem.pure a.toArray) h δ _ X
 refine AM _ _ _ _ _ _ ?_
 refine Mm fields pl hp ?_
 show Aj P S (match Instr.fill (fun i=>pl.toArray[i]?) z.cells parts.toList with|some cells=>pure (.agg cells)|_=>stuck "build: no such field, or a part of the wrong size") h δ Q X
 rw [hf]
 exact hq
def Xk(env:Env):List (Nat×Operand)->Option (List (Nat×Value))
 | []=>some []
 | (i,x)::l=>match ev env x,Xk env l with
  | some v,some vs=>some ((i,v)::vs)
  | _,_=>none
theorem OI{ρ:Operand->Value}(Aa:∀x v,ev env x=some v->ρ x=v):∀(ps:List (Nat×Operand)) (vs:List (Nat×Value)),Xk env ps=some vs->ps.map (fun p=>(p.1,ρ p.2))=vs
 | [],vs,h=>by simp only [Xk,Option.some.injEq]at h;subst h;rfl
 | (i,x)::l,vs,h=>by
  simp only [Xk]at h
  split at h
  ·rename_i v ws h1 h2
   cases h
   simp only [List.map_cons,Aa _ _ h1,OI Aa l ws h2]
  ·cases h
theorem Cr{t sz C9:Nat}{z:Value}{pl:List (Nat×Nat)}[Cw P t sz C9 z][DF P t pl]{ps:Array (Nat×Operand)}{parts:List (Nat×Value)}{cells:Array Value}(hw:Al ops env g=some true)(hd:Nat.blt d n=true)
  (hp:Xk env ps.toList=some parts) (hf:Instr.fill (fun i=>pl.toArray[i]?) z.cells parts=some cells)
  (hn:ER P main S f n ops l k ((d,.agg cells)::env) ds h δ R):ER P main S f n ops (⟨some d,.build t ps,ty,pos,af,g⟩::l) k env ds h δ R:=by
 refine tF (parts:=parts.toArray) hw hd (fun ρ Aa=>?_) (fun Q X hq=>Ou hf hq) hn
 obtain⟨ps⟩:=ps
 simp only [List.map_toArray]
 have:=OI Aa ps parts hp
 rw [<-this]
theorem Ep{t sz C9:Nat}{z:Value}{pl:List (Nat×Nat)}[Cw P t sz C9 z][DF P t pl]{ps:Array (Nat×Operand)}{parts:List (Nat×Value)}{cells:Array Value}(hn:ER P main S f n ops l k ((d,.agg cells)::env) ds h δ R)(hw:Al ops env g=some true:=by exact rfl)(hd:Nat.blt d n=true:=by exact rfl)(hp:Xk env ps.toList=some parts:=by rfl)(hf:Instr.fill (fun i=>pl.toArray[i]?) z.cells parts=some cells:=by rfl):ER P main S f n ops (⟨some d,.build t ps,ty,pos,af,g⟩::l) k env ds h δ R:=Cr hw hd hp hf hn
theorem Ah{todo:List Item}{e:Env}(hk:EK P main S f n todo e ds h δ R)(hs:Nu e env):EK P main S f n todo env ds h δ R:=jx hs hk
theorem mJ{t sz C9:Nat}{cs:Array Value}[Cw P t sz C9 (.agg cs)](hw:Al ops env g=some true)(hd:Nat.blt d n=true)
  (hn:ER P main S f n ops l k ((d,.pointer (some ⟨h.size,0,none⟩))::env) ds (h.push (.cells cs t)) δ R):ER P main S f n ops (⟨some d,.alloc t,ty,pos,af,g⟩::l) k env ds h δ R:=
 OB (z:=.agg cs) hw hd hn
theorem Cn{t sz C9:Nat}{cs:Array Value}[Cw P t sz C9 (.agg cs)](hn:ER P main S f n ops l k ((d,.pointer (some ⟨h.size,0,none⟩))::env) ds (h.push (.cells cs t)) δ R)(hw:Al ops env g=some true:=by exact rfl)(hd:Nat.blt d n=true:=by exact rfl):ER P main S f n ops (⟨some d,.alloc t,ty,pos,af,g⟩::l) k env ds h δ R:=mJ hw hd hn
theorem ET{t:Nat}[FP P t 2]{x y:Operand}{b e:Nat}{u v v1 v2:Value}{cs:Array Value}(hb:h[b]?=some (.cells #[u,v] e (0,0)))(hw:Al ops env g=some true)(hx:ev env x=some (.pointer (some ⟨b,0,none⟩)))(hy:ev env y=some (.agg cs))(Ea:cs=#[v1,v2])(h1:OneCell v1)(h2:OneCell v2)(hS:∀o,¬S.still δ.g ⟨b,o,none⟩)
  (hn:ER P main S f n ops l k env ds (h.setIfInBounds b (.cells #[v1,v2] e (0,0))) δ R):ER P main S f n ops (⟨none,.store t x y,ty,pos,af,g⟩::l) k env ds h δ R:=by
 subst Ea
 refine gZ (vs:=[v1,v2]) hw hx hy rfl (by simp [h1,h2]) (fun j hj=>⟨?_,AS hb,hS _⟩) ?_
 ·rcases j with _|_|j
  ·exact⟨_,AD hb rfl⟩
  ·exact⟨_,AD hb rfl⟩
  ·exact absurd hj (by simp)
 ·rw [Zv hb];exact hn
theorem Gh{b e:Nat}{fz:Nat×Nat}{v1 v2:Value}(hb:h[b]?=some (.cells #[v1,v2] e fz)):A0 h b 0 [v1,v2]:=fun i v hv=>by
 rcases i with _|_|i
 ·cases hv;exact AD hb rfl
 ·cases hv;exact AD hb rfl
 ·simp at hv
theorem Hw{fn:Func}{t u:Tmp}{cT b e:Nat}[FP P cT 2]{fz:Nat×Nat}{v1 v2 x:Value}[BC P f fn](hb:h[b]?=some (.cells #[v1,v2] e fz))(hr:fn.results=#[.cell t cT,.tmp u])(ht:look env t=some (.pointer (some ⟨b,0,none⟩)))
  (hx:look env u=some x) (hR:R (.ret (.tuple #[.agg #[v1,v2],x])) h δ):EU P main S f n .returning env [] h δ R:=
 Ll (vs:=[v1,v2]) hr ht rfl (Gh hb) hx hR
theorem mI{t:Nat}[DU P t]{x y:Operand}{b e:Nat}{u v:Value}(hb:h[b]?=some (.cells #[u] e (0,0)))(hw:Al ops env g=some true)(hx:ev env x=some (.pointer (some ⟨b,0,none⟩)))(hy:ev env y=some v)(hv:OneCell v)(hS:¬S.still δ.g ⟨b,0,none⟩)
  (hn:ER P main S f n ops l k env ds (h.setIfInBounds b (Xq v e)) δ R):ER P main S f n ops (⟨none,.store t x y,ty,pos,af,g⟩::l) k env ds h δ R:=
 gd hw hx hy hv ⟨_,AD hb rfl⟩ (AS hb) hS (by rw [Sv hb];exact hn)
theorem OR{t:Nat}[DU P t]{x y:Operand}{e:Nat}{z u v:Value}{h0:Hp}(hw:Al ops env g=some true)(hx:ev env x=some (.pointer (some ⟨h0.size,0,none⟩)))(hy:ev env y=some v)(hz:z.cells=#[u])(hv:OneCell v)(hS:¬S.still δ.g ⟨h0.size,0,none⟩)
  (hn:ER P main S f n ops l k env ds (h0.push (Xq v e)) δ R):ER P main S f n ops (⟨none,.store t x y,ty,pos,af,g⟩::l) k env ds (h0.push (.cells z.cells e)) δ R:=by
 have hb:(h0.push (.cells z.cells e))[h0.size]?=some (.cells #[u] e (0,0)):=by rw [AG,hz]
 exact mI hb hw hx hy hv hS (by rw [CC];exact hn)
theorem ZD{t:Nat}[FP P t 2]{x y:Operand}{e:Nat}{u1 u2 v1 v2:Value}{cs:Array Value}{h0:Hp}(hw:Al ops env g=some true)(hx:ev env x=some (.pointer (some ⟨h0.size,0,none⟩)))(hy:ev env y=some (.agg cs))(Ea:cs=#[v1,v2])(h1:OneCell v1)(h2:OneCell v2)(hS:∀o,¬S.still δ.g ⟨h0.size,o,none⟩)
  (hn:ER P main S f n ops l k env ds (h0.push (.cells #[v1,v2] e)) δ R):ER P main S f n ops (⟨none,.store t x y,ty,pos,af,g⟩::l) k env ds (h0.push (.cells #[u1,u2] e)) δ R:=
 ET (AG _ _) hw hx hy Ea h1 h2 hS (by rw [CC];exact hn)
theorem mH{fn:Fn}{first cap:Array Operand}{fl cl:List Value}{fv cv:Array Value}(hw:Al ops env g=some true)(hd:Nat.blt d n=true)(hf:Pq env first.toList=some fl)(hc:Pq env cap.toList=some cl)(uO:fl.toArray=fv)(Vx:cl.toArray=cv)
  (hn:ER P main S f n ops l k ((d,.func fn fv cv)::env) ds h δ R):ER P main S f n ops (⟨some d,.makeFunc fn first cap,ty,pos,af,g⟩::l) k env ds h δ R:=
 SN hw hd (fun _ Aa=>⟨(C4 Aa hf).trans uO,(C4 Aa hc).trans Vx⟩) hn
end
end
section
open Go Go.Conc
variable{Γ:Type}
class T6 (P:Program) (t:TypeId) (k1 k2:outParam IntKind):Prop where
 out:P.stoodInHeld t=false/\P.eqGuardType P.depth t=false/\∃f1 f2:Field,P.underlying t=some (.struct #[f1,f2])/\f1.name≠ "_" /\f2.name≠ "_" /\f1.offset=0/\f2.offset=1/\P.underlying f1.type=some (.int k1)/\P.underlying f2.type=some (.int k2)
section
variable{P:Program}{main:Bool}{S:Cp Γ}{f:FuncId}{n:Nat}{k:List Item}{env:Env}{ds:List Deferred}{h:Hp}{δ:Ix Γ}{R:Cv Γ}
variable{ops:Array Oper}{l:List Oper}{d:Nat}{ty:TypeId}{pos:String}{af:Array Edge}{g:Option (Nat×Bool)}
theorem CG{t:TypeId}{kd:IntKind}{cs:Array Value}{o:Nat}{v:Value}(hu:P.underlying t=some (.int kd))(hv:cs[o]?=some v){Q:Value->Hp->Ix Γ->Prop}{X:Value->Hp->Ix Γ->Prop}(hq:Q v h δ):Aj P S (part t cs o) h δ Q X:=by
 unfold part isAgg
 refine AM _ _ _ _ _ _ ?_
 refine An hu ?_
 simp only [hv]
 exact hq
theorem Ef{dd:Nat}{t:TypeId}{kd:IntKind}{a b:Int}(hu:P.underlying t=some (.int kd)){Q:Bool->Hp->Ix Γ->Prop}{X:Value->Hp->Ix Γ->Prop}(hq:Q (a==b) h δ):Aj P S (Op.equalIn (dd+1) t (.int kd a) (.int kd b)) h δ Q X:=by
 unfold Op.equalIn
 refine An hu ?_
 simp only
 rw [if_pos trivial]
 exact hq
theorem QO{t:TypeId}{k1 k2:IntKind}[e:T6 P t k1 k2]{a1 a2 b1 b2:Int}{Q:Bool->Hp->Ix Γ->Prop}{X:Value->Hp->Ix Γ->Prop}(hq:Q (a1==b1&&a2==b2) h δ):
  Aj P S (Op.equal t (.agg #[.int k1 a1,.int k2 a2]) (.agg #[.int k1 b1,.int k2 b2])) h δ Q X:=by
 obtain⟨hs,-,f1,f2,hu,uI,mr,wq,bX,bJ,Ti⟩:=e.out
 unfold Op.equal Op.maxDepth Op.equalIn
 refine An hu ?_
 simp only
 change Aj P S (Sem.bind (Sem.program Sem.pure) _) h δ Q X
 simp only [Sem.bind,Aj,hs]
 rw [if_neg (by simp)]
 rw [<-Array.forIn_toList]
 simp only [List.forIn_cons,List.forIn_nil,uI,mr,wq,bX,ne_eq,not_false_eq_true,if_true]
 refine AM _ _ _ _ _ _ (AM _ _ _ _ _ _ (AM _ _ _ _ _ _ (CG bJ rfl (AM _ _ _ _ _ _ (CG bJ rfl (AM _ _ _ _ _ _ (Ef (dd:=9998) bJ ?_)))))))
 by_cases h1:a1=b1
 ·rw [beq_iff_eq.mpr h1]at hq⊢
  simp only [Bool.not_true,Bool.false_eq_true,if_false]
  refine EV (Q:=_) ?_
  simp only
  refine AM _ _ _ _ _ _ (AM _ _ _ _ _ _ (CG Ti rfl (AM _ _ _ _ _ _ (CG Ti rfl (AM _ _ _ _ _ _ (Ef (dd:=9998) Ti ?_))))))
  by_cases h2:a2=b2
  ·rw [beq_iff_eq.mpr h2]at hq⊢
   exact hq
  ·rw [beq_eq_false_iff_ne.mpr h2]at hq⊢
   exact hq
 ·rw [beq_eq_false_iff_ne.mpr h1]at hq⊢
  exact hq
theorem Ms{op:BinOp}{t:TypeId}{k1 k2:IntKind}[e:T6 P t k1 k2]{x y:Operand}{a b:Array Value}{Q:Unit->Hp->Ix Γ->Prop}{X:Value->Hp->Ix Γ->Prop}(hq:Q () h δ):Aj P S (eqGuard op t x y (.agg a) (.agg b)) h δ Q X:=by
 obtain⟨-,hg,-⟩:=e.out
 unfold eqGuard
 have key : Aj P S (do if !(← program).eqGuardType (← program).depth t then return
                       if <-Op.eqGuardIn Op.maxDepth t (.agg a) (.agg b)then unsupported (.noEntry "binop/eql: two nil values of an interface type with methods, in a part of a struct or an array")) h δ Q X:=by
  change Aj P S (Sem.bind (Sem.program Sem.pure) fun p=>Sem.bind (Sem.program Sem.pure) fun q=>if(!p.eqGuardType q.depth t)=true then _ else _) h δ Q X
  simp only [Sem.bind,Aj,hg]
  exact hq
 cases op <;> first|exact hq|exact key
theorem mG{t t2:TypeId}{k1 k2:IntKind}[T6 P t k1 k2]{x y:Operand}{a1 a2 b1 b2:Int}{r:Bool}(hw:Al ops env g=some true)(hd:Nat.blt d n=true)(hx:ev env x=some (.agg #[.int k1 a1,.int k2 a2]))(hy:ev env y=some (.agg #[.int k1 b1,.int k2 b2]))(hr:(!(a1==b1&&a2==b2))=r)
  (hn:ER P main S f n ops l k ((d,.bool r)::env) ds h δ R):ER P main S f n ops (⟨some d,.binOp .neq t x y t2,ty,pos,af,g⟩::l) k env ds h δ R:=
 DW hw hd (fun ρ Q X Aa hq=>E2 (by
  rw [Aa x _ hx,Aa y _ hy]
  exact Ms (by
   show Aj P S (Op.equal t _ _ >>= fun b=>pure (Value.bool (!b))) h δ _ X
   exact AM _ _ _ _ _ _ (QO (by rw [<-hr]at hq;exact hq))))) hn
end
end
end Go.TJ
namespace Go.Proofs.YtfkalocplonkiaaGreat
section
open Go Go.TJ Go.Proofs
instance:Cw Tryz.prog 2 1 8 (.int .i64 0):=⟨by kernel_rfl⟩
instance:DU Tryz.prog 2:=KU Tryz.underlying2
instance:Cw Tryz.prog 3 1 8 (.int .i64 0):=⟨by kernel_rfl⟩
instance:DU Tryz.prog 3:=KU Tryz.underlying3
instance:Cw Tryz.prog 4 1 1 (.bool false):=⟨by kernel_rfl⟩
instance:Es Tryz.prog 4 (.bool):=⟨Tryz.underlying4⟩
instance:DU Tryz.prog 4:=KU Tryz.underlying4
instance:Cw Tryz.prog 21 1 4 (.int .i32 0):=⟨by kernel_rfl⟩
instance:DU Tryz.prog 21:=KU Tryz.underlying21
instance:Cw Tryz.prog 22 1 24 (.slice none 0 0):=⟨by kernel_rfl⟩
instance:Es Tryz.prog 22 (.slice 39):=⟨Tryz.underlying22⟩
instance:DU Tryz.prog 22:=KU Tryz.underlying22
instance:Cw Tryz.prog 23 1 24 (.slice none 0 0):=⟨by kernel_rfl⟩
instance:Es Tryz.prog 23 (.slice 3):=⟨Tryz.underlying23⟩
instance:DU Tryz.prog 23:=KU Tryz.underlying23
instance:Cw Tryz.prog 25 13 232 (.agg #[.slice none 0 0,.int .i64 0,.int .i64 0,.slice none 0 0,.int .i64 0,.int .i64 0,.int .i64 0,.slice none 0 0,.slice none 0 0,.slice none 0 0,.slice none 0 0,.slice none 0 0,.slice none 0 0]):=⟨by kernel_rfl⟩
instance:FP Tryz.prog 25 13:=Xl Tryz.underlying25
instance:AO Tryz.prog 25 0 0:=Cu 22 Tryz.underlying25
instance:AO Tryz.prog 25 1 1:=Cu 3 Tryz.underlying25
instance:AO Tryz.prog 25 2 2:=Cu 3 Tryz.underlying25
instance:AO Tryz.prog 25 3 3:=Cu 23 Tryz.underlying25
instance:AO Tryz.prog 25 4 4:=Cu 3 Tryz.underlying25
instance:AO Tryz.prog 25 5 5:=Cu 3 Tryz.underlying25
instance:AO Tryz.prog 25 6 6:=Cu 3 Tryz.underlying25
instance:AO Tryz.prog 25 7 7:=Cu 23 Tryz.underlying25
instance:AO Tryz.prog 25 8 8:=Cu 23 Tryz.underlying25
instance:AO Tryz.prog 25 9 9:=Cu 23 Tryz.underlying25
instance:AO Tryz.prog 25 10 10:=Cu 23 Tryz.underlying25
instance:AO Tryz.prog 25 11 11:=Cu 23 Tryz.underlying25
instance:AO Tryz.prog 25 12 12:=Cu 23 Tryz.underlying25
instance:Cw Tryz.prog 29 1 1 (.int .i8 0):=⟨by kernel_rfl⟩
instance:DU Tryz.prog 29:=KU Tryz.underlying29
instance:Cw Tryz.prog 30 1 24 (.slice none 0 0):=⟨by kernel_rfl⟩
instance:Es Tryz.prog 30 (.slice 38):=⟨Tryz.underlying30⟩
instance:DU Tryz.prog 30:=KU Tryz.underlying30
instance:Cw Tryz.prog 32 7 136 (.agg #[.int .i8 0,.int .i64 0,.slice none 0 0,.slice none 0 0,.slice none 0 0,.slice none 0 0,.slice none 0 0]):=⟨by kernel_rfl⟩
instance:FP Tryz.prog 32 7:=Xl Tryz.underlying32
instance:DF Tryz.prog 32 [(0,1),(1,1),(2,1),(3,1),(4,1),(5,1),(6,1)]:=⟨_,Tryz.underlying32,⟨rfl,Ad (t:=29),rfl,Ad (t:=3),rfl,Ad (t:=30),rfl,Ad (t:=23),rfl,Ad (t:=23),rfl,Ad (t:=30),rfl,Ad (t:=23),trivial⟩⟩
instance:AO Tryz.prog 32 0 0:=Cu 29 Tryz.underlying32
instance:AO Tryz.prog 32 1 1:=Cu 3 Tryz.underlying32
instance:AO Tryz.prog 32 2 2:=Cu 30 Tryz.underlying32
instance:AO Tryz.prog 32 3 3:=Cu 23 Tryz.underlying32
instance:AO Tryz.prog 32 4 4:=Cu 23 Tryz.underlying32
instance:AO Tryz.prog 32 5 5:=Cu 30 Tryz.underlying32
instance:AO Tryz.prog 32 6 6:=Cu 23 Tryz.underlying32
instance:Cw Tryz.prog 33 1 24 (.slice none 0 0):=⟨by kernel_rfl⟩
instance:Es Tryz.prog 33 (.slice 73):=⟨Tryz.underlying33⟩
instance:DU Tryz.prog 33:=KU Tryz.underlying33
instance:Cw Tryz.prog 38 8 64 (.agg #[.int .i64 0,.int .i8 0,.int .i64 0,.int .i64 0,.int .i64 0,.int .i64 0,.int .i64 0,.bool false]):=⟨by kernel_rfl⟩
instance:FP Tryz.prog 38 8:=Xl Tryz.underlying38
instance:DF Tryz.prog 38 [(0,1),(1,1),(2,1),(3,1),(4,1),(5,1),(6,1),(7,1)]:=⟨_,Tryz.underlying38,⟨rfl,Ad (t:=3),rfl,Ad (t:=29),rfl,Ad (t:=3),rfl,Ad (t:=2),rfl,Ad (t:=2),rfl,Ad (t:=2),rfl,Ad (t:=2),rfl,Ad (t:=4),trivial⟩⟩
instance:AO Tryz.prog 38 0 0:=Cu 3 Tryz.underlying38
instance:AO Tryz.prog 38 1 1:=Cu 29 Tryz.underlying38
instance:AO Tryz.prog 38 2 2:=Cu 3 Tryz.underlying38
instance:AO Tryz.prog 38 3 3:=Cu 2 Tryz.underlying38
instance:AO Tryz.prog 38 4 4:=Cu 2 Tryz.underlying38
instance:AO Tryz.prog 38 5 5:=Cu 2 Tryz.underlying38
instance:AO Tryz.prog 38 6 6:=Cu 2 Tryz.underlying38
instance:AO Tryz.prog 38 7 7:=Cu 4 Tryz.underlying38
instance:Cw Tryz.prog 39 1 24 (.slice none 0 0):=⟨by kernel_rfl⟩
instance:Es Tryz.prog 39 (.slice 41):=⟨Tryz.underlying39⟩
instance:DU Tryz.prog 39:=KU Tryz.underlying39
instance:Cw Tryz.prog 41 7 72 (.agg #[.int .i64 0,.int .i64 0,.int .i64 0,.int .i64 0,.int .i64 0,.int .i64 0,.slice none 0 0]):=⟨by kernel_rfl⟩
instance:FP Tryz.prog 41 7:=Xl Tryz.underlying41
instance:DF Tryz.prog 41 [(0,1),(1,1),(2,1),(3,1),(4,1),(5,1),(6,1)]:=⟨_,Tryz.underlying41,⟨rfl,Ad (t:=3),rfl,Ad (t:=3),rfl,Ad (t:=2),rfl,Ad (t:=2),rfl,Ad (t:=2),rfl,Ad (t:=3),rfl,Ad (t:=23),trivial⟩⟩
instance:AO Tryz.prog 41 0 0:=Cu 3 Tryz.underlying41
instance:AO Tryz.prog 41 1 1:=Cu 3 Tryz.underlying41
instance:AO Tryz.prog 41 2 2:=Cu 2 Tryz.underlying41
instance:AO Tryz.prog 41 3 3:=Cu 2 Tryz.underlying41
instance:AO Tryz.prog 41 4 4:=Cu 2 Tryz.underlying41
instance:AO Tryz.prog 41 5 5:=Cu 3 Tryz.underlying41
instance:AO Tryz.prog 41 6 6:=Cu 23 Tryz.underlying41
instance:Cw Tryz.prog 46 1 8 (.pointer none):=⟨by kernel_rfl⟩
instance:Es Tryz.prog 46 (.pointer 96):=⟨Tryz.underlying46⟩
instance:DU Tryz.prog 46:=KU Tryz.underlying46
instance:Cw Tryz.prog 48 1 8 (.pointer none):=⟨by kernel_rfl⟩
instance:Es Tryz.prog 48 (.pointer 117):=⟨Tryz.underlying48⟩
instance:DU Tryz.prog 48:=KU Tryz.underlying48
instance:Cw Tryz.prog 49 1 8 (.nilFunc):=⟨by kernel_rfl⟩
instance:Es Tryz.prog 49 (.func #[48] #[] false):=⟨Tryz.underlying49⟩
instance:DU Tryz.prog 49:=KU Tryz.underlying49
instance:Cw Tryz.prog 51 2 16 (.agg #[.int .i64 0,.int .i64 0]):=⟨by kernel_rfl⟩
instance:FP Tryz.prog 51 2:=Xl Tryz.underlying51
instance:DF Tryz.prog 51 [(0,1),(1,1)]:=⟨_,Tryz.underlying51,⟨rfl,Ad (t:=3),rfl,Ad (t:=2),trivial⟩⟩
instance:T6 Tryz.prog 51 .i64 .i64:=⟨by kernel_rfl,by kernel_rfl,_,_,Tryz.underlying51,by decide,by decide,rfl,rfl,Tryz.underlying3,Tryz.underlying2⟩
instance:AO Tryz.prog 51 0 0:=Cu 3 Tryz.underlying51
instance:AO Tryz.prog 51 1 1:=Cu 2 Tryz.underlying51
instance:Cw Tryz.prog 52 1 8 (.int .i64 0):=⟨by kernel_rfl⟩
instance:Cw Tryz.prog 59 1 8 (.pointer none):=⟨by kernel_rfl⟩
instance:DU Tryz.prog 59:=KU Tryz.underlying59
instance:Es Tryz.prog 61 (.slice 49):=⟨Tryz.underlying61⟩
instance:Cw Tryz.prog 67 1 24 (.slice none 0 0):=⟨by kernel_rfl⟩
instance:Es Tryz.prog 67 (.slice 76):=⟨Tryz.underlying67⟩
instance:DU Tryz.prog 67:=KU Tryz.underlying67
instance:Cw Tryz.prog 68 1 24 (.slice none 0 0):=⟨by kernel_rfl⟩
instance:Es Tryz.prog 68 (.slice 90):=⟨Tryz.underlying68⟩
instance:DU Tryz.prog 68:=KU Tryz.underlying68
instance:Cw Tryz.prog 69 1 24 (.slice none 0 0):=⟨by kernel_rfl⟩
instance:Es Tryz.prog 69 (.slice 46):=⟨Tryz.underlying69⟩
instance:DU Tryz.prog 69:=KU Tryz.underlying69
instance:Cw Tryz.prog 71 16 304 (.agg #[.slice none 0 0,.int .i64 0,.int .i64 0,.slice none 0 0,.int .i64 0,.int .i64 0,.int .i64 0,.slice none 0 0,.slice none 0 0,.slice none 0 0,.slice none 0 0,.slice none 0 0,.slice none 0 0,.slice none 0 0,.slice none 0 0,.slice none 0 0]):=⟨by kernel_rfl⟩
instance:DF Tryz.prog 71 [(0,13),(13,1),(14,1),(15,1)]:=⟨_,Tryz.underlying71,⟨rfl,Ad (t:=25),rfl,Ad (t:=67),rfl,Ad (t:=68),rfl,Ad (t:=69),trivial⟩⟩
instance:AO Tryz.prog 71 0 0:=Cu 25 Tryz.underlying71
instance:AO Tryz.prog 71 1 13:=Cu 67 Tryz.underlying71
instance:AO Tryz.prog 71 2 14:=Cu 68 Tryz.underlying71
instance:AO Tryz.prog 71 3 15:=Cu 69 Tryz.underlying71
instance:Cw Tryz.prog 72 1 24 (.slice none 0 0):=⟨by kernel_rfl⟩
instance:Cw Tryz.prog 73 1 24 (.slice none 0 0):=⟨by kernel_rfl⟩
instance:Es Tryz.prog 73 (.slice 89):=⟨Tryz.underlying73⟩
instance:DU Tryz.prog 73:=KU Tryz.underlying73
instance:Cw Tryz.prog 75 3 56 (.agg #[.pointer none,.slice none 0 0,.slice none 0 0]):=⟨by kernel_rfl⟩
instance:DF Tryz.prog 75 [(0,1),(1,1),(2,1)]:=⟨_,Tryz.underlying75,⟨rfl,Ad (t:=48),rfl,Ad (t:=72),rfl,Ad (t:=73),trivial⟩⟩
instance:AO Tryz.prog 75 0 0:=Cu 48 Tryz.underlying75
instance:AO Tryz.prog 75 2 2:=Cu 73 Tryz.underlying75
instance:Cw Tryz.prog 76 1 8 (.pointer none):=⟨by kernel_rfl⟩
instance:DU Tryz.prog 76:=KU Tryz.underlying76
instance:Cw Tryz.prog 80 1 8 (.pointer none):=⟨by kernel_rfl⟩
instance:DU Tryz.prog 80:=KU Tryz.underlying80
instance:Cw Tryz.prog 81 1 24 (.slice none 0 0):=⟨by kernel_rfl⟩
instance:Es Tryz.prog 81 (.slice 131):=⟨Tryz.underlying81⟩
instance:DU Tryz.prog 81:=KU Tryz.underlying81
instance:Cw Tryz.prog 83 18 296 (.agg #[.pointer none,.slice none 0 0,.int .i64 0,.slice none 0 0,.slice none 0 0,.slice none 0 0,.slice none 0 0,.slice none 0 0,.slice none 0 0,.slice none 0 0,.slice none 0 0,.int .i64 0,.int .i64 0,.int .i64 0,.int .i64 0,.slice none 0 0,.bool false,.bool false]):=⟨by kernel_rfl⟩
instance:DF Tryz.prog 83 [(0,1),(1,1),(2,1),(3,1),(4,1),(5,1),(6,1),(7,1),(8,1),(9,1),(10,1),(11,1),(12,1),(13,1),(14,1),(15,1),(16,1),(17,1)]:=⟨_,Tryz.underlying83,⟨rfl,Ad (t:=80),rfl,Ad (t:=22),rfl,Ad (t:=3),rfl,Ad (t:=33),rfl,Ad (t:=23),rfl,Ad (t:=23),rfl,Ad (t:=23),rfl,Ad (t:=23),rfl,Ad (t:=23),rfl,Ad (t:=23),rfl,Ad (t:=23),rfl,Ad (t:=3),rfl,Ad (t:=3),rfl,Ad (t:=3),rfl,Ad (t:=3),rfl,Ad (t:=81),rfl,Ad (t:=4),rfl,Ad (t:=4),trivial⟩⟩
instance:AO Tryz.prog 83 0 0:=Cu 80 Tryz.underlying83
instance:AO Tryz.prog 83 1 1:=Cu 22 Tryz.underlying83
instance:AO Tryz.prog 83 2 2:=Cu 3 Tryz.underlying83
instance:AO Tryz.prog 83 3 3:=Cu 33 Tryz.underlying83
instance:AO Tryz.prog 83 4 4:=Cu 23 Tryz.underlying83
instance:AO Tryz.prog 83 5 5:=Cu 23 Tryz.underlying83
instance:AO Tryz.prog 83 6 6:=Cu 23 Tryz.underlying83
instance:AO Tryz.prog 83 7 7:=Cu 23 Tryz.underlying83
instance:AO Tryz.prog 83 8 8:=Cu 23 Tryz.underlying83
instance:AO Tryz.prog 83 9 9:=Cu 23 Tryz.underlying83
instance:AO Tryz.prog 83 11 11:=Cu 3 Tryz.underlying83
instance:AO Tryz.prog 83 12 12:=Cu 3 Tryz.underlying83
instance:AO Tryz.prog 83 13 13:=Cu 3 Tryz.underlying83
instance:AO Tryz.prog 83 15 15:=Cu 81 Tryz.underlying83
instance:AO Tryz.prog 83 16 16:=Cu 4 Tryz.underlying83
instance:AO Tryz.prog 83 17 17:=Cu 4 Tryz.underlying83
instance:Cw Tryz.prog 85 1 24 (.slice none 0 0):=⟨by kernel_rfl⟩
instance:Es Tryz.prog 85 (.slice 2):=⟨Tryz.underlying85⟩
instance:DU Tryz.prog 85:=KU Tryz.underlying85
instance:Cw Tryz.prog 87 3 40 (.agg #[.int .i64 0,.int .i64 0,.slice none 0 0]):=⟨by kernel_rfl⟩
instance:FP Tryz.prog 87 3:=Xl Tryz.underlying87
instance:DF Tryz.prog 87 [(0,1),(1,1),(2,1)]:=⟨_,Tryz.underlying87,⟨rfl,Ad (t:=3),rfl,Ad (t:=2),rfl,Ad (t:=23),trivial⟩⟩
instance:AO Tryz.prog 87 0 0:=Cu 3 Tryz.underlying87
instance:AO Tryz.prog 87 1 1:=Cu 2 Tryz.underlying87
instance:AO Tryz.prog 87 2 2:=Cu 23 Tryz.underlying87
instance:Cw Tryz.prog 89 6 80 (.agg #[.int .i64 0,.int .i64 0,.slice none 0 0,.int .i64 0,.int .i64 0,.slice none 0 0]):=⟨by kernel_rfl⟩
instance:FP Tryz.prog 89 6:=Xl Tryz.underlying89
instance:DF Tryz.prog 89 [(0,1),(1,1),(2,1),(3,3)]:=⟨_,Tryz.underlying89,⟨rfl,Ad (t:=3),rfl,Ad (t:=3),rfl,Ad (t:=85),rfl,Ad (t:=87),trivial⟩⟩
instance:AO Tryz.prog 89 0 0:=Cu 3 Tryz.underlying89
instance:AO Tryz.prog 89 1 1:=Cu 3 Tryz.underlying89
instance:AO Tryz.prog 89 2 2:=Cu 85 Tryz.underlying89
instance:AO Tryz.prog 89 3 3:=Cu 87 Tryz.underlying89
instance:Cw Tryz.prog 90 1 8 (.pointer none):=⟨by kernel_rfl⟩
instance:Es Tryz.prog 90 (.pointer 159):=⟨Tryz.underlying90⟩
instance:DU Tryz.prog 90:=KU Tryz.underlying90
instance:Cw Tryz.prog 93 3 24 (.agg #[.pointer none,.pointer none,.nilFunc]):=⟨by kernel_rfl⟩
instance:AO Tryz.prog 93 0 0:=Cu 90 Tryz.underlying93
instance:AO Tryz.prog 93 1 1:=Cu 90 Tryz.underlying93
instance:AO Tryz.prog 93 2 2:=Cu 49 Tryz.underlying93
instance:Cw Tryz.prog 94 48 384 (.agg #[.pointer none,.pointer none,.nilFunc,.pointer none,.pointer none,.nilFunc,.pointer none,.pointer none,.nilFunc,.pointer none,.pointer none,.nilFunc,.pointer none,.pointer none,.nilFunc,.pointer none,.pointer none,.nilFunc,.pointer none,.pointer none,.nilFunc,.pointer none,.pointer none,.nilFunc,.pointer none,.pointer none,.nilFunc,.pointer none,.pointer none,.nilFunc,.pointer none,.pointer none,.nilFunc,.pointer none,.pointer none,.nilFunc,.pointer none,.pointer none,.nilFunc,.pointer none,.pointer none,.nilFunc,.pointer none,.pointer none,.nilFunc,.pointer none,.pointer none,.nilFunc]):=⟨by kernel_rfl⟩
instance:Es Tryz.prog 94 (.array 16 93):=⟨Tryz.underlying94⟩
instance:Cw Tryz.prog 96 50 400 (.agg #[.pointer none,.pointer none,.pointer none,.pointer none,.nilFunc,.pointer none,.pointer none,.nilFunc,.pointer none,.pointer none,.nilFunc,.pointer none,.pointer none,.nilFunc,.pointer none,.pointer none,.nilFunc,.pointer none,.pointer none,.nilFunc,.pointer none,.pointer none,.nilFunc,.pointer none,.pointer none,.nilFunc,.pointer none,.pointer none,.nilFunc,.pointer none,.pointer none,.nilFunc,.pointer none,.pointer none,.nilFunc,.pointer none,.pointer none,.nilFunc,.pointer none,.pointer none,.nilFunc,.pointer none,.pointer none,.nilFunc,.pointer none,.pointer none,.nilFunc,.pointer none,.pointer none,.nilFunc]):=⟨by kernel_rfl⟩
instance:DF Tryz.prog 96 [(0,1),(1,1),(2,48)]:=⟨_,Tryz.underlying96,⟨rfl,Ad (t:=90),rfl,Ad (t:=90),rfl,Ad (t:=94),trivial⟩⟩
instance:AO Tryz.prog 96 0 0:=Cu 90 Tryz.underlying96
instance:AO Tryz.prog 96 1 1:=Cu 90 Tryz.underlying96
instance:AO Tryz.prog 96 2 2:=Cu 94 Tryz.underlying96
instance:Cw Tryz.prog 106 1 8 (.pointer none):=⟨by kernel_rfl⟩
instance:Es Tryz.prog 106 (.pointer 111):=⟨Tryz.underlying106⟩
instance:DU Tryz.prog 106:=KU Tryz.underlying106
instance:Cw Tryz.prog 107 1 8 (.map none):=⟨by kernel_rfl⟩
instance:Es Tryz.prog 107 (.map 115 3):=⟨Tryz.underlying107⟩
instance:DU Tryz.prog 107:=KU Tryz.underlying107
instance:Cw Tryz.prog 108 1 24 (.slice none 0 0):=⟨by kernel_rfl⟩
instance:Es Tryz.prog 108 (.slice 48):=⟨Tryz.underlying108⟩
instance:DU Tryz.prog 108:=KU Tryz.underlying108
instance:Cw Tryz.prog 109 1 24 (.slice none 0 0):=⟨by kernel_rfl⟩
instance:Es Tryz.prog 109 (.slice 4):=⟨Tryz.underlying109⟩
instance:DU Tryz.prog 109:=KU Tryz.underlying109
instance:Cw Tryz.prog 111 7 136 (.agg #[.slice none 0 0,.map none,.slice none 0 0,.slice none 0 0,.slice none 0 0,.slice none 0 0,.bool false]):=⟨by kernel_rfl⟩
instance:DF Tryz.prog 111 [(0,1),(1,1),(2,1),(3,1),(4,1),(5,1),(6,1)]:=⟨_,Tryz.underlying111,⟨rfl,Ad (t:=108),rfl,Ad (t:=107),rfl,Ad (t:=30),rfl,Ad (t:=23),rfl,Ad (t:=23),rfl,Ad (t:=109),rfl,Ad (t:=4),trivial⟩⟩
instance:AO Tryz.prog 111 0 0:=Cu 108 Tryz.underlying111
instance:AO Tryz.prog 111 1 1:=Cu 107 Tryz.underlying111
instance:AO Tryz.prog 111 2 2:=Cu 30 Tryz.underlying111
instance:AO Tryz.prog 111 3 3:=Cu 23 Tryz.underlying111
instance:AO Tryz.prog 111 4 4:=Cu 23 Tryz.underlying111
instance:AO Tryz.prog 111 5 5:=Cu 109 Tryz.underlying111
instance:AO Tryz.prog 111 6 6:=Cu 4 Tryz.underlying111
instance:Cw Tryz.prog 114 1 8 (.chan none):=⟨by kernel_rfl⟩
instance:Es Tryz.prog 114 (.chan .both 147):=⟨Tryz.underlying114⟩
instance:DU Tryz.prog 114:=KU Tryz.underlying114
instance:Cw Tryz.prog 115 1 8 (.pointer none):=⟨by kernel_rfl⟩
instance:Es Tryz.prog 115 (.pointer 151):=⟨Tryz.underlying115⟩
instance:DU Tryz.prog 115:=KU Tryz.underlying115
instance:Cw Tryz.prog 117 14 112 (.agg #[.pointer none,.int .i64 0,.chan none,.chan none,.pointer none,.int .i64 0,.int .i8 0,.int .i64 0,.int .i64 0,.int .i64 0,.int .i64 0,.int .i64 0,.bool false,.bool false]):=⟨by kernel_rfl⟩
instance:DF Tryz.prog 117 [(0,1),(1,1),(2,1),(3,1),(4,1),(5,8),(13,1)]:=⟨_,Tryz.underlying117,⟨rfl,Ad (t:=106),rfl,Ad (t:=3),rfl,Ad (t:=114),rfl,Ad (t:=114),rfl,Ad (t:=115),rfl,Ad (t:=38),rfl,Ad (t:=4),trivial⟩⟩
instance:AO Tryz.prog 117 0 0:=Cu 106 Tryz.underlying117
instance:AO Tryz.prog 117 1 1:=Cu 3 Tryz.underlying117
instance:AO Tryz.prog 117 2 2:=Cu 114 Tryz.underlying117
instance:AO Tryz.prog 117 3 3:=Cu 114 Tryz.underlying117
instance:AO Tryz.prog 117 4 4:=Cu 115 Tryz.underlying117
instance:AO Tryz.prog 117 5 5:=Cu 38 Tryz.underlying117
instance:AO Tryz.prog 117 6 13:=Cu 4 Tryz.underlying117
instance:Cw Tryz.prog 123 12 224 (.agg #[.int .i8 0,.int .i64 0,.slice none 0 0,.slice none 0 0,.slice none 0 0,.slice none 0 0,.slice none 0 0,.slice none 0 0,.int .i64 0,.slice none 0 0,.slice none 0 0,.int .i64 0]):=⟨by kernel_rfl⟩
instance:DF Tryz.prog 123 [(0,7),(7,1),(8,1),(9,1),(10,1),(11,1)]:=⟨_,Tryz.underlying123,⟨rfl,Ad (t:=32),rfl,Ad (t:=23),rfl,Ad (t:=3),rfl,Ad (t:=23),rfl,Ad (t:=85),rfl,Ad (t:=3),trivial⟩⟩
instance:AO Tryz.prog 123 0 0:=Cu 32 Tryz.underlying123
instance:AO Tryz.prog 123 1 7:=Cu 23 Tryz.underlying123
instance:AO Tryz.prog 123 2 8:=Cu 3 Tryz.underlying123
instance:AO Tryz.prog 123 3 9:=Cu 23 Tryz.underlying123
instance:AO Tryz.prog 123 4 10:=Cu 85 Tryz.underlying123
instance:AO Tryz.prog 123 5 11:=Cu 3 Tryz.underlying123
instance:Cw Tryz.prog 127 8 80 (.agg #[.int .i64 0,.int .i64 0,.int .i64 0,.int .i64 0,.int .i64 0,.int .i64 0,.int .i64 0,.slice none 0 0]):=⟨by kernel_rfl⟩
instance:FP Tryz.prog 127 8:=Xl Tryz.underlying127
instance:DF Tryz.prog 127 [(0,1),(1,1),(2,1),(3,1),(4,1),(5,1),(6,1),(7,1)]:=⟨_,Tryz.underlying127,⟨rfl,Ad (t:=3),rfl,Ad (t:=2),rfl,Ad (t:=3),rfl,Ad (t:=3),rfl,Ad (t:=3),rfl,Ad (t:=3),rfl,Ad (t:=3),rfl,Ad (t:=23),trivial⟩⟩
instance:AO Tryz.prog 127 0 0:=Cu 3 Tryz.underlying127
instance:AO Tryz.prog 127 2 2:=Cu 3 Tryz.underlying127
instance:Cw Tryz.prog 129 4 48 (.agg #[.int .i64 0,.int .i64 0,.int .i64 0,.slice none 0 0]):=⟨by kernel_rfl⟩
instance:FP Tryz.prog 129 4:=Xl Tryz.underlying129
instance:DF Tryz.prog 129 [(0,1),(1,3)]:=⟨_,Tryz.underlying129,⟨rfl,Ad (t:=2),rfl,Ad (t:=87),trivial⟩⟩
instance:AO Tryz.prog 129 0 0:=Cu 2 Tryz.underlying129
instance:AO Tryz.prog 129 1 1:=Cu 87 Tryz.underlying129
instance:Cw Tryz.prog 131 16 160 (.agg #[.int .i64 0,.int .i64 0,.int .i64 0,.int .i64 0,.int .i64 0,.int .i64 0,.int .i64 0,.int .i64 0,.int .i64 0,.int .i64 0,.slice none 0 0,.int .i64 0,.int .i64 0,.int .i64 0,.int .i64 0,.slice none 0 0]):=⟨by kernel_rfl⟩
instance:FP Tryz.prog 131 16:=Xl Tryz.underlying131
instance:DF Tryz.prog 131 [(0,1),(1,1),(2,1),(3,8),(11,1),(12,4)]:=⟨_,Tryz.underlying131,⟨rfl,Ad (t:=3),rfl,Ad (t:=3),rfl,Ad (t:=3),rfl,Ad (t:=127),rfl,Ad (t:=3),rfl,Ad (t:=129),trivial⟩⟩
instance:AO Tryz.prog 131 0 0:=Cu 3 Tryz.underlying131
instance:AO Tryz.prog 131 1 1:=Cu 3 Tryz.underlying131
instance:AO Tryz.prog 131 2 2:=Cu 3 Tryz.underlying131
instance:AO Tryz.prog 131 3 3:=Cu 127 Tryz.underlying131
instance:Cw Tryz.prog 134 2 16 (.agg #[.int .i64 0,.int .i64 0]):=⟨by kernel_rfl⟩
instance:FP Tryz.prog 134 2:=Xl Tryz.underlying134
instance:DF Tryz.prog 134 [(0,1),(1,1)]:=⟨_,Tryz.underlying134,⟨rfl,Ad (t:=3),rfl,Ad (t:=3),trivial⟩⟩
instance:T6 Tryz.prog 134 .i64 .i64:=⟨by kernel_rfl,by kernel_rfl,_,_,Tryz.underlying134,by decide,by decide,rfl,rfl,Tryz.underlying3,Tryz.underlying3⟩
instance:Cw Tryz.prog 137 1 8 (.pointer none):=⟨by kernel_rfl⟩
instance:DU Tryz.prog 137:=KU Tryz.underlying137
instance:Cw Tryz.prog 139 1 24 (.slice none 0 0):=⟨by kernel_rfl⟩
instance:Es Tryz.prog 139 (.slice 263):=⟨Tryz.underlying139⟩
instance:DU Tryz.prog 139:=KU Tryz.underlying139
instance:Cw Tryz.prog 141 4 48 (.agg #[.pointer none,.int .i64 0,.int .i64 0,.slice none 0 0]):=⟨by kernel_rfl⟩
instance:DF Tryz.prog 141 [(0,1),(1,1),(2,1),(3,1)]:=⟨_,Tryz.underlying141,⟨rfl,Ad (t:=137),rfl,Ad (t:=3),rfl,Ad (t:=3),rfl,Ad (t:=139),trivial⟩⟩
instance:AO Tryz.prog 141 0 0:=Cu 137 Tryz.underlying141
instance:AO Tryz.prog 141 1 1:=Cu 3 Tryz.underlying141
instance:AO Tryz.prog 141 3 3:=Cu 139 Tryz.underlying141
instance:Cw Tryz.prog 144 1 24 (.slice none 0 0):=⟨by kernel_rfl⟩
instance:Es Tryz.prog 144 (.slice 134):=⟨Tryz.underlying144⟩
instance:DU Tryz.prog 144:=KU Tryz.underlying144
instance:Cw Tryz.prog 146 13 264 (.agg #[.int .i8 0,.int .i64 0,.slice none 0 0,.slice none 0 0,.slice none 0 0,.slice none 0 0,.slice none 0 0,.bool false,.slice none 0 0,.slice none 0 0,.slice none 0 0,.slice none 0 0,.slice none 0 0]):=⟨by kernel_rfl⟩
instance:DF Tryz.prog 146 [(0,7),(7,1),(8,1),(9,1),(10,1),(11,1),(12,1)]:=⟨_,Tryz.underlying146,⟨rfl,Ad (t:=32),rfl,Ad (t:=4),rfl,Ad (t:=144),rfl,Ad (t:=109),rfl,Ad (t:=85),rfl,Ad (t:=144),rfl,Ad (t:=85),trivial⟩⟩
instance:AO Tryz.prog 146 0 0:=Cu 32 Tryz.underlying146
instance:AO Tryz.prog 146 1 7:=Cu 4 Tryz.underlying146
instance:AO Tryz.prog 146 2 8:=Cu 144 Tryz.underlying146
instance:AO Tryz.prog 146 3 9:=Cu 109 Tryz.underlying146
instance:AO Tryz.prog 146 4 10:=Cu 85 Tryz.underlying146
instance:AO Tryz.prog 146 5 11:=Cu 144 Tryz.underlying146
instance:AO Tryz.prog 146 6 12:=Cu 85 Tryz.underlying146
instance:Cw Tryz.prog 147 0 0 (.agg #[]):=⟨by kernel_rfl⟩
instance:DF Tryz.prog 147 []:=⟨_,Tryz.underlying147,trivial⟩
instance:Cw Tryz.prog 151 1 8 (.agg #[.int .i64 0]):=⟨by kernel_rfl⟩
instance:AO Tryz.prog 151 2 0:=Cu 2 Tryz.underlying151
instance:Cw Tryz.prog 155 2 8 (.agg #[.int .i32 0,.int .u32 0]):=⟨by kernel_rfl⟩
instance:AO Tryz.prog 155 0 0:=Cu 21 Tryz.underlying155
instance:Cw Tryz.prog 157 2 8 (.agg #[.int .i32 0,.int .u32 0]):=⟨by kernel_rfl⟩
instance:AO Tryz.prog 157 1 0:=Cu 155 Tryz.underlying157
instance:Cw Tryz.prog 159 5 32 (.agg #[.int .i64 0,.bool false,.int .i32 0,.int .u32 0,.chan none]):=⟨by kernel_rfl⟩
instance:DF Tryz.prog 159 [(0,1),(1,1),(2,2),(4,1)]:=⟨_,Tryz.underlying159,⟨rfl,Ad (t:=151),rfl,Ad (t:=4),rfl,Ad (t:=157),rfl,Ad (t:=114),trivial⟩⟩
instance:AO Tryz.prog 159 0 0:=Cu 151 Tryz.underlying159
instance:AO Tryz.prog 159 1 1:=Cu 4 Tryz.underlying159
instance:AO Tryz.prog 159 2 2:=Cu 157 Tryz.underlying159
instance:AO Tryz.prog 159 3 4:=Cu 114 Tryz.underlying159
instance:Cw Tryz.prog 183 4 32 (.agg #[.pointer none,.int .i64 0,.bool false,.int .i64 0]):=⟨by kernel_rfl⟩
instance:DF Tryz.prog 183 [(0,1),(1,1),(2,1),(3,1)]:=⟨_,Tryz.underlying183,⟨rfl,Ad (t:=80),rfl,Ad (t:=3),rfl,Ad (t:=4),rfl,Ad (t:=3),trivial⟩⟩
instance:AO Tryz.prog 183 0 0:=Cu 80 Tryz.underlying183
instance:AO Tryz.prog 183 1 1:=Cu 3 Tryz.underlying183
instance:AO Tryz.prog 183 2 2:=Cu 4 Tryz.underlying183
instance:AO Tryz.prog 183 3 3:=Cu 3 Tryz.underlying183
instance:Cw Tryz.prog 208 0 0 (.agg #[]):=⟨by kernel_rfl⟩
instance:DF Tryz.prog 208 []:=⟨_,Tryz.underlying208,trivial⟩
instance:Es Tryz.prog 220 (.pointer 155):=⟨Tryz.underlying220⟩
instance:Es Tryz.prog 224 (.unsafePointer):=⟨Tryz.underlying224⟩
instance:BC Tryz.prog 3 Tryz.f3:=⟨Tryz.func3⟩
instance:BC Tryz.prog 4 Tryz.f4:=⟨Tryz.func4⟩
instance:AT Tryz.prog 4:=Cx Tryz.func4
instance:BC Tryz.prog 5 Tryz.f5:=⟨Tryz.func5⟩
instance:AT Tryz.prog 5:=Cx Tryz.func5
instance:BC Tryz.prog 6 Tryz.f6:=⟨Tryz.func6⟩
instance:AT Tryz.prog 6:=Cx Tryz.func6
instance:BC Tryz.prog 7 Tryz.f7:=⟨Tryz.func7⟩
instance:AT Tryz.prog 7:=Cx Tryz.func7
instance:BC Tryz.prog 8 Tryz.f8:=⟨Tryz.func8⟩
instance:AT Tryz.prog 8:=Cx Tryz.func8
instance:BC Tryz.prog 9 Tryz.f9:=⟨Tryz.func9⟩
instance:AT Tryz.prog 9:=Cx Tryz.func9
instance:BC Tryz.prog 10 Tryz.f10:=⟨Tryz.func10⟩
instance:AT Tryz.prog 10:=Cx Tryz.func10
instance:BC Tryz.prog 11 Tryz.f11:=⟨Tryz.func11⟩
instance:AT Tryz.prog 11:=Cx Tryz.func11
instance:BC Tryz.prog 12 Tryz.f12:=⟨Tryz.func12⟩
instance:AT Tryz.prog 12:=Cx Tryz.func12
instance:BC Tryz.prog 13 Tryz.f13:=⟨Tryz.func13⟩
instance:AT Tryz.prog 13:=Cx Tryz.func13
instance:BC Tryz.prog 14 Tryz.f14:=⟨Tryz.func14⟩
instance:AT Tryz.prog 14:=Cx Tryz.func14
instance:BC Tryz.prog 15 Tryz.f15:=⟨Tryz.func15⟩
instance:AT Tryz.prog 15:=Cx Tryz.func15
instance:BC Tryz.prog 16 Tryz.f16:=⟨Tryz.func16⟩
instance:AT Tryz.prog 16:=Cx Tryz.func16
instance:BC Tryz.prog 17 Tryz.f17:=⟨Tryz.func17⟩
instance:AT Tryz.prog 17:=Cx Tryz.func17
instance:BC Tryz.prog 18 Tryz.f18:=⟨Tryz.func18⟩
instance:AT Tryz.prog 18:=Cx Tryz.func18
instance:BC Tryz.prog 19 Tryz.f19:=⟨Tryz.func19⟩
instance:AT Tryz.prog 19:=Cx Tryz.func19
instance:BC Tryz.prog 20 Tryz.f20:=⟨Tryz.func20⟩
instance:AT Tryz.prog 20:=Cx Tryz.func20
instance:BC Tryz.prog 21 Tryz.f21:=⟨Tryz.func21⟩
instance:AT Tryz.prog 21:=Cx Tryz.func21
instance:BC Tryz.prog 22 Tryz.f22:=⟨Tryz.func22⟩
instance:AT Tryz.prog 22:=Cx Tryz.func22
instance:BC Tryz.prog 23 Tryz.f23:=⟨Tryz.func23⟩
instance:AT Tryz.prog 23:=Cx Tryz.func23
instance:BC Tryz.prog 24 Tryz.f24:=⟨Tryz.func24⟩
instance:AT Tryz.prog 24:=Cx Tryz.func24
instance:BC Tryz.prog 25 Tryz.f25:=⟨Tryz.func25⟩
instance:AT Tryz.prog 25:=Cx Tryz.func25
instance:BC Tryz.prog 26 Tryz.f26:=⟨Tryz.func26⟩
instance:AT Tryz.prog 26:=Cx Tryz.func26
instance:BC Tryz.prog 27 Tryz.f27:=⟨Tryz.func27⟩
instance:AT Tryz.prog 27:=Cx Tryz.func27
instance:BC Tryz.prog 28 Tryz.f28:=⟨Tryz.func28⟩
instance:AT Tryz.prog 28:=Cx Tryz.func28
instance:BC Tryz.prog 29 Tryz.f29:=⟨Tryz.func29⟩
instance:AT Tryz.prog 29:=Cx Tryz.func29
instance:BC Tryz.prog 30 Tryz.f30:=⟨Tryz.func30⟩
instance:AT Tryz.prog 30:=Cx Tryz.func30
instance:BC Tryz.prog 31 Tryz.f31:=⟨Tryz.func31⟩
instance:AT Tryz.prog 31:=Cx Tryz.func31
instance:BC Tryz.prog 32 Tryz.f32:=⟨Tryz.func32⟩
instance:AT Tryz.prog 32:=Cx Tryz.func32
instance:BC Tryz.prog 33 Tryz.f33:=⟨Tryz.func33⟩
instance:AT Tryz.prog 33:=Cx Tryz.func33
instance:BC Tryz.prog 34 Tryz.f34:=⟨Tryz.func34⟩
instance:AT Tryz.prog 34:=Cx Tryz.func34
instance:BC Tryz.prog 35 Tryz.f35:=⟨Tryz.func35⟩
instance:AT Tryz.prog 35:=Cx Tryz.func35
instance:BC Tryz.prog 36 Tryz.f36:=⟨Tryz.func36⟩
instance:AT Tryz.prog 36:=Cx Tryz.func36
instance:BC Tryz.prog 38 Tryz.f38:=⟨Tryz.func38⟩
instance:AT Tryz.prog 38:=Cx Tryz.func38
instance:BC Tryz.prog 39 Tryz.f39:=⟨Tryz.func39⟩
instance:AT Tryz.prog 39:=Cx Tryz.func39
instance:BC Tryz.prog 40 Tryz.f40:=⟨Tryz.func40⟩
instance:AT Tryz.prog 40:=Cx Tryz.func40
instance:BC Tryz.prog 41 Tryz.f41:=⟨Tryz.func41⟩
instance:AT Tryz.prog 41:=Cx Tryz.func41
instance:BC Tryz.prog 42 Tryz.f42:=⟨Tryz.func42⟩
instance:AT Tryz.prog 42:=Cx Tryz.func42
instance:BC Tryz.prog 43 Tryz.f43:=⟨Tryz.func43⟩
instance:AT Tryz.prog 43:=Cx Tryz.func43
instance:BC Tryz.prog 44 Tryz.f44:=⟨Tryz.func44⟩
instance:AT Tryz.prog 44:=Cx Tryz.func44
instance:BC Tryz.prog 45 Tryz.f45:=⟨Tryz.func45⟩
instance:AT Tryz.prog 45:=Cx Tryz.func45
instance:BC Tryz.prog 46 Tryz.f46:=⟨Tryz.func46⟩
instance:AT Tryz.prog 46:=Cx Tryz.func46
instance:BC Tryz.prog 48 Tryz.f48:=⟨Tryz.func48⟩
instance:AT Tryz.prog 48:=Cx Tryz.func48
instance:BC Tryz.prog 49 Tryz.f49:=⟨Tryz.func49⟩
instance:AT Tryz.prog 49:=Cx Tryz.func49
instance:BC Tryz.prog 51 Tryz.f51:=⟨Tryz.func51⟩
instance:AT Tryz.prog 51:=Cx Tryz.func51
instance:BC Tryz.prog 52 Tryz.f52:=⟨Tryz.func52⟩
instance:AT Tryz.prog 52:=Cx Tryz.func52
instance:BC Tryz.prog 53 Tryz.f53:=⟨Tryz.func53⟩
instance:AT Tryz.prog 53:=Cx Tryz.func53
instance:BC Tryz.prog 54 Tryz.f54:=⟨Tryz.func54⟩
instance:AT Tryz.prog 54:=Cx Tryz.func54
instance:BC Tryz.prog 55 Tryz.f55:=⟨Tryz.func55⟩
instance:AT Tryz.prog 55:=Cx Tryz.func55
instance:BC Tryz.prog 56 Tryz.f56:=⟨Tryz.func56⟩
instance:AT Tryz.prog 56:=Cx Tryz.func56
instance:BC Tryz.prog 57 Tryz.f57:=⟨Tryz.func57⟩
instance:AT Tryz.prog 57:=Cx Tryz.func57
instance:BC Tryz.prog 58 Tryz.f58:=⟨Tryz.func58⟩
instance:AT Tryz.prog 58:=Cx Tryz.func58
instance:BC Tryz.prog 59 Tryz.f59:=⟨Tryz.func59⟩
instance:AT Tryz.prog 59:=Cx Tryz.func59
instance:BC Tryz.prog 60 Tryz.f60:=⟨Tryz.func60⟩
instance:AT Tryz.prog 60:=Cx Tryz.func60
instance:BC Tryz.prog 61 Tryz.f61:=⟨Tryz.func61⟩
instance:AT Tryz.prog 61:=Cx Tryz.func61
instance:BC Tryz.prog 62 Tryz.f62:=⟨Tryz.func62⟩
instance:AT Tryz.prog 62:=Cx Tryz.func62
instance:BC Tryz.prog 63 Tryz.f63:=⟨Tryz.func63⟩
instance:AT Tryz.prog 63:=Cx Tryz.func63
instance:BC Tryz.prog 64 Tryz.f64:=⟨Tryz.func64⟩
instance:AT Tryz.prog 64:=Cx Tryz.func64
instance:BC Tryz.prog 65 Tryz.f65:=⟨Tryz.func65⟩
instance:AT Tryz.prog 65:=Cx Tryz.func65
instance:BC Tryz.prog 66 Tryz.f66:=⟨Tryz.func66⟩
instance:AT Tryz.prog 66:=Cx Tryz.func66
instance:BC Tryz.prog 67 Tryz.f67:=⟨Tryz.func67⟩
instance:AT Tryz.prog 67:=Cx Tryz.func67
instance:BC Tryz.prog 68 Tryz.f68:=⟨Tryz.func68⟩
instance:AT Tryz.prog 68:=Cx Tryz.func68
instance:BC Tryz.prog 69 Tryz.f69:=⟨Tryz.func69⟩
instance:AT Tryz.prog 69:=Cx Tryz.func69
instance:BC Tryz.prog 70 Tryz.f70:=⟨Tryz.func70⟩
instance:AT Tryz.prog 70:=Cx Tryz.func70
instance:BC Tryz.prog 71 Tryz.f71:=⟨Tryz.func71⟩
instance:AT Tryz.prog 71:=Cx Tryz.func71
instance:BC Tryz.prog 72 Tryz.f72:=⟨Tryz.func72⟩
instance:AT Tryz.prog 72:=Cx Tryz.func72
instance:BC Tryz.prog 73 Tryz.f73:=⟨Tryz.func73⟩
instance:AT Tryz.prog 73:=Cx Tryz.func73
instance:BC Tryz.prog 74 Tryz.f74:=⟨Tryz.func74⟩
instance:AT Tryz.prog 74:=Cx Tryz.func74
instance:BC Tryz.prog 75 Tryz.f75:=⟨Tryz.func75⟩
instance:AT Tryz.prog 75:=Cx Tryz.func75
instance:BC Tryz.prog 77 Tryz.f77:=⟨Tryz.func77⟩
instance:AT Tryz.prog 77:=Cx Tryz.func77
instance:BC Tryz.prog 78 Tryz.f78:=⟨Tryz.func78⟩
instance:AT Tryz.prog 78:=Cx Tryz.func78
instance:BC Tryz.prog 80 Tryz.f80:=⟨Tryz.func80⟩
instance:AT Tryz.prog 80:=Cx Tryz.func80
instance:BC Tryz.prog 81 Tryz.f81:=⟨Tryz.func81⟩
instance:AT Tryz.prog 81:=Cx Tryz.func81
instance:BC Tryz.prog 82 Tryz.f82:=⟨Tryz.func82⟩
instance:AT Tryz.prog 82:=Cx Tryz.func82
instance:JA Tryz.prog 83 (Extern.Atomic.storeT):=⟨_,Tryz.func83,by kernel_rfl,by kernel_rfl,by kernel_rfl,by kernel_rfl⟩
instance:BC Tryz.prog 84 Tryz.f84:=⟨Tryz.func84⟩
instance:AT Tryz.prog 84:=Cx Tryz.func84
instance:BC Tryz.prog 85 Tryz.f85:=⟨Tryz.func85⟩
instance:AT Tryz.prog 85:=Cx Tryz.func85
instance:JA Tryz.prog 86 (Extern.Atomic.loadT (.int .i64)):=⟨_,Tryz.func86,by kernel_rfl,by kernel_rfl,by kernel_rfl,by kernel_rfl⟩
instance:JA Tryz.prog 87 (Extern.Atomic.casT (.int .i64)):=⟨_,Tryz.func87,by kernel_rfl,by kernel_rfl,by kernel_rfl,by kernel_rfl⟩
instance:BC Tryz.prog 88 Tryz.f88:=⟨Tryz.func88⟩
instance:AT Tryz.prog 88:=Cx Tryz.func88
instance:BC Tryz.prog 89 Tryz.f89:=⟨Tryz.func89⟩
instance:AT Tryz.prog 89:=Cx Tryz.func89
instance:BC Tryz.prog 90 Tryz.f90:=⟨Tryz.func90⟩
instance:AT Tryz.prog 90:=Cx Tryz.func90
instance:BC Tryz.prog 91 Tryz.f91:=⟨Tryz.func91⟩
instance:AT Tryz.prog 91:=Cx Tryz.func91
instance:BC Tryz.prog 92 Tryz.f92:=⟨Tryz.func92⟩
instance:AT Tryz.prog 92:=Cx Tryz.func92
instance:BC Tryz.prog 93 Tryz.f93:=⟨Tryz.func93⟩
instance:AT Tryz.prog 93:=Cx Tryz.func93
instance:BC Tryz.prog 94 Tryz.f94:=⟨Tryz.func94⟩
instance:AT Tryz.prog 94:=Cx Tryz.func94
instance:BC Tryz.prog 95 Tryz.f95:=⟨Tryz.func95⟩
instance:AT Tryz.prog 95:=Cx Tryz.func95
instance:BC Tryz.prog 96 Tryz.f96:=⟨Tryz.func96⟩
instance:AT Tryz.prog 96:=Cx Tryz.func96
instance:BC Tryz.prog 97 Tryz.f97:=⟨Tryz.func97⟩
instance:AT Tryz.prog 97:=Cx Tryz.func97
instance:BC Tryz.prog 98 Tryz.f98:=⟨Tryz.func98⟩
instance:AT Tryz.prog 98:=Cx Tryz.func98
instance:BC Tryz.prog 99 Tryz.f99:=⟨Tryz.func99⟩
instance:AT Tryz.prog 99:=Cx Tryz.func99
instance:BC Tryz.prog 100 Tryz.f100:=⟨Tryz.func100⟩
instance:AT Tryz.prog 100:=Cx Tryz.func100
instance:BC Tryz.prog 101 Tryz.f101:=⟨Tryz.func101⟩
instance:AT Tryz.prog 101:=Cx Tryz.func101
instance:BC Tryz.prog 104 Tryz.f104:=⟨Tryz.func104⟩
instance:AT Tryz.prog 104:=Cx Tryz.func104
instance:BC Tryz.prog 105 Tryz.f105:=⟨Tryz.func105⟩
instance:AT Tryz.prog 105:=Cx Tryz.func105
instance:BC Tryz.prog 107 Tryz.f107:=⟨Tryz.func107⟩
instance:AT Tryz.prog 107:=Cx Tryz.func107
instance:JA Tryz.prog 108 (Extern.Atomic.update (Op.intArith .add) .i64 true):=⟨_,Tryz.func108,by kernel_rfl,by kernel_rfl,by kernel_rfl,by kernel_rfl⟩
instance:BC Tryz.prog 109 Tryz.f109:=⟨Tryz.func109⟩
instance:AT Tryz.prog 109:=Cx Tryz.func109
instance:BC Tryz.prog 110 Tryz.f110:=⟨Tryz.func110⟩
instance:AT Tryz.prog 110:=Cx Tryz.func110
instance:BC Tryz.prog 111 Tryz.f111:=⟨Tryz.func111⟩
instance:AT Tryz.prog 111:=Cx Tryz.func111
instance:BC Tryz.prog 112 Tryz.f112:=⟨Tryz.func112⟩
instance:AT Tryz.prog 112:=Cx Tryz.func112
instance:BC Tryz.prog 114 Tryz.f114:=⟨Tryz.func114⟩
instance:AT Tryz.prog 114:=Cx Tryz.func114
instance:BC Tryz.prog 122 Tryz.f122:=⟨Tryz.func122⟩
instance:AT Tryz.prog 122:=Cx Tryz.func122
instance:BC Tryz.prog 124 Tryz.f124:=⟨Tryz.func124⟩
instance:AT Tryz.prog 124:=Cx Tryz.func124
instance:BC Tryz.prog 125 Tryz.f125:=⟨Tryz.func125⟩
instance:AT Tryz.prog 125:=Cx Tryz.func125
instance:BC Tryz.prog 127 Tryz.f127:=⟨Tryz.func127⟩
instance:AT Tryz.prog 127:=Cx Tryz.func127
instance:JA Tryz.prog 128 (fun _=>do mark .disable;pure Extern.Race.none_):=⟨_,Tryz.func128,by kernel_rfl,by kernel_rfl,by kernel_rfl,by kernel_rfl⟩
instance:JA Tryz.prog 129 (Extern.Atomic.casT (.int .i32)):=⟨_,Tryz.func129,by kernel_rfl,by kernel_rfl,by kernel_rfl,by kernel_rfl⟩
instance:JA Tryz.prog 130 (fun _=>do mark .enable;pure Extern.Race.none_):=⟨_,Tryz.func130,by kernel_rfl,by kernel_rfl,by kernel_rfl,by kernel_rfl⟩
instance:JA Tryz.prog 131 (Extern.Race.marked .acquire):=⟨_,Tryz.func131,by kernel_rfl,by kernel_rfl,by kernel_rfl,by kernel_rfl⟩
instance:JA Tryz.prog 133 (Extern.Race.marked .releaseMerge):=⟨_,Tryz.func133,by kernel_rfl,by kernel_rfl,by kernel_rfl,by kernel_rfl⟩
instance:JA Tryz.prog 134 (Extern.Atomic.update (Op.intArith .add) .i32 true):=⟨_,Tryz.func134,by kernel_rfl,by kernel_rfl,by kernel_rfl,by kernel_rfl⟩
instance:BC Tryz.prog 136 Tryz.f136:=⟨Tryz.func136⟩
instance:AT Tryz.prog 136:=Cx Tryz.func136
instance:BC Tryz.prog 139 Tryz.f139:=⟨Tryz.func139⟩
instance:AT Tryz.prog 139:=Cx Tryz.func139
instance:BC Tryz.prog 141 Tryz.f141:=⟨Tryz.func141⟩
instance:AT Tryz.prog 141:=Cx Tryz.func141
instance:BC Tryz.prog 142 Tryz.f142:=⟨Tryz.func142⟩
instance:AT Tryz.prog 142:=Cx Tryz.func142
instance:BC Tryz.prog 143 Tryz.f143:=⟨Tryz.func143⟩
instance:AT Tryz.prog 143:=Cx Tryz.func143
instance:BC Tryz.prog 144 Tryz.f144:=⟨Tryz.func144⟩
instance:AT Tryz.prog 144:=Cx Tryz.func144
instance:BC Tryz.prog 145 Tryz.f145:=⟨Tryz.func145⟩
instance:AT Tryz.prog 145:=Cx Tryz.func145
instance:BC Tryz.prog 174 Tryz.f174:=⟨Tryz.func174⟩
instance:AT Tryz.prog 174:=Cx Tryz.func174
instance:BC Tryz.prog 175 Tryz.f175:=⟨Tryz.func175⟩
instance:AT Tryz.prog 175:=Cx Tryz.func175
instance:BC Tryz.prog 176 Tryz.f176:=⟨Tryz.func176⟩
instance:AT Tryz.prog 176:=Cx Tryz.func176
instance:BC Tryz.prog 189 Tryz.f189:=⟨Tryz.func189⟩
instance:AT Tryz.prog 189:=Cx Tryz.func189
instance:BC Tryz.prog 190 Tryz.f190:=⟨Tryz.func190⟩
instance:AT Tryz.prog 190:=Cx Tryz.func190
instance:BC Tryz.prog 191 Tryz.f191:=⟨Tryz.func191⟩
instance:AT Tryz.prog 191:=Cx Tryz.func191
instance:BC Tryz.prog 192 Tryz.f192:=⟨Tryz.func192⟩
instance:AT Tryz.prog 192:=Cx Tryz.func192
instance:BC Tryz.prog 193 Tryz.f193:=⟨Tryz.func193⟩
instance:AT Tryz.prog 193:=Cx Tryz.func193
end
end Go.Proofs.YtfkalocplonkiaaGreat
