/- Steps of the walk and of the plain law (Cell to RunA). Conditions: as each lemma says. -/
import Derived.Laws.Append
import Derived.Laws.BitsLemmas
import Derived.Conc.Token
import Derived.Conc.HoldsTime
import Derived.RowKit3
import Derived.Below
import Derived.Test.YtfkalocplonkiaaGreatCPLA
set_option linter.unusedSectionVars false
set_option linter.unusedVariables false
set_option linter.unusedSimpArgs false
namespace Go.Proofs.YtfkalocplonkiaaGreat
section
open Go Go.TJ Go.Proofs
section
variable{Γ:Type}{main:Bool}{S:Cp Γ}{h:Hp}{δ:Ix Γ}
theorem Uo{b o:Nat}(hc:AF h ⟨b,o,none⟩=some (.int .i32 0))(hz:Bf h ⟨b,o,none⟩=false)(hS:¬S.still δ.g ⟨b,o,none⟩):
  AY Tryz.prog main S 109 #[.pointer (some ⟨b,o,none⟩)] h δ (CJ (Gb (.tuple #[]) (Af h ⟨b,o,none⟩ (.int .i32 1)) δ)):=by
 refine CK (n:=13) ?_
 repeat(first|refine AI ?_|refine AH ?_)
 refine H8 rfl rfl rfl rfl (fun Q X hq=>Ic (vs:=#[]) (by simp) (by simp) hq) ?_
 repeat(first|refine AI ?_|refine AH ?_|refine AE ?_|refine AV ?_|refine Bc ?_|refine Az ?_)
 refine H8 rfl rfl rfl rfl (fun Q X hq=>MR (by simp [OneCell]) hc hz hS (by rw [if_pos rfl];exact hq)) ?_
 repeat(first|refine AI ?_|refine AH ?_|refine AE ?_|refine BU ?_)
 refine H8 rfl rfl rfl rfl (fun Q X hq=>Ic (vs:=#[]) (by simp) (by simp) hq) ?_
 repeat(first|refine AH ?_|refine AE ?_|refine AV ?_)
 refine gR rfl rfl rfl (by decide) (EC hc) ?_
 refine H8 rfl rfl rfl rfl (fun Q X hq=>Mn (by simp) (by simp) hq) ?_
 repeat(first|refine AE ?_|refine AQ ?_)
 exact Eu rfl El
theorem Rf{b o:Nat}(hc:AF h ⟨b,o,none⟩=some (.int .i32 1))(hz:Bf h ⟨b,o,none⟩=false)(hS:¬S.still δ.g ⟨b,o,none⟩):
  AY Tryz.prog main S 110 #[.pointer (some ⟨b,o,none⟩)] h δ (CJ (Gb (.tuple #[]) (Af h ⟨b,o,none⟩ (.int .i32 0)) δ)):=by
 refine CK (n:=21) ?_
 repeat(first|refine AI ?_|refine AH ?_|refine AV ?_|refine Bc ?_|refine Az ?_|refine BU ?_)
 refine Av rfl hc ?_
 repeat(first|refine AI ?_|refine AH ?_|refine AE ?_|refine AV ?_)
 refine gR rfl rfl rfl (by decide) hc ?_
 refine H8 rfl rfl rfl rfl (fun Q X hq=>Mn (by simp) (by simp) hq) ?_
 repeat(first|refine AH ?_|refine AE ?_)
 refine H8 rfl rfl rfl rfl (fun Q X hq=>Ic (vs:=#[]) (by simp) (by simp) hq) ?_
 repeat(first|refine AI ?_|refine AH ?_|refine AE ?_|refine AV ?_|refine Bc ?_|refine Az ?_)
 refine H8 rfl rfl rfl rfl (fun Q X hq=>QP (r:=0) hc hz hS (i32_in (by omega) (by omega)) hq) ?_
 repeat(first|refine AI ?_|refine AH ?_|refine AE ?_|refine Ar ?_|refine AV ?_|refine Aq ?_|refine Bg ?_|refine Am ?_)
 refine H8 rfl rfl rfl rfl (fun Q X hq=>Ic (vs:=#[]) (by simp) (by simp) hq) ?_
 (repeat refine AE ?_)
 refine FQ ?_
 exact Eu rfl El
theorem Wi{b o:Nat}(hc:AF h ⟨b,o,none⟩=some (.int .i32 0))(hz:Bf h ⟨b,o,none⟩=false)(hS:¬S.still δ.g ⟨b,o,none⟩):
  AY Tryz.prog main S 88 #[.pointer (some ⟨b,o,none⟩)] h δ (CJ (Gb (.tuple #[]) (Af h ⟨b,o,none⟩ (.int .i32 1)) δ)):=by
 refine CK (n:=6) ?_
 repeat(first|refine AH ?_|refine AV ?_|refine Bc ?_|refine Az ?_)
 refine Bx rfl (Uo hc hz hS) ?_
 (repeat refine AE ?_)
 refine FQ ?_
 exact Eu rfl El
theorem S4{b o:Nat}(hc:AF h ⟨b,o,none⟩=some (.int .i32 1))(hz:Bf h ⟨b,o,none⟩=false)(hS:¬S.still δ.g ⟨b,o,none⟩):
  AY Tryz.prog main S 89 #[.pointer (some ⟨b,o,none⟩)] h δ (CJ (Gb (.tuple #[]) (Af h ⟨b,o,none⟩ (.int .i32 0)) δ)):=by
 refine CK (n:=6) ?_
 repeat(first|refine AH ?_|refine AV ?_|refine Bc ?_|refine Az ?_)
 refine Bx rfl (Rf hc hz hS) ?_
 (repeat refine AE ?_)
 refine FQ ?_
 exact Eu rfl El
def Ay(v:Int):Obj:=.cells #[.int .i64 v,.bool true,.int .i32 0,.int .u32 0,.chan none] 159 (0,0)
theorem GZ{b:Nat}{v:Int}(hb:h[b]?=some (Ay v))(x:Int):Af h ⟨b,0,none⟩ (.int .i64 x)=h.setIfInBounds b (Ay x):=by
 have Cg:b<h.size:=by
  rcases EM b h.size with y|y
  ·exact y
  ·simp [Array.getElem?_eq_none y]at hb
 apply Array.ext_getElem?
 intro i
 rw [EG]
 by_cases e:b=i
 ·subst e
  rw [if_pos rfl,hb,Kf Cg]
  rfl
 ·rw [if_neg e,G5 e]
theorem Sz{b:Nat}{v:Int}(hb:h[b]?=some (Ay v))(x:Int):(h.setIfInBounds b (Ay x))[b]?=some (Ay x):=by
 have Cg:b<h.size:=by
  rcases EM b h.size with y|y
  ·exact y
  ·simp [Array.getElem?_eq_none y]at hb
 exact Kf Cg
theorem Hj{b:Nat}{v:Int}(hb:h[b]?=some (Ay v)):AY Tryz.prog main S 57 #[.pointer (some ⟨b,0,none⟩)] h δ (CJ (Gb (.bool false) h δ)):=by
 unfold Ay at hb
 refine CK (n:=12) ?_
 repeat(first|refine AI ?_|refine AH ?_|refine AE ?_|refine AV ?_|refine Aq ?_|refine Bc ?_|refine Az ?_|refine Df ?_|refine P9 rfl rfl rfl rfl rfl ?_|refine B9 ?_|refine Bd ?_|refine AQ ?_)
 exact DQ El
theorem Lx:AY Tryz.prog main S 58 #[.pointer none] h δ (CJ (Gb (.bool false) h δ)):=by
 refine CK (n:=19) ?_
 repeat(first|refine AI ?_|refine AH ?_|refine AE ?_|refine AV ?_|refine Aq ?_|refine CW ?_|refine Lm rfl rfl rfl rfl rfl ?_|refine Bd ?_|refine AQ ?_)
 exact DQ El
theorem Jk{b o:Nat}{v:Int}(hc:AF h ⟨b,o,none⟩=some (.int .i64 v)):AY Tryz.prog main S 60 #[.pointer (some ⟨b,o,none⟩)] h δ (CJ (Gb (.int .i64 v) h δ)):=by
 refine CK (n:=7) ?_
 repeat(first|refine AI ?_|refine AH ?_|refine AE ?_|refine AV ?_|refine Aq ?_|refine Bc ?_|refine Az ?_)
 refine H8 rfl rfl rfl rfl (fun Q X hq=>UY hc hq) ?_
 repeat(first|refine AE ?_|refine Aq ?_|refine AQ ?_)
 exact DQ El
theorem KD{b o:Nat}{v x:Int}(hc:AF h ⟨b,o,none⟩=some (.int .i64 v))(hz:Bf h ⟨b,o,none⟩=false)(hS:¬S.still δ.g ⟨b,o,none⟩):AY Tryz.prog main S 56 #[.pointer (some ⟨b,o,none⟩),.int .i64 x] h δ (CJ (Gb (.tuple #[]) (Af h ⟨b,o,none⟩ (.int .i64 x)) δ)):=by
 refine CK (n:=9) ?_
 repeat(first|refine AH ?_|refine AV ?_|refine Bc ?_|refine Az ?_)
 refine H8 rfl rfl rfl rfl (fun Q X hq=>TA (by simp [OneCell]) hc hz hS hq) ?_
 (repeat refine AE ?_)
 refine FQ ?_
 exact Eu rfl El
theorem S3{b o:Nat}{v x:Int}(hc:AF h ⟨b,o,none⟩=some (.int .i64 v))(hz:Bf h ⟨b,o,none⟩=false)(hS:¬S.still δ.g ⟨b,o,none⟩):AY Tryz.prog main S 61 #[.pointer (some ⟨b,o,none⟩),.int .i64 v,.int .i64 x] h δ (CJ (Gb (.bool true) (Af h ⟨b,o,none⟩ (.int .i64 x)) δ)):=by
 refine CK (n:=13) ?_
 repeat(first|refine AI ?_|refine AH ?_|refine AE ?_|refine AV ?_|refine Aq ?_|refine Bc ?_|refine Az ?_)
 refine H8 rfl rfl rfl rfl (fun Q X hq=>MR (by simp [OneCell]) hc hz hS (by rw [if_pos rfl];exact hq)) ?_
 repeat(first|refine AE ?_|refine Aq ?_|refine AQ ?_)
 exact DQ El
theorem Vn{b o:Nat}{v y x:Int}(B7:v≠y)(hc:AF h ⟨b,o,none⟩=some (.int .i64 v))(hz:Bf h ⟨b,o,none⟩=false)(hS:¬S.still δ.g ⟨b,o,none⟩):AY Tryz.prog main S 61 #[.pointer (some ⟨b,o,none⟩),.int .i64 y,.int .i64 x] h δ (CJ (Gb (.bool false) h δ)):=by
 refine CK (n:=13) ?_
 repeat(first|refine AI ?_|refine AH ?_|refine AE ?_|refine AV ?_|refine Aq ?_|refine Bc ?_|refine Az ?_)
 refine H8 rfl rfl rfl rfl (fun Q X hq=>MR (by simp [OneCell]) hc hz hS (by rw [if_neg B7];exact hq)) ?_
 repeat(first|refine AE ?_|refine Aq ?_|refine AQ ?_)
 exact DQ El
theorem eS{b o:Nat}{v x r:Int}(hr:IntKind.i64.wrap (v+x)=r)(hc:AF h ⟨b,o,none⟩=some (.int .i64 v))(hz:Bf h ⟨b,o,none⟩=false)(hS:¬S.still δ.g ⟨b,o,none⟩):AY Tryz.prog main S 85 #[.pointer (some ⟨b,o,none⟩),.int .i64 x] h δ (CJ (Gb (.int .i64 r) (Af h ⟨b,o,none⟩ (.int .i64 r)) δ)):=by
 refine CK (n:=10) ?_
 repeat(first|refine AI ?_|refine AH ?_|refine AE ?_|refine AV ?_|refine Aq ?_|refine Bc ?_|refine Az ?_)
 refine H8 rfl rfl rfl rfl (fun Q X hq=>QP hc hz hS hr hq) ?_
 repeat(first|refine AE ?_|refine Aq ?_|refine AQ ?_)
 exact DQ El
theorem SZ{b:Nat}{v:Int}(hb:h[b]?=some (Ay v))(hS:¬S.still δ.g ⟨b,2,none⟩):AY Tryz.prog main S 62 #[.pointer (some ⟨b,0,none⟩)] h δ (CJ (Gb (.tuple #[]) h δ)):=by
 unfold Ay at hb
 have hc:AF h ⟨b,2,none⟩=some (.int .i32 0):=AD hb rfl
 have h4:AF h ⟨b,4,none⟩=some (.chan none):=AD hb rfl
 have hz:Bf h ⟨b,2,none⟩=false:=AS hb
 refine CK (n:=21) ?_
 repeat(first|refine AI ?_|refine AH ?_|refine AV ?_|refine Bc ?_|refine Az ?_)
 refine Bx rfl (Wi hc hz hS) ?_
 repeat(first|refine AI ?_|refine AH ?_|refine AE ?_|refine AV ?_|refine Bc ?_|refine Az ?_)
 refine sw rfl rfl rfl ?_
 repeat(first|refine AI ?_|refine AH ?_|refine AE ?_|refine AV ?_|refine Bc ?_|refine Az ?_)
 refine Av (v:=.chan none) rfl (by rw [DK _ _ _ _ (by simp) ⟨_,hc⟩];exact h4) ?_
 repeat(first|refine AE ?_|refine Ar ?_|refine Lm rfl rfl rfl rfl rfl ?_|refine Am ?_)
 refine FQ ?_
 refine so rfl (S4 (EC hc) (by rw [LJ];exact hz) hS) ?_
 rw [Wk,Fo hc]
 exact Eu rfl El
theorem SJ{b:Nat}{v:Int}(hb:h[b]?=some (Ay v)):AY Tryz.prog main S 30 #[.pointer (some ⟨b,0,none⟩),.pointer none] h δ (CJ (Gb (.int .i64 v) h δ)):=by
 refine CK (n:=26) ?_
 repeat(first|refine AI ?_|refine AH ?_|refine AE ?_|refine AV ?_|refine Aq ?_)
 refine Bx rfl (Hj hb) ?_
 repeat(first|refine AI ?_|refine AH ?_|refine AE ?_|refine Ar ?_|refine AV ?_|refine Am ?_)
 refine Bx rfl Lx ?_
 repeat(first|refine AI ?_|refine AH ?_|refine AE ?_|refine Ar ?_|refine AV ?_|refine Bc ?_|refine Az ?_|refine Am ?_)
 refine Bx rfl (Jk (v:=v) (AD hb rfl)) ?_
 repeat(first|refine AE ?_|refine Aq ?_|refine AQ ?_)
 exact DQ El
theorem MK{b:Nat}{v x:Int}(hb:h[b]?=some (Ay v))(hS:∀o,¬S.still δ.g ⟨b,o,none⟩):AY Tryz.prog main S 32 #[.pointer (some ⟨b,0,none⟩),.pointer none,.int .i64 x] h δ (CJ (Gb (.tuple #[]) (h.setIfInBounds b (Ay x)) δ)):=by
 refine CK (n:=23) ?_
 repeat(first|refine AI ?_|refine AH ?_|refine AV ?_)
 refine Bx rfl (Hj hb) ?_
 repeat(first|refine AI ?_|refine AH ?_|refine AE ?_|refine Ar ?_|refine AV ?_|refine Am ?_)
 refine Bx rfl Lx ?_
 repeat(first|refine AI ?_|refine AH ?_|refine AE ?_|refine Ar ?_|refine AV ?_|refine Bc ?_|refine Az ?_|refine Am ?_)
 refine Bx rfl (KD (v:=v) (AD hb rfl) (AS hb) (hS 0)) ?_
 repeat(first|refine AH ?_|refine AE ?_|refine AV ?_)
 rw [GZ hb]
 refine Bx rfl (SZ (Sz hb x) (hS 2)) ?_
 (repeat refine AE ?_)
 refine FQ ?_
 exact Eu rfl El
theorem L2{b:Nat}{v x:Int}(hb:h[b]?=some (Ay v))(hS:∀o,¬S.still δ.g ⟨b,o,none⟩):AY Tryz.prog main S 31 #[.pointer (some ⟨b,0,none⟩),.pointer none,.int .i64 v,.int .i64 x] h δ (CJ (Gb (.bool true) (h.setIfInBounds b (Ay x)) δ)):=by
 refine CK (n:=39) ?_
 repeat(first|refine AI ?_|refine AH ?_|refine AE ?_|refine AV ?_|refine Aq ?_)
 refine Bx rfl (Hj hb) ?_
 repeat(first|refine AI ?_|refine AH ?_|refine AE ?_|refine Ar ?_|refine AV ?_|refine Am ?_)
 refine Bx rfl Lx ?_
 repeat(first|refine AI ?_|refine AH ?_|refine AE ?_|refine Ar ?_|refine AV ?_|refine Bc ?_|refine Az ?_|refine Am ?_)
 refine Bx rfl (S3 (AD hb rfl) (AS hb) (hS 0)) ?_
 repeat(first|refine AI ?_|refine AH ?_|refine AE ?_|refine AV ?_|refine Aq ?_|refine BU ?_)
 rw [GZ hb]
 refine Bx rfl (SZ (Sz hb x) (hS 2)) ?_
 repeat(first|refine AI ?_|refine AH ?_|refine AE ?_|refine AV ?_|refine Aq ?_|refine AQ ?_)
 exact DQ El
theorem dr{b:Nat}{v y x:Int}(B7:v≠y)(hb:h[b]?=some (Ay v))(hS:∀o,¬S.still δ.g ⟨b,o,none⟩):AY Tryz.prog main S 31 #[.pointer (some ⟨b,0,none⟩),.pointer none,.int .i64 y,.int .i64 x] h δ (CJ (Gb (.bool false) h δ)):=by
 refine CK (n:=39) ?_
 repeat(first|refine AI ?_|refine AH ?_|refine AE ?_|refine AV ?_|refine Aq ?_)
 refine Bx rfl (Hj hb) ?_
 repeat(first|refine AI ?_|refine AH ?_|refine AE ?_|refine Ar ?_|refine AV ?_|refine Am ?_)
 refine Bx rfl Lx ?_
 repeat(first|refine AI ?_|refine AH ?_|refine AE ?_|refine Ar ?_|refine AV ?_|refine Bc ?_|refine Az ?_|refine Am ?_)
 refine Bx rfl (Vn B7 (AD hb rfl) (AS hb) (hS 0)) ?_
 repeat(first|refine AI ?_|refine AH ?_|refine AE ?_|refine Ar ?_|refine AV ?_|refine Aq ?_|refine Am ?_|refine AQ ?_)
 exact DQ El
theorem U3{v:Int}(hS:¬S.still δ.g ⟨h.size,0,none⟩):AY Tryz.prog main S 56 #[.pointer (some ⟨h.size,0,none⟩),.int .i64 v] (h.push (Ay 0)) δ (CJ (Gb (.tuple #[]) (h.push (Ay v)) δ)):=by
 have hb:(h.push (Ay 0))[h.size]?=some (Ay 0):=AG h _
 have:=KD (main:=main) (S:=S) (δ:=δ) (o:=0) (v:=0) (x:=v) (AD hb rfl) (AS hb) hS
 rwa [GZ hb,CC]at this
theorem sD{v:Int}(hS:¬S.still δ.g ⟨h.size,0,none⟩):AY Tryz.prog main S 28 #[.int .i64 v] h δ (CJ (Gb (.pointer (some ⟨h.size,0,none⟩)) (h.push (Ay v)) δ)):=by
 refine CK (n:=12) ?_
 repeat(first|refine AI ?_|refine AH ?_|refine AE ?_|refine Aq ?_)
 refine Cr (cells:=#[.int .i64 0,.bool true,.int .i32 0,.int .u32 0,.chan none]) rfl rfl rfl rfl ?_
 repeat(first|refine AI ?_|refine AH ?_|refine AE ?_|refine AV ?_|refine Aq ?_|refine Bc ?_|refine Az ?_|refine DO ?_)
 refine Bx (h':=h.push (Ay v)) rfl (U3 hS) ?_
 repeat(first|refine AI ?_|refine AH ?_|refine AE ?_|refine AV ?_|refine Aq ?_|refine AQ ?_)
 exact DQ El
theorem X2{v:Int}:AY Tryz.prog main Fb 28 #[.int .i64 v] h δ (CJ (Gb (.pointer (some ⟨h.size,0,none⟩)) (h.push (Ay v)) δ)):=sD (fun x=>x)
end
end
end Go.Proofs.YtfkalocplonkiaaGreat
namespace Go.TJ
section
open Go Go.Conc
variable{Γ:Type}
def blk:Value->Option Nat
 | .slice (some a) _ _=>some a.block
 | _=>none
def AR(h:Hp)(s:Value)(e:TypeId)(sz n:Nat)(cells:List Value):Prop:=
 cells.length=n*sz/\((s= .slice none 0 0/\n=0)\/∃b cap rest,s= .slice (some ⟨b,0,none⟩) n cap/\n<=cap/\rest.length=(cap-n)*sz/\h[b]?=some (.cells (cells++rest).toArray e (0,0)))
theorem AR.nil{h:Hp}{e sz:Nat}:AR h (.slice none 0 0) e sz 0 []:=⟨by simp,.inl ⟨rfl,rfl⟩⟩
theorem AR.upd{h h':Hp}{s:Value}{e sz n:Nat}{cells:List Value}(x:AR h s e sz n cells){T:Nat->Prop}(u:AN T h h')(hT:∀b,blk s=some b->¬T b):AR h' s e sz n cells:=by
 refine⟨x.1,x.2.imp id ?_⟩
 rintro⟨b,cap,rest,rfl,h1,h2,h3⟩
 exact⟨b,cap,rest,rfl,h1,h2,u.get h3 (hT b rfl)⟩
theorem AR.lt{h:Hp}{s:Value}{e sz n:Nat}{cells:List Value}(x:AR h s e sz n cells){b:Nat}(hb:blk s=some b):b<h.size:=by
 obtain⟨_,⟨rfl,rfl⟩|⟨b',cap,rest,rfl,h1,h2,h3⟩⟩:=x
 ·cases hb
 ·cases hb;exact Ap h3
theorem AR.val{h:Hp}{s:Value}{e sz n:Nat}{cells:List Value}(x:AR h s e sz n cells):∃a cap,s= .slice a n cap:=by
 obtain⟨_,⟨rfl,rfl⟩|⟨b',cap,rest,rfl,h1,h2,h3⟩⟩:=x
 ·exact⟨_,_,rfl⟩
 ·exact⟨_,_,rfl⟩
theorem FT{b e:Nat}{f:Nat×Nat}:∀(vs:List Value) (off:Nat) (h:Hp) (c:List Value),h[b]?=some (.cells c.toArray e f)->off+vs.length<=c.length->
  Cm h b off vs=h.setIfInBounds b (.cells (c.take off++vs++c.drop (off+vs.length)).toArray e f)
 | [],off,h,c,hb,hl=>by
  unfold Cm
  apply Array.ext_getElem?
  intro i
  by_cases hi:b=i
  ·subst hi;rw [AJ hb,hb];simp
  ·rw [AX _ hi]
 | v::vs,off,h,c,hb,hl=>by
  have uL:off<c.length:=by simp at hl;omega
  have DN:(Af h ⟨b,off,none⟩ v)[b]?=some (.cells (c.set off v).toArray e f):=by
   rw [EG,if_pos rfl,hb];simp
  unfold Cm
  rw [FT vs (off+1) _ _ DN (by simp at hl⊢;omega)]
  have e1:Af h ⟨b,off,none⟩ v=h.setIfInBounds b (.cells (c.set off v).toArray e f):=by
   apply Array.ext_getElem?
   intro i
   by_cases hi:b=i
   ·subst hi;rw [AJ hb,DN]
   ·rw [AX _ hi,Cq _ _ _ hi]
  rw [e1,set_set]
  congr 2
  have h1:(c.set off v).take (off+1)=c.take off++[v]:=by
   rw [List.take_set,List.take_succ_eq_append_getElem uL,List.set_append_right _ _ (by simp;omega)]
   simp [Nat.min_eq_left (Nat.le_of_lt uL)]
  have h2:(c.set off v).drop (off+1+vs.length)=c.drop (off+(v::vs).length):=by
   rw [List.drop_set_of_lt (by omega)];simp;congr 1;omega
  rw [h1,h2]
  simp
section
variable{P:Program}{main:Bool}{S:Cp Γ}{f:FuncId}{n:Nat}{k:List Item}{env:Env}{ds:List Deferred}{h:Hp}{δ:Ix Γ}{R:Cv Γ}
variable{ops:Array Oper}{l:List Oper}{d:Nat}{ty:TypeId}{pos:String}{af:Array Edge}{g:Option (Nat×Bool)}
theorem Js{b:Nat}{vs:List Value}{Q:Array Value->Hp->Ix Γ->Prop}{X:Value->Hp->Ix Γ->Prop}(hc:A0 h b 0 vs)(hq:Q vs.toArray h δ):Aj P S (loadCells ⟨b,0,none⟩ vs.length) h δ Q X:=
 HW vs 0 #[] (fun j v hv=>by simpa using hc j v hv) (by simpa using hq)
theorem CA{b e:Nat}{fz:Nat×Nat}{vs rest:List Value}(hb:h[b]?=some (.cells (vs++rest).toArray e fz)):A0 h b 0 vs:=fun i v hv=>by
 have hi:i<vs.length:=by
  rcases EM i vs.length with x|x
  ·exact x
  ·rw [Iz x]at hv;cases hv
 refine AD hb ?_
 simp only [Nat.zero_add,List.getElem?_toArray,List.getElem?_append_left hi,hv]
theorem C0{b e:Nat}{fz:Nat×Nat}{vs:List Value}(hb:h[b]?=some (.cells vs.toArray e fz)):A0 h b 0 vs:=CA (rest:=[]) (by rw [DI];exact hb)
theorem Ml{t e sz C9:Nat}{z:Value}[PV:Cw P e sz C9 z][hu:Es P t (.slice e)]{s x:Value}{m c' b' e':Nat}{fz:Nat×Nat}{cells new:List Value}{Q:Value->Hp->Ix Γ->Prop}{X:Value->Hp->Ix Γ->Prop}
  (hs:AR h s e sz m cells) (hx:x= .slice (some ⟨b',0,none⟩) 1 c') (DN:h[b']?=some (.cells new.toArray e' fz)) (Gu:new.length=sz) (Ky:∀v∈new,OneCell v) (Nz:(m+1)*C9<=140737488355328) (hm:m<1000000000000) (hz:z.cells.size=sz) (hS:∀b o,blk s=some b->¬S.still δ.g ⟨b,o,none⟩)
  (hq:∀s' h',AR h' s' e sz (m+1) (cells++new)->AN (fun b=>blk s=some b) h h'->(∀b,blk s'=some b->blk s=some b\/b=h.size)->Q s' h' δ):
  Aj P S (Builtin.append_ #[t,t] ty #[s,x]) h δ Q X:=by
 subst hx
 obtain⟨inf,NA,W9,fB,Xb⟩:=PV.get
 obtain⟨a,cap,rfl⟩:=hs.val
 have Yn:∀{Q':Array Value->Hp->Ix Γ->Prop},Q' new.toArray h δ->Aj P S (Builtin.firstCells sz 1 (.slice (some ⟨b',0,none⟩) 1 c')) h δ Q' X:=fun {Q'} Eh=>by
  show Aj P S (loadCells ⟨b',0,none⟩ (1*sz)) h δ Q' X
  rw [Nat.one_mul,<-Gu]
  exact Js (CA (rest:=[]) (by simpa using DN)) Eh
 have cZ:=hu.out
 unfold Builtin.append_
 show Aj P S (underlying t >>= _) h δ Q X
 refine An cZ ?_
 show Aj P S (sizeOf e >>= _) h δ Q X
 refine Cb NA ?_
 rw [W9]
 show Aj P S (underlying t >>= _) h δ Q X
 refine An cZ ?_
 refine A1 ?_
 show Aj P S (pure 1 >>= _) h δ Q X
 refine A1 ?_
 simp only []
 by_cases hle:m+1<=cap
 ·rw [if_pos hle]
  show Aj P S (Builtin.firstCells sz 1 (.slice (some ⟨b',0,none⟩) 1 c') >>= _) h δ Q X
  refine AM _ _ _ _ _ _ (Yn ?_)
  obtain⟨hl,⟨he,rfl⟩|⟨b,WI,rest,he,h1,h2,h3⟩⟩:=hs
  ·cases he;omega
  cases he
  show Aj P S (storeCells ((⟨b,0,none⟩:Addr).add (m*sz)) new >>= _) h δ Q X
  rw [add_eq]
  have Pz:m*sz+new.length<=(cells++rest).length:=by
   rw [C1,hl,h2,Gu,<-Nat.succ_mul,<-Nat.add_mul]
   exact Nat.mul_le_mul_right _ (by omega)
  refine AM _ _ _ _ _ _ (Gz new 0 h Ky (fun j hj=>⟨?_,AS h3,hS b _ rfl⟩) ?_)
  ·refine⟨(cells++rest)[m*sz+j]'(by omega),AD h3 ?_⟩
   simp only [List.getElem?_toArray]
   rw [show 0+m*sz+0+j=m*sz+j by omega,Cl (by omega)]
  ·rw [FT new _ h _ h3 (by omega)]
   have e1:(cells++rest).take (0+m*sz+0)=cells:=by rw [show 0+m*sz+0=cells.length by omega,List.take_left'];rfl
   have e2:(cells++rest).drop (0+m*sz+0+new.length)=rest.drop sz:=by
    rw [show 0+m*sz+0+new.length=cells.length+sz by omega,List.drop_append]
    simp
   rw [e1,e2]
   refine EV (Q:=_) ?_
   refine hq _ _ ⟨by rw [C1,hl,Gu,Nat.succ_mul],.inr ⟨b,cap,rest.drop sz,rfl,hle,?_,AJ h3⟩⟩ (AN.set _ _ _ rfl) (fun b' DN=>.inl DN)
   rw [List.length_drop,h2,show cap-m=(cap-(m+1))+1 by omega,Nat.succ_mul];omega
 ·rw [if_neg hle]
  have yu:IntKind.i64.max=9223372036854775807:=by decide
  refine Em NA ?_
  rw [if_neg (by rw [yu];omega)]
  refine Em NA ?_
  have AFc:cap<=m:=by omega
  rw [if_neg (by rw [fB];have:=growslice_fits (need:=m+1) (old:=cap) (bytes:=C9) (by omega) Nz;omega)]
  refine AM _ _ _ _ _ _ ?_
  intro MJ jb
  have hge:m+1<=MJ:=by
   rcases jb with⟨h1,h2⟩|⟨h1,t',h2⟩
   ·cases h1
   ·rw [h2];exact Nat.le_add_right _ _
  refine EV (Q:=_) ?_
  refine Em NA ?_
  have Pz:∀{Q':Unit->Hp->Ix Γ->Prop},Q' () h δ->Aj P S (askRoom (MJ*inf.bytes)) h δ Q' X:=fun {Q'} Eh=>by
   unfold askRoom
   split
   ·exact⟨nofun,nofun,Eh⟩
   ·exact Eh
  refine AM _ _ _ _ _ _ (Pz ?_)
  have hold:∀{Q':Array Value->Hp->Ix Γ->Prop},Q' cells.toArray h δ->Aj P S (Builtin.firstCells sz m (.slice a m cap)) h δ Q' X:=fun {Q'} Eh=>by
   obtain⟨hl,⟨he,rfl⟩|⟨b,WI,rest,he,h1,h2,h3⟩⟩:=hs
   ·cases he
    have:cells=[]:=by simpa using hl
    subst this
    exact Eh
   ·cases he
    show Aj P S (loadCells ⟨b,0,none⟩ (m*sz)) h δ Q' X
    rw [<-hl]
    exact Js (CA h3) Eh
  show Aj P S (Builtin.firstCells sz m (.slice a m cap) >>= _) h δ Q X
  refine AM _ _ _ _ _ _ (hold ?_)
  show Aj P S (Builtin.firstCells sz 1 (.slice (some ⟨b',0,none⟩) 1 c') >>= _) h δ Q X
  refine AM _ _ _ _ _ _ (Yn ?_)
  refine Cf NA Xb ?_
  refine⟨Gw,?_⟩
  refine EV (Q:=_) ?_
  have hzc:(Builtin.zeroCells z.cells (MJ-(m+1))).toList.length=(MJ-(m+1))*sz:=by simp [Builtin.zeroCells,hz]
  refine hq _ _ ⟨by rw [C1,hs.1,Gu,Nat.succ_mul],.inr ⟨h.size,MJ,(Builtin.zeroCells z.cells (MJ-(m+1))).toList,rfl,hge,hzc,?_⟩⟩ (AN.push _ _) (fun b hb=>.inr (by cases hb;rfl))
  rw [AG]
  congr 2
  simp
theorem D9{t e sz C9:Nat}{z:Value}[Cw P e sz C9 z][Es P t (.slice e)]{x y:Operand}{s:Value}{m c' b' e':Nat}{fz:Nat×Nat}{cells new:List Value}
  (hw:Al ops env g=some true) (hd:Nat.blt d n=true) (hx:ev env x=some s) (hy:ev env y=some (.slice (some ⟨b',0,none⟩) 1 c'))
  (hs:AR h s e sz m cells) (DN:h[b']?=some (.cells new.toArray e' fz)) (Gu:new.length=sz) (Ky:∀v∈new,OneCell v) (Nz:(m+1)*C9<=140737488355328) (hm:m<1000000000000) (hz:z.cells.size=sz) (hS:∀b o,blk s=some b->¬S.still δ.g ⟨b,o,none⟩)
  (hn:∀s' h',AR h' s' e sz (m+1) (cells++new)->AN (fun b=>blk s=some b) h h'->(∀b,blk s'=some b->blk s=some b\/b=h.size)->ER P main S f n ops l k ((d,s')::env) ds h' δ R):
  ER P main S f n ops (⟨some d,.call {callee:=.builtin .append,args:=#[x,y],argTypes:=#[t,t]},ty,pos,af,g⟩::l) k env ds h δ R:=by
 refine YW (Q:=fun s' h' AW=>AW=δ/\AR h' s' e sz (m+1) (cells++new)/\AN (fun b=>blk s=some b) h h'/\(∀b,blk s'=some b->blk s=some b\/b=h.size)) hw hd (fun ρ Aa=>Fq (vs:=#[s,.slice (some ⟨b',0,none⟩) 1 c']) (by simp [Aa x _ hx,Aa y _ hy]) fun cs=>?_) ?_
 ·show Aj P S (Builtin.append_ #[t,t] ty #[s,.slice (some ⟨b',0,none⟩) 1 c'] >>= fun v=>pure (Next.value v)) h δ _ _
  exact AM _ _ _ _ _ _ (Ml hs rfl DN Gu Ky Nz hm hz hS (fun s' h' h1 h2 h3=>⟨s',rfl,rfl,h1,h2,h3⟩))
 ·rintro s' h' AW ⟨rfl,h1,h2,h3⟩
  exact hn s' h' h1 h2 h3
theorem LB{t e sz C9 len:Nat}{z:Value}{ps:Array (Nat×Operand)}{parts:List (Nat×Value)}{cells:Array Value}[PV:Cw P e sz C9 z][hu:Es P t (.slice e)](hw:Al ops env g=some true)(hd:Nat.blt d n=true)(hp:Xk env ps.toList=some parts)(Ey:0<len*sz)(R9:len*sz<=1000000)
  (hf:Instr.fill (fun i=>some (i*sz,sz)) ((Array.range (len*sz)).map (z.cells[· % z.cells.size]!)) parts=some cells)
  (hn:ER P main S f n ops l k ((d,.slice (some ⟨h.size,0,none⟩) len len)::env) ds (h.push (.cells cells e)) δ R):ER P main S f n ops (⟨some d,.buildSlice t len ps,ty,pos,af,g⟩::l) k env ds h δ R:=by
 refine DW hw hd (fun ρ Q X Aa hq=>?_) hn
 have e1:(ps.map fun(i,x)=>(i,ρ x))=parts.toArray:=by
  obtain⟨ps⟩:=ps
  simp only [List.map_toArray]
  rw [<-OI Aa ps parts hp]
 unfold execOp
 dsimp only
 rw [e1]
 refine AM _ _ _ _ _ _ ?_
 obtain⟨inf,NA,W9,fB,Xb⟩:=PV.get
 unfold Instr.buildSlice
 refine An hu.out ?_
 refine Cb NA ?_
 rw [W9,if_neg (by omega),if_neg (by omega)]
 refine Cf NA Xb ?_
 refine A1 ?_
 have Xd:Instr.fill (fun i=>some (i*sz,sz)) ((Array.range (len*sz)).map (z.cells[· % z.cells.size]!)) parts.toArray.toList=some cells:=hf
 dsimp only
 rw [Xd]
 exact⟨Gw,hq⟩
theorem YZ{a:Array Value}{sz:Nat}(h:a.size=sz):(Array.range (1*sz)).map (a[· % a.size]!)=a:=by
 subst h
 apply Array.ext
 ·simp
 ·intro i h1 h2
  simp [Nat.mod_eq_of_lt h2,h2]
theorem LA{t e sz C9:Nat}{z:Value}{ps:Array (Nat×Operand)}{parts:List (Nat×Value)}{cells:Array Value}[Cw P e sz C9 z][Es P t (.slice e)](hw:Al ops env g=some true)(hd:Nat.blt d n=true)(hp:Xk env ps.toList=some parts)(Ey:0<sz)(R9:sz<=1000000)(hz:z.cells.size=sz)
  (hf:Instr.fill (fun i=>some (i*sz,sz)) z.cells parts=some cells)
  (hn:ER P main S f n ops l k ((d,.slice (some ⟨h.size,0,none⟩) 1 1)::env) ds (h.push (.cells cells e)) δ R):ER P main S f n ops (⟨some d,.buildSlice t 1 ps,ty,pos,af,g⟩::l) k env ds h δ R:=
 LB hw hd hp (by omega) (by omega) (by rw [YZ hz];exact hf) hn
theorem Fv{t e sz C9:Nat}{z:Value}{ps:Array (Nat×Operand)}{parts:List (Nat×Value)}{cells:Array Value}[Cw P e sz C9 z][Es P t (.slice e)](hn:ER P main S f n ops l k ((d,.slice (some ⟨h.size,0,none⟩) 1 1)::env) ds (h.push (.cells cells e)) δ R)(hw:Al ops env g=some true:=by exact rfl)(hd:Nat.blt d n=true:=by exact rfl)(hp:Xk env ps.toList=some parts:=by exact rfl)(Ey:0<sz:=by omega)(R9:sz<=1000000:=by omega)(hz:z.cells.size=sz:=by exact rfl)(hf:Instr.fill (fun i=>some (i*sz,sz)) z.cells parts=some cells:=by exact rfl):ER P main S f n ops (⟨some d,.buildSlice t 1 ps,ty,pos,af,g⟩::l) k env ds h δ R:=LA hw hd hp Ey R9 hz hf hn
theorem zt{t e C9 m:Nat}{z:Value}{x y:Operand}[PV:Cw P e 1 C9 z][hu:Es P t (.slice e)](hw:Al ops env g=some true)(hd:Nat.blt d n=true)(hx:ev env x=some (.int .i64 m))(hy:ev env y=some (.int .i64 m))
  (Nz:C9*m<=140737488355328) (hm:m<1000000000000) (hz:z.cells=#[z])
  (hn:∀s h',AR h' s e 1 m (List.replicate m z)->h'=h.push (.cells (List.replicate m z).toArray e)->blk s=some h.size->ER P main S f n ops l k ((d,s)::env) ds h' δ R):ER P main S f n ops (⟨some d,.makeSlice t x y,ty,pos,af,g⟩::l) k env ds h δ R:=by
 refine DW (v:=.slice (some ⟨h.size,0,none⟩) m m) (h':=h.push (.cells (List.replicate m z).toArray e)) hw hd (fun ρ Q X Aa hq=>?_) (hn _ _ ⟨by simp,.inr ⟨h.size,m,[],rfl,Nat.le_refl _,by simp,by rw [AG];simp⟩⟩ rfl rfl)
 show Aj P S (Instr.makeSlice t (ρ x) (ρ y) >>= fun v=>pure (.value v)) h δ Q X
 rw [Aa x _ hx,Aa y _ hy]
 refine AM _ _ _ _ _ _ ?_
 obtain⟨inf,NA,W9,fB,Xb⟩:=PV.get
 have wP:IntKind.i64.wrap ((m:Int))=m:=i64_in (by omega) (by omega)
 unfold Instr.makeSlice
 show Aj P S (underlying t >>= _) h δ _ X
 refine An hu.out ?_
 refine A1 ?_
 refine A1 ?_
 refine Em NA ?_
 simp only [wP,fB]
 have hc:¬((C9:Int)*m > 2 ^ 48):=by
  have:=Int.ofNat_le.mpr Nz
  rw [Int.natCast_mul]at this
  have e:(2:Int) ^ 48=281474976710656:=by decide
  rw [e]
  omega
 rw [if_neg (by rw [Gj (by omega:¬((m:Int)<0)),Gj hc,Gj (by omega:¬((m:Int) > m))];decide)]
 have Pz:∀{Q':Unit->Hp->Ix Γ->Prop},Q' () h δ->Aj P S (askRoom (((m:Int)).toNat*C9)) h δ Q' X:=fun {Q'} Eh=>by
  unfold askRoom
  split
  ·exact⟨nofun,nofun,Eh⟩
  ·exact Eh
 refine AM _ _ _ _ _ _ (Pz ?_)
 refine Cb NA ?_
 rw [W9]
 have A0:∀zs:Array Value,(m=0\/zs=#[z])->Array.map (fun x=>zs[x % zs.size]!) (Array.range (((m:Int)).toNat*1))=(List.replicate m z).toArray:=fun zs wE=>by
  rcases wE with rfl|rfl
  ·simp
  ·apply Array.ext'
   simp
   apply List.ext_getElem
   ·simp
   ·intro i h1 h2;simp [Nat.mod_one]
 split
 ·refine A1 ?_
  rename_i h0
  refine⟨Gw,?_⟩
  rw [A0 _ (.inl (by omega))]
  exact hq
 ·refine Cf NA Xb ?_
  refine A1 ?_
  refine⟨Gw,?_⟩
  rw [A0 _ (.inr hz)]
  exact hq
end
section
variable{P:Program}{main:Bool}{S:Cp Γ}{f:FuncId}{n:Nat}{k:List Item}{env:Env}{ds:List Deferred}{h:Hp}{δ:Ix Γ}{R:Cv Γ}
variable{ops:Array Oper}{l:List Oper}{d:Nat}{ty:TypeId}{pos:String}{af:Array Edge}{g:Option (Nat×Bool)}
theorem mF{x:Operand}{t e:TypeId}[Es P t (.slice e)]{a:Option Addr}{len cap:Nat}(hw:Al ops env g=some true)(hd:Nat.blt d n=true)(hx:ev env x=some (.slice a len cap))
  (hn:ER P main S f n ops l k ((d,.int .i64 len)::env) ds h δ R):ER P main S f n ops (⟨some d,.call {callee:=.builtin .len,args:=#[x],argTypes:=#[t]},ty,pos,af,g⟩::l) k env ds h δ R:=
 se (t:=t) hw hd rfl hx hn
theorem BN{x:Operand}{t e:TypeId}[Es P t (.slice e)]{a:Option Addr}{len cap:Nat}(hn:ER P main S f n ops l k ((d,.int .i64 len)::env) ds h δ R)(hw:Al ops env g=some true:=by exact rfl)(hd:Nat.blt d n=true:=by exact rfl)(hx:ev env x=some (.slice a len cap):=by exact rfl):ER P main S f n ops (⟨some d,.call {callee:=.builtin .len,args:=#[x],argTypes:=#[t]},ty,pos,af,g⟩::l) k env ds h δ R:=mF hw hd hx hn
def zX(op:BinOp)(a b:Int):Bool:=match op with
 | .eql=>decide (a=b)
 | .neq=>decide (a≠b)
 | .lss=>decide (a<b)
 | .leq=>decide (a<=b)
 | .gtr=>decide (a > b)
 | .geq=>decide (a≥b)
 | _=>false
theorem OQ{op:BinOp}{t t2:TypeId}{x y:Operand}{kd:IntKind}{a b:Int}{r:Bool}(hc:Ip op=true)(hw:Al ops env g=some true)(hd:Nat.blt d n=true)(hx:ev env x=some (.int kd a))(hy:ev env y=some (.int kd b))(hr:TJ.zX op a b=r)
  (hn:ER P main S f n ops l k ((d,.bool r)::env) ds h δ R):ER P main S f n ops (⟨some d,.binOp op t x y t2,ty,pos,af,g⟩::l) k env ds h δ R:=by
 refine s9 hc hw hd hx hy (fun hp=>?_) (fun hp=>?_)
 ·have:r=true:=by subst hr;cases op <;> first|exact H9 hp|cases hc
  rw [<-this];exact hn
 ·have:r=false:=by subst hr;cases op <;> first|exact Gj hp|cases hc
  rw [<-this];exact hn
end
theorem AR.cell{h:Hp}{s:Value}{e sz m:Nat}{cells:List Value}(x:AR h s e sz m cells)(hm:0<m):∃b cap,s= .slice (some ⟨b,0,none⟩) m cap/\(∀j v,cells[j]?=some v->AF h ⟨b,j,none⟩=some v)/\∀o,Bf h ⟨b,o,none⟩=false:=by
 obtain⟨hl,⟨rfl,rfl⟩|⟨b,cap,rest,rfl,h1,h2,h3⟩⟩:=x
 ·omega
 ·refine⟨b,cap,rfl,fun j v hv=>by simpa using CA h3 j v hv,fun o=>AS h3⟩
theorem AR.set{h:Hp}{b cap e sz m:Nat}{cells:List Value}(x:AR h (.slice (some ⟨b,0,none⟩) m cap) e sz m cells){j:Nat}(hj:j<cells.length)(v:Value):AR (Af h ⟨b,j,none⟩ v) (.slice (some ⟨b,0,none⟩) m cap) e sz m (cells.set j v):=by
 obtain⟨hl,⟨he,rfl⟩|⟨b',WI,rest,he,h1,h2,h3⟩⟩:=x
 ·cases he
 ·cases he
  refine⟨by simpa using hl,.inr ⟨b,cap,rest,rfl,h1,h2,?_⟩⟩
  rw [EG,if_pos rfl,h3]
  simp [hj]
end
section
open Go Go.Conc
variable{Γ:Type}
section
variable{P:Program}{main:Bool}{S:Cp Γ}{f:FuncId}{n:Nat}{k:List Item}{env:Env}{ds:List Deferred}{h:Hp}{δ:Ix Γ}{R:Cv Γ}
variable{ops:Array Oper}{l:List Oper}{d:Nat}{ty:TypeId}{pos:String}{af:Array Edge}{g:Option (Nat×Bool)}
theorem Ot{op:Op}{dst:Option Nat}{x:Operand}{args:Array Operand}{FL:Array TypeId}{c:FuncId}{first cap vs:Array Value}[hb:AT P c]{ρ:Operand->Value}{Q:Next->Hp->Ix Γ->Prop}{X:Value->Hp->Ix Γ->Prop}
  (G6:op= .call {callee:=.value x,args,argTypes:=FL}) (hx:ρ x= .func (.func c) first cap) (ha:args.map ρ=vs) (hq:Q (.enter c (first++vs++cap)) h δ):Aj P S (execOp ρ ⟨dst,op,ty,pos,af,g⟩) h δ Q X:=by
 subst G6
 show Aj P S (Deferred.ofValue (ρ x) (args.map ρ) >>= fun d=>invoke d.target d.args) h δ Q X
 rw [hx,ha]
 obtain⟨fn,code,h1,h2,h3⟩:=hb.out
 show Aj P S (callFunc c ((first++vs)++cap)) h δ Q X
 exact Ko h1 h2 h3 hq
def Ge(Q:Value->Hp->Ix Γ->Prop)(X:List PanicEntry->Hp->Ix Γ->Prop):Cv Γ
 | .ret v,h,δ=>Q v h δ
 | .Rh p,h,δ=>X p h δ
theorem AY.Ni{c:FuncId}{args:Array Value}{Q Q':Value->Hp->Ix Γ->Prop}{X:List PanicEntry->Hp->Ix Γ->Prop}(hc:AY P main S c args h δ (Ge Q X))(hq:∀v h' AW,Q v h' AW->Q' v h' AW):AY P main S c args h δ (Ge Q' X):=
 hc.mono (by
  rintro(v|p) h δ hx
  ·exact hq _ _ _ hx
  ·exact hx)
theorem ZC{fn:Func}{p:List PanicEntry}[hf:BC P f fn](hR:R (.Rh p) h δ):EU P main S f n (.panicking p) env [] h δ R:=
 fun _ ka=>WU.jG ka.defers hf.out hR
theorem Dr{fn:Func}[hf:BC P f fn]{x:Operand}{args:Array Operand}{FL:Array TypeId}{c:FuncId}{first cap ws:Array Value}{vs:List Value}[AT P c]{Q:Value->Hp->Ix Γ->Prop}{X:List PanicEntry->Hp->Ix Γ->Prop}(hw:Al ops env g=some true)(hd:Nat.blt d n=true)(hx:ev env x=some (.func (.func c) first cap))
  (ha:Pq env args.toList=some vs) (My:first++vs.toArray++cap=ws) (hc:AY P main S c ws h δ (Ge Q X)) (hX:∀p h' AW,X p h' AW->R (.Rh p) h' AW)
  (hn:∀v h' AW,Q v h' AW->ER P main S f n ops l k ((d,v)::env) [] h' AW R):ER P main S f n ops (⟨some d,.call {callee:=.value x,args,argTypes:=FL},ty,pos,af,g⟩::l) k env [] h δ R:=by
 subst My
 refine gn hw hd (fun _ _ _ Aa hq=>Ot rfl (Aa x _ hx) (C4 Aa ha) hq) (hc.mono ?_)
 rintro(v|p) h' AW hq
 ·exact hn _ _ _ hq
 ·exact ZC (hX _ _ _ hq)
variable{Z:Hp->Prop}{zz:Nat}{m:Nat}{listed l':Array Bool}
theorem mE(i:Nat){op:Op}{Q:Value->Hp->Ix Γ->Prop}
  (hi:ops[i]?=some ⟨some d,op,ty,pos,af,g⟩) (hr:Region.ready .any ops listed=[i]) (hl:listed.setIfInBounds i true=l') (hd:Nat.blt d n=true) (hw:Al ops env g=some true)
  (hs:∀ρ:Operand->Value,(∀x v,ev env x=some v->ρ x=v)->∀X,Aj P S (execOp ρ ⟨some d,op,ty,pos,af,g⟩) h δ (fun nx h' AW=>∃v,nx= .value v/\Q v h' AW) X)
  (hn:∀v h' AW,Q v h' AW->Z h'/\EA P main S f n ops Z zz m l' k ((d,v)::env) ds h' AW R):EA P main S f n ops Z zz (m+1) listed k env ds h δ R:=by
 refine P8 i hi hr hl hw fun a ka=>?_
 refine HH _ _ _ (hs a.eval (fun x v hx=>ka.eval hx) _) ?_ (fun _ _ _ x=>x)
 rintro nx h' AW ⟨v,rfl,hq⟩
 exact⟨.inr (hn v h' AW hq).1,(hn v h' AW hq).2 _ (ka.put v hd)⟩
theorem F5(i:Nat){t e sz C9:Nat}{z:Value}[Cw P e sz C9 z][Es P t (.slice e)]{x y:Operand}{s:Value}{q c' b' e':Nat}{fz:Nat×Nat}{cells new:List Value}
  (hi:ops[i]?=some ⟨some d,.call {callee:=.builtin .append,args:=#[x,y],argTypes:=#[t,t]},ty,pos,af,g⟩) (hr:Region.ready .any ops listed=[i]) (hl:listed.setIfInBounds i true=l') (hd:Nat.blt d n=true) (hw:Al ops env g=some true)
  (hx:ev env x=some s) (hy:ev env y=some (.slice (some ⟨b',0,none⟩) 1 c'))
  (hs:AR h s e sz q cells) (DN:h[b']?=some (.cells new.toArray e' fz)) (Gu:new.length=sz) (Ky:∀v∈new,OneCell v) (Nz:(q+1)*C9<=140737488355328) (hm:q<1000000000000) (hz:z.cells.size=sz) (hS:∀b o,blk s=some b->¬S.still δ.g ⟨b,o,none⟩)
  (hn:∀s' h',AR h' s' e sz (q+1) (cells++new)->AN (fun b=>blk s=some b) h h'->(∀b,blk s'=some b->blk s=some b\/b=h.size)->Z h'/\EA P main S f n ops Z zz m l' k ((d,s')::env) ds h' δ R):
  EA P main S f n ops Z zz (m+1) listed k env ds h δ R:=by
 refine mE (Q:=fun s' h' AW=>AW=δ/\AR h' s' e sz (q+1) (cells++new)/\AN (fun b=>blk s=some b) h h'/\(∀b,blk s'=some b->blk s=some b\/b=h.size)) i hi hr hl hd hw (fun ρ Aa X=>Fq (vs:=#[s,.slice (some ⟨b',0,none⟩) 1 c']) (by simp [Aa x _ hx,Aa y _ hy]) fun cs=>?_) ?_
 ·show Aj P S (Builtin.append_ #[t,t] ty #[s,.slice (some ⟨b',0,none⟩) 1 c'] >>= fun v=>pure (Next.value v)) h δ _ _
  exact AM _ _ _ _ _ _ (Ml hs rfl DN Gu Ky Nz hm hz hS (fun s' h' h1 h2 h3=>⟨s',rfl,rfl,h1,h2,h3⟩))
 ·rintro s' h' AW ⟨rfl,h1,h2,h3⟩
  exact hn s' h' h1 h2 h3
theorem Er(i:Nat){x:Operand}{t e:TypeId}[Es P t (.slice e)]{a:Option Addr}{len cap:Nat}(hi:ops[i]?=some ⟨some d,.call {callee:=.builtin .len,args:=#[x],argTypes:=#[t]},ty,pos,af,g⟩)(hs:Ct ops listed zz i=true)(hl:listed.setIfInBounds i true=l')
  (hd:Nat.blt d n=true) (hw:Al ops env g=some true) (hx:ev env x=some (.slice a len cap)) (hZ:Z h)
  (hn:EA P main S f n ops Z zz m l' k ((d,.int .i64 len)::env) ds h δ R):EA P main S f n ops Z zz (m+1) listed k env ds h δ R:=
 mK (t:=t) i hi hs hl hd hw rfl hx hZ hn
theorem mC(i:Nat){c x y:Operand}{v:Value}(hi:ops[i]?=some ⟨some d,.pick c x y,ty,pos,af,g⟩)(hs:Ct ops listed zz i=true)(hl:listed.setIfInBounds i true=l')
  (hd:Nat.blt d n=true) (hw:Al ops env g=some true) (hc:ev env c=some (.bool true)) (hx:ev env x=some v) (hZ:Z h)
  (hn:EA P main S f n ops Z zz m l' k ((d,v)::env) ds h δ R):EA P main S f n ops Z zz (m+1) listed k env ds h δ R:=
 Fz i hi hs hl hd hw (fun _ _ _ _ _ Aa _ hq=>Ls (b:=true) (Aa _ _ hc) (Aa _ _ hx) hq) hZ hn
theorem IR(i:Nat){c x y:Operand}{v:Value}(hZ:Z h)(hn:EA P main S f n ops Z zz m l' k ((d,v)::env) ds h δ R)(hi:ops[i]?=some ⟨some d,.pick c x y,ty,pos,af,g⟩:=by exact rfl)(hs:Ct ops listed zz i=true:=by kernel_rfl)(hl:listed.setIfInBounds i true=l':=by exact rfl)(hd:Nat.blt d n=true:=by exact rfl)(hw:Al ops env g=some true:=by exact rfl)(hc:ev env c=some (.bool true):=by exact rfl)(hx:ev env x=some v:=by exact rfl):EA P main S f n ops Z zz (m+1) listed k env ds h δ R:=mC i hi hs hl hd hw hc hx hZ hn
theorem mB(i:Nat){c x y:Operand}{v:Value}(hi:ops[i]?=some ⟨some d,.pick c x y,ty,pos,af,g⟩)(hs:Ct ops listed zz i=true)(hl:listed.setIfInBounds i true=l')
  (hd:Nat.blt d n=true) (hw:Al ops env g=some true) (hc:ev env c=some (.bool false)) (hx:ev env y=some v) (hZ:Z h)
  (hn:EA P main S f n ops Z zz m l' k ((d,v)::env) ds h δ R):EA P main S f n ops Z zz (m+1) listed k env ds h δ R:=
 Fz i hi hs hl hd hw (fun _ _ _ _ _ Aa _ hq=>Ls (b:=false) (Aa _ _ hc) (Aa _ _ hx) hq) hZ hn
theorem Dz(i:Nat){c x y:Operand}{v:Value}(hZ:Z h)(hn:EA P main S f n ops Z zz m l' k ((d,v)::env) ds h δ R)(hi:ops[i]?=some ⟨some d,.pick c x y,ty,pos,af,g⟩:=by exact rfl)(hs:Ct ops listed zz i=true:=by kernel_rfl)(hl:listed.setIfInBounds i true=l':=by exact rfl)(hd:Nat.blt d n=true:=by exact rfl)(hw:Al ops env g=some true:=by exact rfl)(hc:ev env c=some (.bool false):=by exact rfl)(hx:ev env y=some v:=by exact rfl):EA P main S f n ops Z zz (m+1) listed k env ds h δ R:=mB i hi hs hl hd hw hc hx hZ hn
theorem l6(i:Nat){op:BinOp}{t t2:TypeId}{x y:Operand}{kd:IntKind}{a b:Int}(hi:ops[i]?=some ⟨some d,.binOp op t x y t2,ty,pos,af,g⟩)(hs:Ct ops listed zz i=true)(hl:listed.setIfInBounds i true=l')
  (hd:Nat.blt d n=true) (hw:Al ops env g=some true) (hc:Ip op=true) (hx:ev env x=some (.int kd a)) (hy:ev env y=some (.int kd b)) (hp:JR op a b) (hZ:Z h)
  (hn:EA P main S f n ops Z zz m l' k ((d,.bool true)::env) ds h δ R):EA P main S f n ops Z zz (m+1) listed k env ds h δ R:=
 UJ i hi hs hl hd hw hx hy (O1 hc hp) hZ hn
theorem G8(i:Nat){op:BinOp}{t t2:TypeId}{x y:Operand}{kd:IntKind}{a b:Int}(hZ:Z h)(hn:EA P main S f n ops Z zz m l' k ((d,.bool true)::env) ds h δ R)(hi:ops[i]?=some ⟨some d,.binOp op t x y t2,ty,pos,af,g⟩:=by exact rfl)(hs:Ct ops listed zz i=true:=by kernel_rfl)(hl:listed.setIfInBounds i true=l':=by exact rfl)(hd:Nat.blt d n=true:=by exact rfl)(hw:Al ops env g=some true:=by exact rfl)(hc:Ip op=true:=by exact rfl)(hx:ev env x=some (.int kd a):=by exact rfl)(hy:ev env y=some (.int kd b):=by exact rfl)(hp:JR op a b:=by first|(dsimp only [JR];omega)|exact rfl|exact Int.le_refl _):EA P main S f n ops Z zz (m+1) listed k env ds h δ R:=l6 i hi hs hl hd hw hc hx hy hp hZ hn
theorem l5(i:Nat){op:BinOp}{t t2:TypeId}{x y:Operand}{kd:IntKind}{a b:Int}(hi:ops[i]?=some ⟨some d,.binOp op t x y t2,ty,pos,af,g⟩)(hs:Ct ops listed zz i=true)(hl:listed.setIfInBounds i true=l')
  (hd:Nat.blt d n=true) (hw:Al ops env g=some true) (hc:Ip op=true) (hx:ev env x=some (.int kd a)) (hy:ev env y=some (.int kd b)) (hp:¬JR op a b) (hZ:Z h)
  (hn:EA P main S f n ops Z zz m l' k ((d,.bool false)::env) ds h δ R):EA P main S f n ops Z zz (m+1) listed k env ds h δ R:=
 UJ i hi hs hl hd hw hx hy (O2 hc hp) hZ hn
theorem Dy(i:Nat){op:BinOp}{t t2:TypeId}{x y:Operand}{kd:IntKind}{a b:Int}(hZ:Z h)(hn:EA P main S f n ops Z zz m l' k ((d,.bool false)::env) ds h δ R)(hi:ops[i]?=some ⟨some d,.binOp op t x y t2,ty,pos,af,g⟩:=by exact rfl)(hs:Ct ops listed zz i=true:=by kernel_rfl)(hl:listed.setIfInBounds i true=l':=by exact rfl)(hd:Nat.blt d n=true:=by exact rfl)(hw:Al ops env g=some true:=by exact rfl)(hc:Ip op=true:=by exact rfl)(hx:ev env x=some (.int kd a):=by exact rfl)(hy:ev env y=some (.int kd b):=by exact rfl)(hp:¬JR op a b:=by first|(dsimp only [JR];omega)|exact rfl|exact Int.le_refl _):EA P main S f n ops Z zz (m+1) listed k env ds h δ R:=l5 i hi hs hl hd hw hc hx hy hp hZ hn
theorem Hv(i:Nat){t t2:TypeId}{x y:Operand}{kd:IntKind}{a b r:Int}(hi:ops[i]?=some ⟨some d,.binOp .mul t x y t2,ty,pos,af,g⟩)(hs:Ct ops listed zz i=true)(hl:listed.setIfInBounds i true=l')
  (hd:Nat.blt d n=true) (hw:Al ops env g=some true) (hx:ev env x=some (.int kd a)) (hy:ev env y=some (.int kd b)) (oR:kd.wrap (a*b)=r) (hZ:Z h)
  (hn:EA P main S f n ops Z zz m l' k ((d,.int kd r)::env) ds h δ R):EA P main S f n ops Z zz (m+1) listed k env ds h δ R:=
 UJ i hi hs hl hd hw hx hy (by rw [binOp_mul,oR]) hZ hn
theorem QM{t sz C9:Nat}{z:Value}[i:Cw P t sz C9 z]{ρ:Operand->Value}{dst:Option Nat}{Q:Next->Hp->Ix Γ->Prop}{X:Value->Hp->Ix Γ->Prop}(hq:Q (.value (.pointer (some ⟨h.size,0,none⟩))) (h.push (.cells z.cells t)) δ):Aj P S (execOp ρ ⟨dst,.alloc t,ty,pos,af,g⟩) h δ Q X:=by
 show Aj P S (Instr.alloc t true (.tuple #[]) >>= fun v=>pure (.value v)) h δ Q X
 refine AM _ _ _ _ _ _ ?_
 unfold Instr.alloc
 obtain⟨inf,h1,h2,h3,h4⟩:=i.get
 exact Cf h1 h4 ⟨Gw,hq⟩
theorem Fa{t sz C9:Nat}{cs:Array Value}[Cw P t sz C9 (.agg cs)]{ρ:Operand->Value}{dst:Option Nat}{Q:Next->Hp->Ix Γ->Prop}{X:Value->Hp->Ix Γ->Prop}(hq:Q (.value (.pointer (some ⟨h.size,0,none⟩))) (h.push (.cells cs t)) δ):Aj P S (execOp ρ ⟨dst,.alloc t,ty,pos,af,g⟩) h δ Q X:=
 QM (z:=.agg cs) hq
theorem Bw{h:Hp}{c vs:List Value}{e:TypeId}{f:Nat×Nat}(hl:c.length=vs.length):Cm (h.push (.cells c.toArray e f)) h.size 0 vs=h.push (.cells vs.toArray e f):=by
 rw [FT vs 0 _ c (AG _ _) (by omega),CC]
 congr 2
 simp [<-hl]
theorem De{t sz C9:Nat}{z:Value}{pl:List (Nat×Nat)}[Cw P t sz C9 z][DF P t pl]{ps:Array (Nat×Operand)}{parts:List (Nat×Value)}{cells:Array Value}{ρ:Operand->Value}{dst:Option Nat}{Q:Next->Hp->Ix Γ->Prop}{X:Value->Hp->Ix Γ->Prop}
  (Aa:∀x v,ev env x=some v->ρ x=v) (hp:Xk env ps.toList=some parts) (hf:Instr.fill (fun i=>pl.toArray[i]?) z.cells parts=some cells) (hq:Q (.value (.agg cells)) h δ):Aj P S (execOp ρ ⟨dst,.build t ps,ty,pos,af,g⟩) h δ Q X:=by
 have e1:(ps.map fun(i,x)=>(i,ρ x))=parts.toArray:=by
  obtain⟨ps⟩:=ps
  simp only [List.map_toArray]
  rw [<-OI Aa ps parts hp]
 unfold execOp
 dsimp only
 rw [e1]
 exact AM _ _ _ _ _ _ (Ou (parts:=parts.toArray) hf hq)
theorem BW{t e sz C9:Nat}{z:Value}{ps:Array (Nat×Operand)}{parts:List (Nat×Value)}{cells:Array Value}[PV:Cw P e sz C9 z][hu:Es P t (.slice e)]{ρ:Operand->Value}{dst:Option Nat}{Q:Next->Hp->Ix Γ->Prop}{X:Value->Hp->Ix Γ->Prop}
  (Aa:∀x v,ev env x=some v->ρ x=v) (hp:Xk env ps.toList=some parts) (Ey:0<sz) (R9:sz<=1000000) (hz:z.cells.size=sz) (hf:Instr.fill (fun i=>some (i*sz,sz)) z.cells parts=some cells)
  (hq:Q (.value (.slice (some ⟨h.size,0,none⟩) 1 1)) (h.push (.cells cells e)) δ):Aj P S (execOp ρ ⟨dst,.buildSlice t 1 ps,ty,pos,af,g⟩) h δ Q X:=by
 have e1:(ps.map fun(i,x)=>(i,ρ x))=parts.toArray:=by
  obtain⟨ps⟩:=ps
  simp only [List.map_toArray]
  rw [<-OI Aa ps parts hp]
 unfold execOp
 dsimp only
 rw [e1]
 refine AM _ _ _ _ _ _ ?_
 obtain⟨inf,NA,W9,fB,Xb⟩:=PV.get
 unfold Instr.buildSlice
 refine An hu.out ?_
 refine Cb NA ?_
 rw [W9,if_neg (by omega),if_neg (by omega)]
 refine Cf NA Xb ?_
 refine A1 ?_
 have Xd:Instr.fill (fun i=>some (i*sz,sz)) ((Array.range (1*sz)).map (z.cells[· % z.cells.size]!)) parts.toArray.toList=some cells:=by rw [YZ hz];exact hf
 dsimp only
 rw [Xd]
 exact⟨Gw,hq⟩
end
end
section
open Go Go.Conc
variable{Γ:Type}
structure Mem(K:Type) where
 ok:K->Prop
 B:K->Nat
 O:K->Obj
section
variable{K:Type}
structure LR(h:Hp)(M:Mem K):Prop where
 has:∀k,M.ok k->h[M.B k]?=some (M.O k)
 inj:∀k k',M.ok k->M.ok k'->M.B k=M.B k'->k=k'
variable{h h':Hp}{M:Mem K}
theorem LR.lt(r:LR h M){k:K}(hk:M.ok k):M.B k<h.size:=Ap (r.has k hk)
theorem LR.get(r:LR h M){k:K}(hk:M.ok k){o:Obj}(ho:M.O k=o):h[M.B k]?=some o:=ho▸r.has k hk
theorem LR.cell(r:LR h M){k:K}(hk:M.ok k){c:Array Value}{e:TypeId}{f:Nat×Nat}(ho:M.O k= .cells c e f){i:Nat}{v:Value}(hv:c[i]?=some v):AF h ⟨M.B k,i,none⟩=some v:=
 AD (r.get hk ho) hv
theorem LR.upd(r:LR h M){T:Nat->Prop}(u:AN T h h')(hT:∀k,M.ok k->¬T (M.B k)):LR h' M:=⟨fun k hk=>u.get (r.has k hk) (hT k hk),r.inj⟩
theorem LR.A5(r:LR h M)(u:AN (fun _=>False) h h'):LR h' M:=r.upd u (fun _ _ x=>x)
theorem LR.congr(r:LR h M){M':Mem K}(oT:∀k,M'.ok k->M.ok k)(hB:∀k,M'.ok k->M'.B k=M.B k)(hO:∀k,M'.ok k->M'.O k=M.O k):LR h M':=
 ⟨fun k hk=>by rw [hB k hk,hO k hk];exact r.has k (oT k hk),fun i j hi hj e=>r.inj i j (oT i hi) (oT j hj) (by rw [<-hB i hi,<-hB j hj];exact e)⟩
def Mem.Own(M:Mem K)(b:Nat):Prop:=∃k,M.ok k/\b=M.B k
def Mem.Sl(M:Mem K)(k:K)(s:Value)(e:TypeId)(sz n:Nat)(cells:List Value):Prop:=
 cells.length=n*sz/\((s= .slice none 0 0/\n=0/\¬M.ok k)\/(M.ok k/\∃cap rest,s= .slice (some ⟨M.B k,0,none⟩) n cap/\n<=cap/\rest.length=(cap-n)*sz/\M.O k= .cells (cells++rest).toArray e (0,0)))
theorem Mem.Sl.nil{k:K}{e sz:Nat}(hk:¬M.ok k):M.Sl k (.slice none 0 0) e sz 0 []:=⟨by simp,.inl ⟨rfl,rfl,hk⟩⟩
theorem Mem.Sl.slice(r:LR h M){k:K}{s:Value}{e sz n:Nat}{cells:List Value}(x:M.Sl k s e sz n cells):AR h s e sz n cells:=by
 refine⟨x.1,x.2.imp (fun y=>⟨y.1,y.2.1⟩) ?_⟩
 rintro⟨hk,cap,rest,rfl,h1,h2,h3⟩
 exact⟨_,cap,rest,rfl,h1,h2,r.get hk h3⟩
theorem Mem.Sl.blk{k:K}{s:Value}{e sz n:Nat}{cells:List Value}(x:M.Sl k s e sz n cells){b:Nat}(hb:TJ.blk s=some b):M.ok k/\b=M.B k:=by
 rcases x.2 with⟨rfl,_,_⟩|⟨hk,cap,rest,rfl,_⟩
 ·cases hb
 ·cases hb;exact⟨hk,rfl⟩
theorem Mem.Sl.val{k:K}{s:Value}{e sz n:Nat}{cells:List Value}(x:M.Sl k s e sz n cells):∃a cap,s= .slice a n cap:=by
 rcases x.2 with⟨rfl,rfl,_⟩|⟨_,cap,_,rfl,_⟩
 ·exact⟨_,_,rfl⟩
 ·exact⟨_,_,rfl⟩
theorem Mem.Sl.cell(r:LR h M){k:K}{s:Value}{e sz n:Nat}{cells:List Value}(x:M.Sl k s e sz n cells)(hn:0<n):∃cap,s= .slice (some ⟨M.B k,0,none⟩) n cap/\M.ok k/\(∀j v,cells[j]?=some v->AF h ⟨M.B k,j,none⟩=some v)/\∀o,Bf h ⟨M.B k,o,none⟩=false:=by
 rcases x.2 with⟨_,rfl,_⟩|⟨hk,cap,rest,rfl,h1,h2,h3⟩
 ·omega
 ·refine⟨cap,rfl,hk,fun j v hv=>r.cell hk h3 ?_,fun o=>AS (r.get hk h3)⟩
  have hj:j<cells.length:=by
   rcases EM j cells.length with y|y
   ·exact y
   ·rw [Iz y]at hv;cases hv
  simp only [List.getElem?_toArray,List.getElem?_append_left hj,hv]
theorem Mem.Sl.congr{M':Mem K}{k:K}{s:Value}{e sz n:Nat}{cells:List Value}(x:M.Sl k s e sz n cells)(oT:M'.ok k↔M.ok k)(hB:M'.B k=M.B k)(hO:M'.O k=M.O k):M'.Sl k s e sz n cells:=by
 unfold Mem.Sl at *
 rw [oT,hB,hO];exact x
end
section
variable{K:Type}[DecidableEq K]{h h':Hp}{M:Mem K}
def ut{α:Type}(f:K->α)(k:K)(x:α):K->α:=fun j=>if j=k then x else f j
theorem AL{α:Type}(f:K->α)(k:K)(x:α):ut f k x k=x:=by simp [ut]
theorem Ai{α:Type}(f:K->α){k j:K}(x:α)(h:j≠k):ut f k x j=f j:=by simp [ut,h]
theorem Mf{α:Type}(f:K->α)(k:K)(x y:α):ut (ut f k x) k y=ut f k y:=by
 funext j;unfold ut;split <;> rfl
theorem FU{α:Type}(f:K->α)(k:K):ut f k (f k)=f:=by
 funext j;unfold ut;split
 ·rename_i e;rw [e]
 ·rfl
def Mem.set(M:Mem K)(k:K)(o:Obj):Mem K:=⟨M.ok,M.B,ut M.O k o⟩
def Mem.put(M:Mem K)(k:K)(b:Nat)(o:Obj):Mem K:=⟨fun x=>x=k\/M.ok x,ut M.B k b,ut M.O k o⟩
theorem LR.set(r:LR h M){k:K}(hk:M.ok k)(o:Obj):LR (h.setIfInBounds (M.B k) o) (M.set k o):=by
 refine⟨fun j hj=>?_,r.inj⟩
 show(h.setIfInBounds (M.B k) o)[M.B j]?=some (ut M.O k o j)
 by_cases e:j=k
 ·subst e;rw [AL];exact AJ (r.has j hj)
 ·rw [Ai _ _ e,AX _ (fun x=>e (r.inj _ _ hj hk x.symm))]
  exact r.has j hj
theorem LR.Af(r:LR h M){k:K}(hk:M.ok k){c:Array Value}{e:TypeId}{f:Nat×Nat}(ho:M.O k= .cells c e f)(i:Nat)(v:Value):LR (Af h ⟨M.B k,i,none⟩ v) (M.set k (.cells (c.setIfInBounds i v) e f)):=by
 have e1:TJ.Af h ⟨M.B k,i,none⟩ v=h.setIfInBounds (M.B k) (.cells (c.setIfInBounds i v) e f):=by
  apply Array.ext_getElem?
  intro j
  by_cases hj:M.B k=j
  ·subst hj
   rw [AJ (r.has k hk)]
   exact Fp h ⟨M.B k,i,none⟩ v (r.get hk ho) rfl
  ·rw [AX _ hj,Cq _ _ _ hj]
 rw [e1]
 exact r.set hk _
theorem LR.put(r:LR h M)(k:K)(o:Obj):LR (h.push o) (M.put k h.size o):=by
 refine⟨fun j hj=>?_,fun i j hi hj e=>?_⟩
 ·show(h.push o)[ut M.B k h.size j]?=some (ut M.O k o j)
  by_cases e:j=k
  ·subst e;rw [AL,AL];exact AG h o
  ·rw [Ai _ _ e,Ai _ _ e]
   exact Ao _ (r.has j (hj.resolve_left e))
 ·change ut M.B k h.size i=ut M.B k h.size j at e
  by_cases ei:i=k <;> by_cases ej:j=k
  ·rw [ei,ej]
  ·subst ei
   rw [AL,Ai _ _ ej]at e
   have:=r.lt (hj.resolve_left ej)
   omega
  ·subst ej
   rw [AL,Ai _ _ ei]at e
   have:=r.lt (hi.resolve_left ei)
   omega
  ·rw [Ai _ _ ei,Ai _ _ ej]at e
   exact r.inj i j (hi.resolve_left ei) (hj.resolve_left ej) e
theorem Mem.Sl.set{k j:K}{s:Value}{e sz n:Nat}{cells:List Value}(x:M.Sl k s e sz n cells)(hj:k≠j)(o:Obj):(M.set j o).Sl k s e sz n cells:=x.congr Iff.rfl rfl (Ai _ _ hj)
theorem Mem.Sl.put{k j:K}{s:Value}{e sz n:Nat}{cells:List Value}(x:M.Sl k s e sz n cells)(hj:k≠j)(b:Nat)(o:Obj):(M.put j b o).Sl k s e sz n cells:=x.congr ⟨fun y=>y.resolve_left hj,.inr⟩ (Ai _ _ hj) (Ai _ _ hj)
theorem LR.app(r:LR h M){k:K}{s s':Value}{e sz n:Nat}{cells new:List Value}(x:M.Sl k s e sz n cells)(hs:AR h' s' e sz (n+1) (cells++new))(u:AN (fun b=>TJ.blk s=some b) h h')(hb:∀b,TJ.blk s'=some b->TJ.blk s=some b\/b=h.size):
  ∃b o,LR h' (M.put k b o)/\(M.put k b o).Sl k s' e sz (n+1) (cells++new)/\((M.ok k/\b=M.B k)\/h.size<=b)/\b<h'.size:=by
 obtain⟨hl,⟨_,hn⟩|⟨b,cap,rest,rfl,h1,h2,h3⟩⟩:=hs
 ·omega
 have hold:∀j,j≠k->M.ok j->M.B j≠b/\h'[M.B j]?=some (M.O j):=fun j hj ho=>by
  have Cg:=r.lt ho
  have Rj:¬TJ.blk s=some (M.B j):=fun y=>by
   obtain⟨hk,e⟩:=x.blk y
   exact hj (r.inj _ _ ho hk e)
  refine⟨fun e=>?_,u.get (r.has j ho) Rj⟩
  rcases hb b rfl with y|y
  ·exact Rj (e▸y)
  ·omega
 refine⟨b,_,⟨fun j hj=>?_,fun i j hi hj e=>?_⟩,⟨hl,.inr ⟨.inl rfl,cap,rest,?_,h1,h2,AL _ _ _⟩⟩,?_,Ap h3⟩
 ·show h'[ut M.B k b j]?=some (ut M.O k _ j)
  by_cases e:j=k
  ·subst e;rw [AL,AL];exact h3
  ·rw [Ai _ _ e,Ai _ _ e]
   exact(hold j e (hj.resolve_left e)).2
 ·change ut M.B k b i=ut M.B k b j at e
  by_cases ei:i=k <;> by_cases ej:j=k
  ·rw [ei,ej]
  ·subst ei
   rw [AL,Ai _ _ ej]at e
   exact absurd e.symm (hold j ej (hj.resolve_left ej)).1
  ·subst ej
   rw [AL,Ai _ _ ei]at e
   exact absurd e (hold i ei (hi.resolve_left ei)).1
  ·rw [Ai _ _ ei,Ai _ _ ej]at e
   exact r.inj i j (hi.resolve_left ei) (hj.resolve_left ej) e
 ·show Value.slice (some ⟨b,0,none⟩) (n+1) cap=Value.slice (some ⟨ut M.B k b k,0,none⟩) (n+1) cap
  rw [AL]
 ·rcases hb b rfl with y|y
  ·exact .inl (x.blk y)
  ·exact .inr (by omega)
end
end
section
open Go Go.Conc
structure Tr(h:Nat)(Lo:Nat->Prop)(St:Nat->Loc->Prop)(t:Trace):Prop where
 clean:∀said,¬Race said t
 known:∀i a,touchAt t i=some a->a.loc.isMemory=true->Knows t h i\/(a.write=false/\∃g,t.g? i=some g/\Lo g/\St g a.loc)
 wrote:∀i a,touchAt t i=some a->a.write=true->∀g,Lo g->St g a.loc->Knows t g i
 hears:∀g,Lo g->Deaf t g=0
section
variable{h:Nat}{Lo Lo':Nat->Prop}{St St':Nat->Loc->Prop}{t u:Trace}
theorem Tr.congr(H:Tr h Lo St t)(h1:∀g,Lo' g↔Lo g)(h2:∀g,Lo g->∀l,St' g l↔St g l):Tr h Lo' St' t:=
 ⟨H.clean,fun i a ha hm=>(H.known i a ha hm).imp id fun⟨x,g,y,z,w⟩=>⟨x,g,y,(h1 g).2 z,(h2 g z _).2 w⟩,fun i a ha hw g hg hS=>H.wrote i a ha hw g ((h1 g).1 hg) ((h2 g ((h1 g).1 hg) _).1 hS),fun g hg=>H.hears g ((h1 g).1 hg)⟩
theorem Tr.old(H:Tr h Lo St t){i:Nat}{a:Touch}{x:MemOp}(hx:t[i]?=some x)(IP:x.act.touch?=some a)(hm:a.loc.isMemory=true):
  Knows (t++u) h i\/(a.write=false/\∃g,(t++u).g? i=some g/\Lo g/\St g a.loc):=
 (H.known i a (by rw [touchAt_of hx];exact IP) hm).imp (Knows.app u) fun⟨p,g,q,r⟩=>⟨p,g,by rw [g?_old (lt_size_of_getElem? hx)];exact q,r⟩
theorem Tr.own(H:Tr h Lo St t)(hl:¬Lo h)(hu:∀op∈u,op.g=h)(hs:∀op∈u,∀b,op.act.touch?=some b->∀g,Lo g->St g b.loc->b.write=false):Tr h Lo St (t++u):=by
 refine⟨fun said=>noRace_append (H.clean said) hu fun i a ha op G6 b hb hc=>?_,fun i a ha hm=>?_,fun i a ha hw g hg hS=>?_,fun g hg=>?_⟩
 ·rcases H.known i a ha hc.2.1 with hk|⟨hw,g,_,hg,hS⟩
  ·exact hk
  ·have U9:=hs op G6 b hb g hg (hc.1▸hS)
   rcases hc.2.2.1 with x|x
   ·rw [hw]at x;cases x
   ·rw [U9]at x;cases x
 ·obtain⟨x,hx,IP⟩:=touch_of ha
  rcases getElem?_append_cases hx with⟨_,LU⟩|⟨_,PI⟩
  ·exact H.old LU IP hm
  ·have:=knows_own hx
   rw [hu x PI]at this
   exact .inl this
 ·obtain⟨x,hx,IP⟩:=touch_of ha
  rcases getElem?_append_cases hx with⟨_,LU⟩|⟨_,PI⟩
  ·exact(H.wrote i a (by rw [touchAt_of LU];exact IP) hw g hg hS).app u
  ·rw [hs x PI a IP g hg hS]at hw;cases hw
 ·exact(Deaf_other t (fun e=>hl (by rw [e];exact hg)) u hu).trans (H.hears g hg)
theorem Tr.mute(H:Tr h Lo St t)(hn:∀op∈u,op.act.touch?=none)(hd:∀g,Lo g->Deaf (t++u) g=Deaf t g):Tr h Lo St (t++u):=by
 refine⟨fun said=>noRace_appendMute (H.clean said) hn,fun i a ha hm=>?_,fun i a ha hw g hg hS=>?_,fun g hg=>(hd g hg).trans (H.hears g hg)⟩
 ·obtain⟨x,hx,IP⟩:=touch_of ha
  rcases getElem?_append_cases hx with⟨_,LU⟩|⟨_,PI⟩
  ·exact H.old LU IP hm
  ·rw [hn x PI]at IP;cases IP
 ·obtain⟨x,hx,IP⟩:=touch_of ha
  rcases getElem?_append_cases hx with⟨_,LU⟩|⟨_,PI⟩
  ·exact(H.wrote i a (by rw [touchAt_of LU];exact IP) hw g hg hS).app u
  ·rw [hn x PI]at IP;cases IP
theorem Tr.read(H:Tr h Lo St t){g:Nat}(hg:Lo g)(hu:∀op∈u,op.g=g)(hr:∀op∈u,∀b,op.act.touch?=some b->b.write=false/\St g b.loc)(hd:Deaf (t++u) g=Deaf t g):Tr h Lo St (t++u):=by
 refine⟨fun said=>noRace_append (H.clean said) hu fun i a ha op G6 b hb hc=>?_,fun i a ha hm=>?_,fun i a ha hw g' Vw hS=>?_,fun g' Vw=>?_⟩
 ·obtain⟨U9,hbS⟩:=hr op G6 b hb
  rcases hc.2.2.1 with x|x
  ·exact H.wrote i a ha x g hg (hc.1▸hbS)
  ·rw [U9]at x;cases x
 ·obtain⟨x,hx,IP⟩:=touch_of ha
  rcases getElem?_append_cases hx with⟨_,LU⟩|⟨_,PI⟩
  ·exact H.old LU IP hm
  ·exact .inr ⟨(hr x PI a IP).1,g,by rw [g?_of hx,hu x PI],hg,(hr x PI a IP).2⟩
 ·obtain⟨x,hx,IP⟩:=touch_of ha
  rcases getElem?_append_cases hx with⟨_,LU⟩|⟨_,PI⟩
  ·exact(H.wrote i a (by rw [touchAt_of LU];exact IP) hw g' Vw hS).app u
  ·rw [(hr x PI a IP).1]at hw;cases hw
 ·by_cases e:g'=g
  ·subst e;exact hd.trans (H.hears g' Vw)
  ·exact(Deaf_other t (fun x=>e x.symm) u hu).trans (H.hears g' Vw)
def bo(St:Nat->Loc->Prop)(g:Nat)(s:Loc->Prop):Nat->Loc->Prop:=fun g' l=>(g'=g/\s l)\/(g'≠g/\St g' l)
theorem J6{St:Nat->Loc->Prop}{g:Nat}{s:Loc->Prop}{l:Loc}:bo St g s g l↔s l:=⟨fun x=>x.elim (·.2) fun y=>absurd rfl y.1,fun x=>.inl ⟨rfl,x⟩⟩
theorem Jy{St:Nat->Loc->Prop}{g g':Nat}{s:Loc->Prop}{l:Loc}(h:g'≠g):bo St g s g' l↔St g' l:=⟨fun x=>x.elim (fun y=>absurd y.1 h) (·.2),fun x=>.inr ⟨h,x⟩⟩
theorem Tr.give(H:Tr h Lo St t){j:Nat}(hl:¬Lo h)(hj:Lo j)(hd:Deaf t h=0)(vX:Prop)(s:Loc->Prop)(hs:∀l,s l->l.isMemory=true)(fh:FuncId)(ph:String)(fj:FuncId)(pj:String)(c k cap:Nat):
  Tr j (fun g=>(Lo g/\g≠j)\/(g=h/\vX)) (bo St h s) (t++met h j fh ph fj pj c k cap):=by
 have hn:=met_mute h j fh ph fj pj c k cap
 have hq:=met_quiet h j fh ph fj pj c k cap
 have B7:∀g,Lo g->g≠h:=fun g hg e=>hl (e▸hg)
 have e0:(t++met h j fh ph fj pj c k cap)[t.size]?=some {g:=h,fn:=fh,pos:=ph,act:=.send c k}:=by simp [met]
 have e3:(t++met h j fh ph fj pj c k cap)[t.size+3]?=some {g:=j,fn:=fj,pos:=pj,act:=.recvDone c k}:=by simp [met]
 have jq:HappensBefore (t++met h j fh ph fj pj c k cap) t.size (t.size+3):=
  Relation.TransGen.single (.inr ⟨.handOver (act?_of e0) (act?_of e3),⟨h,g?_of e0,by rw [deaf_old (Nat.le_refl _)];exact hd⟩,⟨j,g?_of e3,by rw [deaf_quiet (hq j) 3 (by simp [met])];exact H.hears j hj⟩⟩)
 refine⟨fun said=>noRace_appendMute (H.clean said) hn,fun i a ha hm=>?_,fun i a ha hw g hg hS=>?_,fun g hg=>(Deaf_quiet (hq g)).trans (hg.elim (fun x=>H.hears g x.1) fun x=>x.1▸hd)⟩
 ·obtain⟨x,hx,IP⟩:=touch_of ha
  rcases getElem?_append_cases hx with⟨hi,LU⟩|⟨_,PI⟩
  ·rcases H.known i a (by rw [touchAt_of LU];exact IP) hm with hk|⟨p,g,q,hg,hS⟩
   ·exact .inl ⟨t.size+3,_,e3,rfl,.inr ((hk.hb_new (CY _) e0 rfl).trans jq)⟩
   ·by_cases e:g=j
    ·subst e
     have:=knows_own hx
     rw [show x.g=g from by have:=g?_of LU;rw [q]at this;exact(D4 this).symm]at this
     exact .inl this
    ·exact .inr ⟨p,g,by rw [g?_old hi];exact q,.inl ⟨hg,e⟩,(Jy (B7 g hg)).2 hS⟩
  ·rw [hn x PI]at IP;cases IP
 ·obtain⟨x,hx,IP⟩:=touch_of ha
  rcases getElem?_append_cases hx with⟨_,LU⟩|⟨_,PI⟩
  ·rcases hg with⟨hg,_⟩|⟨rfl,_⟩
   ·exact(H.wrote i a (by rw [touchAt_of LU];exact IP) hw g hg ((Jy (B7 g hg)).1 hS)).app _
   ·rcases H.known i a (by rw [touchAt_of LU];exact IP) (hs _ (J6.1 hS))with hk|⟨p,_⟩
    ·exact hk.app _
    ·rw [p]at hw;cases hw
  ·rw [hn x PI]at IP;cases IP
theorem Tr.hire(H:Tr h Lo St t){c:Nat}(hc:∀g,Lo g->g≠c)(hd:Deaf t h=0)(uX:Deaf t c=0)(s:Loc->Prop)(hs:∀l,s l->l.isMemory=true)(fh:FuncId)(ph:String)(fc:FuncId):
  Tr h (fun g=>Lo g\/g=c) (bo St c s) (t++#[{g:=h,fn:=fh,pos:=ph,act:=.go c},{g:=c,fn:=fc,pos:=ph,act:=.start}]):=by
 generalize hu:(#[{g:=h,fn:=fh,pos:=ph,act:=.go c},{g:=c,fn:=fc,pos:=ph,act:=.start}]:Trace)=u
 have hn:∀op∈u,op.act.touch?=none:=by
  intro op G6
  subst hu
  simp only [List.mem_toArray,List.mem_cons,List.not_mem_nil,or_false]at G6
  rcases G6 with rfl|rfl <;> rfl
 have hq:∀g,∀op∈u,∀d,deafStep g d op=d:=by
  intro g op G6 d
  subst hu
  simp only [List.mem_toArray,List.mem_cons,List.not_mem_nil,or_false]at G6
  rcases G6 with rfl|rfl <;> rfl
 have e0:(t++u)[t.size]?=some {g:=h,fn:=fh,pos:=ph,act:=.go c}:=by subst hu;simp
 have e1:(t++u)[t.size+1]?=some {g:=c,fn:=fc,pos:=ph,act:=.start}:=by subst hu;simp
 have jq:HappensBefore (t++u) t.size (t.size+1):=
  Relation.TransGen.single (.inr ⟨.spawn (act?_of e0) (act?_of e1) (g?_of e1),⟨h,g?_of e0,by rw [deaf_old (Nat.le_refl _)];exact hd⟩,⟨c,g?_of e1,by rw [deaf_quiet (hq c) 1 (by subst hu;simp)];exact uX⟩⟩)
 refine⟨fun said=>noRace_appendMute (H.clean said) hn,fun i a ha hm=>?_,fun i a ha hw g hg hS=>?_,fun g hg=>(Deaf_quiet (hq g)).trans (hg.elim (H.hears g) fun e=>e▸uX)⟩
 ·obtain⟨x,hx,IP⟩:=touch_of ha
  rcases getElem?_append_cases hx with⟨_,LU⟩|⟨_,PI⟩
  ·exact(H.old LU IP hm).imp id fun⟨p,g,q,hg,hS⟩=>⟨p,g,q,.inl hg,(Jy (hc g hg)).2 hS⟩
  ·rw [hn x PI]at IP;cases IP
 ·obtain⟨x,hx,IP⟩:=touch_of ha
  rcases getElem?_append_cases hx with⟨_,LU⟩|⟨_,PI⟩
  ·by_cases e:g=c
   ·subst e
    rcases H.known i a (by rw [touchAt_of LU];exact IP) (hs _ (J6.1 hS))with hk|⟨p,_⟩
    ·exact⟨t.size+1,_,e1,rfl,.inr ((hk.hb_new (CY _) e0 rfl).trans jq)⟩
    ·rw [p]at hw;cases hw
   ·exact(H.wrote i a (by rw [touchAt_of LU];exact IP) hw g (hg.resolve_right e) ((Jy e).1 hS)).app u
  ·rw [hn x PI]at IP;cases IP
end
end
section
open Go Go.Conc
open Go.ConcN (sumTo upd sumTo_upd upd_ne upd_same)
structure Du where
 c:Nat
 z:Value
 ok:Bool
 cells:Addr->Option Value
 B:Nat
 home:Goroutine->Prop
def Du.K(W:Du)(w:World):Prop:=∀a v,W.cells a=some v->AF w.heap a=some v
def Du.St(W:Du)(l:Loc):Prop:=∃a,l= .cell a/\(W.cells a).isSome=true
def Du.Hb(W:Du):Seat:=Seat.one W.c W.z W.ok W.home
abbrev Du.At(P:Program)(W:Du)(main:Bool)(g BT:Goroutine):Prop:=AtIn P main W.K W.St W.B W.Hb g BT
def SW(P:Program)(T:Trace)(i n:Nat)(g:Goroutine):Option Du->Prop
 | none=>0<i/\QuitsD P n (Deaf T i) g
 | some W=>Sits P (i==0) W.K W.St W.B W.Hb n g
def PQ(I:Nat->Option Du)(i:Nat)(l:Loc):Prop:=∃W,I i=some W/\W.St l
def Nv(h:Nat)(I:Nat->Option Du)(i:Nat):Prop:=i≠h/\(I i).isSome=true
structure Fr(P:Program)(h:Nat)(I:Nat->Option Du)(T:Trace)(gs:Array Goroutine)(w:World)(q:Nat->Nat):Prop where
 idle:∀i g,i≠h->gs[i]?=some g->SW P T i (q i) g (I i)
 keep:∀i W,i≠h->I i=some W->W.K w
 chan:∀i W,i≠h->I i=some W->∃k,w.heap[W.c]?=some (.chan 0 #[] false k k false)
 inj:∀i j W V,i≠h->j≠h->I i=some W->I j=some V->W.c=V.c->i=j
 tr:Tr h (Nv h I) (PQ I) T
 room:∀i,i≠h->(I i).isSome=true->i<gs.size
 above:∀j,gs.size<=j->Deaf T j=0
section
variable{P:Program}{h:Nat}{I:Nat->Option Du}{T:Trace}{gs:Array Goroutine}{w:World}{q:Nat->Nat}
theorem Za{W:Du}{c:Nat}:W.Hb.has c↔c=W.c:=Seat.one_has
theorem dQ(W:Du):W.Hb.Wf:=Seat.one_wf _ _ _ _
theorem OW{W:Du}{cc:CommCase}(hc:cc∈W.Hb.cases):cc=rcase W.c W.z:=by
 simpa [Du.Hb,Seat.one]using hc
theorem Fr.awake(F:Fr P h I T gs w q){a:Goroutine}(ha:gs[h]?=some a)(hs:a.status= .running\/a.status= .blocked):∀g∈gs,awake g:=by
 intro g hg
 obtain⟨i,hi⟩:=Array.mem_iff_getElem?.1 hg
 by_cases e:i=h
 ·subst e
  rw [ha]at hi
  obtain rfl:=D4 hi
  exact awake_of (hs.imp id .inl)
 ·have CI:=F.idle i g e hi
  cases eW:I i with
  | none=>rw [eW]at CI;exact awake_of (CI.2.status.elim .inl fun x=>.inr (.inr x))
  | some W=>rw [eW]at CI;exact awake_of ((Sits.status (F.keep i W e eW) CI).elim (fun x=>.inl x.1) fun x=>.inr (.inl x.1))
theorem Fr.fixed(F:Fr P h I T gs w q){i:Nat}{g:Goroutine}(hi:i≠h)(hg:gs[i]?=some g):g.again w=g:=by
 have CI:=F.idle i g hi hg
 cases eW:I i with
 | none=>rw [eW]at CI;exact again_of_running CI.2.status w
 | some W=>
  rw [eW]at CI
  refine Sits.again (F.keep i W hi eW) CI (dQ W) fun c hc=>?_
  obtain⟨k,hk⟩:=F.chan i W hi eW
  exact⟨_,_,_,_,_,by rw [Za.1 hc];exact hk⟩
theorem Fr.noSend(F:Fr P h I T gs w q){i:Nat}{g:Goroutine}(hi:i≠h)(hg:gs[i]?=some g)(c:Nat):offersAt g c true=[]:=by
 have CI:=F.idle i g hi hg
 cases eW:I i with
 | none=>rw [eW]at CI;exact offersAt_of_not_blocked (fun hb=>by rcases CI.2.status with z|z <;> rw [z]at hb <;> cases hb) c true
 | some W=>
  rw [eW]at CI
  rcases CI with⟨k,R2,hq,Vw⟩|⟨_,_,BT,rfl,_⟩
  ·have hr:=(Sits.status (F.keep i W hi eW) (.inl ⟨k,R2,hq,Vw⟩)).elim (·.1) (fun z=>by omega)
   exact offersAt_of_not_blocked (by rw [hr];simp) c true
  ·exact offersAt_parked_sends (fun cc Rw=>by rw [OW Rw];rfl) _
theorem Fr.kZ(F:Fr P h I T gs w q){i:Nat}{g:Goroutine}(hi:i≠h)(hg:gs[i]?=some g){c:Nat}(hc:∀W,I i=some W->W.c≠c):offersAt g c false=[]:=by
 have CI:=F.idle i g hi hg
 cases eW:I i with
 | none=>rw [eW]at CI;exact offersAt_of_not_blocked (fun hb=>by rcases CI.2.status with z|z <;> rw [z]at hb <;> cases hb) c false
 | some W=>
  rw [eW]at CI
  rcases CI with⟨k,R2,hq,Vw⟩|⟨_,_,BT,rfl,_⟩
  ·have hr:=(Sits.status (F.keep i W hi eW) (.inl ⟨k,R2,hq,Vw⟩)).elim (·.1) (fun z=>by omega)
   exact offersAt_of_not_blocked (by rw [hr];simp) c false
  ·refine offersAt_parked_off (fun cc Rw e=>?_) _
   rw [OW Rw]at e
   simp only [rcase,Value.chan.injEq,Option.some.injEq]at e
   exact hc W eW e
theorem Fr.at(F:Fr P h I T gs w q)(d:Nat):Fr P h I T gs (w.at d) q:=⟨F.idle,F.keep,F.chan,F.inj,F.tr,F.room,F.above⟩
theorem Fr.put(F:Fr P h I T gs w q){i n':Nat}{g':Goroutine}{ops:Array MemOp}{gs':Array Goroutine}(Cg:i<gs.size)(Ey:gs'.size=gs.size)(kr:∀x,x≠i->gs'[x]?=gs[x]?)(VE:gs'[i]?=some g')
  (Gt:∀op∈ops,op.g=i) (re:SW P (T++ops) i n' g' (I i)) (bM:Tr h (Nv h I) (PQ I) (T++ops)):Fr P h I (T++ops) gs' w (upd q i n'):=by
 refine⟨fun x y hx hy=>?_,F.keep,F.chan,F.inj,bM,Ey▸F.room,fun j hj=>?_⟩
 ·by_cases e:x=i
  ·subst e
   rw [VE]at hy
   obtain rfl:=D4 hy
   rw [upd_same];exact re
  ·rw [kr x e]at hy
   rw [upd_ne q n' e]
   have CI:=F.idle x y hx hy
   cases eW:I x with
   | none=>rw [eW]at CI;exact⟨CI.1,by rw [Deaf_other T (fun z=>e z.symm) ops Gt];exact CI.2⟩
   | some W=>rw [eW]at CI;exact CI
 ·rw [Deaf_other T (g':=i) (by omega) ops Gt]
  exact F.above j (by omega)
theorem Fr.by_step(F:Fr P h I T gs w q){i:Nat}{g gh:Goroutine}{sl:Option (Nat×Nat)}(hi:gs[i]?=some g)(aZ:i≠h)(Be:g.status= .running)(og:gs[h]?=some gh)(hA:gh.again w=gh)
  (hO:∀W BT,I i=some W->W.At P (i==0) g BT->offersAt gh W.c true=[]):
  ∃(gs':Array Goroutine) (ops:Array MemOp) (q':Nat->Nat),runT P (crowd gs w sl) i=(.next (crowd gs' w sl),ops)/\gs'.size=gs.size/\gs'[h]?=some gh/\(∀x,x≠i->q' x=q x)/\(∀W,I i=some W->q' i=0->∃BT,W.At P (i==0) g BT)/\
   Fr P h I (T++ops) gs' w q'/\sumTo gs.size q'<sumTo gs.size q/\Deaf (T++ops) h=Deaf T h:=by
 have Cg:i<gs.size:=(Array.getElem?_eq_some_iff.1 hi).1
 have zC:∀(a a':Goroutine) (x:Nat) (y:Goroutine),gs[x]?=some y->woken P a a' w y=y:=fun a a' x y hy=>woken_of_again (by
  by_cases hx:x=h
  ·subst hx;rw [og]at hy;obtain rfl:=D4 hy;exact hA
  ·exact F.fixed hx hy)
 have cg:∀(a' g':Goroutine) (x:Nat),x≠i->((gs.map (woken P g a' w)).setIfInBounds i g')[x]?=gs[x]?:=by
  intro a' g' x hx
  rw [G5 (fun e=>hx e.symm),Array.getElem?_map]
  cases e:gs[x]? with
  | none=>rfl
  | some y=>simp [zC g a' x y e]
 have VE:∀(a' g':Goroutine),((gs.map (woken P g a' w)).setIfInBounds i g')[i]?=some g':=fun a' g'=>Array.getElem?_setIfInBounds_self_of_lt (by simpa using Cg)
 have jQ:∀k,q i=k+1->∀m,m<=k->sumTo gs.size (upd q i m)<sumTo gs.size q:=by
  intro k W7 m hm
  have h2:sumTo gs.size (upd q i m)+(k+1)=sumTo gs.size q+m:=by
   have:=sumTo_upd q m id Cg
   simpa [W7]using this
  omega
 have CI:=F.idle i g aZ hi
 cases e:I i with
 | none=>
  rw [e]at CI
  obtain⟨SA,hq⟩:=CI
  have hi0:(i==0)=false:=by simp;omega
  cases W7:q i with
  | zero=>rw [W7]at hq;rw [hq.1]at Be;cases Be
  | succ k=>
   rw [W7]at hq
   rcases hq with⟨hf,_⟩|⟨_,g',es,hm,Tq,Eh⟩
   ·rw [hf]at Be;cases Be
   have Gt:∀op∈MemOp.ofEvents i g.frame.fn g.frame.place es,op.g=i:=fun op G6=>by obtain⟨e,_,rfl⟩:=Go.Conc.mem_ofEvents G6;rfl
   refine⟨_,_,upd q i k,runT_crowd_go (sl:=sl) hi (by rw [hi0];exact Tq w),by simp,(cg _ _ h (Ne.symm aZ)).trans og,fun x hx=>upd_ne q k hx,fun s hs _=>(by cases hs),?_,jQ k W7 k (Nat.le_refl _),Deaf_other T aZ _ Gt⟩
   refine F.put Cg (by simp) (cg _ _) (VE _ _) Gt (by rw [e];exact⟨SA,by rw [Deaf_own];exact Eh⟩) ?_
   refine F.tr.mute (fun op G6=>by obtain⟨e,he,rfl⟩:=Go.Conc.mem_ofEvents G6;exact touch_mute (hm e he)) fun x hx=>?_
   have hxi:i≠x:=fun ex=>by subst ex;have:=hx.2;rw [e]at this;cases this
   exact Deaf_other T hxi _ Gt
 | some W=>
  rw [e]at CI
  have hK:=F.keep i W aZ e
  have hLo:Nv h I i:=⟨aZ,by rw [e];rfl⟩
  obtain⟨k,R2,W7,hg⟩:∃k R2,q i=k+1/\Goes P (i==0) (RK W.K) (DS W.St W.B) (fun g _=>∃BT,W.At P (i==0) g BT) k g R2:=by
   rcases CI with h|⟨_,_,BT,rfl,_⟩
   ·exact h
   ·cases Be
  have rj:(∃BT,W.At P (i==0) g BT)\/∃k' g' es,k=k'+1/\stepG P (i==0) g w= .go g' w es/\(∀e∈es,EvC W.St W.B e)/\Goes P (i==0) (RK W.K) (DS W.St W.B) (fun g _=>∃BT,W.At P (i==0) g BT) k' g' w:=by
   cases k with
   | zero=>exact .inl (hg w hK)
   | succ k'=>
    rcases hg with rR|⟨_,rS⟩
    ·exact .inl (rR w hK)
    ·have hs:=rS w hK
     cases hgo:stepG P (i==0) g w with
     | go g' w' es=>
      rw [hgo,goes_go]at hs
      obtain⟨⟨rfl,Qm⟩,xN⟩:=hs
      exact .inr ⟨k',g',es,rfl,rfl,Qm,xN⟩
     | _=>rw [hgo]at hs;exact hs.elim
  have fx:∀{fn:FuncId} {pos:String} {es:Array Event},(∀e∈es,EvC W.St W.B e)->Tr h (Nv h I) (PQ I) (T++MemOp.ofEvents i fn pos es)/\∀op∈MemOp.ofEvents i fn pos es,op.g=i:=by
   intro fn pos es Qm
   obtain⟨Gt,hr,_,hd⟩:=evC_ops (i:=i) (fn:=fn) (pos:=pos) Qm
   exact⟨F.tr.read hLo Gt (fun op G6 b hb=>⟨(hr op G6 b hb).1,W,e,(hr op G6 b hb).2⟩) (hd T),Gt⟩
  rcases rj with⟨BT,Gp⟩|⟨k',g',es,rfl,hgo,Qm,xN⟩
  ·obtain⟨_,_,_,_,_,es,Qm,Tq⟩:=id Gp
   obtain⟨bM,Gt⟩:=fx (fn:=g.frame.fn) (pos:=g.frame.place) Qm
   have hw:∀cc∈W.Hb.cases,NoWays w (gs.setIfInBounds i ph) cc:=by
    intro cc Rw
    rw [OW Rw]
    obtain⟨kk,hc⟩:=F.chan i W aZ e
    refine ways_recv_none hc (partners_nil fun x y hy=>?_)
    rcases getElem?_stand gs i x y hy with⟨_,rfl⟩|⟨hx,iR⟩
    ·exact offersAt_ph _ _
    ·by_cases hS:x=h
     ·subst hS;rw [og]at iR;obtain rfl:=D4 iR;exact hO W BT e Gp
     ·exact F.noSend hS iR _
   refine⟨_,_,upd q i 0,crowd_waits (sl:=sl) hi (Tq w hK) hw,by simp,by rw [Array.getElem?_setIfInBounds_ne aZ];exact og,fun x hx=>upd_ne q 0 hx,fun W' o8 _=>(by obtain rfl:=Option.some.inj o8;exact⟨BT,Gp⟩),?_,jQ k W7 0 (Nat.zero_le _),Deaf_other T aZ _ Gt⟩
   exact F.put Cg (by simp) (fun x hx=>Array.getElem?_setIfInBounds_ne (fun z=>hx z.symm)) (Array.getElem?_setIfInBounds_self_of_lt Cg) Gt (by rw [e];exact .inr ⟨rfl,g,BT,rfl,Gp⟩) bM
  ·obtain⟨bM,Gt⟩:=fx (fn:=g.frame.fn) (pos:=g.frame.place) Qm
   refine⟨_,_,upd q i (k'+1),runT_crowd_go (sl:=sl) hi hgo,by simp,(cg _ _ h (Ne.symm aZ)).trans og,fun x hx=>upd_ne q _ hx,fun s' _ h0=>(by rw [upd_same]at h0;omega),?_,jQ _ W7 _ (Nat.le_refl _),Deaf_other T aZ _ Gt⟩
   exact F.put Cg (by simp) (cg _ _) (VE _ _) Gt (by rw [e];exact .inl ⟨k',w,rfl,xN⟩) bM
theorem Fr.picked(F:Fr P h I T gs w q){a:Goroutine}{sl:Option (Nat×Nat)}(ha:gs[h]?=some a)(Be:a.status= .running):
  ∃(N:Nat) (gs':Array Goroutine) (d d':Nat) (F9 jB:Option (Nat×Nat)) (T':Trace) (q':Nat->Nat),runNT P N (crowd gs w sl) T=(.next (crowd gs' (w.at d) F9),T')/\
   stepT P (crowd gs' (w.at d) F9)=runT P (crowd gs' (w.at d') jB) h/\gs'.size=gs.size/\gs'[h]?=some a/\Fr P h I T' gs' (w.at d') q'/\Deaf T' h=Deaf T h:=by
 obtain⟨N,m',T',hr,gs',d,d',F9,jB,q',rfl,Dn,Ey,oy,F',hd⟩:=runs_until (P:=P)
  (Inv:=fun μ m t=>∃BZ d H5 Gr,m=crowd BZ (w.at d) H5/\BZ.size=gs.size/\BZ[h]?=some a/\Fr P h I t BZ (w.at d) Gr/\Deaf t h=Deaf T h/\μ=sumTo BZ.size Gr)
  (Done:=fun m t=>∃BZ d d' H5 Fc Gr,m=crowd BZ (w.at d) H5/\stepT P (crowd BZ (w.at d) H5)=runT P (crowd BZ (w.at d') Fc) h/\BZ.size=gs.size/\BZ[h]?=some a/\Fr P h I t BZ (w.at d') Gr/\Deaf t h=Deaf T h)
  (fun μ m t ⟨BZ,d,H5,Gr,hm,Ey,Gi,Hf,hd,tg⟩=>by
   subst hm
   obtain⟨i,g,d',F9,hi,hg,Dn⟩:=crowd_pick (P:=P) (w:=w.at d) (sl:=H5) (Hf.awake Gi (.inl Be)) ⟨h,a,Gi,Be⟩
   have Fd:Fr P h I t BZ (w.at d') Gr:=Hf.at d'
   by_cases e:i=h
   ·subst e
    exact .inl ⟨BZ,d,d',H5,F9,Gr,rfl,Dn,Ey,Gi,Fd,hd⟩
   ·obtain⟨gs',ops,q',Po,Tp,hh,_,_,F',Cg,XA⟩:=Fd.by_step (sl:=F9) hi e hg Gi (again_of_running (.inl Be) _) (fun _ _ _ _=>offersAt_of_not_blocked (by rw [Be];simp) _ _)
    exact .inr ⟨_,_,sumTo gs'.size q',by rw [Dn];exact Po,by rw [Tp];omega,gs',d',F9,q',rfl,Tp.trans Ey,hh,F',XA.trans hd,rfl⟩)
  _ _ T ⟨gs,w.drawn,sl,q,rfl,rfl,ha,F,rfl,rfl⟩
 exact⟨N,gs',d,d',F9,jB,T',q',hr,Dn,Ey,oy,F',hd⟩
end
end
section
open Go Go.Conc
open Go.ConcN (sumTo upd sumTo_upd upd_ne upd_same)
def NY(h:Nat)(I:Nat->Option Du)(a:Addr):Prop:=∃i W,i≠h/\I i=some W/\(W.cells a).isSome=true
theorem O4{e:Event}{b:Touch}{a:Addr}(h1:∀a,e.loc≠ .mark (.read a))(h2:∀a,e.loc≠ .mark (.write a))(hb:(MemAct.ofEvent e).touch?=some b)(hl:b.loc= .cell a):e.loc= .cell a/\e.write=b.write:=by
 obtain⟨loc,wr,sy⟩:=e
 cases loc with
 | mark m=>
  cases m <;> simp [MemAct.ofEvent,MemAct.touch?]at hb
  ·exact absurd rfl (h1 _)
  ·exact absurd rfl (h2 _)
 | obj r=>
  cases wr <;> cases sy <;> simp [MemAct.ofEvent,MemAct.touch?]at hb <;> subst hb <;> cases hl
 | _=>
  simp [MemAct.ofEvent,MemAct.touch?]at hb
  subst hb
  exact⟨hl,rfl⟩
theorem Uq{h:Hp}{c:Nat}{cap s r:Nat}{buf:Array Value}{cl tm:Bool}{WI s' r':Nat}{za:Array Value}{cl' tm':Bool}(hc:h[c]?=some (.chan cap buf cl s r tm))(a:Addr):
  AF (h.setIfInBounds c (.chan WI za cl' s' r' tm')) a=AF h a:=by
 unfold AF
 by_cases e:c=a.block
 ·subst e
  have Cg:a.block<h.size:=(Array.getElem?_eq_some_iff.1 hc).1
  rw [Kf Cg,hc]
 ·rw [G5 e]
section
variable{P:Program}{h:Nat}{I:Nat->Option Du}{T:Trace}{gs:Array Goroutine}{w:World}{q:Nat->Nat}
theorem Fr.own(F:Fr P h I T gs w q){a a':Goroutine}{w':World}{es:Array Event}{sl:Option (Nat×Nat)}(ha:gs[h]?=some a)(Dn:stepG P (h==0) a w= .go a' w' es)(hp:Ei (NY h I) w.heap w'.heap)(he:∀e∈es,Lc (NY h I) e):
  ∃gs' ops,runT P (crowd gs w sl) h=(.next (crowd gs' w' sl),ops)/\gs'.size=gs.size/\gs'[h]?=some a'/\Fr P h I (T++ops) gs' w' q/\Deaf (T++ops) h=deafBehind (Deaf T h) es:=by
 have Cg:h<gs.size:=(Array.getElem?_eq_some_iff.1 ha).1
 have Gt:∀op∈MemOp.ofEvents h a.frame.fn a.frame.place es,op.g=h:=fun op G6=>by obtain⟨e,_,rfl⟩:=Go.Conc.mem_ofEvents G6;rfl
 have hc:∀i W,i≠h->I i=some W->∃k,w'.heap[W.c]?=some (.chan 0 #[] false k k false):=fun i W hi eW=>(F.chan i W hi eW).imp fun k hk=>hp.chan _ _ hk rfl
 have hk:∀i W,i≠h->I i=some W->W.K w':=fun i W hi eW b v hb=>hp.still b v ⟨i,W,hi,eW,by rw [hb];rfl⟩ (F.keep i W hi eW b v hb)
 have F':Fr P h I T gs w' q:=⟨F.idle,hk,hc,F.inj,F.tr,F.room,F.above⟩
 refine⟨_,_,runT_crowd_go (sl:=sl) ha Dn,by simp,Array.getElem?_setIfInBounds_self_of_lt (by simpa using Cg),⟨fun x y hx hy=>?_,hk,hc,F.inj,?_,by simpa using F.room,fun j hj=>?_⟩,Deaf_own ..⟩
 ·rw [G5 (fun e=>hx e.symm),Array.getElem?_map]at hy
  obtain⟨xv,fp,rfl⟩:=Option.map_eq_some_iff.1 hy
  rw [woken_of_again (F'.fixed hx fp)]
  have CI:=F.idle x xv hx fp
  cases eW:I x with
  | none=>rw [eW]at CI;exact⟨CI.1,by rw [Deaf_other T (fun z=>hx z.symm) _ Gt];exact CI.2⟩
  | some W=>rw [eW]at CI;exact CI
 ·refine F.tr.own (fun x=>x.1 rfl) Gt fun op G6 b hb g hg hs=>?_
  obtain⟨e,PU,rfl⟩:=Go.Conc.mem_ofEvents G6
  obtain⟨W,eW,l,hl,hsm⟩:=hs
  have Ru:=he e PU
  obtain⟨e1,e2⟩:=O4 Ru.2.1 Ru.2.2.1 hb hl
  cases ew:e.write with
  | false=>rw [<-e2,ew]
  | true=>exact absurd ⟨g,W,hg.1,eW,hsm⟩ (Ru.1 l e1 ew)
 ·simp only [Array.size_setIfInBounds,Array.size_map]at hj
  rw [Deaf_other T (g':=h) (by omega) _ Gt]
  exact F.above j hj
def UM(P:Program)(h:Nat)(I:Nat->Option Du)(hp:Hp)(g:Goroutine):Option Du->Prop
 | none=>0<h/\∃n,QuitsD P n 0 g
 | some W=>(∀a v,W.cells a=some v->AF hp a=some v)/\(∃k,hp[W.c]?=some (.chan 0 #[] false k k false))/\(∀i V,i≠h->I i=some V->V.c≠W.c)/\∃n,Sits P (h==0) W.K W.St W.B W.Hb n g
theorem MW{T':Trace}{i n:Nat}{g:Goroutine}{o:Option Du}(hd:Deaf T' i=Deaf T i)(hi:SW P T i n g o):SW P T' i n g o:=by
 cases o with
 | none=>exact⟨hi.1,by rw [hd];exact hi.2⟩
 | some W=>exact hi
theorem Fr.pass(F:Fr P h I T gs w q){j k:Nat}{V:Du}(hj:I j=some V)(O9:j≠h)(hd:Deaf T h=0)(hc:w.heap[V.c]?=some (.chan 0 #[] false k k false)){gs':Array Goroutine}{g':Goroutine}(Ey:gs'.size=gs.size)(hhs:h<gs.size)
  (Kx:∀x,x≠h->x≠j->gs'[x]?=gs[x]?) (hH:gs'[h]?=some g') (o:Option Du) (ho:UM P h I w.heap g' o) (fh:FuncId) (ph:String) (fj:FuncId) (pj:String):
  ∃q',Fr P j (upd I h o) (T++met h j fh ph fj pj V.c k 0) gs' (w.setChan V.c 0 #[] false (k+1) (k+1) false) q'/\Deaf (T++met h j fh ph fj pj V.c k 0) j=0:=by
 have hD:∀x,Deaf (T++met h j fh ph fj pj V.c k 0) x=Deaf T x:=fun x=>Deaf_quiet (met_quiet _ _ _ _ _ _ _ _ _ x)
 have lB:∀a,AF (w.setChan V.c 0 #[] false (k+1) (k+1) false).heap a=AF w.heap a:=fun a=>Uq hc a
 have hI:∀x,x≠h->upd I h o x=I x:=fun x hx=>upd_ne I o hx
 obtain⟨n,hn⟩:∃n,SW P (T++met h j fh ph fj pj V.c k 0) h n g' o:=by
  cases o with
  | none=>exact⟨ho.2.choose,ho.1,by rw [hD,hd];exact ho.2.choose_spec⟩
  | some W=>exact⟨ho.2.2.2.choose,ho.2.2.2.choose_spec⟩
 refine⟨upd q h n,⟨fun x y hx hy=>?_,fun i W hi eW=>?_,fun i W hi eW=>?_,fun i i' W W' hi Dc e e' ec=>?_,?_,fun i hi hs=>?_,fun x hx=>by rw [hD];exact F.above x (by omega)⟩,by rw [hD];exact F.tr.hears j ⟨O9,by rw [hj];rfl⟩⟩
 ·by_cases e:x=h
  ·subst e
   rw [hH]at hy
   obtain rfl:=D4 hy
   rw [upd_same,upd_same];exact hn
  ·rw [Kx x e hx]at hy
   rw [upd_ne q n e,hI x e]
   exact MW (hD x) (F.idle x y e hy)
 ·intro a v hv
  rw [lB]
  by_cases e:i=h
  ·subst e
   rw [upd_same]at eW
   subst eW
   exact ho.1 a v hv
  ·rw [hI i e]at eW
   exact F.keep i W e eW a v hv
 ·have B7:V.c≠W.c:=by
   by_cases e:i=h
   ·subst e
    rw [upd_same]at eW
    subst eW
    exact ho.2.2.1 j V O9 hj
   ·rw [hI i e]at eW
    exact fun ec=>hi (F.inj i j W V e O9 eW hj ec.symm)
  obtain⟨k',Dh⟩:∃k,w.heap[W.c]?=some (.chan 0 #[] false k k false):=by
   by_cases e:i=h
   ·subst e
    rw [upd_same]at eW
    subst eW
    exact ho.2.1
   ·rw [hI i e]at eW
    exact F.chan i W e eW
  exact⟨k',by rw [heap_setChan_ne w _ _ _ _ _ _ B7];exact Dh⟩
 ·by_cases e1:i=h <;> by_cases e2:i'=h
  ·rw [e1,e2]
  ·subst e1
   rw [upd_same]at e;rw [hI i' e2]at e'
   subst e
   exact absurd ec.symm (ho.2.2.1 i' W' e2 e')
  ·subst e2
   rw [upd_same]at e';rw [hI i e1]at e
   subst e'
   exact absurd ec (ho.2.2.1 i W e1 e)
  ·rw [hI i e1]at e;rw [hI i' e2]at e'
   exact F.inj i i' W W' e1 e2 e e' ec
 ·refine(F.tr.give (fun x=>x.1 rfl) ⟨O9,by rw [hj];rfl⟩ hd (o.isSome=true) (fun l=>∃W,o=some W/\W.St l) (fun l hl=>by obtain⟨W,_,a,rfl,_⟩:=hl;rfl) fh ph fj pj V.c k 0).congr (fun g=>?_) fun g _ l=>?_
  ·by_cases e:g=h
   ·subst e
    unfold Nv;rw [upd_same]
    exact⟨fun x=>.inr ⟨rfl,x.2⟩,fun x=>x.elim (fun y=>absurd rfl y.1.1) fun y=>⟨Ne.symm O9,y.2⟩⟩
   ·simp only [Nv,hI g e]
    exact⟨fun x=>.inl ⟨⟨e,x.2⟩,x.1⟩,fun x=>x.elim (fun y=>⟨y.2,y.1.2⟩) fun y=>absurd y.1 e⟩
  ·by_cases e:g=h
   ·subst e
    rw [J6]
    simp only [PQ,upd_same]
   ·rw [Jy e]
    simp only [PQ,hI g e]
 ·by_cases e:i=h
  ·omega
  ·rw [hI i e]at hs
   have:=F.room i e hs
   omega
theorem Fr.give(F:Fr P h I T gs w q){a H4:Goroutine}{j:Nat}{V:Du}{v z':Value}{sl:Option (Nat×Nat)}(O9:j≠h)(AFY:j<gs.size)(hj:I j=some V)(hd:Deaf T h=0)(ha:gs[h]?=some a)(Be:a.status= .running)
  (hsend:∀d,stepG P (h==0) a (w.at d)= .comm H4 #[scase V.c v z'] true .send (w.at d) #[]) (o:Option Du) (ho:UM P h I w.heap (Go.Conc.served H4 undef) o):
  ∃(N:Nat) (gs':Array Goroutine) (BT:Goroutine) (d k:Nat) (F9:Option (Nat×Nat)) (T':Trace) (q':Nat->Nat),runNT P N (crowd gs w sl) T=(.next (crowd gs' ((w.at d).setChan V.c 0 #[] false (k+1) (k+1) false) F9),T')/\gs'.size=gs.size/\
   gs'[j]?=some (Go.Conc.served BT (recvd V.ok v true))/\V.home BT/\w.heap[V.c]?=some (.chan 0 #[] false k k false)/\Fr P j (upd I h o) T' gs' ((w.at d).setChan V.c 0 #[] false (k+1) (k+1) false) q'/\Deaf T' j=0:=by
 obtain⟨k,hc⟩:=F.chan j V O9 hj
 have aX:V.Hb.cases[0]?=some (rcase V.c V.z):=rfl
 have hu:∀(m:Nat) (cc:CommCase),m≠0->V.Hb.cases[m]?=some cc->cc.chan≠ .chan (some V.c):=by
  intro m cc hm Rw
  rcases m with _|m
  ·exact absurd rfl hm
  ·simp [Du.Hb,Seat.one]at Rw
 have WB:h<gs.size:=(Array.getElem?_eq_some_iff.1 ha).1
 have key:∃N m' T',runNT P N (crowd gs w sl) T=(.next m',T')/\(fun m t=>∃(gs':Array Goroutine) (BT:Goroutine) (d:Nat) (F9:Option (Nat×Nat)) (q':Nat->Nat),m=crowd gs' ((w.at d).setChan V.c 0 #[] false (k+1) (k+1) false) F9/\gs'.size=gs.size/\gs'[j]?=some (Go.Conc.served BT (recvd V.ok v true))/\V.home BT/\
   Fr P j (upd I h o) t gs' ((w.at d).setChan V.c 0 #[] false (k+1) (k+1) false) q'/\Deaf t j=0) m' T':=by
  refine runs_until (P:=P)
   (Inv:=fun μ m t=>(∃(gs':Array Goroutine) (BT:Goroutine) (d:Nat) (F9:Option (Nat×Nat)) (q':Nat->Nat),m=crowd gs' ((w.at d).setChan V.c 0 #[] false (k+1) (k+1) false) F9/\gs'.size=gs.size/\gs'[j]?=some (Go.Conc.served BT (recvd V.ok v true))/\V.home BT/\
   Fr P j (upd I h o) t gs' ((w.at d).setChan V.c 0 #[] false (k+1) (k+1) false) q'/\Deaf t j=0)\/∃BZ d H5 Gr,∃pk:Bool,m=crowd BZ (w.at d) H5/\BZ.size=gs.size/\BZ[h]?=some (if pk then parked H4 #[scase V.c v z'] .send else a)/\
   Fr P h I t BZ (w.at d) Gr/\Deaf t h=0/\(pk=true->0<Gr j)/\μ=sumTo BZ.size Gr+(if pk then 0 else 1))
   (fun μ m t zT=>?_) _ _ T (.inr ⟨gs,w.drawn,sl,q,false,rfl,rfl,ha,F,hd,by simp,rfl⟩)
  rcases zT with ri|⟨BZ,d,H5,Gr,pk,rfl,Ey,Gi,Hf,Lj,iW,tg⟩
  ·exact .inl ri
  refine .inr ?_
  obtain⟨gj,oe⟩:∃gj,BZ[j]?=some gj:=⟨BZ[j]'(by omega),Array.getElem?_eq_getElem (by omega)⟩
  have WB:h<BZ.size:=by omega
  have hSj:Sits P (j==0) V.K V.St V.B V.Hb (Gr j) gj:=by have:=Hf.idle j gj O9 oe;rwa [hj]at this
  have hKj:=Hf.keep j V O9 hj
  have rT:∃(i:Nat) (g:Goroutine),BZ[i]?=some g/\g.status= .running:=by
   cases pk with
   | false=>exact⟨h,a,Gi,Be⟩
   | true=>exact⟨j,gj,oe,(Sits.status hKj hSj).elim (·.1) (fun z=>by have:=iW rfl;omega)⟩
  obtain⟨i,g,d',F9,hi,hg,Dn⟩:=crowd_pick (P:=P) (w:=w.at d) (sl:=H5) (Hf.awake Gi (by cases pk <;> simp [Be,parked])) rT
  rw [at_at']at Dn
  have Fd:Fr P h I t BZ (w.at d') Gr:=Hf.at d'
  have my:(w.at d').heap[V.c]?=some (.chan 0 #[] false k k false):=hc
  have Yk:0<μ:=by
   cases pk with
   | false=>simp at tg;omega
   | true=>
    have h1:=iW rfl
    have h2:Gr j<=sumTo BZ.size Gr:=Go.ConcN.le_sumTo (f:=Gr) (by omega)
    simp at tg;omega
  by_cases e:i=h
  ·subst e
   cases pk with
   | true=>rw [Gi]at hi;obtain rfl:=D4 hi;cases hg
   | false=>
    obtain rfl:g=a:=by rw [Gi]at hi;exact(D4 hi).symm
    have cd:∀(x:Nat) (y:Goroutine),x≠j->(BZ.setIfInBounds i ph)[x]?=some y->offersAt y V.c false=[]:=by
     intro x y aJ hy
     rcases getElem?_stand BZ i x y hy with⟨_,rfl⟩|⟨hx,iR⟩
     ·exact offersAt_ph _ _
     ·exact Fd.kZ hx iR fun W hW ec=>aJ (Hf.inj x j W V hx O9 hW hj ec)
    have Ym:=hsend d'
    rcases hSj with⟨kk,R2,hq,hG⟩|⟨Vu,qe,BT,rfl,Gp⟩
    ·have hjr:gj.status= .running:=(Sits.status hKj (.inl ⟨kk,R2,hq,hG⟩)).elim (·.1) (fun z=>by omega)
     have hp:partners (BZ.setIfInBounds i ph) V.c false=[]:=partners_nil fun x y hy=>by
      by_cases aJ:x=j
      ·subst aJ
       rw [stand_get O9 oe]at hy
       obtain rfl:=D4 hy
       exact offersAt_of_not_blocked (by rw [hjr];simp) _ _
      ·exact cd x y aJ hy
     have hw:∀cc∈#[scase V.c v z'],NoWays (w.at d') (BZ.setIfInBounds i ph) cc:=by
      intro cc Rw
      simp only [List.mem_toArray,List.mem_cons,List.not_mem_nil,or_false]at Rw
      subst Rw
      exact ways_send_none my (CY _) hp
     have Po:=crowd_waits (sl:=F9) hi Ym hw
     rw [ofEvents_none]at Po
     refine⟨_,_,sumTo BZ.size Gr+0,by rw [Dn];exact Po,by simp at tg;omega,.inr ⟨_,d',F9,Gr,true,rfl,by simpa using Ey,Array.getElem?_setIfInBounds_self_of_lt WB,?_,by simpa using Lj,fun _=>by omega,by simp⟩⟩
     refine⟨fun x y hx hy=>?_,Fd.keep,Fd.chan,Fd.inj,by simpa using Fd.tr,by simpa using Fd.room,fun x hx=>by simpa using Fd.above x (by simpa using hx)⟩
     rw [G5 (fun z=>hx z.symm)]at hy
     simpa using Fd.idle x y hx hy
    ·have hp:partners (BZ.setIfInBounds i ph) V.c false=[(j,0)]:=by
      rw [partners_one (stand_get O9 oe) fun x y aJ hy=>cd x y aJ hy,offersAt_parked_at aX hu]
      rfl
     have Po:=crowd_send_meets_sel (sl:=F9) hi Ym my O9 oe aX hp
     obtain⟨q',hF,fE⟩:=Fd.pass hj O9 Lj my (gs':=(BZ.setIfInBounds j (BT.finishComm P V.Hb.cases V.Hb.shape (0:Nat) v true)).setIfInBounds i (H4.finishComm P #[scase V.c v z'] .send 0 undef false)) (g':=Go.Conc.served H4 undef) (by simp) WB
      (fun x hx aJ=>by rw [Array.getElem?_setIfInBounds_ne (fun z=>hx z.symm),Array.getElem?_setIfInBounds_ne (fun z=>aJ z.symm)]) (Array.getElem?_setIfInBounds_self_of_lt (by simpa using WB)) o ho H4.frame.fn H4.frame.place BT.frame.fn BT.frame.place
     rw [ofEvents_none,Array.empty_append]at Po
     refine⟨_,_,0,by rw [Dn];exact Po,Yk,.inl ⟨_,BT,d',F9,q',rfl,by simpa using Ey,?_,Gp.2.2.2.2.1,hF,fE⟩⟩
     rw [G5 (fun z=>O9 z.symm),Kf (by omega),finishComm_served]
     exact congrArg (fun z=>some (Go.Conc.served BT z)) (commResult_one ..)
  ·by_cases ej:i=j/\pk=true/\∃BT,V.At P (i==0) g BT
   ·obtain⟨rfl,rfl,BT,Gp⟩:=ej
    obtain⟨_,_,_,_,SI,xb,zD,Tq⟩:=Gp
    obtain⟨Gt,hr,_,hdd⟩:=evC_ops (i:=i) (fn:=g.frame.fn) (pos:=g.frame.place) zD
    have bM:Tr h (Nv h I) (PQ I) (t++MemOp.ofEvents i g.frame.fn g.frame.place xb):=Hf.tr.read ⟨O9,by rw [hj];rfl⟩ Gt (fun op G6 b hb=>⟨(hr op G6 b hb).1,V,hj,(hr op G6 b hb).2⟩) (hdd t)
    have xG:∀x,Deaf (t++MemOp.ofEvents i g.frame.fn g.frame.place xb) x=Deaf t x:=fun x=>by
     by_cases ex:x=i
     ·subst ex;exact hdd t
     ·exact Deaf_other t (fun z=>ex z.symm) _ Gt
    have X8:Fr P h I (t++MemOp.ofEvents i g.frame.fn g.frame.place xb) BZ (w.at d') Gr:=⟨fun x y hx hy=>MW (xG x) (Fd.idle x y hx hy),Fd.keep,Fd.chan,Fd.inj,bM,Fd.room,fun x hx=>by rw [xG];exact Fd.above x hx⟩
    have hp:partners (BZ.setIfInBounds i ph) V.c true=[(h,0)]:=by
     rw [partners_one (stand_get (Ne.symm O9) Gi) fun x y hxh hy=>by
      rcases getElem?_stand BZ i x y hy with⟨_,rfl⟩|⟨_,iR⟩
      ·exact offersAt_ph _ _
      ·exact Fd.noSend hxh iR _]
     simp [offersAt_parked_send]
    have G7:∀(m:Nat) (c':CommCase),m≠0->V.Hb.cases[m]?=some c'->NoWays (w.at d') (BZ.setIfInBounds i ph) c':=by
     intro m c' hm hc'
     rcases m with _|m
     ·exact absurd rfl hm
     ·simp [Du.Hb,Seat.one]at hc'
    have Po:=crowd_sel_recv_meets (sl:=F9) hi (Tq _ (Fd.keep i V O9 hj)) aX G7 my (Ne.symm O9) Gi hp
    obtain⟨q',hF,fE⟩:=X8.pass hj O9 (by rw [xG];exact Lj) my (gs':=(BZ.setIfInBounds h (H4.finishComm P #[scase V.c v z'] .send 0 undef false)).setIfInBounds i (BT.finishComm P V.Hb.cases V.Hb.shape (0:Nat) v true)) (g':=Go.Conc.served H4 undef) (by simp) WB
      (fun x hx aJ=>by rw [G5 (fun z=>aJ z.symm),G5 (fun z=>hx z.symm)]) (by rw [G5 O9,Kf WB];rfl) o ho H4.frame.fn H4.frame.place BT.frame.fn BT.frame.place
    rw [Array.append_assoc]at hF fE
    refine⟨_,_,0,by rw [Dn];exact Po,Yk,.inl ⟨_,BT,d',F9,q',rfl,by simpa using Ey,?_,SI,hF,fE⟩⟩
    rw [Array.getElem?_setIfInBounds_self_of_lt (by simp;omega),finishComm_served]
    exact congrArg (fun z=>some (Go.Conc.served BT z)) (commResult_one ..)
   ·obtain⟨gs',ops,q',Po,Tp,hh,hqo,Vu,F',Cg,XA⟩:=Fd.by_step (sl:=F9) hi e hg Gi
     (by cases pk with
       | false=>exact again_of_running (.inl Be) _
       | true=>exact again_send_open my)
     (fun W BT hW Gp=>by
      cases pk with
      | false=>exact offersAt_of_not_blocked (by simp [Be]) _ _
      | true=>
       simp only [if_true]
       rw [offersAt_parked_send,if_neg]
       intro ec
       have Ta:i=j:=Hf.inj i j W V e O9 hW hj ec.symm
       subst Ta
       rw [hj]at hW
       obtain rfl:=D4 hW
       exact ej ⟨rfl,rfl,BT,Gp⟩)
    refine⟨_,_,sumTo gs'.size q'+(if pk then 0 else 1),by rw [Dn];exact Po,by rw [Tp];omega,.inr ⟨gs',d',F9,q',pk,rfl,Tp.trans Ey,hh,F',XA.trans Lj,fun hp=>?_,rfl⟩⟩
    subst hp
    by_cases Ta:j=i
    ·subst Ta
     rcases Nat.eq_zero_or_pos (q' j)with h0|h0
     ·obtain⟨BT,Gp⟩:=Vu V hj h0
      exact absurd ⟨rfl,rfl,BT,Gp⟩ ej
     ·exact h0
    ·rw [hqo j Ta];exact iW rfl
 obtain⟨N,m',T',hr,gs',BT,d,F9,q',rfl,Ey,hJ,SI,hF,fE⟩:=key
 exact⟨N,gs',BT,d,k,F9,T',q',hr,Ey,hJ,SI,hc,hF,fE⟩
theorem Fr.hire(F:Fr P h I T gs w q){a a' child:Goroutine}{sl:Option (Nat×Nat)}(hd:Deaf T h=0)(ha:gs[h]?=some a)(Be:a.status= .running)(hgo:∀d,stepG P (h==0) a (w.at d)= .spawn a' child (w.at d) #[])
  (W:Du) (hk:∀a v,W.cells a=some v->AF w.heap a=some v) (hc:∃k,w.heap[W.c]?=some (.chan 0 #[] false k k false)) (hf:∀i V,i≠h->I i=some V->V.c≠W.c) {n:Nat} (hs:Sits P false W.K W.St W.B W.Hb n child):
  ∃(N:Nat) (gs':Array Goroutine) (d:Nat) (F9:Option (Nat×Nat)) (T':Trace) (q':Nat->Nat),runNT P N (crowd gs w sl) T=(.next (crowd gs' (w.at d) F9),T')/\gs'.size=gs.size+1/\gs'[h]?=some a'/\Fr P h (upd I gs.size (some W)) T' gs' (w.at d) q'/\Deaf T' h=0:=by
 obtain⟨N,BZ,d,d',H5,Fc,jz,Gr,hr,Dn,Ey,Gi,Hf,Lj⟩:=F.picked (sl:=sl) ha Be
 have Cg:h<BZ.size:=(Array.getElem?_eq_some_iff.1 Gi).1
 have Po:=runT_crowd_spawn (P:=P) (sl:=Fc) Gi (hgo d')
 rw [ofEvents_none]at Po
 have rV:(((#[]:Array MemOp).push {g:=h,fn:=a.frame.fn,pos:=a.frame.place,act:=.go BZ.size}).push {g:=BZ.size,fn:=child.frame.fn,pos:=a.frame.place,act:=.start})=
   #[{g:=h,fn:=a.frame.fn,pos:=a.frame.place,act:=.go BZ.size},{g:=BZ.size,fn:=child.frame.fn,pos:=a.frame.place,act:=.start}]:=rfl
 rw [rV]at Po
 have hD:∀x,Deaf (jz++#[{g:=h,fn:=a.frame.fn,pos:=a.frame.place,act:=.go BZ.size},{g:=BZ.size,fn:=child.frame.fn,pos:=a.frame.place,act:=.start}]) x=Deaf jz x:=fun x=>Deaf_quiet (fun op G6 dd=>by
  simp only [List.mem_toArray,List.mem_cons,List.not_mem_nil,or_false]at G6
  rcases G6 with rfl|rfl <;> rfl)
 have B7:h≠BZ.size:=by omega
 have XW:∀x,x≠BZ.size->upd I BZ.size (some W) x=I x:=fun x hx=>upd_ne I _ hx
 have bM:=Hf.tr.hire (c:=BZ.size) (fun g hg e=>by have:=Hf.room g hg.1 hg.2;omega) (Lj.trans hd) (Hf.above _ (CY _)) W.St (fun l hl=>by obtain⟨a,rfl,_⟩:=hl;rfl) a.frame.fn a.frame.place child.frame.fn
 refine⟨N+1,_,d',Fc,_,upd Gr BZ.size n,runNT_succ_of hr (Dn.trans Po),by simp [Ey],(by rw [Array.getElem?_push,if_neg (by simp;omega)];exact Array.getElem?_setIfInBounds_self_of_lt Cg),?_,(hD h).trans (Lj.trans hd)⟩
 rw [<-Ey]
 refine⟨fun x y hx hy=>?_,fun i V hi e=>?_,fun i V hi e=>?_,fun i i' V V' hi Dc e e' ec=>?_,?_,fun i hi hs=>?_,fun x hx=>?_⟩
 ·by_cases ex:x=BZ.size
  ·subst ex
   rw [Array.getElem?_push,if_pos (by simp)]at hy
   obtain rfl:=D4 hy
   rw [upd_same,upd_same]
   have:(BZ.size==0)=false:=by rw [Mg];omega
   show Sits P (BZ.size==0) W.K W.St W.B W.Hb n child
   rw [this];exact hs
  ·have KH:x<BZ.size:=by
    have:=(Array.getElem?_eq_some_iff.1 hy).1
    simp at this;omega
   rw [Array.getElem?_push,if_neg (by simp;omega),Array.getElem?_setIfInBounds_ne (fun z=>hx z.symm)]at hy
   rw [upd_ne Gr n ex,XW x ex]
   exact MW (hD x) (Hf.idle x y hx hy)
 ·by_cases ei:i=BZ.size
  ·subst ei
   rw [upd_same]at e
   obtain rfl:=D4 e
   exact hk
  ·rw [XW i ei]at e
   exact Hf.keep i V hi e
 ·by_cases ei:i=BZ.size
  ·subst ei
   rw [upd_same]at e
   obtain rfl:=D4 e
   exact hc
  ·rw [XW i ei]at e
   exact Hf.chan i V hi e
 ·by_cases e1:i=BZ.size <;> by_cases e2:i'=BZ.size
  ·rw [e1,e2]
  ·subst e1
   rw [upd_same]at e;rw [XW i' e2]at e'
   obtain rfl:=D4 e
   exact absurd ec.symm (hf i' V' Dc e')
  ·subst e2
   rw [upd_same]at e';rw [XW i e1]at e
   obtain rfl:=D4 e'
   exact absurd ec (hf i V hi e)
  ·rw [XW i e1]at e;rw [XW i' e2]at e'
   exact Hf.inj i i' V V' hi Dc e e' ec
 ·refine bM.congr (fun g=>?_) fun g _ l=>?_
  ·by_cases e:g=BZ.size
   ·subst e
    unfold Nv;rw [upd_same]
    exact⟨fun _=>.inr rfl,fun _=>⟨fun e=>B7 e.symm,rfl⟩⟩
   ·simp only [Nv,XW g e]
    exact⟨.inl,fun x=>x.elim id fun y=>absurd y e⟩
  ·by_cases e:g=BZ.size
   ·subst e
    rw [J6]
    simp only [PQ,upd_same]
    exact⟨fun⟨V,e,h⟩=>by obtain rfl:=D4 e;exact h,fun h=>⟨W,rfl,h⟩⟩
   ·rw [Jy e]
    simp only [PQ,XW g e]
 ·simp only [Array.size_push,Array.size_setIfInBounds]
  by_cases ei:i=BZ.size
  ·omega
  ·rw [XW i ei]at hs
   have:=Hf.room i hi hs
   omega
 ·rw [hD]
  exact Hf.above x (by simp at hx;omega)
end
end
section
open Go Go.Conc
open Go.ConcN (sumTo upd sumTo_upd upd_ne upd_same)
variable{Γ:Type}
structure EX(Γ:Type) where
 num:Γ->Nat
 ch:Γ->Nat->Option Nat
 cells:Γ->Nat->Addr->Option Value
 R:Nat->Γ->Γ->Prop
 Gf:Nat->Γ->Hp->Prop
structure EX.Ok(X:EX Γ):Prop where
 trans:∀i a b c,X.R i a b->X.R i b c->X.R i a c
 pass:∀i γ h c k,X.ch γ i=some c->X.Gf i γ h->h[c]?=some (.chan 0 #[] false k k false)->X.Gf i γ (h.setIfInBounds c (.chan 0 #[] false (k+1) (k+1) false))
abbrev tok:Value:=.agg #[]
def EX.still(X:EX Γ)(i:Nat)(γ:Γ)(a:Addr):Prop:=∃j,j≠i/\j<X.num γ/\(X.ch γ j).isSome=true/\(X.cells γ j a).isSome=true
def AtSend(P:Program)(main:Bool)(c:Nat)(g H4:Goroutine)(h:Hp):Prop:=
 g.status= .running/\∃z',∀w:World,w.heap=h->stepG P main g w= .comm H4 #[scase c tok z'] true .send w #[]
def Gy(P:Program)(X:EX Γ)(i:Nat)(γ:Γ)(h:Hp)(g:Goroutine)(Y:Goroutine->Hp->Ix Γ->Prop):Prop:=
 ∃c,X.ch γ i=some c/\(∀a v,X.cells γ i a=some v->AF h a=some v)/\(∃k,h[c]?=some (.chan 0 #[] false k k false))/\(∀x,x≠i->x<X.num γ->X.ch γ x≠some c)/\
  ∃z ok B n,∀W:Du,W=⟨c,z,ok,X.cells γ i,B,fun BT=>∀BK DT,X.R i γ BK->X.Gf i BK DT->Y (Go.Conc.served BT (recvd ok tok true)) DT ⟨0,BK⟩⟩->Sits P (i==0) W.K W.St W.B W.Hb n g
def HR(X:EX Γ)(i:Nat)(γ γ₁:Γ):Prop:=∀x,x≠i->x<X.num γ->X.ch γ₁ x=X.ch γ x/\X.cells γ₁ x=X.cells γ x/\X.R x γ γ₁
def Mj(P:Program)(X:EX Γ)(i j:Nat)(After:Γ->Goroutine->Prop)(g:Goroutine)(h:Hp)(δ:Ix Γ):Prop:=
 δ.d=0/\∃γ₁ c H4,j≠i/\j<X.num δ.g/\X.ch δ.g j=some c/\AtSend P (i==0) c g H4 h/\X.num γ₁=X.num δ.g/\HR X i δ.g γ₁/\X.Gf j γ₁ h/\After γ₁ (Go.Conc.served H4 undef)
def ED(P:Program)(X:EX Γ)(i:Nat):Cp Γ where
 still:=X.still i
 nf g h δ Y:=Mj P X i 0 (fun γ₁ a=>Gy P X i γ₁ h a Y) g h δ
def MH(P:Program)(X:EX Γ)(i:Nat)(g:Goroutine)(h:Hp)(δ:Ix Γ):Prop:=
 Mj P X i 0 (fun γ₁ a=>X.ch γ₁ i=none/\∃n,QuitsD P n 0 a) g h δ
def tS(P:Program)(X:EX Γ)(Y:Goroutine->Hp->Ix Γ->Prop)(g:Goroutine)(h:Hp)(δ:Ix Γ):Prop:=
 δ.d=0/\g.status= .running/\∃γ₁ a' child,(∀w:World,w.heap=h->stepG P true g w= .spawn a' child w #[])/\X.num γ₁=X.num δ.g+1/\HR X 0 δ.g γ₁/\
  Gy P X (X.num δ.g) γ₁ h child (Dq P false (ED P X (X.num δ.g)) (MH P X (X.num δ.g)))/\Y a' h ⟨0,γ₁⟩
def Ez(P:Program)(X:EX Γ):Cp Γ where
 still:=X.still 0
 nf g h δ Y:=(∃j,Mj P X 0 j (fun γ₁ a=>Gy P X 0 γ₁ h a Y) g h δ)\/tS P X Y g h δ
structure Lk(P:Program)(X:EX Γ)(h:Nat)(γ:Γ)(I:Nat->Option Du)(n:Nat):Prop where
 num:X.num γ=n
 ch:∀i,i≠h->i<n->X.ch γ i=(I i).map (·.c)
 cells:∀i W,i≠h->I i=some W->W.cells=X.cells γ i
 home:∀i W,i≠h->i≠0->I i=some W->∀BT,W.home BT->∀BK DT,X.R i γ BK->X.Gf i BK DT->Dq P false (ED P X i) (MH P X i) (Go.Conc.served BT (recvd W.ok tok true)) DT ⟨0,BK⟩
section
variable{P:Program}{X:EX Γ}{h:Nat}{I:Nat->Option Du}{T:Trace}{gs:Array Goroutine}{w:World}{q:Nat->Nat}{γ:Γ}
theorem Ei.Tz{S S':Addr->Prop}{a b:Hp}(x:Ei S a b)(hs:∀l,S' l->S l):Ei S' a b:=⟨fun l v hl=>x.still l v (hs l hl),x.chan,x.size,x.PW⟩
theorem Lc.Tz{S S':Addr->Prop}{e:Event}(x:Lc S e)(hs:∀l,S' l->S l):Lc S' e:=⟨fun l h1 h2 h3=>x.1 l h1 h2 (hs l h3),x.2⟩
theorem Lk.still(L:Lk P X h γ I gs.size)(F:Fr P h I T gs w q){a:Addr}(ha:NY h I a):X.still h γ a:=by
 obtain⟨i,W,hi,e,hs⟩:=ha
 have Cg:i<gs.size:=F.room i hi (by rw [e];rfl)
 exact⟨i,hi,by rw [L.num];exact Cg,by rw [L.ch i hi Cg,e];rfl,by rw [<-L.cells i W hi e];exact hs⟩
theorem Lk.hand(hX:X.Ok){γ₁:Γ}{i j n:Nat}(L:Lk P X i γ I n)(hn:X.num γ₁=X.num γ)(ho:HR X i γ γ₁){W?:Option Du}(room:∀x,x≠i->(I x).isSome=true->x<n)
  (hs:match W? with
   | none=>X.ch γ₁ i=none
   | some W=>X.ch γ₁ i=some W.c/\W.cells=X.cells γ₁ i/\(i≠0->∀BT,W.home BT->∀BK DT,X.R i γ₁ BK->X.Gf i BK DT->Dq P false (ED P X i) (MH P X i) (Go.Conc.served BT (recvd W.ok tok true)) DT ⟨0,BK⟩)):
  Lk P X j γ₁ (upd I i W?) n:=by
 have hI:∀x,x≠i->upd I i W? x=I x:=fun x hx=>upd_ne I _ hx
 refine⟨hn.trans L.num,fun x hx Cg=>?_,fun x W hx e=>?_,fun x W hx h0 e=>?_⟩
 ·by_cases ex:x=i
  ·subst ex
   rw [upd_same]
   cases W? with
   | none=>exact hs
   | some W=>exact hs.1
  ·rw [hI x ex,(ho x ex (by rw [L.num];exact Cg)).1]
   exact L.ch x ex Cg
 ·by_cases ex:x=i
  ·subst ex
   rw [upd_same]at e
   subst e
   exact hs.2.1
  ·rw [hI x ex]at e
   have Cg:=room x ex (by rw [e];rfl)
   rw [(ho x ex (by rw [L.num];exact Cg)).2.1]
   exact L.cells x W ex e
 ·by_cases ex:x=i
  ·subst ex
   rw [upd_same]at e
   subst e
   exact hs.2.2 h0
  ·rw [hI x ex]at e
   have Cg:=room x ex (by rw [e];rfl)
   intro BT hg BK DT hr hp
   exact L.home x W ex h0 e BT hg BK DT (hX.trans _ _ _ _ (ho x ex (by rw [L.num];exact Cg)).2.2 hr) hp
theorem Nb(w:World)(d:Nat):FN w (w.at d):=⟨rfl,rfl,rfl⟩
theorem WX(w:World)(c cap:Nat)(buf:Array Value)(cl:Bool)(s r:Nat)(tm:Bool):FN w (w.setChan c cap buf cl s r tm):=⟨rfl,rfl,rfl⟩
theorem MX(hX:X.Ok){i j:Nat}{g:Goroutine}{δ:Ix Γ}{After:Γ->Goroutine->Prop}(Q:Γ->Option Du->Prop){sl:Option (Nat×Nat)}(F:Fr P i I T gs w q)(L:Lk P X i δ.g I gs.size)(hg:gs[i]?=some g)(hd:Deaf T i=δ.d)(H:Mj P X i j After g w.heap δ)
  (hW:∀γ₁ a,X.num γ₁=X.num δ.g->After γ₁ a->∃W?:Option Du,Q γ₁ W?/\(match W? with
   | none=>0<i/\∃n,QuitsD P n 0 a
   | some W=>(∀a v,W.cells a=some v->AF w.heap a=some v)/\(∃k,w.heap[W.c]?=some (.chan 0 #[] false k k false))/\(∀x,x≠i->x<X.num γ₁->X.ch γ₁ x≠some W.c)/\∃n,Sits P (i==0) W.K W.St W.B W.Hb n a)/\
   (match W? with
   | none=>X.ch γ₁ i=none
   | some W=>X.ch γ₁ i=some W.c/\W.cells=X.cells γ₁ i/\(i≠0->∀BT,W.home BT->∀BK DT,X.R i γ₁ BK->X.Gf i BK DT->Dq P false (ED P X i) (MH P X i) (Go.Conc.served BT (recvd W.ok tok true)) DT ⟨0,BK⟩))):
  ∃V,I j=some V/\∃(N:Nat) (gs':Array Goroutine) (BT:Goroutine) (w':World) (F9:Option (Nat×Nat)) (T':Trace) (q':Nat->Nat) (γ₁:Γ) (W?:Option Du),
   runNT P N (crowd gs w sl) T=(.next (crowd gs' w' F9),T')/\gs'.size=gs.size/\gs'[j]?=some (Go.Conc.served BT (recvd V.ok tok true))/\V.home BT/\Fr P j (upd I i W?) T' gs' w' q'/\Lk P X j γ₁ (upd I i W?) gs'.size/\Deaf T' j=0/\FN w w'/\
   X.Gf j γ₁ w'.heap/\Q γ₁ W?/\HR X i δ.g γ₁/\j≠i/\j<gs.size:=by
 obtain⟨Xe,γ₁,c,H4,M9,U8,uV,⟨Be,z',Dn⟩,JH,Kx,YN,jf⟩:=H
 rw [L.num]at U8
 have e:=L.ch j M9 U8
 rw [uV]at e
 obtain⟨V,eV,rfl⟩:∃V,I j=some V/\V.c=c:=by
  cases h:I j with
  | none=>rw [h]at e;cases e
  | some V=>rw [h]at e;exact⟨V,rfl,(D4 e).symm⟩
 obtain⟨W?,hQ,h1,h2⟩:=hW γ₁ _ JH jf
 have hA:UM P i I w.heap (Go.Conc.served H4 undef) W?:=by
  cases W? with
  | none=>exact h1
  | some W=>
   refine⟨h1.1,h1.2.1,fun x V' hx pO=>?_,h1.2.2.2⟩
   have Cg:=F.room x hx (by rw [pO];rfl)
   have h3:=h1.2.2.1 x hx (by rw [JH,L.num];exact Cg)
   rw [(Kx x hx (by rw [L.num];exact Cg)).1,L.ch x hx Cg,pO]at h3
   exact fun ec=>h3 (by simp [ec])
 obtain⟨N,gs',BT,d,k,F9,T',q',hr,Ey,hJ,SI,hc,hF,fE⟩:=F.give (sl:=sl) M9 U8 eV (hd.trans Xe) hg Be (fun d=>Dn _ rfl) W? hA
 exact⟨V,eV,N,gs',BT,_,F9,T',q',γ₁,W?,hr,Ey,hJ,SI,hF,by rw [Ey];exact L.hand hX JH Kx F.room h2,fE,(Nb w d).trans (WX _ _ _ _ _ _ _ _),hX.pass _ _ _ _ _ ((Kx j M9 (by rw [L.num];exact U8)).1.trans uV) YN hc,hQ,Kx,M9,U8⟩
theorem OT{main:Bool}{i:Nat}(hm:main=(i==0)){g:Goroutine}{δ:Ix Γ}{S:Cp Γ}(hS:S.still=X.still i){Y:Goroutine->Hp->Ix Γ->Prop}{sl:Option (Nat×Nat)}(F:Fr P i I T gs w q)(L:Lk P X i δ.g I gs.size)(hg:gs[i]?=some g)(hd:Deaf T i=δ.d)
  (H:Je P main S Y g w.heap δ):
  ∃(N:Nat) (gs':Array Goroutine) (g':Goroutine) (w':World) (F9:Option (Nat×Nat)) (T':Trace) (q':Nat->Nat) (AW:Ix Γ),runNT P N (crowd gs w sl) T=(.next (crowd gs' w' F9),T')/\gs'.size=gs.size/\gs'[i]?=some g'/\Fr P i I T' gs' w' q'/\AW.g=δ.g/\
   Deaf T' i=AW.d/\FN w w'/\Y g' w'.heap AW:=by
 subst hm
 obtain⟨Be,Dn⟩:=H
 obtain⟨N,BZ,d,d',H5,Fc,jz,Gr,hr,Tq,Ey,Gi,Hf,Lj⟩:=F.picked (sl:=sl) hg Be
 obtain⟨g',w',es,h1,h2,h3,h4,h5⟩:=Dn (w.at d') rfl
 have Qs:∀l,NY i I l->S.still δ.g l:=fun l hl=>by rw [hS];exact L.still F hl
 obtain⟨gs',ops,Po,Tp,Vw,F',XA⟩:=Hf.own (sl:=Fc) Gi h1 (h3.Tz Qs) (fun e he=>(h4 e he).Tz Qs)
 exact⟨N+1,gs',g',w',Fc,_,Gr,Et δ es,runNT_succ_of hr (Tq.trans Po),Tp.trans Ey,Vw,F',rfl,by rw [XA,Lj,hd];rfl,(Nb w d').trans h2,h5⟩
theorem phase(hX:X.Ok){i:Nat}(hi:i≠0){g:Goroutine}{hp:Hp}{δ:Ix Γ}(H:Dq P false (ED P X i) (MH P X i) g hp δ):
  ∀{I:Nat->Option Du} {T:Trace} {gs:Array Goroutine} {w:World} {q:Nat->Nat} {sl:Option (Nat×Nat)},w.heap=hp->Fr P i I T gs w q->Lk P X i δ.g I gs.size->gs[i]?=some g->Deaf T i=δ.d->
  ∃V,I 0=some V/\∃(N:Nat) (gs':Array Goroutine) (BT:Goroutine) (w':World) (F9:Option (Nat×Nat)) (T':Trace) (q':Nat->Nat) (γ₁:Γ) (I':Nat->Option Du),
   runNT P N (crowd gs w sl) T=(.next (crowd gs' w' F9),T')/\gs'.size=gs.size/\gs'[0]?=some (Go.Conc.served BT (recvd V.ok tok true))/\V.home BT/\Fr P 0 I' T' gs' w' q'/\Lk P X 0 γ₁ I' gs'.size/\Deaf T' 0=0/\FN w w'/\X.Gf 0 γ₁ w'.heap/\X.R 0 δ.g γ₁:=by
 have rc:false=(i==0):=by simpa using hi
 induction H with
 | stop hs=>
  intro I T gs w q sl hw F L hg hd
  subst hw
  have h0:0<gs.size:=VN (Bv _) (Array.getElem?_eq_some_iff.1 hg).1
  obtain⟨V,eV,N,gs',BT,w',F9,T',q',γ₁,W?,h1,h2,h3,h4,h5,h6,h7,h8,h9,Gq,NC,Rx,ag⟩:=MX hX (fun _ _=>True) (sl:=sl) F L hg hd hs fun γ₁ a _ hx=>⟨none,trivial,⟨Nat.pos_of_ne_zero hi,hx.2⟩,hx.1⟩
  exact⟨V,eV,N,gs',BT,w',F9,T',q',γ₁,_,h1,h2,h3,h4,h5,h6,h7,h8,h9,(NC 0 (Ne.symm hi) (by rw [L.num];exact h0)).2.2⟩
 | step Y _ Dn ih=>
  intro I T gs w q sl hw F L hg hd
  subst hw
  obtain⟨N,gs',g',w',F9,T',q',AW,h1,h2,h3,h4,h5,h6,h7,h8⟩:=OT rc rfl (sl:=sl) F L hg hd Dn
  obtain⟨V,eV,NM,JW,BT,Nr,Fc,KS,NH,γ₁,I',k1,k2,k3,k4,k5,k6,k7,k8,k9,ax⟩:=ih _ _ _ h8 (sl:=F9) rfl h4 (by rw [h5,h2];exact L) h3 h6
  exact⟨V,eV,N+NM,JW,BT,Nr,Fc,KS,NH,γ₁,I',runNT_then h1 k1,k2.trans h2,k3,k4,k5,k6,k7,h7.trans k8,k9,h5▸ax⟩
 | H7 Y hY hy _=>
  intro I T gs w q sl hw F L hg hd
  subst hw
  have h0:0<gs.size:=VN (Bv _) (Array.getElem?_eq_some_iff.1 hg).1
  obtain⟨V,eV,N,gs',BT,w',F9,T',q',γ₁,W?,h1,h2,h3,h4,h5,h6,h7,h8,h9,Gq,NC,Rx,ag⟩:=MX hX (fun _ _=>True) (sl:=sl) F L hg hd (show Mj P X i 0 (fun γ₁ a=>Gy P X i γ₁ w.heap a Y) _ _ _ from hy) fun γ₁ a _ ⟨c,e1,e2,e3,e4,z,ok,B,n,e5⟩=>
   ⟨some _,trivial,⟨e2,e3,e4,n,e5 _ rfl⟩,e1,rfl,fun _ BT hh BK DT hr hp=>hY _ _ _ (hh BK DT hr hp)⟩
  exact⟨V,eV,N,gs',BT,w',F9,T',q',γ₁,_,h1,h2,h3,h4,h5,h6,h7,h8,h9,(NC 0 (Ne.symm hi) (by rw [L.num];exact h0)).2.2⟩
theorem dm(hX:X.Ok){Stop:Goroutine->Hp->Ix Γ->Prop}{g:Goroutine}{hp:Hp}{δ:Ix Γ}(H:Dq P true (Ez P X) Stop g hp δ):
  ∀{I:Nat->Option Du} {T:Trace} {gs:Array Goroutine} {w:World} {q:Nat->Nat} {sl:Option (Nat×Nat)},w.heap=hp->Fr P 0 I T gs w q->Lk P X 0 δ.g I gs.size->gs[0]?=some g->Deaf T 0=δ.d->
  ∃(N:Nat) (gs':Array Goroutine) (g':Goroutine) (w':World) (F9:Option (Nat×Nat)) (T':Trace) (q':Nat->Nat) (AW:Ix Γ) (I':Nat->Option Du),
   runNT P N (crowd gs w sl) T=(.next (crowd gs' w' F9),T')/\gs'[0]?=some g'/\Fr P 0 I' T' gs' w' q'/\Lk P X 0 AW.g I' gs'.size/\Deaf T' 0=AW.d/\FN w w'/\Stop g' w'.heap AW:=by
 induction H with
 | stop hs=>
  intro I T gs w q sl hw F L hg hd
  subst hw
  exact⟨0,gs,_,w,sl,T,q,_,I,rfl,hg,F,L,hd,FN.refl _,hs⟩
 | step Y _ Dn ih=>
  intro I T gs w q sl hw F L hg hd
  subst hw
  obtain⟨N,gs',g',w',F9,T',q',AW,h1,h2,h3,h4,h5,h6,h7,h8⟩:=OT (by rfl) rfl (sl:=sl) F L hg hd Dn
  obtain⟨NM,JW,BT,Nr,Fc,KS,NH,N4,I',k1,k3,k5,k6,k7,k8,k9⟩:=ih _ _ _ h8 (sl:=F9) rfl h4 (by rw [h5,h2];exact L) h3 h6
  exact⟨N+NM,JW,BT,Nr,Fc,KS,NH,N4,I',runNT_then h1 k1,k3,k5,k6,k7,h7.trans k8,k9⟩
 | @H7 g hp δ Y hY hy ih=>
  intro I T gs w q sl hw F L hg hd
  subst hw
  rcases hy with⟨j,hy⟩|⟨Xe,Be,γ₁,a',child,Dn,JH,Kx,⟨c,e1,e2,e3,e4,z,ok,B,n,e5⟩,hx⟩
  ·obtain⟨V,eV,N,gs',BT,w',F9,T',q',γ₁,W?,h1,h2,h3,h4,h5,h6,h7,h8,h9,⟨W,rfl,hW⟩,NC,Rx,ag⟩:=MX hX
    (fun γ₁ W?=>∃W,W?=some W/\∀BT,W.home BT->∀BK DT,X.R 0 γ₁ BK->X.Gf 0 BK DT->Y (Go.Conc.served BT (recvd W.ok tok true)) DT ⟨0,BK⟩) (sl:=sl) F L hg hd hy fun γ₁ a _ ⟨c,e1,e2,e3,e4,z,ok,B,n,e5⟩=>
    ⟨some ⟨c,z,ok,X.cells γ₁ 0,B,fun BT=>∀BK DT,X.R 0 γ₁ BK->X.Gf 0 BK DT->Y (Go.Conc.served BT (recvd ok tok true)) DT ⟨0,BK⟩⟩,⟨_,rfl,fun BT x=>x⟩,⟨e2,e3,e4,n,e5 _ rfl⟩,e1,rfl,fun h=>absurd rfl h⟩
   have hR:=L.home j V Rx Rx eV BT h4 γ₁ w'.heap (NC j Rx (by rw [L.num];exact ag)).2.2 h9
   obtain⟨V',pO,NM,JW,zV,Nr,Fc,KS,NH,BK,qs,k1,k2,k3,k4,k5,k6,k7,k8,k9,ax⟩:=phase hX Rx hR (sl:=F9) rfl h5 h6 h3 h7
   rw [upd_same]at pO
   obtain rfl:=D4 pO
   obtain⟨AFk,rp,zU,xw,YE,zl,yQ,YA,zm,m1,m3,m5,m6,m7,m8,m9⟩:=ih _ _ _ (hW zV k4 BK Nr.heap ax k9) (sl:=Fc) rfl k5 k6 k3 k7
   exact⟨_,rp,zU,xw,YE,zl,yQ,YA,zm,runNT_then (runNT_then h1 k1) m1,m3,m5,m6,m7,(h8.trans k8).trans m8,m9⟩
  ·have SA:0<gs.size:=(Array.getElem?_eq_some_iff.1 hg).1
   have hb:(X.num δ.g==0)=false:=by rw [Mg,L.num];omega
   have e6:=e5 _ rfl
   rw [hb]at e6
   have B7:gs.size≠0:=by omega
   obtain⟨N,gs',d,F9,T',q',h1,h2,h3,h4,h5⟩:=F.hire (sl:=sl) (hd.trans Xe) hg Be (fun d=>Dn _ rfl) _ e2 e3 (fun i V hi eV=>by
    have Cg:=F.room i hi (by rw [eV];rfl)
    have e7:=e4 i (by rw [L.num];omega) (by rw [JH,L.num];omega)
    rw [(Kx i hi (by rw [L.num];exact Cg)).1,L.ch i hi Cg,eV]at e7
    exact fun ec=>e7 (by simp [ec])) e6
   have hI:∀x (W:Du),x≠gs.size->upd I gs.size (some W) x=I x:=fun x W hx=>upd_ne I _ hx
   obtain⟨NM,JW,BT,Nr,Fc,KS,NH,N4,I',k1,k3,k5,k6,k7,k8,k9⟩:=ih _ _ _ hx (sl:=F9) (w:=w.at d) rfl h4 (by
    refine⟨by rw [JH,L.num,h2],fun x hx Cg=>?_,fun x W hx e=>?_,fun x W hx h0 e=>?_⟩
    ·by_cases ex:x=gs.size
     ·subst ex
      rw [upd_same,<-L.num,e1];rfl
     ·rw [hI x _ ex,(Kx x hx (by rw [L.num];omega)).1]
      exact L.ch x hx (by omega)
    ·by_cases ex:x=gs.size
     ·subst ex
      rw [upd_same]at e
      obtain rfl:=D4 e
      rw [L.num]
     ·rw [hI x _ ex]at e
      have Cg:=F.room x hx (by rw [e];rfl)
      rw [(Kx x hx (by rw [L.num];omega)).2.1]
      exact L.cells x W hx e
    ·by_cases ex:x=gs.size
     ·subst ex
      rw [upd_same]at e
      obtain rfl:=D4 e
      intro BT hh BK DT hr hp
      rw [L.num]at hh
      exact hh BK DT hr hp
     ·rw [hI x _ ex]at e
      have Cg:=F.room x hx (by rw [e];rfl)
      intro BT hh BK DT hr hp
      exact L.home x W hx h0 e BT hh BK DT (hX.trans _ _ _ _ (Kx x hx (by rw [L.num];omega)).2.2 hr) hp) h3 h5
   exact⟨N+NM,JW,BT,Nr,Fc,KS,NH,N4,I',runNT_then h1 k1,k3,k5,k6,k7,(Nb w d).trans k8,k9⟩
end
end
section
open Go Go.Conc
open Go.ConcN (sumTo upd sumTo_upd upd_ne upd_same)
variable{Γ:Type}
theorem US{P:Program}{f:FuncId}{a:Act}{todo:List Item}{fn:Func}{v:Value}{w:World}{es:Array Event}(hd:a.defers=[])(hf:P.funcs[f]?=some fn)(jZ:P.inits.idxOf? f=none)
  (hv:(results fn a.tmps).runT P w #[]=(.ok v w,es)):stepG P true (G {(fb f .normal).at a todo with mode:=.returning} []) w= .ended (.done v) w (seen P f es):=by
 simp only [G,stepG,unwind,Frame.at,hd,hf,fb,hv]
 simp [doReturn,GStep.after,jZ]
theorem dE{I:Nat->Option Du}{t:Trace}(H:Tr 0 (Nv 0 I) (PQ I) t)(hI:∀i,i≠0->I i=none):t.HandedOver:=by
 intro i g hg B7 ⟨x,hx,hm,_⟩
 rcases H.known i x hx hm with⟨q,z,hq,hz,hb⟩|⟨_,g',_,w8,_⟩
 ·rcases hb with rfl|hb
  ·rw [g?_of hq,hz]at hg
   exact absurd (D4 hg).symm B7
  ·exact⟨q,by rw [g?_of hq,hz],hb⟩
 ·have:=w8.2
  rw [hI g' w8.1]at this
  cases this
theorem lD(P:Program)(g:Goroutine)(w:World):Fr P 0 (fun _=>none) #[] #[g] w (fun _=>0):=by
 refine⟨fun i g' hi hg=>?_,fun _ _ _ e=>(by cases e),fun _ _ _ e=>(by cases e),fun _ _ _ _ _ _ e=>(by cases e),⟨fun said=>?_,fun i a ha=>?_,fun i a ha=>?_,fun g' hg=>?_⟩,fun i hi hs=>(by cases hs),fun j _=>rfl⟩
 ·have:i<1:=by simpa using (Array.getElem?_eq_some_iff.1 hg).1
  omega
 ·rintro⟨i,j,_,⟨a,b,ha,_⟩,_⟩;simp [Trace.act?]at ha
 ·simp [touchAt,Trace.act?]at ha
 ·simp [touchAt,Trace.act?]at ha
 ·cases hg.2
theorem Kl{P:Program}:∀(n:Nat) (m m':Machine) (t t':Trace),runNT P n m t=(.next m',t')->runN P n m= .next m'
 | 0,m,m',t,t',h=>by simp only [runNT,Prod.mk.injEq]at h;rw [runN];exact h.1
 | n+1,m,m',t,t',h=>by
  simp only [runNT]at h
  cases e:stepT P m with
  | mk s ops=>
   rw [e]at h
   cases s with
   | next Xs=>
    simp only at h
    have:step P m= .next Xs:=by rw [step,e]
    rw [runN,this]
    exact Kl n Xs m' _ t' h
   | _=>simp at h
theorem O6{P:Program}{N:Nat}{m Xs:Machine}{t pe:Trace}{o:Outcome}{w:World}{ops:Array MemOp}(h:runNT P N m t=(.next Xs,pe))(hs:stepT P Xs=(.ended o w,ops)):runNT P (N+1) m t=(.ended o w,pe++ops):=by
 rw [runNT_add,h];simp only [runNT,hs]
end
section
open Go Go.Conc
variable{Γ:Type}
def FM(P:Program)(C:Addr->Option Value){α:Type}:Sem α->(α->Prop)->Prop
 | .pure a,Q=>Q a
 | .load m a k,Q=>m= .plain/\∃v,C a=some v/\FM P C (k v) Q
 | .program k,Q=>FM P C (k P) Q
 | _,_=>False
section
variable{P:Program}{C:Addr->Option Value}
def RB(C:Addr->Option Value)(es:Array Event):Prop:=∀e∈es,∃a,e=(⟨.cell a,false,false⟩:Event)/\(C a).isSome=true
def xr(C:Addr->Option Value)(h:Hp):Prop:=∀a v,C a=some v->AF h a=some v
theorem LG{α:Type}(s:Sem α):∀{Q:α->Prop},FM P C s Q->∀w:World,xr C w.heap->∀OA:Array Event,∃a es,s.runT P w OA=(.ok a w,OA++es)/\Q a/\RB C es:=by
 induction s with
 | pure a=>intro Q h w _ OA;exact⟨a,#[],by simp [Sem.runT],h,by simp [RB]⟩
 | load m a k ih=>
  intro Q ⟨hm,v,hv,h⟩ w hC OA
  subst hm
  obtain⟨x,es,h1,h2,h3⟩:=ih v h w hC (OA.push ⟨.cell a,false,false⟩)
  refine⟨x,#[⟨.cell a,false,false⟩]++es,?_,h2,fun e he=>?_⟩
  ·have e:w.cell? a=some v:=hC a v hv
   simp only [Sem.runT,e]
   rw [show(Mode.plain==Mode.atomic)=false from rfl,h1,Array.push_eq_append,Array.append_assoc]
  ·rcases Array.mem_append.1 he with he|he
   ·simp at he;subst he
    exact⟨a,rfl,by rw [hv];rfl⟩
   ·exact h3 e he
 | program k ih=>
  intro Q h w hC OA
  obtain⟨x,es,h1,h2,h3⟩:=ih P h w hC OA
  exact⟨x,es,by simp only [Sem.runT];exact h1,h2,h3⟩
 | _=>intro Q h;exact h.elim
theorem Fj{α β:Type}(s:Sem α)(f:α->Sem β):∀{Q:β->Prop},FM P C s (fun a=>FM P C (f a) Q)->FM P C (s.bind f) Q:=by
 induction s with
 | pure a=>intro Q h;exact h
 | load m a k ih=>intro Q ⟨h1,v,h2,h3⟩;exact⟨h1,v,h2,ih v h3⟩
 | program k ih=>intro Q h;exact ih P h
 | _=>intro Q h;exact h.elim
theorem Pe{α β:Type}{a:α}{g:α->Sem β}{Q:β->Prop}(hs:FM P C (g a) Q):FM P C (pure a >>= g) Q:=hs
theorem G0{β:Type}{t:TypeId}{d:TypeDesc}(hu:P.underlying t=some d){g:TypeDesc->Sem β}{Q:β->Prop}(hs:FM P C (g d) Q):FM P C (underlying t >>= g) Q:=by
 change FM P C (Sem.bind (Sem.bind (Sem.program Sem.pure) _) g) Q
 simp only [Sem.bind,FM,hu]
 exact hs
theorem TC{β:Type}{t:TypeId}{i:TypeInfo}(hu:P.info? t=some i){g:Nat->Sem β}{Q:β->Prop}(hs:FM P C (g i.size) Q):FM P C (sizeOf t >>= g) Q:=by
 refine Fj _ _ (Fj _ _ ?_)
 change FM P C (Sem.bind (Sem.program Sem.pure) _) _
 simp only [Sem.bind,FM,hu]
 exact hs
theorem O5{β:Type}{t:TypeId}{i:TypeInfo}{z:Value}(hu:P.info? t=some i)(hz:i.zero=some z){g:Value->Sem β}{Q:β->Prop}(hs:FM P C (g z) Q):FM P C (zeroValue t >>= g) Q:=by
 refine Fj _ _ (Fj _ _ ?_)
 change FM P C (Sem.bind (Sem.program Sem.pure) _) _
 simp only [Sem.bind,FM,hu]
 show FM P C (match i.zero with|some v=>pure v|none=>unsupported (.resourceLimit "a value of more than 2^22 cells"):Sem Value) _
 simp only [hz]
 exact hs
theorem UZ{β:Type}{t:TypeId}{d:TypeDesc}(hu:P.underlying t=some d){g:Bool->Sem β}{Q:β->Prop}(hs:FM P C (g (SD d)) Q):FM P C (isAgg t >>= g) Q:=by
 refine Fj _ _ ?_
 unfold isAgg
 refine G0 hu ?_
 cases d <;> exact hs
theorem Pf{t:TypeId}[s:DU P t]{a:Addr}{v:Value}{Q:Value->Prop}(hc:C a=some v)(hq:Q v):FM P C (loadVar t a) Q:=by
 obtain⟨d,hu,hd,_⟩:=s.out
 unfold loadVar
 refine UZ hu ?_
 rw [hd]
 exact⟨rfl,v,hc,hq⟩
theorem Rd{s Jw off:Nat}[fo:AO P s Jw off]{b o:Nat}{Q:Value->Prop}(hq:Q (.pointer (some ⟨b,o+off,none⟩))):FM P C (Instr.fieldAt s (.pointer (some ⟨b,o,none⟩)) Jw) Q:=by
 obtain⟨fields,fd,inf,hu,hf,ho,hi,hs⟩:=fo.out
 unfold Instr.fieldAt
 refine G0 hu ?_
 simp only [hf]
 refine Pe ?_
 refine Fj _ _ ?_
 unfold fieldPlace
 refine TC hi ?_
 rw [if_neg hs,add_eq,ho]
 exact hq
end
def Way(P:Program)(main:Bool)(c:Nat)(C:Addr->Option Value)(B:Nat)(Hm:Goroutine->Prop)(g:Goroutine):Prop:=
 ∃z ok n,∀W:Du,W=⟨c,z,ok,C,B,fun BT=>Hm (Go.Conc.served BT (recvd ok tok true))⟩->∀w,Goes P main (RK W.K) (DS W.St W.B) (fun g _=>∃BT,W.At P main g BT) n g w
section
variable{P:Program}{main:Bool}{c:Nat}{C:Addr->Option Value}{B:Nat}{Hm:Goroutine->Prop}
theorem Way.go{g g':Goroutine}(hr:g.status= .running)(hB:∀a,(C a).isSome=true->a.block<B)(Dn:∀w:World,xr C w.heap->∃es,stepG P main g w= .go g' w es/\RB C es)(hw:Way P main c C B Hm g'):Way P main c C B Hm g:=by
 obtain⟨z,ok,n,hn⟩:=hw
 refine⟨z,ok,n+1,fun W hW w=>.inr ⟨hr,fun PL hK=>?_⟩⟩
 have o8:=hn W hW PL
 subst hW
 obtain⟨es,h1,h2⟩:=Dn PL hK
 rw [h1,goes_go]
 refine⟨⟨rfl,fun e he=>?_⟩,o8⟩
 obtain⟨a,rfl,ha⟩:=h2 e he
 exact⟨a,rfl,⟨a,rfl,ha⟩,hB a ha⟩
theorem Way.ctl{g g':Goroutine}(hr:g.status= .running)(hB:∀a,(C a).isSome=true->a.block<B)(Dn:∀w:World,stepG P main g w= .go g' w)(hw:Way P main c C B Hm g'):Way P main c C B Hm g:=
 Way.go hr hB (fun w _=>⟨#[],Dn w,by simp [RB]⟩) hw
theorem Way.recv{g:Goroutine}{z:Value}{ok:Bool}(hr:g.status= .running)(_hB:∀a,(C a).isSome=true->a.block<B)
  (Dn:∀w:World,xr C w.heap->stepG P main g w= .comm g #[rcase c z] true (.recv ok) w #[]) (hh:Hm (Go.Conc.served g (recvd ok tok true))):Way P main c C B Hm g:=by
 refine⟨z,ok,0,fun W hW w PL hK=>?_⟩
 subst hW
 exact⟨g,hr,rfl,rfl,rfl,hh,#[],by simp,fun w hw=>Dn w hw⟩
theorem ZB{X:EX Γ}{i:Nat}{γ:Γ}{h:Hp}{g:Goroutine}{Y:Goroutine->Hp->Ix Γ->Prop}(hm:main=(i==0))(h1:X.ch γ i=some c)(h2:∀a v,X.cells γ i a=some v->AF h a=some v)(h3:∃k,h[c]?=some (.chan 0 #[] false k k false))
  (h4:∀x,x≠i->x<X.num γ->X.ch γ x≠some c) (hw:Way P main c (X.cells γ i) B (fun g=>∀BK DT,X.R i γ BK->X.Gf i BK DT->Y g DT ⟨0,BK⟩) g):Gy P X i γ h g Y:=by
 subst hm
 obtain⟨z,ok,n,hn⟩:=hw
 exact⟨c,h1,h2,h3,h4,z,ok,B,n+1,fun W hW=>.inl ⟨n,default,rfl,hn W (by rw [hW]) default⟩⟩
end
section
variable(P:Program)(main:Bool)(c:Nat)(C:Addr->Option Value)(B:Nat)(Hm:Goroutine->Prop)(f:FuncId)(n:Nat)(kind:CallKind)(cs:List Frame)
def EY(todo:List Item)(env:Env)(ds:List Deferred):Prop:=∀a,Kn n env ds a->Way P main c C B Hm (G ((fb f kind).at a todo) cs)
def RY(ops:Array Oper)(l:List Oper)(k:List Item)(env:Env)(ds:List Deferred):Prop:=
 ∀rest:List Nat,rest.map (fun i=>ops[i]?)=l.map some->EY P main c C B Hm f n kind cs (.inRegion ops rest::k) env ds
end
section
variable{P:Program}{main:Bool}{c:Nat}{C:Addr->Option Value}{B:Nat}{Hm:Goroutine->Prop}{f:FuncId}{n:Nat}{kind:CallKind}{cs:List Frame}{k:List Item}{env:Env}{ds:List Deferred}
theorem ZA(hB:∀a,(C a).isSome=true->a.block<B){x y:Code}(hw:EY P main c C B Hm f n kind cs (.code x:: .code y::k) env ds):EY P main c C B Hm f n kind cs (.code (.seq x y)::k) env ds:=fun a ka=>Way.ctl rfl hB (fun _=>stepG_seq) (hw a ka)
theorem RA(hB:∀a,(C a).isSome=true->a.block<B){id:Nat}{ops:Array Oper}(hw:RY P main c C B Hm f n kind cs ops ops.toList k env ds):EY P main c C B Hm f n kind cs (.code (.region id ops false)::k) env ds:=by
 intro a ka
 refine Way.ctl rfl hB (fun _=>stepG_region) (hw _ ?_ a ka)
 apply List.ext_getElem?
 intro i
 simp only [List.getElem?_map,Array.getElem?_toList]
 by_cases hi:i<ops.size
 ·simp [hi]
 ·have h1:(List.range ops.size)[i]?=none:=by simp;omega
  have h2:ops[i]?=none:=by simp;omega
  rw [h1,h2];rfl
theorem UI(hB:∀a,(C a).isSome=true->a.block<B){ops:Array Oper}(hw:EY P main c C B Hm f n kind cs k env ds):RY P main c C B Hm f n kind cs ops [] k env ds:=by
 intro rest hr a ka
 have:rest=[]:=by simpa using hr
 subst this
 exact Way.ctl rfl hB (fun _=>stepG_region_end) (hw a ka)
section
variable{ops:Array Oper}{l:List Oper}{d:Nat}{ty:TypeId}{pos:String}{af:Array Edge}{g:Option (Nat×Bool)}
theorem OP{op:Op}{v:Value}(hB:∀a,(C a).isSome=true->a.block<B)(hk:kind≠ .early)(hw:Al ops env g=some true)(hd:Nat.blt d n=true)
  (hs:∀ρ:Operand->Value,(∀x v,ev env x=some v->ρ x=v)->FM P C (execOp ρ ⟨some d,op,ty,pos,af,g⟩) (fun nx=>nx= .value v))
  (hn:RY P main c C B Hm f n kind cs ops l k ((d,v)::env) ds):RY P main c C B Hm f n kind cs ops (⟨some d,op,ty,pos,af,g⟩::l) k env ds:=by
 intro rest hr a ka
 obtain⟨i,r,rfl,ho,IQ⟩:=G4 hr
 refine Way.go rfl hB (fun w hC=>?_) (hn r IQ _ (ka.put v hd))
 obtain⟨x,es,h1,rfl,h3⟩:=LG _ (hs a.eval (fun x v hx=>ka.eval hx)) w hC #[]
 have Dh:(kind==CallKind.early)=false:=by simpa using hk
 have Ho:((fb f kind).at a (.inRegion ops (i::r)::k)).finish v=(fb f kind).at (a.put (some d) v) (.inRegion ops r::k):=by rw [Frame.finish_at,ho];rfl
 refine⟨seen P f es,?_,fun e he=>h3 e (mem_seen he)⟩
 rw [stepG_oper ho (CN ka (o:=⟨some d,op,ty,pos,af,g⟩) hw)]
 have GN:((fb f kind).at a (.inRegion ops (i::r)::k)).kind=kind:=rfl
 have No:((fb f kind).at a (.inRegion ops (i::r)::k)).fn=f:=rfl
 simp only [stepG.apply,h1,if_true,GN,Dh,No,Bool.false_eq_true,if_false,Array.empty_append,<-Ho]
 simp [GStep.after,G]
theorem lu{op:Op}{dd:Deferred}(hB:∀a,(C a).isSome=true->a.block<B)(hk:kind≠ .early)(hw:Al ops env g=some true)
  (hs:∀ρ:Operand->Value,(∀x v,ev env x=some v->ρ x=v)->FM P C (execOp ρ ⟨none,op,ty,pos,af,g⟩) (fun nx=>nx= .defer dd))
  (hn:RY P main c C B Hm f n kind cs ops l k env (dd::ds)):RY P main c C B Hm f n kind cs ops (⟨none,op,ty,pos,af,g⟩::l) k env ds:=by
 intro rest hr a ka
 obtain⟨i,r,rfl,ho,IQ⟩:=G4 hr
 refine Way.go (g':=G ((fb f kind).at {a with defers:=dd::a.defers} (.inRegion ops r::k)) cs) rfl hB (fun w hC=>?_) (hn r IQ _ ⟨ka.size,by simp [ka.defers],ka.knows⟩)
 obtain⟨x,es,h1,rfl,h3⟩:=LG _ (hs a.eval (fun x v hx=>ka.eval hx)) w hC #[]
 have Dh:(kind==CallKind.early)=false:=by simpa using hk
 have YQ:({(fb f kind).at a (.inRegion ops (i::r)::k)with defers:=dd::a.defers}:Frame).finish undef=(fb f kind).at {a with defers:=dd::a.defers} (.inRegion ops r::k):=by
  have:=Frame.finish_at (fb f kind) {a with defers:=dd::a.defers} ops i r k undef
  rw [ho]at this;exact this
 refine⟨seen P f es,?_,fun e he=>h3 e (mem_seen he)⟩
 rw [stepG_oper ho (CN ka (o:=⟨none,op,ty,pos,af,g⟩) hw)]
 have GN:((fb f kind).at a (.inRegion ops (i::r)::k)).kind=kind:=rfl
 have No:((fb f kind).at a (.inRegion ops (i::r)::k)).fn=f:=rfl
 rw [<-YQ]
 simp only [stepG.apply,h1,if_true,GN,Dh,No,Bool.false_eq_true,if_false,Array.empty_append]
 simp [GStep.after,G,Frame.at]
theorem Y9{x:Operand}{v:Value}(hB:∀a,(C a).isSome=true->a.block<B)(hk:kind≠ .early)(hw:Al ops env g=some true)(hd:Nat.blt d n=true)(hx:ev env x=some v)
  (hn:RY P main c C B Hm f n kind cs ops l k ((d,v)::env) ds):RY P main c C B Hm f n kind cs ops (⟨some d,.move x,ty,pos,af,g⟩::l) k env ds:=
 OP hB hk hw hd (fun _ρ Aa=>congrArg Next.value (Aa x v hx)) hn
theorem UH{x:Operand}{a:Addr}(hB:∀a,(C a).isSome=true->a.block<B)(hk:kind≠ .early)(hw:Al ops env g=some true)(hd:Nat.blt d n=true)(hx:ev env x=some (.pointer (some a)))
  (hn:RY P main c C B Hm f n kind cs ops l k ((d,.pointer (some a))::env) ds):RY P main c C B Hm f n kind cs ops (⟨some d,.nilCheck x,ty,pos,af,g⟩::l) k env ds:=
 OP hB hk hw hd (fun ρ Aa=>by
  unfold execOp
  simp only [Aa x _ hx]
  exact rfl) hn
theorem UG{s Jw off:Nat}[fo:AO P s Jw off]{x:Operand}{b o:Nat}(hB:∀a,(C a).isSome=true->a.block<B)(hk:kind≠ .early)(hw:Al ops env g=some true)(hd:Nat.blt d n=true)(hx:ev env x=some (.pointer (some ⟨b,o,none⟩)))
  (hn:RY P main c C B Hm f n kind cs ops l k ((d,.pointer (some ⟨b,o+off,none⟩))::env) ds):RY P main c C B Hm f n kind cs ops (⟨some d,.fieldAddr s x Jw,ty,pos,af,g⟩::l) k env ds:=
 OP hB hk hw hd (fun ρ Aa=>by
  show FM P C (Instr.fieldAt s (ρ x) Jw >>= fun v=>pure (Next.value v)) _
  rw [Aa x _ hx]
  exact Fj _ _ (Rd rfl)) hn
theorem Q9{t:TypeId}[DU P t]{x:Operand}{a:Addr}{v:Value}(hB:∀a,(C a).isSome=true->a.block<B)(hk:kind≠ .early)(hw:Al ops env g=some true)(hd:Nat.blt d n=true)(hx:ev env x=some (.pointer (some a)))(hc:C a=some v)
  (hn:RY P main c C B Hm f n kind cs ops l k ((d,v)::env) ds):RY P main c C B Hm f n kind cs ops (⟨some d,.load t x,ty,pos,af,g⟩::l) k env ds:=
 OP hB hk hw hd (fun ρ Aa=>by
  show FM P C ((Instr.sureAddr (ρ x) >>= fun a=>loadVar t a) >>= fun v=>pure (Next.value v)) _
  rw [Aa x _ hx]
  exact Fj _ _ (Pf hc rfl)) hn
theorem lr{fn:Fn}{first cap:Array Operand}{fv cv:Array Value}(hB:∀a,(C a).isSome=true->a.block<B)(hk:kind≠ .early)(hw:Al ops env g=some true)(hd:Nat.blt d n=true)
  (hf:∀ρ:Operand->Value,(∀x v,ev env x=some v->ρ x=v)->first.map ρ=fv/\cap.map ρ=cv)
  (hn:RY P main c C B Hm f n kind cs ops l k ((d,.func fn fv cv)::env) ds):RY P main c C B Hm f n kind cs ops (⟨some d,.makeFunc fn first cap,ty,pos,af,g⟩::l) k env ds:=
 OP hB hk hw hd (fun ρ Aa=>by
  show Next.value (.func fn (first.map ρ) (cap.map ρ))=_
  rw [(hf ρ Aa).1,(hf ρ Aa).2]) hn
theorem Y8{t elem C9 sz:Nat}{z:Value}{x:Operand}{dir:ChanDir}(hu:P.underlying t=some (.chan dir elem))[i:Cw P elem sz C9 z](hB:∀a,(C a).isSome=true->a.block<B)(hk:kind≠ .early)(hw:Al ops env g=some true)(hd:Nat.blt d n=true)(hx:ev env x=some (.chan (some c)))
  (hh:∀rest:List Nat,rest.map (fun i=>ops[i]?)=l.map some->∀a,Kn n ((d,tok)::env) ds a->Hm (G ((fb f kind).at a (.inRegion ops rest::k)) cs)):RY P main c C B Hm f n kind cs ops (⟨some d,.recv t x false,ty,pos,af,g⟩::l) k env ds:=by
 intro rest hr a ka
 obtain⟨j,r,rfl,ho,IQ⟩:=G4 hr
 have Ho:((fb f kind).at a (.inRegion ops (j::r)::k)).finish tok=(fb f kind).at (a.put (some d) tok) (.inRegion ops r::k):=by rw [Frame.finish_at,ho];rfl
 refine Way.recv (z:=z) (ok:=false) rfl hB (fun w hC=>?_) ?_
 ·obtain⟨inf,h1,h2,h3,h4⟩:=i.get
  have hs:FM P (fun _=>none) (execOp a.eval ⟨some d,.recv t x false,ty,pos,af,g⟩) (fun nx=>nx= .comm #[rcase c z] true (.recv false)):=by
   show FM P _ (underlying t >>= _) _
   refine G0 hu ?_
   refine O5 h1 h4 ?_
   rw [ka.eval hx]
   exact rfl
  obtain⟨y,es,h5,rfl,h6⟩:=LG _ hs w (fun _ _ e=>by cases e) #[]
  have Qm:es=#[]:=by
   apply Array.eq_empty_iff_forall_not_mem.2
   intro e he
   obtain⟨_,_,e'⟩:=h6 e he
   cases e'
  subst Qm
  have Dh:(kind==CallKind.early)=false:=by simpa using hk
  rw [stepG_oper ho (CN ka (o:=⟨some d,.recv t x false,ty,pos,af,g⟩) hw)]
  have GN:((fb f kind).at a (.inRegion ops (j::r)::k)).kind=kind:=rfl
  have No:((fb f kind).at a (.inRegion ops (j::r)::k)).fn=f:=rfl
  simp only [stepG.apply,h5,if_true,GN,Dh,No,Bool.false_eq_true,if_false,Array.empty_append]
  simp [GStep.after,G,seen_def]
 ·show Hm (G (((fb f kind).at a (.inRegion ops (j::r)::k)).finish tok) cs)
  rw [Ho]
  exact hh r IQ _ (ka.put tok hd)
end
end
end
section
open Go Go.Conc
variable{Γ:Type}
def GU(P:Program):Frame:={(default:Frame)with fn:=P.funcs.size,mode:=.panicking [goexitEntry]}
theorem UT{P:Program}{main:Bool}{b:FuncId}{cap:Array Value}[hb:AT P b](w:World):stepG P main (born P {target:=.fn (.func b) cap,args:=#[]}) w= .go (G (Frame.enter P b cap .deferred) [GU P]) w:=by
 obtain⟨fn,c,h1,h2,h3⟩:=hb.out
 have hinv:(invoke (.fn (.func b) cap) #[]).runT P w #[]=(.ok (.enter b cap) w,#[]):=by
  have e:(invoke (.fn (.func b) cap) #[]).runT P w #[]=(callFunc b (#[]++cap)).runT P w #[]:=rfl
  rw [e,Hy h1 h2 h3];simp
 unfold born
 simp only [stepG,unwind,callDeferred]
 rw [hinv]
 simp [GStep.after,seen_def,GU,G]
 rfl
theorem Way.born{P:Program}{c:Nat}{C:Addr->Option Value}{B:Nat}{Hm:Goroutine->Prop}{b:FuncId}{cap:Array Value}[AT P b](hB:∀a,(C a).isSome=true->a.block<B)(hw:Way P false c C B Hm (G (Frame.enter P b cap .deferred) [GU P])):
  Way P false c C B Hm (Go.Conc.born P {target:=.fn (.func b) cap,args:=#[]}):=Way.ctl rfl hB (fun w=>UT w) hw
theorem Way.enter{P:Program}{main:Bool}{c:Nat}{C:Addr->Option Value}{B:Nat}{Hm:Goroutine->Prop}{f:FuncId}{n:Nat}{fn:Func}{code:Code}{args:Array Value}{kind:CallKind}{cs:List Frame}[hf:BC P f fn](hb:fn.body=some code)(hn:args.size+(fn.ntmps-args.size)=n)
  (hk:EY P main c C B Hm f n kind cs [.code code] (Ty 0 args.toList) []):Way P main c C B Hm (G (Frame.enter P f args kind) cs):=by
 have e:Frame.enter P f args kind=(fb f kind).at {tmps:=args++Array.replicate (fn.ntmps-args.size) undef,defers:=[]} [.code code]:=by
  simp [Frame.enter,Frame.at,hf.out,hb,fb]
 rw [e]
 refine hk _ ⟨by simp [hn],rfl,fun i v hl=>?_⟩
 obtain⟨_,h2⟩:=KE _ _ _ _ hl
 have h3:args[i]?=some v:=by simpa using h2
 have hi:i<args.size:=by
  rcases EM i args.size with x|x
  ·exact x
  ·simp [Array.getElem?_eq_none x]at h3
 rw [Array.getElem?_append_left hi,h3]
section
variable(P:Program)(main:Bool)(S:Cp Γ)(Stop:Goroutine->Hp->Ix Γ->Prop)(f:FuncId)(n:Nat)(kind:CallKind)(cs:List Frame)
def TK(todo:List Item)(env:Env)(ds:List Deferred)(h:Hp)(δ:Ix Γ):Prop:=∀a,Kn n env ds a->Dq P main S Stop (G ((fb f kind).at a todo) cs) h δ
def TR(ops:Array Oper)(l:List Oper)(k:List Item)(env:Env)(ds:List Deferred)(h:Hp)(δ:Ix Γ):Prop:=
 ∀rest:List Nat,rest.map (fun i=>ops[i]?)=l.map some->TK P main S Stop f n kind cs (.inRegion ops rest::k) env ds h δ
def TU(mode:FrameMode)(env:Env)(ds:List Deferred)(h:Hp)(δ:Ix Γ):Prop:=∀a todo,Kn n env ds a->Dq P main S Stop (G {(fb f kind).at a todo with mode:=mode} cs) h δ
end
section
variable{P:Program}{main:Bool}{S:Cp Γ}{Stop:Goroutine->Hp->Ix Γ->Prop}{f:FuncId}{n:Nat}{kind:CallKind}{cs:List Frame}{k:List Item}{env:Env}{ds:List Deferred}{h:Hp}{δ:Ix Γ}
theorem Y7{fn:Func}{code:Code}{args:Array Value}[hf:BC P f fn](hb:fn.body=some code)(hn:args.size+(fn.ntmps-args.size)=n)
  (hk:TK P main S Stop f n kind cs [.code code] (Ty 0 args.toList) [] h δ):Dq P main S Stop (G (Frame.enter P f args kind) cs) h δ:=by
 have e:Frame.enter P f args kind=(fb f kind).at {tmps:=args++Array.replicate (fn.ntmps-args.size) undef,defers:=[]} [.code code]:=by
  simp [Frame.enter,Frame.at,hf.out,hb,fb]
 rw [e]
 refine hk _ ⟨by simp [hn],rfl,fun i v hl=>?_⟩
 obtain⟨_,h2⟩:=KE _ _ _ _ hl
 have h3:args[i]?=some v:=by simpa using h2
 have hi:i<args.size:=by
  rcases EM i args.size with x|x
  ·exact x
  ·simp [Array.getElem?_eq_none x]at h3
 rw [Array.getElem?_append_left hi,h3]
theorem Y6(hw:TK P main S Stop f n kind cs k env ds h δ):TK P main S Stop f n kind cs (.code .skip::k) env ds h δ:=fun a ka=>.ctl rfl (fun _=>stepG_skip) (hw a ka)
theorem K6{x y:Code}(hw:TK P main S Stop f n kind cs (.code x:: .code y::k) env ds h δ):TK P main S Stop f n kind cs (.code (.seq x y)::k) env ds h δ:=fun a ka=>.ctl rfl (fun _=>stepG_seq) (hw a ka)
theorem UF{c:Operand}{x y:Code}{t:Bool}(hc:ev env c=some (.bool t))(hw:TK P main S Stop f n kind cs (.code (if t then x else y)::k) env ds h δ):TK P main S Stop f n kind cs (.code (.cond c x y)::k) env ds h δ:=
 fun a ka=>.ctl rfl (fun _=>stepG_cond (ka.eval hc)) (hw a ka)
theorem lp(hw:TU P main S Stop f n kind cs .returning env ds h δ):TK P main S Stop f n kind cs [] env ds h δ:=fun a ka=>.ctl rfl (fun _=>stepG_end) (hw a [] ka)
theorem Hu{id:Nat}{ops:Array Oper}(hw:TR P main S Stop f n kind cs ops ops.toList k env ds h δ):TK P main S Stop f n kind cs (.code (.region id ops false)::k) env ds h δ:=by
 intro a ka
 refine .ctl rfl (fun _=>stepG_region) (hw _ ?_ a ka)
 apply List.ext_getElem?
 intro i
 simp only [List.getElem?_map,Array.getElem?_toList]
 by_cases hi:i<ops.size
 ·simp [hi]
 ·have h1:(List.range ops.size)[i]?=none:=by simp;omega
  have h2:ops[i]?=none:=by simp;omega
  rw [h1,h2];rfl
theorem IY{ops:Array Oper}(hw:TK P main S Stop f n kind cs k env ds h δ):TR P main S Stop f n kind cs ops [] k env ds h δ:=by
 intro rest hr a ka
 have:rest=[]:=by simpa using hr
 subst this
 exact .ctl rfl (fun _=>stepG_region_end) (hw a ka)
section
variable{ops:Array Oper}{l:List Oper}{d:Nat}{ty:TypeId}{pos:String}{af:Array Edge}{g:Option (Nat×Bool)}{op:Op}
theorem OO(hw:Al ops env g=some false)(hd:Nat.blt d n=true)(hn:TR P main S Stop f n kind cs ops l k ((d,undef)::env) ds h δ):TR P main S Stop f n kind cs ops (⟨some d,op,ty,pos,af,g⟩::l) k env ds h δ:=by
 intro rest hr a ka
 obtain⟨i,r,rfl,ho,IQ⟩:=G4 hr
 refine .ctl rfl (fun w=>?_) (hn r IQ _ (ka.put undef hd))
 exact stepG_unwanted ho (CN ka (o:=⟨some d,op,ty,pos,af,g⟩) hw)
theorem Y5{dst:Option Nat}{v:Value}{h':Hp}{qh:Env}(hk:kind≠ .early)(hw:Al ops env g=some true)
  (hs:∀ρ:Operand->Value,(∀x v,ev env x=some v->ρ x=v)->Aj P S (execOp ρ ⟨dst,op,ty,pos,af,g⟩) h δ (fun nx V1 V5=>(nx= .value v\/(nx= .skip/\v=undef))/\V1=h'/\V5=δ) (fun _ _ _=>False))
  (he:∀a,Kn n env ds a->Kn n qh ds (a.put dst v))
  (hn:TR P main S Stop f n kind cs ops l k qh ds h' δ):TR P main S Stop f n kind cs ops (⟨dst,op,ty,pos,af,g⟩::l) k env ds h δ:=by
 intro rest hr a ka
 obtain⟨i,r,rfl,ho,IQ⟩:=G4 hr
 refine .Hi ⟨rfl,fun w oK=>?_⟩
 obtain⟨es,Dg,Be,Ru,Nx⟩:=LD _ h δ _ _ (hs a.eval (fun x v hx=>ka.eval hx)) w oK #[]
 have Dh:(kind==CallKind.early)=false:=by simpa using hk
 have Ho:∀v,((fb f kind).at a (.inRegion ops (i::r)::k)).finish v=(fb f kind).at (a.put dst v) (.inRegion ops r::k):=fun v=>by rw [Frame.finish_at,ho];rfl
 have KZ:(execOp a.eval ⟨dst,op,ty,pos,af,g⟩).runT P w #[]=(Dg,es):=by simpa using Be
 have Xf:stepG P main (G ((fb f kind).at a (.inRegion ops (i::r)::k)) cs) w=stepG.apply P true ((fb f kind).at a (.inRegion ops (i::r)::k)) cs none (execOp a.eval ⟨dst,op,ty,pos,af,g⟩) w:=stepG_oper ho (CN ka (o:=⟨dst,op,ty,pos,af,g⟩) hw)
 have GN:((fb f kind).at a (.inRegion ops (i::r)::k)).kind=kind:=rfl
 have No:((fb f kind).at a (.inRegion ops (i::r)::k)).fn=f:=rfl
 obtain⟨Qv,P4⟩:=MZ (Γ:=Γ) (P:=P) (f:=f) Ru
 cases Dg with
 | ok nx w'=>
  obtain⟨KY,aa,hq,rfl,DL⟩:=Nx
  rw [<-P4]at DL
  refine⟨G ((fb f kind).at (a.put dst v) (.inRegion ops r::k)) cs,w',seen P f es,?_,KY,aa,Qv,by rw [DL];exact hn r IQ _ (he a ka)⟩
  rw [Xf,<-Ho]
  rcases hq with rfl|⟨rfl,rfl⟩
  ·simp only [stepG.apply,KZ,if_true,GN,Dh,No,Bool.false_eq_true,if_false]
   simp [GStep.after,G]
  ·simp only [stepG.apply,KZ,if_true,GN,Dh,No,Bool.false_eq_true,if_false]
   simp [GStep.after,G]
 | halt x w'=>
  cases x <;> first|exact Nx.elim|exact Nx.2.2.elim
theorem CM{v:Value}{h':Hp}(hk:kind≠ .early)(hw:Al ops env g=some true)(hd:Nat.blt d n=true)
  (hs:∀(ρ:Operand->Value) (Q:Next->Hp->Ix Γ->Prop) (X:Value->Hp->Ix Γ->Prop),(∀x v,ev env x=some v->ρ x=v)->Q (.value v) h' δ->Aj P S (execOp ρ ⟨some d,op,ty,pos,af,g⟩) h δ Q X)
  (hn:TR P main S Stop f n kind cs ops l k ((d,v)::env) ds h' δ):TR P main S Stop f n kind cs ops (⟨some d,op,ty,pos,af,g⟩::l) k env ds h δ:=
 Y5 hk hw (fun ρ Aa=>hs ρ _ _ Aa ⟨.inl rfl,rfl,rfl⟩) (fun _a ka=>ka.put v hd) hn
theorem Y4{h':Hp}(hk:kind≠ .early)(hw:Al ops env g=some true)
  (hs:∀(ρ:Operand->Value) (Q:Next->Hp->Ix Γ->Prop) (X:Value->Hp->Ix Γ->Prop),(∀x v,ev env x=some v->ρ x=v)->Q .skip h' δ->Aj P S (execOp ρ ⟨none,op,ty,pos,af,g⟩) h δ Q X)
  (hn:TR P main S Stop f n kind cs ops l k env ds h' δ):TR P main S Stop f n kind cs ops (⟨none,op,ty,pos,af,g⟩::l) k env ds h δ:=
 Y5 (v:=undef) hk hw (fun ρ Aa=>hs ρ _ _ Aa ⟨.inr ⟨rfl,rfl⟩,rfl,rfl⟩) (fun _a ka=>ka) hn
theorem ln{c:FuncId}{args:Array Value}{Q:Value->Hp->Ix Γ->Prop}{Z:List PanicEntry->Hp->Ix Γ->Prop}{fn:Func}[_hf:BC P f fn](hk:kind≠ .early)(hw:Al ops env g=some true)(hd:Nat.blt d n=true)
  (hs:∀(ρ:Operand->Value) (Q:Next->Hp->Ix Γ->Prop) (X:Value->Hp->Ix Γ->Prop),(∀x v,ev env x=some v->ρ x=v)->Q (.enter c args) h δ->Aj P S (execOp ρ ⟨some d,op,ty,pos,af,g⟩) h δ Q X)
  (hc:AY P main S c args h δ (Ge Q Z)) (jV:∀v h' AW,Q v h' AW->TR P main S Stop f n kind cs ops l k ((d,v)::env) ds h' AW) (jX:∀p h' AW,Z p h' AW->TU P main S Stop f n kind cs (.panicking p) env ds h' AW):
  TR P main S Stop f n kind cs ops (⟨some d,op,ty,pos,af,g⟩::l) k env ds h δ:=by
 intro rest hr a ka
 obtain⟨i,r,rfl,ho,IQ⟩:=G4 hr
 have Dh:(kind==CallKind.early)=false:=by simpa using hk
 have Ho:∀v,((fb f kind).at a (.inRegion ops (i::r)::k)).finish v=(fb f kind).at (a.put (some d) v) (.inRegion ops r::k):=fun v=>by rw [Frame.finish_at,ho];rfl
 refine .Hi ⟨rfl,fun w oK=>?_⟩
 obtain⟨es,Dg,Be,Ru,Nx⟩:=LD _ h δ (fun nx V1 V5=>nx= .enter c args/\V1=h/\V5=δ) (fun _ _ _=>False) (hs a.eval _ _ (fun x v hx=>ka.eval hx) ⟨rfl,rfl,rfl⟩) w oK #[]
 have KZ:(execOp a.eval ⟨some d,op,ty,pos,af,g⟩).runT P w #[]=(Dg,es):=by simpa using Be
 have Xf:stepG P main (G ((fb f kind).at a (.inRegion ops (i::r)::k)) cs) w=stepG.apply P true ((fb f kind).at a (.inRegion ops (i::r)::k)) cs none (execOp a.eval ⟨some d,op,ty,pos,af,g⟩) w:=stepG_oper ho (CN ka (o:=⟨some d,op,ty,pos,af,g⟩) hw)
 have GN:((fb f kind).at a (.inRegion ops (i::r)::k)).kind=kind:=rfl
 have No:((fb f kind).at a (.inRegion ops (i::r)::k)).fn=f:=rfl
 have YH:((fb f kind).at a (.inRegion ops (i::r)::k)).todo= .inRegion ops (i::r)::k:=rfl
 obtain⟨Qv,P4⟩:=MZ (Γ:=Γ) (P:=P) (f:=f) Ru
 cases Dg with
 | ok nx w'=>
  obtain⟨KY,aa,rfl,hh,DL⟩:=Nx
  rw [<-P4]at DL
  refine⟨G (Frame.enter P c args .normal) ((fb f kind).at a (.inRegion ops (i::r)::k)::cs),w',seen P f es,?_,KY,aa,Qv,?_⟩
  ·rw [Xf]
   simp only [stepG.apply,KZ,if_true,GN,Dh,No,YH,Bool.false_eq_true,if_false]
   simp [GStep.after,G]
  ·rw [DL,hh]
   refine(hc .normal (by simp) _).bind ?_
   rintro x h' AW ⟨a',todo,mode,xY,rfl,XA,Xd,⟨rfl,v,hv,hR⟩|⟨ch,rfl,hR⟩⟩
   ·refine .Hi ⟨rfl,fun w hw=>?_⟩
    obtain⟨es,Be,Qm⟩:=hv w hw
    refine⟨G ((fb f kind).at (a.put (some d) v) (.inRegion ops r::k)) cs,w,seen P c es,?_,FN.refl _,by rw [hw];exact Ei.refl _ _,(Ga (Γ:=Γ) Qm).1,?_⟩
    ·rw [<-Ho]
     simp only [G,stepG,unwind,Frame.at,XA,Xd,fb,Be]
     simp [doReturn,GStep.after]
    ·rw [(Ga (Γ:=Γ) (S:=S.still AW.g) Qm).2,hw]
     exact jV v h' AW hR r IQ _ (ka.put v hd)
   ·refine .ctl (g':=G {(fb f kind).at a (.inRegion ops (i::r)::k)with mode:=.panicking ch} cs) rfl (fun w=>?_) (jX ch h' AW hR a _ ka)
    simp [G,stepG,unwind,Frame.at,XA,Xd,fb,Frame.catches,Frame.raise]
 | halt x w'=>
  cases x <;> first|exact Nx.elim|exact Nx.2.2.elim
theorem Y3{mode:FrameMode}{b:FuncId}{cap:Array Value}[hb:AT P b](hm:mode≠ .run)(hn:∀a todo,Kn n env ds a->Dq P main S Stop (G (Frame.enter P b cap .deferred) ({(fb f kind).at a todo with mode:=mode}::cs)) h δ):
  TU P main S Stop f n kind cs mode env ({target:=.fn (.func b) cap,args:=#[]}::ds) h δ:=by
 intro a todo ka
 obtain⟨fn,c,h1,h2,h3⟩:=hb.out
 have hinv:∀w,(invoke (.fn (.func b) cap) #[]).runT P w #[]=(.ok (.enter b cap) w,#[]):=fun w=>by
  have e:(invoke (.fn (.func b) cap) #[]).runT P w #[]=(callFunc b (#[]++cap)).runT P w #[]:=rfl
  rw [e,Hy h1 h2 h3];simp
 have hd:=ka.defers
 refine .ctl (g':=G (Frame.enter P b cap .deferred) ({(fb f kind).at {a with defers:=ds} todo with mode:=mode}::cs)) rfl (fun w=>?_) (hn {a with defers:=ds} todo ⟨ka.size,rfl,ka.knows⟩)
 cases mode with
 | run=>exact absurd rfl hm
 | _=>
  simp only [G,stepG,unwind,Frame.at,hd,callDeferred,fb]
  rw [hinv]
  simp [GStep.after,seen_def]
theorem lm{caller:Frame}{pQ:List Frame}(Ea:cs=caller::pQ)(hm:caller.mode= .returning)(hk:kind= .deferred)(hw:Al ops env g=some true)(hd:Nat.blt d n=true)
  (hn:TR P main S Stop f n kind cs ops l k ((d,.nilIface)::env) ds h δ):TR P main S Stop f n kind cs ops (⟨some d,.call {callee:=.builtin .recover,args:=#[],argTypes:=#[]},ty,pos,af,g⟩::l) k env ds h δ:=by
 subst hk Ea
 intro rest hr a ka
 obtain⟨i,r,rfl,ho,IQ⟩:=G4 hr
 refine .ctl rfl (fun w=>?_) (hn r IQ _ (ka.put .nilIface hd))
 have Ho:((fb f .deferred).at a (.inRegion ops (i::r)::k)).finish .nilIface=(fb f .deferred).at (a.put (some d) .nilIface) (.inRegion ops r::k):=by rw [Frame.finish_at,ho];rfl
 rw [stepG_oper ho (CN ka (o:=⟨some d,.call {callee:=.builtin .recover,args:=#[],argTypes:=#[]},ty,pos,af,g⟩) hw),<-Ho]
 have Be:(execOp a.eval ⟨some d,.call {callee:=.builtin .recover,args:=#[],argTypes:=#[]},ty,pos,af,g⟩).runT P w #[]=(.ok .recover w,#[]):=rfl
 simp only [stepG.apply,Be]
 simp [GStep.after,seen_def,Frame.at,fb,tryRecover,hm,G]
theorem lj{caller:Frame}{pQ:List Frame}{v:Value}{fZ:List PanicEntry}(Ea:cs=caller::pQ)(hm:caller.mode= .panicking ({v,recovered:=false}::fZ))(hk:kind= .deferred)(hw:Al ops env g=some true)(hd:Nat.blt d n=true)
  (hn:TR P main S Stop f n kind ({caller with mode:=.panicking ({v,recovered:=true}::fZ)}::pQ) ops l k ((d,v)::env) ds h δ):TR P main S Stop f n kind cs ops (⟨some d,.call {callee:=.builtin .recover,args:=#[],argTypes:=#[]},ty,pos,af,g⟩::l) k env ds h δ:=by
 subst hk Ea
 intro rest hr a ka
 obtain⟨i,r,rfl,ho,IQ⟩:=G4 hr
 refine .ctl rfl (fun w=>?_) (hn r IQ _ (ka.put v hd))
 have Ho:((fb f .deferred).at a (.inRegion ops (i::r)::k)).finish v=(fb f .deferred).at (a.put (some d) v) (.inRegion ops r::k):=by rw [Frame.finish_at,ho];rfl
 rw [stepG_oper ho (CN ka (o:=⟨some d,.call {callee:=.builtin .recover,args:=#[],argTypes:=#[]},ty,pos,af,g⟩) hw),<-Ho]
 have Be:(execOp a.eval ⟨some d,.call {callee:=.builtin .recover,args:=#[],argTypes:=#[]},ty,pos,af,g⟩).runT P w #[]=(.ok .recover w,#[]):=rfl
 simp only [stepG.apply,Be]
 simp [GStep.after,seen_def,Frame.at,fb,tryRecover,hm,G]
end
end
section
variable{P:Program}{main:Bool}{S:Cp Γ}{f:FuncId}{n:Nat}{k:List Item}{env:Env}{ds:List Deferred}{h:Hp}{δ:Ix Γ}{R:Cv Γ}
variable{ops:Array Oper}{l:List Oper}{d:Nat}{ty:TypeId}{pos:String}{af:Array Edge}{g:Option (Nat×Bool)}
theorem Vl{kind:CallKind}{cs:List Frame}{a:Act}{i:Nat}{rest:List Nat}{x y:Operand}{c:Nat}(ho:ops[i]?=some ⟨none,.send x y,ty,pos,af,g⟩)(hw:Region.wanted ⟨none,.send x y,ty,pos,af,g⟩ (yielded ops a.tmps)=true)(hk:kind≠ .early)
  (hx:a.eval x= .chan (some c)) (hy:a.eval y=tok):AtSend P main c (G ((fb f kind).at a (.inRegion ops (i::rest)::k)) cs) (G ((fb f kind).at a (.inRegion ops (i::rest)::k)) cs) h:=by
 refine⟨rfl,.tuple #[],fun w _=>?_⟩
 have h5:(execOp a.eval ⟨none,.send x y,ty,pos,af,g⟩).runT P w #[]=(.ok (.comm #[scase c tok (.tuple #[])] true .send) w,#[]):=by
  show(Sem.pure (Next.comm #[{chan:=a.eval x,send:=some (a.eval y),zero:=.tuple #[]}] true .send)).runT P w #[]=_
  rw [hx,hy];rfl
 have Dh:(kind==CallKind.early)=false:=by simpa using hk
 rw [stepG_oper ho hw]
 have GN:((fb f kind).at a (.inRegion ops (i::rest)::k)).kind=kind:=rfl
 have No:((fb f kind).at a (.inRegion ops (i::rest)::k)).fn=f:=rfl
 simp only [stepG.apply,h5,if_true,GN,Dh,No,Bool.false_eq_true,if_false]
 simp [GStep.after,G,seen_def]
theorem Mk{kind:CallKind}{cs:List Frame}{a:Act}{i:Nat}{rest:List Nat}{o:Oper}(ho:ops[i]?=some o)(hd:o.dst=none):
  Go.Conc.served (G ((fb f kind).at a (.inRegion ops (i::rest)::k)) cs) undef=G ((fb f kind).at a (.inRegion ops rest::k)) cs:=by
 show G (((fb f kind).at a (.inRegion ops (i::rest)::k)).finish undef) cs=_
 rw [Frame.finish_at,ho]
 simp [hd,Act.put]
theorem Y2{X:EX Γ}{i j c c' B:Nat}{γ₁:Γ}{x y:Operand}(hm:main=(i==0))
  (hS:∀g h δ Y,Mj P X i j (fun γ₁ a=>Gy P X i γ₁ h a Y) g h δ->S.nf g h δ Y) (hw:Al ops env g=some true) (hx:ev env x=some (.chan (some c))) (hy:ev env y=some tok) (hd:δ.d=0)
  (M9:j≠i) (U8:j<X.num δ.g) (uV:X.ch δ.g j=some c) (hn:X.num γ₁=X.num δ.g) (ho:HR X i δ.g γ₁) (hp:X.Gf j γ₁ h) (h1:X.ch γ₁ i=some c') (h2:∀a v,X.cells γ₁ i a=some v->AF h a=some v)
  (h3:∃k,h[c']?=some (.chan 0 #[] false k k false)) (h4:∀x,x≠i->x<X.num γ₁->X.ch γ₁ x≠some c')
  (yf:∀kind,kind≠ .early->∀cs,RY P main c' (X.cells γ₁ i) B (fun g=>∀BK DT,X.R i γ₁ BK->X.Gf i BK DT->Dq P main S (Left P f kind cs R) g DT ⟨0,BK⟩) f n kind cs ops l k env ds):
  ER P main S f n ops (⟨none,.send x y,ty,pos,af,g⟩::l) k env ds h δ R:=by
 intro rest hr a ka
 obtain⟨m,r,rfl,G6,IQ⟩:=G4 hr
 intro kind hk cs
 subst hm
 refine .H7 (Dq P (i==0) S (Left P f kind cs R)) (fun _ _ _ x=>x) (hS _ _ _ _ ⟨hd,γ₁,c,_,M9,U8,uV,Vl G6 (CN ka (o:=⟨none,.send x y,ty,pos,af,g⟩) hw) hk (ka.eval hx) (ka.eval hy),hn,ho,hp,?_⟩)
 rw [Mk G6 rfl]
 exact ZB rfl h1 h2 h3 h4 (yf kind hk cs r IQ a ka)
theorem Y1{X:EX Γ}{i c B:Nat}{C:Addr->Option Value}{γ₁:Γ}{kind:CallKind}{cs:List Frame}{t elem C9 sz:Nat}{z:Value}{x:Operand}{dir:ChanDir}[hu:Es P t (.chan dir elem)][Cw P elem sz C9 z](hB:∀a,(C a).isSome=true->a.block<B)(hk:kind≠ .early)(hw:Al ops env g=some true)
  (hd:Nat.blt d n=true) (hx:ev env x=some (.chan (some c))) (hn:∀BK DT,X.R i γ₁ BK->X.Gf i BK DT->ER P main S f n ops l k ((d,tok)::env) ds DT ⟨0,BK⟩ R):
  RY P main c C B (fun g=>∀BK DT,X.R i γ₁ BK->X.Gf i BK DT->Dq P main S (Left P f kind cs R) g DT ⟨0,BK⟩) f n kind cs ops (⟨some d,.recv t x false,ty,pos,af,g⟩::l) k env ds:=
 Y8 hu.out hB hk hw hd hx fun rest hr a ka BK DT hR hP=>hn BK DT hR hP rest hr a ka kind hk cs
theorem lh{X:EX Γ}{γ₁:Γ}{x:Operand}{FL:Array TypeId}{b:FuncId}{cap:Array Value}(hw:Al ops env g=some true)(hx:ev env x=some (.func (.func b) #[] cap))(hd:δ.d=0)(hn:X.num γ₁=X.num δ.g+1)(ho:HR X 0 δ.g γ₁)
  (yo:Gy P X (X.num δ.g) γ₁ h (born P {target:=.fn (.func b) cap,args:=#[]}) (Dq P false (ED P X (X.num δ.g)) (MH P X (X.num δ.g))))
  (rZ:ER P true (Ez P X) f n ops l k env ds h ⟨0,γ₁⟩ R):ER P true (Ez P X) f n ops (⟨none,.go {callee:=.value x,args:=#[],argTypes:=FL},ty,pos,af,g⟩::l) k env ds h δ R:=by
 intro rest hr a ka
 obtain⟨m,r,rfl,G6,IQ⟩:=G4 hr
 intro kind hk cs
 have Be:∀w:World,(execOp a.eval ⟨none,.go {callee:=.value x,args:=#[],argTypes:=FL},ty,pos,af,g⟩).runT P w #[]=(.ok (.spawn {target:=.fn (.func b) cap,args:=#[]}) w,#[]):=fun w=>by
  show(Deferred.ofValue (a.eval x) (#[].map a.eval) >>= fun d=>pure (Next.spawn d):Sem Next).runT P w #[]=_
  rw [ka.eval hx]
  show(Sem.pure (Next.spawn {target:=.fn (.func b) cap,args:=#[]++(#[]:Array Operand).map a.eval})).runT P w #[]=_
  simp [Sem.runT]
 refine .H7 (Dq P true (Ez P X) (Left P f kind cs R)) (fun _ _ _ x=>x) (.inr ⟨hd,rfl,γ₁,G ((fb f kind).at a (.inRegion ops r::k)) cs,_,fun w _=>?_,hn,ho,yo,rZ r IQ a ka kind hk cs⟩)
 have hr0:(execOp a.eval ⟨none,.go {callee:=.value x,args:=#[],argTypes:=FL},ty,pos,af,g⟩).run P w= .ok (.spawn {target:=.fn (.func b) cap,args:=#[]}) w:=by rw [<-Sem.runT_fst,Be]
 have:=stepG_spawn (P:=P) (main:=true) (b:=fb f kind) (k:=k) (cs:=cs) (rest:=r) (f:=.func b) (c:=cap) G6 (CN ka (o:=⟨none,.go {callee:=.value x,args:=#[],argTypes:=FL},ty,pos,af,g⟩) hw) hk hr0 rfl
 rw [this]
 have hl:listed P (fb f kind).fn a ⟨none,.go {callee:=.value x,args:=#[],argTypes:=FL},ty,pos,af,g⟩ w=#[]:=by
  have he:=congrArg Prod.snd (Be w)
  rw [Sem.runT_eq]at he
  unfold listed
  rw [show(execOp a.eval ⟨none,.go {callee:=.value x,args:=#[],argTypes:=FL},ty,pos,af,g⟩).events P w #[]=#[]from he,seen_none]
 rw [hl]
 rfl
end
theorem QT{P:Program}{b1 b2:FuncId}{xX xW:Func}[h1:BC P b1 xX][h2:BC P b2 xW](r1:xX.results=#[])(r2:xW.results=#[]){a a1:Act}{todo:List Item}{ops:Array Oper}{mode:FrameMode}(hd:a.defers=[])(hd1:a1.defers=[])
  (hm:mode= .returning\/∃v,mode= .panicking [{v,recovered:=true}]):QuitsD P 5 0 (G ((fb b2 .deferred).at a [.inRegion ops []]) [{(fb b1 .deferred).at a1 todo with mode:=mode},GU P]):=by
 refine QuitsD.ctl (g':=G ((fb b2 .deferred).at a []) [{(fb b1 .deferred).at a1 todo with mode:=mode},GU P]) rfl (fun _=>stepG_region_end) ?_
 refine QuitsD.ctl (g':=G {(fb b2 .deferred).at a []with mode:=.returning} [{(fb b1 .deferred).at a1 todo with mode:=mode},GU P]) rfl (fun _=>stepG_end) ?_
 refine QuitsD.ctl (g':=G {(fb b1 .deferred).at a1 todo with mode:=.returning} [GU P]) rfl (fun w=>?_) ?_
 ·have Xu:=results_none r2 a.tmps P w
  have Ru:=events_results_none (P:=P) (w:=w) r2 a.tmps #[]
  have Be:(results xW a.tmps).runT P w #[]=(.ok (.tuple #[]) w,#[]):=by rw [Sem.runT_eq,Xu,Ru]
  simp only [G,stepG,unwind,Frame.at,hd,h2.out,fb,Be]
  rcases hm with rfl|⟨v,rfl⟩
  ·simp [doReturn,GStep.after,seen_def]
  ·simp [doReturn,GStep.after,seen_def]
 refine QuitsD.ctl (g':=G (GU P) []) rfl (fun w=>?_) ?_
 ·have Xu:=results_none r1 a1.tmps P w
  have Ru:=events_results_none (P:=P) (w:=w) r1 a1.tmps #[]
  have Be:(results xX a1.tmps).runT P w #[]=(.ok (.tuple #[]) w,#[]):=by rw [Sem.runT_eq,Xu,Ru]
  simp only [G,stepG,unwind,Frame.at,hd1,h1.out,fb,Be]
  simp [doReturn,GStep.after,seen_def,GU,goexitEntry]
 refine QuitsD.ctl (g':={G (GU P) []with status:=.finished}) rfl (fun w=>?_) ⟨rfl,rfl⟩
 have e1:(default:Frame).defers=[]:=rfl
 have e2:(default:Frame).kind= .normal:=rfl
 simp [G,stepG,unwind,GU,goexitEntry,Frame.catches,e1,e2]
 rfl
end
section
open Go Go.Conc
variable{Γ:Type}
def one(g:Goroutine)(w:World):Machine:={world:=w,gs:=#[g],rest:={timers:=#[],alone:=none,slice:=none} }
theorem Ei.none{S:Addr->Prop}{h h':Hp}(x:Ei S h h'):Ei (fun _=>False) h h':=⟨fun _ _ y=>y.elim,x.chan,x.size,x.PW⟩
abbrev I0:Ix Unit:=⟨0,()⟩
end
section
open Go Go.Conc
variable{Γ:Type}
theorem grown{S:Addr->Prop}{w w':World}(s:FN w w')(p:Ei S w.heap w'.heap)(u:AN (fun _=>False) w.heap w'.heap):Go.RowKit.Grown w w':=by
 refine⟨⟨s.os,s.output,fun i hi=>?_⟩,fun a=>p.PW a,u.size⟩
 have e:=u.same i hi (fun x=>x)
 rw [e]
 cases w.heap[i]? with
 | none=>rfl
 | some o=>
  cases o <;> first|exact⟨rfl,rfl,rfl,fun _ _=>rfl⟩|exact .inr ⟨rfl,rfl⟩|rfl
end
section
open Go Go.Conc
variable{Γ:Type}
section
variable{P:Program}{main:Bool}{S:Cp Γ}{f:FuncId}{n:Nat}{k:List Item}{env:Env}{ds:List Deferred}{h:Hp}{δ:Ix Γ}{R:Cv Γ}
variable{ops:Array Oper}{l:List Oper}{d:Nat}{ty:TypeId}{pos:String}{af:Array Edge}{g:Option (Nat×Bool)}
theorem S5{c s r:Nat}{b:Array Value}{cl tm:Bool}:MO (.chan c b cl s r tm):=by intro _ _ _ h;cases h
theorem UR{e:Array MapEntry}{c:Nat}:MO (.map e c):=by intro _ _ _ h;cases h
theorem Ih{t elem sz C9:Nat}{z:Value}{dir:ChanDir}[hu:Es P t (.chan dir elem)][i:Cw P elem sz C9 z]{x:Operand}{ρ:Operand->Value}{dst:Option Nat}{Q:Next->Hp->Ix Γ->Prop}{X:Value->Hp->Ix Γ->Prop}
  (hx:ρ x= .int .i64 0) (hq:Q (.value (.chan (some h.size))) (h.push (.chan 0 #[] false 0 0 false)) δ):Aj P S (execOp ρ ⟨dst,.makeChan t x,ty,pos,af,g⟩) h δ Q X:=by
 show Aj P S (Instr.makeChan t (ρ x) >>= fun v=>pure (.value v)) h δ Q X
 rw [hx]
 refine AM _ _ _ _ _ _ ?_
 obtain⟨inf,h1,_⟩:=i.get
 unfold Instr.makeChan
 refine A1 (a:=(0:Int)) ?_
 refine An hu.out ?_
 refine Em h1 ?_
 rw [if_neg (by simp [IntKind.max,IntKind.signed,IntKind.bits])]
 exact⟨S5,hq⟩
theorem zr{t elem sz C9:Nat}{z:Value}{dir:ChanDir}[Es P t (.chan dir elem)][Cw P elem sz C9 z]{x:Operand}(hw:Al ops env g=some true)(hd:Nat.blt d n=true)(hx:ev env x=some (.int .i64 0))
  (hn:ER P main S f n ops l k ((d,.chan (some h.size))::env) ds (h.push (.chan 0 #[] false 0 0 false)) δ R):ER P main S f n ops (⟨some d,.makeChan t x,ty,pos,af,g⟩::l) k env ds h δ R:=
 DW hw hd (fun _ρ _Q _X Aa hq=>Ih (Aa x _ hx) hq) hn
theorem lg{t:Nat}(hw:Al ops env g=some true)(hd:Nat.blt d n=true)
  (hn:ER P main S f n ops l k ((d,.map (some h.size))::env) ds (h.push (.map #[] 0)) δ R):ER P main S f n ops (⟨some d,.makeMap t none,ty,pos,af,g⟩::l) k env ds h δ R:=
 DW hw hd (fun ρ Q X Aa hq=>by
  show Aj P S (Instr.makeMap t none >>= fun v=>pure (.value v)) h δ Q X
  exact⟨UR,hq⟩) hn
variable{Z:Hp->Prop}{z:Nat}{m:Nat}{listed l':Array Bool}
def iw(P:Program)(main:Bool)(S:Cp Γ)(f:FuncId)(n:Nat)(ops:Array Oper)(Z:Hp->Prop)(z:Nat)(m:Nat)(listed:Array Bool)(k:List Item)(env:Env)(ds:List Deferred)(h:Hp)(δ:Ix Γ)(R:Cv Γ)(i:Nat):Prop:=
 ∀a,Kn n env ds a->NV P main S f R ops i (fun a' h' AW=>(i=z\/Z h')/\NN P main S f k R ops Z z m (listed.setIfInBounds i true) a' h' AW) a h δ
theorem Y0{is:List Nat}(hr:Region.ready .any ops listed=is)(B7:is≠[])(hh:∀i∈is,iw P main S f n ops Z z m listed k env ds h δ R i):EA P main S f n ops Z z (m+1) listed k env ds h δ R:=by
 intro a ka
 refine⟨fun x=>absurd (hr.symm.trans x) B7,fun i hi=>hh i (hr▸hi) a ka⟩
theorem ON(i j:Nat)(hr:Region.ready .any ops listed=[i,j])(h1:iw P main S f n ops Z z m listed k env ds h δ R i)(h2:iw P main S f n ops Z z m listed k env ds h δ R j):EA P main S f n ops Z z (m+1) listed k env ds h δ R:=
 Y0 hr (by simp) (by simp only [List.mem_cons,List.not_mem_nil,or_false];rintro x (rfl|rfl) <;> assumption)
theorem Ht{i:Nat}{op:Op}{v:Value}{h':Hp}(hi:ops[i]?=some ⟨some d,op,ty,pos,af,g⟩)(hl:listed.setIfInBounds i true=l')(hd:Nat.blt d n=true)(hw:Al ops env g=some true)
  (hs:∀(ρ:Operand->Value) (Q:Next->Hp->Ix Γ->Prop) (X:Value->Hp->Ix Γ->Prop),(∀x v,ev env x=some v->ρ x=v)->Q (.value v) h' δ->Aj P S (execOp ρ ⟨some d,op,ty,pos,af,g⟩) h δ Q X) (hZ:Z h')
  (hn:EA P main S f n ops Z z m l' k ((d,v)::env) ds h' δ R):iw P main S f n ops Z z m listed k env ds h δ R i:=by
 subst hl
 intro a ka
 unfold NV
 simp only [hi]
 rw [if_pos (CN ka (o:=⟨some d,op,ty,pos,af,g⟩) hw)]
 exact hs a.eval _ _ (fun x v hx=>ka.eval hx) ⟨.inr hZ,hn _ (ka.put v hd)⟩
end
section
variable{P:Program}{main:Bool}{S:Cp Γ}{h:Hp}{δ:Ix Γ}{ty:TypeId}{pos:String}{af:Array Edge}{g:Option (Nat×Bool)}
theorem Si{t t2:TypeId}{x y:Operand}{u w:Value}{dd:TypeDesc}{r:Bool}{ρ:Operand->Value}{dst:Option Nat}{Q:Next->Hp->Ix Γ->Prop}{X:Value->Hp->Ix Γ->Prop}[hu:Es P t dd](hx:ρ x=u)(hy:ρ y=w)(hr:Iq dd u w=some r)(hq:Q (.value (.bool (!r))) h δ):
  Aj P S (execOp ρ ⟨dst,.binOp .neq t x y t2,ty,pos,af,g⟩) h δ Q X:=by
 refine E2 ?_
 rw [hx,hy]
 have hg:eqGuard .neq t x y u w=pure ():=by
  unfold Iq at hr
  unfold eqGuard
  split at hr <;> first|rfl|(cases hr;done)
 rw [hg]
 have e:binOp .neq t u w=(Op.equal t u w >>= fun b=>pure (.bool (!b))):=by
  unfold Iq at hr
  split at hr <;> first|rfl|(cases hr;done)
 show Aj P S (binOp .neq t u w) h δ _ X
 rw [e]
 exact AM _ _ _ _ _ _ (LF hu.out hr hq)
theorem QK{t t2:TypeId}{x:Operand}{u:Value}{ms:Array (String×TypeId)}{b:Bool}{ρ:Operand->Value}{dst:Option Nat}{Q:Next->Hp->Ix Γ->Prop}{X:Value->Hp->Ix Γ->Prop}[hu:Es P t (.interface ms)](hx:ρ x=u)(hy:ρ (.const .nilIface)= .nilIface)(hb:(u= .nilIface/\b=false)\/(∃ti v,u= .iface ti v/\b=true))(hq:Q (.value (.bool b)) h δ):
  Aj P S (execOp ρ ⟨dst,.binOp .neq t x (.const .nilIface) t2,ty,pos,af,g⟩) h δ Q X:=by
 refine E2 ?_
 rw [hx,hy]
 have hg:eqGuard .neq t x (.const .nilIface) u .nilIface=pure ():=by
  rcases hb with⟨rfl,_⟩|⟨_,_,rfl,_⟩
  ·unfold eqGuard
   cases x <;> rfl
  ·unfold eqGuard;rfl
 rw [hg]
 have e:binOp .neq t u .nilIface=(Op.equal t u .nilIface >>= fun b=>pure (.bool (!b))):=by
  rcases hb with⟨rfl,_⟩|⟨_,_,rfl,_⟩ <;> rfl
 show Aj P S (binOp .neq t u .nilIface) h δ _ X
 rw [e]
 refine AM _ _ _ _ _ _ ?_
 unfold Op.equal Op.maxDepth Op.equalIn
 refine An hu.out ?_
 rcases hb with⟨rfl,rfl⟩|⟨_,_,rfl,rfl⟩ <;> exact hq
end
theorem Dq.mX{P:Program}{main:Bool}{S:Cp Γ}{Stop:Goroutine->Hp->Ix Γ->Prop}{g:Goroutine}{h:Hp}{δ:Ix Γ}(hr:Dq P main Fb Stop g h δ):(∀a,¬S.still δ.g a)->Dq P main S Stop g h δ:=by
 induction hr with
 | stop hs=>intro _;exact .stop hs
 | @step g h δ Y _ Dn ih=>
  intro G7
  refine .step (fun g' h' AW=>Y g' h' AW/\AW.g=δ.g) (fun g' h' AW hy=>ih g' h' AW hy.1 (by rw [hy.2];exact G7)) ⟨Dn.1,fun w hw=>?_⟩
  obtain⟨g',w',es,a,b,c,e,y⟩:=Dn.2 w hw
  exact⟨g',w',es,a,b,c.Tz fun l hl=>absurd hl (G7 l),fun x hx=>(e x hx).Tz fun l hl=>absurd hl (G7 l),y,rfl⟩
 | H7 _ _ hy _=>exact hy.elim
theorem AY.mX{P:Program}{main:Bool}{S:Cp Γ}{f:FuncId}{args:Array Value}{h:Hp}{δ:Ix Γ}{R:Cv Γ}(hc:AY P main Fb f args h δ R)(G7:∀a,¬S.still δ.g a):AY P main S f args h δ R:=
 fun kind hk cs=>(hc kind hk cs).mX G7
structure Made(h0 h:Hp)(F:Nat->Option (Nat×Obj)):Prop where
 upd:AN (fun _=>False) h0 h
 has:∀i b o,F i=some (b,o)->h0.size<=b/\h[b]?=some o
 inj:∀i j b o o',F i=some (b,o)->F j=some (b,o')->i=j
theorem Made.none(h0:Hp):Made h0 h0 (fun _=>.none):=⟨AN.refl _ _,fun _ _ _ e=>(by cases e),fun _ _ _ _ _ e=>(by cases e)⟩
theorem Made.push{h0 h:Hp}{F:Nat->Option (Nat×Obj)}(m:Made h0 h F)(i:Nat)(o:Obj):Made h0 (h.push o) (ut F i (some (h.size,o))):=by
 have old:∀j b o',j≠i->ut F i (some (h.size,o)) j=some (b,o')->F j=some (b,o'):=fun j b o' hj e=>by rwa [Ai _ _ hj]at e
 have lt:∀j b o',F j=some (b,o')->b<h.size:=fun j b o' e=>Ap (m.has j b o' e).2
 refine⟨m.upd.trans (AN.push h o),fun j b o' e=>?_,fun j q b o1 o2 e1 e2=>?_⟩
 ·by_cases hj:j=i
  ·subst hj
   rw [AL]at e
   cases e
   exact⟨m.upd.size,AG h o⟩
  ·have e':=old j b o' hj e
   exact⟨(m.has j b o' e').1,Ao _ (m.has j b o' e').2⟩
 ·by_cases hj:j=i <;> by_cases hq:q=i
  ·rw [hj,hq]
  ·subst hj
   rw [AL]at e1
   cases e1
   have:=lt q _ _ (old q _ _ hq e2)
   omega
  ·subst hq
   rw [AL]at e2
   cases e2
   have:=lt j _ _ (old j _ _ hj e1)
   omega
  ·exact m.inj j q b o1 o2 (old j b o1 hj e1) (old q b o2 hq e2)
theorem lf{P:Program}{main:Bool}{S:Cp Γ}{f:FuncId}{n:Nat}{ops:Array Oper}{Z:Hp->Prop}{z m:Nat}{listed:Array Bool}{k:List Item}{env e:Env}{ds:List Deferred}{h:Hp}{δ:Ix Γ}{R:Cv Γ}(hs:Nu e env)
  (hk:EA P main S f n ops Z z m listed k e ds h δ R):EA P main S f n ops Z z m listed k env ds h δ R:=fun a ka=>hk a (ka.sub hs)
end
section
open Go Go.Conc
variable{Γ:Type}
abbrev Is:Obj:=.chan 0 #[] false 0 0 false
def W1(a b c d e:Bool):Array Bool:=#[true,true,true,true,true,true,a,b,c,d,e,false]
def Da(a b c d e:Bool):List Nat:=(if a then []else [6])++(if b then []else [7])++(if a&&b&&!c then [8]else [])++(if c&&!d then [9]else [])++(if e then []else [10])++(if a&&b&&c&&d&&e then [11]else [])
theorem kU:∀a b c d e:Bool,(c=true->a=true/\b=true)->(d=true->c=true)->¬(a=true/\b=true/\c=true/\d=true/\e=true)->Da a b c d e≠[]:=by decide
theorem dU:∀a b c d e:Bool,¬(a=true/\b=true/\c=true/\d=true/\e=true)->((Da a b c d e).all fun i=>(i==6&&!a)||(i==7&&!b)||(i==8&&a&&b&&!c)||(i==9&&c&&!d)||(i==10&&!e))=true:=by decide
theorem dT(a b c d e:Bool)(h:¬(a=true/\b=true/\c=true/\d=true/\e=true))(i:Nat)(hi:i∈Da a b c d e):(i=6/\a=false)\/(i=7/\b=false)\/(i=8/\a=true/\b=true/\c=false)\/(i=9/\c=true/\d=false)\/(i=10/\e=false):=by
 have:=List.all_eq_true.1 (dU a b c d e h) i hi
 simpa [or_assoc,and_assoc]using this
structure qt(h0:Hp)(e0:Nat->Option Value)(D:Nat->Nat)(ts ta:TypeId)(cells:Nat->Nat->Array Value)(a b c d e:Bool)(env:Env)(h:Hp)(F:Nat->Option (Nat×Obj)):Prop where
 made:Made h0 h F
 old:∀i v,e0 i=some v->look env i=some v
 hc:c=true->a=true/\b=true
 hd:d=true->c=true
 a1:a=true->∃w,F 6=some (w,Is)/\look env (D 6)=some (.chan (some w))
 b1:b=true->∃s,F 7=some (s,Is)/\look env (D 7)=some (.chan (some s))
 c1:c=true->∃w s,F 6=some (w,Is)/\F 7=some (s,Is)/\look env (D 8)=some (.agg (cells w s))
 d1:d=true->∃w s t,F 6=some (w,Is)/\F 7=some (s,Is)/\F 9=some (t,.cells (cells w s) ts (0,0))/\look env (D 9)=some (.pointer (some ⟨t,0,none⟩))
 e1:e=true->∃p,F 10=some (p,.cells #[.pointer none] ta (0,0))/\look env (D 10)=some (.pointer (some ⟨p,0,none⟩))
section
variable{P:Program}{main:Bool}{S:Cp Γ}{f:FuncId}{n:Nat}{k:List Item}{ds:List Deferred}{δ:Ix Γ}{R:Cv Γ}{ops:Array Oper}{Z:Hp->Prop}{h0:Hp}{e0:Nat->Option Value}{D:Nat->Nat}
theorem lb{m:Nat}{l l':Array Bool}{env:Env}{h:Hp}(hl:l=l')(hk:EA P main S f n ops Z 11 m l' k env ds h δ R):EA P main S f n ops Z 11 m l k env ds h δ R:=hl▸hk
theorem lZ{tc elem sz C9 ts ta sa by2:Nat}{z:Value}{dir:ChanDir}[Es P tc (.chan dir elem)][Cw P elem sz C9 z][Cw P ta sa by2 (.pointer none)]{cells:Nat->Nat->Array Value}{bp:Array (Nat×Operand)}{t6 t7 t8 t9 t10:TypeId}{p6 p7 p8 p9 p10:String}{f6 f7 f8 f9 f10:Array Edge}
  (i6:ops[6]?=some ⟨some (D 6),.makeChan tc (.const (.int .i64 0)),t6,p6,f6,none⟩) (i7:ops[7]?=some ⟨some (D 7),.makeChan tc (.const (.int .i64 0)),t7,p7,f7,none⟩) (i8:ops[8]?=some ⟨some (D 8),.build ts bp,t8,p8,f8,none⟩)
  (i9:ops[9]?=some ⟨some (D 9),.box ts (.tmp (D 8)),t9,p9,f9,none⟩) (i10:ops[10]?=some ⟨some (D 10),.alloc ta,t10,p10,f10,none⟩) (hr:∀a b c d e,Region.ready .any ops (W1 a b c d e)=Da a b c d e)
  (hD:∀i j,6<=i->i<=10->6<=j->j<=10->D i=D j->i=j) (il:∀i,6<=i->i<=10->Nat.blt (D i) n=true) (xF:∀i,6<=i->i<=10->e0 (D i)=none) (hZ:∀h o,Z h->Z (h.push o))
  (hb:∀env w s,(∀i v,e0 i=some v->look env i=some v)->look env (D 6)=some (.chan (some w))->look env (D 7)=some (.chan (some s))->
   ∀(ρ:Operand->Value) (h:Hp) (Q:Next->Hp->Ix Γ->Prop) (X:Value->Hp->Ix Γ->Prop),(∀x v,ev env x=some v->ρ x=v)->Q (.value (.agg (cells w s))) h δ->Aj P S (execOp ρ ⟨some (D 8),.build ts bp,t8,p8,f8,none⟩) h δ Q X)
  (fin:∀env h F,qt h0 e0 D ts ta cells true true true true true env h F->Z h->EA P main S f n ops Z 11 1 (W1 true true true true true) k env ds h δ R):
  ∀(m:Nat) (a b c d e:Bool) (env:Env) (h:Hp) (F:Nat->Option (Nat×Obj)),m=(cond a 0 1)+(cond b 0 1)+(cond c 0 1)+(cond d 0 1)+(cond e 0 1)+1->qt h0 e0 D ts ta cells a b c d e env h F->Z h->EA P main S f n ops Z 11 m (W1 a b c d e) k env ds h δ R:=by
 have ne:∀{i j},i≠j->6<=i->i<=10->6<=j->j<=10->D i≠D j:=fun {i j} Ta a b c d e=>Ta (hD i j a b c d e)
 have Xr:∀{env:Env} {i v},6<=i->i<=10->(∀j x,e0 j=some x->look env j=some x)->∀j x,e0 j=some x->look ((D i,v)::env) j=some x:=fun {env i v} h1 h2 ho j x hx=>by
  rw [HJ,if_neg]
  ·exact ho j x hx
  ·rintro rfl
   rw [xF i h1 h2]at hx;cases hx
 have lk:∀{env:Env} {i j:Nat} {v x:Value},i≠j->6<=i->i<=10->6<=j->j<=10->look env (D j)=some x->look ((D i,v)::env) (D j)=some x:=fun {env i j v x} Ta a b c d hx=>by
  rw [HJ,if_neg (ne Ta a b c d)];exact hx
 have oG:∀{env:Env} {i:Nat} {v:Value},look ((D i,v)::env) (D i)=some v:=fun {env i v}=>by rw [HJ,if_pos rfl]
 have un:∀{F:Nat->Option (Nat×Obj)} {i j x y},i≠j->F j=y->ut F i x j=y:=fun {F i j x y} Ta hy=>by rw [Ai _ _ (Ne.symm Ta)];exact hy
 intro m
 induction m with
 | zero=>intro a b c d e env h F hm;omega
 | succ m ih=>
  intro a b c d e env h F hm I hz
  by_cases Tu:a=true/\b=true/\c=true/\d=true/\e=true
  ·obtain⟨rfl,rfl,rfl,rfl,rfl⟩:=Tu
   obtain rfl:m=0:=by simpa using hm
   exact fin env h F I hz
  ·refine Y0 (hr a b c d e) (kU a b c d e I.hc I.hd Tu) fun i hi=>?_
   rcases dT a b c d e Tu i hi with⟨rfl,rfl⟩|⟨rfl,rfl⟩|⟨rfl,rfl,rfl,rfl⟩|⟨rfl,rfl,rfl⟩|⟨rfl,rfl⟩
   ·have ot:c=false:=by cases c with|false=>rfl|true=>exact absurd (I.hc rfl).1 (by simp)
    have oo:d=false:=by cases d with|false=>rfl|true=>exact absurd (I.hd rfl) (by simp [ot])
    subst ot oo
    refine Ht (l':=W1 true b false false e) i6 rfl (il 6 (by omega) (by omega)) rfl (fun ρ Q X Aa hq=>Ih (Aa _ _ rfl) hq) (hZ _ _ hz) (ih true b false false e _ _ (ut F 6 (some (h.size,Is))) (by simp at hm⊢;omega) ?_ (hZ _ _ hz))
    exact⟨I.made.push 6 _,Xr (by omega) (by omega) I.old,fun x=>(by cases x),fun x=>(by cases x),fun _=>⟨_,AL _ _ _,oG⟩,fun x=>(I.b1 x).imp fun s y=>⟨un (by omega) y.1,lk (by omega) (by omega) (by omega) (by omega) (by omega) y.2⟩,fun x=>(by cases x),fun x=>(by cases x),fun x=>(I.e1 x).imp fun s y=>⟨un (by omega) y.1,lk (by omega) (by omega) (by omega) (by omega) (by omega) y.2⟩⟩
   ·have ot:c=false:=by cases c with|false=>rfl|true=>exact absurd (I.hc rfl).2 (by simp)
    have oo:d=false:=by cases d with|false=>rfl|true=>exact absurd (I.hd rfl) (by simp [ot])
    subst ot oo
    refine Ht (l':=W1 a true false false e) i7 rfl (il 7 (by omega) (by omega)) rfl (fun ρ Q X Aa hq=>Ih (Aa _ _ rfl) hq) (hZ _ _ hz) (ih a true false false e _ _ (ut F 7 (some (h.size,Is))) (by simp at hm⊢;omega) ?_ (hZ _ _ hz))
    exact⟨I.made.push 7 _,Xr (by omega) (by omega) I.old,fun x=>(by cases x),fun x=>(by cases x),fun x=>(I.a1 x).imp fun s y=>⟨un (by omega) y.1,lk (by omega) (by omega) (by omega) (by omega) (by omega) y.2⟩,fun _=>⟨_,AL _ _ _,oG⟩,fun x=>(by cases x),fun x=>(by cases x),fun x=>(I.e1 x).imp fun s y=>⟨un (by omega) y.1,lk (by omega) (by omega) (by omega) (by omega) (by omega) y.2⟩⟩
   ·have oo:d=false:=by cases d with|false=>rfl|true=>exact absurd (I.hd rfl) (by simp)
    subst oo
    obtain⟨w,w1,w2⟩:=I.a1 rfl
    obtain⟨s,s1,s2⟩:=I.b1 rfl
    refine Ht (l':=W1 true true true false e) i8 rfl (il 8 (by omega) (by omega)) rfl (fun ρ Q X Aa hq=>hb env w s I.old w2 s2 ρ h Q X Aa hq) hz (ih true true true false e _ _ F (by simp at hm⊢;omega) ?_ hz)
    exact⟨I.made,Xr (by omega) (by omega) I.old,fun _=>⟨rfl,rfl⟩,fun x=>(by cases x),fun _=>⟨w,w1,lk (by omega) (by omega) (by omega) (by omega) (by omega) w2⟩,fun _=>⟨s,s1,lk (by omega) (by omega) (by omega) (by omega) (by omega) s2⟩,fun _=>⟨w,s,w1,s1,oG⟩,fun x=>(by cases x),fun x=>(I.e1 x).imp fun s y=>⟨y.1,lk (by omega) (by omega) (by omega) (by omega) (by omega) y.2⟩⟩
   ·obtain⟨ha,DN⟩:=I.hc rfl
    subst ha DN
    obtain⟨w,s,w1,s1,c2⟩:=I.c1 rfl
    refine Ht (v:=.pointer (some ⟨h.size,0,none⟩)) (h':=h.push (.cells (cells w s) ts)) (l':=W1 true true true true e) i9 rfl (il 9 (by omega) (by omega)) rfl (fun ρ Q X Aa hq=>?_) (hZ _ _ hz) (ih true true true true e _ _ (ut F 9 (some (h.size,.cells (cells w s) ts (0,0)))) (by simp at hm⊢;omega) ?_ (hZ _ _ hz))
    ·show Aj P S (Instr.box ts (ρ (.tmp (D 8))) >>= fun v=>pure (.value v)) h δ Q X
     rw [Aa (.tmp (D 8)) _ c2]
     exact⟨Gw,hq⟩
    ·obtain⟨w',w3,w4⟩:=I.a1 rfl
     obtain⟨s',s3,s4⟩:=I.b1 rfl
     exact⟨I.made.push 9 _,Xr (by omega) (by omega) I.old,fun _=>⟨rfl,rfl⟩,fun _=>rfl,fun _=>⟨w',un (by omega) w3,lk (by omega) (by omega) (by omega) (by omega) (by omega) w4⟩,fun _=>⟨s',un (by omega) s3,lk (by omega) (by omega) (by omega) (by omega) (by omega) s4⟩,
      fun _=>⟨w,s,un (by omega) w1,un (by omega) s1,lk (by omega) (by omega) (by omega) (by omega) (by omega) c2⟩,fun _=>⟨w,s,_,un (by omega) w1,un (by omega) s1,AL _ _ _,oG⟩,fun x=>(I.e1 x).imp fun s y=>⟨un (by omega) y.1,lk (by omega) (by omega) (by omega) (by omega) (by omega) y.2⟩⟩
   ·refine Ht (l':=W1 a b c d true) i10 rfl (il 10 (by omega) (by omega)) rfl (fun ρ Q X Aa hq=>QM hq) (hZ _ _ hz) (ih a b c d true _ _ (ut F 10 (some (h.size,.cells #[.pointer none] ta (0,0)))) (by simp at hm⊢;omega) ?_ (hZ _ _ hz))
    exact⟨I.made.push 10 _,Xr (by omega) (by omega) I.old,I.hc,I.hd,fun x=>(I.a1 x).imp fun s y=>⟨un (by omega) y.1,lk (by omega) (by omega) (by omega) (by omega) (by omega) y.2⟩,fun x=>(I.b1 x).imp fun s y=>⟨un (by omega) y.1,lk (by omega) (by omega) (by omega) (by omega) (by omega) y.2⟩,
     fun x=>(I.c1 x).imp fun w y=>y.imp fun s z=>⟨un (by omega) z.1,un (by omega) z.2.1,lk (by omega) (by omega) (by omega) (by omega) (by omega) z.2.2⟩,fun x=>(I.d1 x).imp fun w y=>y.imp fun s z=>z.imp fun t q=>⟨un (by omega) q.1,un (by omega) q.2.1,un (by omega) q.2.2.1,lk (by omega) (by omega) (by omega) (by omega) (by omega) q.2.2.2⟩,fun _=>⟨_,AL _ _ _,oG⟩⟩
end
end
section
open Go Go.Conc
variable{Γ:Type}
section
variable{P:Program}{main:Bool}{S:Cp Γ}{f:FuncId}{n:Nat}{k:List Item}{env:Env}{ds:List Deferred}{h:Hp}{δ:Ix Γ}{R:Cv Γ}
theorem Ug{fn:Func}{tmps:Array Value}{t:Tmp}{cT m:Nat}[FP P cT m]{b off:Nat}{vs:List Value}(hr:fn.results=#[.cell t cT])(ht:tmps.getD t undef= .pointer (some ⟨b,off,none⟩))(hm:vs.length=m)(hc:A0 h b off vs):
  Reads P fn tmps h (.agg vs.toArray):=by
 intro w hw
 subst hw
 obtain⟨Ps,h1,h2⟩:=Kk (P:=P) (t:=cT) hm hc #[]
 refine⟨Ps,?_,h2⟩
 have e1:Sem.run P (loadVar cT ⟨b,off,none⟩) w= .ok (.agg vs.toArray) w:=by simpa using congrArg Prod.fst h1
 have e2:Sem.events P (loadVar cT ⟨b,off,none⟩) w #[]=Ps:=by simpa using congrArg Prod.snd h1
 have ha:asAddr (.pointer (some ⟨b,off,none⟩))=pure ⟨b,off,none⟩:=rfl
 have aM:tmps[t]?.getD undef= .pointer (some ⟨b,off,none⟩):=by rw [<-ht,Array.getD_eq_getD_getElem?]
 simp [results,hr,aM,ha,e1,e2]
theorem BD{fn:Func}{t:Tmp}{cT m:Nat}[FP P cT m]{b off:Nat}{vs:List Value}[hf:BC P f fn](hr:fn.results=#[.cell t cT])(ht:look env t=some (.pointer (some ⟨b,off,none⟩)))(hm:vs.length=m)(hc:A0 h b off vs)
  (hR:R (.ret (.agg vs.toArray)) h δ):EU P main S f n .returning env [] h δ R:=
 fun _ ka=>WU.V7 ka.defers hf.out (Ug hr (Ds ka ht) hm hc) hR
end
theorem Au{h:Hp}{b e:Nat}{fz:Nat×Nat}{c vs:List Value}(hb:h[b]?=some (.cells c.toArray e fz))(hl:c.length=vs.length):Cm h b 0 vs=h.setIfInBounds b (.cells vs.toArray e fz):=by
 rw [FT vs 0 h c hb (by omega)]
 congr 3
 simp [<-hl]
theorem A6{P:Program}{main:Bool}{S:Cp Γ}{f:FuncId}{n:Nat}{ops:Array Oper}{l:List Oper}{k:List Item}{env:Env}{ds:List Deferred}{h:Hp}{δ:Ix Γ}{R:Cv Γ}(F:Hp->Prop)(hF:F h)(hn:∀h',F h'->ER P main S f n ops l k env ds h' δ R):ER P main S f n ops l k env ds h δ R:=hn h hF
theorem F4{P:Program}{main:Bool}{S:Cp Γ}{f:FuncId}{n:Nat}{k:List Item}{env:Env}{ds:List Deferred}{h:Hp}{δ:Ix Γ}{R:Cv Γ}(F:Hp->Prop)(hF:F h)(hn:∀h',F h'->EK P main S f n k env ds h' δ R):EK P main S f n k env ds h δ R:=hn h hF
theorem SG(h:Hp)(a b:Obj):AN (fun _=>False) h ((h.push a).push b)/\((h.push a).push b).size=h.size+2/\((h.push a).push b)[h.size]?=some a/\((h.push a).push b)[h.size+1]?=some b:=by
 refine⟨(AN.push _ _).trans (AN.push _ _),by simp,Ao _ (AG _ _),?_⟩
 have:=AG (h.push a) b
 rw [CH]at this
 exact this
theorem rH(h:Hp)(a b c:Obj):AN (fun _=>False) h (((h.push a).push b).push c)/\(((h.push a).push b).push c).size=h.size+3/\(((h.push a).push b).push c)[h.size]?=some a/\(((h.push a).push b).push c)[h.size+1]?=some b/\(((h.push a).push b).push c)[h.size+2]?=some c:=by
 obtain⟨u,s,g0,g1⟩:=SG h a b
 refine⟨u.trans (AN.push _ _),by simp,Ao _ g0,Ao _ g1,?_⟩
 have:=AG ((h.push a).push b) c
 rw [s]at this
 exact this
theorem rG(h:Hp)(a b c d e:Obj):AN (fun _=>False) h (((((h.push a).push b).push c).push d).push e)/\(((((h.push a).push b).push c).push d).push e).size=h.size+5/\(((((h.push a).push b).push c).push d).push e)[h.size]?=some a/\(((((h.push a).push b).push c).push d).push e)[h.size+1]?=some b/\
  (((((h.push a).push b).push c).push d).push e)[h.size+2]?=some c/\(((((h.push a).push b).push c).push d).push e)[h.size+3]?=some d/\(((((h.push a).push b).push c).push d).push e)[h.size+4]?=some e:=by
 obtain⟨u,s,g0,g1,g2⟩:=rH h a b c
 obtain⟨u',s',g3,g4⟩:=SG (((h.push a).push b).push c) d e
 rw [s]at g3 g4 s'
 exact⟨u.trans u',by rw [s'],u'.get g0 (fun x=>x),u'.get g1 (fun x=>x),u'.get g2 (fun x=>x),g3,g4⟩
end
section
open Go Go.Conc
variable{Γ:Type}
section
variable{P:Program}{main:Bool}{S:Cp Γ}{f:FuncId}{n:Nat}{k:List Item}{env:Env}{ds:List Deferred}{h:Hp}{δ:Ix Γ}{R:Cv Γ}
variable{ops:Array Oper}{l:List Oper}{d:Nat}{ty:TypeId}{pos:String}{af:Array Edge}{g:Option (Nat×Bool)}{Z:Hp->Prop}{zz:Nat}{m:Nat}{listed l':Array Bool}
end
end
end Go.TJ
namespace Go.Proofs.YtfkalocplonkiaaGreat
section
open Go Go.TJ Go.Proofs
abbrev ptr(b:Nat):Value:=.pointer (some ⟨b,0,none⟩)
abbrev AK:Value:=.slice none 0 0
instance:SV Tryz.prog:=⟨by kernel_rfl⟩
end
end Go.Proofs.YtfkalocplonkiaaGreat
namespace Go.TJ
section
open Go Go.Conc
variable{Γ:Type}
theorem lX{P:Program}{main:Bool}{S:Cp Γ}{f:FuncId}{n:Nat}{k:List Item}{env:Env}{ds:List Deferred}{h:Hp}{δ:Ix Γ}{R:Cv Γ}[hm:SV P]{id:Nat}{ops:Array Oper}{σ:Type}(E:σ->Env)(I:σ->Hp->Ix Γ->Prop)(Z:Hp->Prop)(z:Nat)
  (h1:(∀s h' AW,I s h' AW->EK P main S f n k (E s) ds h' AW R)->EA P main S f n ops Z z ops.size (Array.replicate ops.size false) k env ds h δ R) (h2:∀s h' AW,I s h' AW->EK P main S f n k (E s) ds h' AW R):EK P main S f n (.code (.region id ops true)::k) env ds h δ R:=D7 Z z (h1 h2)
theorem zq{P:Program}{main:Bool}{S:Cp Γ}{f:FuncId}{n:Nat}{k:List Item}{env:Env}{ds:List Deferred}{h:Hp}{δ:Ix Γ}{R:Cv Γ}{ops:Array Oper}{Z:Hp->Prop}{z m:Nat}{listed l':Array Bool}{d:Nat}{ty:TypeId}{pos:String}{af:Array Edge}{g:Option (Nat×Bool)}{i:Nat}{x:Operand}{args:Array Operand}{FL:Array TypeId}{c:FuncId}{cap ws:Array Value}{vs:List Value}[AT P c]{v:Value}{h':Hp}{AW:Ix Γ}
  (hi:ops[i]?=some ⟨some d,.call {callee:=.value x,args,argTypes:=FL},ty,pos,af,g⟩) (hl:listed.setIfInBounds i true=l') (hd:Nat.blt d n=true) (hw:Al ops env g=some true) (hx:ev env x=some (.func (.func c) #[] cap)) (ha:Pq env args.toList=some vs) (My:vs.toArray++cap=ws)
  (hc:AY P main S c ws h δ (CJ (Gb v h' AW))) (hZ:Z h') (hn:EA P main S f n ops Z z m l' k ((d,v)::env) ds h' AW R):iw P main S f n ops Z z m listed k env ds h δ R i:=by
 subst hl
 intro a ka
 unfold NV
 simp only [hi]
 rw [if_pos (CN ka (o:=⟨some d,.call {callee:=.value x,args,argTypes:=FL},ty,pos,af,g⟩) hw)]
 subst My
 refine HI rfl (ka.eval hx) (C4 (fun x v hx=>ka.eval hx) ha) (hc.mono ?_)
 rintro(v'|p) V1 V5 hq
 ·obtain⟨rfl,rfl,rfl⟩:=hq
  exact⟨.inr hZ,hn _ (ka.put _ hd)⟩
 ·exact hq.elim
end
section
open Go Go.Conc
variable{Γ:Type}
def F1(es:Array MapEntry)(l:List (Addr×Value)):Prop:=es.toList.map (fun e=>(e.key,e.val))=l.map (fun p=>(Value.pointer (some p.1),p.2))
theorem F1.nil:F1 #[] []:=rfl
theorem F1.push{es:Array MapEntry}{l:List (Addr×Value)}(hk:F1 es l)(a:Addr)(v:Value)(c:Nat):F1 (es.push {key:=.pointer (some a),val:=v,born:=c}) (l++[(a,v)]):=by
 unfold F1 at *
 simp [hk]
def HO(a:Addr):List (Addr×Value)->Nat->Option (Nat×Value)
 | [],_=>none
 | p::l,i=>if a=p.1 then some (i,p.2)else HO a l (i+1)
section
variable{P:Program}{S:Cp Γ}{h:Hp}{δ:Ix Γ}
def Plain(h:Hp)(b:Nat):Prop:=∃c t,h[b]?=some (.cells c t (0,0))
theorem Plain.PW{b:Nat}(x:Plain h b)(o:Nat)(s:Option Nat):Bf h ⟨b,o,s⟩=false:=by
 obtain⟨c,t,hc⟩:=x
 simp [Bf,hc]
theorem Pb{a b:Addr}(ha:Plain h a.block)(hb:Plain h b.block){Q:Bool->Hp->Ix Γ->Prop}{X:Value->Hp->Ix Γ->Prop}(hq:Q (decide (a=b)) h δ):Aj P S (sameAddr a b) h δ Q X:=by
 unfold sameAddr
 by_cases e:a.block=b.block
 ·rw [if_pos (by simpa using e)]
  have:(a==b)=decide (a=b):=by by_cases x:a=b <;> simp [x]
  show Q (a==b) h δ
  rw [this];exact hq
 ·rw [if_neg (by simpa using e)]
  have e':a≠b:=fun x=>e (by rw [x])
  rw [show decide (a=b)=false by simp [e']]at hq
  obtain⟨c1,t1,h1⟩:=ha
  obtain⟨c2,t2,h2⟩:=hb
  have f1:∀o s,Bf h ⟨a.block,o,s⟩=false:=fun o s=>by simp [Bf,h1]
  have f2:∀o s,Bf h ⟨b.block,o,s⟩=false:=fun o s=>by simp [Bf,h2]
  have g1:Bf h a=false:=f1 a.off a.spot
  have g2:Bf h b=false:=f2 b.off b.spot
  have s1:IT h a.block=some (t1,c1.size):=by simp [IT,h1]
  have s2:IT h b.block=some (t2,c2.size):=by simp [IT,h2]
  simp only [noView,viewAt,mayBeOne,stringish,frozen,shape,Bind.bind,Sem.bind,Pure.pure,Aj,g1,g2,s1,s2,f1,f2,Option.isSome_some,if_true,Bool.false_and,Bool.and_false,Bool.or_false,Bool.false_eq_true,if_false,Option.isSome_none]
  exact hq
theorem JB{kt el sz C9:Nat}{z:Value}(hu:P.underlying kt=some (.pointer el))(i:Cw P el sz C9 z)(Ey:sz≠0){a:Addr}(ha:Plain h a.block){Q:Option (Nat×Value)->Hp->Ix Γ->Prop}{X:Value->Hp->Ix Γ->Prop}:
  ∀(l:List (Addr×Value)) (es:List MapEntry) (i:Nat),(∀p∈l,Plain h p.1.block)->es.map (fun e=>(e.key,e.val))=l.map (fun p=>(Value.pointer (some p.1),p.2))->Q (HO a l i) h δ->Aj P S (Instr.findAsking kt (.pointer (some a)) es i) h δ Q X
 | [],[],_,_,_,hq=>hq
 | [],_::_,_,_,hl,_=>by cases hl
 | _::_,[],_,_,hl,_=>by cases hl
 | p::l,e::es,j,hp,hl,hq=>by
  injection hl with h1 h2
  injection h1 with h3 h4
  unfold Instr.findAsking
  refine AM _ _ _ _ _ _ ?_
  rw [h3]
  unfold Op.equal Op.maxDepth Op.equalIn
  refine An hu ?_
  obtain⟨inf,i1,i2,_,_⟩:=i.get
  dsimp only
  refine Cb i1 ?_
  rw [i2,if_pos Ey]
  refine Pb ha (hp p (by simp)) ?_
  unfold HO at hq
  by_cases e:a=p.1
  ·rw [if_pos e]at hq
   rw [if_pos (by simp [e])]
   rw [h4]
   exact hq
  ·rw [if_neg e]at hq
   rw [if_neg (by simpa using e)]
   exact JB hu i Ey ha l es (j+1) (fun q hq=>hp q (by simp [hq])) h2 hq
theorem L5{kt el sz C9:Nat}{z:Value}(hu:P.underlying kt=some (.pointer el))(i:Cw P el sz C9 z)(Ey:sz≠0){a:Addr}(ha:Plain h a.block){es:Array MapEntry}{l:List (Addr×Value)}(hp:∀p∈l,Plain h p.1.block)(hk:F1 es l){Q:Option (Nat×Value)->Hp->Ix Γ->Prop}{X:Value->Hp->Ix Γ->Prop}
  (hq:Q (HO a l 0) h δ):Aj P S (Instr.findKey kt (.pointer (some a)) es.toList) h δ Q X:=by
 unfold Instr.findKey
 refine An hu ?_
 have hl:=hk
 unfold F1 at hl
 cases e:es.toList with
 | nil=>
  rw [e]at hl
  cases l with
  | nil=>exact hq
  | cons _ _=>cases hl
 | cons x xs=>
  rw [<-e]
  have:Instr.findNow (.pointer el) (.pointer (some a)) es.toList 0=none:=by
   rw [e];unfold Instr.findNow;unfold Instr.sameNow;rfl
  rw [this]
  exact JB hu i Ey ha l _ 0 hp hk hq
theorem Kj{kt el:TypeId}(hu:P.underlying kt=some (.pointer el)){b:Bool}{v:Value}{Q:Unit->Hp->Ix Γ->Prop}{X:Value->Hp->Ix Γ->Prop}(hq:Q () h δ):Aj P S (Instr.checkKey b 10000 kt v) h δ Q X:=by
 show Aj P S (Instr.checkKey b (9999+1) kt v) h δ Q X
 unfold Instr.checkKey
 refine An hu ?_
 exact hq
theorem Mo{t kt et el s2 b2:Nat}{z2:Value}(ht:P.underlying t=some (.map kt et))(hu:P.underlying kt=some (.pointer el))(i2:Cw P el s2 b2 z2)(Ey:s2≠0){sz C9:Nat}{z:Value}[i:Cw P et sz C9 z]{r c:Nat}{es:Array MapEntry}{l:List (Addr×Value)}{a:Addr}
  (hr:h[r]?=some (.map es c)) (ha:Plain h a.block) (hp:∀p∈l,Plain h p.1.block) (hk:F1 es l) {Q:Value->Hp->Ix Γ->Prop} {X:Value->Hp->Ix Γ->Prop}
  (hq:Q (match HO a l 0 with|some p=>.tuple #[p.2,.bool true]|none=>.tuple #[z,.bool false]) h δ):Aj P S (Instr.lookup t (.map (some r)) (.pointer (some a)) true) h δ Q X:=by
 unfold Instr.lookup
 refine An ht ?_
 refine⟨_,hr,nofun,?_⟩
 refine A1 (a:=Obj.map es c) ?_
 refine A1 (a:=es) ?_
 refine AM _ _ _ _ _ _ (Kj hu ?_)
 refine AM _ _ _ _ _ _ (L5 hu i2 Ey ha hp hk ?_)
 obtain⟨inf,h1,_,_,h4⟩:=i.get
 cases e:HO a l 0 with
 | some p=>rw [e]at hq;exact hq
 | none=>
  rw [e]at hq
  refine Cf h1 h4 ?_
  exact hq
theorem S8{t kt et el s2 b2:Nat}{z2:Value}(ht:P.underlying t=some (.map kt et))(hu:P.underlying kt=some (.pointer el))(i2:Cw P el s2 b2 z2)(Ey:s2≠0){r c:Nat}{es:Array MapEntry}{l:List (Addr×Value)}{a:Addr}{v:Value}
  (hr:h[r]?=some (.map es c)) (ha:Plain h a.block) (hp:∀p∈l,Plain h p.1.block) (hk:F1 es l) (hf:HO a l 0=none) {Q:Unit->Hp->Ix Γ->Prop} {X:Value->Hp->Ix Γ->Prop}
  (hq:Q () (h.setIfInBounds r (.map (es.push {key:=.pointer (some a),val:=v,born:=c}) (c+1))) δ):Aj P S (Instr.mapUpdate t (.map (some r)) (.pointer (some a)) v) h δ Q X:=by
 unfold Instr.mapUpdate
 refine An ht ?_
 refine⟨_,hr,nofun,?_⟩
 refine A1 (a:=Obj.map es c) ?_
 refine AM _ _ _ _ _ _ (Kj hu ?_)
 refine AM _ _ _ _ _ _ (L5 hu i2 Ey ha hp hk ?_)
 rw [hf]
 exact⟨rfl,nofun,⟨_,hr,nofun,rfl⟩,hq⟩
end
section
variable{P:Program}{main:Bool}{S:Cp Γ}{f:FuncId}{n:Nat}{k:List Item}{env:Env}{ds:List Deferred}{h:Hp}{δ:Ix Γ}{R:Cv Γ}
variable{ops:Array Oper}{l:List Oper}{d:Nat}{ty:TypeId}{pos:String}{af:Array Edge}{g:Option (Nat×Bool)}
theorem Yz{t kt et el sz C9 s2 b2:Nat}{z z2:Value}[ht:Es P t (.map kt et)][hu:Es P kt (.pointer el)][i2:Cw P el s2 b2 z2][Cw P et sz C9 z]{x y:Operand}{r c:Nat}{es:Array MapEntry}{ls:List (Addr×Value)}{a:Addr}{v:Value}
  (hw:Al ops env g=some true) (hd:Nat.blt d n=true) (hx:ev env x=some (.map (some r))) (hy:ev env y=some (.pointer (some a))) (Ey:s2≠0) (hr:h[r]?=some (.map es c)) (ha:Plain h a.block) (hp:∀p∈ls,Plain h p.1.block) (hk:F1 es ls)
  (hv:(match HO a ls 0 with|some p=>.tuple #[p.2,.bool true]|none=>.tuple #[z,.bool false])=v)
  (hn:ER P main S f n ops l k ((d,v)::env) ds h δ R):ER P main S f n ops (⟨some d,.lookup t x y true,ty,pos,af,g⟩::l) k env ds h δ R:=
 DW hw hd (fun ρ Q X Aa hq=>by
  show Aj P S (Instr.lookup t (ρ x) (ρ y) true >>= fun v=>pure (.value v)) h δ Q X
  rw [Aa x _ hx,Aa y _ hy]
  exact AM _ _ _ _ _ _ (Mo ht.out hu.out i2 Ey hr ha hp hk (by rw [hv];exact hq))) hn
theorem lU{t kt et el s2 b2:Nat}{z2:Value}[ht:Es P t (.map kt et)][hu:Es P kt (.pointer el)][i2:Cw P el s2 b2 z2]{x y q:Operand}{r c:Nat}{es:Array MapEntry}{ls:List (Addr×Value)}{a:Addr}{v:Value}
  (hw:Al ops env g=some true) (hx:ev env x=some (.map (some r))) (hy:ev env y=some (.pointer (some a))) (hq:ev env q=some v) (Ey:s2≠0) (hr:h[r]?=some (.map es c)) (ha:Plain h a.block) (hp:∀p∈ls,Plain h p.1.block) (hk:F1 es ls) (hf:HO a ls 0=none)
  (hn:ER P main S f n ops l k env ds (h.setIfInBounds r (.map (es.push {key:=.pointer (some a),val:=v,born:=c}) (c+1))) δ R):ER P main S f n ops (⟨none,.mapUpdate t x y q,ty,pos,af,g⟩::l) k env ds h δ R:=
 YV hw (fun ρ Q X Aa Eh=>by
  show Aj P S (Instr.mapUpdate t (ρ x) (ρ y) (ρ q) >>= fun _=>pure .skip) h δ Q X
  rw [Aa x _ hx,Aa y _ hy,Aa q _ hq]
  exact AM _ _ _ _ _ _ (S8 ht.out hu.out i2 Ey hr ha hp hk hf Eh)) hn
theorem lT{t kt et:TypeId}[ht:Es P t (.map kt et)]{x:Operand}{r c:Nat}{es:Array MapEntry}{v:Nat}(hw:Al ops env g=some true)(hd:Nat.blt d n=true)(hx:ev env x=some (.map (some r)))(hr:h[r]?=some (.map es c))(hv:es.size=v)
  (hn:ER P main S f n ops l k ((d,.int .i64 v)::env) ds h δ R):ER P main S f n ops (⟨some d,.call {callee:=.builtin .len,args:=#[x],argTypes:=#[t]},ty,pos,af,g⟩::l) k env ds h δ R:=
 DW hw hd (fun ρ Q X Aa hq=>Fq (vs:=#[.map (some r)]) (by simp [Aa x _ hx]) fun cs=>by
  show Aj P S (Builtin.len_ #[t] ty #[.map (some r)] >>= fun v=>pure (Next.value v)) h δ Q X
  refine AM _ _ _ _ _ _ ?_
  unfold Builtin.len_
  refine An ht.out ?_
  refine⟨_,hr,nofun,?_⟩
  rw [<-hv]at hq
  exact hq) hn
theorem Q8{t:TypeId}{x:Operand}{v:Value}{dd:TypeDesc}(hu:P.underlying t=some dd)(hw:Al ops env g=some true)(hd:Nat.blt d n=true)(hx:ev env x=some v)(B7:∀ms,dd≠ .interface ms)
  (hn:ER P main S f n ops l k ((d,.iface t v)::env) ds h δ R):ER P main S f n ops (⟨some d,.makeInterface t x,ty,pos,af,g⟩::l) k env ds h δ R:=
 DW hw hd (fun ρ Q X Aa hq=>by
  show Aj P S (Instr.makeInterface t (ρ x) >>= fun v=>pure (.value v)) h δ Q X
  rw [Aa x _ hx]
  refine AM _ _ _ _ _ _ ?_
  unfold Instr.makeInterface
  refine An hu ?_
  cases dd <;> first|exact hq|exact absurd rfl (B7 _)) hn
theorem lS{fn:Func}[hf:BC P f fn]{x:Operand}{t:TypeId}{v:Value}(hw:Al ops env g=some true)(hx:ev env x=some (.iface t v))(hR:R (.Rh [{v:=.iface t v,recovered:=false}]) h δ):
  ER P main S f n ops (⟨none,.panic x,ty,pos,af,g⟩::l) k env [] h δ R:=
 gu (Q:=fun _ _=>False) hw (fun ρ Aa=>by
  show Aj P S (Instr.panic (ρ x) >>= fun v=>pure (Next.value v)) h δ _ _
  rw [Aa x _ hx]
  exact ZC hR) (fun _ _ hq=>hq.elim)
end
end
end Go.TJ
namespace Go.Proofs.YtfkalocplonkiaaGreat
section
open Go Go.TJ Go.Conc Go.Proofs
structure Ev where
 BI:Nat
 op:Int
 b:Nat
 arg:Int
 new:Int
 Dl:Int
 now:Int
 ok:Bool
structure Rq where
 op:Int
 b:Nat
 arg:Int
 new:Int
inductive Ph where
 | born
 | Bp (r:Rq)
 | over
def behind(op Dl arg new:Int):Int×Bool:=
 if op=2\/op=5 then(arg,false)else if op=3 then(if Dl=arg then(new,true)else(Dl,false))else if op=4 then(IntKind.i64.wrap (Dl+arg),false)else(Dl,false)
def Co(i:Nat)(r:Rq)(Dl:Int):Ev:=⟨i,r.op,r.b,r.arg,r.new,Dl,(behind r.op Dl r.arg r.new).1,(behind r.op Dl r.arg r.new).2⟩
def Ab(l:List Ev):List Nat:=l.foldl (fun a e=>if e.b∈a then a else a++[e.b]) []
theorem Fl(l:List Ev)(e:Ev):Ab (l++[e])=if e.b∈Ab l then Ab l else Ab l++[e.b]:=by
 unfold Ab;rw [List.foldl_append];rfl
theorem QW(b:Nat):∀(l:List Ev) (acc:List Nat),b∈l.foldl (fun a e=>if e.b∈a then a else a++[e.b]) acc↔b∈acc\/∃e,e∈l/\e.b=b
 | [],acc=>by simp
 | e::l,acc=>by
  rw [List.foldl_cons,QW b l]
  by_cases h:e.b∈acc
  ·rw [if_pos h]
   constructor
   ·rintro(x|⟨y,hy,rfl⟩)
    ·exact .inl x
    ·exact .inr ⟨y,C2 _ hy,rfl⟩
   ·rintro(x|⟨y,hy,rfl⟩)
    ·exact .inl x
    ·rcases Ew.1 hy with rfl|hy
     ·exact .inl h
     ·exact .inr ⟨y,hy,rfl⟩
  ·rw [if_neg h]
   constructor
   ·rintro(x|⟨y,hy,rfl⟩)
    ·rcases Ff.1 x with x|x
     ·exact .inl x
     ·exact .inr ⟨e,by simp,(List.mem_singleton.1 x).symm⟩
    ·exact .inr ⟨y,C2 _ hy,rfl⟩
   ·rintro(x|⟨y,hy,rfl⟩)
    ·exact .inl (GR _ x)
    ·rcases Ew.1 hy with rfl|hy
     ·exact .inl (by simp)
     ·exact .inr ⟨y,hy,rfl⟩
theorem IH(l:List Ev)(b:Nat):b∈Ab l↔∃e,e∈l/\e.b=b:=by
 unfold Ab;rw [QW];simp
structure PS(U:Type) where
 R:Nat
 mb:Nat
 num:Nat
 fl:Nat
 tb:Nat->Nat
 wk:Nat->Nat
 sd:Nat->Nat
 bx:Nat->Nat
 bf:Nat->Nat
 br:Nat->Nat
 fn:Nat->Value
 st:Nat->Ph
 gone:Nat->Bool
 CZ:Nat->List (Nat×Obj)
 log:List Ev
 Ax:List Nat
 Da:List Nat
 val:Nat->Int
 stops:Bool
 u:U
def Bm(i:Nat)(l:List Ev):List Ev:=l.filter (fun e=>e.BI==i)
def PS.acc{U:Type}(p:PS U)(i:Nat):PS U:=
 match p.st i with
 | .Bp r=>{p with log:=p.log++[Co i r (p.val r.b)],val:=ut p.val r.b (behind r.op (p.val r.b) r.arg r.new).1}
 | _=>p
def PS.GQ{U:Type}(p:PS U)(i:Nat)(u:U)(L:List (Nat×Obj))(s:Ph)(e:Bool):PS U:={p.acc i with u:=u,CZ:=ut (p.acc i).CZ i L,st:=ut (p.acc i).st i s,gone:=ut (p.acc i).gone i e}
structure Us where
 U:Type
 FC:Nat->Prop
 HE:U->Nat->Prop
 I:U->Hp->Prop
 J:List Ev->U->(Nat->Int)->Prop
 V:Nat->U->U->Prop
 Q:Nat->List Ev->Ph->U->Prop
structure Us.Ok(X:Us):Prop where
 Lg:∀i u,X.V i u u
 T8:∀i a b c,X.V i a b->X.V i b c->X.V i a c
 loc:∀u h h',(∀b,X.HE u b->h'[b]?=h[b]?)->X.I u h->X.I u h'
 R3:∀i l s u u',X.V i u u'->X.Q i l s u->X.Q i l s u'
 Td:∀u b,X.HE u b->¬X.FC b
structure JJ(X:Us)(r:Rq):Prop where
 cell:X.FC r.b
 iM:1<=r.op
 mU:r.op<=5
 arg:r.op=1->r.arg=0
 new:r.op≠3->r.new=0
theorem Ob{K:Type}[DecidableEq K](M:Mem K)(k:K)(o:Obj):(M.set k o).O k=o:=AL _ _ _
inductive Nm where
 | run|map|BI|log|Ax|Da|IS
 | t (i:Nat)|wk (i:Nat)|sd (i:Nat)|bx (i:Nat)|bf (i:Nat)|br (i:Nat)
 deriving DecidableEq
structure Pu where
 T:Value
 L:Value
 W:Value
 Y:Value
 F:Value
def A4(t o c a n w x:Int)(k:Bool):List Value:=[.int .i64 t,.int .i8 o,.int .i64 c,.int .i64 a,.int .i64 n,.int .i64 w,.int .i64 x,.bool k]
def CF(ns:List Nat)(e:Ev):List Value:=A4 e.BI e.op (ns.idxOf e.b) e.arg e.new e.Dl e.now e.ok
def KV(i:Nat)(r:Rq):List Value:=A4 i r.op (-1) r.arg r.new 0 0 false
def FG(R i wk sd:Nat)(v:Value)(a:List Value)(e:Bool):Obj:=.cells (ptr R:: .int .i64 i:: .chan (some wk):: .chan (some sd)::v::(a++[.bool e])).toArray 117 (0,0)
def DC(s:Pu)(mb:Nat)(x:Bool):Obj:=.cells #[s.T,.map (some mb),s.L,s.W,s.Y,s.F,.bool x] 111 (0,0)
def Lf(i:Nat):Ph->Value->List Value->Prop
 | .born,v,a=>v= .pointer none/\a=A4 0 0 0 0 0 0 0 false
 | .Bp r,v,a=>v=ptr r.b/\a=KV i r
 | .over,v,a=>(∃x,v= .pointer x)/\∃t o c b n w x k,a=A4 t o c b n w x k
def iD(o:Obj):Prop:=∃k,o= .chan 0 #[] false k k false
def DY:List Nat->Nat->List (Addr×Value)
 | [],_=>[]
 | b::l,i=>(⟨b,0,none⟩,.int .i64 i)::DY l (i+1)
theorem Km(b:Nat):∀(l:List Nat) (i:Nat),DY (l++[b]) i=DY l i++[(⟨b,0,none⟩,.int .i64 ((i+l.length:Nat):Int))]
 | [],i=>rfl
 | x::l,i=>by
  simp only [List.cons_append,DY,Km b l (i+1),List.length_cons]
  rw [show i+1+l.length=i+(l.length+1) by omega]
theorem Ii:∀(l:List Nat) (i:Nat) (q:Addr×Value),q∈DY l i->q.1.block∈l
 | [],_,_,h=>by cases h
 | x::l,i,q,h=>by
  rcases Ew.1 h with rfl|h
  ·simp
  ·exact C2 _ (Ii l _ q h)
theorem HT(b:Nat):∀(l:List Nat) (i:Nat),HO ⟨b,0,none⟩ (DY l i) i=if b∈l then some (i+l.idxOf b,.int .i64 ((i+l.idxOf b:Nat):Int))else none
 | [],i=>by simp [DY,HO]
 | x::l,i=>by
  simp only [DY,HO]
  by_cases e:b=x
  ·subst e;simp
  ·have e1:¬(⟨b,0,none⟩:Addr)=⟨x,0,none⟩:=fun y=>e (by injection y)
   rw [if_neg e1,HT b l (i+1)]
   have e2:(x==b)=false:=by simpa using Ne.symm e
   by_cases m:b∈l
   ·rw [if_pos m,if_pos (C2 _ m),List.idxOf_cons,e2]
    simp only [cond_false]
    rw [show i+1+l.idxOf b=i+(l.idxOf b+1) by omega]
   ·rw [if_neg m,if_neg (by simp [e,m])]
section
variable{U:Type}
def K1(p:PS U)(ns:List Nat)(s:Pu)(M:Mem Nm):Nm->Prop
 | .run=>M.ok .run/\M.B .run=p.R/\M.O .run=DC s p.mb p.stops
 | .map=>M.ok .map/\M.B .map=p.mb/\∃es c,M.O .map= .map es c/\F1 es (DY ns 0)
 | .BI=>M.Sl .BI s.T 48 1 p.num ((List.range p.num).map fun i=>ptr (p.tb i))
 | .log=>M.Sl .log s.L 38 8 p.log.length (p.log.flatMap (CF ns))
 | .Ax=>M.Sl .Ax s.W 3 1 p.Ax.length (p.Ax.map fun(n:Nat)=>Value.int .i64 (n:Int))
 | .Da=>M.Sl .Da s.Y 3 1 p.Da.length (p.Da.map fun(n:Nat)=>Value.int .i64 (n:Int))
 | .IS=>M.Sl .IS s.F 4 1 p.fl (List.replicate p.fl (.bool false))
 | .t i=>i<p.num->M.ok (.t i)/\M.B (.t i)=p.tb i/\∃v a,Lf i (p.st i) v a/\M.O (.t i)=FG p.R i (p.wk i) (p.sd i) v a (p.gone i)
 | .wk i=>i<p.num->M.ok (.wk i)/\M.B (.wk i)=p.wk i/\iD (M.O (.wk i))
 | .sd i=>i<p.num->M.ok (.sd i)/\M.B (.sd i)=p.sd i/\iD (M.O (.sd i))
 | .bx i=>i<p.num->M.ok (.bx i)/\M.B (.bx i)=p.bx i/\M.O (.bx i)= .cells #[ptr (p.tb i)] 48 (0,0)
 | .bf i=>i<p.num->M.ok (.bf i)/\M.B (.bf i)=p.bf i/\M.O (.bf i)= .cells #[p.fn i] 49 (0,0)
 | .br i=>i<p.num->M.ok (.br i)/\M.B (.br i)=p.br i/\M.O (.br i)= .cells #[ptr p.R] 106 (0,0)
variable{p:PS U}{ns:List Nat}{s:Pu}{M:Mem Nm}
theorem K1.set{k k':Nm}{o:Obj}(x:K1 p ns s M k')(hk:k'≠k):K1 p ns s (M.set k o) k':=by
 have e:(M.set k o).O k'=M.O k':=Ai _ _ hk
 cases k' with
 | run=>exact⟨x.1,x.2.1,e.trans x.2.2⟩
 | map=>obtain⟨x1,x2,es,c,x3,x4⟩:=x;exact⟨x1,x2,es,c,e.trans x3,x4⟩
 | BI=>exact Mem.Sl.set x hk o
 | log=>exact Mem.Sl.set x hk o
 | Ax=>exact Mem.Sl.set x hk o
 | Da=>exact Mem.Sl.set x hk o
 | IS=>exact Mem.Sl.set x hk o
 | t i=>intro hi;obtain⟨x1,x2,v,a,x3,x4⟩:=x hi;exact⟨x1,x2,v,a,x3,e.trans x4⟩
 | wk i=>intro hi;obtain⟨x1,x2,q,x3⟩:=x hi;exact⟨x1,x2,q,e.trans x3⟩
 | sd i=>intro hi;obtain⟨x1,x2,q,x3⟩:=x hi;exact⟨x1,x2,q,e.trans x3⟩
 | bx i=>intro hi;obtain⟨x1,x2,x3⟩:=x hi;exact⟨x1,x2,e.trans x3⟩
 | bf i=>intro hi;obtain⟨x1,x2,x3⟩:=x hi;exact⟨x1,x2,e.trans x3⟩
 | br i=>intro hi;obtain⟨x1,x2,x3⟩:=x hi;exact⟨x1,x2,e.trans x3⟩
theorem K1.put{k k':Nm}{b:Nat}{o:Obj}(x:K1 p ns s M k')(hk:k'≠k):K1 p ns s (M.put k b o) k':=by
 have e:(M.put k b o).O k'=M.O k':=Ai _ _ hk
 have eB:(M.put k b o).B k'=M.B k':=Ai _ _ hk
 have ek:M.ok k'->(M.put k b o).ok k':=.inr
 cases k' with
 | run=>exact⟨ek x.1,eB.trans x.2.1,e.trans x.2.2⟩
 | map=>obtain⟨x1,x2,es,c,x3,x4⟩:=x;exact⟨ek x1,eB.trans x2,es,c,e.trans x3,x4⟩
 | BI=>exact Mem.Sl.put x hk b o
 | log=>exact Mem.Sl.put x hk b o
 | Ax=>exact Mem.Sl.put x hk b o
 | Da=>exact Mem.Sl.put x hk b o
 | IS=>exact Mem.Sl.put x hk b o
 | t i=>intro hi;obtain⟨x1,x2,v,a,x3,x4⟩:=x hi;exact⟨ek x1,eB.trans x2,v,a,x3,e.trans x4⟩
 | wk i=>intro hi;obtain⟨x1,x2,q,x3⟩:=x hi;exact⟨ek x1,eB.trans x2,q,e.trans x3⟩
 | sd i=>intro hi;obtain⟨x1,x2,q,x3⟩:=x hi;exact⟨ek x1,eB.trans x2,q,e.trans x3⟩
 | bx i=>intro hi;obtain⟨x1,x2,x3⟩:=x hi;exact⟨ek x1,eB.trans x2,e.trans x3⟩
 | bf i=>intro hi;obtain⟨x1,x2,x3⟩:=x hi;exact⟨ek x1,eB.trans x2,e.trans x3⟩
 | br i=>intro hi;obtain⟨x1,x2,x3⟩:=x hi;exact⟨ek x1,eB.trans x2,e.trans x3⟩
end
structure GI(X:Us)(W:Nat->Prop)(p:PS X.U)(ns:List Nat)(s:Pu)(M:Mem Nm)(h:Hp):Prop where
 Ju:LR h M
 all:∀k,K1 p ns s M k
 wide:∀k,M.ok k->W (M.B k)
 Fu:∀b,X.FC b->h[b]?=some (Ay (p.val b))/\W b
 apart:∀k,M.ok k->¬X.FC (M.B k)/\¬X.HE p.u (M.B k)
 Hg:∀b,X.HE p.u b->b<h.size/\W b
 num:∀b,b∈ns->X.FC b
 JG:∀e,e∈p.log->e.b∈ns
 CZ:∀i,i<p.num->∀q,q∈p.CZ i->h[q.1]?=some q.2/\W q.1/\(∀k,M.ok k->M.B k≠q.1)/\¬X.FC q.1/\¬X.HE p.u q.1
 Ir:∀i j,i<p.num->j<p.num->i≠j->∀q q',q∈p.CZ i->q'∈p.CZ j->q.1≠q'.1
section
variable{X:Us}{W:Nat->Prop}{p p':PS X.U}{ns aD:List Nat}{s s':Pu}{M:Mem Nm}{h h':Hp}
theorem GI.lt(g:GI X W p ns s M h){k:Nm}(hk:M.ok k):M.B k<h.size:=g.Ju.lt hk
theorem GI.ne(g:GI X W p ns s M h){k k':Nm}(hk:M.ok k)(Dh:M.ok k')(B7:k≠k'):M.B k≠M.B k':=fun e=>B7 (g.Ju.inj k k' hk Dh e)
theorem GI.set(g:GI X W p ns s M h){k:Nm}(hk:M.ok k)(o:Obj)(hv:p'.val=p.val)(hu:p'.u=p.u)(hp:p'.CZ=p.CZ)(hn:p'.num=p.num)(h1:∀k',k'≠k->K1 p ns s (M.set k o) k'->K1 p' aD s' (M.set k o) k')(h2:K1 p' aD s' (M.set k o) k)
  (h3:∀b,b∈aD->X.FC b) (h4:∀e,e∈p'.log->e.b∈aD):GI X W p' aD s' (M.set k o) (h.setIfInBounds (M.B k) o):=by
 refine⟨g.Ju.set hk o,fun k'=>?_,g.wide,fun b hb=>?_,fun k' Dh=>?_,fun b hb=>?_,h3,h4,fun i hi q hq=>?_,?_⟩
 ·by_cases e:k'=k
  ·rw [e];exact h2
  ·exact h1 k' e ((g.all k').set e)
 ·rw [AX _ (fun e:M.B k=b=>(g.apart k hk).1 (by rw [e];exact hb)),hv]
  exact g.Fu b hb
 ·rw [hu];exact g.apart k' Dh
 ·rw [hu]at hb;rw [JY];exact g.Hg b hb
 ·rw [hn]at hi;rw [hp]at hq
  obtain⟨x1,x2,x3,x4,x5⟩:=g.CZ i hi q hq
  exact⟨by rw [AX _ (x3 k hk)];exact x1,x2,x3,x4,by rw [hu];exact x5⟩
 ·rw [hn,hp];exact g.Ir
theorem GI.A5(g:GI X W p ns s M h)(u:AN (fun _=>False) h h'):GI X W p ns s M h':=
 ⟨g.Ju.A5 u,g.all,g.wide,fun b hb=>⟨u.get (g.Fu b hb).1 (fun x=>x),(g.Fu b hb).2⟩,g.apart,fun b hb=>⟨F0 (g.Hg b hb).1 u.size,(g.Hg b hb).2⟩,g.num,g.JG,
  fun i hi q hq=>by obtain⟨x1,x2⟩:=g.CZ i hi q hq;exact⟨u.get x1 (fun x=>x),x2⟩,g.Ir⟩
theorem GI.user(g:GI X W p ns s M h){i:Nat}(hi:i<p.num){u':X.U}{L':List (Nat×Obj)}(u:AN (fun b=>X.HE p.u b\/∃q,q∈p.CZ i/\q.1=b) h h')(h1:∀b,X.HE u' b->(X.HE p.u b\/(h.size<=b/\W b))/\b<h'.size)
  (h2:∀q,q∈L'->h'[q.1]?=some q.2/\((∃q0,q0∈p.CZ i/\q0.1=q.1)\/(h.size<=q.1/\W q.1))/\¬X.HE u' q.1) (hd:X.Ok):GI X W {p with u:=u',CZ:=ut p.CZ i L'} ns s M h':=by
 have nK:∀k,M.ok k->¬(X.HE p.u (M.B k)\/∃q,q∈p.CZ i/\q.1=M.B k):=fun k hk x=>x.elim (g.apart k hk).2 fun⟨q,hq,e⟩=>(g.CZ i hi q hq).2.2.1 k hk e.symm
 have nC:∀b,X.FC b->¬(X.HE p.u b\/∃q,q∈p.CZ i/\q.1=b):=fun b hb x=>x.elim (fun y=>hd.Td _ _ y hb) fun⟨q,hq,e⟩=>(g.CZ i hi q hq).2.2.2.1 (e▸hb)
 have nD:∀b,b<h.size->¬X.HE p.u b->¬X.HE u' b:=fun b hb hn x=>by
  rcases (h1 b x).1 with y|y
  ·exact hn y
  ·omega
 refine⟨g.Ju.upd u nK,g.all,g.wide,fun b hb=>⟨u.get (g.Fu b hb).1 (nC b hb),(g.Fu b hb).2⟩,fun k hk=>⟨(g.apart k hk).1,nD _ (g.lt hk) (g.apart k hk).2⟩,fun b hb=>⟨(h1 b hb).2,?_⟩,g.num,g.JG,fun j hj q hq=>?_,fun j j' hj Dm B7 q q' hq Eh=>?_⟩
 ·rcases (h1 _ hb).1 with y|y
  ·exact(g.Hg b y).2
  ·exact y.2
 ·change q∈ut p.CZ i L' j at hq
  by_cases e:j=i
  ·subst e
   rw [AL]at hq
   obtain⟨x1,x2,x3⟩:=h2 q hq
   have Cg:(∃q0,q0∈p.CZ j/\q0.1=q.1)\/h.size<=q.1:=x2.imp id (·.1)
   rcases x2 with⟨q0,Vu,e0⟩|⟨x2,x2'⟩
   ·obtain⟨y1,y2,y3,y4,y5⟩:=g.CZ j hj q0 Vu
    rw [e0]at y2 y3 y4
    exact⟨x1,y2,y3,y4,x3⟩
   ·exact⟨x1,x2',fun k hk e=>by have:=g.lt hk;omega,fun hc=>by have:=Ap (g.Fu _ hc).1;omega,x3⟩
  ·rw [Ai _ _ e]at hq
   obtain⟨y1,y2,y3,y4,y5⟩:=g.CZ j hj q hq
   exact⟨u.get y1 (fun x=>x.elim y5 fun⟨q0,Vu,e0⟩=>g.Ir i j hi hj (Ne.symm e) q0 q Vu hq e0),y2,y3,y4,nD _ (Ap y1) y5⟩
 ·have key:∀(j':Nat) (q q':Nat×Obj),j'<p.num->i≠j'->q∈L'->q'∈p.CZ j'->q.1≠q'.1:=fun j' q q' Dm B7 hq Eh e=>by
   have Cg:=Ap (g.CZ j' Dm q' Eh).1
   rcases (h2 q hq).2.1 with⟨q0,Vu,e0⟩|⟨x2,_⟩
   ·exact g.Ir i j' hi Dm B7 q0 q' Vu Eh (e0.trans e)
   ·omega
  change q∈ut p.CZ i L' j at hq
  change q'∈ut p.CZ i L' j' at Eh
  by_cases e:j=i <;> by_cases e':j'=i
  ·omega
  ·subst e
   rw [AL]at hq;rw [Ai _ _ e']at Eh
   exact key j' q q' Dm B7 hq Eh
  ·subst e'
   rw [AL]at Eh;rw [Ai _ _ e]at hq
   exact fun e=>key j q' q hj (Ne.symm B7) Eh hq e.symm
  ·rw [Ai _ _ e]at hq;rw [Ai _ _ e']at Eh
   exact g.Ir j j' hj Dm B7 q q' hq Eh
theorem GI.cell(g:GI X W p ns s M h){b:Nat}(hb:X.FC b)(x:Int):GI X W {p with val:=ut p.val b x} ns s M (h.setIfInBounds b (Ay x)):=by
 refine⟨g.Ju.upd (AN.set (T:=fun y=>y=b) h b (Ay x) rfl) (fun k hk e=>(g.apart k hk).1 (e▸hb)),g.all,g.wide,fun c hc=>?_,g.apart,fun c hc=>?_,g.num,g.JG,fun i hi q hq=>?_,g.Ir⟩
 ·by_cases e:c=b
  ·subst e
   refine⟨?_,(g.Fu _ hc).2⟩
   show _=some (Ay (ut p.val c x c))
   rw [AL]
   exact AJ (g.Fu c hc).1
  ·show _=some (Ay (ut p.val b x c))/\_
   rw [Ai _ _ e,AX _ (Ne.symm e)]
   exact g.Fu c hc
 ·rw [JY];exact g.Hg c hc
 ·obtain⟨y1,y2,y3,y4,y5⟩:=g.CZ i hi q hq
  exact⟨by rw [AX _ (fun e:b=q.1=>y4 (by rw [<-e];exact hb))];exact y1,y2,y3,y4,y5⟩
theorem GI.Pw(g:GI X W p ns s M h){W':Nat->Prop}(hw:∀b,W b->W' b):GI X W' p ns s M h:=
 ⟨g.Ju,g.all,fun k hk=>hw _ (g.wide k hk),fun b hb=>⟨(g.Fu b hb).1,hw _ (g.Fu b hb).2⟩,g.apart,fun b hb=>⟨(g.Hg b hb).1,hw _ (g.Hg b hb).2⟩,g.num,g.JG,fun i hi q hq=>⟨(g.CZ i hi q hq).1,hw _ (g.CZ i hi q hq).2.1,(g.CZ i hi q hq).2.2⟩,g.Ir⟩
theorem GI.GH(g:GI X W p ns s M h):h[p.R]?=some (DC s p.mb p.stops):=by
 obtain⟨x1,x2,x3⟩:=g.all .run
 rw [<-x2,<-x3];exact g.Ju.has _ x1
theorem GI.JV(g:GI X W p ns s M h){i:Nat}(hi:i<p.num):∃v a,Lf i (p.st i) v a/\h[p.tb i]?=some (FG p.R i (p.wk i) (p.sd i) v a (p.gone i)):=by
 obtain⟨x1,x2,v,a,x3,x4⟩:=g.all (.t i) hi
 exact⟨v,a,x3,by rw [<-x2,<-x4];exact g.Ju.has _ x1⟩
theorem GI.pd(g:GI X W p ns s M h){i:Nat}(hi:i<p.num):∃k,h[p.wk i]?=some (.chan 0 #[] false k k false):=by
 obtain⟨x1,x2,k,x3⟩:=g.all (.wk i) hi
 exact⟨k,by rw [<-x2,<-x3];exact g.Ju.has _ x1⟩
theorem GI.yJ(g:GI X W p ns s M h){i:Nat}(hi:i<p.num):∃k,h[p.sd i]?=some (.chan 0 #[] false k k false):=by
 obtain⟨x1,x2,k,x3⟩:=g.all (.sd i) hi
 exact⟨k,by rw [<-x2,<-x3];exact g.Ju.has _ x1⟩
theorem GI.Qw(g:GI X W p ns s M h){i:Nat}(hi:i<p.num):h[p.bx i]?=some (.cells #[ptr (p.tb i)] 48 (0,0)):=by
 obtain⟨x1,x2,x3⟩:=g.all (.bx i) hi
 rw [<-x2,<-x3];exact g.Ju.has _ x1
theorem GI.zc(g:GI X W p ns s M h){i:Nat}(hi:i<p.num):h[p.bf i]?=some (.cells #[p.fn i] 49 (0,0)):=by
 obtain⟨x1,x2,x3⟩:=g.all (.bf i) hi
 rw [<-x2,<-x3];exact g.Ju.has _ x1
theorem GI.ql(g:GI X W p ns s M h){i:Nat}(hi:i<p.num):h[p.br i]?=some (.cells #[ptr p.R] 106 (0,0)):=by
 obtain⟨x1,x2,x3⟩:=g.all (.br i) hi
 rw [<-x2,<-x3];exact g.Ju.has _ x1
theorem GI.chan(g:GI X W p ns s M h){i:Nat}(hi:i<p.num){c:Nat}(hc:c=p.wk i\/c=p.sd i){k:Nat}:∃M',GI X W p ns s M' (h.setIfInBounds c (.chan 0 #[] false k k false)):=by
 rcases hc with rfl|rfl
 ·obtain⟨x1,x2,x3⟩:=g.all (.wk i) hi
  rw [<-x2]
  exact⟨_,g.set x1 _ rfl rfl rfl rfl (fun _ _ x=>x) (fun _=>⟨x1,x2,k,AL _ _ _⟩) g.num g.JG⟩
 ·obtain⟨x1,x2,x3⟩:=g.all (.sd i) hi
  rw [<-x2]
  exact⟨_,g.set x1 _ rfl rfl rfl rfl (fun _ _ x=>x) (fun _=>⟨x1,x2,k,AL _ _ _⟩) g.num g.JG⟩
end
end
end Go.Proofs.YtfkalocplonkiaaGreat
