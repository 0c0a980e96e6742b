/-
  A part of the proof that the statement TopMigratesUptoCardSaid holds (La Lb Lc Sr Ss Sv Sn So Sx Sy Sz Sw Si Sj Sl Sm Sk 0a 0b 0c 0d 0e 0f 0g).
  Conditions: none.
-/
import Derived.Test.YthjnkknigpkldaaGreatDoorPb
import Derived.Test.YthjnkknigpkldaaGreatDoorPg
set_option linter.all false
set_option maxRecDepth 100000
set_option maxHeartbeats 4000000
namespace Go.Proofs.YthjnkknigpkldaaGreatDoor
variable {i n:Nat}
section
open Go.ChangeShapes
theorem A5{ρ:Type}{p:Prop}[Decidable p]{k:AA ρ}(h:p):Ba p k=k:=if_pos h
@[simp] theorem DW {ρ:Type} [Decidable True] {k:AA ρ}:Ba True k=k:=if_pos Yt
@[simp] theorem AY {α ρ:Type} (a:α) (k:α->AA ρ):Az (some a) k=k a:=rfl
@[simp] theorem CM {κ ρ:Type} (j:κ) (f:κ->AA ρ):jn j f=f j:=rfl
@[simp] theorem FP {α:Type} [Inhabited α] (x:AA α):CG true x=x:=rfl
@[simp] theorem VC {α:Type} [Inhabited α] (x:AA α):CG false x=some default:=rfl
theorem BB(h:i<9223372036854775807):AB ((i:Int)+1)=((i+1:Nat):Int):=by
 rw[Vg ox ox];omega
theorem A0{α:Type}[Inhabited α]{l:List α}(h:i<l.length):AN l (i:Int)=l[i]:=by
 simp[AN,DD,h]
theorem AMo{α ρ:Type}{l:List α}(hl:l.length<9223372036854775808){L:Nat->Int->AA ρ}{J E:AA ρ}{q:α->Bool}(h1:∀n(i:Nat)(h:i<l.length),L (n+1) (i:Int)=cond (q l[i]) E (L n (AB ((i:Int)+1))))(h0:∀n,L (n+1) (l.length:Int)=J):∀n i,i<=l.length->l.length-i<n->L n (i:Int)=cond ((l.drop i).any q) E J:=by
 intro n
 induction n with
 |zero=>intro i _ h;omega|succ n y=>
  intro i hi z;rcases A7 i l.length with h|h
  ·rw[h1 n i h,BB ox,y (i+1) ox ox,A4 h,QL];cases q l[i]<;>rfl
  ·have:i=l.length:=ox
   subst this;rw[h0];simp
theorem UL{α ρ:Type}{l:List α}(hl:l.length<9223372036854775808){L:Nat->Int->AA ρ}{J E:AA ρ}{q:α->Bool}(y:l.length<n)(h1:∀n(i:Nat)(h:i<l.length),L (n+1) (i:Int)=cond (q l[i]) E (L n (AB ((i:Int)+1))))(h0:∀n,L (n+1) (l.length:Int)=J):L n 0=cond (l.any q) E J:=by
 have:=AMo hl h1 h0 n 0 ox ox;simpa using this
theorem Me{ρ:Type}{len:Nat}(hl:len<9223372036854775808){L:Nat->Int->AA ρ}{J E:AA ρ}{q:Nat->Bool}(y:len<n)(h1:∀n(i:Nat)(h:i<len),L (n+1) (i:Int)=cond (q i) E (L n (AB ((i:Int)+1))))(h0:∀n,L (n+1) (len:Int)=J):L n 0=cond ((List.range len).any q) E J:=by
 refine UL (l:=List.range len) (by simpa using hl) (by simpa using y) ?_ (by simpa using h0);intro n i h;have z:i<len:=by simpa using h
 rw[AHk];exact h1 n i z
theorem AIK{σ ρ:Type}{len:Nat}(hl:len<9223372036854775808){L:Nat->σ->Int->AA ρ}{J:σ->AA ρ}{S:Nat->σ}(h1:∀n(i:Nat),i<len->L (n+1) (S i) (i:Int)=L n (S (i+1)) (AB ((i:Int)+1)))(h0:∀n,L (n+1) (S len) (len:Int)=J (S len)):∀n i,i<=len->len-i<n->L n (S i) (i:Int)=J (S len):=by
 intro n
 induction n with
 |zero=>intro i _ h;omega|succ n y=>
  intro i hi z;rcases A7 i len with h|h
  ·rw[h1 n i h,BB ox,y (i+1) ox ox]
  ·have:i=len:=ox
   subst this;exact h0 n
end
theorem E1:∀a:List UInt8,Dy a a=false
 |[]=>rfl|x::a=>by
  have y:=E1 a;simp only[Dy]at y⊢;simp[Op.bytesLess,y]
theorem UB(x y:UInt8)(a b:List UInt8):Dy (x::a) (y::b)=(decide (x.toNat<y.toNat)||(decide (x.toNat=y.toNat)&&Dy a b)):=by
 simp only[Dy,Op.bytesLess];rw[show decide (x<y)=decide (x.toNat<y.toNat)from by simp[UInt8.lt_iff_toNat_lt]];rw[show(x==y)=decide (x.toNat=y.toNat)from by
  rw[ET];simp[UInt8.toNat_inj]]
theorem U4(a:List UInt8):Dy a []=false:=by cases a<;>rfl
theorem Gz:∀{a b c:List UInt8},Dy a b=true->Dy b c=true->Dy a c=true
 |a,b,[],_,h=>by rw[U4]at h;simp at h
 |a,[],c,h,_=>by rw[U4]at h;simp at h
 |[],_::_,_::_,_,_=>rfl|x::a,y::b,z::c,h1,h2=>by
  rw[UB]at h1 h2⊢;simp only[ES,Aq,AZ]at h1 h2⊢;rcases h1 with h1|⟨h1,H⟩<;>rcases h2 with h2|⟨h2,K⟩
  ·left;omega
  ·left;omega
  ·left;omega
  ·right;exact⟨by omega,Gz H K⟩
theorem Qg:∀{a b:List UInt8},Dy a b=false->Dy b a=false->a=b
 |[],[],_,_=>rfl|[],_::_,h,_=>by simp[Dy,Op.bytesLess]at h
 |_::_,[],_,h=>by simp[Dy,Op.bytesLess]at h
 |x::a,y::b,h1,h2=>by
  rw[UB]at h1 h2;simp only[BQ,EE,Ai]at h1 h2;have z:x.toNat=y.toNat:=ox
  have H:Dy a b=false:=by rcases h1.2 with h|h;exact absurd z h;exact h
  have K:Dy b a=false:=by rcases h2.2 with h|h;exact absurd z.symm h;exact h
  rw[UInt8.toNat_inj.1 z,Qg H K]
theorem any_congr{α:Type}{l:List α}{p q:α->Bool}(h:∀x∈l,p x=q x):l.any p=l.any q:=by
 rw[ET,Gg,Gg];exact⟨λ⟨x,y,e⟩=>⟨x,y,by rw[<- h x y];exact e⟩,λ⟨x,y,e⟩=>⟨x,y,by rw[h x y];exact e⟩⟩
theorem AOM{α:Type}{l:List α}(hl:l.length<9223372036854775808){L:Nat->Int->AA Int}{q:α->Bool}(h1:∀n(i:Nat)(h:i<l.length),L (n+1) (i:Int)=cond (q l[i]) (some (i:Int)) (L n (AB ((i:Int)+1))))(h0:∀n,L (n+1) (l.length:Int)=some (-1)):∀n i,i<=l.length->l.length-i<n->∃k,L n (i:Int)=some k/\decide (0<=k)=(l.drop i).any q:=by
 intro n
 induction n with
 |zero=>intro i _ h;omega|succ n y=>
  intro i hi H;rcases A7 i l.length with h|h
  ·rw[h1 n i h,BB ox,A4 h,QL];cases K:q l[i]with
   |true=>exact⟨i,Y,by simp⟩
   |false=>
    have⟨k,e,z⟩:=y (i+1) ox ox;exact⟨k,e,by rw[z];rfl⟩
  ·have:i=l.length:=ox
   subst this;exact⟨-1,h0 n,by simp⟩
def ADD{α σ ρ:Type}(step:σ->α->AA ρ ⊕ σ)(J:σ->AA ρ):List α->σ->AA ρ
 |[],s=>J s|x::l,s=>match step s x with
  |.inl e=>e|.inr y=>ADD step J l y
theorem AON{α σ ρ:Type}{l:List α}(hl:l.length<9223372036854775808){L:Nat->σ->Int->AA ρ}{J:σ->AA ρ}{step:σ->α->AA ρ ⊕ σ}(Inv:Nat->σ->Prop)(h1:∀n(i:Nat)s(h:i<l.length),Inv i s->L (n+1) s (i:Int)=match step s l[i]with|.inl e=>e|.inr y=>L n y (AB ((i:Int)+1)))(hI:∀(i:Nat)s y(h:i<l.length),Inv i s->step s l[i]=.inr y->Inv (i+1) y)(h0:∀n s,Inv l.length s->L (n+1) s (l.length:Int)=J s):∀n(i:Nat)s,i<=l.length->l.length-i<n->Inv i s->L n s (i:Int)=ADD step J (l.drop i) s:=by
 intro n
 induction n with
 |zero=>intro i s _ h;omega|succ n H=>
  intro i s hi K z;rcases A7 i l.length with h|h
  ·rw[h1 n i s h z,BB ox,A4 h,ADD];cases e:step s l[i]with
   |inl x=>rfl|inr y=>exact H (i+1) y ox ox (hI i s y h z e)
  ·have:i=l.length:=ox
   subst this;rw[h0 n s z];simp[ADD]
theorem AMn{α σ ρ:Type}{l:List α}(hl:l.length<9223372036854775808){L:Nat->σ->Int->AA ρ}{J:σ->AA ρ}{step:σ->α->AA ρ ⊕ σ}(Inv:Nat->σ->Prop)(h1:∀n(i:Nat)s(h:i<l.length),Inv i s->L (n+1) s (i:Int)=match step s l[i]with|.inl e=>e|.inr y=>L n y (AB ((i:Int)+1)))(hI:∀(i:Nat)s y(h:i<l.length),Inv i s->step s l[i]=.inr y->Inv (i+1) y)(h0:∀n s,Inv l.length s->L (n+1) s (l.length:Int)=J s)(H:l.length<n){s:σ}(z:Inv 0 s):L n s 0=ADD step J l s:=by
 have:=AON hl Inv h1 hI h0 n 0 s ox ox z;simpa using this
theorem XM{α σ ρ:Type}{l:List α}(hl:l.length<9223372036854775808){L:Nat->σ->Int->AA ρ}{J:σ->AA ρ}{f:σ->α->σ}(Inv:Nat->σ->Prop)(h1:∀n(i:Nat)s(h:i<l.length),Inv i s->L (n+1) s (i:Int)=L n (f s l[i]) (AB ((i:Int)+1)))(hI:∀(i:Nat)s(h:i<l.length),Inv i s->Inv (i+1) (f s l[i]))(h0:∀n s,Inv l.length s->L (n+1) s (l.length:Int)=J s)(z:l.length<n){s:σ}(y:Inv 0 s):L n s 0=J (l.foldl f s):=by
 have:=AMn hl (L:=L) (J:=J) (step:=λs x=>.inr (f s x)) Inv (λn i s h y=>h1 n i s h y) (λi s K h y e=>by cases e;exact hI i s h y) h0 z y;rw[this];clear this y z h0 hI h1 hl
 induction l generalizing s with
 |nil=>rfl|cons x l H=>rw[ADD,Lq];exact H
theorem S0{α ρ:Type}{l:List α}(hl:l.length<9223372036854775808){L:Nat->List α->Int->AA ρ}{J:List α->AA ρ}{p:α->Bool}(h1:∀n(i:Nat)acc(h:i<l.length),acc.length<=i->L (n+1) acc (i:Int)=cond (p l[i]) (L n (acc++[l[i]]) (AB ((i:Int)+1))) (L n acc (AB ((i:Int)+1))))(h0:∀n acc,acc.length<=l.length->L (n+1) acc (l.length:Int)=J acc)(z:l.length<n):L n [] 0=J (l.filter p):=by
 have:=XM hl (L:=L) (J:=J) (f:=λacc x=>cond (p x) (acc++[x]) acc) (λi acc=>acc.length<=i)
  (λn i s h y=>by rw[h1 n i s h y];cases p l[i]<;>rfl)
  (λi s h y=>by cases p l[i]<;>simp<;>omega) h0 z (s:=[]) zp
 rw[this]
 congr 1
 have:∀(l acc:List α),l.foldl (λacc x=>cond (p x) (acc++[x]) acc) acc=acc++l.filter p:=by
  intro l
  induction l with
  |nil=>intro acc;simp|cons x l H=>intro acc;rw[Lq,H];cases h:p x<;>simp[h]
 rw[this];simp
theorem AIL{α β ρ:Type}{l:List α}(hl:l.length<9223372036854775808){L:Nat->List β->Int->AA ρ}{J:List β->AA ρ}{g:α->β}(h1:∀n(i:Nat)acc(h:i<l.length),acc.length<=i->L (n+1) acc (i:Int)=L n (acc++[g l[i]]) (AB ((i:Int)+1)))(h0:∀n acc,acc.length<=l.length->L (n+1) acc (l.length:Int)=J acc)(z:l.length<n):L n [] 0=J (l.map g):=by
 have:=XM hl (L:=L) (J:=J) (f:=λacc x=>acc++[g x]) (λi acc=>acc.length<=i)
  (λn i s h y=>h1 n i s h y) (λi s h y=>by simp;omega) h0 z (s:=[]) zp
 rw[this]
 congr 1
 have:∀(l:List α)acc,l.foldl (λacc x=>acc++[g x]) acc=acc++l.map g:=by
  intro l
  induction l with
  |nil=>intro acc;simp|cons x l H=>intro acc;rw[Lq,H];simp
 rw[this];simp
def eqL{α:Type}(f:α->α->Bool):List α->List α->Bool
 |[],[]=>true|a::l,b::m=>f a b&&eqL f l m|_,_=>false
theorem Xd{α:Type}{f:α->α->Bool}(h:∀a b,f a b=true↔a=b):∀{a b:List α},eqL f a b=true↔a=b
 |[],[]=>by simp[eqL]
 |[],_::_=>by simp[eqL]
 |_::_,[]=>by simp[eqL]
 |x::a,y::b=>by simp[eqL,h,Xd h (a:=a) (b:=b)]
theorem AIU{α:Type}{f:α->α->Bool}:∀{a b:List α},eqL f a b=true->a.length=b.length
 |[],[],_=>rfl|[],_::_,h=>by simp[eqL]at h
 |_::_,[],h=>by simp[eqL]at h
 |x::a,y::b,h=>by simp[eqL]at h;simp[AIU h.2]
theorem ADG{α:Type}[Inhabited α]{f:α->α->Bool}:∀{a b:List α},a.length=b.length->(!(List.range a.length).any λi=> !f (AN a (i:Int)) (AN b (i:Int)))=eqL f a b
 |[],[],_=>rfl|[],_::_,h=>by simp at h
 |_::_,[],h=>by simp at h
 |x::a,y::b,h=>by
  have hl:a.length=b.length:=by simpa using h
  rw[eqL,<- ADG hl,Bz,ABm,QL,List.any_map];have e:∀i:Nat,(!f (AN (x::a) ((i+1:Nat):Int)) (AN (y::b) ((i+1:Nat):Int)))=(!f (AN a (i:Int)) (AN b (i:Int))):=λi=>by
   simp[AN]
  have z:f (AN (x::a) ((0:Nat):Int)) (AN (y::b) ((0:Nat):Int))=f x y:=by simp[AN]
  rw[z,show((λi:Nat=> !f (AN (x::a) (i:Int)) (AN (y::b) (i:Int)))∘Nat.succ)=λi:Nat=> !f (AN a (i:Int)) (AN b (i:Int))from funext e];cases f x y<;>simp
theorem AG5{α:Type}[Inhabited α]{a b:List α}{f:α->α->Bool}(hl:a.length<9223372036854775808)(H:b.length<9223372036854775808){L:Nat->Int->AA Bool}(y:a.length<n)(h1:a.length=b.length->∀n(i:Nat)(h:i<a.length),i<b.length->L (n+1) (i:Int)=cond (f (AN a (i:Int)) (AN b (i:Int))) (L n (AB ((i:Int)+1))) (some false))(h0:∀n,L (n+1) (a.length:Int)=some true):cond (((a.length:Nat):Int) !=((b.length:Nat):Int)) (some false) (L n 0)=some (eqL f a b):=by
 by_cases h:a.length=b.length
 ·rw[show(((a.length:Nat):Int) !=((b.length:Nat):Int))=false by simp[h],AP,<- ADG h];refine(Me (len:=a.length) hl (L:=L) (q:=λi=> !f (AN a (i:Int)) (AN b (i:Int))) (E:=some false) (J:=some true) y ?_ h0).trans ?_
  ·intro n i hi;rw[h1 h n i hi ox];cases f (AN a (i:Int)) (AN b (i:Int))<;>rfl
  ·cases((List.range a.length).any λi=> !f (AN a (i:Int)) (AN b (i:Int)))<;>rfl
 ·have e:eqL f a b=false:=by
   rw[Bool.eq_false_iff];intro z;exact h (AIU z)
  rw[e,show(((a.length:Nat):Int) !=((b.length:Nat):Int))=true by simp;omega];rfl
theorem AD1{α:Type}{l:List α}(hl:l.length<9223372036854775808){L:Nat->Int->AA Int}{q:α->Bool}(h1:∀n(i:Nat)(h:i<l.length),L (n+1) (i:Int)=cond (q l[i]) (some (i:Int)) (L n (AB ((i:Int)+1))))(h0:∀n,L (n+1) (l.length:Int)=some (-1))(z:l.length<n):(Az (L n 0) λx=>some (decide ((0:Int)<=x)))=some (l.any q):=by
 have⟨k,e,y⟩:=AOM hl h1 h0 n 0 ox ox;rw[show(0:Int)=((0:Nat):Int)from rfl,e,AY];rw[show((0:Nat):Int)=(0:Int)from rfl,y];simp
variable {s:A9} {id:Int} {p:AI}
section
open Go.ChangeShapes
abbrev JJ:Nat:=9223372036854775808
def Gm(s:A9):Bool:=decide (s.length<=24)&& !((List.range s.length).any λi=>decide (B0 s i<33)||decide (126<B0 s i))
theorem WZ(y:s.length<JJ):Gt s=some (Gm s):=by
 unfold Gt;simp only[CM];refine(Me (len:=s.length) (L:=λn i=>GR s (some (decide ((s.length:Int)<=(24:Int)))) n i) (q:=λi=>decide (B0 s i<33)||decide (126<B0 s i)) (E:=some false) (J:=some (decide ((s.length:Int)<=(24:Int)))) y ox ?_ ?_).trans ?_
 ·intro n i hi
  try dsimp only
  rw[GR];simp only[show(i:Int)<(s.length:Int) by omega,Ay,cond_true,show 0<=(i:Int) by omega,true_and,HF,DW,Int.toNat_natCast]
 ·intro n
  try dsimp only
  rw[GR];simp
 ·have z:((s.length:Int)<=24)=(s.length<=24):=by apply propext;omega
  simp only[z,Gm];cases((List.range s.length).any λi=>decide (B0 s i<33)||decide (126<B0 s i))<;>simp
def II{α:Type}(q:α->Bool):List α->Nat->Int
 |[],_=> -1|x::l,i=>if q x=true then(i:Int)else II q l (i+1)
theorem AC5{α:Type}{l:List α}(hl:l.length<9223372036854775808){L:Nat->Int->AA Int}{q:α->Bool}(h1:∀n(i:Nat)(h:i<l.length),L (n+1) (i:Int)=cond (q l[i]) (some (i:Int)) (L n (AB ((i:Int)+1))))(h0:∀n,L (n+1) (l.length:Int)=some (-1)):∀n i,i<=l.length->l.length-i<n->L n (i:Int)=some (II q (l.drop i) i):=by
 intro n
 induction n with
 |zero=>intro i _ h;omega|succ n y=>
  intro i hi z;rcases A7 i l.length with h|h
  ·rw[h1 n i h,BB ox,y (i+1) ox ox,A4 h,II];cases q l[i]<;>simp
  ·have:i=l.length:=ox
   subst this;rw[h0];simp[II]
def Cv(l:List Bc)(id:Int):Int:=II (λx=>x.Id==id) l 0
theorem QZ{l:List Bc}(hl:l.length<JJ):Ex l id=some (Cv l id):=by
 unfold Ex Da;simp only[CM];rw[show CJ l (λy=>GD y id) (some (-1)) ((l.length:Int).toNat+1) 0=some (Cv l id)from ?_]
 ·rfl
 refine AC5 (l:=l) hl (L:=λn i=>CJ l (λy=>GD y id) (some (-1)) n i) (q:=λx=>x.Id==id) ?_ ?_ _ 0 ox ox
 ·intro n i hi
  try dsimp only
  rw[CJ];simp only[show(i:Int)<(l.length:Int) by omega,Ay,cond_true,show 0<=(i:Int) by omega,true_and,DW,A0 hi,GD,AY]
 ·intro n
  try dsimp only
  rw[CJ];simp
def Rs(x:Bc)(next:A9)(last:Bool):Bool:=cond (x.C0==0) (x.Gh==([]:A9)) ((((((decide (1<=x.C0))&&(decide (x.C0<=16)))&&(x.C0 !=x.Ab))&&Gm x.Gh)&&(!Dy x.Gh x.BU))&&(last||(Dy x.Gh next)))
theorem AG0{l:List Bc}(hi:i<l.length)(hl:l.length<JJ)(y:(AN l (i:Int)).Gh.length<JJ):HM l (i:Int)=some (Rs (AN l (i:Int)) (cond (decide (i+1<l.length)) (AN l ((i+1:Nat):Int)).BU []) (decide (i+1=l.length))):=by
 unfold HM;rw[WZ y,BB (by have:l.length<9223372036854775808:=hl;omega)];simp only[show(i:Int)<(l.length:Int) by omega,show 0<=(i:Int) by omega,CA,DW,Rs,Ip,AY];cases(AN l (i:Int)).C0==0 with
 |true=>rfl|false=>
  by_cases h:i+1=l.length
  ·have e:(((i+1:Nat):Int)==(l.length:Int))=true:=by rw[B1];omega
   simp only[e,h,Ay,AP];cases(decide (1<=(AN l (i:Int)).C0)&&decide ((AN l (i:Int)).C0<=16)&&((AN l (i:Int)).C0 !=(AN l (i:Int)).Ab))<;>simp[Ba]
  ·have e:(((i+1:Nat):Int)==(l.length:Int))=false:=by rw[Bh];omega
   simp only[e,h,Dp,AP,show i+1<l.length by omega,Ay,cond_true,show 0<=((i+1:Nat):Int) by omega,show((i+1:Nat):Int)<(l.length:Int) by omega,CA,HF,DW];cases(decide (1<=(AN l (i:Int)).C0)&&decide ((AN l (i:Int)).C0<=16)&&((AN l (i:Int)).C0 !=(AN l (i:Int)).Ab))with
   |false=>simp|true=>
    cases Gm (AN l (i:Int)).Gh with
    |false=>simp|true=>
     cases Dy (AN l (i:Int)).Gh (AN l (i:Int)).BU<;>simp
end
section
open Go.ChangeShapes
theorem OH{α:Type}(q:α->Bool):∀(l:List α)(i:Nat),decide (0<=II q l i)=l.any q
 |[],i=>by simp[II]
 |x::l,i=>by
  have y:=OH q l (i+1);by_cases h:q x=true
  ·simp[II,h]
  ·simp only[FB]at h;rw[QL,h,Ck,<- y];simp[II,h]
theorem LK{α:Type}[Inhabited α]{l:List α}(h:i<l.length):AN l (i:Int)∈l:=by
 rw[A0 h];exact AW h
def En(l:List Bc)(i:Nat):A9:=cond (decide (i+1<l.length)) (AN l ((i+1:Nat):Int)).BU []
def RW(l:List Bc)(i:Nat):Bool:=
 ((((((!Gm (AN l (i:Int)).BU)||(decide (0<i)&& !Dy (AN l ((i:Int)-1)).BU (AN l (i:Int)).BU))||(decide ((AN l (i:Int)).Id<1)))||(decide (1099511627776<(AN l (i:Int)).Id)))||(decide ((AN l (i:Int)).Ab<1)))||(decide (16<(AN l (i:Int)).Ab))||
  (!Rs (AN l (i:Int)) (En l i) (decide (i+1=l.length))))||(l.take i).any λy=>y.Id==(AN l (i:Int)).Id
def VA(p:AI):Bool:=(((decide (p.Ax<0))||(decide (1099511627776<p.Ax)))||(decide ((p.AG.length:Int)<1)))||(decide (16<(p.AG.length:Int)))
def Md(p:AI):Bool:= !VA p&&((AN p.AG 0).BU==([]:A9))&& !((List.range p.AG.length).any λi=>RW p.AG i)
end
section
open Go.ChangeShapes
theorem Wb(l:List Bc)(i:Nat):RW l i=(((!Gm (AN l (i:Int)).BU)||(decide (0<i)&& !Dy (AN l ((i:Int)-1)).BU (AN l (i:Int)).BU))||((((!(decide (1<=(AN l (i:Int)).Id)&&decide ((AN l (i:Int)).Id<=1099511627776)))||(!(decide (1<=(AN l (i:Int)).Ab)&&decide ((AN l (i:Int)).Ab<=16))))||(!Rs (AN l (i:Int)) (En l i) (decide (i+1=l.length))))||(l.take i).any λy=>y.Id==(AN l (i:Int)).Id)):=by
 have h1:(!(decide (1<=(AN l (i:Int)).Id)&&decide ((AN l (i:Int)).Id<=1099511627776)))=(decide ((AN l (i:Int)).Id<1)||decide (1099511627776<(AN l (i:Int)).Id)):=by grind
 have h2:(!(decide (1<=(AN l (i:Int)).Ab)&&decide ((AN l (i:Int)).Ab<=16)))=(decide ((AN l (i:Int)).Ab<1)||decide (16<(AN l (i:Int)).Ab)):=by grind
 rw[h1,h2];simp only[RW,Bool.or_assoc]
theorem F4(hl:p.AG.length<JJ)(W:∀x∈p.AG,x.BU.length<JJ/\x.Gh.length<JJ):Ct p=some (Md p):=by
 unfold Ct;have X:((((decide (p.Ax<(0:Int)))||(decide ((1099511627776:Int)<p.Ax)))||(decide (((p.AG.length:Nat):Int)<(1:Int))))||(decide ((16:Int)<((p.AG.length:Nat):Int))))=VA p:=Y;rw[X,Md];cases hh:VA p with
 |true=>simp[Ba]|false=>
  have hlen:1<=p.AG.length:=by grind
  simp only[show(0:Int)<(p.AG.length:Int) by omega,D6,CA,HF,DW,DE,cond_true,Ck,GJ,Cw,CM];cases h0:(AN p.AG 0).BU==([]:A9)with
  |false=>rw[show((AN p.AG 0).BU !=([]:A9))=true by simp[bne,h0]];rfl
  |true=>
   rw[show((AN p.AG 0).BU !=([]:A9))=false by simp[bne,h0],AP];refine(Me (len:=p.AG.length) hl (L:=λn i=>GS p (some true) n i) (q:=λi=>RW p.AG i) (E:=some false) (J:=some true) ox ?_ ?_).trans ?_
   ·intro n i hi;have hm:=W _ (LK hi)
    try dsimp only
    rw[GS];have z:AB ((i:Int)-1)=(i:Int)-1:=Vg ox (by have:p.AG.length<9223372036854775808:=hl;omega);have Z:((0:Int)<(i:Int))=(0<i):=by grind
    have hf:∀g:Bool,Ex (cond g ((p.AG.take (i:Int).toNat).drop (0:Int).toNat) ([]:List Bc)) (AN p.AG (i:Int)).Id=some (Cv (cond g (p.AG.take i) []) (AN p.AG (i:Int)).Id):=by
     intro g;rw[QZ (by cases g<;>simp;exact Nat.lt_of_le_of_lt (Nat.min_le_right _ _) hl)];rfl
    have hd:decide (0<=Cv (p.AG.take i) (AN p.AG (i:Int)).Id)=(p.AG.take i).any λy=>y.Id==(AN p.AG (i:Int)).Id:=OH _ _ _;have H:HM p.AG (i:Int)=some (Rs (AN p.AG (i:Int)) (En p.AG i) (decide (i+1=p.AG.length))):=AG0 hi hl hm.2;rw[H,WZ hm.1,Wb];simp only[hf,z,Z,show(i:Int)<(p.AG.length:Int) by omega,Ay,cond_true,show 0<=(i:Int) by omega,show(i:Int)<=(p.AG.length:Int) by omega,D6,CA,HF,true_and,DW,Iy,Ip,AY];rw[<- hd];by_cases K:0<i
    ·simp only[K,Ay,Cw,Bool.and_true,DE,FP,AY,show 0<=(i:Int)-1 by omega,show(i:Int)-1<(p.AG.length:Int) by omega,CA,HF,DW];cases Gm (AN p.AG (i:Int)).BU with
     |false=>rfl|true=>
      simp only[BC,DE,cond_true,Ck];cases Dy (AN p.AG ((i:Int)-1)).BU (AN p.AG (i:Int)).BU with
      |false=>rfl|true=>
       cases(decide (1<=(AN p.AG (i:Int)).Id)&&decide ((AN p.AG (i:Int)).Id<=1099511627776))<;>cases(decide (1<=(AN p.AG (i:Int)).Ab)&&decide ((AN p.AG (i:Int)).Ab<=16))<;>cases Rs (AN p.AG (i:Int)) (En p.AG i) (decide (i+1=p.AG.length))<;>rfl
    ·have N:i=0:=ox
     subst N;have O:Gm (AN p.AG ((0:Nat):Int)).BU=true:=by
      have:(AN p.AG ((0:Nat):Int)).BU=[]:=by grind
      rw[this];rfl
     rw[O];simp only[Nat.lt_irrefl,Dp,NN,Bool.and_false,Bool.or_false,BC,Ck,AP,GK,false_implies,DW];cases(decide (1<=(AN p.AG ((0:Nat):Int)).Id)&&decide ((AN p.AG ((0:Nat):Int)).Id<=1099511627776))<;>cases(decide (1<=(AN p.AG ((0:Nat):Int)).Ab)&&decide ((AN p.AG ((0:Nat):Int)).Ab<=16))<;>cases Rs (AN p.AG ((0:Nat):Int)) (En p.AG 0) (decide (0+1=p.AG.length))<;>rfl
   ·intro n
    try dsimp only
    rw[GS];simp
   ·grind
end
section
open Go.ChangeShapes
theorem S5{α:Type}(q:α->Bool):∀(l:List α)(i:Nat),II q l i= -1\/((i:Int)<=II q l i/\II q l i<((i+l.length:Nat):Int))
 |[],i=>Or.inl Y|x::l,i=>by
  have y:=S5 q l (i+1);by_cases h:q x=true
  ·right;simp[II,h];omega
  ·simp only[II,h,if_false,Bz,GK]at y⊢;rcases y with h|h
   ·grind
   ·right;omega
def YL(p:AI)(id:Int):D8×Int:=
 if Md p=false then(⟨[],[]⟩,1)else if Cv p.AG id<0 then(⟨[],[]⟩,9)else(⟨(AN p.AG (Cv p.AG id)).BU,En p.AG (Cv p.AG id).toNat⟩,0)
theorem AGs(hl:p.AG.length<JJ)(z:∀x∈p.AG,x.BU.length<JJ/\x.Gh.length<JJ):Lv p id=some (YL p id):=by
 unfold Lv;rw[F4 hl z,AY,YL];cases Md p with
 |false=>rfl|true=>
  rw[QZ hl,AY];by_cases h:Cv p.AG id<0
  ·simp[h]
  ·have H:=S5 (λx:Bc=>x.Id==id) p.AG 0;obtain⟨k,y⟩:∃k:Nat,Cv p.AG id=(k:Int):=⟨(Cv p.AG id).toNat,by omega⟩;have K:k<p.AG.length:=by
    rw[show II (λx:Bc=>x.Id==id) p.AG 0=(k:Int)from y]at H;omega
   rw[y];simp only[show¬(k:Int)<0 by omega,Dp,AP,show 0<=(k:Int) by omega,show(k:Int)<(p.AG.length:Int) by omega,CA,DW,BC,CM];rw[BB (by have:p.AG.length<9223372036854775808:=hl;omega)];by_cases h2:k+1<p.AG.length
   ·simp only[En,h2,show((k+1:Nat):Int)<(p.AG.length:Int) by omega,show 0<=((k+1:Nat):Int) by omega,Ay,cond_true,CA,DW,Int.toNat_natCast];simp
   ·simp only[En,h2,show¬((k+1:Nat):Int)<(p.AG.length:Int) by omega,Dp,AP,Int.toNat_natCast];simp
def OF(l:List Bc)(key:A9):Nat->Int
 |0=>0|k+1=>if k=0 then 0 else if Dy key (AN l (k:Int)).BU=false then(k:Int)else OF l key k
def Jv(p:AI)(key:A9):Int:=if Md p=false then -1 else OF p.AG key p.AG.length
theorem U7(h:Md p=true):1<=p.AG.length/\p.AG.length<=16:=by
 simp only[Md,VA,Aq,Cb,BQ,Ai]at h;omega
theorem ADI{k:Nat}(h:k<s.length):B0 s k=((s[k].toNat:Nat):Int):=by simp[B0,h]
theorem AFV{key:A9}{i x:Int}{J6 J14:Int->AA Int}(h1:(AN p.AG i).BU.length<=1000):∀n k,k<=(AN p.AG i).BU.length->k<=key.length->(AN p.AG i).BU.length-k<n->GW key p i J6 J14 n x (k:Int)=cond (!Dy (key.drop k) ((AN p.AG i).BU.drop k)) (J6 i) (J14 x):=by
 intro n
 induction n with
 |zero=>intro k _ _ h;omega|succ n O=>
  intro k Z W hn;rw[GW];rcases A7 k (AN p.AG i).BU.length with y|y
  ·have N:((k:Int)==((AN p.AG i).BU.length:Int))=false:=by rw[Bh];omega
   rcases A7 k key.length with z|z
   ·have X:((k:Int)==(key.length:Int))=false:=by rw[Bh];omega
    rw[A4 y,A4 z,UB];simp only[N,X,show(k:Int)<(key.length:Int) by omega,show(k:Int)<((AN p.AG i).BU.length:Int) by omega,show 0<=(k:Int) by omega,Ay,DE,FJ,CA,HF,DW,Ck,Cw,Int.toNat_natCast,ADI y,ADI z];rw[BB ox,O (k+1) ox ox ox];rcases H0 ((AN p.AG i).BU[k]).toNat (key[k]).toNat with h|h|h
    ·grind
    ·simp[h]
    ·grind
   ·have H:k=key.length:=ox
    subst H;rw[A4 y,Gf];simp[N,Ba,y,Dy,Op.bytesLess]
  ·have K:k=(AN p.AG i).BU.length:=ox
   subst K;rw[Gf,U4];simp[Ba]
end
section
open Go.ChangeShapes
theorem AFW{key:A9}{J6:Int->AA Int}(hl:p.AG.length<JJ)(K:∀x∈p.AG,x.BU.length<=1000):∀n i,i<n->i<p.AG.length->GX p key J6 n 0 (i:Int)=J6 (OF p.AG key (i+1)):=by
 intro n
 induction n with
 |zero=>intro i h;omega|succ n N=>
  intro i O hi;rw[GX];by_cases y:i=0
  ·subst y;simp[OF]
  ·have z:=K _ (LK hi);simp only[show(0:Int)<(i:Int) by omega,Ay,cond_true,CM,show 0<=(i:Int) by omega,show(i:Int)<(p.AG.length:Int) by omega,CA,DW];have e:=AFV (p:=p) (key:=key) (i:=(i:Int)) (x:=0) (J6:=J6) (J14:=λH=>GX p key J6 n H (AB ((i:Int)-1))) z 1099511627776 0 ox ox ox;refine(show _=_ from e).trans ?_;rw[PI,PI];have hw:AB ((i:Int)-1)=((i-1:Nat):Int):=by
    rw[Vg ox (by have:p.AG.length<9223372036854775808:=hl;omega)];omega
   rw[hw,N (i-1) ox ox,show i-1+1=i by omega];simp only[OF,y,if_false];cases Dy key (AN p.AG (i:Int)).BU<;>simp
theorem AG9{key:A9}(hl:p.AG.length<JJ)(y:∀x∈p.AG,x.BU.length<JJ/\x.Gh.length<JJ)(z:∀x∈p.AG,x.BU.length<=1000):Lw p key=some (Jv p key):=by
 unfold Lw;rw[F4 hl y,AY,Jv];cases hv:Md p with
 |false=>rfl|true=>
  have hle:=U7 hv;simp only[BC,AP,CM];have hw:AB ((p.AG.length:Int)-1)=((p.AG.length-1:Nat):Int):=by
   rw[Vg ox ox];omega
  rw[hw,AFW hl z _ (p.AG.length-1) ox ox,show p.AG.length-1+1=p.AG.length by omega];simp
theorem Yc(l:List Bc)(key:A9):∀n,0<=OF l key n/\(OF l key n=0\/OF l key n<(n:Int))
 |0=>by simp[OF]
 |n+1=>by
  have y:=Yc l key n;simp only[OF];split
  ·simp
  ·grind
def Bl(p:AI)(key:A9):Int:=
 if Jv p key<0 then 0 else if(((AN p.AG (Jv p key)).C0 !=0)&&(Dy key (AN p.AG (Jv p key)).Gh))=true then(AN p.AG (Jv p key)).C0 else(AN p.AG (Jv p key)).Ab
theorem Yj{key:A9}(h:¬Jv p key<0):0<=Jv p key/\Jv p key<(p.AG.length:Int):=by
 unfold Jv at h⊢;cases hv:Md p with
 |false=>simp[hv]at h|true=>
  have hle:=U7 hv;have:=Yc p.AG key p.AG.length;simp only[Bool.true_eq_false,if_false];omega
theorem Sv{key:A9}(hl:p.AG.length<JJ)(z:∀x∈p.AG,x.BU.length<JJ/\x.Gh.length<JJ)(H:∀x∈p.AG,x.BU.length<=1000):Fm p key=some (Bl p key):=by
 unfold Fm;rw[AG9 hl z H,AY,Bl];by_cases h:Jv p key<0
 ·simp[h]
 ·have y:=Yj h;simp only[h,Dp,AP,if_false,y.1,y.2,CA,DW];cases(((AN p.AG (Jv p key)).C0 !=0)&&(Dy key (AN p.AG (Jv p key)).Gh))<;>simp
end
section
open Go.ChangeShapes
def OD(l:List Bc):Nat->List Int
 |0=>[]|i+1=>cond ((AN l (i:Int)).C0 !=0) ((OD l i++[(AN l (i:Int)).Ab])++[(AN l (i:Int)).C0]) (OD l i++[(AN l (i:Int)).Ab])
theorem YV(l:List Bc):∀i,(OD l i).length<=2*i
 |0=>by simp[OD]
 |i+1=>by
  have:=YV l i;simp only[OD];cases((AN l (i:Int)).C0 !=0)<;>simp<;>omega
def Sz(p:AI):List Int:=if Md p=true then EN (Fx (OD p.AG p.AG.length))else[]
theorem Qj(hl:p.AG.length<JJ)(z:∀x∈p.AG,x.BU.length<JJ/\x.Gh.length<JJ):FD p=some (Sz p):=by
 unfold FD;rw[F4 hl z,AY,Sz];cases hv:Md p with
 |false=>rfl|true=>
  have hle:=U7 hv;simp only[BC,AP,CM];refine(AIK (len:=p.AG.length) hl (L:=λn s i=>GU p (λy=>Ba (y.length<4611686018427387904) (some (EN (Fx y)))) n s i) (S:=λi=>OD p.AG i) (J:=λy=>Ba (y.length<4611686018427387904) (some (EN (Fx y)))) ?_ ?_ ((p.AG.length:Int).toNat+1) 0 ox ox).trans ?_
  ·intro n i hi;have h1:=YV p.AG i
   try dsimp only
   rw[GU];simp only[show(i:Int)<(p.AG.length:Int) by omega,Ay,cond_true,show 0<=(i:Int) by omega,true_and,DW,CM,AT,Bz,HI,show((OD p.AG i).length+(0+1))*8<=140737488355328 by omega,show((OD p.AG i).length+(0+1)+(0+1))*8<=140737488355328 by omega,OD];cases((AN p.AG (i:Int)).C0 !=0)<;>rfl
  ·intro n
   try dsimp only
   rw[GU];simp
  ·have h1:=YV p.AG p.AG.length;rw[A5 ox];rfl
def AHB(l:List Bc)(x:Int):Nat->Bool
 |0=>false|k+1=>(AHB l x k||((AN l (k:Int)).Ab==x))||((AN l (k:Int)).C0==x)
def Tb(l:List Bc):Nat->List Int
 |0=>[]|i+1=>if i=0 then[]else cond (AHB l (i:Int) l.length) (Tb l i++[(i:Int)]) (Tb l i)
theorem ACx(l:List Bc):∀i,(Tb l i).length<=i
 |0=>by simp[Tb]
 |i+1=>by
  have:=ACx l i;simp only[Tb];split
  ·simp
  ·grind
def B9(p:AI):List Int:=if Md p=true then Tb p.AG 17 else[]
end
section
open Go.ChangeShapes
theorem AEI:∀{a b:List Int},a.Pairwise (·<·)->b.Pairwise (·<·)->(∀x,x∈a↔x∈b)->a=b
 |[],[],_,_,_=>rfl|[],y::b,_,_,h=>by have:=(h y).2 zp;simp at this
 |x::a,[],_,_,h=>by have:=(h x).1 zp;simp at this
 |x::a,y::b,W,X,h=>by
  have⟨Z,H⟩:=B6.1 W;have⟨aa,K⟩:=B6.1 X;have N:x=y:=by
   rcases Aj.1 ((h x).1 zp)with e|e
   ·exact e
   ·rcases Aj.1 ((h y).2 zp)with O|O
    ·exact O.symm
    ·grind
  subst N
  congr 1
  refine AEI H K λz=>⟨λhz=>?_,λhz=>?_⟩
  ·grind
  ·grind
theorem QV(l:List Bc)(x:Int):∀i,x∈Tb l i↔1<=x/\x<(i:Int)/\AHB l x l.length=true
 |0=>by simp[Tb];omega
 |i+1=>by
  have y:=QV l x i;simp only[Tb];by_cases h0:i=0
  ·grind
  ·grind
theorem SC(l:List Bc):∀i,(Tb l i).Pairwise (·<·)
 |0=>by simp[Tb]
 |i+1=>by
  have y:=SC l i;simp only[Tb];split
  ·simp
  ·cases AHB l (i:Int) l.length with
   |false=>exact y|true=>
    rw[cond_true,EW];refine⟨y,by simp,λa z b H=>?_⟩;have:=(QV l a i).1 z;simp only[List.mem_singleton]at H;omega
theorem SH(l:List Bc)(x:Int):∀k,AHB l x k=true↔∃j:Nat,j<k/\((AN l (j:Int)).Ab=x\/(AN l (j:Int)).C0=x)
 |0=>by simp[AHB]
 |k+1=>by
  have y:=SH l x k;simp only[AHB,ES,B1,y];constructor
  ·grind
  ·grind
theorem YU(l:List Bc)(x:Int)(y:x≠0):∀k,x∈OD l k↔∃j:Nat,j<k/\((AN l (j:Int)).Ab=x\/(AN l (j:Int)).C0=x)
 |0=>by simp[OD]
 |k+1=>by
  have z:=YU l x y k;have key:x∈OD l (k+1)↔x∈OD l k\/(AN l (k:Int)).Ab=x\/(AN l (k:Int)).C0=x:=by
   simp only[OD];cases H:((AN l (k:Int)).C0 !=0)with
   |true=>simp[eq_comm (a:=x),or_assoc]|false=>
    have:(AN l (k:Int)).C0=0:=by grind
    simp[this,eq_comm (a:=x),AJ1 y]
  rw[key,z];constructor
  ·grind
  ·grind
theorem Vn{d:Array Int}(z:∀i j,i<=j->j<d.size->d[i]! <=d[j]!):∀m,m<=d.size->(Go.Lib.compactUpTo d m).Pairwise (·<·)/\(∀x,x∈Go.Lib.compactUpTo d m↔∃j,j<m/\d[j]! =x)
 |0,_=>by simp[Go.Lib.compactUpTo]
 |m+1,hm=>by
  have⟨h1,h2⟩:=Vn z m ox;rw[Go.Lib.compactUpTo_succ];cases y:Go.Lib.keeps d m with
  |true=>
   simp only[IW];have H:∀j,j<m->d[j]! <d[m]! :=by
    intro j K;simp only[Go.Lib.keeps,AZ]at y;rcases y with y|y
    ·omega
    ·have a:=z j (m-1) ox ox;have b:=z (m-1) m ox ox;omega
   refine⟨EW.2 ⟨h1,by simp,λa N b O=>?_⟩,λx=>?_⟩
   ·grind
   ·grind
  |false=>
   simp only[GK,if_false,Du];refine⟨h1,λx=>?_⟩;rw[h2];simp only[Go.Lib.keeps,Ai,not_or,Decidable.not_not]at y;constructor
   ·grind
   ·grind
theorem Qr(l:List Int):(EN (Fx l)).Pairwise (·<·)/\∀x,x∈EN (Fx l)↔x∈l:=by
 have hp:(Fx l).Pairwise (λa b=>decide (a<=b)=true):=List.pairwise_mergeSort (λa b c h1 h2=>by simp at*;omega) (λa b=>by simp;omega) l;have K:∀i j,i<=j->j<(Fx l).toArray.size->(Fx l).toArray[i]! <=(Fx l).toArray[j]! :=by
  intro i j N H;have y:j<(Fx l).length:=by grind
  have z:i<(Fx l).length:=ox
  rcases A7 i j with h|h
  ·have:=A3.1 hp i j z y h;simpa[z,y]using this
  ·grind
 have⟨h1,h2⟩:=Vn K (Fx l).length zp;refine⟨h1,λx=>?_⟩;rw[show EN (Fx l)=Go.Lib.compactUpTo (Fx l).toArray (Fx l).length from rfl,h2];have hm:x∈l↔x∈Fx l:=by unfold Fx;simp
 rw[hm];constructor
 ·grind
 ·intro h;have⟨j,H,e⟩:=BL h;exact⟨j,H,by simp[H,e]⟩
end
section
open Go.ChangeShapes
theorem ADm(h:Md p=true)(hi:i<p.AG.length):RW p.AG i=false:=by
 simp only[Md,Aq,Cb,Ca,Dz]at h;simpa using h.2 i hi
theorem AH5(h:Md p=true)(hi:i<p.AG.length):1<=(AN p.AG (i:Int)).Ab/\(AN p.AG (i:Int)).Ab<=16/\((AN p.AG (i:Int)).C0=0\/(1<=(AN p.AG (i:Int)).C0/\(AN p.AG (i:Int)).C0<=16)):=by
 have y:=ADm h hi;simp only[RW,BQ,Ai,ED]at y;have⟨⟨⟨⟨_,h1⟩,h2⟩,h3⟩,_⟩:=y;refine⟨by omega,by omega,?_⟩;by_cases e:(AN p.AG (i:Int)).C0=0
 ·grind
 ·right;simp only[Rs,show((AN p.AG (i:Int)).C0==0)=false from Bh.2 e,AP,Aq,AZ]at h3;exact⟨h3.1.1.1.1.1,h3.1.1.1.1.2⟩
theorem AC2{p:AI}(h:Md p=true):∀i,i<=p.AG.length->∀x∈OD p.AG i,1<=x/\x<=16
 |0,_,x,y=>by simp[OD]at y
 |i+1,hi,x,y=>by
  have z:=AC2 h i ox x;have N:=AH5 h (show i<p.AG.length by omega);simp only[OD]at y;cases H:((AN p.AG (i:Int)).C0 !=0)with
  |true=>
   rw[H]at y;have K:(AN p.AG (i:Int)).C0≠0:=by grind
   simp only[cond_true,BW,List.mem_singleton]at y;rcases y with(y|y)|y
   ·exact z y
   ·omega
   ·grind
  |false=>
   rw[H]at y;simp only[AP,BW,List.mem_singleton]at y;rcases y with y|y
   ·exact z y
   ·omega
theorem UI(p:AI):Sz p=B9 p:=by
 unfold Sz B9;cases hv:Md p with
 |false=>rfl|true=>
  simp only[IW];have⟨h1,h2⟩:=Qr (OD p.AG p.AG.length);refine AEI h1 (SC _ _) λx=>?_;rw[h2,QV];constructor
  ·intro y;have z:=AC2 hv _ (Nat.le_refl _) x y;exact⟨by omega,by omega,(SH _ _ _).2 ((YU _ _ ox _).1 y)⟩
  ·rintro⟨a,b,c⟩;exact(YU _ _ ox _).2 ((SH _ _ _).1 c)
theorem Kz(p:AI):(B9 p).length<=17:=by
 unfold B9;split
 ·exact ACx _ _
 ·simp
end
section
open Go.ChangeShapes
end
def kch(b:Int):Bool:=(((((decide ((97:Int)<=b))&&(decide (b<=(122:Int))))||((decide ((48:Int)<=b))&&(decide (b<=(57:Int)))))||(b==(47:Int)))||(b==(46:Int)))||(b==(95:Int))||(b==(45:Int))
def kvB(k:A9):Bool:=(decide (1<=k.length)&&decide (k.length<=24))&& !((List.range k.length).any λi=> !kch (B0 k i))
theorem ACH{k:A9}(z:k.length<JJ):JS k (λy=>Kh y)=some (decide (k.length<=24)&& !((List.range k.length).any λi=> !kch (B0 k i))):=by
 unfold JS;by_cases h:k.length<=24
 ·have e:decide ((24:Int)<(k.length:Int))=false:=by simp;omega
  rw[e,AP,CM];refine(Me (len:=k.length) (L:=λn i=>Ej k (λy=>Kh y) (some true) n i) (q:=λi=> !kch (B0 k i)) (E:=some false) (J:=some true) z ox ?_ ?_).trans ?_
  ·intro n i hi
   try dsimp only
   rw[Ej];simp only[show(i:Int)<(k.length:Int) by omega,Ay,cond_true,show 0<=(i:Int) by omega,true_and,HF,DW,Int.toNat_natCast,Kh,AY,kch]
  ·intro n
   try dsimp only
   rw[Ej];simp
  ·grind
 ·grind
theorem SE{k:A9}(y:k.length<JJ):IN k=some (kvB k):=by
 unfold IN;rw[ACH y];cases k with
 |nil=>rfl|cons a l=>
  have e:((a::l) !=([]:A9))=true:=by rfl
  rw[e];simp[CG,kvB,Az]
theorem ALG{k:A9}(y:k.length<JJ):Gy k=some (kvB k):=by
 unfold Gy;simp only[CM];have z:(decide ((1:Int)<=(k.length:Int))&&decide ((k.length:Int)<=(24:Int)))=(decide (1<=k.length)&&decide (k.length<=24)):=by grind
 rw[z];refine(Me (len:=k.length) (L:=λn i=>Ee k (some (decide (1<=k.length)&&decide (k.length<=24))) n i) (q:=λi=> !kch (B0 k i)) (E:=some false) (J:=some (decide (1<=k.length)&&decide (k.length<=24))) y ox ?_ ?_).trans ?_
 ·intro n i hi
  try dsimp only
  rw[Ee];have H:(((((((decide ((B0 k i)<(97:Int)))||(decide ((122:Int)<(B0 k i))))&&((decide ((B0 k i)<(48:Int)))||(decide ((57:Int)<(B0 k i)))))&&((B0 k i) !=(47:Int)))&&((B0 k i) !=(46:Int)))&&((B0 k i) !=(95:Int)))&&((B0 k i) !=(45:Int)))= !kch (B0 k i):=by
   rw[ET];simp only[kch,Aq,ES,AZ,bne_iff_ne,Cb,BQ,EE,Ai,Bh];omega
  simp only[show(i:Int)<(k.length:Int) by omega,Ay,cond_true,show 0<=(i:Int) by omega,true_and,HF,DW,Int.toNat_natCast,H]
 ·intro n
  try dsimp only
  rw[Ee];simp
 ·rw[kvB];cases((List.range k.length).any λi=> !kch (B0 k i))<;>simp
def PA(l:List A9)(i:Nat):Bool:= !kvB (AN l (i:Int))||(decide (0<i)&& !Dy (AN l ((i:Int)-1)) (AN l (i:Int)))
def Ru(l:List A9):Bool:= !((List.range l.length).any λi=>PA l i)
theorem U0(h0:0<i)(h:i<9223372036854775807):AB ((i:Int)-1)=(i:Int)-1:=Vg ox ox
section
structure Qa(p:AI):Prop where
 l:p.AG.length<JJ
 s:∀x∈p.AG,x.BU.length<JJ/\x.Gh.length<JJ
theorem AAM(h:Md p=true):∀x∈p.AG,x.BU.length<=1000:=by
 intro x z;obtain⟨i,hi,rfl⟩:=JN.1 z;have y:=ADm h hi;rw[Wb]at y;simp only[BQ]at y;have h1:=y.1.1;rw[A0 hi]at h1;simp only[ED,Gm,Aq,AZ]at h1;omega
theorem YP(h:Md p=true)(k:A9):1<=Bl p k/\Bl p k<=16:=by
 have h0:¬Jv p k<0:=by
  unfold Jv;have:=Yc p.AG k p.AG.length;simp only[h,Bool.true_eq_false,if_false];omega
 have y:=Yj h0;obtain⟨i,hi⟩:∃i:Nat,Jv p k=(i:Int):=⟨(Jv p k).toNat,by omega⟩;rw[hi]at y;have z:=AH5 h (i:=i) ox;unfold Bl;rw[if_neg h0,hi];split
 ·grind
 ·grind
def Ta(f:List Int):Nat->List Int
 |0=>[]|i+1=>if i=0 then[]else cond (f.any λy=>y==(i:Int)) (Ta f i++[(i:Int)]) (Ta f i)
theorem ACw(f:List Int):∀i,(Ta f i).length<=i
 |0=>by simp[Ta]
 |i+1=>by
  have:=ACw f i;simp only[Ta];split
  ·simp
  ·grind
theorem VH{l:List Int}{x:Int}:(l.any λy=>y==x)=true↔x∈l:=by
 rw[Gg];constructor
 ·grind
 ·grind
theorem U8(f:List Int)(x:Int):∀i,x∈Ta f i↔1<=x/\x<(i:Int)/\x∈f
 |0=>by simp[Ta];omega
 |i+1=>by
  have y:=U8 f x i;simp only[Ta];by_cases h0:i=0
  ·grind
  ·grind
theorem YN(f:List Int):∀i,(Ta f i).Pairwise (·<·)
 |0=>by simp[Ta]
 |i+1=>by
  have z:=YN f i;simp only[Ta];split
  ·simp
  ·cases(f.any λy=>y==(i:Int))with
   |false=>exact z|true=>
    rw[cond_true,EW];refine⟨z,by simp,λa H b K=>?_⟩;have:=(U8 f a i).1 H;simp only[List.mem_singleton]at K;omega
def Su(p:AI)(ks:List A9):List Int:=Ta (ks.map (Bl p)) 17
theorem Vj(hv:Md p=true)(ks:List A9):EN (Fx (ks.map (Bl p)))=Su p ks:=by
 have⟨h1,h2⟩:=Qr (ks.map (Bl p));refine AEI h1 (YN _ _) λx=>?_;rw[h2,Su,U8];constructor
 ·intro y;obtain⟨k,_,rfl⟩:=List.mem_map.1 y;have:=YP hv k;exact⟨by omega,by omega,y⟩
 ·grind
variable {p:AI}
theorem ZU(p:AI)(ks:List A9):(Su p ks).length<=17:=ACw _ _
end
variable {aD:List A9} {bt:A9} {aL:Bool} {j:Nat} {l:List AR}
section
theorem AJI{l:List Int}:l.take 1=[]\/∃a,l.take 1=[a]:=by
 cases l with
 |nil=>exact .inl Y|cons a l=>exact .inr ⟨a,Y⟩
def AHS(l:List Int):Prop:=l.Pairwise (·<·)
variable {p:AI}
theorem Pc(hv:Md p=true){x:Int}:x∈Su p aD↔∃k∈aD,Bl p k=x:=by
 rw[Su,U8,List.mem_map];constructor
 ·grind
 ·rintro⟨k,y,rfl⟩;have:=YP hv k;exact⟨by omega,by omega,k,y,Y⟩
end
section
theorem VG{l:List A9}:Ru l=true↔(∀k∈l,kvB k=true)/\l.Pairwise (λa b=>Dy a b=true):=by
 have y:Ru l=true↔∀i,i<l.length->kvB (AN l (i:Int))=true/\(0<i->Dy (AN l ((i:Int)-1)) (AN l (i:Int))=true):=by
  unfold Ru;rw[Cb,Ca];constructor
  ·intro h i hi;have:=h i (Dz.2 hi);simp only[PA,FB,BQ,ED,EE,Ai]at this;refine⟨this.1,λh0=>?_⟩;rcases this.2 with h|h
   ·grind
   ·exact h
  ·intro h i hi;have⟨h1,h2⟩:=h i (Dz.1 hi);simp only[PA,FB,BQ,ED,EE,Ai];refine⟨h1,?_⟩;by_cases h0:0<i
   ·grind
   ·exact .inl h0
 rw[y];constructor
 ·intro h;refine⟨λk N=>?_,?_⟩
  ·obtain⟨i,hi,rfl⟩:=JN.1 N;have:=(h i hi).1;rwa[A0 hi]at this
  ·rw[A3];have key:∀j(z:j<l.length)i(hi:i<j),Dy (l[i]'ox) l[j]=true:=by
    intro j
    induction j with
    |zero=>intro _ i hi;omega|succ j O=>
     intro z i hi;have K:=(h (j+1) z).2 ox;have e:((j+1:Nat):Int)-1=((j:Nat):Int):=ox
     rw[e,A0 (show j<l.length by omega),A0 z]at K;by_cases H:i=j
     ·grind
     ·exact Gz (O ox i ox) K
   exactλi j _ z H=>key j z i H
 ·rintro⟨h1,h2⟩ i hi;refine⟨h1 _ (LK hi),λh0=>?_⟩;have e:(i:Int)-1=((i-1:Nat):Int):=ox
  rw[e,A0 (show i-1<l.length by omega),A0 hi];exact A3.1 h2 (i-1) i _ _ ox
theorem ABR{l:List A9}(h:Ru l=true)(g:A9->Bool):Ru (l.filter g)=true:=by
 have⟨h1,h2⟩:=VG.1 h;exact VG.2 ⟨λk y=>h1 k (BK.1 y).1,h2.filter g⟩
variable {p:AI}
end
section
variable {p:AI}
end
section
open Go.ChangeShapes
def ap{α:Type}[Inhabited α](l:List α)(i:Nat):α:=AN l (i:Int)
theorem AOl{α:Type}[Inhabited α]{l:List α}(h:i<l.length):ap l i=l[i]:=A0 h
theorem AHX{α:Type}[Inhabited α](a b:List α)(i:Nat):ap (a++b) i=if i<a.length then ap a i else ap b (i-a.length):=by
 simp only[ap,AN,Int.toNat_natCast,DD];split
 ·grind
 ·grind
theorem AAY{α:Type}[Inhabited α](l:List α)(h:i<n):ap (l.take n) i=ap l i:=by
 simp only[ap,AN,Int.toNat_natCast,DD];rw[List.getElem?_take_of_lt h]
theorem AIf{α:Type}[Inhabited α](l:List α)(n i:Nat):ap (l.drop n) i=ap l (n+i):=by
 simp only[ap,AN,Int.toNat_natCast,DD,DT]
theorem AEK{α:Type}[Inhabited α]{l:List α}(h:i<l.length):ap l i∈l:=LK h
theorem AK8{α:Type}[Inhabited α]{l:List α}{x:α}(h:x∈l):∃i,i<l.length/\ap l i=x:=by
 have⟨i,h1,h2⟩:=JN.1 h;exact⟨i,h1,by rw[AOl h1,h2]⟩
structure ABl(x:Bc)(next:A9)(last:Bool):Prop where
 done:x.C0=0->x.Gh=[]
 dest:x.C0≠0->1<=x.C0/\x.C0<=16/\x.C0≠x.Ab/\Gm x.Gh=true/\Dy x.Gh x.BU=false/\(last=true\/Dy x.Gh next=true)
theorem AMm{x:Bc}:Rs x bt aL=true↔ABl x bt aL:=by
 unfold Rs;by_cases h:x.C0=0
 ·simp only[h,DE,cond_true,B1];exact⟨λe=>⟨λ_=>e,λy=>absurd h y⟩,λm=>m.done h⟩
 ·have z:(x.C0==0)=false:=by simpa using h
  simp only[z,AP,Aq,AZ,ES,Cb,bne_iff_ne,ne_eq];constructor
  ·rintro⟨⟨⟨⟨⟨a,b⟩,c⟩,d⟩,e⟩,f⟩;exact⟨λh0=>absurd h0 h,λ_=>⟨a,b,c,d,e,f⟩⟩
  ·intro m;have⟨a,b,c,d,e,f⟩:=m.dest h;exact⟨⟨⟨⟨⟨a,b⟩,c⟩,d⟩,e⟩,f⟩
structure PV(v:Int)(l:List Bc):Prop where
 ver:0<=v/\v<=1099511627776
 len:1<=l.length/\l.length<=16
 head:(ap l 0).BU=[]
 Az:∀i,i<l.length->Gm (ap l i).BU=true
 Wu:∀i,i+1<l.length->Dy (ap l i).BU (ap l (i+1)).BU=true
 id:∀i,i<l.length->1<=(ap l i).Id/\(ap l i).Id<=1099511627776
 node:∀i,i<l.length->1<=(ap l i).Ab/\(ap l i).Ab<=16
 mov:∀i,i<l.length->ABl (ap l i) (En l i) (decide (i+1=l.length))
 uniq:∀i j,j<i->i<l.length->(ap l j).Id≠(ap l i).Id
theorem AFv{l:List Bc}(hi:i<=l.length){d:Int}:((l.take i).any λy=>y.Id==d)=false↔∀j,j<i->(ap l j).Id≠d:=by
 rw[Ca];constructor
 ·intro h j z;have:=h (ap (l.take i) j) (AEK (by simp;omega));rw[AAY l z]at this;simpa using this
 ·intro h x H;obtain⟨j,h1,rfl⟩:=AK8 H;have z:j<i:=by grind
  rw[AAY l z];simpa using h j z
theorem Lg:Md p=true↔PV p.Ax p.AG:=by
 have y:∀i,i<p.AG.length->(RW p.AG i=false↔Gm (ap p.AG i).BU=true/\(0<i->Dy (ap p.AG (i-1)).BU (ap p.AG i).BU=true)/\(1<=(ap p.AG i).Id/\(ap p.AG i).Id<=1099511627776)/\(1<=(ap p.AG i).Ab/\(ap p.AG i).Ab<=16)/\
  ABl (ap p.AG i) (En p.AG i) (decide (i+1=p.AG.length))/\∀j,j<i->(ap p.AG j).Id≠(ap p.AG i).Id):=by
  intro i hi;rw[<- AMm,<- AFv ox];have e:0<i->AN p.AG ((i:Int)-1)=ap p.AG (i-1):=λh0=>by
   unfold ap
   congr 1
   omega
  unfold RW;simp only[BQ,ED,Ai,EE];constructor
  ·rintro⟨⟨⟨⟨⟨⟨⟨a,b⟩,c⟩,d⟩,f⟩,g⟩,m⟩,u⟩;refine⟨a,λh0=>?_,⟨by unfold ap;omega,by unfold ap;omega⟩,⟨by unfold ap;omega,by unfold ap;omega⟩,m,u⟩;rcases b with b|b
   ·grind
   ·rw[<- e h0];exact b
  ·rintro⟨a,b,c,d,m,u⟩;unfold ap at c d;refine⟨⟨⟨⟨⟨⟨⟨a,?_⟩,by omega⟩,by omega⟩,by omega⟩,by omega⟩,m⟩,u⟩;by_cases h0:0<i
   ·right;rw[e h0];exact b h0
   ·exact .inl h0
 unfold Md VA;simp only[Aq,Cb,BQ,Ai,B1,Ca,Dz,FB];constructor
 ·rintro⟨⟨⟨⟨⟨a,b⟩,c⟩,d⟩,e⟩,f⟩;have g:=λi hi=>(y i hi).1 (f i hi);refine⟨⟨by omega,by omega⟩,⟨by omega,by omega⟩,e,λi hi=>(g i hi).1,λi hi=>?_,λi hi=>(g i hi).2.2.1,λi hi=>(g i hi).2.2.2.1,λi hi=>(g i hi).2.2.2.2.1,λi j z hi=>(g i hi).2.2.2.2.2 j z⟩;exact(g (i+1) hi).2.1 ox
 ·intro h;have⟨h1,h2⟩:=h.ver;have⟨h3,H⟩:=h.len;refine⟨⟨⟨⟨⟨by omega,by omega⟩,by omega⟩,by omega⟩,h.head⟩,λi hi=>(y i hi).2 ⟨h.Az i hi,λh0=>?_,h.id i hi,h.node i hi,h.mov i hi,λj z=>h.uniq i j z hi⟩⟩;have:=h.Wu (i-1) ox;rwa[show i-1+1=i by omega]at this
theorem JY{l:List Bc}(h:i+1<l.length):En l i=(ap l (i+1)).BU:=by simp[En,h,ap]
theorem Np{l:List Bc}(h:¬i+1<l.length):En l i=[]:=by simp[En,h]
theorem Sq{a b c:A9}(h1:Dy a b=true)(h2:Dy c b=false):Dy a c=true:=by
 by_cases h:Dy c a=true
 ·have:=Gz h h1;rw[h2]at this;simp at this
 ·by_cases h3:Dy a c=true
  ·exact h3
  ·have:=Qg (by simpa using h) (by simpa using h3);subst this;rw[h2]at h1;simp at h1
theorem UN{a b c:A9}(h1:Dy b a=false)(h2:Dy c b=false):Dy c a=false:=by
 by_cases h:Dy c a=true
 ·have:=Sq h h1;rw[h2]at this;simp at this
 ·simpa using h
theorem WB{a b:A9}(h:Dy a b=true):Dy b a=false:=by
 by_cases h2:Dy b a=true
 ·have:=Gz h h2;rw[E1]at this;simp at this
 ·grind
structure OX(l:List Bc)(i:Nat)(key:A9):Prop where
 lt:i<l.length
 lo:Dy key (ap l i).BU=false
 hi:i+1<l.length->Dy key (ap l (i+1)).BU=true
theorem PV.AHR{v:Int}{l:List Bc}(h:PV v l){i:Nat}:∀{j:Nat},i<=j->j<l.length->Dy (ap l j).BU (ap l i).BU=false
 |0,y,_=>by
  obtain rfl:i=0:=ox
  exact E1 _
 |j+1,y,z=>by
  by_cases he:i=j+1
  ·subst he;exact E1 _
  ·have h1:=PV.AHR h (i:=i) (j:=j) ox ox;have h2:=WB (h.Wu j z);exact UN h1 h2
theorem PV.AOj{v:Int}{l:List Bc}(h:PV v l)(y:i<j)(z:j<l.length):Dy (ap l i).BU (ap l j).BU=true:=by
 have h1:=h.Wu i ox;have h2:=h.AHR (i:=i+1) (j:=j) ox z;exact Sq h1 h2
theorem AEb{v:Int}{l:List Bc}(h:PV v l){key:A9}(h1:OX l i key)(h2:OX l j key):i=j:=by
 have go:∀{i j:Nat},OX l i key->OX l j key->¬i<j:=by
  intro i j h1 h2 y;have z:=h2.lt;have a:=h1.hi ox;have b:=h.AHR (i:=i+1) (j:=j) ox z;have c:=Sq a b;rw[h2.lo]at c;simp at c
 have a:=go h1 h2;have b:=go h2 h1;omega
theorem AC8{v:Int}{l:List Bc}(h:PV v l)(key:A9):∀n,1<=n->n<=l.length->(n<l.length->Dy key (ap l n).BU=true)->OX l (OF l key n).toNat key/\0<=OF l key n
 |0,h1,_,_=>by omega
 |k+1,_,h2,h3=>by
  simp only[OF];by_cases H:k=0
  ·subst H;simp only[IW];refine⟨⟨by simp;omega,?_,λhi=>h3 hi⟩,by omega⟩;have:(ap l 0).BU=[]:=h.head;show Dy key (ap l 0).BU=false;rw[this];exact U4 _
  ·simp only[H,if_false];by_cases z:Dy key (ap l k).BU=false
   ·have y:Dy key (AN l (k:Int)).BU=false:=z;rw[if_pos y];exact⟨⟨by simp;omega,by simpa using z,λhi=>by simpa using h3 (by simpa using hi)⟩,by omega⟩
   ·have y:¬Dy key (AN l (k:Int)).BU=false:=z;rw[if_neg y];exact AC8 h key k ox ox (λ_=>by simpa using z)
theorem UQ(h:PV p.Ax p.AG)(key:A9):∃i:Nat,Jv p key=(i:Int)/\OX p.AG i key:=by
 have hp:=Lg.2 h;have⟨h1,h2⟩:=AC8 h key p.AG.length h.len.1 (Nat.le_refl _) (λy=>by omega);refine⟨(OF p.AG key p.AG.length).toNat,?_,h1⟩;unfold Jv;rw[if_neg (by rw[hp];simp)];omega
theorem ALH(h:PV p.Ax p.AG){key:A9}(hi:OX p.AG i key):Jv p key=(i:Int):=by
 have⟨j,h1,h2⟩:=UQ h key;rw[h1,AEb h h2 hi]
def Nw(x:Bc)(key:A9):Int:=if((x.C0 !=0)&&(Dy key x.Gh))=true then x.C0 else x.Ab
theorem KO(h:PV p.Ax p.AG){key:A9}(hi:OX p.AG i key):Bl p key=Nw (ap p.AG i) key:=by
 unfold Bl Nw ap;rw[ALH h hi,if_neg ox]
theorem AHF{l:List Bc}{d:Int}{k:Nat}(h:Cv l d=(k:Int)):k<l.length/\(ap l k).Id=d:=by
 unfold Cv at h;have go:∀(m:List Bc)(i:Nat),II (λx:Bc=>x.Id==d) m i=(k:Int)->∃j,k=i+j/\j<m.length/\(ap m j).Id=d:=by
  intro m
  induction m with
  |nil=>intro i h;simp only[II]at h;omega|cons x m y=>
   intro i h;simp only[II]at h;split at h
   ·rename_i z;exact⟨0,by omega,by simp,by show x.Id=d;simpa using z⟩
   ·have⟨j,h1,h2,h3⟩:=y (i+1) h;exact⟨j+1,by omega,by simpa using h2,h3⟩
 have⟨j,h1,h2,h3⟩:=go l 0 h;obtain rfl:k=j:=ox
 exact⟨h2,h3⟩
theorem AHG{l:List Bc}{d:Int}:Cv l d<0↔∀i,i<l.length->(ap l i).Id≠d:=by
 have h1:=OH (λx:Bc=>x.Id==d) l 0;unfold Cv;constructor
 ·intro h i hi y;have:(l.any λx=>x.Id==d)=true:=by
   rw[Gg];exact⟨ap l i,AEK hi,by simpa using y⟩
  rw[this]at h1;simp only[AZ]at h1;omega
 ·intro h;have:(l.any λx=>x.Id==d)=false:=by
   rw[Ca];intro x z;obtain⟨i,hi,rfl⟩:=AK8 z;simpa using h i hi
  rw[this]at h1;simp only[Ai]at h1;omega
end
structure JG(m:List AR):Prop where
 l:m.length<9223372036854775808
 k:∀x∈m,x.Key.length<JJ/\x.JK.S.length<JJ
theorem JG.nil:JG []:=⟨by decide,by simp⟩
theorem JG.sub{a b:List AR}(h:JG a)(hl:b.length<9223372036854775808)(y:∀x∈b,x∈a):JG b:=⟨hl,λx z=>h.k x (y x z)⟩
def M6(s:A9):Bool:=decide (s.length<=64)&& !((List.range s.length).any λi=>decide (B0 s i<32)||decide (126<B0 s i))
theorem WG(y:s.length<JJ):KD s=some (M6 s):=by
 unfold KD;simp only[CM];have z:decide ((s.length:Int)<=64)=decide (s.length<=64):=by grind
 rw[z];refine(Me (len:=s.length) (L:=λn i=>Eu s (some (decide (s.length<=64))) n i) (q:=λi=>decide (B0 s i<32)||decide (126<B0 s i)) (E:=some false) (J:=some (decide (s.length<=64))) y ox ?_ ?_).trans ?_
 ·intro n i hi
  try dsimp only
  rw[Eu];simp only[show(i:Int)<(s.length:Int) by omega,Ay,cond_true,show 0<=(i:Int) by omega,true_and,HF,DW,Int.toNat_natCast]
 ·intro n
  try dsimp only
  rw[Eu];simp
 ·rw[M6];cases((List.range s.length).any λi=>decide (B0 s i<32)||decide (126<B0 s i))<;>simp
theorem AJF(y:s.length<JJ):IT s=some (M6 s):=by
 unfold IT;simp only[CM];by_cases h2:(64:Int)<(s.length:Int)
 ·simp[h2,M6,show¬s.length<=64 by omega]
 simp only[h2,Dp,AP];refine(Me (len:=s.length) (L:=λn i=>Ed s (some true) n i) (q:=λi=>decide (B0 s i<32)||decide (126<B0 s i)) (E:=some false) (J:=some true) y ox ?_ ?_).trans ?_
 ·intro n i hi
  try dsimp only
  rw[Ed];simp only[show(i:Int)<(s.length:Int) by omega,Ay,cond_true,show 0<=(i:Int) by omega,true_and,HF,DW,Int.toNat_natCast]
 ·intro n
  try dsimp only
  rw[Ed];simp
 ·simp only[M6,show s.length<=64 by omega,Ay,Cw];cases((List.range s.length).any λi=>decide (B0 s i<32)||decide (126<B0 s i))<;>rfl
def vvB(v:Ah):Bool:=cond (v.BD==0) ((v.N==0)&&(v.S==([]:A9))) (cond (v.BD==1) (v.S==([]:A9)) (((v.BD==2)&&(v.N==0))&&M6 v.S))
theorem AEm{v:Ah}(y:v.S.length<JJ):PW v=some (vvB v):=by
 unfold PW vvB;rw[WG y];cases h0:v.BD==0 with
 |true=>simp|false=>
  cases h1:v.BD==1 with
  |true=>simp|false=>
   cases h2:v.BD==2 with
   |false=>simp|true=>
    cases h3:v.N==0 with
    |false=>simp[CG,Az]|true=>simp[CG,Az]
theorem AGX{v:Ah}(y:v.S.length<JJ):IS v=some (vvB v):=by
 unfold IS vvB;rw[AJF y];cases h0:v.BD==0 with
 |true=>simp|false=>
  cases h1:v.BD==1 with
  |true=>simp|false=>
   cases h2:v.BD==2 with
   |false=>simp[CG,Az]|true=>
    cases h3:v.N==0 with
    |false=>simp[CG,Az]|true=>simp[CG,Az]
def Qh(x y:AR):Bool:=((x.Key==y.Key)&&(((x.JK.BD==y.JK.BD)&&((x.JK.N==y.JK.N)&&((x.JK.S==y.JK.S)&&true)))&&true))
theorem WJ(x y:AR):Qh x y=true↔x=y:=by
 have⟨k,n,m,s⟩:=x;have⟨z,n',m',H⟩:=y;simp[Qh,and_assoc]
theorem AKc{a b:List AR}(y:a.length<9223372036854775808)(z:b.length<9223372036854775808):Fw a b=some (eqL Qh a b):=by
 unfold Fw;simp only[CM];refine AG5 (a:=a) (b:=b) (f:=Qh) y z (L:=λn i=>Ez a b (some true) n i) ox ?_ ?_
 ·intro hl n i hi H
  try dsimp only
  rw[Ez];simp only[show(i:Int)<(a.length:Int) by omega,show(i:Int)<(b.length:Int) by omega,Ay,cond_true,show 0<=(i:Int) by omega,CA,DW];rw[show((AN a (i:Int)).Key==(AN b (i:Int)).Key&&((AN a (i:Int)).JK.BD==(AN b (i:Int)).JK.BD&&((AN a (i:Int)).JK.N==(AN b (i:Int)).JK.N&&((AN a (i:Int)).JK.S==(AN b (i:Int)).JK.S&&true))&&true))=Qh (AN a (i:Int)) (AN b (i:Int))from rfl];cases Qh (AN a (i:Int)) (AN b (i:Int))<;>rfl
 ·intro n
  try dsimp only
  rw[Ez];simp
def ZJ(a b:A9):Bool:=a==b
theorem AI3(a b:A9):ZJ a b=true↔a=b:=by simp[ZJ]
def XA(l:List AR)(i:Nat):Bool:=(!kvB (AN l (i:Int)).Key|| !vvB (AN l (i:Int)).JK)||(decide (0<i)&& !Dy (AN l ((i:Int)-1)).Key (AN l (i:Int)).Key)
def R6(l:List AR):Bool:= !((List.range l.length).any λi=>XA l i)
def G5(l:List AR):Bool:=R6 l&& !(l.any λx=>x.JK.BD==0)
theorem ZK(h:JG l):Ke l=some (R6 l):=by
 have hl:=h.l;unfold Ke;simp only[CM];refine(Me (len:=l.length) hl (L:=λn i=>Hr l (some true) n i) (q:=λi=>XA l i) (E:=some false) (J:=some true) ox ?_ ?_).trans ?_
 ·intro n i hi;have hm:=h.k _ (LK hi)
  try dsimp only
  rw[Hr];simp only[show(i:Int)<(l.length:Int) by omega,Ay,cond_true,show 0<=(i:Int) by omega,true_and,HF,DW,SE hm.1,AY];rw[AEm (v:=⟨(AN l (i:Int)).JK.BD,(AN l (i:Int)).JK.N,(AN l (i:Int)).JK.S⟩) hm.2];cases z:kvB (AN l (i:Int)).Key with
  |false=>simp[XA,z,Ba,CG,Az]|true=>
   simp only[BC,DE,FP,AY,Ck];rw[show vvB ⟨(AN l (i:Int)).JK.BD,(AN l (i:Int)).JK.N,(AN l (i:Int)).JK.S⟩=vvB (AN l (i:Int)).JK from rfl];cases hv:vvB (AN l (i:Int)).JK with
   |false=>simp[XA,z,hv,Ba]|true=>
    by_cases h0:0<i
    ·have y:(0:Int)<(i:Int):=ox
     simp only[y,Ay,DE,BC,FJ,forall_const,U0 h0 ox,Cw,Ck,XA,z,hv,h0,cond_true,Gi];rw[A5 ox]
    ·have y:¬(0:Int)<(i:Int):=ox
     simp[y,XA,z,hv,h0,Ba]
 ·intro n
  try dsimp only
  rw[Hr];simp
 ·rw[R6];cases((List.range l.length).any λi=>XA l i)<;>rfl
theorem IU(h:JG l):Fa l=some (G5 l):=by
 have hl:=h.l;unfold Fa FL EK;rw[ZK h];simp only[CM,AY];rw[AD1 (l:=l) hl (L:=λn i=>Ci l (λy=>Ix y) (some (-1)) n i) (q:=λx=>x.JK.BD==0) ?_ ?_ ox]
 ·rw[G5];cases R6 l<;>simp[CG,Az]
 ·intro n i hi
  try dsimp only
  rw[Ci];simp only[show(i:Int)<(l.length:Int) by omega,Ay,cond_true,show 0<=(i:Int) by omega,CA,DW,Ix,AY,A0 hi]
 ·intro n
  try dsimp only
  rw[Ci];simp
theorem AHO:∀a b:List UInt8,(Go.Lib.compareBytes a b<0↔Dy a b=true)/\(0<Go.Lib.compareBytes a b↔Dy b a=true)
 |[],[]=>by simp[Go.Lib.compareBytes,Dy,Op.bytesLess]
 |[],_::_=>by simp[Go.Lib.compareBytes,Dy,Op.bytesLess]
 |_::_,[]=>by simp[Go.Lib.compareBytes,Dy,Op.bytesLess]
 |x::a,y::b=>by
  have⟨h1,h2⟩:=AHO a b;rw[UB,UB,Go.Lib.compareBytes];simp only[UInt8.lt_iff_toNat_lt];by_cases h:x.toNat<y.toNat
  ·grind
  ·grind
theorem I8:R6 l=true↔(∀x∈l,kvB x.Key=true/\vvB x.JK=true)/\l.Pairwise (λa b=>Dy a.Key b.Key=true):=by
 have y:R6 l=true↔∀i,i<l.length->(kvB (AN l (i:Int)).Key=true/\vvB (AN l (i:Int)).JK=true)/\(0<i->Dy (AN l ((i:Int)-1)).Key (AN l (i:Int)).Key=true):=by
  unfold R6;rw[Cb,Ca];constructor
  ·intro h i hi;have:=h i (Dz.2 hi);simp only[XA,FB,BQ,ED,EE,Ai]at this;refine⟨this.1,λh0=>?_⟩;rcases this.2 with h|h
   ·grind
   ·exact h
  ·intro h i hi;have⟨h1,h2⟩:=h i (Dz.1 hi);simp only[XA,FB,BQ,ED,EE,Ai];refine⟨h1,?_⟩;by_cases h0:0<i
   ·grind
   ·exact .inl h0
 rw[y];constructor
 ·intro h;refine⟨λk N=>?_,?_⟩
  ·obtain⟨i,hi,rfl⟩:=JN.1 N;have:=(h i hi).1;rwa[A0 hi]at this
  ·rw[A3];have key:∀j(z:j<l.length)i(hi:i<j),Dy (l[i]'ox).Key l[j].Key=true:=by
    intro j
    induction j with
    |zero=>intro _ i hi;omega|succ j O=>
     intro z i hi;have K:=(h (j+1) z).2 ox;have e:((j+1:Nat):Int)-1=((j:Nat):Int):=ox
     rw[e,A0 (show j<l.length by omega),A0 z]at K;by_cases H:i=j
     ·grind
     ·exact Gz (O ox i ox) K
   exactλi j _ z H=>key j z i H
 ·rintro⟨h1,h2⟩ i hi;refine⟨h1 _ (LK hi),λh0=>?_⟩;have e:(i:Int)-1=((i-1:Nat):Int):=ox
  rw[e,A0 (show i-1<l.length by omega),A0 hi];exact A3.1 h2 (i-1) i _ _ ox
def S1(l:List AR):Prop:=l.Pairwise (λa b=>Dy a.Key b.Key=true)
def AKn(x:AR):Prop:=kvB x.Key=true/\vvB x.JK=true/\x.JK.BD≠0
theorem Eg:G5 l=true↔(∀x∈l,AKn x)/\S1 l:=by
 unfold G5;rw[Aq,I8,Cb,Ca];constructor
 ·rintro⟨⟨h1,h2⟩,h3⟩;exact⟨λx y=>⟨(h1 x y).1,(h1 x y).2,by simpa using h3 x y⟩,h2⟩
 ·rintro⟨h1,h2⟩;exact⟨⟨λx y=>⟨(h1 x y).1,(h1 x y).2.1⟩,h2⟩,λx y=>by simpa using(h1 x y).2.2⟩
theorem ACN(h:JG l):FZ l=some (Ru (l.map (·.Key))):=by
 have hl:=h.l;unfold FZ;simp only[CM];refine(Me (len:=l.length) hl (L:=λn i=>Dx l (some true) n i) (q:=λi=>PA (l.map (·.Key)) i) (E:=some false) (J:=some true) ox ?_ ?_).trans ?_
 ·intro n i hi;have hm:=h.k _ (LK hi);have z:AN (l.map (·.Key)) (i:Int)=(AN l (i:Int)).Key:=by rw[A0 (by simpa using hi),A0 hi];simp
  try dsimp only
  rw[Dx];simp only[show(i:Int)<(l.length:Int) by omega,Ay,cond_true,show 0<=(i:Int) by omega,true_and,HF,DW,ALG hm.1,AY];cases H:kvB (AN l (i:Int)).Key with
  |false=>simp[PA,z,H,Ba]|true=>
   by_cases h0:0<i
   ·have y:(0:Int)<(i:Int):=ox
    have K:AN (l.map (·.Key)) ((i:Int)-1)=(AN l ((i:Int)-1)).Key:=by
     rw[show(i:Int)-1=((i-1:Nat):Int) by omega,A0 (by simp;omega),A0 ox];simp
    simp only[y,Ay,DE,BC,FJ,forall_const,U0 h0 ox,Cw,Ck,PA,z,K,H,h0,cond_true];rw[A5 ox]
   ·have y:¬(0:Int)<(i:Int):=ox
    simp[y,PA,z,H,h0,Ba]
 ·intro n
  try dsimp only
  rw[Dx];simp
 ·rw[Ru,Ap];cases((List.range l.length).any λi=>PA (l.map (·.Key)) i)<;>rfl
theorem AMQ:R6 l=(Ru (l.map (·.Key))&& !(l.any λx=> !vvB x.JK)):=by
 rw[ET,I8,Aq,VG,Cb,Ca];simp only[List.mem_map,forall_exists_index,and_imp,forall_apply_eq_imp_iff₂,FI];constructor
 ·grind
 ·grind
theorem AEl(h:JG l):Ep l=some (R6 l):=by
 have hl:=h.l;unfold Ep;rw[ACN h,AMQ];simp only[CM,AY];refine(UL (l:=l) hl (L:=λn i=>Df l (some (Ru (l.map (·.Key)))) n i) (q:=λx=> !vvB x.JK) (E:=some false) (J:=some (Ru (l.map (·.Key)))) (n:=(l.length:Int).toNat+1) ox ?_ ?_).trans ?_
 ·intro n i hi;have hm:=h.k _ (AW hi)
  try dsimp only
  rw[Df];simp only[show(i:Int)<(l.length:Int) by omega,Ay,cond_true,show 0<=(i:Int) by omega,CA,DW,AGX hm.2,AY,A0 hi]
 ·intro n
  try dsimp only
  rw[Df];simp
 ·grind
theorem AGZ(h:JG l):Gx l=some (G5 l):=by
 have hl:=h.l;unfold Gx;rw[AEl h];simp only[CM,AY];refine(UL (l:=l) hl (L:=λn i=>Ec l (some (R6 l)) n i) (q:=λx=>x.JK.BD==0) (E:=some false) (J:=some (R6 l)) ox ?_ ?_).trans ?_
 ·intro n i hi
  try dsimp only
  rw[Ec];simp only[show(i:Int)<(l.length:Int) by omega,Ay,cond_true,show 0<=(i:Int) by omega,CA,DW,A0 hi]
 ·intro n
  try dsimp only
  rw[Ec];simp
 ·rw[G5];cases(l.any λx=>x.JK.BD==0)<;>simp
theorem UO:∀{a b:List AR},S1 a->S1 b->(∀x,x∈a↔x∈b)->a=b
 |[],[],_,_,_=>rfl|[],y::b,_,_,h=>by have:=(h y).2 zp;simp at this
 |x::a,[],_,_,h=>by have:=(h x).1 zp;simp at this
 |x::a,y::b,ha,hb,h=>by
  have⟨H,O⟩:=B6.1 ha;have⟨K,W⟩:=B6.1 hb;have X:x=y:=by
   rcases Aj.1 ((h x).1 zp)with e|e
   ·exact e
   ·rcases Aj.1 ((h y).2 zp)with Z|Z
    ·exact Z.symm
    ·have h1:=K x e;have h2:=H y Z;rw[WB h1]at h2;simp at h2
  subst X;rw[UO O W λz=>?_];have:=h z;simp only[Aj]at this;constructor
  ·intro N;rcases this.1 (.inr N)with e|e
   ·subst e;have:=H z N;rw[E1]at this;simp at this
   ·exact e
  ·intro N;rcases this.2 (.inr N)with e|e
   ·subst e;have:=K z N;rw[E1]at this;simp at this
   ·exact e
theorem XN:∀{a:List AR},S1 a->∀{x y},x∈a->y∈a->x.Key=y.Key->x=y
 |[],_,_,_,h,_,_=>by simp at h
 |z::a,h,x,y,N,O,e=>by
  have⟨h1,h2⟩:=B6.1 h;rcases Aj.1 N with H|H<;>rcases Aj.1 O with K|K
  ·rw[H,K]
  ·have:=h1 y K;rw[<- H,e,E1]at this;simp at this
  ·have:=h1 x H;rw[<- K,e,E1]at this;simp at this
  ·exact XN h2 H K e
def mg:List AR->List AR->List AR×Bool
 |[],b=>(b,false)|x::a,[]=>(x::a,false)|x::a,y::b=>if Dy x.Key y.Key=true then(x::(mg a (y::b)).1,(mg a (y::b)).2)else if Dy y.Key x.Key=true then(y::(mg (x::a) b).1,(mg (x::a) b).2)else((mg a b).1,true)
termination_by a b=>a.length+b.length
theorem AK6(a:List AR):mg a []=(a,false):=by cases a<;>rw[mg]
theorem ADy:∀a b:List AR,(mg a b).1.length<=a.length+b.length
 |[],b=>by simp[mg]
 |x::a,[]=>by simp[mg]
 |x::a,y::b=>by
  have h1:=ADy a (y::b);have h2:=ADy (x::a) b;have h3:=ADy a b;rw[mg];split
  ·grind
  ·grind
termination_by a b=>a.length+b.length
theorem ADx:∀a b:List AR,∀x∈(mg a b).1,x∈a\/x∈b
 |[],b=>by simp[mg]
 |x::a,[]=>by simp[mg]
 |x::a,y::b=>by
  have h1:=ADx a (y::b);have h2:=ADx (x::a) b;have h3:=ADx a b;rw[mg];intro z H;split at H
  ·grind
  ·grind
termination_by a b=>a.length+b.length
theorem AAO:∀{a b:List AR},S1 a->S1 b->(mg a b).2=(b.any λy=>a.any λx=>x.Key==y.Key)/\((mg a b).2=false->S1 (mg a b).1/\∀x,x∈(mg a b).1↔x∈a\/x∈b)
 |[],b,_,X=>by simp[mg,X]
 |x::a,[],Z,_=>by simp[mg,Z]
 |x::a,y::b,Z,X=>by
  have⟨aa,ab⟩:=B6.1 Z;have⟨ad,ae⟩:=B6.1 X;rw[mg];split
  ·rename_i H;have⟨h1,h2⟩:=AAO (a:=a) (b:=y::b) ab X;have O:∀z∈y::b,Dy x.Key z.Key=true:=λz K=>by
    rcases Aj.1 K with rfl|K
    ·exact H
    ·exact Gz H (ad z K)
   refine⟨?_,λW=>?_⟩
   ·show(mg a (y::b)).2=_;rw[h1];refine any_congr λz K=>?_;have:(x.Key==z.Key)=false:=by
     rw[Bh];intro e;have:=O z K;rw[e,E1]at this;simp at this
    rw[QL,this,Ck]
   ·have⟨h3,h4⟩:=h2 W;refine⟨B6.2 ⟨λz K=>?_,h3⟩,λz=>?_⟩
    ·grind
    ·grind
  ·rename_i H;simp only[FB]at H;split
   ·rename_i N;have⟨h1,h2⟩:=AAO (a:=x::a) (b:=b) Z ae;have O:∀z∈x::a,Dy y.Key z.Key=true:=λz K=>by
     rcases Aj.1 K with rfl|K
     ·exact N
     ·exact Gz N (aa z K)
    refine⟨?_,λW=>?_⟩
    ·grind
    ·have⟨h3,h4⟩:=h2 W;refine⟨B6.2 ⟨λz K=>?_,h3⟩,λz=>?_⟩
     ·grind
     ·grind
   ·rename_i N;simp only[FB]at N;have e:=Qg H N;refine⟨?_,λW=>by simp at W⟩;show true=_;simp[e]
termination_by a b=>a.length+b.length
theorem AE8(x y:AR):IY x y=some (Go.Lib.compareBytes x.Key y.Key):=rfl
theorem AG1{a b:List AR}(aa:a.length+b.length<1099511627776):∀n(i k:Nat)(acc:List AR)(t:Bool),i<=a.length->k<=b.length->(a.length-i)+(b.length-k)<n->acc.length+(a.length-i)+(b.length-k)<=1099511627776->KP a b Ro Ro U2 IY n (acc,t) (i:Int) (k:Int)=some (acc++(mg (a.drop i) (b.drop k)).1,t||(mg (a.drop i) (b.drop k)).2):=by
 intro n
 induction n with
 |zero=>intro i k acc t _ _ h;omega|succ n N=>
  intro i k acc t hi hk hn Z;rw[KP];simp only[CM];have W:((i:Int)==(a.length:Int))=decide (i=a.length):=by grind
  have X:((k:Int)==(b.length:Int))=decide (k=b.length):=by grind
  have keep:∀x,acc.length<1099511627776->Ro (acc,t) x=some (acc++[x],t):=λx h=>by
   unfold Ro;rw[A5 (by simp only[AT,Bz,HI];omega)]
  by_cases K:i=a.length
  ·by_cases H:k=b.length
   ·subst K;subst H;simp[mg]
   ·have y:k<b.length:=ox
    have O:((decide ((i:Int)<(a.length:Int)))||decide ((k:Int)<(b.length:Int)))=true:=by simp;omega
    rw[O,cond_true,W,X];simp only[K,H,Ay,Dp,cond_true,AP];rw[show decide ((1:Int)<0)=false by decide,show decide ((0:Int)<1)=true by decide,AP,cond_true,A5 ⟨by omega,by omega⟩,keep _ ox,AY,BB ox];rw[<- K,N i (k+1) _ _ ox ox ox (by simp;omega)];rw[K,Gf,A4 y,mg,mg,A0 y];simp
  ·have z:i<a.length:=ox
   have O:((decide ((i:Int)<(a.length:Int)))||decide ((k:Int)<(b.length:Int)))=true:=by simp;omega
   by_cases H:k=b.length
   ·rw[O,cond_true,W,X];simp only[K,H,Ay,Dp,cond_true,AP];rw[show decide ((-1:Int)<0)=true by decide,cond_true,A5 ⟨by omega,by omega⟩,keep _ ox,AY,BB ox];rw[<- H,N (i+1) k _ _ ox ox ox (by simp;omega)];rw[H,Gf,A4 z,AK6,AK6,A0 z];simp
   ·have y:k<b.length:=ox
    rw[O,cond_true,W,X];simp only[K,H,Dp,AP];rw[A5 (p:=0<=(i:Int)/\(i:Int)<(a.length:Int)) ⟨by omega,by omega⟩,A5 (p:=0<=(k:Int)/\(k:Int)<(b.length:Int)) ⟨by omega,by omega⟩,AE8,AY];have⟨c1,c2⟩:=AHO (AN a (i:Int)).Key (AN b (k:Int)).Key;rw[A4 z,A4 y,mg,<- A0 z,<- A0 y];cases h1:Dy (AN a (i:Int)).Key (AN b (k:Int)).Key with
    |true=>
     rw[show decide (Go.Lib.compareBytes (AN a (i:Int)).Key (AN b (k:Int)).Key<0)=true from Bw (c1.2 h1),cond_true,A5 (p:=0<=(i:Int)/\(i:Int)<(a.length:Int)) ⟨by omega,by omega⟩,keep _ ox,AY,BB ox,N (i+1) k _ _ ox ox ox (by simp;omega)];rw[A4 y,<- A0 y];simp
    |false=>
     rw[show decide (Go.Lib.compareBytes (AN a (i:Int)).Key (AN b (k:Int)).Key<0)=false from Bd (λh=>by rw[c1.1 h]at h1;simp at h1),AP];cases h2:Dy (AN b (k:Int)).Key (AN a (i:Int)).Key with
     |true=>
      rw[show decide (0<Go.Lib.compareBytes (AN a (i:Int)).Key (AN b (k:Int)).Key)=true from Bw (c2.2 h2),cond_true,A5 (p:=0<=(k:Int)/\(k:Int)<(b.length:Int)) ⟨by omega,by omega⟩,keep _ ox,AY,BB ox,N i (k+1) _ _ ox ox ox (by simp;omega)];rw[A4 z,<- A0 z];simp
     |false=>
      rw[show decide (0<Go.Lib.compareBytes (AN a (i:Int)).Key (AN b (k:Int)).Key)=false from Bd (λh=>by rw[c2.1 h]at h2;simp at h2),AP,A5 (p:=0<=(i:Int)/\(i:Int)<(a.length:Int)) ⟨by omega,by omega⟩,A5 (p:=0<=(k:Int)/\(k:Int)<(b.length:Int)) ⟨by omega,by omega⟩,U2,AY,BB ox,BB ox,
       N (i+1) (k+1) _ _ ox ox ox (by simp;omega)]
      simp
def MA(a b:List AR):List AR×Int:=cond (G5 a&&G5 b) (cond (mg a b).2 ([],8) ((mg a b).1,0)) ([],1)
theorem AAe{a b:List AR}(z:JG a)(H:JG b)(y:a.length+b.length<1099511627776):NZ a b=some (MA a b):=by
 unfold NZ;rw[IU z,IU H,AY,MA];cases h1:G5 a with
 |false=>simp[CG,Az]|true=>
  simp only[BC,DE,FP,AY,Ck,Cw];cases h2:G5 b with
  |false=>simp|true=>
   simp only[BC,AP,cond_true];have:=AG1 (a:=a) (b:=b) y 1099511627776 0 0 [] false ox ox ox (by simp;omega);rw[YY,show(0:Int)=((0:Nat):Int)from rfl,this,AY];simp only[PI,Ck,KA];cases(mg a b).2<;>rfl
def ins(l:List AR)(p:AR):List AR:=l.takeWhile (λx=>Dy x.Key p.Key)++[p]++l.dropWhile (λx=>Dy x.Key p.Key)
theorem XQ(y:s.length<JJ):MR s=some (Gm s):=by
 unfold MR JS;by_cases h:s.length<=24
 ·have e:decide ((24:Int)<(s.length:Int))=false:=by simp;omega
  rw[e,AP,CM];rw[(Me (len:=s.length) (L:=λn i=>Ej s (λz=>Kg z) (some true) n i) (q:=λi=>decide (B0 s i<33)||decide (126<B0 s i)) (E:=some false) (J:=some true) y (n:=(s.length:Int).toNat+1) ox ?_ ?_)]
  ·rw[Gm];cases((List.range s.length).any λi=>decide (B0 s i<33)||decide (126<B0 s i))<;>simp[h]
  ·intro n i hi
   try dsimp only
   rw[Ej];have H:(!((decide ((33:Int)<=B0 s i))&&(decide (B0 s i<=(126:Int)))))=(decide (B0 s i<33)||decide (126<B0 s i)):=by grind
   simp only[show(i:Int)<(s.length:Int) by omega,Ay,cond_true,show 0<=(i:Int) by omega,true_and,HF,DW,Int.toNat_natCast,Kg,AY,H]
  ·intro n
   try dsimp only
   rw[Ej];simp
 ·have e:decide ((24:Int)<(s.length:Int))=true:=by simp;omega
  rw[e,cond_true];simp[Gm,h]
structure ALz(r:D8):Prop where
 f:r.BU.length<JJ
 t:r.To.length<JJ
def vrB(r:D8):Bool:=(Gm r.BU&&Gm r.To)&&((r.To==([]:A9))||(Dy r.BU r.To))
def ctB(r:D8)(k:A9):Bool:=(vrB r&&(!Dy k r.BU))&&((r.To==([]:A9))||(Dy k r.To))
theorem AEn{r:D8}(h:ALz r):Ly r=some (vrB r):=by
 unfold Ly vrB;rw[XQ h.f,XQ h.t];cases Gm r.BU<;>simp[CG,Az]
theorem ACG{r:D8}(h:ALz r)(k:A9):Ni r k=some (ctB r k):=by
 unfold Ni ctB;rw[AEn h];rfl
def Wr(l:List AR)(r:D8):List AR:=l.filter λx=>ctB r x.Key
theorem AGi(hl:l.length<=1099511627776){r:D8}(h:ALz r):Na l r=some (Wr l r):=by
 unfold Na;simp only[CM];refine S0 (l:=l) ox (L:=λn a i=>Im l r (λy=>some y) n a i) (J:=λy=>some y) (p:=λx=>ctB r x.Key) ?_ ?_ (n:=((l.length:Nat):Int).toNat+1) ox
 ·intro n i acc hi z
  try dsimp only
  rw[Im];have H:(acc++[l[i]]).length*48<=140737488355328:=by simp;omega
  simp only[show(i:Int)<(l.length:Int) by omega,Ay,cond_true,show 0<=(i:Int) by omega,CA,DW,A0 hi,ACG h,AY,CM,H]
 ·intro n acc _
  try dsimp only
  rw[Im];simp
theorem HS(h:G5 l=true)(g:AR->Bool):G5 (l.filter g)=true:=by
 have⟨h1,h2⟩:=Eg.1 h;exact Eg.2 ⟨λx y=>h1 x (BK.1 y).1,D5 _ h2⟩
theorem JG.filter(h:JG l)(g:AR->Bool):JG (l.filter g):=h.sub (Nat.lt_of_le_of_lt (C3 _ _) h.l) (λx y=>(BK.1 y).1)
theorem Nn(hv:Md p=true)(k:A9):Bl p k∈B9 p:=by
 have H:=YP hv k;have z:=Lg.1 hv;have⟨i,e,hi⟩:=UQ z k;have y:i<p.AG.length:=by
  have:=Yj (p:=p) (key:=k) (by rw[e];omega);rw[e]at this;omega
 rw[B9,if_pos hv,QV];refine⟨by omega,by omega,(SH _ _ _).2 ⟨i,y,?_⟩⟩;rw[KO z hi,Nw];split
 ·exact .inr Y
 ·exact .inl Y
theorem XJ(p:AI):AHS (B9 p):=by
 unfold B9;split
 ·exact SC _ _
 ·exact List.Pairwise.nil
def Sn(p:AI)(state:List AR)(nd:Int):BA:=⟨nd,state.filter λx=>Bl p x.Key==nd⟩
structure SOk(l:List BA):Prop where
 n:l.length<=17
 p:∀s∈l,JG s.BF/\s.BF.length<=34359738368
theorem WL(hp:Qa p)(hv:Md p=true)(hl:l.length<=1099511627776)(nd:Int):K8 p l nd=some (l.filter λx=>Bl p x.Key==nd):=by
 unfold K8;simp only[CM];refine S0 (l:=l) ox (L:=λn a i=>JU l p nd (λy=>some y) n a i) (J:=λy=>some y) (p:=λx=>Bl p x.Key==nd) ?_ ?_ (n:=((l.length:Nat):Int).toNat+1) ox
 ·intro n i acc hi z
  try dsimp only
  rw[JU];have H:(acc++[l[i]]).length*48<=140737488355328:=by simp;omega
  simp only[show(i:Int)<(l.length:Int) by omega,Ay,cond_true,show 0<=(i:Int) by omega,CA,DW,A0 hi,Sv hp.l hp.s (AAM hv),AY,CM,H]
 ·intro n acc _
  try dsimp only
  rw[JU];simp
def GN(p:AI)(l:List AR):List BA:=if(Md p&&G5 l)=true then(B9 p).map (Sn p l)else[]
theorem Ya(hp:Qa p)(H:JG l)(hl:l.length<=1099511627776):Kx p l=some (GN p l):=by
 unfold Kx GN;rw[F4 hp.l hp.s,IU H,AY];cases hv:Md p with
 |false=>rfl|true=>
  cases K:G5 l with
  |false=>rfl|true=>
   have N:=Kz p;simp only[BC,DE,FP,AY,Gi,AP,CM,FJ,IW];rw[Qj hp.l hp.s,AY,UI];refine AIL (l:=B9 p) ox (L:=λn a i=>Kl (B9 p) p l (λy=>some y) n a i) (J:=λy=>some y) (g:=Sn p l) ?_ ?_ (n:=(((B9 p).length:Nat):Int).toNat+1) ox
   ·intro n i acc hi z
    try dsimp only
    rw[Kl];simp only[show(i:Int)<((B9 p).length:Int) by omega,Ay,cond_true,show 0<=(i:Int) by omega,CA,DW,A0 hi,WL hp hv hl,AY];rw[A5 (by simp;omega)];rfl
   ·intro n acc _
    try dsimp only
    rw[Kl];simp
def ACl(p:AI)(s:BA)(nd:Int):Bool:=((s.Ab !=nd)|| !G5 s.BF)||(s.BF.any λx=>Bl p x.Key !=s.Ab)
def dvB(p:AI)(l:List BA):Bool:=Md p&&decide (l.length=(B9 p).length)&& !((List.range l.length).any λi=>ACl p (AN l (i:Int)) (AN (B9 p) (i:Int)))
theorem AFd{α:Type}(q:α->Bool):∀l:List α,((((l.filter q).length:Nat):Int) !=((l.length:Nat):Int))=l.any λx=> !q x
 |[]=>by simp
 |x::l=>by
  have y:=AFd q l;cases h:q x with
  |true=>
   rw[List.filter_cons_of_pos h,QL,h,<- y,BC,Ck];rw[ET];simp only[bne_iff_ne,Bz];omega
  |false=>
   rw[List.filter_cons_of_neg (by simpa using h),QL,h,GJ,AKE];have:=C3 q l;rw[bne_iff_ne,Bz];omega
theorem RU(hp:Qa p){l:List BA}(y:SOk l):Jo p l=some (dvB p l):=by
 unfold Jo dvB;have z:=y.n;rw[Qj hp.l hp.s,F4 hp.l hp.s,AY,AY,UI];cases hv:Md p with
 |false=>rfl|true=>
  have N:=Kz p;simp only[BC,Ck,Cw];by_cases hlen:l.length=(B9 p).length
  ·rw[show(((l.length:Nat):Int) !=(((B9 p).length:Nat):Int))=false by simp[hlen],AP,CM,Bw hlen,Cw];refine(Me (len:=l.length) ox (L:=λn i=>JV l (B9 p) p (some true) n i) (q:=λi=>ACl p (AN l (i:Int)) (AN (B9 p) (i:Int))) (E:=some false) (J:=some true) (n:=((l.length:Nat):Int).toNat+1) ox ?_ ?_).trans ?_
   ·intro n i hi;have hm:=y.p _ (LK hi)
    try dsimp only
    rw[JV];simp only[show(i:Int)<(l.length:Int) by omega,show(i:Int)<((B9 p).length:Int) by omega,Ay,cond_true,show 0<=(i:Int) by omega,CA,DW,IU hm.1,WL hp hv (show(AN l (i:Int)).BF.length<=1099511627776 by omega),ACl];cases H:((AN l (i:Int)).Ab !=(AN (B9 p) (i:Int)))with
    |true=>simp[CG,Az]|false=>
     simp only[DE,FP,AY,Ck];cases K:G5 (AN l (i:Int)).BF with
     |false=>simp[CG,Az]|true=>
      simp only[BC,DE,FP,AY,Ck,AFd];rfl
   ·intro n
    try dsimp only
    rw[JV];simp
   ·grind
  ·grind
def WW(l:List BA)(i:Nat):Bool:=(decide (0<i)&&decide ((AN l (i:Int)).Ab<=(AN l ((i:Int)-1)).Ab))|| !G5 (AN l (i:Int)).BF
def guP:List AR->List BA->List AR×Int
 |out,[]=>(out,0)|out,s::l=>cond ((MA out s.BF).2 !=0) ([],(MA out s.BF).2) (guP (MA out s.BF).1 l)
def Lh(l:List BA):List AR×Int:=cond ((List.range l.length).any λi=>WW l i) ([],1) (guP [] l)
theorem YE{a b:List AR}(y:JG a)(z:JG b)(H:a.length+b.length<9223372036854775808):(MA a b).1.length<=a.length+b.length/\JG (MA a b).1:=by
 have h1:=ADy a b;have h2:=ADx a b;unfold MA;cases G5 a&&G5 b with
 |false=>exact⟨by simp,JG.nil⟩
 |true=>
  cases(mg a b).2 with
  |true=>exact⟨by simp,JG.nil⟩
  |false=>
   refine⟨h1,⟨by show(mg a b).1.length<_;omega,λx K=>?_⟩⟩;rcases h2 x K with h|h
   ·exact y.k x h
   ·exact z.k x h
theorem UT{l:List BA}(N:SOk l):Ic l=some (Lh l):=by
 have O:=N.n;unfold Ic Lh;simp only[CM];refine(Me (len:=l.length) ox (L:=λn i=>Iq l (HX l (λH=>some (H,(0:Int))) (((l.length:Nat):Int).toNat+1) [] 0) n i) (q:=λi=>WW l i) (E:=some ([],1)) (J:=HX l (λH=>some (H,(0:Int))) (((l.length:Nat):Int).toNat+1) [] 0) (n:=((l.length:Nat):Int).toNat+1) ox ?_ ?_).trans ?_
 ·intro n i hi;have hm:=N.p _ (LK hi)
  try dsimp only
  rw[Iq];simp only[show(i:Int)<(l.length:Int) by omega,Ay,cond_true,show 0<=(i:Int) by omega,CA,DW,IU hm.1,WW];by_cases h0:0<i
  ·have y:(0:Int)<(i:Int):=ox
   simp only[y,h0,Ay,DE,forall_const,cond_true,Cw,U0 h0 ox];rw[A5 ox];cases decide ((AN l (i:Int)).Ab<=(AN l ((i:Int)-1)).Ab)<;>simp[CG,Az]
  ·have y:¬(0:Int)<(i:Int):=ox
   simp[y,h0,Ba,CG,Az]
 ·intro n
  try dsimp only
  rw[Iq];simp
 ·cases((List.range l.length).any λi=>WW l i)with
  |true=>rfl|false=>
   rw[AP,AP];have key:∀n(i:Nat)(out:List AR),i<=l.length->l.length-i<n->out.length<=34359738368*i->JG out->HX l (λH=>some (H,(0:Int))) n out (i:Int)=some (guP out (l.drop i)):=by
    intro n
    induction n with
    |zero=>intro i _ _ h;omega|succ n W=>
     intro i out hi Z hlen K;rw[HX];rcases A7 i l.length with z|X
     ·have hm:=N.p _ (AW z);have hu:=YE K hm.1 ox;rw[A4 z,guP];simp only[show(i:Int)<(l.length:Int) by omega,Ay,cond_true,show 0<=(i:Int) by omega,CA,DW,A0 z];rw[AAe K hm.1 ox,AY];cases((MA out l[i].BF).2 !=0)with
      |true=>rfl|false=>
       rw[AP,AP,BB ox];exact W (i+1) _ ox ox ox hu.2
     ·have:i=l.length:=ox
      subst this;simp[guP]
   have:=key (((l.length:Nat):Int).toNat+1) 0 [] ox ox zp JG.nil;simpa using this
theorem ALM:∀{l:List BA}{out:List AR}{m:Nat},(∀s∈l,JG s.BF/\s.BF.length<=34359738368)->JG out->out.length+34359738368*l.length<=m->m<=584115552256->JG (guP out l).1/\(guP out l).1.length<=m
 |[],out,m,_,h,hl,_=>by rw[guP];exact⟨h,by simpa using hl⟩
 |s::l,out,m,y,h,hl,hm=>by
  have h1:=y s zp;rw[Bz]at hl;have hu:=YE h h1.1 ox;rw[guP];cases((MA out s.BF).2 !=0)with
  |true=>exact⟨JG.nil,by simp⟩
  |false=>exact ALM (λx z=>y x (by simp[z])) hu.2 ox hm
theorem AAT{l:List BA}(y:SOk l):JG (Lh l).1/\(Lh l).1.length<=584115552256:=by
 unfold Lh;have z:=y.n;cases((List.range l.length).any λi=>WW l i)with
 |true=>exact⟨JG.nil,by simp⟩
 |false=>exact ALM y.p JG.nil (by simp;omega) ox
theorem AD9(h:¬Cv p.AG id<0):∃k:Nat,Cv p.AG id=(k:Int)/\k<p.AG.length:=by
 have y:=S5 (λx:Bc=>x.Id==id) p.AG 0;refine⟨(Cv p.AG id).toNat,by omega,?_⟩;unfold Cv at h⊢;omega
theorem AA6(hl:p.AG.length<JJ):MQ p id=some (Cv p.AG id):=by
 have:=QZ (l:=p.AG) (id:=id) hl;unfold Ex at this;unfold MQ;rw[show(λy=>Mn y id)=(λy=>GD y id)from rfl];exact this
def chP(p:AI)(i:Int)(x:Bc):AI:=⟨AB (p.Ax+1),p.AG.set i.toNat x⟩
theorem AFh{α:Type}[Inhabited α](l:List α):cpL l (AH l.length (default:α))=l:=by
 simp[cpL]
theorem S9(hl:p.AG.length<=1099511627776){k:Nat}(y:k<p.AG.length)(x:Bc):Jj p (k:Int) x=some (chP p (k:Int) x):=by
 unfold Jj;rw[A5 ⟨by omega,by omega⟩,A5 (by simp;omega)];rw[show((p.AG.length:Nat):Int).toNat=p.AG.length from rfl,AFh,A5 ⟨by omega,by omega⟩];rfl
theorem Qa.ch(hp:Qa p){i:Int}{x:Bc}(H:x.BU.length<JJ/\x.Gh.length<JJ):Qa (chP p i x):=by
 refine⟨?_,λy z=>?_⟩
 ·show(p.AG.set i.toNat x).length<JJ;rw[Cr];exact hp.l
 ·rcases X3 (show y∈p.AG.set i.toNat x from z)with h|h
  ·exact hp.s y h
  ·grind
theorem ABJ{l:List BA}:dvB p l=true↔Md p=true/\l.map (·.Ab)=B9 p/\∀s∈l,G5 s.BF=true/\∀x∈s.BF,Bl p x.Key=s.Ab:=by
 unfold dvB;rw[Aq,Aq,AZ,Cb,Ca];have y:∀s nd,ACl p s nd=false↔s.Ab=nd/\G5 s.BF=true/\∀x∈s.BF,Bl p x.Key=s.Ab:=by
  intro s nd;unfold ACl;rw[BQ,BQ,ED,Gn,Ca,and_assoc];simp
 constructor
 ·rintro⟨⟨h1,h2⟩,h3⟩;have h3:∀i,i<l.length->ACl p (AN l (i:Int)) (AN (B9 p) (i:Int))=false:=λi hi=>by simpa using h3 i (Dz.2 hi)
  refine⟨h1,?_,λs z=>?_⟩
  ·apply TT (by simpa using h2);intro i K H;have hi:i<l.length:=by grind
   have:=((y _ _).1 (h3 i hi)).1;rw[A0 hi,A0 H]at this;simpa using this
  ·obtain⟨i,hi,rfl⟩:=BL z;have:=((y _ _).1 (h3 i hi)).2;rw[A0 hi]at this;exact this
 ·rintro⟨h1,h2,h3⟩;have hl:l.length=(B9 p).length:=by grind
  refine⟨⟨h1,hl⟩,λi hi=>?_⟩;have hi:=Dz.1 hi;rw[FB,y,A0 hi,A0 (show i<(B9 p).length by omega)];refine⟨?_,h3 _ (AW hi)⟩;have:(l.map (·.Ab))[i]'(by simpa using hi)=(B9 p)[i]'ox:=by simp only[h2]
  simpa using this
def dj(a b:List AR):Prop:=∀x∈a,∀y∈b,x.Key≠y.Key
theorem AKT{a b:List AR}(z:G5 a=true)(H:G5 b=true)(W:dj a b):∃u,MA a b=(u,0)/\G5 u=true/\∀x,x∈u↔x∈a\/x∈b:=by
 have⟨X,Z⟩:=AAO (Eg.1 z).2 (Eg.1 H).2;have N:(mg a b).2=false:=by
  rw[X,Ca];intro y hy e;have⟨x,K,e⟩:=Gg.1 e;exact W x K y hy (eq_of_beq e)
 have⟨g3,O⟩:=Z N;refine⟨(mg a b).1,?_,Eg.2 ⟨λx K=>?_,g3⟩,O⟩
 ·rw[MA,z,H,N];rfl
 ·rcases(O x).1 K with h|h
  ·exact(Eg.1 z).1 x h
  ·exact(Eg.1 H).1 x h
theorem AMO:G5 []=true:=Eg.2 ⟨by simp,List.Pairwise.nil⟩
theorem AIQ(p:AI):∀(l:List BA)(out:List AR),G5 out=true->(∀s∈l,G5 s.BF=true/\∀x∈s.BF,Bl p x.Key=s.Ab)->(l.map (·.Ab)).Nodup->(∀x∈out,∀s∈l,Bl p x.Key≠s.Ab)->∃u,guP out l=(u,0)/\G5 u=true/\∀x,x∈u↔x∈out\/∃s∈l,x∈s.BF
 |[],out,H,_,_,_=>⟨out,by rw[guP],H,by simp⟩
 |s::l,out,H,N,K,W=>by
  have h1:=N s zp;rw[B8,Qb]at K;have⟨u,X,Z,O⟩:=AKT H h1.1 (λx z y hy e=>by
   have a:=W x z s zp;rw[e,h1.2 y hy]at a;exact a Y)
  have⟨v,f1,f2,f3⟩:=AIQ p l u Z (λx z=>N x (by simp[z])) K.2 (λx z t ht=>by
   rcases(O x).1 z with h|h
   ·grind
   ·rw[h1.2 x h];intro e;exact K.1 (List.mem_map.2 ⟨t,ht,e.symm⟩))
  refine⟨v,?_,f2,λx=>?_⟩
  ·rw[guP,X];exact f1
  ·rw[f3,O,or_assoc];simp
theorem XX{l:List BA}(h:dvB p l=true):∃u,Lh l=(u,0)/\G5 u=true/\∀x,x∈u↔∃s∈l,x∈s.BF:=by
 have⟨h1,h2,h3⟩:=ABJ.1 h;have y:AHS (l.map (·.Ab)):=by rw[h2];exact XJ p
 have H:(l.map (·.Ab)).Nodup:=List.Pairwise.imp (λh e=>by omega) y;have z:((List.range l.length).any λi=>WW l i)=false:=by
  rw[Ca];intro i hi e;have hi:=Dz.1 hi;unfold WW at e;rw[ES,Aq,AZ,AZ,Cb,A0 hi,(h3 _ (AW hi)).1]at e;rcases e with⟨h0,e⟩|e
  ·have:=A3.1 y (i-1) i (by simp;omega) (by simpa using hi) ox;simp only[AAB]at this;rw[show(i:Int)-1=((i-1:Nat):Int) by omega,A0 (show i-1<l.length by omega)]at e;omega
  ·simp at e
 have⟨u,K,N,O⟩:=AIQ p l [] AMO h3 H zp;refine⟨u,?_,N,λx=>?_⟩
 ·rw[Lh,z];exact K
 ·rw[O];simp
def Pa(p:AI)(k:Nat):D8:=⟨(ap p.AG k).Gh,En p.AG k⟩
theorem AN7(hp:Qa p){k:Nat}(y:k<p.AG.length):ALz (Pa p k):=by
 refine⟨(hp.s _ (AEK y)).2,?_⟩;show(En p.AG k).length<JJ;by_cases h:k+1<p.AG.length
 ·rw[JY h];exact(hp.s _ (AEK h)).1
 ·rw[Np h];decide
theorem ADi{a b:A9}(h:Dy a b=true):b≠[]:=λe=>by rw[e,U4]at h;simp at h
theorem AIY(hv:Md p=true){k:Nat}(y:k<p.AG.length)(K:(ap p.AG k).C0≠0){key:A9}(h:ctB (Pa p k) key=true):OX p.AG k key/\Dy key (ap p.AG k).Gh=false:=by
 have z:=Lg.1 hv;unfold ctB at h;rw[Aq,Aq,Cb,ES,B1]at h;have⟨⟨_,h1⟩,h2⟩:=h;have hm:=(z.mov k y).dest K;have h1:Dy key (ap p.AG k).Gh=false:=h1;refine⟨⟨y,UN hm.2.2.2.2.1 h1,λH=>?_⟩,h1⟩;have h2:(En p.AG k=[]\/Dy key (En p.AG k)=true):=h2;rw[JY H]at h2;rcases h2 with h2|h2
 ·exact absurd h2 (ADi (z.Wu k H))
 ·exact h2
theorem ALX(hv:Md p=true){k:Nat}(y:k<p.AG.length)(z:(ap p.AG k).C0≠0){key:A9}(h:ctB (Pa p k) key=true):Bl p key=(ap p.AG k).Ab:=by
 have⟨h1,h2⟩:=AIY hv y z h;rw[KO (Lg.1 hv) h1,Nw,h2,Bool.and_false,if_neg zp]
theorem AJJ(hv:Md p=true){k:Nat}(y:k<p.AG.length):(ap p.AG k).Ab∈B9 p:=by
 have z:=(Lg.1 hv).node k y;rw[B9,if_pos hv,QV];exact⟨by omega,by omega,(SH _ _ _).2 ⟨k,y,.inl Y⟩⟩
def ANZ(l:List BA)(nd:Int)(r:D8):List AR:=l.foldl (λa s=>cond (s.Ab==nd) (Wr s.BF r) a) []
theorem ACq(nd:Int)(r:D8):∀(l:List BA)(a:List AR),(∀s∈l,s.Ab≠nd)->l.foldl (λa s=>cond (s.Ab==nd) (Wr s.BF r) a) a=a
 |[],a,_=>rfl|s::l,a,h=>by
  rw[Lq,show(s.Ab==nd)=false by simpa using h s zp,AP];exact ACq nd r l a (λx y=>h x (by simp[y]))
theorem AE0(nd:Int)(r:D8):∀(l:List BA)(a:List AR),(l.map (·.Ab)).Nodup->∀s∈l,s.Ab=nd->l.foldl (λa s=>cond (s.Ab==nd) (Wr s.BF r) a) a=Wr s.BF r
 |[],_,_,s,y,_=>by simp at y
 |t::l,a,z,s,y,e=>by
  rw[B8,Qb]at z;rw[Lq];rcases Aj.1 y with rfl|y
  ·rw[show(s.Ab==nd)=true by simpa using e,cond_true];exact ACq nd r l _ (λx H K=>z.1 (List.mem_map.2 ⟨x,H,by rw[K,e]⟩))
  ·exact AE0 nd r l _ z.2 s y e
theorem AMY{l:List BA}(h:dvB p l=true){k:Nat}(W:k<p.AG.length)(X:(ap p.AG k).C0≠0):ANZ l (ap p.AG k).Ab (Pa p k)=Wr (Lh l).1 (Pa p k):=by
 have⟨h1,h2,h3⟩:=ABJ.1 h;have⟨u,Z,e2,e3⟩:=XX h;have H:AHS (l.map (·.Ab)):=by rw[h2];exact XJ p
 have K:(l.map (·.Ab)).Nodup:=List.Pairwise.imp (λh e=>by omega) H;have⟨s,z,N⟩:=List.mem_map.1 (show(ap p.AG k).Ab∈l.map (·.Ab) by rw[h2];exact AJJ h1 W);rw[ANZ,AE0 _ _ l [] K s z N,Z];refine UO (D5 _ (Eg.1 (h3 s z).1).2) (D5 _ (Eg.1 e2).2) λx=>?_;unfold Wr;rw[BK,BK,e3];constructor
 ·grind
 ·rintro⟨⟨t,ht,a⟩,b⟩;refine⟨?_,b⟩;have o1:=ALX h1 W X b;have o2:=(h3 t ht).2 x a;have:t.Ab=s.Ab:=by grind
  have O:t=s:=by
   have key:∀(l:List BA),(l.map (·.Ab)).Nodup->∀t∈l,∀s∈l,t.Ab=s.Ab->t=s:=by
    intro l
    induction l with
    |nil=>intro _ t ht;simp at ht|cons y l ih=>
     intro hn t ht s z e;rw[B8,Qb]at hn;rcases Aj.1 ht with ht|ht<;>rcases Aj.1 z with z|z
     ·rw[ht,z]
     ·grind
     ·grind
     ·grind
   exact key l K t ht s z this
  rw[<- O];exact a
def OE(p:AI)(l:List BA)(id:Int):Int×Int:=
 cond (dvB p l) (cond (decide (Cv p.AG id<0)) (0,9) (cond ((AN p.AG (Cv p.AG id)).C0==0) (0,19) (cond (p.Ax==1099511627776) (0,2) (Cv p.AG id,0)))) (0,1)
theorem AFH(hp:Qa p){l:List BA}(y:SOk l)(id:Int):Kf p l id=some (OE p l id):=by
 unfold Kf OE;rw[RU hp y,AY];cases dvB p l with
 |false=>rfl|true=>
  rw[AA6 hp.l];simp only[BC,AP,cond_true,AY];by_cases h:Cv p.AG id<0
  ·simp[h]
  ·have⟨k,e,z⟩:=AD9 h;rw[e,Bd (show¬(k:Int)<0 by omega),AP,AP,A5 ⟨by omega,by omega⟩];cases((AN p.AG (k:Int)).C0==0)with
   |true=>rfl|false=>cases(p.Ax==1099511627776)<;>rfl
theorem AOJ{l:List BA}(h:(OE p l id).2=0):dvB p l=true/\∃k:Nat,(OE p l id).1=(k:Int)/\Cv p.AG id=(k:Int)/\k<p.AG.length/\(ap p.AG k).C0≠0/\(ap p.AG k).Id=id/\p.Ax≠1099511627776:=by
 unfold OE at h⊢;cases y:dvB p l with
 |false=>rw[y]at h;simp at h|true=>
  rw[y]at h;simp only[cond_true]at h⊢;by_cases h0:Cv p.AG id<0
  ·grind
  ·have⟨k,e,z⟩:=AD9 h0;rw[e,Bd (show¬(k:Int)<0 by omega),AP]at h⊢;cases h1:((AN p.AG (k:Int)).C0==0)with
   |true=>rw[h1]at h;simp at h|false=>
    rw[h1]at h;cases h2:(p.Ax==1099511627776)with
    |true=>rw[h2]at h;simp at h|false=>exact⟨Yt,k,Y,Y,z,λH=>by rw[show(AN p.AG (k:Int)).C0=0 from H]at h1;simp at h1,(AHF e).2,by simpa using h2⟩
theorem AA5{q:AI}(z:Qa q){l:List BA}(y:SOk l):LR q l=some (GN q (Lh l).1):=by
 have⟨h1,h2⟩:=AAT y;unfold LR;rw[UT y,AY,Ya z h1 ox,AY]
def noP:AI:=⟨0,[]⟩
def noC:Lj:=⟨0,0,0,(default:D8),[],false⟩
def AFC(x:Bc)(rest:List AR)(n:Int):Bc:=cond (decide (((rest.length:Nat):Int)<=n)) ⟨x.Id,x.BU,x.C0,0,[]⟩ ⟨x.Id,x.BU,x.Ab,x.C0,(AN rest n).Key⟩
def APN(x:Bc)(r:D8)(rest:List AR)(n:Int):Lj:=cond (decide (((rest.length:Nat):Int)<=n)) ⟨x.Id,x.Ab,x.C0,r,rest,true⟩ ⟨x.Id,x.Ab,x.C0,⟨r.BU,(AN rest n).Key⟩,rest.take n.toNat,false⟩
def ckP(p:AI)(l:List BA)(id n:Int):AI×List BA×Lj×Int:=
 cond (decide (n<1)) (noP,[],noC,1) (cond ((OE p l id).2 !=0) (noP,[],noC,(OE p l id).2)
  (chP p (OE p l id).1 (AFC (AN p.AG (OE p l id).1) (Wr (Lh l).1 (Pa p (OE p l id).1.toNat)) n),
   GN (chP p (OE p l id).1 (AFC (AN p.AG (OE p l id).1) (Wr (Lh l).1 (Pa p (OE p l id).1.toNat)) n)) (Lh l).1,
   APN (AN p.AG (OE p l id).1) (Pa p (OE p l id).1.toNat) (Wr (Lh l).1 (Pa p (OE p l id).1.toNat)) n,0))
theorem AID(hp:Qa p){l:List BA}(y:SOk l){k:Nat}(z:k<p.AG.length)(r:D8){n:Int}(K:1<=n):(AFC (AN p.AG (k:Int)) (Wr (Lh l).1 r) n).BU.length<JJ/\(AFC (AN p.AG (k:Int)) (Wr (Lh l).1 r) n).Gh.length<JJ:=by
 have⟨h1,h2⟩:=AAT y;have H:=hp.s _ (LK z);unfold AFC;by_cases h:(((Wr (Lh l).1 r).length:Nat):Int)<=n
 ·grind
 ·rw[Bd h];refine⟨H.1,?_⟩;show(AN (Wr (Lh l).1 r) n).Key.length<JJ;obtain⟨m,e⟩:∃m:Nat,n=(m:Int):=⟨n.toNat,by omega⟩;rw[e]at h⊢;exact(h1.k _ (BK.1 (LK (l:=Wr (Lh l).1 r) (i:=m) ox)).1).1
theorem AHP(hp:Qa p)(aa:p.AG.length<=1000){l:List BA}(H:SOk l)(id n:Int):JR p l id n=some (ckP p l id n):=by
 unfold JR ckP;by_cases h:n<1
 ·simp[h,noP,noC]
 rw[Bd h,AP,AP,AFH hp H,AY];cases hm:((OE p l id).2 !=0)with
 |true=>rfl|false=>
  have⟨O,k,e,ef,W,K,hid,Z⟩:=AOJ (p:=p) (l:=l) (id:=id) (by simpa using hm);have hv:=(ABJ.1 O).1;have⟨g1,g2⟩:=AAT H;have X:=AN7 hp W;have hn:=H.n;have N:=AID hp H W (Pa p k) (n:=n) ox;have z:(AN p.AG (k:Int)).Id=id:=hid;rw[AP,AP,A5 ⟨by omega,by omega⟩,AGs hp.l hp.s,AY];have er:(YL p id).1.To=En p.AG k:=by
   rw[YL,if_neg (by simp[hv]),ef,if_neg ox];rfl
  simp only[CM];have hL:∀J:List AR->AA (AI×List BA×Lj×Int),GF l p (OE p l id) (YL p id) J (((l.length:Nat):Int).toNat+1) [] 0=J (Wr (Lh l).1 (Pa p k)):=by
   intro J;rw[<- AMY O W K];refine XM (l:=l) ox (L:=λn a i=>GF l p (OE p l id) (YL p id) J n a i) (J:=J) (f:=λa s=>cond (s.Ab==(ap p.AG k).Ab) (Wr s.BF (Pa p k)) a) (λ_ _=>True) ?_ ?_ ?_ ox Yt
   ·intro n i a hi _;have hm:=H.p _ (AW hi)
    try dsimp only
    rw[GF,e,er];simp only[show(i:Int)<(l.length:Int) by omega,Ay,cond_true,show 0<=(i:Int) by omega,CA,DW,A0 hi,CM];rw[show(⟨(AN p.AG (k:Int)).Gh,En p.AG k⟩:D8)=Pa p k from rfl,AGi ox X,AY];rw[show(AN p.AG (k:Int)).Ab=(ap p.AG k).Ab from rfl];cases(l[i].Ab==(ap p.AG k).Ab)<;>rfl
   ·grind
   ·intro n a _
    try dsimp only
    rw[GF];simp
  rw[hL];rw[e,er,Int.toNat_natCast];unfold AFC APN at*;by_cases y:(((Wr (Lh l).1 (Pa p k)).length:Nat):Int)<=n
  ·rw[Bw y]at N⊢;rw[Bd (show¬n<(((Wr (Lh l).1 (Pa p k)).length:Nat):Int) by omega)];simp only[cond_true,AP]at N⊢;rw[S9 ox W,AY,AA5 (hp.ch N) H,AY,z];rfl
  ·rw[Bd y]at N⊢;rw[Bw (show n<(((Wr (Lh l).1 (Pa p k)).length:Nat):Int) by omega)];simp only[AP,cond_true]at N⊢;have ab:(Wr (Lh l).1 (Pa p k)).length<=584115552256:=Cf (C3 _ _) g2;rw[A5 ⟨by omega,by omega⟩,A5 ⟨by omega,by omega⟩,A5 ox,A5 ⟨by omega,by omega⟩,S9 ox W,AY,AA5 (hp.ch N) H,AY,z];have ec:cpL (Wr (Lh l).1 (Pa p k)) (AH n.toNat (default:AR))=(Wr (Lh l).1 (Pa p k)).take n.toNat:=by
    rw[cpL,Fi,ABn (by simp;omega),Du]
   rw[ec];rfl
def P6(p:AI)(id node:Int):AI×Int:=
 cond ((!Md p||decide (node<1))||decide (16<node)) (noP,1) (cond (decide (Cv p.AG id<0)) (noP,9)
  (cond (((AN p.AG (Cv p.AG id)).C0 !=0)||((AN p.AG (Cv p.AG id)).Ab==node)) (noP,19) (cond (p.Ax==1099511627776) (noP,2)
   (chP p (Cv p.AG id) ⟨(AN p.AG (Cv p.AG id)).Id,(AN p.AG (Cv p.AG id)).BU,(AN p.AG (Cv p.AG id)).Ab,node,(AN p.AG (Cv p.AG id)).BU⟩,0))))
theorem AGe(hp:Qa p)(y:p.AG.length<=1000)(id node:Int):LS p id node=some (P6 p id node):=by
 unfold LS P6;rw[F4 hp.l hp.s,AY];cases((!Md p||decide (node<1))||decide (16<node))with
 |true=>rfl|false=>
  rw[AP,AP,AA6 hp.l,AY];by_cases h:Cv p.AG id<0
  ·rw[Bw h];rfl
  ·have⟨k,e,z⟩:=AD9 h;rw[e,Bd (show¬(k:Int)<0 by omega),AP,AP,A5 ⟨by omega,by omega⟩];cases(((AN p.AG (k:Int)).C0 !=0)||((AN p.AG (k:Int)).Ab==node))with
   |true=>rfl|false=>
    cases(p.Ax==1099511627776)with
    |true=>rfl|false=>rw[AP,AP,AP,AP,S9 ox z,AY]
structure AQU(c:Lj):Prop where
 k:ALz c.Keys
 p:JG c.BF
theorem AGx(hl:l.length<9223372036854775808):Fw l l=some true:=by
 rw[AKc hl hl,(Xd WJ).2 Y]
section
open Go.ChangeShapes
def N7:AI:=⟨0,[]⟩
def Sl(p:AI)(id:Int)(key:A9)(fresh:Int):AI×Int:=
 cond (!Md p) (N7,1) (cond (decide (Cv p.AG id<0)) (N7,9) (cond ((AN p.AG (Cv p.AG id)).C0 !=0) (N7,19)
  (cond (((((!Gm key)||(!Dy (AN p.AG (Cv p.AG id)).BU key))||((En p.AG (Cv p.AG id).toNat !=([]:A9))&&(!Dy key (En p.AG (Cv p.AG id).toNat))))||(decide (fresh<1)))||(decide (1099511627776<fresh))) (N7,1)
   (cond (decide (0<=Cv p.AG fresh)) (N7,8) (cond ((decide ((16:Int)<=(p.AG.length:Int)))||(decide (1099511627776<=p.Ax))) (N7,2)
    (⟨p.Ax+1,(p.AG.take ((Cv p.AG id).toNat+1)++[⟨fresh,key,(AN p.AG (Cv p.AG id)).Ab,0,[]⟩])++p.AG.drop ((Cv p.AG id).toNat+1)⟩,0))))))
theorem AH6(h:Md p=true):0<=p.Ax/\p.Ax<=1099511627776:=by
 simp only[Md,VA,Aq,Cb,BQ,Ai]at h;omega
end
section
open Go.ChangeShapes
def Ql(p:AI)(id:Int):AI×Int:=
 cond (!Md p) (N7,1) (cond (decide (Cv p.AG id<0)||decide ((p.AG.length:Int)<=Cv p.AG id+1)) (N7,9)
  (cond ((((AN p.AG (Cv p.AG id)).C0 !=0)||((AN p.AG (Cv p.AG id+1)).C0 !=0))||((AN p.AG (Cv p.AG id)).Ab !=(AN p.AG (Cv p.AG id+1)).Ab)) (N7,19)
   (cond (decide (1099511627776<=p.Ax)) (N7,2) (⟨p.Ax+1,p.AG.take ((Cv p.AG id).toNat+1)++p.AG.drop ((Cv p.AG id).toNat+2)⟩,0))))
end
section
open Go.ChangeShapes
theorem AAX{a b:Int}{q:Prop}[Decidable q](h:a=b↔q):(a==b)=decide q:=by
 by_cases y:q
 ·simp[h.2 y,y]
 ·simp[y,mt h.1 y]
theorem next_ne(h:Md p=true){k:Nat}(z:k+1<p.AG.length):(AN p.AG ((k+1:Nat):Int)).BU≠[]:=by
 intro he;have y:=ADm h z;rw[Wb]at y;simp only[BQ,he,U4]at y;simp at y
theorem UW(h:¬Cv p.AG id<0):∃k:Nat,Cv p.AG id=(k:Int)/\k<p.AG.length:=by
 have y:=S5 (λx:Bc=>x.Id==id) p.AG 0;refine⟨(Cv p.AG id).toNat,by omega,?_⟩;unfold Cv at h⊢;omega
theorem AGh{key:A9}{fresh:Int}(hl:p.AG.length<JJ)(W:∀x∈p.AG,x.BU.length<JJ/\x.Gh.length<JJ)(X:key.length<JJ):Jh p id key fresh=some (Sl p id key fresh):=by
 unfold Jh Sl;rw[F4 hl W,AY];cases hv:Md p with
 |false=>rfl|true=>
  have hle:=U7 hv;have Z:=AH6 hv;rw[QZ hl,AY,QZ hl];by_cases h:Cv p.AG id<0
  ·simp[h,N7]
  ·have⟨k,H,aa⟩:=UW h;rw[H,WZ X];rw[BB (show k<9223372036854775807 by omega)];have hn:Iy fresh=some (decide (1<=fresh)&&decide (fresh<=1099511627776)):=Y;rw[hn];simp only[show¬(k:Int)<0 by omega,Dp,AP,show 0<=(k:Int) by omega,show(k:Int)<(p.AG.length:Int) by omega,CA,DW,BC,GJ,cond_true,AY,Int.toNat_natCast];have z:∀A:Bool,((!A)||(!((Dy (AN p.AG (k:Int)).BU key)&&((((k+1:Nat):Int)==((p.AG.length:Nat):Int))||(Dy key (cond (((((k+1:Nat):Int)==((p.AG.length:Nat):Int))==false)&&((Dy (AN p.AG (k:Int)).BU key)==true)) (AN p.AG ((k+1:Nat):Int)) default).BU)))))=
    (((!A)||(!Dy (AN p.AG (k:Int)).BU key))||((En p.AG k !=([]:A9))&&(!Dy key (En p.AG k)))):=by
    intro A;by_cases y:k+1<p.AG.length
    ·have h1:(((k+1:Nat):Int)==((p.AG.length:Nat):Int))=false:=by simp;omega
     have h2:En p.AG k=(AN p.AG ((k+1:Nat):Int)).BU:=by simp[En,y]
     have h3:(En p.AG k !=([]:A9))=true:=by rw[h2];simpa using next_ne hv y
     rw[h1,h3,h2];cases A<;>cases Dy (AN p.AG (k:Int)).BU key<;>simp
    ·have h1:(((k+1:Nat):Int)==((p.AG.length:Nat):Int))=true:=by simp;omega
     have h2:En p.AG k=[]:=by simp[En,y]
     rw[h1,h2];cases A<;>cases Dy (AN p.AG (k:Int)).BU key<;>simp
   rw[A5 (by
    intro O;simp only[Aq,B1]at O;have:=O.1;simp at this;omega)]
   cases((AN p.AG (k:Int)).C0 !=0)with
   |true=>rfl|false=>
    rw[AP,AP,z (Gm key)];cases hq:(((!Gm key)||(!Dy (AN p.AG (k:Int)).BU key))||((En p.AG k !=([]:A9))&&(!Dy key (En p.AG k))))with
    |true=>simp[N7]|false=>
     have hf:(!(decide (1<=fresh)&&decide (fresh<=1099511627776)))=(decide (fresh<1)||decide (1099511627776<fresh)):=by
      by_cases h1:1<=fresh<;>by_cases h2:fresh<=1099511627776<;>simp[h1,h2]<;>omega
     simp only[DE,FP,AY,Ck,hf];cases(decide (fresh<1)||decide (1099511627776<fresh))with
     |true=>rfl|false=>
      simp only[AP];cases decide (0<=Cv p.AG fresh)with
      |true=>rfl|false=>
       have K:((((p.AG.length:Nat):Int)==(16:Int))||(p.Ax==(1099511627776:Int)))=(decide ((16:Int)<=(p.AG.length:Int))||decide (1099511627776<=p.Ax)):=by
        have e1:(((p.AG.length:Nat):Int)==(16:Int))=decide ((16:Int)<=(p.AG.length:Int)):=AAX ox;have e2:(p.Ax==(1099511627776:Int))=decide (1099511627776<=p.Ax):=AAX ox;rw[e1,e2]
       rw[K];cases N:(decide ((16:Int)<=(p.AG.length:Int))||decide (1099511627776<=p.Ax))with
       |true=>rfl|false=>
        simp only[BQ,Ai]at N;simp only[AP];rw[A5 ox,A5 ox,A5 ox,Vg ox ox]
theorem AG2(hl:p.AG.length<JJ)(N:∀x∈p.AG,x.BU.length<JJ/\x.Gh.length<JJ):Ji p id=some (Ql p id):=by
 unfold Ji Ql;rw[F4 hl N,AY];cases hv:Md p with
 |false=>rfl|true=>
  have hle:=U7 hv;have O:=AH6 hv;rw[QZ hl,AY];by_cases h:Cv p.AG id<0
  ·simp[h,N7]
  ·have⟨k,y,W⟩:=UW h;rw[y];have z:AB ((k:Int)+1)=(k:Int)+1:=Vg ox ox;have H:AB ((k:Int)+2)=(k:Int)+2:=Vg ox ox;simp only[z,H];have X:((k:Int)+1==((p.AG.length:Nat):Int))=decide ((p.AG.length:Int)<=(k:Int)+1):=AAX ox;rw[X];simp only[show¬(k:Int)<0 by omega,Dp,Ck,AP,show 0<=(k:Int) by omega,show(k:Int)<(p.AG.length:Int) by omega,CA,DW,BC];by_cases K:(p.AG.length:Int)<=(k:Int)+1
   ·simp[K,N7]
   ·simp only[K,Dp,AP,show 0<=(k:Int)+1 by omega,show(k:Int)+1<(p.AG.length:Int) by omega,CA,DW];cases((((AN p.AG (k:Int)).C0 !=0)||((AN p.AG ((k:Int)+1)).C0 !=0))||((AN p.AG (k:Int)).Ab !=(AN p.AG ((k:Int)+1)).Ab))with
    |true=>rfl|false=>
     have Z:(p.Ax==(1099511627776:Int))=decide (1099511627776<=p.Ax):=AAX ox;rw[Z];cases hq:decide (1099511627776<=p.Ax)with
     |true=>rfl|false=>
      simp only[Ai]at hq;simp only[AP];rw[A5 ox,A5 ⟨Yt,by omega,by omega⟩,A5 ox,Vg ox ox];have e3:((k:Int)+1).toNat=k+1:=ox
      have e4:((k:Int)+2).toNat=k+2:=ox
      rw[e3,e4,Int.toNat_natCast]
end
variable {ah:List AR}
theorem AFL(p:AI)(l:List AR):(GN p l).length<=17/\∀s∈GN p l,s.BF.length<=l.length:=by
 unfold GN;have y:=Kz p;split
 ·refine⟨by simpa using y,λs z=>?_⟩;obtain⟨nd,_,rfl⟩:=List.mem_map.1 z;exact C3 _ _
 ·exact⟨by simp,by simp⟩
section
theorem Yu{l:List Bc}{k:Nat}{x:Bc}(y:k<l.length):ap (l.set k x) i=if i=k then x else ap l i:=by
 unfold ap AN;simp only[Int.toNat_natCast,DD,H2];by_cases h:k=i
 ·subst h;simp[y]
 ·simp[h,AJ1 h]
theorem AJN{l:List Bc}{k:Nat}{x:Bc}(y:k<l.length)(z:x.BU=(ap l k).BU):En (l.set k x) i=En l i:=by
 by_cases h:i+1<l.length
 ·rw[JY h,JY (by simpa using h),Yu y];split
  ·rename_i e;rw[z,e]
  ·rfl
 ·rw[Np h,Np (by simpa using h)]
theorem Qo{l:List Bc}{k:Nat}{x:Bc}(y:k<l.length)(z:x.BU=(ap l k).BU):(ap (l.set k x) i).BU=(ap l i).BU:=by
 rw[Yu y];split
 ·rename_i e;rw[z,e]
 ·rfl
theorem AOB{v w:Int}{l:List Bc}(h:PV v l){k:Nat}(y:k<l.length){x:Bc}(hid:x.Id=(ap l k).Id)(H:x.BU=(ap l k).BU)(K:1<=x.Ab/\x.Ab<=16)(hm:ABl x (En l k) (decide (k+1=l.length)))(hw:0<=w/\w<=1099511627776):PV w (l.set k x):=by
 have z:∀i,(ap (l.set k x) i).Id=(ap l i).Id:=λi=>by
  rw[Yu y];split
  ·rename_i e;rw[hid,e]
  ·rfl
 have hlen:(l.set k x).length=l.length:=Cr;refine⟨hw,by rw[hlen];exact h.len,by rw[Qo y H];exact h.head,λi hi=>?_,λi hi=>?_,λi hi=>?_,λi hi=>?_,λi hi=>?_,λi j N hi=>?_⟩
 ·rw[hlen]at hi;rw[Qo y H];exact h.Az i hi
 ·rw[hlen]at hi;rw[Qo y H,Qo y H];exact h.Wu i hi
 ·rw[hlen]at hi;rw[z];exact h.id i hi
 ·rw[hlen]at hi;rw[Yu y];split
  ·exact K
  ·exact h.node i hi
 ·rw[hlen]at hi⊢;rw[AJN y H,Yu y];split
  ·rename_i e;rw[e];exact hm
  ·exact h.mov i hi
 ·rw[hlen]at hi;rw[z,z];exact h.uniq i j N hi
theorem AOR{l:List Bc}{k:Nat}{x:Bc}(y:k<l.length)(z:x.BU=(ap l k).BU){key:A9}:OX (l.set k x) i key↔OX l i key:=by
 have hlen:(l.set k x).length=l.length:=Cr;constructor
 ·rintro⟨a,b,c⟩;rw[hlen]at a c;rw[Qo y z]at b c;exact⟨a,b,c⟩
 ·rintro⟨a,b,c⟩;exact⟨by rw[hlen];exact a,by rw[Qo y z];exact b,by rw[hlen,Qo y z];exact c⟩
theorem AJK{P:AI}{w:Int}{k:Nat}(y:k<P.AG.length){x:Bc}(z:x.BU=(ap P.AG k).BU)(H:PV w (P.AG.set k x)){key:A9}(hi:OX P.AG i key):Bl ⟨w,P.AG.set k x⟩ key=Nw (if i=k then x else ap P.AG i) key:=by
 rw[KO (p:=⟨w,P.AG.set k x⟩) H ((AOR y z).2 hi),Yu y]
theorem ALF(h:kvB s=true):Gm s=true/\s≠[]:=by
 unfold kvB at h;rw[Aq,Aq,AZ,AZ,Cb,Ca]at h;have⟨⟨h1,h2⟩,h3⟩:=h;refine⟨?_,λe=>by rw[e]at h1;simp at h1⟩;unfold Gm;rw[Aq,AZ,Cb,Ca];refine⟨h2,λi hi=>?_⟩;have y:kch (B0 s i)=true:=by simpa using h3 i hi
 unfold kch at y;simp only[ES,Aq,AZ,B1]at y;rw[ES,AZ,AZ];omega
structure MV(Q:AI)(j:Nat)(m:Int):Prop where
 v:Md Q=true
 k:j<Q.AG.length
 d:(ap Q.AG j).C0=0
 ne:(ap Q.AG j).Ab≠m
 nd:1<=m/\m<=16
 ver:Q.Ax<=1099511627746
structure AQT(P:AI)(k:Nat)(done:A9):Prop where
 b:Gm done=true
 lo:Dy done (ap P.AG k).BU=false
 hi:k+1<P.AG.length->Dy done (ap P.AG (k+1)).BU=true
variable {P:AI} {k:Nat} {node:Int}
theorem AAQ(hv:Md p=true)(y:G5 ah=true):dvB p (GN p ah)=true:=by
 rw[GN,hv,y,FJ,if_pos Y];refine ABJ.2 ⟨hv,?_,λs z=>?_⟩
 ·rw[JI];exact List.map_id' _
 ·obtain⟨nd,_,rfl⟩:=List.mem_map.1 z;exact⟨HS y _,λx H=>eq_of_beq (BK.1 H).2⟩
theorem AFM(hv:Md p=true)(y:G5 ah=true):Lh (GN p ah)=(ah,0):=by
 have⟨u,H,K,N⟩:=XX (AAQ hv y);rw[H,UO (Eg.1 K).2 (Eg.1 y).2 λx=>?_];rw[N,GN,hv,y,FJ,if_pos Y];constructor
 ·rintro⟨s,O,z⟩;obtain⟨nd,_,rfl⟩:=List.mem_map.1 O;exact(BK.1 z).1
 ·intro z;exact⟨Sn p ah (Bl p x.Key),List.mem_map.2 ⟨_,Nn hv _,Y⟩,BK.2 ⟨z,by simp⟩⟩
theorem AAP(p:AI)(y:JG ah)(hl:ah.length<=34359738368):SOk (GN p ah):=by
 have⟨h1,h2⟩:=AFL p ah;refine⟨by omega,λs hm=>?_⟩;have:=h2 s hm;refine⟨?_,by omega⟩;unfold GN at hm;split at hm
 ·obtain⟨nd,_,rfl⟩:=List.mem_map.1 hm;exact y.filter _
 ·simp at hm
end
def AJU{α:Type}(lt:α->α->Bool)(x:α):List α->List α
 |[]=>[x]|y::l=>cond (lt y x) (y::AJU lt x l) (x::y::l)
def isG{α:Type}(lt:α->α->Bool):List α->List α
 |[]=>[]|x::l=>AJU lt x (isG lt l)
theorem Yi{α:Type}(lt:α->α->Bool)(x:α):∀l,(AJU lt x l).Perm (x::l)
 |[]=>List.Perm.refl _|y::l=>by
  unfold AJU;cases lt y x with
  |true=>exact((Yi lt x l).cons y).trans (List.Perm.swap x y l)|false=>exact List.Perm.refl _
theorem AFU{α:Type}(lt:α->α->Bool):∀l,(isG lt l).Perm l
 |[]=>List.Perm.refl _|x::l=>(Yi lt x _).trans ((AFU lt l).cons x)
theorem ZZ{α:Type}{lt:α->α->Bool}(ht:∀a b c,lt b a=false->lt c b=false->lt c a=false)(K:∀a b,lt a b=true->lt b a=false)(x:α):∀l:List α,l.Pairwise (λa b=>lt b a=false)->(AJU lt x l).Pairwise (λa b=>lt b a=false)
 |[],_=>List.pairwise_singleton _ _|y::l,h=>by
  have⟨h1,h2⟩:=B6.1 h;unfold AJU;cases e:lt y x with
  |true=>
   refine B6.2 ⟨λz H=>?_,ZZ ht K x l h2⟩;rcases Aj.1 ((Yi lt x l).subset H)with rfl|H
   ·exact K _ _ e
   ·exact h1 z H
  |false=>
   refine B6.2 ⟨λz H=>?_,h⟩;rcases Aj.1 H with rfl|H
   ·exact e
   ·exact ht _ _ _ e (h1 z H)
theorem ABD{α:Type}{lt:α->α->Bool}(ht:∀a b c,lt b a=false->lt c b=false->lt c a=false)(y:∀a b,lt a b=true->lt b a=false):∀l:List α,(isG lt l).Pairwise (λa b=>lt b a=false)
 |[]=>List.Pairwise.nil|x::l=>ZZ ht y x _ (ABD ht y l)
theorem AKY:Fx=isG (λa b:Int=>decide (a<b)):=by
 funext l
 refine List.Perm.eq_of_pairwise (le:=λa b:Int=>a<=b) (λa b _ _ h1 h2=>by omega) ?_ ?_ ((List.mergeSort_perm l _).trans (AFU _ l).symm)
 ·exact(List.pairwise_mergeSort (le:=λx y:Int=>decide (x<=y)) (λa b c h1 h2=>by simp at*;omega) (λa b=>by simp;omega) l).imp λ{a b}h=>by simpa using h
 ·exact(ABD (lt:=λa b:Int=>decide (a<b)) (λa b c h1 h2=>by simp at*;omega) (λa b h=>by simp at*;omega) l).imp λ{a b}h=>by simpa using h
def ky(i:Nat):A9:=[97,UInt8.ofNat (48+i/10),UInt8.ofNat (48+i%10)]
def rg(a b:Nat):List AR:=(List.range (b-a)).map λi=>⟨ky (a+i),⟨1,1,[]⟩⟩
def q0:AI:=⟨0,[⟨1,[],1,0,[]⟩]⟩
def q1:AI:=⟨1,[⟨1,[],1,0,[]⟩,⟨2,[97,50,48],1,0,[]⟩]⟩
def q2:AI:=⟨2,[⟨1,[],1,2,[]⟩,⟨2,[97,50,48],1,0,[]⟩]⟩
def q3:AI:=⟨3,[⟨1,[],1,2,[97,49,54]⟩,⟨2,[97,50,48],1,0,[]⟩]⟩
def q4:AI:=⟨4,[⟨1,[],2,0,[]⟩,⟨2,[97,50,48],1,0,[]⟩]⟩
variable {bu:AI×Int}
def AGv(m:HC):Bool:=
 cond (m.BD==1) ((m.Ab==0)&&(m.N==0)) (cond (m.BD==2) (((m.New==0)&&(m.Ab==0))&&(m.N==0)&&(m.Key==([]:A9))) (cond (m.BD==3) (((m.New==0)&&(m.N==0))&&(m.Key==([]:A9))) (cond (m.BD==4) (((m.New==0)&&(m.Ab==0))&&(m.Key==([]:A9))) false)))
theorem AKp(m:HC):Lu m=some (AGv m):=by
 unfold Lu AGv;cases(m.BD==1)<;>cases(m.BD==2)<;>cases(m.BD==3)<;>cases(m.BD==4)<;>rfl
theorem AE4{m:HC}(h:AGv m=true):m.BD=1\/m.BD=2\/m.BD=3\/m.BD=4:=by
 unfold AGv at h;by_cases h1:m.BD=1
 ·exact .inl h1
 ·by_cases h2:m.BD=2
  ·exact .inr (.inl h2)
  ·by_cases h3:m.BD=3
   ·exact .inr (.inr (.inl h3))
   ·by_cases y:m.BD=4
    ·exact .inr (.inr (.inr y))
    ·rw[Bh.2 h1,Bh.2 h2,Bh.2 h3,Bh.2 y]at h;cases h
def PZ(p:AI)(l:List BA)(m:HC):AI×Int:=
 if m.BD=1 then Sl p m.Part m.Key m.New else if m.BD=2 then Ql p m.Part else if m.BD=3 then P6 p m.Part m.Ab else((ckP p l m.Part m.N).1,(ckP p l m.Part m.N).2.2.2)
def Ys(p:AI)(l:List BA)(m:HC):AI×List BA×Int:=
 cond (!dvB p l|| !AGv m) (noP,[],1) (cond ((PZ p l m).2 !=0) (noP,[],(PZ p l m).2) ((PZ p l m).1,GN (PZ p l m).1 (Lh l).1,0))
theorem Mz:Qa noP:=⟨by decide,λx y=>by cases y⟩
theorem JW{b:Bool}{x:AI×Int}(h1:b=true->Qa x.1)(h2:b=false->Qa bu.1):Qa (cond b x bu).1:=by
 cases b with
 |true=>exact h1 Y|false=>exact h2 Y
theorem ACu(hp:Qa p)(z:p.AG.length<=1000){key:A9}(H:key.length<JJ)(id fresh:Int):Qa (Sl p id key fresh).1:=by
 have K:JJ=9223372036854775808:=Y;unfold Sl;refine JW (λ_=>Mz) λ_=>JW (λ_=>Mz) λ_=>JW (λ_=>Mz) λ_=>JW (λ_=>Mz) λ_=>JW (λ_=>Mz) λ_=>JW (λ_=>Mz) λ_=>⟨?_,λx y=>?_⟩
 ·show((p.AG.take _++[_])++p.AG.drop _).length<JJ;rw[AT,AT,Ao,Bj];simp only[Bz,HI];omega
 ·rcases BW.1 y with y|y
  ·rcases BW.1 y with y|y
   ·exact hp.s x (JM y)
   ·rw[List.mem_singleton]at y;subst y;exact⟨H,by show([]:A9).length<JJ;decide⟩
  ·exact hp.s x (DK y)
theorem ACv(hp:Qa p)(z:p.AG.length<=1000)(id:Int):Qa (Ql p id).1:=by
 have H:JJ=9223372036854775808:=Y;unfold Ql;refine JW (λ_=>Mz) λ_=>JW (λ_=>Mz) λ_=>JW (λ_=>Mz) λ_=>JW (λ_=>Mz) λ_=>⟨?_,λx y=>?_⟩
 ·show(p.AG.take _++p.AG.drop _).length<JJ;rw[AT,Ao,Bj];omega
 ·rcases BW.1 y with y|y
  ·exact hp.s x (JM y)
  ·exact hp.s x (DK y)
theorem ANM{l:List Bc}(y:∀x∈l,x.BU.length<JJ/\x.Gh.length<JJ)(i:Int):(AN l i).BU.length<JJ/\(AN l i).Gh.length<JJ:=by
 by_cases h:i.toNat<l.length
 ·have:AN l i∈l:=by
   have e:AN l i=l[i.toNat]:=by simp[AN,DD,h]
   rw[e];exact AW h
  exact y _ this
 ·have e:AN l i=default:=by simp[AN,DD,G8 (Nat.le_of_not_lt h)]
  rw[e];exact⟨by show([]:A9).length<JJ;decide,by show([]:A9).length<JJ;decide⟩
theorem AH7(hp:Qa p)(i:Int){x:Bc}(H:i.toNat<p.AG.length->x.BU.length<JJ/\x.Gh.length<JJ):Qa (chP p i x):=by
 refine⟨by show(p.AG.set _ _).length<JJ;rw[Cr];exact hp.l,λy z=>?_⟩;have z:y∈p.AG.set i.toNat x:=z;by_cases h:i.toNat<p.AG.length
 ·rcases X3 z with z|rfl
  ·exact hp.s y z
  ·exact H h
 ·rw[List.set_eq_of_length_le (Nat.le_of_not_lt h)]at z;exact hp.s y z
theorem ACt(hp:Qa p)(id node:Int):Qa (P6 p id node).1:=by
 unfold P6;refine JW (λ_=>Mz) λ_=>JW (λ_=>Mz) λ_=>JW (λ_=>Mz) λ_=>JW (λ_=>Mz) λ_=>AH7 hp _ λ_=>?_;have:=ANM hp.s (Cv p.AG id);exact⟨this.1,this.1⟩
theorem AOC(hp:Qa p){l:List BA}(z:SOk l)(id n:Int):Qa (ckP p l id n).1:=by
 unfold ckP;by_cases y:n<1
 ·rw[Bw y];exact Mz
 ·rw[Bd y,AP];cases((OE p l id).2 !=0)with
  |true=>exact Mz|false=>
   refine AH7 hp _ λH=>?_;have e:AN p.AG (OE p l id).1=AN p.AG ((OE p l id).1.toNat:Int):=by unfold AN;rw[Int.toNat_natCast]
   rw[e];exact AID hp z H _ ox
theorem AKo(hp:Qa p)(y:p.AG.length<=1000){l:List BA}(z:SOk l){m:HC}(H:m.Key.length<JJ):Qa (PZ p l m).1:=by
 unfold PZ;split
 ·exact ACu hp y H _ _
 ·split
  ·exact ACv hp y _
  ·split
   ·exact ACt hp _ _
   ·exact AOC hp z _ _
theorem YZ{l:List BA}{m:HC}(y:SOk l)(z:dvB p l=true){r:AI×Int}(H:Qa r.1):EC ⟨p,l,m⟩ r.1 r.2=some (cond (r.2 !=0) (noP,[],r.2) (r.1,GN r.1 (Lh l).1,0)):=by
 have⟨u,hu,_⟩:=XX z;have⟨K,N⟩:=AAT y;unfold EC;cases(r.2 !=0)with
 |true=>rfl|false=>
  rw[AP,AP];show Az (Ic l) _=_;rw[UT y,AY,show(Lh l).2=0 by rw[hu],show((0:Int) !=0)=false from rfl,AP,Ya H K ox,AY]
theorem AHU(hp:Qa p)(y:p.AG.length<=1000){l:List BA}(z:SOk l){m:HC}(K:m.Key.length<JJ):Hv p l m=some (Ys p l m):=by
 unfold Hv Ys;rw[RU hp z,AY];cases H:dvB p l with
 |false=>simp[CG,Az];rfl|true=>
  rw[show((!true)==false)=true from rfl,FP,AKp,AY];cases hm:AGv m with
  |false=>rfl|true=>
   rw[show((!true)||(!true))=false from rfl,AP,AP];unfold PZ;by_cases h1:m.BD=1
   ·rw[if_pos h1,if_pos h1];unfold Hs;show Az (Jh p m.Part m.Key m.New) _=_;rw[AGh hp.l hp.s K,AY,YZ z H (ACu hp y K _ _),AY]
   ·rw[if_neg h1,if_neg h1];by_cases h2:m.BD=2
    ·rw[if_pos h2,if_pos h2];unfold Ht;show Az (Ji p m.Part) _=_;rw[AG2 hp.l hp.s,AY,YZ z H (ACv hp y _),AY]
    ·rw[if_neg h2,if_neg h2];by_cases h3:m.BD=3
     ·rw[if_pos h3,if_pos h3];unfold IM;show Az (LS p m.Part m.Ab) _=_;rw[AGe hp y,AY,YZ z H (ACt hp _ _),AY]
     ·have O:m.BD=4:=by
       rcases AE4 hm with h|h|h|h
       ·exact absurd h h1
       ·exact absurd h h2
       ·exact absurd h h3
       ·exact h
      rw[if_neg h3,if_neg h3,if_pos O];unfold Hu;show Az (JR p l m.Part m.N) _=_;rw[AHP hp y z,AY];unfold ckP;cases decide (m.N<1)with
      |true=>rfl|false=>
       rw[AP];cases W:((OE p l m.Part).2 !=0)with
       |true=>rw[cond_true];show cond ((OE p l m.Part).2 !=0) _ _=some (cond ((OE p l m.Part).2 !=0) _ _);rw[W];rfl|false=>rfl
variable {Z:Int}
section
open Go.ChangeShapes
def UZ(l:List Bc)(k:Nat)(key:A9)(fresh:Int):List Bc:=(l.take (k+1)++[⟨fresh,key,(ap l k).Ab,0,[]⟩])++l.drop (k+1)
structure AGQ(v:Int)(l:List Bc)(k:Nat)(key:A9)(fresh:Int):Prop where
 pv:PV v l
 lt:k<l.length
 dest:(ap l k).C0=0
 Az:Gm key=true
 lo:Dy (ap l k).BU key=true
 hi:k+1<l.length->Dy key (ap l (k+1)).BU=true
 fr:1<=fresh/\fresh<=1099511627776
 new:∀i,i<l.length->(ap l i).Id≠fresh
 len:l.length<16
 ver:v<1099511627776
theorem ADe(p:AI)(id:Int)(key:A9)(fresh:Int):((Sl p id key fresh).2≠0/\(Sl p id key fresh).1=N7)\/∃k:Nat,Cv p.AG id=(k:Int)/\AGQ p.Ax p.AG k key fresh/\Sl p id key fresh=(⟨p.Ax+1,UZ p.AG k key fresh⟩,0):=by
 unfold Sl;cases hv:Md p with
 |false=>left;simp|true=>
  have pv:=Lg.1 hv;simp only[BC,AP];by_cases h:Cv p.AG id<0
  ·grind
  have⟨k,y,z⟩:=UW h;rw[y];simp only[show¬(k:Int)<0 by omega,Dp,AP,Int.toNat_natCast]
  change((cond ((ap p.AG k).C0 !=0) _ _:AI×Int).2≠0/\(cond ((ap p.AG k).C0 !=0) _ _:AI×Int).1=N7)\/_
  change(((cond ((ap p.AG k).C0 !=0) (N7,19) (cond (((((!Gm key)||(!Dy (ap p.AG k).BU key))||((En p.AG k !=([]:A9))&&(!Dy key (En p.AG k))))||(decide (fresh<1)))||(decide (1099511627776<fresh))) (N7,1)
   (cond (decide (0<=Cv p.AG fresh)) (N7,8) (cond ((decide ((16:Int)<=(p.AG.length:Int)))||(decide (1099511627776<=p.Ax))) (N7,2)
    (⟨p.Ax+1,UZ p.AG k key fresh⟩,0)))):AI×Int).2≠0/\(cond ((ap p.AG k).C0 !=0) (N7,19) (cond (((((!Gm key)||(!Dy (ap p.AG k).BU key))||((En p.AG k !=([]:A9))&&(!Dy key (En p.AG k))))||(decide (fresh<1)))||(decide (1099511627776<fresh))) (N7,1)
   (cond (decide (0<=Cv p.AG fresh)) (N7,8) (cond ((decide ((16:Int)<=(p.AG.length:Int)))||(decide (1099511627776<=p.Ax))) (N7,2)
    (⟨p.Ax+1,UZ p.AG k key fresh⟩,0)))):AI×Int).1=N7)\/∃H:Nat,(k:Int)=(H:Int)/\AGQ p.Ax p.AG H key fresh/\(cond ((ap p.AG k).C0 !=0) (N7,19) (cond (((((!Gm key)||(!Dy (ap p.AG k).BU key))||((En p.AG k !=([]:A9))&&(!Dy key (En p.AG k))))||(decide (fresh<1)))||(decide (1099511627776<fresh))) (N7,1)
   (cond (decide (0<=Cv p.AG fresh)) (N7,8) (cond ((decide ((16:Int)<=(p.AG.length:Int)))||(decide (1099511627776<=p.Ax))) (N7,2)
    (⟨p.Ax+1,UZ p.AG k key fresh⟩,0)))):AI×Int)=(⟨p.Ax+1,UZ p.AG H key fresh⟩,0))
  cases h1:((ap p.AG k).C0 !=0)with
  |true=>left;simp|false=>
   simp only[AP];cases h2:(((((!Gm key)||(!Dy (ap p.AG k).BU key))||((En p.AG k !=([]:A9))&&(!Dy key (En p.AG k))))||(decide (fresh<1)))||(decide (1099511627776<fresh)))with
   |true=>left;simp|false=>
    simp only[AP];cases h3:decide (0<=Cv p.AG fresh)with
    |true=>left;simp|false=>
     simp only[AP];cases N:((decide ((16:Int)<=(p.AG.length:Int)))||(decide (1099511627776<=p.Ax)))with
     |true=>left;simp|false=>
      right;simp only[BQ,ED,EE,Ai,Gn]at h1 h2 h3 N;refine⟨k,Y,⟨pv,z,h1,h2.1.1.1.1,h2.1.1.1.2,λK=>?_,⟨by omega,by omega⟩,AHG.1 ox,by omega,by omega⟩,Y⟩;rcases h2.1.1.2 with g|g
      ·rw[JY K]at g;have:=next_ne hv K;exact absurd g this
      ·rw[JY K]at g;exact g
section
variable {v:Int} {l:List Bc} {k:Nat} {key:A9} {fresh:Int}
theorem AAV(y:k<l.length):(UZ l k key fresh).length=l.length+1:=by
 simp only[UZ,AT,Ao,Bj,Bz,HI];omega
theorem AHL(y:k<l.length)(i:Nat):ap (UZ l k key fresh) i=if i<=k then ap l i else if i=k+1 then⟨fresh,key,(ap l k).Ab,0,[]⟩else ap l (i-1):=by
 unfold UZ;have h1:(l.take (k+1)).length=k+1:=by simp;omega
 rw[AHX,AHX];simp only[AT,h1,Bz,HI];by_cases hi:i<=k
 ·rw[if_pos ox,if_pos ox,if_pos hi,AAY _ ox]
 ·rw[if_neg hi];by_cases he:i=k+1
  ·rw[if_pos he,if_pos ox,if_neg ox,he,Vd];rfl
  ·rw[if_neg he,if_neg ox,AIf]
   congr 1;omega
theorem ALW(h:AGQ v l k key fresh)(i:Nat):En (UZ l k key fresh) i=if i<k then En l i else if i=k then key else En l (i-1):=by
 have y:=h.lt;by_cases hi:i+1<l.length+1
 ·rw[JY (by rw[AAV y];exact hi),AHL y];by_cases h1:i<k
  ·rw[if_pos ox,if_pos h1,JY ox]
  ·rw[if_neg ox,if_neg h1];by_cases h2:i=k
   ·rw[if_pos ox,if_pos h2]
   ·rw[if_neg ox,if_neg h2,JY ox]
    congr 2;omega
 ·rw[Np (by rw[AAV y];omega),if_neg ox,if_neg ox,Np ox]
theorem AOb(h:AGQ v l k key fresh):PV (v+1) (UZ l k key fresh):=by
 have z:=h.lt;have pv:=h.pv;have hl:=AAV (key:=key) (fresh:=fresh) z;have hv:=pv.ver;have hlen:=h.len;have K:=h.ver;have y:=AHL (l:=l) (key:=key) (fresh:=fresh) z;refine⟨⟨by omega,by omega⟩,⟨by omega,by omega⟩,?_,?_,?_,?_,?_,?_,?_⟩
 ·rw[y,if_pos ox];exact pv.head
 ·intro i hi;rw[hl]at hi;rw[y];by_cases h1:i<=k
  ·rw[if_pos h1];exact pv.Az i ox
  ·rw[if_neg h1];by_cases h2:i=k+1
   ·rw[if_pos h2];exact h.Az
   ·rw[if_neg h2];exact pv.Az _ ox
 ·intro i hi;rw[hl]at hi;rw[y,y];by_cases h1:i+1<=k
  ·rw[if_pos ox,if_pos h1];exact pv.Wu i ox
  ·rw[if_neg h1];by_cases h2:i=k
   ·rw[if_pos ox,if_pos ox,h2];exact h.lo
   ·rw[if_neg ox,if_neg (by omega:¬i+1=k+1)];by_cases h3:i=k+1
    ·rw[if_pos h3,h3];exact h.hi ox
    ·rw[if_neg h3];have:=pv.Wu (i-1) ox;rwa[show i-1+1=i+1-1 by omega]at this
 ·intro i hi;rw[hl]at hi;rw[y];by_cases h1:i<=k
  ·rw[if_pos h1];exact pv.id i ox
  ·rw[if_neg h1];by_cases h2:i=k+1
   ·rw[if_pos h2];exact h.fr
   ·rw[if_neg h2];exact pv.id _ ox
 ·intro i hi;rw[hl]at hi;rw[y];by_cases h1:i<=k
  ·rw[if_pos h1];exact pv.node i ox
  ·rw[if_neg h1];by_cases h2:i=k+1
   ·rw[if_pos h2];exact pv.node k z
   ·rw[if_neg h2];exact pv.node _ ox
 ·intro i hi;rw[hl]at hi;rw[y,ALW h,hl];by_cases h1:i<k
  ·rw[if_pos ox,if_pos h1];have:=pv.mov i ox;rwa[show decide (i+1=l.length)=false by simp;omega,show decide (i+1=l.length+1)=false by simp;omega]at*
  ·rw[if_neg h1];by_cases h2:i=k
   ·rw[if_pos ox,if_pos h2,h2];exact⟨λ_=>(pv.mov k z).done h.dest,λH=>absurd h.dest H⟩
   ·rw[if_neg h2,if_neg ox];by_cases h3:i=k+1
    ·rw[if_pos h3];exact⟨λ_=>Y,λH=>absurd Y H⟩
    ·rw[if_neg h3];have:=pv.mov (i-1) ox;rwa[show decide (i-1+1=l.length)=decide (i+1=l.length+1) by congr 1;apply propext;omega]at this
 ·intro i j O hi;rw[hl]at hi;rw[y,y];by_cases h1:i<=k
  ·rw[if_pos h1,if_pos ox];exact pv.uniq i j O ox
  ·rw[if_neg h1];by_cases h2:i=k+1
   ·rw[if_pos h2,if_pos ox];exact h.new j ox
   ·rw[if_neg h2];by_cases h3:j<=k
    ·rw[if_pos h3];exact pv.uniq _ _ ox ox
    ·rw[if_neg h3];by_cases N:j=k+1
     ·rw[if_pos N];exact(h.new _ ox).symm
     ·rw[if_neg N];exact pv.uniq _ _ ox ox
theorem AJk(h:AGQ v l k key fresh)(K:PV Z (UZ l k key fresh))(s:A9):Bl ⟨Z,UZ l k key fresh⟩ s=Bl ⟨v,l⟩ s:=by
 have X:=h.lt;have pv:=h.pv;have⟨j,_,N⟩:=UQ (p:=⟨v,l⟩) pv s;have hl:=AAV (key:=key) (fresh:=fresh) X;have y:=AHL (l:=l) (key:=key) (fresh:=fresh) X;have O:=N.lt;simp only at O;have z:=N.lo;have H:=N.hi;simp only at z H;rw[KO (p:=⟨v,l⟩) pv N];by_cases h1:j<k
 ·rw[KO (p:=⟨Z,UZ l k key fresh⟩) K (i:=j) ⟨by simp only;omega,by simp only;rw[y,if_pos ox];exact z,λ_=>by simp only;rw[y,if_pos ox];exact H ox⟩];simp only;rw[y,if_pos ox]
 ·by_cases h2:j=k
  ·subst h2;by_cases h3:Dy s key=true
   ·rw[KO (p:=⟨Z,UZ l j key fresh⟩) K (i:=j) ⟨by simp only;omega,by simp only;rw[y,if_pos ox];exact z,λ_=>by simp only;rw[y,if_neg ox,if_pos Y];exact h3⟩];simp only;rw[y,if_pos ox]
   ·rw[KO (p:=⟨Z,UZ l j key fresh⟩) K (i:=j+1) ⟨by simp only;omega,by simp only;rw[y,if_neg ox,if_pos Y];simpa using h3,λW=>by
     simp only at W⊢;rw[y,if_neg ox,if_neg ox];exact H ox⟩]
    simp only;rw[y,if_neg ox,if_pos Y];simp[Nw,h.dest]
  ·rw[KO (p:=⟨Z,UZ l k key fresh⟩) K (i:=j+1) ⟨by simp only;omega,by simp only;rw[y,if_neg ox,if_neg ox];exact z,λW=>by
    simp only at W⊢;rw[y,if_neg ox,if_neg ox];exact H ox⟩]
   simp only;rw[y,if_neg ox,if_neg ox];rfl
end
end
section
open Go.ChangeShapes
def SG(l:List Bc)(k:Nat):List Bc:=l.take (k+1)++l.drop (k+2)
structure ABp(v:Int)(l:List Bc)(k:Nat):Prop where
 pv:PV v l
 lt:k+1<l.length
 dest:(ap l k).C0=0
 ANi:(ap l (k+1)).C0=0
 node:(ap l k).Ab=(ap l (k+1)).Ab
 ver:v<1099511627776
theorem AJO{k:Nat}(z:Cv p.AG id=(k:Int))(h:ABp p.Ax p.AG k):Ql p id=(⟨p.Ax+1,SG p.AG k⟩,0):=by
 have hv:=Lg.2 h.pv;have h1:=h.lt;have N:=h.ver;have H:(AN p.AG (k:Int)).C0=0:=h.dest;have y:(AN p.AG ((k:Int)+1)).C0=0:=h.ANi;have K:(AN p.AG (k:Int)).Ab=(AN p.AG ((k:Int)+1)).Ab:=h.node;unfold Ql;rw[hv,z];simp only[BC,AP,show¬(k:Int)<0 by omega,show¬(p.AG.length:Int)<=(k:Int)+1 by omega,Dp,Int.toNat_natCast,H,y,Fo,K,Gi,show¬1099511627776<=p.Ax by omega];rfl
theorem ADz(p:AI)(id:Int):((Ql p id).2≠0/\(Ql p id).1=N7)\/∃k:Nat,Cv p.AG id=(k:Int)/\ABp p.Ax p.AG k/\Ql p id=(⟨p.Ax+1,SG p.AG k⟩,0):=by
 by_cases y:∃k:Nat,Cv p.AG id=(k:Int)/\ABp p.Ax p.AG k
 ·have⟨k,h1,h2⟩:=y;exact .inr ⟨k,h1,h2,AJO h1 h2⟩
 left;unfold Ql;cases hv:Md p with
 |false=>simp|true=>
  simp only[BC,AP];cases h1:(decide (Cv p.AG id<0)||decide ((p.AG.length:Int)<=Cv p.AG id+1))with
  |true=>simp|false=>
   simp only[AP];cases h2:((((AN p.AG (Cv p.AG id)).C0 !=0)||((AN p.AG (Cv p.AG id+1)).C0 !=0))||((AN p.AG (Cv p.AG id)).Ab !=(AN p.AG (Cv p.AG id+1)).Ab))with
   |true=>simp|false=>
    simp only[AP];cases h3:(decide (1099511627776<=p.Ax))with
    |true=>simp|false=>
     exfalso;simp only[BQ,Ai,Gn]at h1 h2 h3;obtain⟨k,z⟩:∃k:Nat,Cv p.AG id=(k:Int):=⟨(Cv p.AG id).toNat,by omega⟩;rw[z]at h1 h2;exact y ⟨k,z,Lg.1 hv,by omega,h2.1.1,h2.1.2,h2.2,by omega⟩
section
variable {v:Int} {l:List Bc} {k:Nat}
theorem XP(y:k+1<l.length):(SG l k).length=l.length-1:=by
 simp only[SG,AT,Ao,Bj];omega
theorem AD5(y:k+1<l.length)(i:Nat):ap (SG l k) i=if i<=k then ap l i else ap l (i+1):=by
 unfold SG;have h1:(l.take (k+1)).length=k+1:=by simp;omega
 rw[AHX,h1];by_cases hi:i<=k
 ·rw[if_pos ox,if_pos hi,AAY _ ox]
 ·rw[if_neg ox,if_neg hi,AIf]
  congr 1;omega
theorem AJT(y:k+1<l.length)(i:Nat):En (SG l k) i=if i<k then En l i else En l (i+1):=by
 by_cases hi:i+1<l.length-1
 ·rw[JY (by rw[XP y];exact hi),AD5 y];by_cases h1:i<k
  ·rw[if_pos ox,if_pos h1,JY ox]
  ·rw[if_neg ox,if_neg h1,JY ox]
 ·rw[Np (by rw[XP y];omega),if_neg ox,Np ox]
theorem AMr(h:ABp v l k):PV (v+1) (SG l k):=by
 have z:=h.lt;have pv:=h.pv;have hl:=XP z;have hv:=pv.ver;have hlen:=pv.len;have H:=h.ver;have y:=AD5 z;refine⟨⟨by omega,by omega⟩,⟨by omega,by omega⟩,?_,?_,?_,?_,?_,?_,?_⟩
 ·rw[y,if_pos ox];exact pv.head
 ·intro i hi;rw[y];split
  ·exact pv.Az i ox
  ·exact pv.Az _ ox
 ·intro i hi;rw[y,y];by_cases h1:i+1<=k
  ·rw[if_pos ox,if_pos h1];exact pv.Wu i ox
  ·rw[if_neg h1];by_cases h2:i<=k
   ·rw[if_pos h2];exact pv.AOj ox ox
   ·rw[if_neg h2];exact pv.Wu (i+1) ox
 ·intro i hi;rw[y];split
  ·exact pv.id i ox
  ·exact pv.id _ ox
 ·intro i hi;rw[y];split
  ·exact pv.node i ox
  ·exact pv.node _ ox
 ·intro i hi;rw[y,AJT z,hl];by_cases h1:i<k
  ·rw[if_pos ox,if_pos h1];have:=pv.mov i ox;rwa[show decide (i+1=l.length)=false by simp;omega,show decide (i+1=l.length-1)=false by simp;omega]at*
  ·rw[if_neg h1];by_cases h2:i<=k
   ·obtain rfl:i=k:=ox
    rw[if_pos h2];exact⟨λ_=>(pv.mov i ox).done h.dest,λK=>absurd h.dest K⟩
   ·rw[if_neg h2];have:=pv.mov (i+1) ox;rwa[show decide (i+1+1=l.length)=decide (i+1=l.length-1) by congr 1;apply propext;omega]at this
 ·intro i j N hi;rw[y,y];by_cases h1:i<=k
  ·rw[if_pos h1,if_pos ox];exact pv.uniq i j N ox
  ·rw[if_neg h1];by_cases h3:j<=k
   ·rw[if_pos h3];exact pv.uniq _ _ ox ox
   ·rw[if_neg h3];exact pv.uniq _ _ ox ox
theorem AG8(h:ABp v l k)(W:PV Z (SG l k))(s:A9):Bl ⟨Z,SG l k⟩ s=Bl ⟨v,l⟩ s:=by
 have X:=h.lt;have pv:=h.pv;have⟨j,_,O⟩:=UQ (p:=⟨v,l⟩) pv s;have hl:=XP X;have y:=AD5 X;have aa:=O.lt;simp only at aa;have z:=O.lo;have H:=O.hi;simp only at z H;rw[KO (p:=⟨v,l⟩) pv O];by_cases h1:j<=k
 ·rw[KO (p:=⟨Z,SG l k⟩) W (i:=j) ⟨by simp only;omega,by simp only;rw[y,if_pos h1];exact z,λK=>by
   simp only at K⊢;rw[y];by_cases h2:j+1<=k
   ·grind
   ·rw[if_neg h2];have a:=H ox;have b:=pv.Wu (j+1) ox;exact Gz a b⟩]
  simp only;rw[y,if_pos h1]
 ·by_cases h2:j=k+1
  ·subst h2;have N:Dy s (ap l k).BU=false:=by
    have a:=WB (pv.Wu k X);exact UN a z
   rw[KO (p:=⟨Z,SG l k⟩) W (i:=k) ⟨by simp only;omega,by simp only;rw[y,if_pos ox];exact N,λK=>by
    simp only at K⊢;rw[y,if_neg ox];exact H ox⟩]
   simp only;rw[y,if_pos ox];simp[Nw,h.dest,h.ANi,h.node]
  ·rw[KO (p:=⟨Z,SG l k⟩) W (key:=s) (i:=j-1) ⟨by simp only;omega,by
    simp only;rw[y,if_neg ox,show j-1+1=j by omega];exact z,λK=>by
    simp only at K⊢;rw[y,if_neg ox];have:=H ox;rwa[show j-1+1+1=j+1 by omega]⟩]
   simp only;rw[y,if_neg ox,show j-1+1=j by omega]
end
end
theorem AIg(l:List Bc)(k:Nat):AN l (k:Int)=ap l k:=rfl
theorem ACn(hv:Md p=true)(y:p.Ax≠1099511627776){k:Nat}(N:k<p.AG.length){x:Bc}(hid:x.Id=(ap p.AG k).Id)(O:x.BU=(ap p.AG k).BU)(W:1<=x.Ab/\x.Ab<=16)(hm:ABl x (En p.AG k) (decide (k+1=p.AG.length))):PV (chP p (k:Int) x).Ax (chP p (k:Int) x).AG/\(chP p (k:Int) x).Ax=p.Ax+1/\(chP p (k:Int) x).AG=p.AG.set k x:=by
 have z:=Lg.1 hv;have h1:=z.ver;have hw:AB (p.Ax+1)=p.Ax+1:=Vg ox ox;have H:(chP p (k:Int) x).Ax=p.Ax+1:=hw;have K:(chP p (k:Int) x).AG=p.AG.set k x:=by show p.AG.set (k:Int).toNat x=_;rw[Int.toNat_natCast]
 refine⟨?_,H,K⟩;rw[H,K];exact AOB z N hid O W hm ox
theorem AEx{node:Int}(h0:(P6 p id node).2=0):Md p=true/\Md (P6 p id node).1=true/\(P6 p id node).1.Ax=p.Ax+1/\∀key,Bl (P6 p id node).1 key=Bl p key:=by
 unfold P6 at h0⊢;cases O:((!Md p||decide (node<1))||decide (16<node))with
 |true=>rw[O,cond_true]at h0;exact absurd h0 (by decide)
 |false=>
  rw[O,AP]at h0;rw[AP];simp only[BQ,ED,Ai]at O;have⟨⟨hv,n1⟩,n2⟩:=O;have K:=Lg.1 hv;by_cases W:Cv p.AG id<0
  ·rw[Bw W,cond_true]at h0;exact absurd h0 (by decide)
  ·rw[Bd W,AP]at h0⊢;have⟨k,X,z⟩:=UW W;rw[X]at h0⊢;cases H:(((AN p.AG (k:Int)).C0 !=0)||((AN p.AG (k:Int)).Ab==node))with
   |true=>rw[H,cond_true]at h0;exact absurd h0 (by decide)
   |false=>
    rw[H,AP]at h0;rw[AP];simp only[BQ,Gn,Bh]at H;cases y:(p.Ax==1099511627776)with
    |true=>rw[y,cond_true]at h0;exact absurd h0 (by decide)
    |false=>
     rw[AP];have y:=Bh.1 y;rw[AIg]at H⊢;have hm:ABl ⟨(ap p.AG k).Id,(ap p.AG k).BU,(ap p.AG k).Ab,node,(ap p.AG k).BU⟩ (En p.AG k) (decide (k+1=p.AG.length)):=by
      refine⟨λh=>by have h:node=0:=h;omega,λ_=>⟨by show 1<=node;omega,by show node<=16;omega,λe=>H.2 e.symm,K.Az k z,E1 _,?_⟩⟩;by_cases hl:k+1=p.AG.length
      ·exact .inl (Bw hl)
      ·have N:k+1<p.AG.length:=ox
       rw[JY N];exact .inr (K.Wu k N)
     have⟨f1,f2,Z⟩:=ACn hv y z (x:=⟨(ap p.AG k).Id,(ap p.AG k).BU,(ap p.AG k).Ab,node,(ap p.AG k).BU⟩) Y Y (K.node k z) hm;refine⟨hv,Lg.2 f1,f2,λkey=>?_⟩;have⟨i,_,hi⟩:=UQ K key;have hq:PV (AB (p.Ax+1)) (p.AG.set k ⟨(ap p.AG k).Id,(ap p.AG k).BU,(ap p.AG k).Ab,node,(ap p.AG k).BU⟩):=by
      have:=f1;rw[Z]at this;exact this
     show Bl ⟨AB (p.Ax+1),p.AG.set (k:Int).toNat _⟩ key=_;rw[Int.toNat_natCast,AJK (P:=p) (x:=⟨(ap p.AG k).Id,(ap p.AG k).BU,(ap p.AG k).Ab,node,(ap p.AG k).BU⟩) z Y hq hi,KO K hi];by_cases e:i=k
     ·subst e;rw[if_pos Y];unfold Nw;have h1:Dy key (ap p.AG i).BU=false:=hi.lo;rw[h1];simp[H.1]
     ·rw[if_neg e]
theorem AFl{l:List BA}{n:Int}(h0:(ckP p l id n).2.2.2=0):dvB p l=true->Md (ckP p l id n).1=true/\(ckP p l id n).1.Ax=p.Ax+1:=by
 intro Z;have hv:=(ABJ.1 Z).1;have hP:=Lg.1 hv;have⟨u,hu,aa,_⟩:=XX Z;unfold ckP at h0⊢;by_cases hn:n<1
 ·rw[Bw hn,cond_true]at h0;exact absurd h0 (by decide)
 ·rw[Bd hn,AP]at h0⊢;by_cases y:(OE p l id).2=0
  ·rw[show((OE p l id).2 !=0)=false by simp[y],AP];unfold OE at y⊢;rw[Z,cond_true]at y⊢;by_cases hf:Cv p.AG id<0
   ·rw[Bw hf,cond_true]at y;exact absurd y (by decide)
   ·rw[Bd hf,AP]at y⊢;have⟨k,hk,K⟩:=UW hf;rw[hk,AIg]at y;rw[hk,AIg];by_cases H:(ap p.AG k).C0=0
    ·rw[B1.2 H,cond_true]at y;exact absurd y (by decide)
    ·rw[Bh.2 H,AP]at y⊢;by_cases N:p.Ax=1099511627776
     ·rw[B1.2 N,cond_true]at y;exact absurd y (by decide)
     ·rw[Bh.2 N,AP];show Md (chP p (k:Int) (AFC (AN p.AG (k:Int)) (Wr (Lh l).1 (Pa p (k:Int).toNat)) n))=true/\(chP p (k:Int) _).Ax=_;rw[Int.toNat_natCast,AIg];have O:=(hP.mov k K).dest H;have key:∀x:Bc,x.Id=(ap p.AG k).Id->x.BU=(ap p.AG k).BU->(1<=x.Ab/\x.Ab<=16)->ABl x (En p.AG k) (decide (k+1=p.AG.length))->Md (chP p (k:Int) x)=true/\(chP p (k:Int) x).Ax=p.Ax+1:=λx h1 h2 h3 h4=>by
       have⟨f1,f2,_⟩:=ACn hv N K h1 h2 h3 h4;exact⟨Lg.2 f1,f2⟩
      unfold AFC;by_cases hr:(((Wr (Lh l).1 (Pa p k)).length:Nat):Int)<=n
      ·rw[Bw hr,cond_true];exact key _ Y Y ⟨O.1,O.2.1⟩ ⟨λ_=>Y,λh=>absurd Y h⟩
      ·rw[Bd hr,AP];have W:n.toNat<(Wr (Lh l).1 (Pa p k)).length:=ox
       have X:AN (Wr (Lh l).1 (Pa p k)) n∈Wr (Lh l).1 (Pa p k):=by
        have e:AN (Wr (Lh l).1 (Pa p k)) n=(Wr (Lh l).1 (Pa p k))[n.toNat]:=by simp[AN,DD,W]
        rw[e];exact AW W
       have⟨m1,m2⟩:=BK.1 X;have ab:∀z,z∈(Lh l).1->z∈u:=λz hz=>by rw[hu]at hz;exact hz
       have⟨c1,c2⟩:=AIY hv K H m2;have⟨g1,_,_⟩:=(Eg.1 aa).1 _ (ab _ m1);refine key _ Y Y (hP.node k K) ⟨λh=>absurd h H,λ_=>⟨O.1,O.2.1,O.2.2.1,(ALF g1).1,c1.lo,?_⟩⟩;by_cases hl:k+1=p.AG.length
       ·exact .inl (Bw hl)
       ·have W:k+1<p.AG.length:=by have:=K;omega
        rw[JY W];exact .inr (c1.hi W)
  ·rw[show((OE p l id).2 !=0)=true by simp[y],cond_true]at h0;exact absurd h0 y
theorem AGc{l:List BA}(H:dvB p l=true){m:HC}(h0:(PZ p l m).2=0)(K:m.BD=1\/m.BD=2\/m.BD=3\/m.BD=4):Md (PZ p l m).1=true/\(PZ p l m).1.Ax=p.Ax+1/\(m.BD≠4->∀key,Bl (PZ p l m).1 key=Bl p key):=by
 unfold PZ at h0⊢;by_cases h1:m.BD=1
 ·rw[if_pos h1]at h0⊢;rcases ADe p m.Part m.Key m.New with⟨h,_⟩|⟨k,_,y,he⟩
  ·exact absurd h0 h
  ·rw[he];have z:=AOb y;exact⟨Lg.2 z,Y,λ_ key=>AJk y z key⟩
 ·rw[if_neg h1]at h0⊢;by_cases h2:m.BD=2
  ·rw[if_pos h2]at h0⊢;rcases ADz p m.Part with⟨h,_⟩|⟨k,_,y,he⟩
   ·exact absurd h0 h
   ·rw[he];have z:=AMr y;exact⟨Lg.2 z,Y,λ_ key=>AG8 y z key⟩
  ·rw[if_neg h2]at h0⊢;by_cases h3:m.BD=3
   ·rw[if_pos h3]at h0⊢;have⟨_,f1,f2,N⟩:=AEx h0;exact⟨f1,f2,λ_=>N⟩
   ·rw[if_neg h3]at h0⊢;have O:m.BD=4:=by
     rcases K with h|h|h|h
     ·exact absurd h h1
     ·exact absurd h h2
     ·exact absurd h h3
     ·exact h
    have⟨f1,f2⟩:=AFl h0 H;exact⟨f1,f2,λh=>absurd O h⟩
theorem AFr{l:List A9}(hl:l.length<9223372036854775808)(H:∀k∈l,k.length<JJ):FA l=some (Ru l&&decide (l.length<=64)):=by
 unfold FA;simp only[CM];have K:decide (((l.length:Nat):Int)<=(64:Int))=decide (l.length<=64):=by rw[ET];simp;omega
 rw[K];refine(Me (len:=l.length) (L:=λn i=>Dl l (some (decide (l.length<=64))) n i) (q:=λi=>PA l i) (E:=some false) (J:=some (decide (l.length<=64))) ox ox ?_ ?_).trans ?_
 ·intro n i hi
  try dsimp only
  rw[Dl];simp only[show(i:Int)<(l.length:Int) by omega,Ay,cond_true,show 0<=(i:Int) by omega,true_and,HF,DW,SE (H _ (LK hi)),AY];cases z:kvB (AN l (i:Int))with
  |false=>simp[PA,z,Ba]|true=>
   by_cases h0:0<i
   ·have y:(0:Int)<(i:Int):=ox
    simp only[y,Ay,DE,BC,FJ,forall_const,U0 h0 ox,Cw,Ck,PA,z,h0,cond_true];rw[A5 ox]
   ·have y:¬(0:Int)<(i:Int):=ox
    simp[y,PA,z,h0,Ba]
 ·intro n
  try dsimp only
  rw[Dl];simp
 ·rw[Ru];cases((List.range l.length).any λi=>PA l i)<;>simp
def Wt(f:AV):Bool:=if f.G7=true then decide (f.Am.length=0)&&decide (f.AX.length=0)
 else decide (f.Am.length<=64)&&decide (f.AX.length<=64)&&Ru f.Am&&Ru f.AX
structure FOk(f:AV):Prop where
 r:f.Am.length<9223372036854775808
 w:f.AX.length<9223372036854775808
 rk:∀k∈f.Am,k.length<JJ
 wk:∀k∈f.AX,k.length<JJ
theorem Nz{f:AV}(h:FOk f):FF f=some (Wt f):=by
 unfold FF;rw[AFr h.r h.rk,AFr h.w h.wk];cases y:f.G7 with
 |true=>
  simp only[cond_true,Wt,y,IW]
  congr 1
  rw[ET];simp
 |false=>
  simp only[AP,Wt,y,AY];cases h1:Ru f.Am<;>cases h2:decide (f.Am.length<=64)<;>cases h3:Ru f.AX<;>cases z:decide (f.AX.length<=64)<;>simp[CG,Az]
theorem XZ{f:AV}(h:Wt f=true):f.Am.length<=64/\f.AX.length<=64:=by
 unfold Wt at h;split at h
 ·simp at h;simp[h]
 ·simp only[Aq,AZ]at h;exact⟨h.1.1.1,h.1.1.2⟩
section
theorem UF{p:AI}(hp:Qa p)(hv:Md p=true):∀l:List A9,H6 p l=some (l.map (Bl p))
 |[]=>rfl|k::l=>by
  rw[H6,Sv hp.l hp.s (AAM hv),AY,UF hp hv l];rfl
def v30(p:AI)(f:AV):Bool:=Md p&&Wt f
def CL(p:AI)(f:AV):List Int:=if v30 p f=true then(if f.G7=true then B9 p else Su p (f.Am++f.AX))else[]
def KS(p:AI)(f:AV):List Int:=if v30 p f=true then(if f.G7=true then B9 p else Su p f.AX)else[]
def DX(p:AI)(f:AV):List Int:=
 if v30 p f=true then(if 0<(KS p f).length then KS p f else if 0<(CL p f).length then(CL p f).take 1 else[(AN p.AG 0).Ab])else[]
variable {p:AI} {f:AV}
theorem QA(hp:Qa p)(y:FOk f):KE p f=some (v30 p f):=by
 unfold KE;rw[F4 hp.l hp.s,AY,Nz y,v30];cases Md p<;>simp[CG,Az]
theorem GL(h:v30 p f=true):Md p=true/\Wt f=true:=by simpa[v30]using h
theorem QD(hp:Qa p)(y:FOk f):KF p f=some (CL p f):=by
 unfold KF;rw[QA hp y,AY,CL];cases hv:v30 p f with
 |false=>rfl|true=>
  have⟨h1,h2⟩:=GL hv;have hl:=XZ h2;simp only[BC,AP,IW];cases z:f.G7 with
  |true=>rw[cond_true,Qj hp.l hp.s,UI];rfl|false=>
   rw[AP,A5 ox,XG,UF hp h1,AY,Vj h1];simp
theorem ACO(hp:Qa p)(y:FOk f):Od p f=some (KS p f):=by
 unfold Od;rw[QA hp y,AY,KS];cases hv:v30 p f with
 |false=>rfl|true=>
  have⟨h1,h2⟩:=GL hv;have hl:=XZ h2;simp only[BC,AP,IW];cases z:f.G7 with
  |true=>rw[cond_true,Qj hp.l hp.s,UI];rfl|false=>
   rw[AP,A5 ox,XG,UF hp h1,AY,Vj h1];simp
theorem Kv:(CL p f).length<=17:=by
 unfold CL;split
 ·split
  ·exact Kz p
  ·exact ZU _ _
 ·simp
theorem AEL:(KS p f).length<=17:=by
 unfold KS;split
 ·split
  ·exact Kz p
  ·exact ZU _ _
 ·simp
theorem Zd(hp:Qa p)(y:FOk f):Jg p f=some (DX p f):=by
 unfold Jg;rw[QA hp y,AY,ACO hp y,AY,QD hp y,AY,DX];cases hv:v30 p f with
 |false=>rfl|true=>
  have⟨h1,h2⟩:=GL hv;have hl:=U7 h1;simp only[BC,AP,IW];by_cases z:0<(KS p f).length
  ·simp[z]
  ·by_cases K:0<(CL p f).length
   ·have:(1:Int)<=((CL p f).length:Int):=ox
    simp[z,K,Ba,this]
   ·have H:p.AG≠[]:=by intro h;simp[h]at hl
    simp[z,K,Ba,H]
theorem Qq:(DX p f).length<=17:=by
 have h1:=AEL (p:=p) (f:=f);have h2:=Kv (p:=p) (f:=f);unfold DX;split
 ·split
  ·exact h1
  ·split
   ·simp;omega
   ·simp
 ·simp
end
section
variable {p:AI} {f:AV}
theorem AEM:AHS (KS p f):=by
 unfold KS;split
 ·split
  ·unfold B9;split
   ·exact SC _ _
   ·exact List.Pairwise.nil
  ·exact YN _ _
 ·exact List.Pairwise.nil
theorem ABX{x:Int}(h:x∈KS p f):x∈CL p f:=by
 unfold KS at h;unfold CL;split at h
 ·rename_i hv;rw[if_pos hv];split at h
  ·rename_i y;rw[if_pos y];exact h
  ·rename_i y;rw[if_neg y];rw[Pc (GL hv).1]at h⊢;have⟨k,z,he⟩:=h;exact⟨k,by simp[z],he⟩
 ·simp at h
theorem AHI:AHS (DX p f):=by
 unfold DX;split
 ·split
  ·exact AEM
  ·split
   ·rcases AJI (l:=CL p f)with h|⟨a,h⟩<;>rw[h]<;>simp[AHS]
   ·simp[AHS]
 ·exact List.Pairwise.nil
theorem ABF(y:0<(CL p f).length){x:Int}(h:x∈DX p f):x∈CL p f:=by
 unfold DX at h;split at h
 ·split at h
  ·exact ABX h
  ·try rw[if_pos y]at h
   exact JM h
 ·simp at h
theorem AHH(hv:v30 p f=true):0<(DX p f).length:=by
 unfold DX;rw[if_pos hv];split
 ·assumption
 ·split
  ·rename_i h;simp;omega
  ·simp
end
section
variable {p:AI} {f:AV}
theorem contains_eq{l:List Int}(hl:l.length<JJ)(x:Int):Eb l x=some (l.any λy=>y==x):=by
 unfold Eb IL;simp only[CM];have h:=AC5 (l:=l) hl (L:=λn i=>D2 l x (some (-1)) n i) (q:=λy=>x==y) (λn i hi=>by
  try dsimp only
  rw[D2];simp only[show(i:Int)<(l.length:Int) by omega,Ay,cond_true,show 0<=(i:Int) by omega,true_and,DW,A0 hi]) (λn=>by
  try dsimp only
  rw[D2];simp) ((l.length:Int).toNat+1) 0 ox ox
 have z:((0:Nat):Int)=0:=Y;rw[z]at h;have H:D2 l x (some (-1)) ((l.length:Int).toNat+1) 0=some (II (λy=>x==y) (l.drop 0) 0):=h;rw[H,AY,PI,OH]
 congr 1
 exact any_congr λy _=>by rw[ET,B1,B1];exact eq_comm
def KN(p:AI)(f:AV)(x:Int):AV:=
 if v30 p f=true then(if f.G7=true then⟨(B9 p).any (λy=>y==x),[],[]⟩else⟨false,f.Am.filter (λk=>Bl p k==x),f.AX.filter (λk=>Bl p k==x)⟩)else⟨false,[],[]⟩
end
section
variable {p:AI} {f:AV}
end
theorem AMV{a b:List AR}(y:a.length<9223372036854775808)(z:b.length<9223372036854775808):QP a b=some (eqL Qh a b):=by
 unfold QP Gr;simp only[CM];rw[AG5 (a:=a) (b:=b) (f:=Qh) y z (L:=λn i=>C4 a b (some true) n i) ox ?_ ?_]
 ·rfl
 ·intro hl n i hi H
  try dsimp only
  rw[C4];simp only[show(i:Int)<(a.length:Int) by omega,show(i:Int)<(b.length:Int) by omega,Ay,cond_true,show 0<=(i:Int) by omega,CA,DW];rw[show((AN a (i:Int)).Key==(AN b (i:Int)).Key&&((AN a (i:Int)).JK.BD==(AN b (i:Int)).JK.BD&&((AN a (i:Int)).JK.N==(AN b (i:Int)).JK.N&&((AN a (i:Int)).JK.S==(AN b (i:Int)).JK.S&&true))&&true))=Qh (AN a (i:Int)) (AN b (i:Int))from rfl];cases Qh (AN a (i:Int)) (AN b (i:Int))<;>rfl
 ·intro n
  try dsimp only
  rw[C4];simp
theorem AI9{a b:List A9}(y:a.length<9223372036854775808)(z:b.length<9223372036854775808):Ri a b=some (eqL ZJ a b):=by
 unfold Ri H4;simp only[CM];rw[AG5 (a:=a) (b:=b) (f:=ZJ) y z (L:=λn i=>De a b (some true) n i) ox ?_ ?_]
 ·rfl
 ·intro hl n i hi H
  try dsimp only
  rw[De];simp only[show(i:Int)<(a.length:Int) by omega,show(i:Int)<(b.length:Int) by omega,Ay,cond_true,show 0<=(i:Int) by omega,CA,DW];rw[show(AN a (i:Int) !=AN b (i:Int))= !ZJ (AN a (i:Int)) (AN b (i:Int))from rfl];cases ZJ (AN a (i:Int)) (AN b (i:Int))<;>rfl
 ·intro n
  try dsimp only
  rw[De];simp
section
open Go.ChangeShapes
theorem containsS{l:List A9}(hl:l.length<9223372036854775808)(k:A9):CP l k=some (l.any λy=>y==k):=by
 unfold CP F7;simp only[CM];rw[AD1 (l:=l) hl (L:=λn i=>Dd l k (some (-1)) n i) (q:=λy=>k==y) ?_ ?_ ox]
 ·congr 1
  exact any_congr λx _=>by rw[ET];simp only[B1];exact eq_comm
 ·intro n i hi
  try dsimp only
  rw[Dd];simp only[show(i:Int)<(l.length:Int) by omega,Ay,cond_true,show 0<=(i:Int) by omega,CA,DW,A0 hi]
 ·intro n
  try dsimp only
  rw[Dd];simp
theorem ALg(h:i<j)(y:j<=1099511627776):AB (R7 .u64 (IntKind.u64.wrap (AB ((i:Int)+(j:Int)))) (1:Int))=(((i+j)/2:Nat):Int):=by
 rw[Vg (n:=(i:Int)+(j:Int)) ox ox];rw[show IntKind.u64.wrap ((i:Int)+(j:Int))=(i:Int)+(j:Int) by simp[IntKind.wrap,IntKind.bits,IntKind.signed];omega];rw[show R7 .u64 ((i:Int)+(j:Int)) 1=(((i+j)/2:Nat):Int) by
  show Int.fdiv ((i:Int)+(j:Int)) 2=_;rw[Int.fdiv_eq_ediv_of_nonneg _ ox];omega]
 exact Vg ox ox
theorem AMp(a b:A9):L5 a b=some (Dy a b):=by
 unfold L5 LF;simp
theorem APf{l:List A9}{x:A9}(hl:l.length<=1099511627776)(O:∀b a,a<b->b<l.length->Dy (AN l (a:Int)) (AN l (b:Int))=true){J:Int->AA (Int×Bool)}:∀n i j,i<=j->j<=l.length->j-i<n->(∀m,m<i->Dy (AN l (m:Int)) x=true)->(∀m,j<=m->m<l.length->Dy (AN l (m:Int)) x=false)->∃k:Nat,k<=l.length/\Cp l x J n (i:Int) (j:Int)=J (k:Int)/\(∀m,m<k->Dy (AN l (m:Int)) x=true)/\(∀m,k<=m->m<l.length->Dy (AN l (m:Int)) x=false):=by
 intro n
 induction n with
 |zero=>intro i j _ _ h;omega|succ n W=>
  intro i j X Z hn h1 h2;rw[Cp];rcases A7 i j with h|h
  ·rw[ALg h ox];have hm:(i+j)/2<j:=ox
   have aa:i<=(i+j)/2:=ox
   simp only[show(i:Int)<(j:Int) by omega,Ay,cond_true,show(0:Int)<=1 by omega,DW,show 0<=(((i+j)/2:Nat):Int) by omega,show(((i+j)/2:Nat):Int)<(l.length:Int) by omega,CA,AMp,AY];rw[BB ox];cases y:Dy (AN l (((i+j)/2:Nat):Int)) x with
   |true=>
    simp only[cond_true];refine W _ _ ox Z ox ?_ h2;intro m H;rcases A7 m ((i+j)/2)with z|z
    ·exact Gz (O _ _ z ox) y
    ·rw[show m=(i+j)/2 by omega];exact y
   |false=>
    simp only[AP];refine W _ _ ox ox ox h1 ?_;intro m H K;rcases A7 ((i+j)/2) m with z|z
    ·cases N:Dy (AN l (m:Int)) x with
     |false=>rfl|true=>rw[Gz (O _ _ z K) N]at y;cases y
    ·rw[show m=(i+j)/2 by omega];exact y
  ·refine⟨i,by omega,?_,h1,λm hm=>h2 m ox⟩;simp[show¬(i:Int)<(j:Int) by omega]
abbrev AGD(l:List A9):Prop:=l.Pairwise λa b=>Dy a b=true
theorem AGD.at{l:List A9}(h:AGD l)(b a:Nat)(h1:a<b)(h2:b<l.length):Dy (AN l (a:Int)) (AN l (b:Int))=true:=by
 rw[A0 h2,A0 ox];exact A3.1 h a b ox h2 h1
theorem ANJ{l:List A9}{x:A9}(hl:l.length<1099511627776)(h:AGD l):∃k:Nat,k<=l.length/\Dk l x=some ((k:Int),decide (x∈l))/\(∀m(hm:m<l.length),m<k->Dy l[m] x=true)/\(x∉l->∀m(hm:m<l.length),k<=m->Dy x l[m]=true):=by
 unfold Dk;rw[CM];obtain⟨k,O,e,h1,h2⟩:=APf (x:=x) ox h.at (J:=_) 1099511627776 0 l.length ox ox ox (λm hm=>by omega) (λm hm W=>by omega);refine⟨k,O,(show _=_ from e).trans ?_,λm hm N=>by rw[<- A0 hm];exact h1 m N,λX m hm y=>?_⟩
 ·have z:decide (x∈l)=(decide ((k:Int)<(l.length:Int))&&(AN l (k:Int)==x)):=by
   rw[ET];simp only[Aq,AZ,B1];constructor
   ·intro Z;obtain⟨m,hm,rfl⟩:=BL Z;have y:k=m:=by
     rcases H0 m k with H|H|H
     ·have:=h1 m H;rw[A0 hm,E1]at this;cases this
     ·exact H.symm
     ·have a:=h.at m k H hm;have b:=h2 k ox ox;rw[A0 hm]at a;rw[a]at b;cases b
    subst y;exact⟨by omega,A0 hm⟩
   ·rintro⟨a,b⟩;rw[<- b,A0 ox];exact AW _
  rw[z];by_cases K:(k:Int)<(l.length:Int)
  ·cases hb:(AN l (k:Int)==x)<;>simp[Ba,K,hb,JC]
  ·simp[Ba,K]
 ·have:=h2 m y hm;rw[A0 hm]at this;rcases Bool.eq_false_or_eq_true (Dy x l[m])with h3|h3
  ·exact h3
  ·exact absurd (Qg h3 this▸AW hm) X
theorem ACf{l:List A9}{x:A9}(hl:l.length<1099511627776)(h:AGD l):∃l',Nc l x=some l'/\AGD l'/\(∀y,y∈l'↔y∈l\/y=x)/\l'.length<=l.length+1:=by
 have⟨k,O,e,h1,h2⟩:=ANJ (x:=x) hl h;unfold Nc;rw[e,AY];by_cases H:x∈l
 ·refine⟨l,by simp[H],h,λy=>⟨λz=>.inl z,λz=>z.elim id λe=>e▸H⟩,by omega⟩
 ·refine⟨l.take k++[x]++l.drop k,?_,?_,?_,?_⟩
  ·simp only[H,Dp,AP];rw[A5 ⟨by omega,by omega⟩,A5 ox,Int.toNat_natCast]
  ·unfold AGD;rw[CZ,EW];refine⟨h.sublist (AJ4 _ _),?_,?_⟩
   ·rw[Ik,B6];refine⟨λy z=>?_,h.sublist (List.drop_sublist _ _)⟩;obtain⟨m,hm,rfl⟩:=BL z;rw[YC];exact h2 H _ _ ox
   ·intro a K y z;obtain⟨m,hm,rfl⟩:=BL K;rw[YB];rw[Ao]at hm;have h3:=h1 m ox ox;rcases BW.1 z with z|z
    ·rw[List.mem_singleton.1 z];exact h3
    ·obtain⟨W,N,rfl⟩:=BL z;rw[YC];exact Gz h3 (h2 H _ _ ox)
  ·intro y;have:y∈l↔y∈l.take k\/y∈l.drop k:=by rw[<- BW,Dq]
   rw[this];simp only[BW,List.mem_singleton];rw[or_assoc,or_assoc,or_comm (a:=y=x)]
  ·simp only[AT,Ao,Bj,BO];omega
end
variable {bw:Int×Int}
section
open Go.ChangeShapes
@[simp] theorem Ze {α ρ:Type} (s:Gk) (k1:Gk->AA ρ) (k2:α->AA ρ):I9 (.error s) k1 k2=k1 s:=rfl
@[simp] theorem AQO {α ρ:Type} (a:α) (k1:Gk->AA ρ) (k2:α->AA ρ):I9 (.ok a) k1 k2=k2 a:=rfl
def Rz(n:Int):Prop:= -9223372036854775808<=n/\n<=9223372036854775807
theorem Vy(n:Int):Rz (AB n):=by
 unfold Rz;simp[IntKind.wrap,IntKind.bits,IntKind.signed];omega
def chB(b:UInt8):Prop:=32<=b.toNat/\b.toNat<=126
theorem Nv:M6 s=true↔s.length<=64/\∀b∈s,chB b:=by
 unfold M6;simp only[Aq,AZ,Cb,Ca,Dz,ES,not_or];refine and_congr_right λ_=>⟨λh b y=>?_,λh i hi=>?_⟩
 ·obtain⟨i,hi,rfl⟩:=BL y;have:=h i hi;simp only[B0,DD,List.getElem?_eq_getElem hi,Kp]at this;unfold chB;omega
 ·have:=h _ (AW hi);simp only[B0,DD,List.getElem?_eq_getElem hi,Kp];unfold chB at this;omega
theorem AHM:∀n:Nat,∀b∈Go.Lib.decDigits n,chB b
 |n,b,y=>by
  rw[Go.Lib.decDigits]at y;split at y
  ·rw[List.mem_singleton.1 y];unfold chB;simp[UInt8.toNat_ofNat'];omega
  ·rcases BW.1 y with h|h
   ·exact AHM (n/10) b h
   ·rw[List.mem_singleton.1 h];unfold chB;simp[UInt8.toNat_ofNat'];omega
termination_by n=>n
decreasing_by omega
theorem AMs(n:Int):∀b∈Go.Lib.itoa n,chB b:=by
 unfold Go.Lib.itoa;split
 ·intro b y;rcases Aj.1 y with rfl|y
  ·unfold chB;decide
  ·exact AHM _ b y
 ·exact AHM _
structure GV(v:Ah):Prop where
 n:Rz v.N
 k1:v.BD=1->v.S=[]
 k2:v.BD=2->v.N=0/\M6 v.S=true
theorem Rz.zero:Rz 0:=by unfold Rz;omega
theorem GV.int{n:Int}(h:Rz n):GV ⟨1,n,[]⟩:=⟨h,λ_=>Y,λh=>absurd h zp⟩
theorem GV.str(h:M6 s=true):GV ⟨2,0,s⟩:=⟨Rz.zero,λh=>absurd h zp,λ_=>⟨Y,h⟩⟩
theorem GV.tru(b:Bool):∃v,Db b=some v/\GV v:=by
 cases b
 ·exact⟨_,Y,Rz.zero,λh=>absurd h zp,λh=>absurd h zp⟩
 ·exact⟨_,Y,(by unfold Rz;simp),λh=>absurd h zp,λh=>absurd h zp⟩
theorem GV.none:GV ⟨0,0,[]⟩:=⟨Rz.zero,λ_=>Y,λh=>absurd h zp⟩
def Pu{α:Type}(x:AA (Except Gk α))(Q:α->Prop):Prop:=∃r,x=some r/\(∀a,r=.ok a->Q a)/\∀e,r=.error e->e.st≠1
theorem Pu.err{α:Type}{Q:α->Prop}{e:Gk}(he:e.st≠1:=by simp):Pu (some (.error e)) Q:=⟨_,Y,λa h=>(by cases h),λa h=>by cases h;exact he⟩
theorem Pu.ok{α:Type}{Q:α->Prop}{a:α}(h:Q a):Pu (some (.ok a)) Q:=⟨_,Y,λb e=>(by cases e;exact h),λa h=>by cases h⟩
theorem Pu.bind{α β:Type}{Q:α->Prop}{R:β->Prop}{x:AA (Except Gk α)}{k:α->AA (Except Gk β)}(h:Pu x Q)(z:∀a,Q a->Pu (k a) R):Pu (Az x λy=>I9 y (λs=>some (.error s)) k) R:=by
 obtain⟨r,rfl,h,he⟩:=h;cases r with
 |error e=>exact Pu.err (he e Y)|ok a=>exact z a (h a Y)
theorem Pu.Az{α β:Type}{R:β->Prop}{x:AA α}{a:α}{k:α->AA (Except Gk β)}(h:x=some a)(y:Pu (k a) R):Pu (Az x k) R:=by subst h;exact y
theorem Pu.cond{β:Type}{R:β->Prop}{b:Bool}{x y:AA (Except Gk β)}(h1:b=true->Pu x R)(h2:b=false->Pu y R):Pu (cond b x y) R:=by
 cases b
 ·exact h2 Y
 ·exact h1 Y
theorem Pu.tru{b:Bool}{k:Ah->AA (Except Gk Ah)}(y:∀v,GV v->Pu (k v) GV):Pu (Go.Proofs.YthjnkknigpkldaaGreatDoor.Az (Db b) k) GV:=by
 have⟨v,h1,h2⟩:=GV.tru b;exact Pu.Az h1 (y v h2)
theorem KH(b:Bool):Pu (CI b) (λ_=>b=true):=by
 cases b
 ·exact Pu.err
 ·exact Pu.ok Y
theorem AFf{n c:Int}(h:Rz n):Pu (F3 n c) GV:=by
 unfold F3 GY CR;refine Pu.cond (λ_=>Pu.ok (GV.int h)) λ_=>?_;exact Pu.cond (λ_=>Pu.err) λ_=>Pu.err
theorem ADY(h:∀b∈s,chB b):Pu (IZ s) GV:=by
 unfold IZ CR;refine Pu.cond (λ_=>Pu.err) λy=>Pu.ok (GV.str (Nv.2 ⟨?_,h⟩));simp only[Ai]at y;omega
def TZ(p:AA (Int×Int)):Prop:=∃z,p=some z/\Rz z.1
theorem TZ.mk(h:Rz bw.1):TZ (some bw):=⟨_,Y,h⟩
theorem TZ.cond{b:Bool}{x y:AA (Int×Int)}(h1:b=true->TZ x)(h2:b=false->TZ y):TZ (cond b x y):=by
 cases b
 ·exact h2 Y
 ·exact h1 Y
theorem TZ.Ba{p:Prop}[Decidable p]{x:AA (Int×Int)}(h1:p)(h2:TZ x):TZ (Ba p x):=by rw[A5 h1];exact h2
theorem TZ.Az{x:AA (Int×Int)}(h:TZ x):TZ (Az x λz=>some (z.1,z.2)):=by
 obtain⟨z,rfl,h⟩:=h;exact⟨_,Y,h⟩
theorem AII{n:Int}:TZ (Qc n):=TZ.cond (λ_=>TZ.mk Rz.zero) λ_=>TZ.mk (Vy _)
theorem APJ{x:Int}(z:Rz Z)(h0:Z≠0):Rz (AAw x Z):=by
 have h1:=Int.natAbs_tmod x Z;have h2:=Nat.mod_lt x.natAbs (show 0<Z.natAbs by omega);unfold Rz AAw at*;omega
theorem AFG{x:Int}(h:(x==(0:Int))=false):x≠0:=by simpa using h
theorem ALi(op:Int){x:Int}(O:Rz x)(H:Rz Z):Pu (IC op x Z) GV:=by
 have fin:∀{p:AA (Int×Int)},TZ p->Pu (Az p λz=>Az (F3 z.1 z.2) λw=>I9 w (λs=>some (.error s)) λv=>some (.ok v)) GV:=by
  rintro _ ⟨z,rfl,K⟩;exact Pu.bind (AFf K) λa N=>Pu.ok N
 unfold IC;refine Pu.cond (λ_=>fin ?_) λ_=>Pu.cond (λ_=>fin ?_) λ_=>Pu.cond (λ_=>fin ?_) λ_=>Pu.cond (λ_=>fin ?_) λ_=>fin ?_
 ·exact TZ.cond (λ_=>TZ.mk Rz.zero) λ_=>TZ.mk (Vy _)
 ·exact TZ.cond (λ_=>TZ.mk Rz.zero) λ_=>TZ.mk (Vy _)
 ·refine TZ.cond (λ_=>TZ.mk Rz.zero) λh0=>TZ.cond (λ_=>AII.Az) λ_=>TZ.cond (λ_=>AII.Az) λ_=>TZ.Ba ?_ (TZ.cond (λ_=>TZ.mk Rz.zero) λ_=>TZ.mk (Vy _));rw[BQ]at h0;exact AFG h0.2
 ·refine TZ.cond (λ_=>TZ.mk Rz.zero) λh0=>TZ.cond (λ_=>AII.Az) λ_=>TZ.Ba (AFG h0) (TZ.Ba (AFG h0) ?_);exact TZ.cond (λ_=>TZ.mk (Vy _)) λ_=>TZ.mk (Vy _)
 ·refine TZ.cond (λ_=>TZ.mk Rz.zero) λh0=>TZ.cond (λ_=>TZ.mk Rz.zero) λ_=>TZ.Ba (AFG h0) ?_;exact TZ.cond (λ_=>TZ.mk (Vy _)) λ_=>TZ.mk (APJ H (AFG h0))
theorem ANr(a b:Ah):∃c,Nh a b=some c:=by
 have h:∀x y:Int,∃c,L6 x y=some c:=λx y=>by
  simp only[L6,Nk,AY,Fo,AP];cases decide (x<y)<;>cases decide (y<x)<;>exact⟨_,Y⟩
 have h2:∀x y:Int,∃c,KL x y=some c:=λx y=>by
  simp only[KL,Lz,AY,Fo,AP];cases decide (x<y)<;>cases decide (y<x)<;>exact⟨_,Y⟩
 have⟨c,z⟩:=h a.BD b.BD;have⟨d,H⟩:=h2 a.N b.N;simp only[Nh,MM,MN,Lr,z,H,AY];cases(a.BD !=b.BD)<;>cases(a.N==b.N)<;>exact⟨_,Y⟩
theorem AOf(op:Int)(a b:Ah):Pu (Kj op a b) GV:=by
 unfold Kj;refine Pu.bind (KH _) λ_ _=>?_;have⟨c,y⟩:=ANr a b;refine Pu.Az y ?_
 iterate 5 refine Pu.cond (λ_=>Pu.tru λv hv=>Pu.ok hv) λ_=>?_
 exact Pu.tru λv hv=>Pu.ok hv
theorem AOg(op:Int){a b:Ah}(ha:GV a)(hb:GV b):Pu (LU op a b) GV:=by
 have main:∀q:Bool,Pu (cond q (Az (CI ((a.BD==(1:Int))&&(b.BD==(1:Int)))) λx7=>(I9 x7 (λs8=>(some (.error s8))) λx9=>(Az (IC op a.N b.N) λy=>(I9 y (λz=>(some (.error z))) λH=>(some (.ok H)))))) (cond (op==(16:Int)) (Az (CI ((a.BD==(3:Int))&&(b.BD==(3:Int)))) λK=>(I9 K (λO=>(some (.error O))) λak=>(Az (Db ((a.N==(1:Int))&&(b.N==(1:Int)))) λW=>(some (.ok W))))) (cond (op==(17:Int)) (Az (CI ((a.BD==(3:Int))&&(b.BD==(3:Int)))) λX=>(I9 X (λZ=>(some (.error Z))) λal=>(Az (Db ((a.N==(1:Int))||(b.N==(1:Int)))) λaa=>(some (.ok aa))))) (cond (op==(19:Int)) (Az (CI ((a.BD==(2:Int))&&(b.BD==(2:Int)))) λab=>(I9 ab (λad=>(some (.error ad))) λan=>(Ba (a.S.length+b.S.length<=9223372036854775807) (Az (IZ (a.S++b.S)) λae=>(I9 ae (λaf=>(some (.error af))) λag=>(some (.ok ag))))))) (Az (Kj op a b) λah=>(I9 ah (λai=>(some (.error ai))) λaj=>(some (.ok aj)))))))) GV:=by
  intro q;refine Pu.cond (λ_=>Pu.bind (KH _) λ_ _=>Pu.bind (ALi op ha.n hb.n) λv hv=>Pu.ok hv) λ_=>?_;refine Pu.cond (λ_=>Pu.bind (KH _) λ_ _=>Pu.tru λv hv=>Pu.ok hv) λ_=>?_;refine Pu.cond (λ_=>Pu.bind (KH _) λ_ _=>Pu.tru λv hv=>Pu.ok hv) λ_=>?_;refine Pu.cond (λ_=>Pu.bind (KH _) λ_ hk=>?_) λ_=>Pu.bind (AOf op a b) λv hv=>Pu.ok hv;simp only[Aq,B1]at hk;have⟨p1,p2⟩:=Nv.1 (ha.k2 hk.1).2;have⟨p3,p4⟩:=Nv.1 (hb.k2 hk.2).2;rw[A5 ox];exact Pu.bind (ADY λx hx=>(BW.1 hx).elim (p2 x) (p4 x)) λv hv=>Pu.ok hv
 unfold LU;exact Pu.cond (λ_=>main _) λ_=>Pu.cond (λ_=>main _) λ_=>Pu.cond (λ_=>main _) λ_=>Pu.cond (λ_=>main _) λ_=>main _
end
variable {c b' c':Nat}
section
open Go.ChangeShapes
abbrev stM(m:AQ)(s:List AR):AQ:=⟨s,m.DN,m.vars,m.own,m.AS⟩
def ML(m:AQ):Prop:=(m.AS.Am.length<=1099511627776/\m.AS.DB.length<=1099511627776)/\m.AS.AX=[]
def EH(S:List AR->Prop){α:Type}(f:List AR->AA (Except Gk α×AQ))(Q:α->AQ->Prop):Prop:=
 ∃r m,(∀s,S s->f s=some (r,stM m s))/\(∀a,r=.ok a->Q a m)/\∀e,r=.error e->e.st≠1/\ML m
section
variable {S:List AR->Prop} {α β:Type} {Q:α->AQ->Prop} {R:β->AQ->Prop}
theorem EH.err{m:AQ}{e:Gk}(hm:ML m)(he:e.st≠1:=by simp):EH S (λs=>some (.error e,stM m s)) Q:=⟨_,m,λs _=>Y,λa h=>(by cases h),λa h=>by cases h;exact⟨he,hm⟩⟩
theorem EH.ok{m:AQ}{a:α}(h:Q a m):EH S (λs=>some (.ok a,stM m s)) Q:=⟨_,m,λs _=>Y,λb e=>(by cases e;exact h),λa h=>by cases h⟩
theorem Q9{P:α->Prop}{x:AA (Except Gk α)}{m:AQ}{k:List AR->α->AA (Except Gk β×AQ)}(hm:ML m)(h:Pu x P)(z:∀a,P a->EH S (λs=>k s a) R):EH S (λs=>Az x λy=>I9 y (λe=>some (.error e,stM m s)) (k s)) R:=by
 obtain⟨r,rfl,h,he⟩:=h;cases r with
 |error e=>exact EH.err hm (he e Y)|ok a=>exact z a (h a Y)
theorem EH.Az{x:AA α}{a:α}{k:List AR->α->AA (Except Gk β×AQ)}(h:x=some a)(y:EH S (λs=>k s a) R):EH S (λs=>Az x (k s)) R:=by
 subst h;exact y
theorem EH.get{x:List AR->AA α}{a:α}{k:List AR->α->AA (Except Gk β×AQ)}(h:∀s,S s->x s=some a)(z:EH S (λs=>k s a) R):EH S (λs=>Go.Proofs.YthjnkknigpkldaaGreatDoor.Az (x s) (k s)) R:=by
 have⟨r,m,h1,h2⟩:=z;exact⟨r,m,λs y=>by dsimp only;rw[h s y];exact h1 s y,h2⟩
theorem EH.cond{b:Bool}{f g:List AR->AA (Except Gk β×AQ)}(h1:b=true->EH S f R)(h2:b=false->EH S g R):EH S (λs=>cond b (f s) (g s)) R:=by
 cases b
 ·exact h2 Y
 ·exact h1 Y
theorem EH.Ba{p:Prop}[Decidable p]{f:List AR->AA (Except Gk β×AQ)}(h1:p)(h2:EH S f R):EH S (λs=>Ba p (f s)) R:=by
 have⟨r,m,h3,y⟩:=h2;exact⟨r,m,λs z=>by dsimp only;rw[A5 h1];exact h3 s z,y⟩
theorem EH.bind{f:List AR->AA (Except Gk α×AQ)}{k:List AR->Except Gk α×AQ->α->AA (Except Gk β×AQ)}(h:EH S f Q)(z:∀a m,Q a m->EH S (λs=>k s (.ok a,stM m s) a) R):EH S (λs=>Go.Proofs.YthjnkknigpkldaaGreatDoor.Az (f s) λx=>I9 x.1 (λe=>some (.error e,x.2)) (k s x)) R:=by
 have⟨r,m,h1,h2,he⟩:=h;cases r with
 |error e=>exact⟨.error e,m,λs y=>by dsimp only;rw[h1 s y];rfl,λa e=>(by cases e),λa h=>by cases h;exact he e Y⟩
 |ok a=>
  have⟨H,m',h3,K⟩:=z a m (h2 a Y);exact⟨H,m',λs y=>by dsimp only;rw[h1 s y];exact h3 s y,K⟩
end
theorem YX{α:Type}{k y:A9}{v:α}:∀{l:List (A9×α)},D4 y (NQ k v l)=if k=y then some v else D4 y l
 |[]=>by simp[NQ,D4]
 |p::l=>by
  unfold NQ;by_cases h:p.1=k
  ·rw[if_pos h];unfold D4;by_cases h2:k=y
   ·simp[h,h2]
   ·simp[h,h2]
  ·rw[if_neg h];unfold D4;by_cases h2:p.1=y
   ·grind
   ·simp only[h2,if_false];exact YX
def AOx(v:Ah):Prop:=GV v/\(v=⟨0,0,[]⟩\/v.BD=1\/v.BD=2)
structure MI(ft:AV)(b c:Nat)(m:AQ):Prop where
 DN:m.DN=ft
 vars:∀k v,D4 k m.vars=some v->GV v
 own:∀k v,D4 k m.own=some v->AOx v
 AGt:AGD m.AS.DB
 pk:∀k∈m.AS.DB,kvB k=true/\(ft.G7=false->k∈ft.AX)
 rds:AGD m.AS.Am
 rb:m.AS.Am.length+8192<=8192*m.AS.Steps.toNat+b
 pb:m.AS.DB.length+1<=m.AS.Steps.toNat+c
 s0:0<=m.AS.Steps/\m.AS.Steps<=16384
 out:m.AS.Ad.Out.length<=16
 wr:m.AS.AX=[]
 rl:m.AS.Am.length<=1099511627776/\m.AS.DB.length<=1099511627776
theorem MI.ml{ft:AV}{b:Nat}{m:AQ}(h:MI ft b c m):ML m:=⟨h.rl,h.wr⟩
theorem MI.weaken{ft:AV}{b:Nat}{m:AQ}(h:MI ft b c m)(y:b<=b')(z:c<=c'):MI ft b' c' m:=
 ⟨h.DN,h.vars,h.own,h.AGt,h.pk,h.rds,Cf h.rb ox,Cf h.pb ox,h.s0,h.out,h.wr,h.rl⟩
structure SI(ft:AV)(S:List AR->Prop):Prop where
 get:∀k,(ft.G7=false->k∈ft.Am)->∃v,GV v/\∀s,S s->MP s k=some v
 fr:ft.Am.length<9223372036854775808
 fw:ft.AX.length<9223372036854775808
variable {ft:AV} {S:List AR->Prop} {m:AQ} {b c:Nat}
theorem AEr(h:MI ft 8192 1 m):EH S (λs=>HO (stM m s)) (λ_ m'=>MI ft 0 0 m'):=by
 have z:=h.s0;have e:AB (m.AS.Steps+1)=m.AS.Steps+1:=Vg ox ox;unfold HO;simp only[e,CR,AY,Ze];refine EH.cond (λy=>EH.err h.ml (m:=⟨m.state,m.DN,m.vars,m.own,{m.AS with Steps:=m.AS.Steps+1}⟩)) λy=>?_;refine EH.ok (m:=⟨m.state,m.DN,m.vars,m.own,{m.AS with Steps:=m.AS.Steps+1}⟩) ?_;simp only[Ai]at y;have h1:=h.rb;have h2:=h.pb;exact⟨h.DN,h.vars,h.own,h.AGt,h.pk,h.rds,by show m.AS.Am.length+8192<=8192*(m.AS.Steps+1).toNat+0;omega,by show m.AS.DB.length+1<=(m.AS.Steps+1).toNat+0;omega,by show 0<=m.AS.Steps+1/\m.AS.Steps+1<=16384;omega,h.out,h.wr,h.rl⟩
theorem ALU{v:Ah}(h:MI ft b c m):EH S (λs=>Fu (stM m s) v) (λ_ m'=>MI ft b c m'):=by
 have z:=h.out;unfold Fu;simp only[CR,AY,Ze,CM];refine EH.cond (λy=>EH.err h.ml) λy=>?_;have hl:(m.AS.Ad.Out++[v]).length*32<=140737488355328:=by grind
 refine EH.Ba hl ?_;refine EH.ok (m:=⟨m.state,m.DN,m.vars,m.own,{m.AS with Ad:={m.AS.Ad with Out:=m.AS.Ad.Out++[v]}}⟩) ?_;simp only[Bh,ne_eq]at y;exact⟨h.DN,h.vars,h.own,h.AGt,h.pk,h.rds,h.rb,h.pb,h.s0,by simp only[AT,BO];omega,h.wr,h.rl⟩
theorem AJa{k:A9}(hS:SI ft S)(h:MI ft b c m)(hb:b<=8191)(W:k.length<JJ):EH S (λs=>IQ (stM m s) k) (λv m'=>GV v/\MI ft (b+1) c m'):=by
 unfold IQ;refine EH.Az (SE W) ?_;simp only[CR,Ki,AY,Ze,CM];refine EH.cond (λ_=>EH.err h.ml) λhv=>?_;refine EH.cond (λK=>EH.ok ⟨?_,h.weaken ox ox⟩) λK=>?_
 ·have⟨v,hv⟩:=Option.isSome_iff_exists.1 K;rw[show D4 k m.own=some v from hv];exact(h.own k v hv).1
 ·have X:=h.DN;subst X;have z:CG ((!m.DN.G7)==true) (CP m.DN.Am k)=some (if m.DN.G7=true then default else m.DN.Am.any λy=>y==k):=by
   cases N:m.DN.G7
   ·simpa using containsS hS.fr k
   ·rfl
  refine EH.Az z ?_;refine EH.cond (λ_=>EH.err h.ml) λO=>?_;have H:m.DN.G7=false->k∈m.DN.Am:=λN=>by
   rw[N]at O;simpa using O
  have h1:=h.rb;have h2:=h.s0;have⟨l,hl,Z,l2,l3⟩:=ACf (x:=k) ox h.rds;refine EH.Az hl ?_;have⟨v,hv,z⟩:=hS.get k H;refine EH.get (x:=λs=>MP s k) z ?_;refine EH.ok (m:=⟨m.state,m.DN,m.vars,m.own,{m.AS with Am:=l}⟩) ⟨hv,Y,h.vars,h.own,h.AGt,h.pk,Z,?_,h.pb,h.s0,h.out,h.wr,?_⟩
  ·grind
  ·exact⟨by show l.length<=_;omega,h.rl.2⟩
theorem ACj{k:A9}{v:Ah}(hS:SI ft S)(h:MI ft b 0 m)(hv:AOx v)(O:k.length<JJ):EH S (λs=>Ek (stM m s) k v) (λ_ m'=>MI ft b 1 m'):=by
 unfold Ek;refine EH.Az (SE O) ?_;simp only[CR,Ki,AY,Ze,CM];refine EH.cond (λ_=>EH.err h.ml) λW=>?_;have X:=h.DN;subst X;have Z:CG ((!m.DN.G7)==true) (CP m.DN.AX k)=some (if m.DN.G7=true then default else m.DN.AX.any λy=>y==k):=by
  cases K:m.DN.G7
  ·simpa using containsS hS.fw k
  ·rfl
 refine EH.Az Z ?_;refine EH.cond (λ_=>EH.err h.ml) λN=>?_;have aa:m.DN.G7=false->k∈m.DN.AX:=λK=>by
  rw[K]at N;simpa using N
 have h1:=h.pb;have h2:=h.s0;have⟨l,hl,l1,l2,l3⟩:=ACf (x:=k) ox h.AGt;refine EH.Az hl ?_;refine EH.ok (m:=⟨m.state,m.DN,m.vars,NQ k v m.own,{m.AS with DB:=l}⟩) ⟨Y,h.vars,?_,l1,?_,h.rds,h.rb,?_,h.s0,h.out,h.wr,h.rl.1,by show l.length<=_;omega⟩
 ·intro z v' e;rw[show(⟨m.state,m.DN,m.vars,NQ k v m.own,{m.AS with DB:=l}⟩:AQ).own=NQ k v m.own from rfl,YX]at e;split at e
  ·grind
  ·exact h.own z v' e
 ·intro z H;rcases(l2 z).1 H with e|e
  ·exact h.pk z e
  ·grind
 ·grind
end
section
open Go.ChangeShapes
def Lt:Nat->Ak->Prop
 |0,_=>False|n+1,e=>Rz e.N/\(e.Op=2->M6 e.S=true)/\e.Aw.length<=2/\(10<=e.Op/\e.Op<=15->e.Aw.length=2)/\∀a∈e.Aw,Lt n a
variable {ft:AV} {S:List AR->Prop} {m:AQ} {b c:Nat}
theorem AI0{v:Ah}(hS:SI ft S)(h:MI ft b c m)(W:b<=8191)(hv:GV v):EH S (λs=>IP (stM m s) Z v) (λv m'=>GV v/\MI ft (b+1) c m'):=by
 have y:=h.weaken (Nat.le_succ b) (Nat.le_refl c);have tr:∀{m:AQ}{q:Bool},MI ft (b+1) c m->EH S (λs=>Az (Db q) λx=>some (.ok x,stM m s)) (λv m'=>GV v/\MI ft (b+1) c m'):=λ{m q}hm=>by
  have⟨v,h1,h2⟩:=GV.tru q;exact EH.Az h1 (EH.ok ⟨h2,hm⟩)
 unfold IP;simp only[GY,AY];refine EH.cond (λ_=>Q9 y.ml (KH _) λ_ _=>?_) λ_=>?_
 ·have⟨z,X,h1⟩:=@AII v.N;exact EH.Az X (Q9 y.ml (AFf h1) λa H=>EH.ok ⟨H,y⟩)
 refine EH.cond (λ_=>Q9 y.ml (KH _) λ_ _=>tr y) λ_=>?_;refine EH.cond (λ_=>Q9 y.ml (KH _) λ_ _=>?_) λ_=>?_
 ·have K:=hv.n;unfold Rz at K;refine EH.Az (a:=Go.Lib.itoa v.N) (by unfold TU NL;rw[A5 ⟨Y,K.1,K.2⟩];rfl) ?_;exact Q9 y.ml (ADY (AMs _)) λa H=>EH.ok ⟨H,y⟩
 refine EH.cond (λ_=>Q9 y.ml (KH _) λ_ O=>EH.ok ⟨GV.int ?_,y⟩) λ_=>?_
 ·have:=(Nv.1 (hv.k2 (by simpa using O)).2).1;unfold Rz;omega
 refine Q9 y.ml (KH _) λ_ O=>?_;have hl:=(Nv.1 (hv.k2 (by simpa using O)).2).1;refine EH.bind (AJa hS h W (by unfold JJ;omega)) λw m1 h1=>?_;refine EH.cond (λ_=>tr h1.2) λ_=>?_;refine EH.cond (λ_=>EH.ok ⟨GV.int Rz.zero,h1.2⟩) λ_=>?_;refine EH.cond (λ_=>Q9 h1.2.ml (ADY zp) λa H=>EH.ok ⟨H,h1.2⟩) λ_=>?_;simp only[CR,AY,Ze,CM];refine EH.cond (λ_=>EH.cond (λ_=>EH.err h1.2.ml) λ_=>EH.ok h1) λ_=>EH.cond (λ_=>EH.err h1.2.ml) λ_=>EH.ok h1
theorem AFs{e:Ak}{rec:AQ->Ak->AA (Except Gk Ah×AQ)}{J:List Ah->AQ->AA (Except Gk Ah×AQ)}{q:Nat}{R:Ah->AQ->Prop}(hl:e.Aw.length<=2)(K:∀a∈e.Aw,∀(b:Nat)(m:AQ),b+q<=8192->MI ft b c m->EH S (λs=>rec (stM m s) a) (λv m'=>GV v/\MI ft (b+q) c m'))(W:b+e.Aw.length*q<=8192)(N:∀l(m:AQ),l.length=e.Aw.length->(∀v∈l,GV v)->MI ft (b+e.Aw.length*q) c m->EH S (λs=>J l (stM m s)) R):∀(n i:Nat)(l:List Ah)(m:AQ),i<=e.Aw.length->e.Aw.length-i<n->l.length=i->(∀v∈l,GV v)->MI ft (b+i*q) c m->EH S (λs=>F2 e rec J n l (i:Int) (stM m s)) R
 |0,i,l,m,_,h,_,_,_=>by omega
 |n+1,i,l,m,hi,hn,z,O,hm=>by
  unfold F2;refine EH.cond (λh=>?_) λh=>?_
  ·simp only[AZ]at h;have y:i<e.Aw.length:=ox
   refine EH.Ba ⟨by omega,h⟩ ?_;rw[A0 y];have X:(i+1)*q<=e.Aw.length*q:=Cm q y;rw[Vc]at X;refine EH.bind (K _ (AW y) (b+i*q) m ox hm) λv Z h1=>?_;have H:(l++[v]).length*32<=140737488355328:=by simp only[AT,BO];omega
   refine EH.Ba H ?_;rw[BB ox];refine AFs hl K W N n (i+1) (l++[v]) Z y ox (by simp[z]) (λw hw=>?_) ?_
   ·rcases BW.1 hw with hw|hw
    ·exact O w hw
    ·rw[List.mem_singleton.1 hw];exact h1.1
   ·rw[Vc,<- Km];exact h1.2
  ·simp only[Ai]at h;have:i=e.Aw.length:=ox
   subst this;exact N l m z O hm
theorem ABG(hS:SI ft S):∀(n fuel:Nat)(e:Ak)(b:Nat)(m:AQ),n<=fuel->Lt n e->b+2^n<=8192->MI ft b c m->EH S (λs=>BZ fuel (stM m s) e) (λv m'=>GV v/\MI ft (b+2^n) c m')
 |0,fuel,e,b,m,_,h,_,_=>h.elim|n+1,0,e,b,m,W,_,_,_=>by omega
 |n+1,fuel+1,e,b,m,W,⟨h1,h2,h3,_,X⟩,hb,hm=>by
  have hp:2^n*2=2^(n+1):=(Nat.pow_succ 2 n).symm;have Z:1<=2^n:=Nat.one_le_two_pow;have z:=hm.weaken (Nat.le_add_right b (2^(n+1))) (Nat.le_refl c);unfold BZ Lm;simp only[GY,CR,AY,Ze,CM];refine EH.cond (λ_=>EH.ok ⟨GV.int h1,z⟩) λ_=>?_;refine EH.cond (λho=>EH.ok ⟨GV.str (h2 (by simpa using ho)),z⟩) λ_=>?_;refine EH.cond (λ_=>Q9 hm.ml (KH _) λ_ hk=>EH.ok ⟨?_,z⟩) λ_=>?_
  ·have⟨v,hv⟩:=Option.isSome_iff_exists.1 hk;rw[show D4 e.S m.vars=some v from hv];exact hm.vars _ _ hv
  have hle:e.Aw.length*2^n<=2^(n+1):=by rw[<- hp,Nat.mul_comm (2^n) 2];exact Cm _ h3
  refine AFs (q:=2^n) (b:=b) h3 (λa ha b' N H y=>ABG hS n fuel a b' N ox (X a ha) H y) ox ?_ _ 0 [] m ox ox Y zp (by simpa using hm);intro l N aa K y;refine EH.cond (λh=>?_) λ_=>EH.cond (λh=>?_) λ_=>EH.err y.ml
  ·simp only[B1]at h;refine EH.Ba ⟨by omega,by omega⟩ ?_;have e1:e.Aw.length=1:=ox
   rw[e1,RG]at y;refine EH.bind (AI0 hS y ox (K _ ?_)) λv m2 O=>EH.ok ⟨O.1,O.2.weaken ox (Nat.le_refl c)⟩;rw[show AN l (0:Int)=l[0]'ox from A0 (i:=0) ox];exact AW _
  ·simp only[B1]at h;refine EH.Ba ⟨by omega,by omega⟩ (EH.Ba ⟨by omega,by omega⟩ ?_);refine Q9 y.ml (AOg _ (K _ ?_) (K _ ?_)) λv hv=>EH.ok ⟨hv,y.weaken ox (Nat.le_refl c)⟩
   ·rw[show AN l (0:Int)=l[0]'ox from A0 (i:=0) ox];exact AW _
   ·rw[show AN l (1:Int)=l[1]'ox from A0 (i:=1) ox];exact AW _
end
section
open Go.ChangeShapes
def AbE(e:Ak):Prop:=e.Op=0/\e.N=0/\e.S=[]/\e.Aw=[]
def Ls:Nat->BR->Prop
 |0,_=>False|n+1,x=>(Lt 12 x.A\/AbE x.A/\x.Op=8)/\(Lt 12 x.B\/AbE x.B/\x.Op≠3/\x.Op≠6)/\(x.CU.length<9223372036854775807/\∀y∈x.CU,Ls n y)/\(x.Js.length<9223372036854775807/\∀y∈x.Js,Ls n y)
variable {ft:AV} {S:List AR->Prop}
theorem Wa{l:List BR}{rec:AQ->BR->AA (Except Gk Unit×AQ)}(hl:l.length<9223372036854775807)(z:∀x∈l,∀m:AQ,MI ft 0 0 m->EH S (λs=>rec (stM m s) x) (λ_ m'=>MI ft 8192 1 m')):∀(n i:Nat)(m:AQ),i<=l.length->l.length-i<n->MI ft 8192 1 m->EH S (λs=>Ff l rec n (i:Int) (stM m s)) (λ_ m'=>MI ft 8192 1 m')
 |0,i,m,_,h,_=>by omega
 |n+1,i,m,hi,N,hm=>by
  unfold Ff;refine EH.cond (λh=>?_) λh=>EH.ok hm;simp only[AZ]at h;have y:i<l.length:=ox
  refine EH.Ba ⟨by omega,h⟩ ?_;rw[A0 y];refine EH.bind (AEr hm) λ_ H h1=>?_;refine EH.bind (z _ (AW y) H h1) λ_ K h2=>?_;rw[BB ox];exact Wa hl z n (i+1) K y ox h2
theorem MI.AGj{b:Nat}{m:AQ}(h:MI ft b c m){k:A9}{v:Ah}(hv:GV v):MI ft b c ⟨m.state,m.DN,NQ k v m.vars,m.own,m.AS⟩:=
 ⟨h.DN,λy z e=>by
  rw[show(⟨m.state,m.DN,NQ k v m.vars,m.own,m.AS⟩:AQ).vars=NQ k v m.vars from rfl,YX]at e;split at e
  ·grind
  ·exact h.vars y z e,h.own,h.AGt,h.pk,h.rds,h.rb,h.pb,h.s0,h.out,h.wr,h.rl⟩
theorem AC4{x:BR}{v:Ah}{rec:AQ->List BR->AA (Except Gk Unit×AQ)}(hv:Rz v.N)(y:∀m:AQ,MI ft 8192 1 m->EH S (λs=>rec (stM m s) x.CU) (λ_ m'=>MI ft 8192 1 m')):∀(n:Nat)(i:Int)(m:AQ),Rz i->(v.N-i).toNat<n->MI ft 8192 1 m->EH S (λs=>F1 v rec x n i (stM m s)) (λ_ m'=>MI ft 8192 1 m')
 |0,i,m,_,h,_=>by omega
 |n+1,i,m,hi,H,hm=>by
  unfold Rz at hv hi;unfold F1;refine EH.cond (λh=>?_) λh=>EH.ok hm;simp only[AZ]at h;refine EH.bind (AEr hm) λ_ K h1=>?_;refine EH.bind (y _ ((h1.weaken ox ox).AGj (GV.int hi))) λ_ z h2=>?_;rw[Vg ox ox];exact AC4 hv y n (i+1) z (by unfold Rz;omega) ox h2
theorem W6(hS:SI ft S):∀(d fuel:Nat),3*d+1<=fuel->∀(l:List BR)(m:AQ),l.length<9223372036854775807->(∀x∈l,Ls d x)->MI ft 8192 1 m->EH S (λs=>Bx fuel (stM m s) l) (λ_ m'=>MI ft 8192 1 m')
 |0,0,hf,_,_,_,_,_=>by omega
 |0,fuel+1,hf,l,m,hl,hx,hm=>by
  unfold Bx IK;exact Wa hl (λx h=>(hx x h).elim) _ 0 m ox ox hm
 |d+1,0,hf,_,_,_,_,_=>by omega
 |d+1,1,hf,_,_,_,_,_=>by omega
 |d+1,2,hf,_,_,_,_,_=>by omega
 |d+1,fuel+3,hf,l,m,hl,hx,hm=>by
  unfold Bx IK;refine Wa hl (λx h m hm=>?_) _ 0 m ox ox hm;have⟨y1,y2,⟨x3,x4⟩,x5,x6⟩:=hx x h;have x1:1<=x.Op/\x.Op<=7->Lt 12 x.A:=λh=>y1.elim id λg=>by omega
  have x2:x.Op=3\/x.Op=6->Lt 12 x.B:=λh=>y2.elim id λg=>by omega
  have aH:=hm.weaken (By 8192) (By 1);have aV:=hm.weaken (By 4096) (Nat.le_refl 0);have X:∀m:AQ,1<=x.Op/\x.Op<=7->MI ft 0 0 m->EH S (λs=>BZ 1099511627776 (stM m s) ⟨x.A.Op,x.A.N,x.A.S,x.A.Aw⟩) (λv m'=>GV v/\MI ft 4096 0 m'):=λm ho hm=>by
   have:=ABG (c:=0) hS 12 1099511627776 x.A 0 m ox (x1 ho) ox hm;cases hA:x.A;rw[hA]at this;exact this
  have an:∀m:AQ,x.Op=3\/x.Op=6->MI ft 4096 0 m->EH S (λs=>BZ 1099511627776 (stM m s) ⟨x.B.Op,x.B.N,x.B.S,x.B.Aw⟩) (λv m'=>GV v/\MI ft 8192 0 m'):=λm ho hm=>by
   have:=ABG (c:=0) hS 12 1099511627776 x.B 4096 m ox (x2 ho) ox hm;cases hB:x.B;rw[hB]at this;exact this
  unfold E7 JB;simp only[CR,AY,Ze,CM];have main:∀q:Bool,(q=true->1<=x.Op/\x.Op<=7)->EH S (λs=>cond q (Az (BZ 1099511627776 (stM m s) ⟨x.A.Op,x.A.N,x.A.S,x.A.Aw⟩) λz=>(I9 z.1 (λaI=>(some ((.error aI),z.2))) λaJ=>(some ((.ok ()),(⟨z.2.state,z.2.DN,(NQ x.Name aJ z.2.vars),z.2.own,z.2.AS⟩:AQ)))))
   (cond (x.Op==(3:Int)) (Az (BZ 1099511627776 (stM m s) ⟨x.A.Op,x.A.N,x.A.S,x.A.Aw⟩) λZ=>(I9 Z.1 (λao=>(some ((.error ao),Z.2))) λaj=>(Az (BZ 1099511627776 Z.2 ⟨x.B.Op,x.B.N,x.B.S,x.B.Aw⟩) λH=>(I9 H.1 (λaq=>(some ((.error aq),H.2))) λaa=>(Az (CI ((aj.BD==(2:Int))&&((aa.BD==(1:Int))||(aa.BD==(2:Int))))) λar=>(I9 ar (λau=>(some ((.error au),H.2))) λaL=>(Az (Ek H.2 aj.S aa) λab=>(I9 ab.1 (λav=>(some ((.error av),ab.2))) λaM=>(some ((.ok ()),ab.2))))))))))
   (cond (x.Op==(4:Int)) (Az (BZ 1099511627776 (stM m s) ⟨x.A.Op,x.A.N,x.A.S,x.A.Aw⟩) λK=>(I9 K.1 (λaw=>(some ((.error aw),K.2))) λak=>(Az (CI (ak.BD==(2:Int))) λax=>(I9 ax (λay=>(some ((.error ay),K.2))) λaN=>(Az (Ek K.2 ak.S (⟨0,0,[]⟩:Ah)) λad=>(I9 ad.1 (λaz=>(some ((.error az),ad.2))) λaO=>(some ((.ok ()),ad.2))))))))
   (cond (x.Op==(5:Int)) (Az (BZ 1099511627776 (stM m s) ⟨x.A.Op,x.A.N,x.A.S,x.A.Aw⟩) λy=>(I9 y.1 (λa1=>(some ((.error a1),y.2))) λal=>(Az (CI (al.BD==(3:Int))) λa6=>(I9 a6 (λa7=>(some ((.error a7),y.2))) λaP=>(cond (al.N==(1:Int)) (Az (Bx (fuel+1) y.2 x.CU) λae=>(I9 ae.1 (λa8=>(some ((.error a8),ae.2))) λaQ=>(some ((.ok ()),ae.2)))) (Az (Bx (fuel+1) y.2 x.Js) λaf=>(I9 af.1 (λaA=>(some ((.error aA),af.2))) λaR=>(some ((.ok ()),af.2)))))))))
   (cond (x.Op==(6:Int)) (Az (EI (fuel+1) (stM m s) x) λag=>(I9 ag.1 (λaB=>(some ((.error aB),ag.2))) λaS=>(some ((.ok ()),ag.2))))
   (cond (x.Op==(7:Int)) (Az (BZ 1099511627776 (stM m s) ⟨x.A.Op,x.A.N,x.A.S,x.A.Aw⟩) λO=>(I9 O.1 (λaC=>(some ((.error aC),O.2))) λah=>(Az (CI ((ah.BD==(1:Int))||(ah.BD==(2:Int)))) λaD=>(I9 aD (λaE=>(some ((.error aE),O.2))) λaT=>(Az (Fu O.2 ah) λai=>(I9 ai.1 (λaF=>(some ((.error aF),ai.2))) λaU=>(some ((.ok ()),ai.2))))))))
   (cond (x.Op==(8:Int)) (some ((.error ⟨2,x.Max,[]⟩),(stM m s))) (some ((.ok ()),(stM m s)))))))))) (λ_ m'=>MI ft 8192 1 m'):=by
   intro q hq;refine EH.cond (λh=>EH.bind (X m (hq h) hm) λv W h1=>?_) λ_=>?_
   ·exact EH.ok (m:=⟨W.state,W.DN,NQ x.Name v W.vars,W.own,W.AS⟩) ((h1.2.AGj h1.1).weaken ox ox)
   refine EH.cond (λh=>?_) λ_=>?_
   ·simp only[B1]at h;refine EH.bind (X m ox hm) λv W h1=>EH.bind (an W ox h1.2) λw m2 h2=>Q9 h2.2.ml (KH _) λ_ hk=>?_;simp only[Aq,B1,ES]at hk;have hl:=(Nv.1 (h1.1.k2 hk.1).2).1;exact EH.bind (ACj hS h2.2 ⟨h2.1,.inr hk.2⟩ (by unfold JJ;omega)) λ_ m3 h3=>EH.ok h3
   refine EH.cond (λh=>?_) λ_=>?_
   ·simp only[B1]at h;refine EH.bind (X m ox hm) λv W h1=>Q9 h1.2.ml (KH _) λ_ hk=>?_;simp only[B1]at hk;have hl:=(Nv.1 (h1.1.k2 hk).2).1;exact EH.bind (ACj hS (h1.2.weaken (show 4096<=8192 by omega) (Nat.le_refl 0)) ⟨GV.none,.inl Y⟩ (by unfold JJ;omega)) λ_ m3 h3=>EH.ok h3
   refine EH.cond (λh=>?_) λ_=>?_
   ·simp only[B1]at h;refine EH.bind (X m ox hm) λv W h1=>Q9 h1.2.ml (KH _) λ_ hk=>?_;have aG:=h1.2.weaken (show 4096<=8192 by omega) (show 0<=1 by omega);exact EH.cond (λ_=>EH.bind (W6 hS d (fuel+1) ox _ W x3 x4 aG) λ_ m3 h3=>EH.ok h3) λ_=>EH.bind (W6 hS d (fuel+1) ox _ W x5 x6 aG) λ_ m3 h3=>EH.ok h3
   refine EH.cond (λh=>?_) λ_=>?_
   ·simp only[B1]at h;refine EH.bind (Q:=λ_ m'=>MI ft 8192 1 m') ?_ λ_ m3 h3=>EH.ok h3;unfold EI Ll;simp only[CR,AY,Ze,CM];refine EH.bind (X m ox hm) λv W h1=>EH.bind (an W ox h1.2) λw m2 h2=>Q9 h2.2.ml (KH _) λ_ hk=>?_;refine EH.cond (λ_=>EH.err h2.2.ml) λ_=>?_;exact AC4 h2.1.n (λm5 aK=>W6 hS d fuel ox _ m5 x3 x4 aK) _ _ m2 h1.1.n ox (h2.2.weaken (Nat.le_refl _) ox)
   refine EH.cond (λh=>?_) λ_=>?_
   ·simp only[B1]at h;refine EH.bind (X m ox hm) λv W h1=>Q9 h1.2.ml (KH _) λ_ hk=>?_;exact EH.bind (ALU (h1.2.weaken (show 4096<=8192 by omega) (show 0<=1 by omega))) λ_ m3 h3=>EH.ok h3
   exact EH.cond (λ_=>EH.err hm.ml) λ_=>EH.ok aH
  refine EH.cond (λh=>main _ λ_=>?_) λ_=>main _ λh=>?_
  ·grind
  ·grind
end
variable {b2:Gk}
section
open Go.ChangeShapes
theorem APU(l:List A9)(J:AA Bool):∀n i,HP l J n i=Dl l J n i:=by
 intro n
 induction n with
 |zero=>intro i;rfl|succ n y=>intro i;simp only[HP,Dl,y]
theorem ZY{f:AV}(h:FOk f):Oe f=some (Wt f):=by
 rw[<- Nz h];simp only[Oe,FF,I1,FA,CM,APU]
def wrP(m:AQ)(k:A9):AR:=⟨k,(D4 k m.own).getD default⟩
theorem APb{m:AQ}{J:List AR->AA Bb}(hl:m.AS.DB.length<1099511627776):∀(n i:Nat)(acc:List AR),i<=m.AS.DB.length->m.AS.DB.length-i<n->acc=(m.AS.DB.take i).map (wrP m)->FX m J n acc (i:Int)=J (m.AS.DB.map (wrP m))
 |0,i,acc,_,h,_=>by omega
 |n+1,i,acc,hi,z,y=>by
  unfold FX;rcases A7 i m.AS.DB.length with h|h
  ·have hlen:acc.length=i:=by rw[y,Ap,Ao];omega
   simp only[show(i:Int)<(m.AS.DB.length:Int) by omega,Ay,cond_true,show 0<=(i:Int) by omega,CA,DW,A0 h];rw[A5 (by simp only[AT,BO,hlen];omega),BB ox];refine APb hl n (i+1) _ h ox ?_;rw[Bk h,E0,y];rfl
  ·have:i=m.AS.DB.length:=ox
   subst this;rw[y,Kr];simp
theorem AOX{m:AQ}(hl:m.AS.DB.length<1099511627776)(hw:m.AS.AX=[]):ER m b2 false=some ⟨⟨1,m.AS.Ad.Code,m.AS.Ad.Out⟩,m.AS.Am,m.AS.DB,m.AS.DB.map (wrP m),m.AS.NG,m.AS.Steps⟩:=by
 unfold ER;simp only[AP,CM,hw];exact APb (J:=λy=>some ⟨⟨1,m.AS.Ad.Code,m.AS.Ad.Out⟩,m.AS.Am,m.AS.DB,y,m.AS.NG,m.AS.Steps⟩) hl _ 0 [] ox ox Y
structure AEf(ft:AV)(e:Bb):Prop where
 srt:R6 e.AX=true
 keys:∀x∈e.AX,ft.G7=false->x.Key∈ft.AX
 len:e.AX.length<=16384
 r:∀x∈e.AX,Rz x.JK.N
 fv:Wt ft=true
def EfL(e:Bb):Prop:=e.Ad.Out.length<=1099511627776/\e.Am.length<=1099511627776/\e.DB.length<=1099511627776/\e.AX.length<=1099511627776
theorem AMZ{v:Ah}(h:AOx v):vvB v=true:=by
 obtain⟨h1,h2|h2|h2⟩:=h
 ·subst h2;rfl
 ·simp[vvB,h2,h1.k1 h2]
 ·simp[vvB,h2,h1.k2 h2]
theorem MI.ef{ft:AV}{m:AQ}(hv:Wt ft=true)(h:MI ft 8192 1 m){o r p z n}:AEf ft ⟨o,r,p,m.AS.DB.map (wrP m),z,n⟩:=by
 have h1:=h.pb;have h2:=h.s0;refine⟨I8.2 ⟨λx y=>?_,?_⟩,λx y=>?_,?_,λx y=>?_,hv⟩
 ·obtain⟨k,H,rfl⟩:=List.mem_map.1 y;refine⟨(h.pk k H).1,?_⟩;show vvB ((D4 k m.own).getD default)=true;cases K:D4 k m.own with
  |none=>rfl|some v=>exact AMZ (h.own k v K)
 ·rw[FI];exact h.AGt
 ·obtain⟨k,H,rfl⟩:=List.mem_map.1 y;exact(h.pk k H).2
 ·simp only[Ap];omega
 ·obtain⟨k,H,rfl⟩:=List.mem_map.1 y;show Rz ((D4 k m.own).getD default).N;cases K:D4 k m.own with
  |none=>exact Rz.zero|some v=>exact(h.own k v K).1.n
theorem APM{p:Ce}{args:List Ah}{ft:AV}{J:AQ->AA Bb}(hp:p.BH.length<9223372036854775807)(hl:args.length=p.BH.length)(y:∀v∈args,GV v):∀(n i:Nat)(m:AQ),i<=p.BH.length->p.BH.length-i<n->MI ft 8192 1 m->∃m',MI ft 8192 1 m'/\∀s,JT p args J n (i:Int) (stM m s)=J (stM m' s)
 |0,i,m,_,h,_=>by omega
 |n+1,i,m,hi,H,hm=>by
  rcases A7 i p.BH.length with h|h
  ·have z:i<args.length:=ox
   have⟨m',h1,h2⟩:=APM (J:=J) hp hl y n (i+1) ⟨m.state,m.DN,NQ (p.BH[i]).Name args[i] m.vars,m.own,m.AS⟩ h ox (hm.AGj (y _ (AW z)));refine⟨m',h1,λs=>?_⟩;rw[<- h2 s]
   conv=>lhs;unfold JT
   simp only[show(i:Int)<(p.BH.length:Int) by omega,show(i:Int)<(args.length:Int) by omega,Ay,cond_true,show 0<=(i:Int) by omega,CA,DW,A0 h,A0 z,BB (show i<9223372036854775807 by omega)]
  ·refine⟨m,hm,λs=>?_⟩;have:i=p.BH.length:=ox
   subst this;unfold JT;simp
theorem AMX{p:Ce}{args:List Ah}{ft:AV}{S:List AR->Prop}{c a:Int}(hc:Oi p=some c)(Z:c=0->Mm p args=some a)(hb:c=0->a=0->(∃d,3*d+1<=1099511627776/\∀x∈p.CU,Ls d x)/\args.length=p.BH.length/\∀v∈args,GV v)(hp:p.BH.length<9223372036854775807)(aa:p.CU.length<9223372036854775807)(hf:FOk ft)(hS:Wt ft=true->SI ft S)(N:∀s,S s->JG s/\G5 s=true):∃e,(∀s,S s->Jl p args s ft=some e)/\(e.Ad.DY=1->AEf ft e)/\EfL e:=by
 have wr:∃e,RD=some e/\(e.Ad.DY=1->AEf ft e)/\EfL e:=⟨_,Y,λh=>absurd h zp,by simp[EfL]⟩;have⟨e0,w1,w2⟩:=wr;by_cases c0:c=0
 ·have Z:=Z c0;subst c0;by_cases a0:a=0
  ·subst a0;have⟨⟨d,d1,d2⟩,g1,g2⟩:=hb Y Y;cases hv:Wt ft with
   |false=>
    refine⟨e0,λs H=>?_,w2⟩;unfold Jl;simp[hc,Z,IU (N s H).1,(N s H).2,ZY hf,hv,w1]
   |true=>
    have hS:=hS hv;have m0:MI ft 8192 1 (AFF [] ft):=⟨Y,λk v h=>(by cases h),λk v h=>(by cases h),List.Pairwise.nil,λk hk=>(by cases hk),List.Pairwise.nil,by simp[AFF],by simp[AFF],by simp[AFF],by simp[AFF],Y,by simp[AFF]⟩;have⟨m1,h1,h2⟩:=APM (J:=λab=>Az (Bx 1099511627776 ab p.CU) λX=>Az (ER X.2 (ACi X.1) (ADA X.1)) λK=>some K) hp g1 g2 (p.BH.length+1) 0 (AFF [] ft) ox ox m0;have⟨r,y,h3,h4⟩:=W6 hS d 1099511627776 d1 p.CU m1 aa d2 h1;have O:∀s,S s->Jl p args s ft=Az (ER (stM y s) (ACi r) (ADA r)) λK=>some K:=λs H=>by
     have:=h2 s;rw[show Bx 1099511627776 (stM m1 s) p.CU=_ from h3 s H,AY]at this;unfold Jl;simp only[hc,Z,IU (N s H).1,(N s H).2,ZY hf,hv,AY,Fo,Gi,DE,FP,BC,AP,CM];exact this
    cases r with
    |error z=>exact⟨⟨⟨z.st,z.code,[]⟩,y.AS.Am,y.AS.DB,y.AS.AX,z.ADw,y.AS.Steps⟩,λs H=>(O s H).trans Y,λh=>absurd h (h4.2 z Y).1,by
     have:=(h4.2 z Y).2;exact⟨By _,this.1.1,this.1.2,by show y.AS.AX.length<=_;rw[this.2];exact By _⟩⟩
    |ok u=>
     have W:=h4.1 u Y;have h6:=W.pb;have h7:=W.s0;exact⟨⟨⟨1,y.AS.Ad.Code,y.AS.Ad.Out⟩,y.AS.Am,y.AS.DB,y.AS.DB.map (wrP y),y.AS.NG,y.AS.Steps⟩,λs H=>by rw[O s H];show Az (ER (stM y s) _ false) _=_;rw[AOX (m:=stM y s) (by show y.AS.DB.length<_;omega) W.wr];rfl,λ_=>W.ef hv,Cf W.out ox,W.rl.1,W.rl.2,by show(y.AS.DB.map (wrP y)).length<=_;rw[Ap];exact W.rl.2⟩
  ·refine⟨e0,λs H=>?_,w2⟩;unfold Jl;simp[hc,Z,show(a !=0)=true by simpa using a0,w1]
 ·refine⟨e0,λs H=>?_,w2⟩;unfold Jl;simp[hc,show(c !=0)=true by simpa using c0,w1]
end
variable {aT:BR}
section
open Go.ChangeShapes
def EB:Nat->Ak->Prop
 |0,_=>True|n+1,e=>Rz e.N/\e.S.length<JJ/\e.Aw.length<9223372036854775807/\∀a∈e.Aw,EB n a
def SB:Nat->BR->Prop
 |0,_=>True|n+1,x=>EB (n+1) x.A/\EB (n+1) x.B/\x.Name.length<JJ/\(x.CU.length<9223372036854775807/\∀y∈x.CU,SB n y)/\(x.Js.length<9223372036854775807/\∀y∈x.Js,SB n y)
abbrev EBs(e:Ak):Prop:=∀n,EB n e
abbrev SBs(x:BR):Prop:=∀n,SB n x
theorem EBs.sub{e:Ak}(h:EBs e){a:Ak}(y:a∈e.Aw):EBs a:=λn=>(h (n+1)).2.2.2 a y
theorem SBs.a{x:BR}(h:SBs x):EBs x.A:=λn=>match n with|0=>trivial|n+1=>(h (n+1)).1
theorem SBs.b{x:BR}(h:SBs x):EBs x.B:=λn=>match n with|0=>trivial|n+1=>(h (n+1)).2.1
theorem SBs.body{x:BR}(h:SBs x)(z:aT∈x.CU):SBs aT:=λn=>(h (n+1)).2.2.2.1.2 aT z
theorem SBs.els{x:BR}(h:SBs x)(z:aT∈x.Js):SBs aT:=λn=>(h (n+1)).2.2.2.2.2 aT z
theorem AJq(s:A9)(J:AA Bool):∀n i,MW s J n i=Eu s J n i:=by
 intro n
 induction n with
 |zero=>intro i;rfl|succ n y=>intro i;simp only[MW,Eu,y]
theorem AFu(y:s.length<JJ):Pn s=some (M6 s):=by
 rw[<- WG y];simp only[Pn,KD,CM,AJq]
theorem AI2(s:A9)(J:AA Bool):∀n i,Kb s J n i=Eu s J n i:=by
 intro n
 induction n with
 |zero=>intro i;rfl|succ n y=>intro i;simp only[Kb,Eu,y]
theorem AEp(y:s.length<JJ):NV s=some (M6 s):=by
 rw[<- WG y];simp only[NV,KD,CM,AI2]
theorem APd(s:ByteArray)(i:Nat):1<=(Go.Utf8.decode s i).2:=by
 unfold Go.Utf8.decode;dsimp only
 repeat' split
 all_goals simp
def Tt{α:Type}(x:AA α)(P:α->Prop):Prop:=∃r,x=some r/\P r
section
variable {α β:Type} {P:α->Prop} {Q:β->Prop}
theorem Tt.mk{r:α}(h:P r):Tt (some r) P:=⟨r,Y,h⟩
theorem Tt.mono{x:AA α}{y:α->Prop}(h:Tt x P)(hp:∀a,P a->y a):Tt x y:=by
 have⟨r,h1,h2⟩:=h;exact⟨r,h1,hp r h2⟩
theorem Tt.cond{b:Bool}{x y:AA α}(h1:b=true->Tt x P)(h2:b=false->Tt y P):Tt (cond b x y) P:=by
 cases b
 ·exact h2 Y
 ·exact h1 Y
theorem Tt.Ba{p:Prop}[Decidable p]{x:AA α}(h1:p)(h2:Tt x P):Tt (Ba p x) P:=by rw[A5 h1];exact h2
theorem Tt.Az{x:AA α}{k:α->AA β}(h:Tt x P)(y:∀a,P a->Tt (k a) Q):Tt (Az x k) Q:=by
 obtain⟨r,rfl,h2⟩:=h;exact y r h2
theorem Tt.eq{x:AA α}{a:α}{k:α->AA β}(h:x=some a)(y:Tt (k a) Q):Tt (Go.Proofs.YthjnkknigpkldaaGreatDoor.Az x k) Q:=by subst h;exact y
theorem Y2[Inhabited α]{g:Bool}{x:AA α}{k:α->AA β}(h:g=true->Tt x P)(y:∀a,(g=true->P a)->Tt (k a) Q):Tt (Go.Proofs.YthjnkknigpkldaaGreatDoor.Az (CG g x) k) Q:=by
 cases g
 ·exact y _ (λh=>by cases h)
 ·exact Tt.Az (h Y) λa z=>y a λ_=>z
end
theorem AKQ(s:A9):∀n pos,s.length<=n+pos->Tt (AAb s (n+1) pos) λ_=>True
 |0,pos,h=>by
  unfold AAb;rw[show decide (pos<s.length)=false by simpa using h];exact⟨_,Y,Yt⟩
 |n+1,pos,h=>by
  unfold AAb;refine Tt.cond (λhp=>Tt.eq Y (Tt.cond (λ_=>Tt.mk Yt) λ_=>?_)) λ_=>Tt.mk Yt;have:=APd ⟨⟨s⟩⟩ pos;exact AKQ s n _ ox
theorem AJR(s:A9):Tt (Jk s) λ_=>True:=by
 unfold Jk;simp only[CM]
 iterate 24 refine Tt.cond (λ_=>Tt.cond (λ_=>Tt.mk Yt) λ_=>Tt.mk Yt) λ_=>?_
 exact Tt.cond (λ_=>Tt.mk Yt) λ_=>Tt.mk Yt
theorem ADu:Tt (I0 s) λ_=>True:=by
 unfold I0;refine Tt.Ba (λh=>?_) (Y2 (P:=λ_=>True) (λ_=>⟨_,Y,Yt⟩) λy _=>Y2 (P:=λ_=>True) (λh=>?_) λz _=>Y2 (λ_=>AJR s) λ_ _=>Tt.mk Yt)
 ·simp only[B1,Aq,bne_iff_ne,ne_eq,AZ]at h;have:=VJ.2 h.1;omega
 ·simp only[B1,Aq,bne_iff_ne,ne_eq,AZ]at h;exact AKQ s 1099511627775 0 ox
theorem ANN(op:Int):Tt (Rm op) λr=>(0<=r->r<=2/\(10<=op/\op<=15->r=2)):=by
 unfold Rm;refine Tt.cond (λ_=>Tt.mk ox) λ_=>Tt.cond (λh=>Tt.mk ?_) λ_=>Tt.cond (λh=>Tt.mk ?_) λ_=>Tt.mk ox
 ·simp only[ES,AZ]at h;omega
 ·simp only[ES,AZ,B1]at h;omega
theorem AKz{e:Ak}{d:Int}(he:EBs e):Tt (TV e d) λr=>r=0->d<=12/\(e.Op=2->M6 e.S=true)/\e.Aw.length<=2/\(10<=e.Op/\e.Op<=15->e.Aw.length=2):=by
 have z:=(he 1).2.1;unfold TV;refine Tt.Az (ANN e.Op) λr H=>Tt.cond (λ_=>Tt.mk zp) λh1=>Y2 (λ_=>ADu) λb _=>Tt.cond (λ_=>Tt.mk zp) λ_=>?_;refine Y2 (P:=λq=>q=M6 e.S) (λ_=>⟨_,AFu z,Y⟩) λq K=>Tt.cond (λ_=>Tt.mk zp) λh2=>Tt.cond (λ_=>Tt.mk zp) λh3=>Tt.mk λ_=>?_;simp only[BQ,Ai,EE,Bh,Gn,ED,ne_eq]at h1 h2 h3;have O:=H ox;refine⟨by omega,λy=>?_,by omega,λy=>by omega⟩;have N:q=true:=h2.1.2.resolve_left λh=>h y;rw[<- N];refine(K ?_).symm;simp[y]
theorem AIb:∀(k:Nat)(d:Int)(fuel:Nat)(e:Ak),d+(k:Int)=13/\1<=d->k<fuel->EBs e->Tt (Jr fuel e d) λr=>r=0->Lt k e
 |k,d,0,e,_,h,_=>by omega
 |0,d,fuel+1,e,O,_,he=>by
  unfold Jr Rh;refine Tt.Az (AKz he) λr z=>Tt.cond (λh=>Tt.mk λh0=>?_) λh=>?_
  ·subst h0;simp at h
  ·simp only[Gn]at h;have:=(z h).1;omega
 |k+1,d,fuel+1,e,O,hf,he=>by
  unfold Jr Rh;refine Tt.Az (AKz he) λr z=>Tt.cond (λh=>Tt.mk λh0=>?_) λh=>?_
  ·subst h0;simp at h
  ·simp only[Gn]at h;have⟨h1,h2,h3,W⟩:=z h;rw[CM];have loop:∀n i:Nat,i<=e.Aw.length->e.Aw.length-i<n->(∀j(H:j<e.Aw.length),j<i->Lt k e.Aw[j])->Tt (MY e (Jr fuel) d (some 0) n (i:Int)) λr=>r=0->Lt (k+1) e:=by
    intro n
    induction n with
    |zero=>intro i _ h;omega|succ n X=>
     intro i hi hn hl;unfold MY;refine Tt.cond (λh=>?_) λh=>Tt.mk λ_=>?_
     ·simp only[AZ]at h;have y:i<e.Aw.length:=ox
      refine Tt.Ba ⟨by omega,h⟩ ?_;rw[A0 y,Vg (n:=d+1) ox ox,BB ox];refine Tt.Az (AIb k (d+1) fuel _ ox ox (he.sub (AW y))) λr z=>Tt.cond (λh=>Tt.mk λh0=>?_) λK=>?_
      ·subst h0;simp at h
      ·simp only[Gn]at K;refine X (i+1) y ox λj H Z=>?_;rcases A7 j i with N|N
       ·exact hl j H N
       ·have:j=i:=ox
        subst this;exact z K
     ·simp only[Ai]at h;refine⟨(he 1).1,h2,h3,W,λa ha=>?_⟩;obtain⟨j,H,rfl⟩:=BL ha;exact hl j H ox
   exact loop _ 0 ox ox λj H h=>by omega
theorem AHv{e:Ak}(he:EBs e):Tt (La e) λr=>r=0->Lt 12 e:=
 Tt.Az (AIb 12 1 _ e ox ox he) λr y=>Tt.mk y
end
end Go.Proofs.YthjnkknigpkldaaGreatDoor
