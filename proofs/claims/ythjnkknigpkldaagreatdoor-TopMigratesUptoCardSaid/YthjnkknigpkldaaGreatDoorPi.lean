/-
  A part of the proof that the statement TopMigratesUptoCardSaid holds (0h 0i 0j 0k 0l 0m 0n 0o 0p 0q 0r 0s 0t 0u 0v 0w 0x 0y 0z 1a 1b 1c 1d 1e 1f 1g 1h 1i 1j 2a 2b 2c).
  Conditions: none.
-/
import Derived.Test.YthjnkknigpkldaaGreatDoorPh
import Derived.Test.YthjnkknigpkldaaGreatDoorRows
import Derived.Test.YthjnkknigpkldaaGreatDoorCards
import Derived.Test.YthjnkknigpkldaaGreatDoorTie
import Derived.Deep.DeepHandedRow
import Derived.Lib.LaidTab
set_option linter.all false
set_option maxRecDepth 100000
set_option maxHeartbeats 4000000
namespace Go.Proofs.YthjnkknigpkldaaGreatDoor
section
open Go.ChangeShapes
theorem ABY(e:Ak):Tt (Ol e) λr=>r=true↔AbE e:=
 Tt.mk (by
  unfold AbE;simp only[Aq,B1];rw[show((e.Aw.length:Nat):Int)=0↔e.Aw=[] by rw[<- Jt];omega];constructor
  ·grind
  ·rintro⟨a,b,c,d⟩;exact⟨⟨⟨a,b⟩,c⟩,d⟩)
theorem ANs(op:Int):Tt (Oj op) λr=>r.2=true->(r.1.a=false->op=8)/\(r.1.b=false->op≠3/\op≠6):=by
 unfold Oj;have y:∀q:Bool,(q=true->op=4\/op=7)->Tt (cond q (some ((⟨false,true,false,false,false,false⟩:KW),true)) (cond (op==(5:Int)) (some ((⟨false,true,false,false,true,true⟩:KW),true)) (cond (op==(6:Int)) (some ((⟨true,true,true,true,true,false⟩:KW),true)) (cond (op==(8:Int)) (some ((⟨false,false,false,true,false,false⟩:KW),true)) (some ((⟨false,false,false,false,false,false⟩:KW),false)))))) λr=>r.2=true->(r.1.a=false->op=8)/\(r.1.b=false->op≠3/\op≠6):=λq H=>by
  refine Tt.cond (λh=>Tt.mk λ_=>⟨by simp,λ_=>?_⟩) λ_=>Tt.cond (λh=>Tt.mk λ_=>⟨by simp,λ_=>?_⟩) λ_=>Tt.cond (λh=>Tt.mk λ_=>⟨by simp,by simp⟩) λ_=>Tt.cond (λh=>Tt.mk λ_=>⟨λ_=>by simpa using h,λ_=>?_⟩) λ_=>Tt.mk zp
  ·grind
  ·grind
  ·grind
 have z:∀q:Bool,(q=true->op=1\/op=2)->Tt (cond q (some ((⟨true,true,false,false,false,false⟩:KW),true)) (cond (op==(3:Int)) (some ((⟨false,true,true,false,false,false⟩:KW),true)) (jn (λ(K:Bool)=>(cond K (some ((⟨false,true,false,false,false,false⟩:KW),true)) (cond (op==(5:Int)) (some ((⟨false,true,false,false,true,true⟩:KW),true)) (cond (op==(6:Int)) (some ((⟨true,true,true,true,true,false⟩:KW),true)) (cond (op==(8:Int)) (some ((⟨false,false,false,true,false,false⟩:KW),true)) (some ((⟨false,false,false,false,false,false⟩:KW),false))))))) (λJ6=>(cond (op==(4:Int)) (J6 (op==(4:Int))) (J6 (op==(7:Int)))))))) λr=>r.2=true->(r.1.a=false->op=8)/\(r.1.b=false->op≠3/\op≠6):=λq H=>by
  refine Tt.cond (λh=>Tt.mk λ_=>⟨by simp,λ_=>?_⟩) λ_=>Tt.cond (λh=>Tt.mk λ_=>⟨by simp,by simp⟩) λ_=>?_
  ·grind
  ·exact Tt.cond (λ_=>y _ λh=>.inl (by simpa using h)) λ_=>y _ λh=>.inr (by simpa using h)
 exact Tt.cond (λ_=>z _ λh=>.inl (by simpa using h)) λ_=>z _ λh=>.inr (by simpa using h)
theorem AMS(x:BR)(u:KW):Tt (Rj x u) λr=>r=true->(u.a=false->AbE x.A)/\(u.b=false->AbE x.B):=by
 unfold Rj;refine Y2 (λ_=>ABY _) λp hp=>Y2 (λ_=>ABY _) λq y=>Tt.cond (λ_=>Tt.mk zp) λh=>?_;have fin:(u.a=false->AbE x.A)/\(u.b=false->AbE x.B):=by
  have z:(⟨x.A.Op,x.A.N,x.A.S,x.A.Aw⟩:Ak)=x.A:=by cases x.A;rfl
  have H:(⟨x.B.Op,x.B.N,x.B.S,x.B.Aw⟩:Ak)=x.B:=by cases x.B;rfl
  rw[z]at hp;rw[H]at y;simp only[BQ]at h;have⟨⟨⟨⟨⟨h1,h2⟩,h3⟩,_⟩,_⟩,_⟩:=h;constructor
  ·grind
  ·grind
 refine Tt.cond (λ_=>Tt.mk λ_=>fin) λ_=>Tt.cond (λ_=>Tt.mk λ_=>fin) λ_=>Tt.mk λ_=>fin
theorem AEw{x:BR}{d:Int}(K:SBs x):Tt (Nl x d) λr=>r=0->d<=12/\(Lt 12 x.A\/AbE x.A/\x.Op=8)/\(Lt 12 x.B\/AbE x.B/\x.Op≠3/\x.Op≠6):=by
 have O:(⟨x.A.Op,x.A.N,x.A.S,x.A.Aw⟩:Ak)=x.A:=by cases x.A;rfl
 have W:(⟨x.B.Op,x.B.N,x.B.S,x.B.Aw⟩:Ak)=x.B:=by cases x.B;rfl
 unfold Nl;rw[O,W];refine Tt.Az (ANs x.Op) λu hu=>Y2 (λ_=>AMS x u.1) λp hp=>Tt.cond (λ_=>Tt.mk zp) λh1=>Y2 (λ_=>ADu) λ_ _=>Tt.cond (λ_=>Tt.mk zp) λ_=>?_;simp only[BQ,ED]at h1;have hu:=hu h1.1;have hp:=hp (by rw[h1.1];rfl) h1.2;simp only[CM];have last:(Lt 12 x.A\/AbE x.A/\x.Op=8)->(Lt 12 x.B\/AbE x.B/\x.Op≠3/\x.Op≠6)->Tt (cond (decide ((12:Int)<d)) (some (2:Int)) (some (0:Int))) λr=>r=0->d<=12/\(Lt 12 x.A\/AbE x.A/\x.Op=8)/\(Lt 12 x.B\/AbE x.B/\x.Op≠3/\x.Op≠6):=λz X=>
  Tt.cond (λ_=>Tt.mk zp) λh=>Tt.mk λ_=>⟨by simpa using h,z,X⟩
 have sec:(Lt 12 x.A\/AbE x.A/\x.Op=8)->Tt (cond u.1.b (Az (La x.B) λy=>cond (y !=(0:Int)) (some y) (cond (decide ((12:Int)<d)) (some (2:Int)) (some (0:Int)))) (cond (decide ((12:Int)<d)) (some (2:Int)) (some (0:Int)))) λr=>r=0->d<=12/\(Lt 12 x.A\/AbE x.A/\x.Op=8)/\(Lt 12 x.B\/AbE x.B/\x.Op≠3/\x.Op≠6):=λz=>by
  refine Tt.cond (λ_=>Tt.Az (AHv K.b) λr H=>Tt.cond (λh=>Tt.mk λh0=>?_) λh=>last z (.inl (H (by simpa using h)))) λh=>last z (.inr ⟨hp.2 h,hu.2 h⟩);subst h0;simp at h
 refine Tt.cond (λ_=>Tt.Az (AHv K.a) λr H=>Tt.cond (λh=>Tt.mk λh0=>?_) λh=>sec (.inl (H (by simpa using h)))) λh=>sec (.inr ⟨hp.1 h,hu.1 h⟩);subst h0;simp at h
section
variable {S:Type} {fS:BR->Int->S->AA S} {fR:Ak->S->AA S}
theorem AHs:∀(n:Nat)(L:Int)(s:S)(e:Ak),0<=L->L<=401->L.toNat<n->EBs e->Tt (FH fS fR n ⟨L,s⟩ e) λr=>0<=r.2.left/\r.2.left<=L/\(L≠0->r.2.left<=L-1)/\r.2.Tm=s
 |0,L,s,e,_,_,h,_=>by omega
 |n+1,L,s,e,h0,h1,h2,he=>by
  unfold FH Oa;refine Tt.cond (λh=>Tt.mk ⟨h0,D6 _,λN=>absurd (by simpa using h) N,Y⟩) λh=>?_;simp only[Bh,ne_eq]at h;dsimp only;rw[Vg (n:=L-1) ox ox];have hl:=(he 1).2.2.1;have loop:∀k i:Nat,i<=e.Aw.length->e.Aw.length-i<k->∀M:Int,0<=M->M<=L-1->Tt (Hn e (FH fS fR n) k (i:Int) ⟨M,s⟩) λr=>0<=r.2.left/\r.2.left<=L/\(L≠0->r.2.left<=L-1)/\r.2.Tm=s:=by
   intro k
   induction k with
   |zero=>intro i _ h;omega|succ k O=>
    intro i hi W M H z;unfold Hn;refine Tt.cond (λh=>?_) λh=>Tt.mk ⟨H,by dsimp only;omega,λ_=>z,Y⟩;simp only[AZ]at h;have y:i<e.Aw.length:=ox
    refine Tt.Ba ⟨by omega,h⟩ ?_;rw[A0 y,BB ox];refine Tt.Az (AHs n M s _ H ox ox (he.sub (AW y))) λr K=>?_;rw[K.2.2.2];exact O (i+1) y ox _ K.1 ox
  exact loop _ 0 ox ox _ ox ox
structure WK(fS:BR->Int->S->AA S)(fR:Ak->S->AA S)(I B:Int->S->Prop)(G0 G:Int->BR->Prop)(SP:BR->Prop)(RP:Ak->Prop):Prop where
 hI:∀L L' s,L'<=L->I L s->I L' s
 hB:∀L L' s,L<=L'->B L s->B L' s
 hB0:∀s,¬B 0 s
 hS:∀x d L s,SP x->0<L->I L s->Tt (fS x d s) λs'=>I (L-1) s'/\(B (L-1) s'->B L s/\G0 d x)
 hR:∀e L s,RP e->0<L->I L s->Tt (fR e s) λs'=>I (L-1) s'/\(B (L-1) s'->B L s)
 sb:∀x,SP x->SBs x
 ra:∀x,SP x->¬AbE x.A->RP x.A
 rb:∀x,SP x->¬AbE x.B->RP x.B
 bo:∀x,SP x->∀y∈x.CU,SP y
 el:∀x,SP x->∀y∈x.Js,SP y
 hG:∀d x,SP x->G0 d x->(∀y∈x.CU,G (d+1) y)->(∀y∈x.Js,G (d+1) y)->G d x
variable {I B:Int->S->Prop} {G0 G:Int->BR->Prop} {SP:BR->Prop} {RP:Ak->Prop}
theorem AEk(W:WK fS fR I B G0 G SP RP){L:Int}{s:S}{e:Ak}(h0:0<=L)(h1:L<=401)(he:EBs e)(y:¬AbE e->RP e)(hi:I L s):Tt (I5 fS fR ⟨L,s⟩ e) λr=>0<=r.2.left/\r.2.left<=L/\I r.2.left r.2.Tm/\(B r.2.left r.2.Tm->B L s):=by
 unfold I5;refine Y2 (λ_=>ABY e) λp hp=>Tt.cond (λh=>Tt.mk ⟨h0,D6 _,hi,id⟩) λh=>?_;simp only[BQ,Bh,ne_eq]at h;have N:¬AbE e:=λO=>by
  have:=(hp (by simp[h.1])).2 O;rw[h.2]at this;cases this
 refine Tt.Az (W.hR e L s (y N) ox hi) λz H=>Tt.Az (AHs 1099511627776 L z e h0 h1 ox he) λr y=>Tt.mk ?_;have⟨a,b,c,d⟩:=y;refine⟨a,b,?_,?_⟩
 ·rw[show(r.2.Tm)=z from d];exact W.hI _ _ _ (c h.1) H.1
 ·intro K;rw[show(r.2.Tm)=z from d]at K;exact H.2 (W.hB _ _ _ (c h.1) K)
theorem AAd(W:WK fS fR I B G0 G SP RP):∀(n:Nat)(L:Int)(s:S)(l:List BR)(d:Int),0<=L->L<=401->L.toNat<n->0<=d->d+L<=402->I L s->l.length<9223372036854775807->(∀x∈l,SP x)->Tt (El fS fR n ⟨L,s⟩ l d) λr=>0<=r.2.left/\r.2.left<=L/\I r.2.left r.2.Tm/\(B r.2.left r.2.Tm->B L s/\∀x∈l,G d x)
 |0,L,s,l,d,_,_,h,_,_,_,_,_=>by omega
 |n+1,L,s,l,d,h0,h1,h2,hd,ab,hi,hl,aa=>by
  unfold El Nt;have loop:∀k i:Nat,i<=l.length->l.length-i<k->∀(M:Int)(K:S),0<=M->M<=L->I M K->(B M K->B L s/\∀j(Z:j<l.length),j<i->G d l[j])->Tt (HR l fS d fR (El fS fR n) k (i:Int) ⟨M,K⟩) λr=>0<=r.2.left/\r.2.left<=L/\I r.2.left r.2.Tm/\(B r.2.left r.2.Tm->B L s/\∀x∈l,G d x):=by
   intro k
   induction k with
   |zero=>intro i _ h;omega|succ k ih=>
    intro i ad hk M K hM O z hb;unfold HR;refine Tt.cond (λh=>?_) λh=>Tt.mk ⟨hM,O,z,λhB=>⟨(hb hB).1,λx y=>?_⟩⟩
    ·simp only[AZ]at h;have H:i<l.length:=ox
     refine Tt.Ba ⟨by omega,h⟩ (Tt.cond (λh3=>Tt.mk ?_) λh3=>?_)
     ·simp only[B1]at h3;subst h3;exact⟨D6 _,O,z,λhB=>absurd hB (W.hB0 _)⟩
     simp only[Bh,ne_eq]at h3;rw[A0 H];have y:=aa _ (AW H);generalize hy:l[i]=x at y;have eA:(⟨x.A.Op,x.A.N,x.A.S,x.A.Aw⟩:Ak)=x.A:=by cases x.A;rfl
     have eB:(⟨x.B.Op,x.B.N,x.B.S,x.B.Aw⟩:Ak)=x.B:=by cases x.B;rfl
     dsimp only at h3⊢;rw[eA,eB,Vg (n:=M-1) ox ox,Vg (n:=d+1) ox ox,BB ox];have hq:=W.sb x y;have X:=hq 1;refine Tt.Az (W.hS x d M K y ox z) λs1 e1=>?_;refine Tt.Az (AEk W ox ox hq.a (W.ra x y) e1.1) λr2 e2=>?_;refine Tt.Az (AEk W e2.1 ox hq.b (W.rb x y) e2.2.2.1) λr3 e3=>?_;refine Tt.Az (AAd W n _ _ x.CU (d+1) e3.1 ox ox ox ox e3.2.2.1 X.2.2.2.1.1 (W.bo x y)) λr4 e4=>?_;refine Tt.Az (AAd W n _ _ x.Js (d+1) e4.1 ox ox ox ox e4.2.2.1 X.2.2.2.2.1 (W.el x y)) λr5 e5=>?_;refine ih (i+1) H ox _ _ e5.1 ox e5.2.2.1 λhB=>?_;have⟨b5,g5⟩:=e5.2.2.2 hB;have⟨b4,g4⟩:=e4.2.2.2 b5;have⟨b1,g1⟩:=e1.2 (e2.2.2.2 (e3.2.2.2 b4));have⟨b0,g0⟩:=hb b1;refine⟨b0,λj Z ae=>?_⟩;rcases A7 j i with h5|h5
     ·grind
     ·have:j=i:=ox
      subst this;rw[hy];exact W.hG d x y g1 g4 g5
    ·simp only[Ai]at h;obtain⟨j,Z,rfl⟩:=BL y;exact(hb hB).2 j Z ox
  exact loop _ 0 ox ox L s h0 (D6 _) hi λhB=>⟨hB,λj Z h=>by omega⟩
end
end
section
open Go.ChangeShapes
structure PB(p:Ce):Prop where
 pl:p.BH.length<9223372036854775807
 bl:p.CU.length<9223372036854775807
 b:∀x∈p.CU,SBs x
theorem AKt{l:List Gd}:Tt (QQ l) λ_=>True:=by
 unfold QQ;refine Tt.cond (λ_=>Tt.mk Yt) λhl=>?_;simp only[Ai]at hl;have any:∀(q:List Gd)(y:Gd),q.length<=6->Tt (Dn q (λz=>MX z y)) λ_=>True:=λq y N=>by
  unfold Dn EA;refine Tt.Az (P:=λ_=>True) ?_ λ_ _=>Tt.mk Yt;rw[CM];have loop:∀n i:Nat,i<=q.length->q.length-i<n->Tt (Cz q (λz=>MX z y) (some (-1)) n (i:Int)) λ_=>True:=by
   intro n
   induction n with
   |zero=>intro i _ h;omega|succ n H=>
    intro i hi K;unfold Cz;refine Tt.cond (λh=>?_) λh=>Tt.mk Yt;simp only[AZ]at h;refine Tt.Ba ⟨by omega,h⟩ (Tt.eq Y (Tt.cond (λ_=>Tt.mk Yt) λ_=>?_));rw[BB ox];exact H (i+1) ox ox
  exact loop _ 0 ox ox
 have loop:∀n i:Nat,i<=l.length->l.length-i<n->Tt (LY l (some 0) n (i:Int)) λ_=>True:=by
  intro n
  induction n with
  |zero=>intro i _ h;omega|succ n H=>
   intro i hi K;unfold LY;refine Tt.cond (λh=>?_) λh=>Tt.mk Yt;simp only[AZ]at h;refine Tt.Ba ⟨by omega,h⟩ (Tt.Az ADu λ_ _=>Tt.cond (λ_=>Tt.mk Yt) λ_=>Tt.cond (λ_=>Tt.mk Yt) λ_=>Tt.Ba ⟨by omega,by omega,by omega⟩ (Tt.Az (any _ _ ?_) λ_ _=>Tt.cond (λ_=>Tt.mk Yt) λ_=>?_))
   ·simp only[Bj,Ao];omega
   ·rw[BB ox];exact H (i+1) ox ox
 exact loop _ 0 ox ox
theorem AGW{S:Type}{fS:BR->Int->S->AA S}{fR:Ak->S->AA S}{I B:Int->S->Prop}{G0 G:Int->BR->Prop}{SP:BR->Prop}{RP:Ak->Prop}(W:WK fS fR I B G0 G SP RP){p:Ce}{s:S}(hp:p.CU.length<9223372036854775807)(y:∀x∈p.CU,SP x)(hi:I 401 s):Tt (PM fS fR p s) λq=>∃L,0<=L/\L<=401/\q.1=401-L/\I L q.2/\(B L q.2->B 401 s/\∀x∈p.CU,G 1 x):=by
 unfold PM;refine Tt.Az (AAd W 1099511627776 401 s p.CU 1 ox ox ox ox ox hi hp y) λr z=>Tt.mk ?_;have⟨a,b,c,d⟩:=z;exact⟨_,a,b,Vg ox ox,c,d⟩
theorem vaW:WK (S:=Int) vaS noR (λ_ _=>True) (λL e=>0<L/\e=0) (λd x=>d<=12/\(Lt 12 x.A\/AbE x.A/\x.Op=8)/\(Lt 12 x.B\/AbE x.B/\x.Op≠3/\x.Op≠6)) (λd x=>Ls (13-d).toNat x) SBs (λ_=>True)where
 hI _ _ _ _ _:=Yt
 hB L L' s h1 h2:=⟨by omega,h2.2⟩
 hB0 s h:=ox
 hS x d L s hx h0 _:=by
  unfold vaS;refine Tt.cond (λh=>(AEw hx).mono λr hr=>⟨Yt,λhb=>⟨⟨h0,by simpa using h⟩,hr hb.2⟩⟩) λh=>Tt.mk ⟨Yt,λhb=>?_⟩;have:=hb.2;subst this;simp at h
 hR e L s _ h0 _:=Tt.mk ⟨Yt,λhb=>⟨h0,hb.2⟩⟩
 sb x h:=h
 ra _ _ _:=Yt
 rb _ _ _:=Yt
 bo x h y hy:=h.body hy
 el x h y hy:=h.els hy
 hG d x h h0 h1 h2:=by
  have e:(13-d).toNat=(13-(d+1)).toNat+1:=ox
  rw[e];exact⟨h0.2.1,h0.2.2,⟨(h 1).2.2.2.1.1,h1⟩,(h 1).2.2.2.2.1,h2⟩
theorem Vz{p:Ce}(hp:PB p):Tt (Ho p) λr=>r=0->∀x∈p.CU,Ls 12 x:=by
 unfold Ho;refine Tt.Az ADu λ_ _=>Tt.cond (λ_=>Tt.mk zp) λ_=>Tt.Az AKt λe _=>Tt.cond (λh=>Tt.mk λh0=>?_) λ_=>?_
 ·subst h0;simp at h
 ·refine Tt.Az (AGW vaW hp.bl hp.b Yt) λq y=>Tt.cond (λ_=>Tt.mk zp) λh=>Tt.mk λh0=>?_;have⟨L,a,b,c,_,d⟩:=y;simp only[EE,Ai]at h;refine(d ⟨?_,h0⟩).2;rcases h with h|h
  ·rw[h0]at h;simp at h
  ·omega
theorem AGY{p:Ce}(h:Ho p=some 0)(hp:PB p):∀x∈p.CU,Ls 12 x:=by
 have⟨r,h1,h2⟩:=Vz hp;rw[h]at h1;exact h2 (Lp h1).symm
abbrev SLs(x:BR):Prop:=SBs x/\∃k,Ls k x
theorem SLs.op{x:BR}(h:SLs x):(Lt 12 x.A\/AbE x.A/\x.Op=8)/\(Lt 12 x.B\/AbE x.B/\x.Op≠3/\x.Op≠6):=by
 have⟨_,k,y⟩:=h;cases k with
 |zero=>exact y.elim|succ k=>exact⟨y.1,y.2.1⟩
theorem SLs.bo{x:BR}(h:SLs x):∀y∈x.CU,SLs y:=λy z=>by
 have⟨h1,k,H⟩:=h;cases k with
 |zero=>exact H.elim|succ k=>exact⟨h1.body z,k,H.2.2.1.2 y z⟩
theorem SLs.el{x:BR}(h:SLs x):∀y∈x.Js,SLs y:=λy z=>by
 have⟨h1,k,H⟩:=h;cases k with
 |zero=>exact H.elim|succ k=>exact⟨h1.els z,k,H.2.2.2.2 y z⟩
theorem lsW{S:Type}{fS:BR->Int->S->AA S}{fR:Ak->S->AA S}{I:Int->S->Prop}(hI:∀L L' s,L'<=L->I L s->I L' s)(hS:∀x d L s,0<L->I L s->Tt (fS x d s) λs'=>I (L-1) s')(hR:∀e L s,Lt 12 e->0<L->I L s->Tt (fR e s) λs'=>I (L-1) s'):WK fS fR I (λ_ _=>False) (λ_ _=>True) (λ_ _=>True) SLs (Lt 12)where
 hI:=hI
 hB _ _ _ _ h:=h
 hB0 _ h:=h
 hS x d L s _ h1 h2:=(hS x d L s h1 h2).mono λa h=>⟨h,λb=>b.elim⟩
 hR e L s h0 h1 h2:=(hR e L s h0 h1 h2).mono λa h=>⟨h,λb=>b.elim⟩
 sb _ h:=h.1
 ra x h h2:=h.op.1.elim id λg=>absurd g.1 h2
 rb x h h2:=h.op.2.elim id λg=>absurd g.1 h2
 bo _ h:=h.bo
 el _ h:=h.el
 hG _ _ _ _ _ _:=Yt
theorem AMl{p:Ce}(hp:PB p)(hl:p.BH.length<=1099511627776)(h:∀x∈p.CU,SLs x):Tt (Rk p) λl=>l.length<=1099511627776+401:=by
 unfold Rk;have loop:∀n i:Nat,i<=p.BH.length->p.BH.length-i<n->∀l:List A9,l.length=i->Tt (WN p.BH n (i:Int) l) λl=>l.length=p.BH.length:=by
  intro n
  induction n with
  |zero=>intro i _ h;omega|succ n z=>
   intro i hi N l y;unfold WN;refine Tt.cond (λh=>?_) λh=>Tt.mk ?_
   ·simp only[AZ]at h;refine Tt.Ba ⟨by omega,h⟩ (Tt.Ba (by simp only[AT,BO];omega) ?_);rw[BB ox];exact z (i+1) ox ox _ (by simp[y])
   ·simp only[Ai]at h;omega
 refine Tt.Az (loop _ 0 ox ox [] Y) λl H=>?_;refine Tt.Az (AGW (lsW (I:=λL(s:List A9)=>(s.length:Int)+L<=1099511627776+401) (λL L' s h1 h2=>by omega) ?_ λe L s _ h1 h2=>Tt.mk ox) hp.bl h ox) λq K=>Tt.mk ?_
 ·intro x d L s h1 h2;unfold naS;refine Tt.cond (λ_=>Tt.Ba (by simp only[AT,BO];omega) (Tt.mk ?_)) λ_=>Tt.mk ox;simp only[AT,BO];omega
 ·have⟨L,a,b,c,d,_⟩:=K;omega
theorem AFi:∀(k fuel:Nat)(e:Ak),k<=fuel->Lt k e->Jq fuel e=some e
 |0,_,e,_,h=>h.elim|k+1,0,e,h,_=>by omega
 |k+1,fuel+1,e,W,⟨_,_,hl,_,z⟩=>by
  unfold Jq QO;rw[CM];have loop:∀n i:Nat,i<=e.Aw.length->e.Aw.length-i<n->∀l:List Ak,l=e.Aw.take i->LZ e (Jq fuel) (λH=>some ⟨e.Op,e.N,e.S,H⟩) n l (i:Int)=some e:=by
   intro n
   induction n with
   |zero=>intro i _ h;omega|succ n K=>
    intro i hi X l y;unfold LZ;rcases A7 i e.Aw.length with h|h
    ·simp only[show(i:Int)<(e.Aw.length:Int) by omega,Ay,cond_true,show 0<=(i:Int) by omega,CA,DW,A0 h,AFi k fuel _ ox (z _ (AW h)),AY];have O:l++[e.Aw[i]]=e.Aw.take (i+1):=by rw[y,Bk h]
     rw[O,A5 (by rw[Ao];omega),BB ox];exact K (i+1) h ox _ Y
    ·have:i=e.Aw.length:=ox
     subst this;rw[y,Kr];cases e;simp
  exact loop _ 0 ox ox [] Y
theorem AM4{p:Ce}(hp:PB p)(h:∀x∈p.CU,SLs x):Tt (Rl p) λl=>l.length<=401/\∀e∈l,Lt 12 e:=by
 unfold Rl;refine Tt.Az (AGW (lsW (I:=λL(s:List Ak)=>(s.length:Int)+L<=401/\∀e∈s,Lt 12 e) (λL L' s h1 h2=>⟨by omega,h2.2⟩) (λx d L s h1 h2=>Tt.mk ⟨by omega,h2.2⟩) ?_) hp.bl h ⟨by simp,by simp⟩) λq z=>Tt.mk ?_
 ·intro e L s he h1 h2;unfold exS R3;rw[AFi 12 1099511627776 e ox he,AY];have H:((s++[(⟨0,0,[],[]⟩:Ak)]).set ((s.length:Nat):Int).toNat e)=s++[e]:=by simp
  rw[A5 (by simp only[AT,BO];omega),A5 (by simp only[AT,BO];omega),H];refine Tt.eq Y (Tt.mk ⟨?_,λx y=>?_⟩)
  ·simp only[AT,BO];omega
  ·rcases BW.1 y with y|y
   ·exact h2.2 x y
   ·rw[List.mem_singleton.1 y];exact he
 ·have⟨L,a,b,c,d,_⟩:=z;exact⟨by omega,d.2⟩
theorem AIE:∀(k n:Nat)(e:Ak),k<=n->Lt k e->Tt (Qk n e) λ_=>True
 |0,_,e,_,h=>h.elim|k+1,0,e,h,_=>by omega
 |k+1,n+1,e,N,⟨_,_,hl,_,z⟩=>by
  unfold Qk;have all:∀l:List Ak,(∀x∈l,Lt k x)->Tt (UJ (Qk n) l) λ_=>True:=by
   intro l
   induction l with
   |nil=>intro _;exact Tt.mk Yt|cons x l H=>intro h;exact Tt.Az (AIE k n x ox (h x zp)) λ_ _=>Tt.Az (H λy K=>h y (by simp[K])) λ_ _=>Tt.mk Yt
  exact Tt.Ba ox (Tt.Az (all _ z) λ_ _=>Tt.mk Yt)
theorem AM2{p:Ce}(hp:PB p):Tt (KJ p) λ_=>True:=by
 unfold KJ;refine Tt.Az (Vz hp) λr H=>Tt.cond (λ_=>Tt.mk Yt) λh=>?_;have K:=H (by simpa using h);refine Tt.Az (AM4 hp λx z=>⟨hp.b x z,12,K x z⟩) λl hl=>Tt.Ba ox (Tt.Az (P:=λ_=>True) ?_ λ_ _=>Tt.mk Yt);have all:∀l:List Ak,(∀x∈l,Lt 12 x)->Tt (UJ (Qk 1099511627776) l) λ_=>True:=by
  intro l
  induction l with
  |nil=>intro _;exact Tt.mk Yt|cons x l N=>intro h;exact Tt.Az (AIE 12 _ x ox (h x zp)) λ_ _=>Tt.Az (N λy O=>h y (by simp[O])) λ_ _=>Tt.mk Yt
 exact all l hl.2
end
section
open Go.ChangeShapes
theorem APH(op:Int):Tt (Jf op) λ_=>True:=by
 unfold Jf;have y:∀q:Bool,Tt (cond q (some ((2:Int),(1:Int))) (some ((2:Int),(3:Int)))) λ_=>True:=λq=>Tt.cond (λ_=>Tt.mk Yt) λ_=>Tt.mk Yt;simp only[CM]
 repeat' first
  |exact Tt.mk Yt|refine Tt.cond (λ_=>?_) λ_=>?_
theorem AOE:∀(k fuel:Nat)(e:Ak)(vs:List (A9×Int)),k<=fuel->Lt k e->Tt (K6 fuel e vs) λ_=>True
 |0,_,e,_,_,h=>h.elim|k+1,0,e,_,h,_=>by omega
 |k+1,fuel+1,e,vs,X,⟨_,_,hl,h2,K⟩=>by
  unfold K6 Wo;refine Tt.cond (λ_=>Tt.cond (λ_=>Tt.mk Yt) λ_=>Tt.cond (λ_=>Tt.mk Yt) λ_=>Tt.mk Yt) λ_=>?_;rw[CM];have loop2:∀(J:List Int->AA (Int×Int)),(∀l:List Int,l.length=e.Aw.length->Tt (J l) λ_=>True)->∀n i:Nat,i<=e.Aw.length->e.Aw.length-i<n->∀l:List Int,l.length=i->Tt (NW e (K6 fuel) vs J n l (i:Int)) λ_=>True:=by
   intro J N n
   induction n with
   |zero=>intro i _ h;omega|succ n z=>
    intro i hi O l H;unfold NW;refine Tt.cond (λh=>?_) λh=>?_
    ·simp only[AZ]at h;have y:i<e.Aw.length:=ox
     refine Tt.Ba ⟨by omega,h⟩ ?_;rw[A0 y,BB ox];refine Tt.Az (AOE k fuel _ vs ox (K _ (AW y))) λ_ _=>Tt.cond (λ_=>Tt.mk Yt) λ_=>Tt.Ba (by simp only[AT,BO];omega) ?_;exact z (i+1) y ox _ (by simp[H])
    ·simp only[Ai]at h;exact N l ox
  refine loop2 _ (λl W=>?_) _ 0 ox ox [] Y;refine Tt.cond (λh=>?_) λ_=>Tt.Az (APH _) λg _=>?_
  ·simp only[Aq,AZ]at h;have:=h2 h;refine Tt.Ba ⟨by omega,by omega⟩ (Tt.Ba ⟨by omega,by omega⟩ (Tt.Ba (λ_=>⟨by omega,by omega⟩) (Y2 (P:=λ_=>True) (λ_=>Tt.mk Yt) λ_ _=>Tt.cond (λ_=>Tt.mk Yt) λ_=>Tt.mk Yt)))
  ·rw[CM];have loop1:∀n i:Nat,i<=l.length->l.length-i<n->Tt (NX l g (some (g.2,0)) n (i:Int)) λ_=>True:=by
    intro n
    induction n with
    |zero=>intro i _ h;omega|succ n z=>
     intro i hi O;unfold NX;refine Tt.cond (λh=>?_) λh=>Tt.mk Yt;simp only[AZ]at h;rw[BB ox];exact Tt.Ba ⟨by omega,h⟩ (Tt.cond (λ_=>Tt.mk Yt) λ_=>z (i+1) ox ox)
   exact loop1 _ 0 ox ox
theorem AOD{c:Ag}{x:BR}(h:SLs x):Tt (Hc c x) λ_=>True:=by
 have H:(⟨x.A.Op,x.A.N,x.A.S,x.A.Aw⟩:Ak)=x.A:=by cases x.A;rfl
 have K:(⟨x.B.Op,x.B.N,x.B.S,x.B.Aw⟩:Ak)=x.B:=by cases x.B;rfl
 unfold Hc;rw[H,K];have⟨h1,h2⟩:=h.op;refine Tt.cond (λ_=>Tt.mk Yt) λz=>?_;simp only[Bh,ne_eq]at z;refine Tt.Az (AOE 12 _ _ _ ox (h1.elim id λg=>absurd g.2 z)) λ_ _=>?_;refine Tt.cond (λy=>?_) λ_=>Tt.mk Yt;simp only[Aq,ES,B1]at y;exact Tt.Az (AOE 12 _ _ _ ox (h2.elim id λg=>by omega)) λ_ _=>Tt.mk Yt
theorem AAf:∀(d fuel:Nat),2*d+1<=fuel->∀(c:Ag)(l:List BR),l.length<9223372036854775807->(∀x∈l,SBs x/\Ls d x)->Tt (Dv fuel c l) λ_=>True
 |d,0,hf,_,_,_,_=>by omega
 |d,fuel+1,hf,c,l,hl,hx=>by
  unfold Dv JA;have O:∀x∈l,∀c,Tt (DV fuel c x) λ_=>True:=λx W c=>by
   have z:=hx x W;cases d with
   |zero=>exact z.2.elim|succ d=>
    cases fuel with
    |zero=>omega|succ fuel=>
     have X:SLs x:=⟨z.1,d+1,z.2⟩;have⟨_,_,⟨x3,x4⟩,Z,x6⟩:=z.2;have b1:=λc=>AAf d fuel ox c x.CU x3 λy K=>⟨z.1.body K,x4 y K⟩;have b2:=λc=>AAf d fuel ox c x.Js Z λy K=>⟨z.1.els K,x6 y K⟩;unfold DV JP;simp only[GQ,AY,CM];refine Tt.Az (AOD X) λ_ _=>?_
     repeat' first
      |exact Tt.mk Yt|refine Tt.cond (λ_=>?_) λ_=>?_|refine Tt.Az (b1 _) λ_ _=>?_|refine Tt.Az (b2 _) λ_ _=>?_
  simp only[CM];have loop1:∀(n i:Nat)(c:Ag),i<=l.length->l.length-i<n->Tt (Ev l (λx9=>some (0,x9)) n (i:Int) c) λ_=>True:=by
   intro n
   induction n with
   |zero=>intro i _ _ h;omega|succ n N=>
    intro i c hi hn;unfold Ev;refine Tt.cond (λh=>?_) λh=>Tt.mk Yt;simp only[AZ]at h;rw[BB ox];exact Tt.Ba ⟨by omega,h⟩ (Tt.cond (λ_=>N (i+1) _ ox ox) λ_=>N (i+1) _ ox ox)
  have loop2:∀(n i:Nat)(c:Ag),i<=l.length->l.length-i<n->Tt (Fz l (DV fuel) (λZ=>Ev l (λx9=>some (0,x9)) (((l.length:Nat):Int).toNat+1) 0 Z) n (i:Int) c) λ_=>True:=by
   intro n
   induction n with
   |zero=>intro i _ _ h;omega|succ n N=>
    intro i c hi hn;unfold Fz;refine Tt.cond (λh=>?_) λh=>loop1 _ 0 _ ox ox;simp only[AZ]at h;have H:i<l.length:=ox
    rw[BB ox,A0 H];exact Tt.Ba ⟨by omega,h⟩ (Tt.Az (O _ (AW H) _) λ_ _=>Tt.cond (λ_=>Tt.mk Yt) λ_=>N (i+1) _ H ox)
  exact loop2 _ 0 _ ox ox
theorem AEs{p:Ce}(hp:PB p)(hl:p.BH.length<=1099511627776):Tt (NY p) λr=>r=0->Ho p=some 0:=by
 unfold NY R2;have⟨v,hv,z⟩:=Vz hp;refine Tt.eq hv (Tt.cond (λh=>Tt.mk λh0=>?_) λh=>?_)
 ·subst h0;simp at h
 have X:v=0:=by simpa using h
 subst X;have W:=z Y;refine Tt.mono (P:=λ_=>True) ?_ λ_ _ _=>hv;have Z:∀x∈p.CU,SBs x/\Ls 12 x:=λx y=>⟨hp.b x y,W x y⟩;rw[CM];have loop2:∀(J:Ag->AA Int),(∀c,Tt (J c) λ_=>True)->∀(n i:Nat)(c:Ag),i<=p.BH.length->p.BH.length-i<n->Tt (Kc p J n (i:Int) c) λ_=>True:=by
  intro J hJ n
  induction n with
  |zero=>intro i _ _ h;omega|succ n H=>
   intro i c hi hn;unfold Kc;refine Tt.cond (λh=>?_) λh=>hJ _;simp only[AZ]at h;rw[BB ox];exact Tt.Ba ⟨by omega,h⟩ (Tt.cond (λ_=>Tt.mk Yt) λ_=>Tt.eq Y (H (i+1) _ ox ox))
 refine loop2 _ (λc=>Tt.Az (AMl hp hl λx y=>⟨hp.b x y,12,W x y⟩) λK aa=>?_) _ 0 _ ox ox;rw[CM];have loop1:∀(n i:Nat)(c:Ag)(q:List (A9×Bool)),i<=K.length->K.length-i<n->Tt (Kd K (λN _=>Az (Dv 1099511627776 N p.CU) λO=>some O.1) n (i:Int) c q) λ_=>True:=by
  intro n
  induction n with
  |zero=>intro i _ _ _ h;omega|succ n H=>
   intro i c q hi hn;unfold Kd;refine Tt.cond (λh=>?_) λh=>Tt.Az (AAf 12 _ ox _ _ hp.bl Z) λ_ _=>Tt.mk Yt;simp only[AZ]at h;rw[BB ox];exact Tt.Ba ⟨by omega,h⟩ (Tt.cond (λ_=>Tt.mk Yt) λ_=>H (i+1) _ _ ox ox)
 exact loop1 _ 0 _ _ ox ox
theorem APc{p:Ce}(hp:PB p)(hl:p.BH.length<=1099511627776):Tt (KK p) λr=>r=0->Ho p=some 0:=by
 unfold KK;refine Tt.Az (AEs hp hl) λr y=>Tt.cond (λh=>Tt.mk λh0=>?_) λh=>?_
 ·subst h0;simp at h
 ·exact Tt.Az (AM2 hp) λq _=>Tt.cond (λ_=>Tt.mk zp) λ_=>Tt.mk λ_=>y (by simpa using h)
theorem AAL:∀(k fuel:Nat)(e:Ak),k<=fuel->Lt k e->Tt (F8 fuel e) λ_=>True
 |0,_,e,_,h=>h.elim|k+1,0,e,h,_=>by omega
 |k+1,fuel+1,e,N,⟨_,_,hl,_,H⟩=>by
  unfold F8 QM;have loop:∀(n i:Nat)(a:Int),i<=e.Aw.length->e.Aw.length-i<n->Tt (LW e (F8 fuel) (λz=>some (min z 16385)) n a (i:Int)) λ_=>True:=by
   intro n
   induction n with
   |zero=>intro i _ _ h;omega|succ n K=>
    intro i a hi O;unfold LW;refine Tt.cond (λh=>?_) λh=>Tt.mk Yt;simp only[AZ]at h;have y:i<e.Aw.length:=ox
    rw[BB ox,A0 y];exact Tt.Ba ⟨by omega,h⟩ (Tt.Az (AAL k fuel _ ox (H _ (AW y))) λ_ _=>K (i+1) _ y ox)
  simp only[CM]
  repeat' first
   |exact loop _ 0 _ ox ox|refine Tt.cond (λ_=>?_) λ_=>?_
abbrev L4(l:List Int):Prop:=l.length=4
theorem AGu{a b:List Int}(y:L4 a)(z:L4 b):Tt (FY a b) L4:=by
 unfold FY;refine Tt.Ba y (Tt.Ba z ?_);have loop:∀(n i:Nat)(a:List Int),L4 a->i<=4->4-i<n->Tt (HQ b (λH=>some H) n a (i:Int)) L4:=by
  intro n
  induction n with
  |zero=>intro i _ _ _ h;omega|succ n K=>
   intro i a y hi N;unfold HQ;refine Tt.cond (λh=>?_) λh=>Tt.mk y;simp only[AZ]at h;rw[BB ox];exact Tt.Ba ⟨by omega,by omega⟩ (Tt.Ba ⟨by omega,by omega⟩ (Tt.Ba ⟨by omega,by omega⟩ (K (i+1) _ (by simpa[L4]using y) ox ox)))
 exact loop _ 0 a y ox ox
theorem ALD{a b:List Int}(y:L4 a)(z:L4 b):Tt (Hl a b) L4:=by
 unfold Hl;refine Tt.Ba y (Tt.Ba z ?_);have loop:∀(n i:Nat)(a:List Int),L4 a->i<=4->4-i<n->Tt (Ga b (λH=>some H) n a (i:Int)) L4:=by
  intro n
  induction n with
  |zero=>intro i _ _ _ h;omega|succ n K=>
   intro i a y hi N;unfold Ga;refine Tt.cond (λh=>?_) λh=>Tt.mk y;simp only[AZ]at h;rw[BB ox];exact Tt.Ba ⟨by omega,by omega⟩ (Tt.Ba ⟨by omega,by omega⟩ (Tt.Ba ⟨by omega,by omega⟩ (K (i+1) _ (by simpa[L4]using y) ox ox)))
 exact loop _ 0 a y ox ox
theorem AMM{a:List Int}{k:Int}(y:L4 a):Tt (ID a k) L4:=by
 unfold ID;refine Tt.Ba y ?_;have loop:∀(n i:Nat)(a:List Int),L4 a->i<=4->4-i<n->Tt (Gv k (λz=>some z) n a (i:Int)) L4:=by
  intro n
  induction n with
  |zero=>intro i _ _ _ h;omega|succ n H=>
   intro i a y hi K;unfold Gv;refine Tt.cond (λh=>?_) λh=>Tt.mk y;simp only[AZ]at h;rw[BB ox];exact Tt.Ba ⟨by omega,by omega⟩ (Tt.Ba ⟨by omega,by omega⟩ (H (i+1) _ (by simpa[L4]using y) ox ox))
 exact loop _ 0 a y ox ox
theorem ABL:∀(d fuel:Nat),2*d+1<=fuel->∀(l:List BR),l.length<9223372036854775807->(∀x∈l,SBs x/\Ls d x)->Tt (Gw fuel l) L4
 |d,0,hf,_,_,_=>by omega
 |d,fuel+1,hf,l,hl,hx=>by
  unfold Gw QN;have ad:∀x∈l,Tt (GZ fuel x) L4:=λx ae=>by
   have z:=hx x ae;cases d with
   |zero=>exact z.2.elim|succ d=>
    cases fuel with
    |zero=>omega|succ fuel=>
     have⟨h1,h2⟩:=SLs.op ⟨z.1,d+1,z.2⟩;have⟨_,_,⟨x3,x4⟩,x5,x6⟩:=z.2;have b1:=ABL d fuel ox x.CU x3 λy X=>⟨z.1.body X,x4 y X⟩;have b2:=ABL d fuel ox x.Js x5 λy X=>⟨z.1.els X,x6 y X⟩;have eA:(⟨x.A.Op,x.A.N,x.A.S,x.A.Aw⟩:Ak)=x.A:=by cases x.A;rfl
     have eB:(⟨x.B.Op,x.B.N,x.B.S,x.B.Aw⟩:Ak)=x.B:=by cases x.B;rfl
     have main:∀c:List Int,L4 c->Tt (cond (x.Op==(3:Int)) (Ba (0<=(1:Int)/\(1:Int)<(c.length:Int)) (Az (F8 1099511627776 x.B) λZ=>(Ba (0<=(1:Int)/\(1:Int)<(c.length:Int)) (Ba (0<=(2:Int)/\(2:Int)<((c.set (1:Int).toNat (min (AB ((AN c (1:Int))+Z)) (16385:Int))).length:Int)) (some ((c.set (1:Int).toNat (min (AB ((AN c (1:Int))+Z)) (16385:Int))).set (2:Int).toNat (1:Int)))))))
      (cond (x.Op==(4:Int)) (Ba (0<=(2:Int)/\(2:Int)<(c.length:Int)) (some (c.set (2:Int).toNat (1:Int))))
      (cond (x.Op==(7:Int)) (Ba (0<=(3:Int)/\(3:Int)<(c.length:Int)) (some (c.set (3:Int).toNat (1:Int))))
      (cond (x.Op==(5:Int)) (Az (Gw fuel x.CU) λaf=>(Az (Gw fuel x.Js) λag=>(Az (Hl af ag) λah=>(Az (FY c ah) λaa=>(Ba (aa.length=4) (some aa))))))
      (cond (x.Op==(6:Int)) (Ba (0<=(1:Int)/\(1:Int)<(c.length:Int)) (Az (F8 1099511627776 x.B) λK=>(Ba (0<=(1:Int)/\(1:Int)<(c.length:Int)) (Ba (0<=(0:Int)/\(0:Int)<((c.set (1:Int).toNat (min (AB ((AN c (1:Int))+K)) (16385:Int))).length:Int)) (Ba (0<=(0:Int)/\(0:Int)<((c.set (1:Int).toNat (min (AB ((AN c (1:Int))+K)) (16385:Int))).length:Int)) (Az (Gw fuel x.CU) λai=>(Az (ID ai x.Max) λaj=>(Az (FY ((c.set (1:Int).toNat (min (AB ((AN c (1:Int))+K)) (16385:Int))).set (0:Int).toNat (AB ((AN (c.set (1:Int).toNat (min (AB ((AN c (1:Int))+K)) (16385:Int))) (0:Int))+x.Max))) aj) λab=>(Ba (ab.length=4) (some ab)))))))))) (some c)))))) L4:=λc H=>by
      unfold L4 at H;refine Tt.cond (λh=>?_) λ_=>Tt.cond (λ_=>Tt.Ba ox (Tt.mk (by simpa[L4]using H))) λ_=>Tt.cond (λ_=>Tt.Ba ox (Tt.mk (by simpa[L4]using H))) λ_=>Tt.cond (λ_=>?_) λ_=>Tt.cond (λh=>?_) λ_=>Tt.mk H
      ·simp only[B1]at h;exact Tt.Ba ox (Tt.Az (AAL 12 _ _ ox (h2.elim id λg=>by omega)) λ_ _=>Tt.Ba ox (Tt.Ba (by simp only[Cr];omega) (Tt.mk (by simpa[L4]using H))))
      ·exact Tt.Az b1 λa W=>Tt.Az b2 λb hb=>Tt.Az (ALD W hb) λu hu=>Tt.Az (AGu H hu) λv hv=>Tt.Ba hv (Tt.mk hv)
      ·simp only[B1]at h;exact Tt.Ba ox (Tt.Az (AAL 12 _ _ ox (h2.elim id λg=>by omega)) λ_ _=>Tt.Ba ox (Tt.Ba (by simp only[Cr];omega) (Tt.Ba (by simp only[Cr];omega) (Tt.Az b1 λa W=>Tt.Az (AMM W) λb hb=>Tt.Az (AGu (by simpa[L4]using H) hb) λv hv=>Tt.Ba hv (Tt.mk hv)))))
     unfold GZ PK;rw[eA,eB];simp only[CM];refine Tt.Ba zp (Tt.cond (λh=>?_) λ_=>main _ (by simp[L4]));simp only[bne_iff_ne,ne_eq]at h;exact Tt.Az (AAL 12 _ _ ox (h1.elim id λg=>absurd g.2 h)) λ_ _=>Tt.Ba zp (main _ (by simp[L4]))
  have loop:∀(n i:Nat)(a:List Int),L4 a->i<=l.length->l.length-i<n->Tt (LX l (GZ fuel) (λx7=>some x7) n a (i:Int)) L4:=by
   intro n
   induction n with
   |zero=>intro i _ _ _ h;omega|succ n ih=>
    intro i a W hi hn;unfold LX;refine Tt.cond (λh=>?_) λh=>Tt.mk W;simp only[AZ]at h;have O:i<l.length:=ox
    rw[BB ox,A0 O];exact Tt.Ba ⟨by omega,h⟩ (Tt.Az (ad _ (AW O)) λb hb=>Tt.Az (AGu W hb) λc H=>Tt.Ba H (ih (i+1) _ H O ox))
  exact loop _ 0 _ (by simp[L4]) ox ox
theorem AOe{p:Ce}(hp:PB p)(hl:p.BH.length<=1099511627776):Tt (Oi p) λr=>r=0->∀x∈p.CU,Ls 12 x:=by
 unfold Oi;refine Tt.Az (APc hp hl) λr H=>Tt.cond (λh=>Tt.mk λh0=>?_) λh=>?_
 ·subst h0;simp at h
 have y:=AGY (H (by simpa using h)) hp;refine Tt.mono (P:=λ_=>True) ?_ λ_ _ _=>y;refine Tt.Az (ABL 12 _ ox _ hp.bl λx z=>⟨hp.b x z,y x z⟩) λc K=>?_;unfold L4 at K;simp only[CM]
 repeat' first
  |exact Tt.mk Yt|refine Tt.cond (λ_=>?_) λ_=>?_|refine Tt.Ba ox ?_
structure VB(v:Ah):Prop where
 n:Rz v.N
 s:v.S.length<JJ
theorem AHy{p:Ce}{args:List Ah}(hp:PB p)(hl:p.BH.length<=1099511627776)(hv:∀v∈args,VB v):Tt (Mm p args) λr=>r=0->args.length=p.BH.length/\∀v∈args,GV v:=by
 unfold Mm;refine Tt.Az (AEs hp hl) λr _=>Tt.cond (λ_=>Tt.mk zp) λh=>?_;simp only[BQ,Gn]at h;have hlen:args.length=p.BH.length:=ox
 rw[CM];have loop:∀n i:Nat,i<=args.length->args.length-i<n->(∀j(K:j<args.length),j<i->GV args[j])->Tt (LO args p (some 0) n (i:Int)) λr=>r=0->args.length=p.BH.length/\∀v∈args,GV v:=by
  intro n
  induction n with
  |zero=>intro i _ h;omega|succ n X=>
   intro i hi hn N;unfold LO;refine Tt.cond (λh=>?_) λh=>Tt.mk λ_=>⟨hlen,λv hv=>?_⟩
   ·simp only[AZ]at h;have z:i<args.length:=ox
    rw[BB ox,A0 z];have H:=hv _ (AW z);refine Tt.Ba ⟨by omega,h⟩ (Tt.Ba (λ_=>⟨by omega,by omega⟩) (Y2 (P:=λq=>q=M6 args[i].S) (λ_=>⟨_,AEp H.s,Y⟩) λq O=>Tt.Ba (λ_=>⟨by omega,by omega⟩) (Tt.cond (λ_=>Tt.mk zp) λy=>X (i+1) z ox λj K Z=>?_)));rcases A7 j i with W|W
    ·exact N j K W
    ·have:j=i:=ox
     subst this;simp only[EE,ED,Aq,B1]at y O;rcases y with y|y
     ·exact⟨H.n,λ_=>y.1.2,λh2=>absurd (h2.symm.trans y.1.1) zp⟩
     ·exact⟨H.n,λh1=>absurd (h1.symm.trans y.1.1.1) zp,λ_=>⟨y.1.1.2,(O y.1.1).symm.trans y.1.2⟩⟩
   ·simp only[Ai]at h;obtain⟨j,K,rfl⟩:=BL hv;exact N j K ox
 exact loop _ 0 ox ox λj K h=>by omega
end
variable {aQ:AR} {l:List AR}
section
open Go.ChangeShapes
def Ii(s:List AR)(k:A9):Ah:=match s.find? λx=>x.Key==k with
 |some x=>x.JK|none=>⟨0,0,[]⟩
theorem ALN{s:List AR}(hl:s.length<9223372036854775807)(k:A9):MP s k=some (Ii s k):=by
 unfold MP;rw[CM];have loop:∀n i:Nat,i<=s.length->s.length-i<n->∀z,MO s k (λ_=>some ⟨0,0,[]⟩) n z (i:Int)=some (Ii (s.drop i) k):=by
  intro n
  induction n with
  |zero=>intro i _ h;omega|succ n y=>
   intro i hi H z;unfold MO;rcases A7 i s.length with h|h
   ·simp only[show(i:Int)<(s.length:Int) by omega,Ay,cond_true,show 0<=(i:Int) by omega,CA,DW,A0 h];rw[A4 h];unfold Ii;rw[KB];cases s[i].Key==k
    ·rw[AP,BB ox,y (i+1) h ox];rfl
    ·rfl
   ·have:i=s.length:=ox
    subst this;simp[Ii]
 exact loop _ 0 ox ox _
theorem US{s:List AR}(H:S1 s){x:AR}(z:x∈s):Ii s x.Key=x.JK:=by
 unfold Ii;cases h:s.find? λy=>y.Key==x.Key with
 |none=>exact absurd (Q8.1 h x z) zp|some y=>
  have h1:=IX h;have h2:y.Key=x.Key:=by grind
  rw[XN H h1 z h2]
theorem QX{s:List AR}{k:A9}(h:∀x∈s,x.Key≠k):Ii s k=⟨0,0,[]⟩:=by
 unfold Ii;cases z:s.find? λy=>y.Key==k with
 |none=>rfl|some y=>exact absurd (by simpa using Uu z) (h y (IX z))
theorem S3(s:List AR)(k:A9):(∃x∈s,x.Key=k/\Ii s k=x.JK)\/((∀x∈s,x.Key≠k)/\Ii s k=⟨0,0,[]⟩):=by
 unfold Ii;cases z:s.find? λy=>y.Key==k with
 |none=>exact .inr ⟨λx H e=>Q8.1 z x H (by simpa using e),Y⟩
 |some y=>exact .inl ⟨y,IX z,by simpa using Uu z,Y⟩
theorem AH0{a b:List AR}(K:G5 a=true)(N:G5 b=true)(h:∀k,Ii a k=Ii b k):a=b:=by
 have⟨a1,a2⟩:=Eg.1 K;have⟨O,z⟩:=Eg.1 N;have key:∀{a b:List AR},(∀x∈a,AKn x)->S1 a->(∀k,Ii a k=Ii b k)->∀x∈a,x∈b:=λW X h x H=>by
  have e:=US X H;rw[h]at e;rcases S3 _ x.Key with⟨y,Z,h1,h2⟩|⟨_,h2⟩
  ·rw[h2]at e;have:y=x:=by cases x;cases y;simp_all
   exact this▸Z
  ·rw[h2]at e;exact absurd (B2 Ah.BD e).symm (W x H).2.2
 exact UO a2 z λx=>⟨key a1 a2 h x,key O z (λk=>(h k).symm) x⟩
def wrt(y:AR)(l:List AR):List AR:=cond (y.JK.BD==0) l (y::l)
def am:List AR->List AR->List AR
 |[],[]=>[]|[],y::b=>wrt y (am [] b)|x::a,[]=>x::a|x::a,y::b=>if Dy x.Key y.Key=true then x::am a (y::b)else if Dy y.Key x.Key=true then wrt y (am (x::a) b)else wrt y (am a b)
termination_by a b=>a.length+b.length
theorem ALk(a:List AR):am a []=a:=by cases a<;>simp[am]
theorem AHT{a b:List AR}(ab:a.length+b.length<1099511627776):∀n(i k:Nat)(acc:List AR),i<=a.length->k<=b.length->(a.length-i)+(b.length-k)<n->acc.length+(a.length-i)+(b.length-k)<=1099511627776->KP a b Ua RX Yv IY n acc (i:Int) (k:Int)=some (acc++am (a.drop i) (b.drop k)):=by
 intro n
 induction n with
 |zero=>intro i k acc _ _ h;omega|succ n O=>
  intro i k acc hi hk hn aa;rw[KP];simp only[CM];have ei:((i:Int)==(a.length:Int))=decide (i=a.length):=by grind
  have ek:((k:Int)==(b.length:Int))=decide (k=b.length):=by grind
  have keep:∀x,acc.length<1099511627776->Ua acc x=some (acc++[x]):=λx h=>by
   unfold Ua;rw[A5 (by simp only[AT,Bz,HI];omega)]
  have write:∀y,acc.length<1099511627776->∃c,RX acc y=some c/\c.length<=acc.length+1/\∀l,c++l=acc++wrt y l:=λy h=>by
   unfold RX Ix wrt;rw[AY];cases hy:(y.JK.BD==0)
   ·grind
   ·grind
  by_cases N:i=a.length
  ·by_cases K:k=b.length
   ·subst N;subst K;simp[am]
   ·have z:k<b.length:=ox
    have W:((decide ((i:Int)<(a.length:Int)))||decide ((k:Int)<(b.length:Int)))=true:=by simp;omega
    rw[W,cond_true,ei,ek];simp only[N,K,Ay,Dp,cond_true,AP];have⟨c,X,w2,Z⟩:=write (AN b (k:Int)) ox;rw[show decide ((1:Int)<0)=false by decide,show decide ((0:Int)<1)=true by decide,AP,cond_true,A5 ⟨by omega,by omega⟩,X,AY,BB ox];rw[<- N,O i (k+1) _ ox ox ox ox,Z];rw[N,Gf,A4 z,am,A0 z]
  ·have H:i<a.length:=ox
   have W:((decide ((i:Int)<(a.length:Int)))||decide ((k:Int)<(b.length:Int)))=true:=by simp;omega
   by_cases K:k=b.length
   ·rw[W,cond_true,ei,ek];simp only[N,K,Ay,Dp,cond_true,AP];rw[show decide ((-1:Int)<0)=true by decide,cond_true,A5 ⟨by omega,by omega⟩,keep _ ox,AY,BB ox];rw[<- K,O (i+1) k _ ox ox ox (by simp;omega)];rw[K,Gf,A4 H,ALk,ALk,A0 H];simp
   ·have z:k<b.length:=ox
    rw[W,cond_true,ei,ek];simp only[N,K,Dp,AP];rw[A5 (p:=0<=(i:Int)/\(i:Int)<(a.length:Int)) ⟨by omega,by omega⟩,A5 (p:=0<=(k:Int)/\(k:Int)<(b.length:Int)) ⟨by omega,by omega⟩,AE8,AY];have⟨c1,c2⟩:=AHO (AN a (i:Int)).Key (AN b (k:Int)).Key;have⟨c,X,w2,Z⟩:=write (AN b (k:Int)) ox;rw[A4 H,A4 z,am,<- A0 H,<- A0 z];cases h1:Dy (AN a (i:Int)).Key (AN b (k:Int)).Key with
    |true=>
     rw[show decide (Go.Lib.compareBytes (AN a (i:Int)).Key (AN b (k:Int)).Key<0)=true from Bw (c1.2 h1),cond_true,A5 (p:=0<=(i:Int)/\(i:Int)<(a.length:Int)) ⟨by omega,by omega⟩,keep _ ox,AY,BB ox,O (i+1) k _ ox ox ox (by simp;omega)];rw[A4 z,<- A0 z];simp
    |false=>
     rw[show decide (Go.Lib.compareBytes (AN a (i:Int)).Key (AN b (k:Int)).Key<0)=false from Bd (λh=>by rw[c1.1 h]at h1;simp at h1),AP];cases h2:Dy (AN b (k:Int)).Key (AN a (i:Int)).Key with
     |true=>
      rw[show decide (0<Go.Lib.compareBytes (AN a (i:Int)).Key (AN b (k:Int)).Key)=true from Bw (c2.2 h2),cond_true,A5 (p:=0<=(k:Int)/\(k:Int)<(b.length:Int)) ⟨by omega,by omega⟩,X,AY,BB ox,O i (k+1) _ ox ox ox ox];rw[A4 H,<- A0 H,Z];simp
     |false=>
      rw[show decide (0<Go.Lib.compareBytes (AN a (i:Int)).Key (AN b (k:Int)).Key)=false from Bd (λh=>by rw[c2.1 h]at h2;simp at h2),AP,A5 (p:=0<=(i:Int)/\(i:Int)<(a.length:Int)) ⟨by omega,by omega⟩,A5 (p:=0<=(k:Int)/\(k:Int)<(b.length:Int)) ⟨by omega,by omega⟩,show Yv acc (AN a (i:Int)) (AN b (k:Int))=_ from X,AY,BB ox,BB ox,
       O (i+1) (k+1) _ ox ox ox ox,Z]
      simp
theorem ADU{x:AR}:x∈wrt aQ l↔(x=aQ/\aQ.JK.BD≠0)\/x∈l:=by
 unfold wrt;cases h:(aQ.JK.BD==0)
 ·grind
 ·grind
theorem ADV(hl:S1 l)(h:∀x∈l,Dy aQ.Key x.Key=true):S1 (wrt aQ l):=by
 unfold wrt;cases(aQ.JK.BD==0)
 ·exact B6.2 ⟨h,hl⟩
 ·exact hl
theorem RY:∀{a b:List AR},S1 a->S1 b->S1 (am a b)/\∀x,x∈am a b↔(x∈b/\x.JK.BD≠0)\/(x∈a/\∀y∈b,y.Key≠x.Key)
 |[],[],_,_=>by simp[am,S1]
 |[],y::b,X,hb=>by
  have⟨W,O⟩:=B6.1 hb;have⟨h1,h2⟩:=RY X O;rw[am];refine⟨ADV h1 λx hx=>W x ?_,λx=>?_⟩
  ·grind
  ·rw[ADU,h2];simp only[Aj,BY,false_and,D3,or_and_right];constructor
   ·grind
   ·grind
 |x::a,[],X,_=>by simp[am];exact X
 |x::a,y::b,X,hb=>by
  have⟨ab,Z⟩:=B6.1 X;have⟨W,O⟩:=B6.1 hb;rw[am];split
  ·rename_i H;have⟨h1,h2⟩:=RY Z hb;have aa:∀z∈y::b,Dy x.Key z.Key=true:=λz N=>by
    rcases Aj.1 N with rfl|N
    ·exact H
    ·exact Gz H (W z N)
   refine⟨B6.2 ⟨λz N=>?_,h1⟩,λz=>?_⟩
   ·grind
   ·rw[Aj,h2,Aj (a:=z) (b:=x)];constructor
    ·rintro(rfl|h|h)
     ·exact .inr ⟨.inl Y,λw hw e=>by have:=aa w hw;rw[e,E1]at this;cases this⟩
     ·exact .inl h
     ·grind
    ·grind
  ·rename_i H;simp only[FB]at H;split
   ·rename_i K;have⟨h1,h2⟩:=RY X O;have aa:∀z∈x::a,Dy y.Key z.Key=true:=λz N=>by
     rcases Aj.1 N with rfl|N
     ·exact K
     ·exact Gz K (ab z N)
    refine⟨ADV h1 λz N=>?_,λz=>?_⟩
    ·grind
    ·rw[ADU,h2];constructor
     ·grind
     ·grind
   ·rename_i K;simp only[FB]at K;have e:=Qg H K;have⟨h1,h2⟩:=RY Z O;refine⟨ADV h1 λz N=>?_,λz=>?_⟩
    ·grind
    ·rw[ADU,h2];constructor
     ·grind
     ·grind
termination_by a b=>a.length+b.length
theorem ABT:∀{a b:List AR},(am a b).length<=a.length+b.length
 |[],[]=>by simp[am]
 |[],y::b=>by
  have:=ABT (a:=[]) (b:=b);rw[am,wrt];cases(y.JK.BD==0)<;>simp at this⊢ <;>omega
 |x::a,[]=>by simp[am]
 |x::a,y::b=>by
  have h1:=ABT (a:=a) (b:=y::b);have h2:=ABT (a:=x::a) (b:=b);have h3:=ABT (a:=a) (b:=b);rw[am,wrt,wrt];split
  ·grind
  ·grind
termination_by a b=>a.length+b.length
theorem AFt{s w:List AR}(y:JG s)(hw:JG w)(h1:G5 s=true)(h2:R6 w=true)(hl:s.length+w.length<1099511627776):Nb s w=some (am s w,0):=by
 unfold Nb;rw[IU y,h1,ZK hw,h2];simp only[AY,BC,DE,FP,Gi,AP];have:=AHT (a:=s) (b:=w) hl 1099511627776 0 0 [] ox ox ox (by simp;omega);rw[YY,show(0:Int)=((0:Nat):Int)from rfl,this,AY];simp
theorem AOm{s w:List AR}(h1:G5 s=true)(h2:R6 w=true):G5 (am s w)=true:=by
 have⟨a1,a2⟩:=Eg.1 h1;have⟨y,z⟩:=I8.1 h2;have⟨c1,c2⟩:=RY a2 z;refine Eg.2 ⟨λx H=>?_,c1⟩;rcases(c2 x).1 H with h|h
 ·exact⟨(y x h.1).1,(y x h.1).2,h.2⟩
 ·grind
theorem AHZ{s w:List AR}(h1:G5 s=true)(h2:R6 w=true)(k:A9):Ii (am s w) k=if∃x∈w,x.Key=k then Ii w k else Ii s k:=by
 have⟨a1,a2⟩:=Eg.1 h1;have⟨O,N⟩:=I8.1 h2;have⟨c1,c2⟩:=RY a2 N;split
 ·rename_i h;obtain⟨y,z,rfl⟩:=h;rw[US N z];by_cases h0:y.JK.BD=0
  ·have hv:=(O y z).2;have e:y.JK=⟨0,0,[]⟩:=by
    unfold vvB at hv;simp only[h0,DE,cond_true,Aq,B1]at hv;cases z:y.JK;rw[z]at h0 hv;simp_all
   rw[e];refine QX λx H K=>?_;rcases(c2 x).1 H with h|h
   ·rw[XN N h.1 z K]at h;exact h.2 h0
   ·grind
  ·exact US c1 ((c2 y).2 (.inl ⟨z,h0⟩))
 ·rename_i h;rcases S3 s k with⟨x,H,e,g⟩|⟨e,g⟩
  ·rw[g,<- e];exact US c1 ((c2 x).2 (.inr ⟨H,λy z K=>h ⟨y,z,K.trans e⟩⟩))
  ·rw[g];refine QX λx H K=>?_;rcases(c2 x).1 H with W|W
   ·grind
   ·grind
end
variable {ay:List Ce} {aq:List L8} {bb:Nat->List AR} {aU:Nat->Bb}
section
open Go.ChangeShapes
structure Vx(L:Nat)(s:List AR):Prop where
 Rq:G5 s=true
 r:∀x∈s,Rz x.JK.N
 len:s.length<=L
theorem AD3{k:A9}(h:kvB k=true):k.length<JJ:=by
 simp only[kvB,Aq,AZ]at h;unfold JJ;omega
theorem ANq{v:Ah}(h:vvB v=true):v.S.length<JJ:=by
 unfold vvB at h;unfold JJ;cases h0:(v.BD==0)
 ·rw[h0,AP]at h;cases h1:(v.BD==1)
  ·rw[h1,AP,Aq]at h;have:=(Nv.1 h.2).1;omega
  ·grind
 ·grind
theorem AGg{w:List AR}(h:R6 w=true)(hl:w.length<9223372036854775808):JG w:=
 ⟨hl,λx y=>⟨AD3 ((I8.1 h).1 x y).1,ANq ((I8.1 h).1 x y).2⟩⟩
theorem AMN{w:List AR}(h:G5 w=true):R6 w=true:=by
 unfold G5 at h;rw[Aq]at h;exact h.1
theorem Vx.ok{L:Nat}{s:List AR}(h:Vx L s)(y:L<9223372036854775808):JG s:=AGg (AMN h.Rq) (Nat.lt_of_le_of_lt h.len y)
theorem Vx.gv{L:Nat}{s:List AR}(h:Vx L s)(k:A9):GV (Ii s k):=by
 rcases S3 s k with⟨x,y,_,e⟩|⟨_,e⟩
 ·rw[e];have hv:=((Eg.1 h.Rq).1 x y).2.1;refine⟨h.r x y,λh1=>?_,λh2=>?_⟩
  ·simpa[vvB,h1]using hv
  ·simpa[vvB,h2]using hv
 ·rw[e];exact GV.none
theorem Vx.mono{L L':Nat}{s:List AR}(h:Vx L s)(hl:L<=L'):Vx L' s:=⟨h.Rq,h.r,Cf h.len hl⟩
theorem Vx.filter{L:Nat}{s:List AR}(h:Vx L s)(q:AR->Bool):Vx L (s.filter q):=
 ⟨HS h.Rq _,λx y=>h.r x (BK.1 y).1,Cf (C3 _ _) h.len⟩
def apl(s:List AR)(e:Bb):List AR:=if e.Ad.DY=1 then am s e.AX else s
theorem ANm{L:Nat}{s w:List AR}(h:Vx L s)(h1:R6 w=true)(h2:w.length<=16384)(h3:∀x∈w,Rz x.JK.N):Vx (L+16384) (am s w):=by
 have hl:=ABT (a:=s) (b:=w);have:=h.len;refine⟨AOm h.Rq h1,λx z=>?_,by omega⟩;rcases((RY (Eg.1 h.Rq).2 (I8.1 h1).2).2 x).1 z with y|y
 ·grind
 ·exact h.r x y.1
theorem AOk{L:Nat}{s:List AR}{e:Bb}{ft:AV}(h:Vx L s)(he:e.Ad.DY=1->AEf ft e):Vx (L+16384) (apl s e):=by
 unfold apl;split
 ·rename_i h1;exact ANm h (he h1).srt (he h1).len (he h1).r
 ·exact h.mono (Nat.le_add_right _ _)
structure AHg(ps:List Ce):Prop where
 l:ps.length<9223372036854775807
 p:∀p∈ps,PB p/\p.BH.length<=1099511627776
structure ALw(t:L8):Prop where
 a:∀v∈t.Aw,VB v
 f:FOk t.HK
theorem AOW{t:L8}(hp:AHg ay)(ht:ALw t):Tt (PX ay t) λr=>r.2=true->r.1∈ay:=by
 unfold PX;have z:Tt (DZ ay (λH=>LP H t)) λr=>r= -1\/(0<=r/\r<(ay.length:Int)):=by
  unfold DZ;rw[CM];have hl:=hp.l;have loop:∀n i:Nat,i<=ay.length->ay.length-i<n->Tt (DG ay (λH=>LP H t) (some (-1)) n (i:Int)) λr=>r= -1\/(0<=r/\r<(ay.length:Int)):=by
   intro n
   induction n with
   |zero=>intro i _ h;omega|succ n K=>
    intro i hi N;unfold DG;refine Tt.cond (λh=>?_) λh=>Tt.mk (.inl Y);simp only[AZ]at h;refine Tt.Ba ⟨by omega,h⟩ (Tt.eq Y (Tt.cond (λ_=>Tt.mk (.inr ⟨by omega,h⟩)) λ_=>?_));rw[BB ox];exact K (i+1) ox ox
  exact loop _ 0 ox ox
 refine Tt.Az z λr O=>Tt.Ba (λh=>?_) (Y2 (P:=λ_=>True) (λh=>?_) λa _=>Tt.cond (λ_=>Tt.mk zp) λh=>?_)
 ·grind
 ·rw[h,cond_true];simp only[B1,Ai]at h;have y:0<=r/\r<(ay.length:Int):=ox
  have hm:AN ay r∈ay:=by
   obtain⟨i,rfl⟩:∃i:Nat,r=(i:Int):=⟨r.toNat,by omega⟩;rw[A0 ox];exact AW _
  exact(AHy (hp.p _ hm).1 (hp.p _ hm).2 ht.a).mono λ_ _=>Yt
 ·simp only[BQ,Ai]at h;have y:0<=r/\r<(ay.length:Int):=ox
  refine Tt.Ba y (Tt.mk λ_=>?_);obtain⟨i,rfl⟩:∃i:Nat,r=(i:Int):=⟨r.toNat,by omega⟩;show AN ay (i:Int)∈ay;rw[A0 ox];exact AW _
abbrev HL:Nat:=549755813888
def Agr(ft:AV)(s y:List AR):Prop:=Vx HL y/\(Wt ft=true->∀k,(ft.G7=false->k∈ft.Am)->Ii y k=Ii s k)
theorem AMc{t:L8}{s:List AR}(hp:AHg ay)(ht:ALw t)(hs:Vx HL s):∃e,(∀z,Agr t.HK s z->Gs ay z t=some (apl z e,e))/\(e.Ad.DY=1->AEf t.HK e)/\EfL e:=by
 have⟨r,hr,O⟩:=AOW hp ht;have hlen:∀z:List AR,Vx HL z->z.length*48<=140737488355328:=λz h=>by have:=h.len;unfold HL at this;omega
 cases W:r.2 with
 |false=>
  refine⟨⟨⟨2,1009,[]⟩,[],[],[],[],0⟩,λz y=>?_,λh=>absurd h zp,by simp[EfL]⟩;unfold Gs;rw[hr,AY,W];simp only[GJ,cond_true];rw[A5 (hlen z y.1)];rfl
 |true=>
  have⟨N,H⟩:=hp.p _ (O W);have⟨c,hc,X⟩:=AOe N H;have⟨a,ha,Z⟩:=AHy N H ht.a;have⟨e,he,K,aa⟩:=AMX (S:=Agr t.HK s) hc (λ_=>ha) (λc0 a0=>⟨⟨12,by omega,X c0⟩,Z a0⟩) N.pl N.bl ht.f (λhv=>⟨λk hk=>⟨Ii s k,hs.gv k,λz y=>by
   have:=y.1.len;unfold HL at this;rw[ALN ox,y.2 hv k hk]⟩,ht.f.r,ht.f.w⟩) (λz y=>⟨y.1.ok (by unfold HL;omega),y.1.Rq⟩)
  refine⟨e,λz y=>?_,K,aa⟩;have ab:=y.1.len;unfold HL at ab;unfold Gs;rw[hr,AY,W];simp only[BC,AP];have ad:(⟨t.HK.G7,t.HK.Am,t.HK.AX⟩:AV)=t.HK:=Y;rw[he z y,AY,CM];unfold apl;by_cases h1:e.Ad.DY=1
  ·have hw:=K h1;have ae:=hw.len;rw[show(e.Ad.DY==(1:Int))=true by simpa using h1,cond_true,AFt (y.1.ok (by unfold HL;omega)) (AGg hw.srt ox) y.1.Rq hw.srt ox,AY,if_pos h1];rfl
  ·rw[show(e.Ad.DY==(1:Int))=false by simpa using h1,AP,A5 (hlen z y.1),if_neg h1]
structure AOv(ps:List Ce)(Al:List L8)(s:List AR)(L:Nat)(st:Nat->List AR)(ef:Nat->Bb):Prop where
 s0:st 0=s
 sv:∀t,t<=Al.length->Vx (L+16384*t) (st t)
 one:∀t(h:t<Al.length),∀s',Agr Al[t].HK (st t) s'->Gs ps s' Al[t]=some (apl s' (ef t),ef t)
 nx:∀t,t<Al.length->st (t+1)=apl (st t) (ef t)
 ok:∀t(h:t<Al.length),(ef t).Ad.DY=1->AEf Al[t].HK (ef t)
 el:∀t,t<Al.length->EfL (ef t)
theorem ANV{ft:AV}{s:List AR}(h:Vx HL s):Agr ft s s:=⟨h,λ_ _ _=>Y⟩
theorem runs{s:List AR}{L:Nat}(hp:AHg ay)(ht:∀t∈aq,ALw t)(H:Vx L s)(O:L+16384*aq.length<=HL):∃st ef,AOv ay aq s L st ef:=by
 have ex:∀t:Nat,∀s:List AR,Vx (L+16384*t) s->t<aq.length->∃e,(∀y,Agr (aq[t]!).HK s y->Gs ay y (aq[t]!)=some (apl y e,e))/\(e.Ad.DY=1->AEf (aq[t]!).HK e)/\EfL e:=λt s H h=>
  AMc hp (ht _ (by rw[getElem!_pos aq t h];exact AW h)) (H.mono ox)
 have pick:∃f:Nat->List AR->Bb,∀t s,Vx (L+16384*t) s->t<aq.length->(∀y,Agr (aq[t]!).HK s y->Gs ay y (aq[t]!)=some (apl y (f t s),f t s))/\((f t s).Ad.DY=1->AEf (aq[t]!).HK (f t s))/\EfL (f t s):=by
  have:∀t s,∃e,Vx (L+16384*t) s->t<aq.length->(∀y,Agr (aq[t]!).HK s y->Gs ay y (aq[t]!)=some (apl y e,e))/\(e.Ad.DY=1->AEf (aq[t]!).HK e)/\EfL e:=λt s=>by
   by_cases h:Vx (L+16384*t) s/\t<aq.length
   ·grind
   ·exact⟨default,λh1 h2=>absurd ⟨h1,h2⟩ h⟩
  exact⟨λt s=>Classical.choose (this t s),λt s=>Classical.choose_spec (this t s)⟩
 have⟨f,K⟩:=pick
 let st:Nat->List AR:=λt=>Nat.rec s (λt x=>apl x (f t x)) t
 have z:∀t,t<=aq.length->Vx (L+16384*t) (st t):=by
  intro t
  induction t with
  |zero=>intro _;exact H|succ t N=>
   intro h;have:=AOk (N ox) (K t (st t) (N ox) ox).2.1;exact this.mono ox
 refine⟨st,λt=>f t (st t),Y,z,λt h=>?_,λt h=>Y,λt h=>?_,λt h=>(K t (st t) (z t ox) h).2.2⟩
 ·grind
 ·grind
theorem AGk{s:List AR}{L:Nat}(R:AOv ay aq s L bb aU)(H:L+16384*aq.length<=HL):Oc ay s aq=some (bb aq.length,(List.range aq.length).map aU):=by
 unfold HL at H;unfold Oc JD;rw[CM];have loop:∀n i:Nat,i<=aq.length->aq.length-i<n->Ew aq ay (λy z=>some (z,y)) n ((List.range i).map aU) (bb i) (i:Int)=some (bb aq.length,(List.range aq.length).map aU):=by
  intro n
  induction n with
  |zero=>intro i _ h;omega|succ n K=>
   intro i hi N;unfold Ew;rcases A7 i aq.length with h|h
   ·simp only[show(i:Int)<(aq.length:Int) by omega,Ay,cond_true,show 0<=(i:Int) by omega,CA,DW,A0 h];unfold P4;rw[R.one i h (bb i) (ANV ((R.sv i hi).mono (by unfold HL;omega))),AY,AY];have e:(List.range i).map aU++[aU i]=(List.range (i+1)).map aU:=by rw[AB4,E0];rfl
    dsimp only;rw[e,A5 (by rw[Ap,DC];omega),BB ox,<- R.nx i h];exact K (i+1) h ox
   ·grind
 have:=loop (aq.length+1) 0 ox ox;rw[R.s0]at this;rw[show(((aq.length:Nat):Int).toNat+1)=aq.length+1 by omega];rw[show Ew aq ay (λy z=>some (z,y)) (aq.length+1) [] s 0=_ from this,AY,A5];have:=(R.sv aq.length (Nat.le_refl _)).len;dsimp only;omega
end
section
open Go.ChangeShapes
abbrev AL0(l:List A1):Prop:=l.Pairwise (λa b=>a.Is<b.Is)/\∀x∈l,0<=x.Is
theorem ALI{l:List A1}(hl:l.length<9223372036854775807){q:A1->Bool}{g:A1->AA Bool}(N:∀x,g x=some (q x)):Tt (CS l g) λr=>(r= -1/\∀x∈l,q x=false)\/∃i:Nat,r=(i:Int)/\∃h:i<l.length,q l[i]=true/\∀j(y:j<i),q (l[j]'ox)=false:=by
 unfold CS;rw[CM];have loop:∀n i:Nat,i<=l.length->l.length-i<n->(∀j(y:j<i)(h:j<l.length),q l[j]=false)->Tt (Cl l g (some (-1)) n (i:Int)) λr=>(r= -1/\∀x∈l,q x=false)\/∃i:Nat,r=(i:Int)/\∃h:i<l.length,q l[i]=true/\∀j(y:j<i),q (l[j]'ox)=false:=by
  intro n
  induction n with
  |zero=>intro i _ h;omega|succ n O=>
   intro i hi X H;unfold Cl;refine Tt.cond (λh=>?_) λh=>Tt.mk (.inl ⟨Y,λx W=>?_⟩)
   ·simp only[AZ]at h;have z:i<l.length:=ox
    rw[BB ox,A0 z];refine Tt.Ba ⟨by omega,h⟩ (Tt.eq (N _) (Tt.cond (λh2=>Tt.mk (.inr ⟨i,Y,z,h2,λj y=>H j y ox⟩)) λh2=>O (i+1) z ox λj y h3=>?_));rcases A7 j i with K|K
    ·exact H j K h3
    ·have:j=i:=ox
     subst this;exact h2
   ·simp only[Ai]at h;obtain⟨j,y,rfl⟩:=BL W;exact H j ox y
 exact loop _ 0 ox ox λj y h=>by omega
theorem XR{l:List A1}(hl:l.length<9223372036854775807)(t:Int):Tt (FE l t) λr=>(r= -1/\∀x∈l,x.Is≠t)\/∃i:Nat,r=(i:Int)/\∃h:i<l.length,l[i].Is=t/\∀j(y:j<i),(l[j]'ox).Is≠t:=by
 unfold FE;refine Tt.Az (ALI hl (q:=λx=>x.Is==t) λx=>Y) λr z=>Tt.mk ?_;rcases z with⟨h1,h2⟩|⟨i,h1,h2,h3,H⟩
 ·exact .inl ⟨h1,λx K=>by simpa using h2 x K⟩
 ·exact .inr ⟨i,h1,h2,by simpa using h3,λj y=>by simpa using H j y⟩
theorem AGr{l:List A1}(hl:l.length<9223372036854775807)(h:AL0 l):Ft l=some true:=by
 unfold Ft;rw[CM];have loop:∀n i:Nat,i<=l.length->l.length-i<n->F0 l (some true) n (i:Int)=some true:=by
  intro n
  induction n with
  |zero=>intro i _ h;omega|succ n z=>
   intro i hi K;unfold F0;rcases A7 i l.length with h1|h1
   ·have h0:=h.2 _ (AW h1);simp only[show(i:Int)<(l.length:Int) by omega,Ay,cond_true,show 0<=(i:Int) by omega,CA,DW,A0 h1,show decide (l[i].Is<0)=false by simpa using h0,Ck,DE,Bool.and_true,BB (show i<9223372036854775807 by omega)];by_cases H:0<i
    ·have e:(i:Int)-1=((i-1:Nat):Int):=ox
     have y:=A3.1 h.1 (i-1) i ox h1 ox;simp only[show(0:Int)<(i:Int) by omega,Ay,DE,cond_true,Cw,forall_const,Vg (n:=(i:Int)-1) ox ox];rw[e,A0 (show i-1<l.length by omega),A5 ox,show decide (l[i].Is<=(l[i-1]).Is)=false by simp;exact y,AP];exact z (i+1) ox ox
    ·rw[show decide ((0:Int)<(i:Int))=false by simp;omega];simp only[NN,AP];rw[A5 zp];exact z (i+1) ox ox
   ·have:i=l.length:=ox
    subst this;simp
 exact loop _ 0 ox ox
theorem Yo{l:List A1}(hl:l.length<=1099511627776):GG l=some l:=by
 unfold GG;rw[Vg ox ox,A5 ox,A5 ox,show((l.length:Nat):Int).toNat=l.length by omega,AFh]
theorem AQC{g:A1->AA Bool}{q:A1->Bool}(hg:∀x,g x=some (q x)){J:List A1->Int->AA (List A1)}{l:List A1}(hl:l.length<1099511627776):∀(n k i:Nat)(x:List A1),i<=l.length->l.length-i<n->k<=i->x.length=l.length->x.take k=(l.take i).filter (λy=> !q y)->x.drop i=l.drop i->∃K N,Cg g J n x (k:Int) (i:Int)=J K ((N:Nat):Int)/\K.length=l.length/\K.take N=l.filter (λy=> !q y)/\N<=l.length:=by
 intro n
 induction n with
 |zero=>intro k i x _ h;omega|succ n W=>
  intro k i x hi hn hk H ht X;unfold Cg;rcases A7 i l.length with h|h
  ·have O:x[i]'ox=l[i]:=by
    have h1:=A4 (l:=x) (i:=i) ox;have h2:=A4 (l:=l) (i:=i) h;rw[X,h2]at h1;exact(List.cons.inj h1).1.symm
   have z:x.drop (i+1)=l.drop (i+1):=by
    have:=B2 List.tail X;simpa using this
   simp only[show(i:Int)<(x.length:Int) by omega,Ay,cond_true,show 0<=(i:Int) by omega,CA,DW,A0 (show i<x.length by omega),O,hg,AY,CM];rw[BB (show i<9223372036854775807 by omega),BB (show k<9223372036854775807 by omega)];cases Z:q l[i]with
   |true=>
    simp only[BC,AP];refine W k (i+1) x h ox ox H ?_ z;rw[Bk h,K5,ht];simp[Z]
   |false=>
    simp only[GJ,cond_true];rw[A5 ox,Int.toNat_natCast];refine W (k+1) (i+1) (x.set k l[i]) h ox ox (by simpa using H) ?_ ?_
    ·rw[Bk h,K5,<- ht,Bk (by simp;omega),List.getElem_set_self,List.take_set_of_le (Nat.le_refl k)];simp[Z]
    ·rw[List.drop_set_of_lt ox,z]
  ·have:i=l.length:=ox
   subst this;refine⟨x,k,by simp[H],H,?_,by omega⟩;rw[ht,Kr]
theorem AAc{l:List A1}(hl:l.length<1099511627776)(t:Int):H9 l t=some (l.filter λx=>x.Is !=t):=by
 unfold H9;rw[Yo ox,AY];unfold EY;have⟨r,O,h⟩:=ALI (l:=l) ox (q:=λx=>x.Is==t) (g:=λy=>HN y t) λx=>Y;rw[O,AY];rcases h with⟨rfl,h⟩|⟨i,rfl,hi,h1,h2⟩
 ·simp only[DE,cond_true,AY]
  congr 1
  rw[AGI.2];intro x z;have:=h x z;simp only[bne];rw[this];rfl
 ·rw[show(((i:Nat):Int)==(-1:Int))=false by rw[Bh];omega,AP,CM,BB ox];have⟨x',W,e,X,K,Z⟩:=AQC (g:=λy=>HN y t) (q:=λx=>x.Is==t) (λx=>Y) (J:=λN H=>Ba (0<=H/\H<(N.length:Int)) (some (N.take H.toNat))) hl 1099511627776 i (i+1) l hi ox ox Y (by
   rw[Bk hi,K5];simp only[Pk,h1,BC,List.filter_nil,Du];rw[if_neg zp,Du,AGI.2];intro x z;obtain⟨j,hj,rfl⟩:=BL z;rw[Ao]at hj;rw[YB,h2 j ox];rfl) Y
  rw[e];have aa:W<l.length:=by
   have h3:=B2 List.length K;rw[Ao,X,Cq Z]at h3;rw[h3];refine List.length_filter_lt_length_iff_exists.2 ⟨l[i],AW hi,?_⟩;rw[h1];simp
  rw[A5 ox,AY,Int.toNat_natCast,K];rfl
def ACd(l:List A1)(t:Int):Prop:=∀x∈l,∀y∈l,y.Is=t->x.Is<t->x.Mv=false/\y.Mv=false
theorem AFq{l:List A1}(hl:l.length<=1099511627776)(ha:AL0 l)(t:Int)(acc:List Int)(ad:acc.length<=8796093022208):Tt (Iz acc l t) λr=>(r=[]↔acc=[]/\ACd l t)/\r.length<=acc.length+l.length/\((∀x∈l,x.Is≠t)->r=acc):=by
 unfold Iz;refine Tt.Az (XR ox t) λr hr=>?_;rw[CM];rcases hr with⟨rfl,h⟩|⟨i,rfl,hi,h1,h2⟩
 ·rw[show(max (0:Int) (-1))=0 by decide];unfold Fs;simp only[show(0:Int).toNat+1=0+1 by decide,show(max (0:Int) (-1))=0 by decide,Int.lt_irrefl,Dp,AP];exact Tt.mk ⟨⟨λe=>⟨e,λx hx y hy e'=>absurd e' (h y hy)⟩,λe=>e.1⟩,by omega,λ_=>Y⟩
 ·rw[show(max (0:Int) (i:Int))=(i:Int) by omega];have loop:∀n k:Nat,k<=i->i-k<n->∀z:List Int,z.length<=acc.length+k->(z=[]↔acc=[]/\∀j(N:j<k)(h:j<l.length),l[j].Mv=false/\l[i].Mv=false)->Tt (Fs (i:Int) l (λx8=>some x8) n z (k:Int)) λr=>(r=[]↔acc=[]/\ACd l t)/\r.length<=acc.length+l.length/\((∀x∈l,x.Is≠t)->r=acc):=by
   intro n
   induction n with
   |zero=>intro k _ h;omega|succ n ih=>
    intro k hk hn z hz O;unfold Fs;rw[show(max (0:Int) (i:Int))=(i:Int) by omega];refine Tt.cond (λh=>?_) λh=>Tt.mk ⟨?_,by omega,λh9=>absurd h1 (h9 _ (AW hi))⟩
    ·simp only[AZ]at h;have W:k<l.length:=ox
     rw[BB ox,A0 W,CM];refine Tt.Ba ⟨by omega,by omega⟩ (Tt.Ba (λ_=>⟨by omega,by omega⟩) (Tt.cond (λhw=>Tt.Ba ⟨by omega,by omega⟩ (Tt.Ba (by simp only[AT,BO];omega) ?_)) λhw=>?_))
     ·refine ih (k+1) ox ox _ (by simp only[AT,BO];omega) ⟨λe=>by simp at e,λe=>?_⟩;have⟨p1,p2⟩:=e.2 k ox W;rw[A0 hi,p1]at hw;simp[p2]at hw
     ·refine ih (k+1) ox ox z ox (O.trans (and_congr_right λ_=>⟨λe j N H=>?_,λe j N H=>e j ox H⟩));rcases A7 j k with h5|h5
      ·exact e j h5 H
      ·have:j=k:=ox
       subst this;rw[A0 hi,BQ]at hw;refine⟨hw.1,?_⟩;rw[hw.1]at hw;simpa using hw.2
    ·simp only[Ai]at h;have:k=i:=ox
     subst this;refine O.trans (and_congr_right λ_=>⟨λe x hx y hy ey ae=>?_,λe j N H=>?_⟩)
     ·obtain⟨a,X,rfl⟩:=BL hx;obtain⟨b,Z,rfl⟩:=BL hy;have aa:b=k:=by
       rcases H0 b k with K|K|K
       ·exact absurd ey (h2 b K)
       ·exact K
       ·have:=A3.1 ha.1 k b hi Z K;omega
      subst aa;have ab:a<b:=by
       rcases A7 a b with K|K
       ·exact K
       ·rcases A7 b a with h7|h7
        ·have:=A3.1 ha.1 b a Z X h7;omega
        ·have:a=b:=ox
         subst this;omega
      exact e a ab X
     ·have:=A3.1 ha.1 j k H hi N;exact e _ (AW H) _ (AW hi) h1 ox
  exact loop _ 0 ox ox acc ox ⟨λe=>⟨e,λj N=>by omega⟩,λe=>e.1⟩
end
variable {i:Nat} {tb:BG}
section
open Go.ChangeShapes
structure QOk(R:A9->List A1)(Q:List Be):Prop where
 Wu:Q.Pairwise λa b=>Dy a.Key b.Key=true
 Ba:∀q∈Q,q.DR=R q.Key/\q.DR≠[]
 all:∀k,R k≠[]->∃q∈Q,q.Key=k
theorem AIj(x:HG)(k:A9):C8 x k=some (cond (Dy x.Key k) (-1) (cond (Dy k x.Key) 1 0)):=by
 unfold C8;cases Dy x.Key k<;>cases Dy k x.Key<;>rfl
theorem AGq{Q:List Be}:(YK Q).length=Q.length:=by simp[YK]
theorem AH4{Q:List Be}(h:i<Q.length):(AN (YK Q) (i:Int)).Key=Q[i].Key:=by
 rw[A0 (by rw[AGq];exact h)];simp[YK]
theorem AOA{Q:List Be}{x:A9}{g:HG->A9->AA Int}(Z:∀x k,g x k=some (cond (Dy x.Key k) (-1) (cond (Dy k x.Key) 1 0)))(hl:Q.length<=1099511627776)(W:Q.Pairwise λa b=>Dy a.Key b.Key=true){J:Int->AA (Int×Bool)}:∀n i j,i<=j->j<=Q.length->j-i<n->(∀m(h:m<Q.length),m<i->Dy Q[m].Key x=true)->(∀m(h:m<Q.length),j<=m->Dy Q[m].Key x=false)->∃k:Nat,k<=Q.length/\Av (YK Q) g x J n (i:Int) (j:Int)=J (k:Int)/\(∀m(h:m<Q.length),m<k->Dy Q[m].Key x=true)/\(∀m(h:m<Q.length),k<=m->Dy Q[m].Key x=false):=by
 intro n
 induction n with
 |zero=>intro i j _ _ h;omega|succ n X=>
  intro i j aa hj hn h1 h2;rw[Av];rcases A7 i j with h|h
  ·rw[ALg h ox];have hm:(i+j)/2<j:=ox
   have ab:i<=(i+j)/2:=ox
   have K:(i+j)/2<Q.length:=ox
   simp only[show(i:Int)<(j:Int) by omega,Ay,cond_true,show(0:Int)<=1 by omega,DW,AGq,show 0<=(((i+j)/2:Nat):Int) by omega,show(((i+j)/2:Nat):Int)<(Q.length:Int) by omega,CA,Z,AY,AH4 K];rw[BB ox];cases z:Dy Q[(i+j)/2].Key x with
   |true=>
    simp only[cond_true,show((-1:Int)<0) by decide,Ay];refine X _ _ ox hj ox ?_ h2;intro m y N;rcases A7 m ((i+j)/2)with H|H
    ·exact Gz (A3.1 W _ _ y K H) z
    ·have:m=(i+j)/2:=ox
     subst this;exact z
   |false=>
    have e0:decide ((cond (Dy x Q[(i+j)/2].Key) (1:Int) 0)<0)=false:=by cases Dy x Q[(i+j)/2].Key<;>rfl
    simp only[AP,e0];refine X _ _ ox ox ox h1 ?_;intro m y N;rcases A7 ((i+j)/2) m with H|H
    ·cases O:Dy Q[m].Key x with
     |false=>rfl|true=>rw[Gz (A3.1 W _ _ K y H) O]at z;cases z
    ·have:m=(i+j)/2:=ox
     subst this;exact z
  ·refine⟨i,by omega,?_,h1,λm y hm=>h2 m y ox⟩;simp[show¬(i:Int)<(j:Int) by omega]
theorem AKk{Q:List Be}{x:A9}(hl:Q.length<1099511627776)(N:Q.Pairwise λa b=>Dy a.Key b.Key=true):∃k:Nat,k<=Q.length/\BI (YK Q) x (λy z=>C8 y z)=some ((k:Int),(Q[k]?.map λq=>q.Key)==some x)/\(∀m(h:m<Q.length),m<k->Dy Q[m].Key x=true)/\(∀m(h:m<Q.length),k<=m->Dy Q[m].Key x=false):=by
 unfold BI;rw[CM,AGq];obtain⟨k,O,e,h1,h2⟩:=AOA (x:=x) (g:=λy z=>C8 y z) AIj ox N (J:=_) 1099511627776 0 Q.length ox ox ox (λm h hm=>by omega) (λm h hm=>by omega);refine⟨k,O,(show _=_ from e).trans ?_,h1,h2⟩;rcases A7 k Q.length with h|h
 ·have K:=h2 k h (Nat.le_refl k);simp only[show(k:Int)<(Q.length:Int) by omega,Ay,DE,forall_const,show 0<=(k:Int) by omega,CA,DW,FP,cond_true,AIj,AY,Cw,AH4 h,K,AP,List.getElem?_eq_getElem h,Bq]
  congr 2
  cases H:Dy x Q[k].Key with
  |true=>
   have:Q[k].Key≠x:=λe=>by rw[e,E1]at H;cases H
   simp[this]
  |false=>simp[Qg K H]
 ·simp[show¬(k:Int)<(Q.length:Int) by omega,Ba,G8 h]
theorem ALl{R:A9->List A1}(O:QOk R tb.Af)(hl:tb.Af.length<1099511627776){key:A9}{r:A1}(hr:(R key).length<1099511627776):∃Q,HU tb key r=some ⟨tb.BM,Q⟩/\Q.length<=tb.Af.length+1/\QOk (λk=>if k=key then R k++[r]else R k) Q:=by
 have⟨k,hk,e,h1,h2⟩:=AKk (x:=key) hl O.Wu;unfold HU;rw[e,AY];cases hf:((tb.Af[k]?.map λq=>q.Key)==some key)with
 |true=>
  have W:k<tb.Af.length:=by
   rcases A7 k tb.Af.length with h|h
   ·exact h
   ·rw[G8 h]at hf;simp at hf
  have z:tb.Af[k].Key=key:=by
   rw[List.getElem?_eq_getElem W]at hf;simpa using hf
  have⟨q1,q2⟩:=O.Ba _ (AW W);simp only[cond_true,AY];rw[A5 ox,A0 W,Int.toNat_natCast,A5 (by rw[q1,z,AT,BO];omega)];refine⟨_,Y,by simp,?_,?_,?_⟩
  ·rw[A3];intro i j hi K ag;simp only[Cr]at hi K;have:=A3.1 O.Wu i j hi K ag;rw[NJ,NJ];split<;>split<;>simp_all
  ·intro q H;rcases X3 H with hm|rfl
   ·obtain⟨j,K,rfl⟩:=BL H;simp only[Cr]at K;rw[NJ]at hm⊢;split
    ·simp only[z,IW];exact⟨by rw[q1,z],by simp⟩
    ·rename_i aa;have ab:tb.Af[j].Key≠key:=λN=>by
      rcases A7 j k with h|h
      ·have:=h1 j K h;rw[N,E1]at this;cases this
      ·have:=A3.1 O.Wu k j W K ox;rw[N,z,E1]at this;cases this
     rw[if_neg ab];exact O.Ba _ (AW K)
   ·simp only[z,IW];exact⟨by rw[q1,z],by simp⟩
  ·intro k' X;by_cases N:k'=key
   ·exact⟨_,List.mem_set W _,by rw[N];exact z⟩
   ·rw[if_neg N]at X;obtain⟨q,H,rfl⟩:=O.all k' X;obtain⟨j,K,rfl⟩:=BL H;have aa:k≠j:=λh=>N (by subst h;exact z);refine⟨tb.Af[j],JN.2 ⟨j,by simpa using K,by rw[List.getElem_set_ne aa]⟩,Y⟩
 |false=>
  have Z:∀q∈tb.Af,q.Key≠key:=λq H N=>by
   obtain⟨j,K,rfl⟩:=BL H;rcases H0 j k with h|h|h
   ·have:=h1 j K h;rw[N,E1]at this;cases this
   ·subst h;rw[List.getElem?_eq_getElem K]at hf;simp[N]at hf
   ·have h3:=A3.1 O.Wu k j ox K h;have h4:=h2 k ox (Nat.le_refl k);rw[N]at h3;rw[h3]at h4;cases h4
  have hR:R key=[]:=by
   rcases Classical.em (R key=[])with h|h
   ·exact h
   ·have⟨q,a,b⟩:=O.all key h;exact absurd b (Z q a)
  have ad:∀m(h:m<tb.Af.length),k<=m->Dy key tb.Af[m].Key=true:=λm hm ah=>by
   have:=h2 m hm ah;cases h3:Dy key tb.Af[m].Key with
   |true=>rfl|false=>exact absurd (Qg this h3) (Z _ (AW hm))
  have hlen:(tb.Af.take k++[(⟨key,[]⟩:Be)]++tb.Af.drop k).length=tb.Af.length+1:=by
   simp only[AT,Ao,Bj,BO];omega
  have ai:(tb.Af.take k++[(⟨key,[]⟩:Be)]++tb.Af.drop k)[k]'ox=⟨key,[]⟩:=by
   rw[List.getElem_eq_iff,CZ,E4 (by rw[Ao];omega)];simp[Ao,Cq hk]
  have ae:(tb.Af.take k++[(⟨key,[]⟩:Be)]++tb.Af.drop k).set k ⟨key,[r]⟩=tb.Af.take k++[⟨key,[r]⟩]++tb.Af.drop k:=by
   rw[CZ,List.set_append_right _ _ (by rw[Ao];omega),Ao,Cq hk,Vd];simp
  simp only[AP];rw[A5 ox,A5 ox,AY,Int.toNat_natCast,A5 (by rw[hlen];omega),A0 ox,ai,A5 zp];refine⟨tb.Af.take k++[⟨key,[r]⟩]++tb.Af.drop k,by rw[<- ae];rfl,?_,?_,?_,?_⟩
  ·simp only[AT,Ao,Bj,BO];omega
  ·rw[CZ,EW];refine⟨Sf (AJ4 _ _) O.Wu,?_,?_⟩
   ·rw[Ik,B6];refine⟨λy hy=>?_,Sf (List.drop_sublist _ _) O.Wu⟩;obtain⟨m,hm,rfl⟩:=BL hy;rw[YC];exact ad _ _ ox
   ·intro a ha y hy;obtain⟨m,hm,rfl⟩:=BL ha;rw[YB];rw[Ao]at hm;have h3:=h1 m ox ox;rcases BW.1 hy with hy|hy
    ·rw[List.mem_singleton.1 hy];exact h3
    ·obtain⟨m2,aj,rfl⟩:=BL hy;rw[YC];exact Gz h3 (ad _ _ ox)
  ·intro q H;have af:q∈tb.Af\/q=⟨key,[r]⟩:=by
    rcases BW.1 H with h|h
    ·rcases BW.1 h with h|h
     ·exact .inl (JM h)
     ·exact .inr (List.mem_singleton.1 h)
    ·exact .inl (DK h)
   rcases af with h|rfl
   ·rw[if_neg (Z q h)];exact O.Ba q h
   ·simp[hR]
  ·intro k' X;by_cases N:k'=key
   ·exact⟨⟨key,[r]⟩,by simp,N.symm⟩
   ·rw[if_neg N]at X;obtain⟨q,H,rfl⟩:=O.all k' X;refine⟨q,?_,Y⟩;rw[<- Dq k tb.Af]at H;rcases BW.1 H with h|h
    ·simp[h]
    ·simp[h]
end
section
open Go.ChangeShapes
theorem SJ{f:AV}(h:Wt f=true):(f.G7=true->f.Am=[]/\f.AX=[])/\(∀k∈f.Am,kvB k=true)/\(∀k∈f.AX,kvB k=true)/\f.Am.length<=64/\f.AX.length<=64:=by
 have hl:=XZ h;unfold Wt at h;split at h
 ·simp only[Aq,AZ,Jt]at h;exact⟨λ_=>h,by simp[h.1],by simp[h.2],hl.1,hl.2⟩
 ·rename_i y;simp only[Aq]at h;exact⟨λz=>absurd z y,(VG.1 h.1.2).1,(VG.1 h.2).1,hl.1,hl.2⟩
theorem AIR{f:AV}(h:Wt f=true):FOk f:=by
 have⟨_,h1,h2,h3,z⟩:=SJ h;exact⟨by omega,by omega,λk y=>AD3 (h1 k y),λk y=>AD3 (h2 k y)⟩
def rq(k:A9)(x:Int×AV):AA A1:=if k∈x.2.AX then some ⟨x.1,true⟩else if k∈x.2.Am then some ⟨x.1,false⟩else none
theorem OC{k:A9}{x:Int×AV}{r:A1}(h:rq k x=some r):r.Is=x.1/\(k∈x.2.AX\/k∈x.2.Am):=by
 unfold rq at h;split at h
 ·cases h;exact⟨Y,.inl ‹_›⟩
 ·split at h
  ·cases h;exact⟨Y,.inr ‹_›⟩
  ·cases h
structure Q4(E:List (Int×AV))(T:BG):Prop where
 Wu:E.Pairwise λa b=>a.1<b.1
 nn:∀x∈E,0<=x.1
 fv:∀x∈E,Wt x.2=true
 el:E.length<=1048576
 gl:T.BM=E.map λx=>⟨x.1,x.2.G7⟩
 q:QOk (λk=>E.filterMap (rq k)) T.Af
 ql:T.Af.length<=268435456
theorem Q4.uniq{E:List (Int×AV)}{T:BG}(h:Q4 E T){a b:Int×AV}(z:a∈E)(H:b∈E)(e:a.1=b.1):a=b:=by
 obtain⟨i,hi,rfl⟩:=BL z;obtain⟨j,y,rfl⟩:=BL H;rcases H0 i j with h1|h1|h1
 ·have:=A3.1 h.Wu i j hi y h1;omega
 ·subst h1;rfl
 ·have:=A3.1 h.Wu j i y hi h1;omega
theorem Q4.APZ{E:List (Int×AV)}{T:BG}(h:Q4 E T):AL0 T.BM:=by
 rw[h.gl];refine⟨FI.2 h.Wu,λx z=>?_⟩;obtain⟨y,H,rfl⟩:=List.mem_map.1 z;exact h.nn y H
theorem AKf{E:List (Int×AV)}(K:E.Pairwise λa b=>a.1<b.1)(N:∀x∈E,0<=x.1)(k:A9):AL0 (E.filterMap (rq k)):=by
 refine⟨List.pairwise_filterMap.2 (K.imp λ{a b}y r z W H=>?_),λr z=>?_⟩
 ·rw[(OC z).1,(OC H).1];exact y
 ·have⟨x,O,e⟩:=K3.1 z;rw[(OC e).1];exact N x O
theorem Wx{E:List (Int×AV)}{T:BG}(h:Q4 E T):Hw T=some true:=by
 have ag:=h.el;have ah:=h.ql;have ai:T.BM.length=E.length:=by rw[h.gl,Ap]
 unfold Hw;rw[AGr ox h.APZ,AY];simp only[BC,AP,CM];have loop:∀n i:Nat,i<=T.Af.length->T.Af.length-i<n->FV T (some true) n (i:Int)=some true:=by
  intro n
  induction n with
  |zero=>intro i _ h;omega|succ n ih=>
   intro i hi hn;unfold FV;rcases A7 i T.Af.length with h1|h1
   ·have⟨q1,q2⟩:=h.q.Ba _ (AW h1);generalize hq:T.Af[i]=q at q1 q2;have hlen:q.DR.length<=E.length:=by rw[q1];exact Y7 _ _
    have H:AL0 q.DR:=by rw[q1];exact AKf h.Wu h.nn _
    have K:∀r∈q.DR,∃x∈E,r.Is=x.1/\(q.Key∈x.2.AX\/q.Key∈x.2.Am):=λr O=>by
     rw[q1]at O;have⟨x,N,e⟩:=K3.1 O;exact⟨x,N,OC e⟩
    have W:kvB q.Key=true:=by
     have⟨r,O⟩:=List.exists_mem_of_ne_nil _ q2;have⟨x,N,_,hk⟩:=K r O;have⟨_,g1,g2,_⟩:=SJ (h.fv x N);exact hk.elim (g2 _) (g1 _)
    have af:=VJ.2 q2;simp only[show(i:Int)<(T.Af.length:Int) by omega,Ay,cond_true,show 0<=(i:Int) by omega,CA,DW,A0 h1,hq,SE (AD3 W),W,AY,BC,DE,Bool.and_true,Ck,BB (show i<9223372036854775807 by omega)];have X:(((q.DR.length:Nat):Int)==0)=false:=by rw[Bh];omega
    have L2:∀m k:Nat,k<=q.DR.length->q.DR.length-k<m->Hi T (i:Int) (FV T (some true) n ((i+1:Nat):Int)) m (k:Int)=FV T (some true) n ((i+1:Nat):Int):=by
     intro m
     induction m with
     |zero=>intro k _ h;omega|succ m ab=>
      intro k hk hm;unfold Hi;rw[A0 h1,hq];rcases A7 k q.DR.length with h2|h2
      ·have⟨x,N,e1,e2⟩:=K _ (AW h2);have Z:x.2.G7=false:=by
        cases hA:x.2.G7 with
        |false=>rfl|true=>
         have⟨g,_⟩:=SJ (h.fv x N);have⟨g1,g2⟩:=g hA;rw[g1,g2]at e2;simp at e2
       have⟨r,O,ad⟩:=XR (l:=T.BM) ox (q.DR[k]).Is;simp only[show(k:Int)<(q.DR.length:Int) by omega,Ay,cond_true,show 0<=(k:Int) by omega,CA,DW,A0 h2,O,AY,BB (show k<9223372036854775807 by omega)];rcases ad with⟨_,h3⟩|⟨j,rfl,hj,h4,_⟩
       ·refine absurd e1.symm (h3 ⟨x.1,x.2.G7⟩ ?_);rw[h.gl];exact List.mem_map.2 ⟨x,N,Y⟩
       ·have hw:T.BM[j].Mv=false:=by
         have ae:∃y∈E,(⟨y.1,y.2.G7⟩:A1)=T.BM[j]:=by
          have h9:=AW hj;generalize T.BM[j]=z at h9⊢;rw[h.gl]at h9;exact List.mem_map.1 h9
         have⟨y,hy,e3⟩:=ae;have e4:T.BM[j]=⟨y.1,y.2.G7⟩:=e3.symm;rw[e4]at h4⊢;rw[h.uniq hy N (h4.trans e1)];exact Z
        rw[show decide (((j:Nat):Int)<0)=false from Bd ox];simp only[DE,forall_const,show 0<=(j:Int) by omega,show(j:Int)<(T.BM.length:Int) by omega,CA,DW,cond_true,A0 hj,hw,Gi,AP];exact ab (k+1) h2 ox
      ·have:k=q.DR.length:=ox
       subst this;simp
    by_cases aj:0<i
    ·have e:(i:Int)-1=((i-1:Nat):Int):=ox
     have aa:=A3.1 h.q.Wu (i-1) i ox h1 ox;rw[hq]at aa;simp only[show(0:Int)<(i:Int) by omega,Ay,DE,cond_true,Cw,forall_const,Vg (n:=(i:Int)-1) ox ox];rw[e,A0 (show i-1<T.Af.length by omega),A5 ox,aa,X];simp only[BC,Gi,DE,FP,AGr (show q.DR.length<9223372036854775807 by omega) H,AY,AP];rw[CM];refine(show _=_ from L2 (((q.DR.length:Nat):Int).toNat+1) 0 ox ox).trans ?_;exact ih (i+1) ox ox
    ·rw[show decide ((0:Int)<(i:Int))=false by simp;omega];simp only[NN,AP,X,Gi,DE,FP,AGr (show q.DR.length<9223372036854775807 by omega) H,AY,BC];rw[A5 zp,CM];refine(show _=_ from L2 (((q.DR.length:Nat):Int).toNat+1) 0 ox ox).trans ?_;exact ih (i+1) ox ox
   ·have:i=T.Af.length:=ox
    subst this;simp
 exact loop _ 0 ox ox
end
section
open Go.ChangeShapes
def AHp(g f:AV):Prop:=g.G7=true\/f.G7=true\/∃k,(k∈g.AX/\(k∈f.AX\/k∈f.Am))\/(k∈g.Am/\k∈f.AX)
theorem ALO{E:List (Int×AV)}{T:BG}(h:Q4 E T){t:Int}{f:AV}(hm:(t,f)∈E):(ACd T.BM t/\∀q∈T.Af,ACd q.DR t)↔∀x∈E,x.1<t->¬AHp x.2 f:=by
 have mem:∀{k:A9}{x:Int×AV}{r},x∈E->rq k x=some r->∃q∈T.Af,q.Key=k/\∀y∈E,∀X,rq k y=some X->X∈q.DR:=λ{k x r}K e=>by
  obtain⟨q,Z,rfl⟩:=h.q.all k (List.ne_nil_of_mem (K3.2 ⟨x,K,e⟩));exact⟨q,Z,Y,λy N X e'=>by rw[(h.q.Ba q Z).1];exact K3.2 ⟨y,N,e'⟩⟩
 constructor
 ·rintro⟨h1,h2⟩ x K z H;have hg:=h1 ⟨x.1,x.2.G7⟩ (by rw[h.gl];exact List.mem_map.2 ⟨x,K,Y⟩) ⟨t,f.G7⟩ (by rw[h.gl];exact List.mem_map.2 ⟨(t,f),hm,Y⟩) Y z;rcases H with H|H|⟨k,⟨H,aa⟩|⟨H,aa⟩⟩
  ·grind
  ·grind
  ·have O:rq k x=some ⟨x.1,true⟩:=by simp[rq,H]
   obtain⟨X,W⟩:∃X,rq k (t,f)=some X:=by
    unfold rq;by_cases hw:k∈f.AX
    ·grind
    ·grind
   have⟨q,Z,_,N⟩:=mem K O;have:=h2 q Z _ (N x K _ O) _ (N _ hm _ W) (OC W).1 z;cases this.1
  ·have W:rq k (t,f)=some ⟨t,true⟩:=by simp[rq,aa]
   obtain⟨X,O⟩:∃X,rq k x=some X:=by
    unfold rq;by_cases hw:k∈x.2.AX
    ·grind
    ·grind
   have⟨q,Z,_,N⟩:=mem K O;have:=h2 q Z _ (N x K _ O) _ (N _ hm _ W) (OC W).1 (by rw[(OC O).1];exact z);cases this.2
 ·intro hn;constructor
  ·intro a ha b hb e z;rw[h.gl]at ha hb;obtain⟨x,K,rfl⟩:=List.mem_map.1 ha;obtain⟨y,N,rfl⟩:=List.mem_map.1 hb;have:y=(t,f):=h.uniq N hm e;subst this;have H:=hn x K z;unfold AHp at H;simp only[not_or,FB]at H;exact⟨H.1,H.2.1⟩
  ·intro q Z a ha b hb e z;rw[(h.q.Ba q Z).1]at ha hb;have⟨x,K,O⟩:=K3.1 ha;have⟨y,N,W⟩:=K3.1 hb;have:y=(t,f):=h.uniq N hm ((OC W).1.symm.trans e);subst this;have H:=hn x K (by rw[(OC O).1]at z;exact z);unfold AHp at H;simp only[not_or,FB,not_exists,not_and]at H;have h1:=(OC O).2;have h2:=(OC W).2;have⟨c1,c2⟩:=H.2.2 q.Key;constructor
   ·cases hw:a.Mv with
    |false=>rfl|true=>
     unfold rq at O;split at O
     ·grind
     ·grind
   ·cases hw:b.Mv with
    |false=>rfl|true=>
     unfold rq at W;split at W
     ·grind
     ·grind
theorem AEq{E:List (Int×AV)}{T:BG}(h:Q4 E T){t:Int}{f:AV}(hm:(t,f)∈E):∃i:Nat,FE T.BM t=some (i:Int):=by
 have z:=h.el;have H:T.BM.length=E.length:=by rw[h.gl,Ap]
 have⟨r,K,y⟩:=XR (l:=T.BM) ox t;rcases y with⟨_,h3⟩|⟨j,rfl,_⟩
 ·exact absurd Y (h3 ⟨t,f.G7⟩ (by rw[h.gl];exact List.mem_map.2 ⟨(t,f),hm,Y⟩))
 ·exact⟨j,K⟩
theorem AFD:∀{a b:List A9},a.Nodup->(∀x∈a,x∈b)->a.length<=b.length
 |[],b,_,_=>By _|x::a,b,N,z=>by
  have⟨h1,h2⟩:=Qb.1 N;have H:x∈b:=z x zp;have:=AFD (b:=b.erase x) h2 λy K=>(List.mem_erase_of_ne (λe:y=x=>h1 (by rw[<- e];exact K))).2 (z y (by simp[K]));rw[List.length_erase_of_mem H]at this;have:=KZ H;simp only[Bz];omega
def atQ(f:AV)(Q:List Be):List Be:=Q.filter λq=>decide (q.Key∈f.AX++f.Am)
theorem ANL{R:A9->List A1}{Q:List Be}(h:QOk R Q){f:AV}(z:Wt f=true)(k:Nat):(atQ f (Q.take k)).length<=128:=by
 have⟨_,_,_,h1,h2⟩:=SJ z;have:=AFD (a:=(atQ f (Q.take k)).map (·.Key)) (b:=f.AX++f.Am) ?_ ?_
 ·grind
 ·have hp:(Q.take k).Pairwise λa b=>Dy a.Key b.Key=true:=Sf (AJ4 _ _) h.Wu;exact FI.2 ((D5 _ hp).imp λ{a b}y e=>by rw[e,E1]at y;cases y)
 ·intro x H;obtain⟨q,K,rfl⟩:=List.mem_map.1 H;simpa using(BK.1 K).2
theorem AJZ{E:List (Int×AV)}{T:BG}(h:Q4 E T){t:Int}{f:AV}(hm:(t,f)∈E):Tt (IB T t) λr=>r=true↔∀x∈E,x.1<t->¬AHp x.2 f:=by
 have Z:=h.el;have ab:=h.ql;have ad:T.BM.length=E.length:=by rw[h.gl,Ap]
 have⟨i,hi⟩:=AEq h hm;rw[<- ALO h hm];unfold IB;rw[Wx h,AY,DE,FP,hi,AY];rw[show decide ((0:Int)<=(i:Int))=true by simp];simp only[FJ,DE,FP,Cw];have hw:Tt (Lx T t) λr=>r=[]↔ACd T.BM t/\∀q∈T.Af,ACd q.DR t:=by
  unfold Lx;refine Tt.Az (AFq ox h.APZ t [] zp) λz hz=>?_;rw[CM];have loop:∀n k:Nat,k<=T.Af.length->T.Af.length-k<n->∀z:List Int,z.length<=E.length+(atQ f (T.Af.take k)).length*E.length->(z=[]↔ACd T.BM t/\∀j(K:j<k)(hl:j<T.Af.length),ACd T.Af[j].DR t)->Tt (Hh T t (λN=>Ba (N.length<4611686018427387904) (some (EN (Fx N)))) n z (k:Int)) λr=>r=[]↔ACd T.BM t/\∀q∈T.Af,ACd q.DR t:=by
   intro n
   induction n with
   |zero=>intro k _ h;omega|succ n ih=>
    intro k hk hn z hz O;have hmul:(atQ f (T.Af.take k)).length*E.length<=128*1048576:=Nat.mul_le_mul (ANL h.q (h.fv _ hm) k) Z;unfold Hh;refine Tt.cond (λh1=>?_) λh1=>Tt.Ba ox (Tt.mk ?_)
    ·simp only[AZ]at h1;have H:k<T.Af.length:=ox
     have⟨q1,q2⟩:=h.q.Ba _ (AW H);have hlen:T.Af[k].DR.length<=E.length:=by grind
     rw[BB ox,A0 H];refine Tt.Ba ⟨by omega,h1⟩ (Tt.Az (AFq ox (by rw[q1];exact AKf h.Wu h.nn _) t z ox) λz' W=>ih (k+1) H ox z' ?_ ?_)
     ·have aa:atQ f (T.Af.take (k+1))=atQ f (T.Af.take k)++atQ f [T.Af[k]]:=by rw[Bk H,atQ,K5];rfl
      rw[aa,AT,G1];by_cases X:T.Af[k].Key∈f.AX++f.Am
      ·rw[show atQ f [T.Af[k]]=[T.Af[k]] by simp only[atQ,Pk,X,Ay,IW,List.filter_nil]];simp only[BO,RG];omega
      ·rw[W.2.2 λx hx e=>?_]
       ·omega
       ·rw[q1]at hx;have⟨y,hy,e1⟩:=K3.1 hx;have:y=(t,f):=h.uniq hy hm ((OC e1).1.symm.trans e);subst this;exact X (BW.2 (OC e1).2)
     rw[W.1,O,and_assoc];refine and_congr_right λ_=>⟨λe j K hl=>?_,λe=>⟨λj K hl=>e j ox hl,e k ox H⟩⟩;rcases A7 j k with h5|h5
     ·grind
     ·grind
    ·simp only[Ai]at h1;rw[show EN (Fx z)=[]↔z=[] by
      rw[List.eq_nil_iff_forall_not_mem,List.eq_nil_iff_forall_not_mem];exact forall_congr' λx=>not_congr ((Qr z).2 x),O]
     refine and_congr_right λ_=>⟨λe q hq=>?_,λe j K hl=>e _ (AW hl)⟩;obtain⟨j,K,rfl⟩:=BL hq;exact e j ox K
  refine loop _ 0 ox ox z (by have:=hz.2.1;simp at this;omega) ?_;rw[hz.1];simp
 refine Tt.Az hw λr hr=>Tt.mk ?_;rw[<- hr,B1,<- Jt];omega
theorem ACr{E:List (Int×AV)}{T:BG}(h:Q4 E T){t:Int}{f:AV}(hm:(t,f)∈E):∃T',G3 T t=some (T',0)/\Q4 (E.filter λx=>x.1 !=t) T':=by
 have H:=h.el;have aa:=h.ql;have W:T.BM.length=E.length:=by rw[h.gl,Ap]
 have⟨i,hi⟩:=AEq h hm
 let g:Be->Be:=λq=>⟨q.Key,q.DR.filter λx=>x.Is !=t⟩
 let Q':=(T.Af.map g).filter λq=>decide (0<q.DR.length)
 refine⟨⟨T.BM.filter λx=>x.Is !=t,Q'⟩,?_,?_⟩
 ·unfold G3;rw[Wx h,AY,hi,AY,AAc ox,AY,CM];rw[show decide (((i:Nat):Int)<0)=false from Bd ox];simp only[BC,AP];have loop:∀n k:Nat,k<=T.Af.length->T.Af.length-k<n->Gu T t (λX=>some ((⟨T.BM.filter λx=>x.Is !=t,X⟩:BG),(0:Int))) n (((T.Af.take k).map g).filter λq=>decide (0<q.DR.length)) (k:Int)=some (⟨T.BM.filter λx=>x.Is !=t,Q'⟩,0):=by
   intro n
   induction n with
   |zero=>intro k _ h;omega|succ n K=>
    intro k N hn;unfold Gu;rcases A7 k T.Af.length with h1|h1
    ·have⟨q1,q2⟩:=h.q.Ba _ (AW h1);have hlen:T.Af[k].DR.length<=E.length:=by grind
     simp only[show(k:Int)<(T.Af.length:Int) by omega,Ay,cond_true,show 0<=(k:Int) by omega,CA,DW,A0 h1,AAc (show T.Af[k].DR.length<1099511627776 by omega),AY,CM];rw[BB ox];have y:(((T.Af.take (k+1)).map g).filter λq=>decide (0<q.DR.length))=(((T.Af.take k).map g).filter λq=>decide (0<q.DR.length))++(if 0<((T.Af[k].DR).filter λx=>x.Is !=t).length then[g T.Af[k]]else[]):=by
      rw[Bk h1,E0,K5]
      congr 1
      rw[B8,Ge,Pk,List.filter_nil];by_cases h0:0<((T.Af[k].DR).filter λx=>x.Is !=t).length
      ·rw[if_pos h0,if_pos (Bw (show 0<(g T.Af[k]).DR.length from h0))]
      ·rw[if_neg h0,if_neg (by rw[Bd (show¬0<(g T.Af[k]).DR.length from h0)];simp)]
     have ab:(((T.Af.take k).map g).filter λq=>decide (0<q.DR.length)).length<=k:=by grind
     have hd:decide ((0:Int)<((((T.Af[k].DR).filter λx=>x.Is !=t).length:Nat):Int))=decide (0<((T.Af[k].DR).filter λx=>x.Is !=t).length):=by rw[ET];simp
     rw[hd];by_cases h0:0<((T.Af[k].DR).filter λx=>x.Is !=t).length
     ·rw[if_pos h0]at y;rw[Bw h0,cond_true,A5 (by rw[AT,BO];omega)];rw[<- K (k+1) h1 ox,y]
     ·rw[if_neg h0,Du]at y;rw[Bd h0,AP,<- K (k+1) h1 ox,y]
    ·grind
  exact loop _ 0 ox ox
 ·have hR:∀k,(E.filter λx=>x.1 !=t).filterMap (rq k)=(E.filterMap (rq k)).filter λx=>x.Is !=t:=λk=>by
   clear h hm H W
   induction E with
   |nil=>rfl|cons x E K=>
    cases z:rq k x with
    |none=>
     rw[List.filterMap_cons_none z,<- K,Pk];split
     ·grind
     ·rfl
    |some r=>
     rw[List.filterMap_cons_some z,Pk,Pk,(OC z).1];split
     ·grind
     ·exact K
  refine⟨D5 _ h.Wu,λx z=>h.nn x (BK.1 z).1,λx z=>h.fv x (BK.1 z).1,Cf (C3 _ _) H,?_,⟨?_,λq O=>?_,λk N=>?_⟩,?_⟩
  ·show(T.BM.filter λx=>x.Is !=t)=_;rw[h.gl,List.filter_map];rfl
  ·exact D5 _ (FI.2 h.q.Wu)
  ·have⟨h1,h2⟩:=BK.1 O;obtain⟨q',h3,rfl⟩:=List.mem_map.1 h1;simp only[AZ]at h2;rw[hR];exact⟨by show(q'.DR.filter _)=_;rw[(h.q.Ba q' h3).1],VJ.1 h2⟩
  ·rw[hR]at N;have Z:E.filterMap (rq k)≠[]:=λe=>N (by rw[e];rfl);obtain⟨q,O,rfl⟩:=h.q.all k Z;refine⟨g q,BK.2 ⟨List.mem_map.2 ⟨q,O,Y⟩,?_⟩,Y⟩;simp only[AZ,g];rw[(h.q.Ba q O).1];exact VJ.2 N
  ·grind
end
section
open Go.ChangeShapes
theorem ALZ{E:List (Int×AV)}{T:BG}(h:Q4 E T):K7 T=some T:=by
 have y:=h.el;have z:=h.ql;have H:T.BM.length=E.length:=by rw[h.gl,Ap]
 unfold K7;rw[Yo ox,AY];have loop:∀n k:Nat,k<=T.Af.length->T.Af.length-k<n->GH T n (T.Af.take k) (k:Int)=some T.Af:=by
  intro n
  induction n with
  |zero=>intro k _ h;omega|succ n K=>
   intro k N O;unfold GH;rcases A7 k T.Af.length with h1|h1
   ·have hlen:T.Af[k].DR.length<=E.length:=by rw[(h.q.Ba _ (AW h1)).1];exact Y7 _ _
    have e:T.Af.take k++[(⟨T.Af[k].Key,T.Af[k].DR⟩:Be)]=T.Af.take (k+1):=by rw[Bk h1]
    simp only[show(k:Int)<(T.Af.length:Int) by omega,Ay,cond_true,show 0<=(k:Int) by omega,CA,DW,A0 h1,Yo (show T.Af[k].DR.length<=1099511627776 by omega),AY];rw[e,A5 (by rw[Ao];omega),BB ox];exact K (k+1) h1 ox
   ·grind
 have:=loop (T.Af.length+1) 0 ox ox;rw[show(((T.Af.length:Nat):Int).toNat+1)=T.Af.length+1 by omega];rw[show GH T (T.Af.length+1) [] 0=_ from this,AY]
theorem AC1{l:List A9}(h:Ru l=true)(hi:i<l.length):l[i]∉l.take i:=λhm=>by
 have⟨j,y,e⟩:=BL hm;rw[Ao]at y;rw[YB]at e;have:=A3.1 (VG.1 h).2 j i ox hi ox;rw[e,E1]at this;cases this
theorem AKi{R:A9->List A1}{ws:List A9}{t:Int}(K:Ru ws=true)(hl:ws.length<=64)(hR:∀k,(R k).length<=1048577)(tb:BG)(h0:tb.Af.length<=268435456):∀(n i:Nat)(Q:List Be),i<=ws.length->ws.length-i<n->Q.length<=tb.Af.length+i->QOk (λk=>if k∈ws.take i then R k++[⟨t,true⟩]else R k) Q->∃Q',EO t ws n ⟨tb.BM,Q⟩ (i:Int)=some ⟨tb.BM,Q'⟩/\Q'.length<=tb.Af.length+ws.length/\QOk (λk=>if k∈ws then R k++[⟨t,true⟩]else R k) Q'
 |0,i,Q,_,h,_,_=>by omega
 |n+1,i,Q,hi,hn,O,z=>by
  unfold EO;rcases A7 i ws.length with h|h
  ·have H:=AC1 K h;have N:∀k,k∈ws.take (i+1)↔k∈ws.take i\/k=ws[i]:=λk=>by rw[Bk h,BW,List.mem_singleton]
   have⟨Q',W,X,Z⟩:=ALl (tb:=⟨tb.BM,Q⟩) (key:=ws[i]) (r:=⟨t,true⟩) z (by show Q.length<_;omega) (by have:=hR ws[i];simp only[if_neg H];omega);simp only[show(i:Int)<(ws.length:Int) by omega,Ay,cond_true,show 0<=(i:Int) by omega,CA,DW,A0 h,W,AY];rw[BB ox];refine AKi K hl hR tb h0 n (i+1) Q' h ox (by have:Q'.length<=Q.length+1:=X;omega) ?_;have y:(λk=>if k∈ws.take (i+1)then R k++[(⟨t,true⟩:A1)]else R k)=λk=>if k=ws[i]then(if k∈ws.take i then R k++[⟨t,true⟩]else R k)++[⟨t,true⟩]else if k∈ws.take i then R k++[⟨t,true⟩]else R k:=by grind
   rw[y];exact Z
  ·have:i=ws.length:=ox
   subst this;rw[Kr]at z;exact⟨Q,by simp,O,z⟩
theorem AGp{R:A9->List A1}{ws rs:List A9}{t:Int}(W:Ru rs=true)(hl:rs.length<=64)(hw:ws.length<=64)(hR:∀k,(R k).length<=1048577)(tb:BG)(h0:tb.Af.length<=268435456):∀(n i:Nat)(Q:List Be),i<=rs.length->rs.length-i<n->Q.length<=tb.Af.length+i->QOk (λk=>if k∈rs.take i/\k∉ws then R k++[⟨t,false⟩]else R k) Q->∃Q',EP t ws rs n ⟨tb.BM,Q⟩ (i:Int)=some ⟨tb.BM,Q'⟩/\Q'.length<=tb.Af.length+rs.length/\QOk (λk=>if k∈rs/\k∉ws then R k++[⟨t,false⟩]else R k) Q'
 |0,i,Q,_,h,_,_=>by omega
 |n+1,i,Q,hi,hn,X,O=>by
  unfold EP;rcases A7 i rs.length with h|h
  ·have K:=AC1 W h;have H:∀k,k∈rs.take (i+1)↔k∈rs.take i\/k=rs[i]:=λk=>by rw[Bk h,BW,List.mem_singleton]
   simp only[show(i:Int)<(rs.length:Int) by omega,Ay,cond_true,show 0<=(i:Int) by omega,CA,DW,A0 h,containsS (show ws.length<9223372036854775808 by omega),AY];rw[BB ox];by_cases hm:rs[i]∈ws
   ·rw[show(ws.any λy=>y==rs[i])=true by simpa using hm];simp only[BC,AP,AY];refine AGp W hl hw hR tb h0 n (i+1) Q h ox ox ?_;have z:(λk=>if k∈rs.take (i+1)/\k∉ws then R k++[(⟨t,false⟩:A1)]else R k)=λk=>if k∈rs.take i/\k∉ws then R k++[⟨t,false⟩]else R k:=by
     funext k
     simp only[H];by_cases N:k=rs[i]
     ·subst N;simp[hm]
     ·simp[N]
    rw[z];exact O
   ·rw[show(ws.any λy=>y==rs[i])=false by rw[Ca];intro x Z e;exact hm (by rw[<- eq_of_beq e];exact Z)];have⟨Q',e1,e2,e3⟩:=ALl (tb:=⟨tb.BM,Q⟩) (key:=rs[i]) (r:=⟨t,false⟩) O (by show Q.length<_;omega) (by have:=hR rs[i];simp only[if_neg (λh:rs[i]∈rs.take i/\rs[i]∉ws=>K h.1)];omega);simp only[GJ,cond_true,e1,AY];refine AGp W hl hw hR tb h0 n (i+1) Q' h ox (by have:Q'.length<=Q.length+1:=e2;omega) ?_;have z:(λk=>if k∈rs.take (i+1)/\k∉ws then R k++[(⟨t,false⟩:A1)]else R k)=λk=>if k=rs[i]then(if k∈rs.take i/\k∉ws then R k++[⟨t,false⟩]else R k)++[⟨t,false⟩]else if k∈rs.take i/\k∉ws then R k++[⟨t,false⟩]else R k:=by
     funext k
     simp only[H];by_cases N:k=rs[i]
     ·subst N;simp[K,hm]
     ·simp[N]
    rw[z];exact e3
  ·have:i=rs.length:=ox
   subst this;rw[Kr]at O;exact⟨Q,by simp,X,O⟩
theorem AJC{E:List (Int×AV)}{T:BG}(h:Q4 E T){t:Int}{f:AV}(ht:∀x∈E,x.1<t)(h0:0<=t)(H:Wt f=true)(hE:E.length<1048576)(hQ:T.Af.length+128<=268435456):∃T',IA T t f=some (T',0)/\Q4 (E++[(t,f)]) T'/\T'.Af.length<=T.Af.length+128:=by
 have ae:T.BM.length=E.length:=by rw[h.gl,Ap]
 have⟨fa,fr,fw,aa,W⟩:=SJ H;have ab:∀x∈T.BM,x.Is<t:=λx z=>by
  rw[h.gl]at z;obtain⟨y,hy,rfl⟩:=List.mem_map.1 z;exact ht y hy
 have K:Ru f.Am=true/\Ru f.AX=true:=by
  cases hA:f.G7 with
  |true=>
   have⟨e1,e2⟩:=fa hA;rw[e1,e2];exact⟨Y,Y⟩
  |false=>
   unfold Wt at H;rw[hA]at H;simp only[GK,if_false,Aq]at H;exact⟨H.1.2,H.2⟩
 unfold IA;rw[Wx h,AY,Nz (AIR H),H];have⟨r,hr,af⟩:=XR (l:=T.BM) ox t;have ad:r= -1:=by grind
 subst ad;rw[hr];simp only[BC,DE,FP,AY,Gi,Ck,show decide (t<0)=false from Bd ox,AP,show decide ((0:Int)<= -1)=false by decide];have N:((decide ((0:Int)<((T.BM.length:Nat):Int)))&&(decide (t<(cond ((decide ((0:Int)<((T.BM.length:Nat):Int)))==true) (AN T.BM (AB (((T.BM.length:Nat):Int)-(1:Int)))) default).Is)))=false:=by
  by_cases hp:0<T.BM.length
  ·rw[show decide ((0:Int)<((T.BM.length:Nat):Int))=true from Bw ox];simp only[DE,cond_true,Cw,Ai];rw[Vg ox ox,show((T.BM.length:Nat):Int)-1=((T.BM.length-1:Nat):Int) by omega,A0 ox];have:=ab _ (AW (show T.BM.length-1<T.BM.length by omega));omega
  ·rw[show decide ((0:Int)<((T.BM.length:Nat):Int))=false from Bd ox];rfl
 rw[N,AP,A5 (by
  intro hp;simp only[B1,AZ]at hp;rw[Vg ox ox];omega),ALZ h,AY,A5 (by rw[AT,BO];omega)]
 have X:∀k,(E.filterMap (rq k)).length<=E.length:=λk=>Y7 _ _;have⟨O,e1,e2,e3⟩:=AKi (R:=λk=>E.filterMap (rq k)) (t:=t) K.2 W (λk=>by have:=X k;omega) ⟨T.BM++[⟨t,f.G7⟩],T.Af⟩ (by show T.Af.length<=_;omega) (f.AX.length+1) 0 T.Af ox ox zp (by simpa using h.q);have⟨Q2,e4,e5,e6⟩:=AGp (R:=λk=>if k∈f.AX then E.filterMap (rq k)++[⟨t,true⟩]else E.filterMap (rq k)) (t:=t) (ws:=f.AX) K.1 aa W (λk=>by
  have:=X k;split
  ·grind
  ·omega) ⟨T.BM++[⟨t,f.G7⟩],O⟩ (by have:O.length<=T.Af.length+f.AX.length:=e2;show O.length<=_;omega) (f.Am.length+1) 0 O ox ox zp (by simpa using e3)
 rw[show(((f.AX.length:Nat):Int).toNat+1)=f.AX.length+1 by omega,show(((f.Am.length:Nat):Int).toNat+1)=f.Am.length+1 by omega];rw[show EO t f.AX (f.AX.length+1) ⟨T.BM++[⟨t,f.G7⟩],T.Af⟩ 0=_ from e1,AY,show EP t f.AX f.Am (f.Am.length+1) _ 0=_ from e4,AY];have ag:O.length<=T.Af.length+f.AX.length:=e2;have ah:Q2.length<=O.length+f.Am.length:=e5;refine⟨_,Y,⟨?_,λx z=>?_,λx z=>?_,by rw[AT,BO];omega,?_,?_,by show Q2.length<=_;omega⟩,by show Q2.length<=_;omega⟩
 ·rw[EW];exact⟨h.Wu,List.pairwise_singleton _ _,λa ha b hb=>by rw[List.mem_singleton.1 hb];exact ht a ha⟩
 ·rcases BW.1 z with z|z
  ·exact h.nn x z
  ·rw[List.mem_singleton.1 z];exact h0
 ·rcases BW.1 z with z|z
  ·exact h.fv x z
  ·rw[List.mem_singleton.1 z];exact H
 ·show T.BM++_=_;rw[E0,h.gl];rfl
 ·have Z:(λk=>(E++[(t,f)]).filterMap (rq k))=λk=>if k∈f.Am/\k∉f.AX then(if k∈f.AX then E.filterMap (rq k)++[(⟨t,true⟩:A1)]else E.filterMap (rq k))++[⟨t,false⟩]else if k∈f.AX then E.filterMap (rq k)++[⟨t,true⟩]else E.filterMap (rq k):=by
   funext k
   rw[List.filterMap_append];by_cases hw:k∈f.AX
   ·simp[rq,hw]
   ·by_cases hr:k∈f.Am
    ·simp[rq,hw,hr]
    ·simp[rq,hw,hr]
  rw[Z];exact e6
end
variable {txn:Int}
section
structure AJ3(m:B3):Prop where
 kl:m.Keys.length<9223372036854775808
 p:JG m.BF
def O2(a b:B3):Bool:=(((a.Is==b.Is)&&(a.BU==b.BU))&&(a.To==b.To))&&eqL ZJ a.Keys b.Keys&&eqL Qh a.BF b.BF
theorem AG3(a b:B3):O2 a b=true↔a=b:=by
 have⟨t,f,o,k,p⟩:=a;have⟨y,z,o',H,K⟩:=b;simp only[O2,Aq,B1,Xd AI3,Xd WJ,B3.mk.injEq];constructor
 ·grind
 ·grind
theorem AMW{a b:B3}(y:AJ3 a)(z:AJ3 b):Nj a b=some (O2 a b):=by
 unfold Nj O2;rw[AI9 y.kl z.kl,AMV y.p.l z.p.l];cases(((a.Is==b.Is)&&(a.BU==b.BU))&&(a.To==b.To))with
 |false=>simp[CG,Az]|true=>cases eqL ZJ a.Keys b.Keys<;>simp[CG,Az]
def WO(txn node:Int)(l:List B3):List B3:=
 l.foldl (λout m=>cond (((m.Is==txn)&&(m.To==node))&& !(out.any λx=>O2 x m)) (out++[m]) out) []
theorem PQ(txn node:Int):∀(l out:List B3),(l.foldl (λout m=>cond (((m.Is==txn)&&(m.To==node))&& !(out.any λx=>O2 x m)) (out++[m]) out) out).length<=out.length+l.length/\∀x∈l.foldl (λout m=>cond (((m.Is==txn)&&(m.To==node))&& !(out.any λx=>O2 x m)) (out++[m]) out) out,x∈out\/(x∈l/\x.Is=txn/\x.To=node)
 |[],out=>by simp
 |m::l,out=>by
  rw[Lq];cases z:(((m.Is==txn)&&(m.To==node))&& !(out.any λx=>O2 x m))with
  |false=>
   have⟨h1,h2⟩:=PQ txn node l out;refine⟨by simp at h1⊢;omega,λx y=>?_⟩;rcases h2 x y with h|h
   ·exact .inl h
   ·grind
  |true=>
   have⟨h1,h2⟩:=PQ txn node l (out++[m]);refine⟨by simp at h1⊢;omega,λx y=>?_⟩;rcases h2 x y with h|h
   ·grind
   ·grind
theorem AK5(txn node:Int)(l:List B3):(WO txn node l).length<=l.length:=by
 have:=(PQ txn node l []).1;simpa[WO]using this
theorem AK4{node:Int}{l:List B3}{x:B3}(h:x∈WO txn node l):x∈l/\x.Is=txn/\x.To=node:=by
 rcases(PQ txn node l []).2 x h with h|h
 ·simp at h
 ·exact h
theorem S7{l:List B3}(hl:l.length<9223372036854775808){g:B3->AA Bool}{q:B3->Bool}(h:∀x∈l,g x=some (q x)):CK l g=some (l.any q):=by
 unfold CK EL;simp only[CM];refine AD1 (l:=l) hl (L:=λn i=>Cj l g (some (-1)) n i) (q:=q) ?_ ?_ ox
 ·intro n i hi
  try dsimp only
  rw[Cj];simp only[show(i:Int)<(l.length:Int) by omega,Ay,cond_true,show 0<=(i:Int) by omega,CA,DW,A0 hi,h _ (AW hi),AY]
 ·intro n
  try dsimp only
  rw[Cj];simp
def clP:List B3->List AR->List B3->List AR×Int
 |_,out,[]=>(out,0)|seen,out,m::l=>cond (seen.any λx=>x.BU==m.BU) ([],8) (cond ((MA out m.BF).2 !=0) ([],8) (clP (seen++[m]) (MA out m.BF).1 l))
def Xe(own:List B3):List AR×Int:=cond ((own.length:Int)==0) ([],9) (cond (own.any λm=> !G5 m.BF) ([],1) (clP [] [] own))
theorem AED{node:Int}{l:List B3}{P:Nat}(hl:l.length<=1099511627776)(hP:((WO txn node l).length+1)*P<1099511627776)(h:∀m∈l,AJ3 m/\m.BF.length<=P):HW txn node l=some (Xe (WO txn node l)):=by
 unfold HW;simp only[CM];refine(XM (l:=l) ox (L:=λn s i=>Fv l txn node (λy=>
  bif ((y.length:Nat):Int)==0 then some ([],9)
  else
   EJ y (Dw y (λH=>some (H,0)) (((y.length:Nat):Int).toNat+1) [] 0)
    (((y.length:Nat):Int).toNat+1) 0) n s i) (J:=λy=>
  bif ((y.length:Nat):Int)==0 then some ([],9)
  else
   EJ y (Dw y (λH=>some (H,0)) (((y.length:Nat):Int).toNat+1) [] 0)
    (((y.length:Nat):Int).toNat+1) 0)
  (f:=λout m=>cond (((m.Is==txn)&&(m.To==node))&& !(out.any λx=>O2 x m)) (out++[m]) out) (λi s=>s.length<=i/\∀x∈s,AJ3 x) ?_ ?_ ?_ ox ⟨by simp,by simp⟩).trans ?_
 ·rintro n i s hi ⟨hs,O⟩;have hm:=h _ (AW hi)
  try dsimp only
  rw[Fv];simp only[show(i:Int)<(l.length:Int) by omega,Ay,cond_true,show 0<=(i:Int) by omega,CA,DW,A0 hi,CM];have hc:CK s (λW=>Hj W l[i])=some (s.any λx=>O2 x l[i]):=
   S7 ox λx hx=>by unfold Hj;rw[AMW (O x hx) hm.1];rfl
  rw[hc];cases(l[i].Is==txn)&&(l[i].To==node)with
  |false=>simp[CG,Az]|true=>
   simp only[DE,FP,AY,Cw];cases(s.any λx=>O2 x l[i])with
   |true=>simp|false=>
    simp only[GJ,cond_true];rw[A5 (by simp;omega)]
 ·grind
 ·rintro n s _
  try dsimp only
  rw[Fv];simp only[Int.lt_irrefl,Dp,AP]
 ·rw[<- WO,Xe];have X:∀m∈WO txn node l,AJ3 m/\m.BF.length<=P:=λm hm=>h m (AK4 hm).1;have Z:(WO txn node l).length<=1099511627776:=Cf (AK5 _ _ _) hl;generalize WO txn node l=own at X Z hP⊢;cases hz:((own.length:Int)==0)with
  |true=>rfl|false=>
   rw[AP,AP];refine(UL (l:=own) ox (L:=λn i=>EJ own (Dw own (λz=>some (z,0)) (((own.length:Nat):Int).toNat+1) [] 0) n i) (q:=λm=> !G5 m.BF)
    (E:=some ([],1)) (J:=Dw own (λz=>some (z,0)) (((own.length:Nat):Int).toNat+1) [] 0) (n:=((own.length:Nat):Int).toNat+1) ox ?_ ?_).trans ?_
   ·intro n i hi;have hm:=X _ (AW hi)
    try dsimp only
    rw[EJ];simp only[show(i:Int)<(own.length:Int) by omega,Ay,cond_true,show 0<=(i:Int) by omega,CA,DW,A0 hi,IU hm.1.p,AY]
   ·intro n
    try dsimp only
    rw[EJ];simp
   ·cases(own.any λm=> !G5 m.BF)with
    |true=>rfl|false=>
     rw[AP,AP];have key:∀n(i:Nat)(out:List AR),i<=own.length->own.length-i<n->out.length<=P*i->JG out->Dw own (λz=>some (z,0)) n out (i:Int)=some (clP (own.take i) out (own.drop i)):=by
      intro n
      induction n with
      |zero=>intro i _ _ h;omega|succ n ih=>
       intro i out hi hn hlen N;rw[Dw];rcases A7 i own.length with K|ab
       ·have hm:=X _ (AW K);have hmul:P*i+P<=(own.length+1)*P:=by rw[<- Nat.mul_succ,Nat.mul_comm];exact Cm _ ox
        have aa:P*(i+1)=P*i+P:=Nat.mul_succ _ _;have hu:=YE N hm.1.p ox;rw[A4 K,clP];have e1:own.take i++[own[i]]=own.take (i+1):=by rw[List.take_append_getElem]
        rw[e1];simp only[show(i:Int)<(own.length:Int) by omega,Ay,cond_true,show 0<=(i:Int) by omega,show(i:Int)<=(own.length:Int) by omega,D6,CA,DW,A0 K,Int.toNat_natCast,Int.toNat_zero,PI];rw[S7 (l:=own.take i) (g:=λW=>Jm W own[i]) (q:=λx=>x.BU==own[i].BU) (by rw[Ao];omega) (λx hx=>Y),AY];cases(own.take i).any λx=>x.BU==own[i].BU with
        |true=>rfl|false=>
         rw[AP,AP,AAe N hm.1.p ox,AY];cases((MA out own[i].BF).2 !=0)with
         |true=>rfl|false=>
          rw[AP,AP,BB ox];exact ih (i+1) _ ox ox ox hu.2
       ·have:i=own.length:=ox
        subst this;simp[clP]
     have:=key (((own.length:Nat):Int).toNat+1) 0 [] ox ox zp JG.nil;simpa using this
variable {p:AI} {f:AV}
def v31(p:AI)(s:BA)(f:AV):Bool:=v30 p f&&G5 s.BF
def M7(p:AI)(s:BA)(f:AV):List AR:=cond (v31 p s f) (s.BF.filter λx=>f.G7||f.Am.any λy=>y==x.Key) []
theorem AEo(hp:Qa p)(y:FOk f){s:BA}(z:JG s.BF):Kk p s f=some (v31 p s f):=by
 unfold Kk v31;rw[F4 hp.l hp.s,Nz y,IU z,AY,v30];cases Md p with
 |false=>simp[CG,Az]|true=>cases Wt f<;>simp[CG,Az]
theorem AG6(hp:Qa p)(H:FOk f){s:BA}(K:JG s.BF)(hl:s.BF.length<=1099511627776):Mo p s f=some (M7 p s f):=by
 unfold Mo M7;rw[AEo hp H K,AY];cases v31 p s f with
 |false=>rfl|true=>
  simp only[BC,AP,cond_true,CM];refine S0 (l:=s.BF) K.l (L:=λn a i=>G4 s f (λz=>some z) n a i) (J:=λz=>some z) (p:=λx=>f.G7||f.Am.any λy=>y==x.Key) ?_ ?_ (n:=((s.BF.length:Nat):Int).toNat+1) ox
  ·intro n i acc hi N
   try dsimp only
   rw[G4];have O:(acc++[s.BF[i]]).length*48<=140737488355328:=by simp;omega
   simp only[show(i:Int)<(s.BF.length:Int) by omega,Ay,cond_true,show 0<=(i:Int) by omega,CA,DW,A0 hi,containsS H.r,CM,O];cases f.G7 with
   |true=>simp[CG,Az]|false=>simp only[DE,FP,AY]
  ·intro n acc _
   try dsimp only
   rw[G4];simp
def NR(p:AI)(s:BA)(txn:Int)(f:AV)(to:Int):B3:=⟨txn,s.Ab,to,f.Am.filter λk=>Bl p k==s.Ab,M7 p s f⟩
def AKa(p:AI)(s:BA)(txn:Int)(f:AV):List B3:=cond (v31 p s f&&(CL p f).any λy=>y==s.Ab) ((DX p f).map (NR p s txn f)) []
theorem AIy{s:BA}(h:v31 p s f=true):v30 p f=true/\G5 s.BF=true:=by simpa[v31]using h
theorem AMa(hp:Qa p)(hv:Md p=true)(k:A9):Fm p k=some (Bl p k):=Sv hp.l hp.s (AAM hv)
theorem AI8(hp:Qa p)(H:FOk f){s:BA}(X:JG s.BF)(hl:s.BF.length<=1099511627776)(txn:Int):LV p s txn f=some (AKa p s txn f):=by
 unfold LV AKa;rw[AEo hp H X,QD hp H,AY];cases hv:v31 p s f with
 |false=>rfl|true=>
  have⟨K,aa⟩:=AIy hv;have⟨N,O⟩:=GL K;have ab:=(XZ O).1;have ad:=Qq (p:=p) (f:=f);have ae:=Kv (p:=p) (f:=f);simp only[BC,DE,FP,AY,Ck,Cw];rw[contains_eq (by simp only[JJ];omega),AY];cases((CL p f).any λy=>y==s.Ab)with
  |false=>rfl|true=>
   simp only[BC,AP,cond_true];rw[Zd hp H,AY,CM];refine AIL (l:=DX p f) ox (L:=λn a i=>HV (DX p f) p s f txn (λz=>some z) n a i) (J:=λz=>some z) (g:=NR p s txn f) ?_ ?_ (n:=(((DX p f).length:Nat):Int).toNat+1) ox
   ·intro n i acc hi Z
    try dsimp only
    rw[HV];simp only[show(i:Int)<((DX p f).length:Int) by omega,Ay,cond_true,show 0<=(i:Int) by omega,CA,DW,A0 hi,AG6 hp H X hl,AY,CM];have W:∀(J:List A9->AA (List B3)),GI f p s J (((f.Am.length:Nat):Int).toNat+1) [] 0=J (f.Am.filter λk=>Bl p k==s.Ab):=by
     intro J;refine S0 (l:=f.Am) H.r (L:=λn a i=>GI f p s J n a i) (J:=J) (p:=λk=>Bl p k==s.Ab) ?_ ?_ ox
     ·intro n k a hk ha
      try dsimp only
      rw[GI];have hb:(a++[f.Am[k]]).length*16<=140737488355328:=by simp;omega
      simp only[show(k:Int)<(f.Am.length:Int) by omega,Ay,cond_true,show 0<=(k:Int) by omega,CA,DW,A0 hk,AMa hp N,AY,CM,hb]
     ·intro n a _
      try dsimp only
      rw[GI];simp
    rw[W,A5 (by simp;omega)];rfl
   ·intro n acc _
    try dsimp only
    rw[HV];simp
def AJn(p:AI)(f:AV)(txn node:Int)(l:List B3):Bool:=v30 p f&&(CL p f).all λfr=>l.any λm=>((m.Is==txn)&&(m.BU==fr))&&(m.To==node)
theorem ACI(hp:Qa p)(y:FOk f){node:Int}{l:List B3}(hl:l.length<=1099511627776):KI p f txn node l=some (AJn p f txn node l):=by
 unfold KI AJn;rw[F4 hp.l hp.s,Nz y,QD hp y,AY];have z:=Kv (p:=p) (f:=f);cases hp:Md p with
 |false=>simp[CG,Az,v30,hp]|true=>
  cases y:Wt f with
  |false=>simp[CG,Az,v30,y]|true=>
   have hv:v30 p f=true:=by simp[v30,hp,y]
   simp only[BC,DE,FP,AY,Gi,AP,CM,hv,Cw];refine(UL (l:=CL p f) ox (L:=λn i=>Fc (CL p f) l txn node (some true) n i) (q:=λfr=> !(l.any λm=>((m.Is==txn)&&(m.BU==fr))&&(m.To==node))) (E:=some false) (J:=some true) (n:=(((CL p f).length:Nat):Int).toNat+1) ox ?_ ?_).trans ?_
   ·intro n i hi
    try dsimp only
    rw[Fc];simp only[show(i:Int)<((CL p f).length:Int) by omega,Ay,cond_true,show 0<=(i:Int) by omega,CA,DW,A0 hi];rw[S7 (l:=l) (g:=λH=>JE H txn (CL p f)[i] node) (q:=λm=>((m.Is==txn)&&(m.BU==(CL p f)[i]))&&(m.To==node)) ox (λx K=>Y),AY]
   ·intro n
    try dsimp only
    rw[Fc];simp
   ·grind
end
variable {ah:List AR} {aI:List Int}
section
variable {p:AI} {f:AV}
theorem UK(hv:v30 p f=true){x:Int}(h:x∈CL p f):x∈B9 p:=by
 have y:=(GL hv).1;unfold CL at h;rw[if_pos hv]at h;split at h
 ·exact h
 ·obtain⟨k,_,rfl⟩:=(Pc y).1 h;exact Nn y k
theorem O7(txn node:Int):∀(l out:List B3),(out++l.filter λm=>(m.Is==txn)&&(m.To==node)).Nodup->l.foldl (λout m=>cond (((m.Is==txn)&&(m.To==node))&& !(out.any λx=>O2 x m)) (out++[m]) out) out=out++l.filter λm=>(m.Is==txn)&&(m.To==node)
 |[],out,_=>by simp
 |m::l,out,h=>by
  rw[Lq];cases z:(m.Is==txn)&&(m.To==node)with
  |false=>
   rw[List.filter_cons_of_neg (by simpa using z)]at h⊢;rw[NN,AP];exact O7 txn node l out h
  |true=>
   rw[List.filter_cons_of_pos (by simpa using z)]at h⊢;have y:(out.any λx=>O2 x m)=false:=by
    rw[Ca];intro x H e;have e:=(AG3 x m).1 e;subst e;rw[R0]at h;exact h.2.2 x H x zp Y
   rw[y,GJ,FJ,cond_true,O7 txn node l (out++[m]) (by rw[CZ,Ik];exact h)];simp
def R5(f:AV)(state:List AR):List AR:=state.filter λx=>f.G7||f.Am.any λy=>y==x.Key
def P7(p:AI)(f:AV)(state:List AR)(AU:List Int):List AR:=(R5 f state).filter λx=>AU.any λy=>y==Bl p x.Key
theorem Pd(hv:v30 p f=true)(y:G5 ah=true)(nd:Int):M7 p (Sn p ah nd) f=(R5 f ah).filter λx=>Bl p x.Key==nd:=by
 unfold M7;rw[v31,hv,show G5 (Sn p ah nd).BF=true from HS y _,FJ,cond_true];simp only[Sn,R5,List.filter_filter]
 congr 1
 funext x
 rw[Bool.and_comm]
theorem Zh(hv:v30 p f=true){state:List AR}(H:G5 state=true){txn to:Int}:∀(l seen:List Int),(seen++l).Nodup->clP (seen.map λnd=>NR p (Sn p state nd) txn f to) (P7 p f state seen) (l.map λnd=>NR p (Sn p state nd) txn f to)=(P7 p f state (seen++l),0)
 |[],seen,_=>by simp[clP]
 |x::l,seen,h=>by
  rw[B8,clP];have N:x∉seen:=by
   intro N;rw[R0]at h;exact h.2.2 x N x zp Y
  have h1:((seen.map λnd=>NR p (Sn p state nd) txn f to).any λy=>y.BU==(NR p (Sn p state x) txn f to).BU)=false:=by
   rw[Ca];intro y O e;obtain⟨nd,W,rfl⟩:=List.mem_map.1 O;simp only[NR,Sn,B1]at e;exact N (by rw[<- e];exact W)
  have hw:G5 (R5 f state)=true:=HS H _;have ha:G5 (P7 p f state seen)=true:=HS hw _;have hb:G5 (M7 p (Sn p state x) f)=true:=by rw[Pd hv H];exact HS hw _
  have hk:S1 (R5 f state):=(Eg.1 hw).2;have⟨g1,g2⟩:=AAO (Eg.1 ha).2 (Eg.1 hb).2;have hd:(mg (P7 p f state seen) (M7 p (Sn p state x) f)).2=false:=by
   rw[g1,Ca];intro y O e;have⟨z,hz,e⟩:=Gg.1 e;rw[Pd hv H]at O;have⟨X,Z⟩:=BK.1 O;have⟨aa,K⟩:=BK.1 hz;have e:=XN hk aa X (by simpa using e);subst e;have K:=VH.1 (show(seen.any λy=>y==Bl p z.Key)=true from K);rw[show Bl p z.Key=x by simpa using Z]at K;exact N K
  have⟨g3,g4⟩:=g2 hd;have hu:MA (P7 p f state seen) (M7 p (Sn p state x) f)=(P7 p f state (seen++[x]),0):=by
   rw[MA,ha,hb,hd];show((mg _ _).1,(0:Int))=_
   congr 1
   refine UO g3 (Eg.1 (HS hw _)).2 λy=>?_;rw[g4,Pd hv H,P7,P7,BK,BK,BK,<- and_or_left];simp[eq_comm (a:=x)]
  rw[h1,AP,show(NR p (Sn p state x) txn f to).BF=M7 p (Sn p state x) f from rfl,hu];rw[show((P7 p f state (seen++[x]),(0:Int)).2 !=0)=false from rfl,AP];have:=Zh hv H (txn:=txn) (to:=to) l (seen++[x]) (by rw[CZ];exact h);rw[E0,CZ]at this;exact this
theorem AKr(hv:v30 p f=true)(state:List AR):P7 p f state (CL p f)=R5 f state:=by
 have z:=(GL hv).1;unfold P7;rw[AGI];intro x H;refine VH.2 ?_;have H:=(BK.1 H).2;rw[CL,if_pos hv];cases K:f.G7 with
 |true=>rw[if_pos Y];exact Nn z _|false=>
  rw[if_neg zp,Pc z];rw[K,Ck,Gg]at H;have⟨y,N,e⟩:=H;exact⟨y,by simp[N],by rw[eq_of_beq e]⟩
theorem AFk(hv:v30 p f=true)(H:G5 ah=true){to:Int}{l:List B3}(hl:(l.filter λm=>(m.Is==txn)&&(m.To==to))=aI.map λnd=>NR p (Sn p ah nd) txn f to)(O:aI.Nodup)(hm:∀x,x∈aI↔x∈CL p f):WO txn to l=(aI.map λnd=>NR p (Sn p ah nd) txn f to)/\(Xe (WO txn to l)).1=R5 f ah:=by
 have X:(aI.map λnd=>NR p (Sn p ah nd) txn f to).Nodup:=by
  rw[List.Nodup,FI];refine O.imp λ{a b}N e=>N ?_;simpa[NR,Sn]using B2 B3.BU e
 have W:WO txn to l=aI.map λnd=>NR p (Sn p ah nd) txn f to:=by
  unfold WO;rw[O7 txn to l [] (by rw[KA,hl];exact X),KA,hl]
 refine⟨W,?_⟩;have z:P7 p f ah aI=R5 f ah:=by
  rw[<- AKr hv ah];unfold P7
  congr 1
  funext x
  rw[ET];exact(VH (l:=aI)).trans ((hm _).trans VH.symm)
 rw[W,Xe];cases K:aI with
 |nil=>
  rw[K]at z;simp only[Ge,HI];rw[<- z];simp[P7]
 |cons a r=>
  rw[<- K];have h1:((((aI.map λnd=>NR p (Sn p ah nd) txn f to).length:Nat):Int)==0)=false:=by
   rw[Bh,Ap,K];simp;omega
  have h2:((aI.map λnd=>NR p (Sn p ah nd) txn f to).any λm=> !G5 m.BF)=false:=by
   rw[Ca];intro y Z e;obtain⟨nd,_,rfl⟩:=List.mem_map.1 Z;have:G5 (M7 p (Sn p ah nd) f)=true:=by rw[Pd hv H];exact HS (HS H _) _
   rw[show(NR p (Sn p ah nd) txn f to).BF=M7 p (Sn p ah nd) f from rfl,this]at e;simp at e
  rw[h1,h2,AP,AP];have:=Zh hv H (txn:=txn) (to:=to) aI [] (by simpa using O);rw[KA,z]at this;have e:P7 p f ah []=[]:=by simp[P7]
  rw[e]at this;rw[show clP [] [] (aI.map λnd=>NR p (Sn p ah nd) txn f to)=_ from this]
end
variable {t u:Nat}
section
open Go.ChangeShapes
structure PS(K V:Type)where
 C9:Int->Nat->Prop
 exec:Int->Nat->Prop
 val:Int->K->V
section
variable {K V:Type}
structure PD(K V:Type)where
 N:Nat
 part:Int->Nat->Prop
 exr:Int->Nat->Prop
 AFj:Int->Nat->Nat->Prop
 own:K->Int
 wr:Nat->K->Prop
 rd:Nat->K->Prop
 s:Nat->K->V
structure PD.Ok(D:PD K V):Prop where
 wp:∀t k,t<D.N->D.wr t k->D.part (D.own k) t/\D.exr (D.own k) t
 rp:∀t k,t<D.N->D.rd t k->D.part (D.own k) t
 c1:∀u t k,u<D.N->t<D.N->D.wr u k->D.wr t k\/D.rd t k->D.AFj (D.own k) u t
 c2:∀u t k,u<D.N->t<D.N->D.wr t k->D.wr u k\/D.rd u k->D.AFj (D.own k) u t
 st:∀t k,t<D.N->¬D.wr t k->D.s (t+1) k=D.s t k
def QB(D:PD K V)(σ:PS K V)(i:Int)(t:Nat):Prop:=(D.exr i t->σ.exec i t)/\(¬D.exr i t->σ.C9 i t)
structure Vb(D:PD K V)(σ:PS K V):Prop where
 lock:∀i u v,u<v->D.part i u->D.part i v->D.AFj i u v->σ.C9 i v->QB D σ i u
 es:∀i t,σ.exec i t->D.exr i t/\t<D.N/\(D.part i t->σ.C9 i t)
 sp:∀i t,σ.C9 i t->D.part i t/\t<D.N
 Oo:∀k m,m<=D.N->(∀u,u<m->D.wr u k->σ.exec (D.own k) u)->(∀u,m<=u->u<D.N->D.wr u k->¬σ.exec (D.own k) u)->σ.val (D.own k) k=D.s m k
def Qn(D:PD K V)(σ:PS K V)(i:Int)(t:Nat):Prop:=∀u,u<t->D.part i u->D.AFj i u t->QB D σ i u
variable {D:PD K V} {σ:PS K V}
theorem Vb.AAx(h:Vb D σ){i:Int}(hp:D.part i t)(y:QB D σ i t):σ.C9 i t:=by
 by_cases z:D.exr i t
 ·exact(h.es i t (y.1 z)).2.2 hp
 ·exact y.2 z
theorem Vb.read(h:Vb D σ)(z:D.Ok){k:K}(ht:t<D.N)(W:¬σ.C9 (D.own k) t)(hg:Qn D σ (D.own k) t)(y:D.wr t k\/D.rd t k):σ.val (D.own k) k=D.s t k:=by
 have hp:D.part (D.own k) t:=by
  rcases y with y|y
  ·exact(z.wp t k ht y).1
  ·exact z.rp t k ht y
 refine h.Oo k t ox (λu hu hw=>?_) (λu hu X hw he=>?_)
 ·have:=z.wp u k ox hw;exact(hg u hu this.1 (z.c1 u t k ox ht hw y)).1 this.2
 ·have H:=z.wp u k X hw;have Z:=(h.es _ u he).2.2 H.1;rcases A7 t u with O|aa
  ·exact W (h.AAx hp (h.lock _ t u O hp H.1 (z.c2 t u k ht X hw y) Z))
  ·obtain rfl:u=t:=ox
   exact W Z
def PS.send(σ:PS K V)(i:Int)(t:Nat):PS K V:={σ with C9:=λj u=>σ.C9 j u\/(j=i/\u=t)}
theorem YJ{i j:Int}(h:QB D σ j u):QB D (σ.send i t) j u:=⟨h.1,λy=>.inl (h.2 y)⟩
theorem Vb.send(h:Vb D σ){i:Int}(ht:t<D.N)(hp:D.part i t)(K:Qn D σ i t):Vb D (σ.send i t):=by
 refine⟨λj u v z hu hv H y=>?_,λj u he=>?_,λj u y=>?_,h.Oo⟩
 ·rcases y with y|⟨rfl,rfl⟩
  ·exact YJ (h.lock j u v z hu hv H y)
  ·exact YJ (K u z hu H)
 ·have⟨a,b,c⟩:=h.es j u he;exact⟨a,b,λhp=>.inl (c hp)⟩
 ·rcases y with y|⟨rfl,rfl⟩
  ·exact h.sp j u y
  ·exact⟨hp,ht⟩
open Classical in
noncomputable def PS.run (σ:PS K V) (D:PD K V) (i:Int) (t:Nat):PS K V:={σ with
 exec:=λj u=>σ.exec j u\/(j=i/\u=t)
 val:=λj k=>if j=i/\D.wr t k/\D.own k=i then D.s (t+1) k else σ.val j k}
theorem AH2(z:D.Ok){k:K}{a:Nat}:∀{b:Nat},a<=b->b<=D.N->(∀u,a<=u->u<b->¬D.wr u k)->D.s b k=D.s a k:=by
 intro b
 induction b with
 |zero=>
  intro h _ _;obtain rfl:a=0:=ox
  rfl
 |succ b H=>
  intro h O hw;by_cases y:a=b+1
  ·subst y;rfl
  ·rw[z.st b k ox (hw b ox ox),H ox ox (λu h1 h2=>hw u h1 ox)]
open Classical in
theorem Vb.run(h:Vb D σ)(O:D.Ok){i:Int}(ht:t<D.N)(W:D.exr i t)(hn:¬σ.exec i t)(hs:D.part i t->σ.C9 i t):Vb D (σ.run D i t):=by
 have H:∀j u,QB D σ j u->QB D (σ.run D i t) j u:=λj u hr=>⟨λW=>.inl (hr.1 W),hr.2⟩;refine⟨λj u v X hu hv K Z=>H j u (h.lock j u v X hu hv K Z),λj u he=>?_,h.sp,λk m hm h1 h2=>?_⟩
 ·rcases he with he|⟨rfl,rfl⟩
  ·exact h.es j u he
  ·exact⟨W,ht,hs⟩
 ·show(if D.own k=i/\D.wr t k/\D.own k=i then D.s (t+1) k else σ.val (D.own k) k)=D.s m k;split
  ·rename_i K;obtain⟨rfl,hw,_⟩:=K;have hp:=(O.wp t k ht hw).1;have ae:t<m:=by
    refine Nat.lt_of_not_le λaa=>?_;exact h2 t aa ht hw (.inr ⟨Y,Y⟩)
   refine(AH2 O (a:=t+1) ox hm (λu af ab y=>?_)).symm;have z:=O.wp u k ox y;rcases h1 u ab y with he|⟨_,rfl⟩
   ·have ad:=(h.es _ u he).2.2 z.1;exact hn ((h.lock _ t u ox hp z.1 (O.c1 t u k ht ox hw (.inl y)) ad).1 W)
   ·omega
  ·rename_i K;by_cases hi:D.own k=i
   ·have hw:¬D.wr t k:=λhw=>K ⟨hi,hw,hi⟩;refine h.Oo k m hm (λu hu y=>?_) (λu hu hN y he=>h2 u hu hN y (.inl he));rcases h1 u hu y with he|⟨_,rfl⟩
    ·exact he
    ·exact absurd y hw
   ·refine h.Oo k m hm (λu hu y=>?_) (λu hu hN y he=>h2 u hu hN y (.inl he));rcases h1 u hu y with he|⟨he,_⟩
    ·exact he
    ·exact absurd he hi
theorem Vb.ACF(h:Vb D σ){i:Int}(y:∀u,u<t->∀i,(D.part i u->σ.C9 i u)/\(D.exr i u->σ.exec i u)):Qn D σ i t:=
 λu hu hp _=>⟨(y u hu i).2,λ_=>(y u hu i).1 hp⟩
end
end
variable {aD:List A9}
section
open Go.ChangeShapes
variable {p:AI} {f:AV}
theorem AEz(y:aD.length<=1000)(q:A9->Bool):∀i,i<=aD.length->((aD.take i).filter q).length<=1000:=λi hi=>by
 have:=C3 q (aD.take i);have h2:(aD.take i).length<=aD.length:=by simp;omega
 omega
theorem ZL(hp:Qa p)(hv:Md p=true)(z:aD.length<=1000)(x:Int):Ld p aD x=some (aD.filter λk=>Bl p k==x):=by
 unfold Ld;simp only[CM];refine(AIK (len:=aD.length) ox (L:=λn s i=>Io aD p x (λy=>some y) n s i) (S:=λi=>(aD.take i).filter λk=>Bl p k==x) (J:=λy=>some y) ?_ ?_ _ 0 ox ox).trans ?_
 ·intro n i hi;have hlen:=AEz z (λk=>Bl p k==x) i ox
  try dsimp only
  rw[Io];simp only[show(i:Int)<(aD.length:Int) by omega,Ay,cond_true,show 0<=(i:Int) by omega,CA,DW,Sv hp.l hp.s (AAM hv),AY,CM,AT,Bz,HI,show(((aD.take i).filter λk=>Bl p k==x).length+(0+1))*16<=140737488355328 by omega];have e:(aD.take (i+1)).filter (λk=>Bl p k==x)=(aD.take i).filter (λk=>Bl p k==x)++[AN aD (i:Int)].filter (λk=>Bl p k==x):=by
   rw[List.take_add_one,List.getElem?_eq_getElem hi,A0 hi,K5];rfl
  rw[e];cases H:(Bl p (AN aD (i:Int))==x)<;>simp[H]
 ·intro n
  try dsimp only
  rw[Io];simp
 ·simp
theorem AE3(hp:Qa p)(y:FOk f)(x:Int):LQ p f x=some (KN p f x):=by
 have z:∀n:Nat,n<=17->n<JJ:=λn h=>by have e:JJ=9223372036854775808:=Y;omega
 unfold LQ;rw[QA hp y,AY,KN];cases hv:v30 p f with
 |false=>rfl|true=>
  have⟨h1,h2⟩:=GL hv;have hl:=XZ h2;simp only[BC,AP,IW];cases H:f.G7 with
  |true=>rw[cond_true,Qj hp.l hp.s,UI,AY,contains_eq (z _ (Kz p)),AY];rfl|false=>rw[AP,ZL hp h1 ox,ZL hp h1 ox];rfl
theorem AJE(hv:v30 p f=true)(x:Int):Wt (KN p f x)=true:=by
 have⟨h1,h2⟩:=GL hv;unfold KN;rw[if_pos hv];cases y:f.G7 with
 |true=>rw[if_pos Y];unfold Wt;split<;>simp<;>rfl|false=>
  rw[if_neg zp];unfold Wt at h2⊢;rw[y]at h2;simp only[GK,if_false,Aq,AZ]at h2⊢;exact⟨⟨⟨Cf (C3 _ _) h2.1.1.1,Cf (C3 _ _) h2.1.1.2⟩,ABR h2.1.2 _⟩,ABR h2.2 _⟩
structure Rd where
 ps:List Ce
 p:AI
 s0:List AR
 Al:List L8
 L:Nat
 st:Nat->List AR
 ef:Nat->Bb
def ftX(f:AV):AV:=cond (!Wt f) ⟨false,[],[]⟩ f
theorem AOV(f:AV):Wt (ftX f)=true:=by
 unfold ftX;cases h:Wt f
 ·rfl
 ·exact h
def Rd.ft(r:Rd)(t:Nat):AV:=ftX (r.Al[t]?.getD default).HK
structure Rd.Ok(r:Rd):Prop where
 hp:Qa r.p
 hv:Md r.p=true
 ps:AHg r.ps
 tx:∀t∈r.Al,ALw t
 n:r.Al.length<=1048575
 hl:r.L+16384*r.Al.length<=HL
 hl2:36*(r.L+16384*r.Al.length)<1099511627776
 run:AOv r.ps r.Al r.s0 r.L r.st r.ef
def Rd.D(r:Rd):PD A9 Ah where
 N:=r.Al.length
 part i t:=t<r.Al.length/\i∈CL r.p (r.ft t)
 exr i t:=t<r.Al.length/\i∈DX r.p (r.ft t)
 AFj i u t:=AHp (KN r.p (r.ft u) i) (KN r.p (r.ft t) i)
 own k:=Bl r.p k
 wr t k:=(r.ef t).Ad.DY=1/\∃x∈(r.ef t).AX,x.Key=k
 rd t k:=(r.ft t).G7=true\/k∈(r.ft t).Am
 s t k:=Ii (r.st t) k
variable {r:Rd}
theorem Rd.Ok.v(h:r.Ok)(t:Nat):v30 r.p (r.ft t)=true:=by
 unfold v30;rw[h.hv,Rd.ft,AOV];rfl
theorem Rd.Ok.ftv(h:r.Ok)(ht:t<r.Al.length)(y:Wt r.Al[t].HK=true):r.ft t=r.Al[t].HK:=by
 unfold Rd.ft ftX;rw[List.getElem?_eq_getElem ht,Kp,y];rfl
theorem Rd.Ok.wr(h:r.Ok){k:A9}(ht:t<r.Al.length)(hw:r.D.wr t k):(r.ft t).G7=true\/k∈(r.ft t).AX:=by
 obtain⟨h1,x,y,rfl⟩:=hw;have he:=h.run.ok t ht h1;rw[h.ftv ht he.fv];cases z:r.Al[t].HK.G7 with
 |true=>exact .inl Y|false=>exact .inr (he.keys x y z)
theorem AC3(hv:v30 p f=true)(k:A9)(h:f.G7=true\/k∈f.Am\/k∈f.AX):Bl p k∈CL p f:=by
 have y:=(GL hv).1;unfold CL;rw[if_pos hv];split
 ·exact Nn y k
 ·rename_i z;exact(Pc y).2 ⟨k,by simpa using h.resolve_left z,Y⟩
theorem AK7(hv:v30 p f=true)(k:A9)(h:f.G7=true\/k∈f.AX):Bl p k∈DX p f:=by
 have y:=(GL hv).1;have z:Bl p k∈KS p f:=by
  unfold KS;rw[if_pos hv];split
  ·exact Nn y k
  ·rename_i H;exact(Pc y).2 ⟨k,h.resolve_left H,Y⟩
 unfold DX;rw[if_pos hv,if_pos (KZ z)];exact z
theorem AIa(hv:v30 p f=true){g:AV}(N:v30 p g=true){k:A9}(h1:f.G7=true\/k∈f.AX)(h2:(g.G7=true\/k∈g.AX)\/g.G7=true\/k∈g.Am):AHp (KN p f (Bl p k)) (KN p g (Bl p k))/\AHp (KN p g (Bl p k)) (KN p f (Bl p k)):=by
 have O:=(GL hv).1;have X:((B9 p).any λy=>y==Bl p k)=true:=VH.2 (Nn O k);have z:∀{f:AV},v30 p f=true->f.G7=true->(KN p f (Bl p k)).G7=true:=λhv H=>by
  unfold KN;rw[if_pos hv,if_pos H];exact X
 have W:∀{f:AV},v30 p f=true->f.G7=false->(k∈f.AX->k∈(KN p f (Bl p k)).AX)/\(k∈f.Am->k∈(KN p f (Bl p k)).Am):=λhv H=>by
  unfold KN;rw[if_pos hv,H,if_neg zp];exact⟨λh=>BK.2 ⟨h,by simp⟩,λh=>BK.2 ⟨h,by simp⟩⟩
 cases H:f.G7 with
 |true=>exact⟨.inl (z hv H),.inr (.inl (z hv H))⟩|false=>
  cases hB:g.G7 with
  |true=>exact⟨.inr (.inl (z N hB)),.inl (z N hB)⟩|false=>
   rw[H]at h1;rw[hB]at h2;have h1:k∈f.AX:=h1.resolve_left zp;have w:=(W hv H).1 h1;rcases h2 with h2|h2
   ·have K:=(W N hB).1 (h2.resolve_left zp);exact⟨.inr (.inr ⟨k,.inl ⟨w,.inl K⟩⟩),.inr (.inr ⟨k,.inl ⟨K,.inl w⟩⟩)⟩
   ·have K:=(W N hB).2 (h2.resolve_left zp);exact⟨.inr (.inr ⟨k,.inl ⟨w,.inr K⟩⟩),.inr (.inr ⟨k,.inr ⟨K,w⟩⟩)⟩
theorem Rd.Ok.d(h:r.Ok):r.D.Ok where
 wp t k ht hw:=⟨⟨ht,AC3 (h.v t) k ((h.wr ht hw).imp id .inr)⟩,ht,AK7 (h.v t) k (h.wr ht hw)⟩
 rp t k ht hr:=⟨ht,AC3 (h.v t) k (hr.imp id .inl)⟩
 c1 u t k hu ht hw hk:=(AIa (h.v u) (h.v t) (h.wr hu hw) (hk.imp (h.wr ht) id)).1
 c2 u t k hu ht hw hk:=(AIa (h.v t) (h.v u) (h.wr ht hw) (hk.imp (h.wr hu) id)).2
 st t k ht hw:=by
  show Ii (r.st (t+1)) k=Ii (r.st t) k;rw[h.run.nx t ht];unfold apl;split
  ·rename_i h1;rw[AHZ (h.run.sv t (Ve ht)).Rq (h.run.ok t ht h1).srt,if_neg λhe=>hw ⟨h1,he⟩]
  ·rfl
end
variable {σ:PS A9 Ah} {H:Bu} {y:Nat} {Z aK bx:Int}
section
open Go.ChangeShapes
def Rd.ml(r:Rd)(t:Nat)(fr to:Int):B3:=NR r.p (Sn r.p (r.st t) fr) (t:Int) (r.ft t) to
abbrev XT(nd:Bu)(t:Nat):Prop:=nd.C9[t]? =some true
abbrev WV(nd:Bu)(t:Nat):Prop:=nd.exec[t]? =some true
def sig(AU:List Bu):PS A9 Ah where
 C9 i t:=∃nd∈AU,nd.Ac.Ab=i/\XT nd t
 exec i t:=∃nd∈AU,nd.Ac.Ab=i/\WV nd t
 val i k:=match AU.find? λnd=>nd.Ac.Ab==i with
  |some nd=>Ii nd.Ac.BF k|none=>⟨0,0,[]⟩
open Classical in
noncomputable def Rd.WA (r:Rd) (σ:PS A9 Ah) (i:Int):List (Int×AV):=
 ((List.range r.Al.length).filter λt=>decide (r.D.part i t/\¬QB r.D σ i t)).map λt:Nat=>((t:Int),KN r.p (r.ft t) i)
structure NI(r:Rd)(σ:PS A9 Ah)(nd:Bu):Prop where
 sl:nd.C9.length=r.Al.length
 xl:nd.exec.length=r.Al.length
 AGf:Vx (r.L+16384*nd.exec.count true) nd.Ac.BF
 own:∀x∈nd.Ac.BF,Bl r.p x.Key=nd.Ac.Ab
 tab:Q4 (r.WA σ nd.Ac.Ab) nd.table
 inb:∀m∈nd.C5,∃t fr,t<r.Al.length/\fr∈CL r.p (r.ft t)/\nd.Ac.Ab∈DX r.p (r.ft t)/\σ.C9 fr t/\m=r.ml t fr nd.Ac.Ab
 inn:nd.C5.Nodup
theorem NI.Rq{r:Rd}(h:NI r σ H):Vx (r.L+16384*r.Al.length) H.Ac.BF:=
 h.AGf.mono (Nat.add_le_add_left (Nat.mul_le_mul_left _ (h.xl▸AEZ)) _)
structure QI(r:Rd)(s:JL):Prop where
 ps:s.Fl=r.ps
 p:s.p=r.p
 tx:s.Al=r.Al
 fo:s.Oq=(List.range r.Al.length).map r.ft
 pa:s.parts=(List.range r.Al.length).map λt=>CL r.p (r.ft t)
 ex:s.Xa=(List.range r.Al.length).map λt=>DX r.p (r.ft t)
 ids:s.AU.map (λnd=>nd.Ac.Ab)=B9 r.p
 ni:∀nd∈s.AU,NI r (sig s.AU) nd
 AE5:Vb r.D (sig s.AU)
 tr:∀m∈s.A6,∃t fr to,t<r.Al.length/\fr∈CL r.p (r.ft t)/\to∈DX r.p (r.ft t)/\(sig s.AU).C9 fr t/\m=r.ml t fr to
 trn:s.A6.Nodup
 dis:∀m∈s.A6,∀nd∈s.AU,m∉nd.C5
 all:∀t fr to,t<r.Al.length->fr∈CL r.p (r.ft t)->to∈DX r.p (r.ft t)->(sig s.AU).C9 fr t->r.ml t fr to∈s.A6\/∃nd∈s.AU,nd.Ac.Ab=to/\r.ml t fr to∈nd.C5
 efl:s.DP.length=r.Al.length
 ef:∀t,t<r.Al.length->∀i,(DX r.p (r.ft t))[0]? =some i->(sig s.AU).exec i t->s.DP[t]? =some (r.ef t)
variable {r:Rd} {s:JL}
theorem ADv{to:Int}(h:r.ml t Z to=r.ml y aK bx):t=y/\Z=aK/\to=bx:=by
 have h1:=B2 B3.Is h;have h2:=B2 B3.BU h;have h3:=B2 B3.To h;simp only[Rd.ml,NR,Sn]at h1 h2 h3;exact⟨by omega,h2,h3⟩
theorem QI.nodup(h:QI r s):(s.AU.map λnd=>nd.Ac.Ab).Nodup:=by
 rw[h.ids,B9];split
 ·exact(SC _ _).imp λ{a b}y e=>by omega
 ·exact List.Pairwise.nil
theorem QI.uniq(h:QI r s){a b:Bu}(z:a∈s.AU)(H:b∈s.AU)(e:a.Ac.Ab=b.Ac.Ab):a=b:=by
 obtain⟨i,hi,rfl⟩:=BL z;obtain⟨j,y,rfl⟩:=BL H;have hp:=FI.1 h.nodup;rcases H0 i j with h1|h1|h1
 ·exact absurd e (A3.1 hp i j hi y h1)
 ·subst h1;rfl
 ·exact absurd e.symm (A3.1 hp j i y hi h1)
theorem QI.C9(h:QI r s)(z:H∈s.AU):(sig s.AU).C9 H.Ac.Ab t↔XT H t:=
 ⟨λ⟨a,K,e,y⟩=>h.uniq K z e▸y,λy=>⟨H,z,Y,y⟩⟩
theorem QI.exec(h:QI r s)(z:H∈s.AU):(sig s.AU).exec H.Ac.Ab t↔WV H t:=
 ⟨λ⟨a,K,e,y⟩=>h.uniq K z e▸y,λy=>⟨H,z,Y,y⟩⟩
theorem QI.val(h:QI r s)(z:H∈s.AU)(k:A9):(sig s.AU).val H.Ac.Ab k=Ii H.Ac.BF k:=by
 show(match s.AU.find? λx=>x.Ac.Ab==H.Ac.Ab with|some H=>Ii H.Ac.BF k|none=>⟨0,0,[]⟩)=_;cases y:s.AU.find? λx=>x.Ac.Ab==H.Ac.Ab with
 |none=>exact absurd (Q8.1 y H z) zp|some a=>rw[h.uniq (IX y) z (by simpa using Uu y)]
theorem QI.node(h:QI r s){i:Int}(hi:i∈B9 r.p):∃nd∈s.AU,nd.Ac.Ab=i:=by
 rw[<- h.ids]at hi;exact List.mem_map.1 hi
theorem AAG{q:Nat->List Int}(z:∀t,(q t).length<=17){node:Int}(ht:t<y):Jn ((List.range y).map q) node (t:Int)=some (decide (node∈q t)):=by
 unfold Jn;rw[A5 (by rw[Ap,DC];omega),A0 (by simpa using ht),AAB,AHk];have hl:=z t;rw[contains_eq (by unfold JJ;omega)]
 congr 1
 rw[ET];simp
theorem atB{l:List Bool}(h:t<l.length):AN l (t:Int)=true↔l[t]? =some true:=by
 rw[A0 h,List.getElem?_eq_getElem h];simp
end
section
open Go.ChangeShapes
open Classical in
theorem ADs{α:Type}:∀{a b:List α},a.Nodup->(∀x∈a,x∈b)->a.length<=b.length
 |[],b,_,_=>By _|x::a,b,N,z=>by
  have⟨h1,h2⟩:=Qb.1 N;have H:x∈b:=z x zp;have:=ADs (b:=b.erase x) h2 λy K=>(List.mem_erase_of_ne (λe:y=x=>h1 (by rw[<- e];exact K))).2 (z y (by simp[K]));rw[List.length_erase_of_mem H]at this;have:=KZ H;simp only[Bz];omega
theorem AAU{α β:Type}{g:α->List β}{m:Nat}:∀{l:List α},(∀x∈l,(g x).length<=m)->(l.flatMap g).length<=l.length*m
 |[],_=>by simp
 |x::l,h=>by
  have:=AAU (g:=g) (m:=m) (l:=l) λy z=>h y (by simp[z]);have:=h x zp;rw[List.flatMap_cons,AT,Bz,Vc];omega
variable {r:Rd} {s:JL}
theorem QI.trl(h:QI r s):s.A6.length<=r.Al.length*289:=by
 have:=ADs h.trn (b:=(List.range r.Al.length).flatMap λt=>(CL r.p (r.ft t)).flatMap λfr=>(DX r.p (r.ft t)).map λto=>r.ml t fr to) λm hm=>by
  obtain⟨t,fr,to,h1,h2,h3,_,rfl⟩:=h.tr m hm;exact List.mem_flatMap.2 ⟨t,Dz.2 h1,List.mem_flatMap.2 ⟨fr,h2,List.mem_map.2 ⟨to,h3,Y⟩⟩⟩
 refine Cf this (Cf (AAU (m:=289) λt _=>?_) (by rw[DC];omega));have h1:=Kv (p:=r.p) (f:=r.ft t);refine Cf (AAU (m:=17) λfr _=>by rw[Ap];exact Qq) ox
theorem NI.inl(h:NI r σ H):H.C5.length<=r.Al.length*17:=by
 have:=ADs h.inn (b:=(List.range r.Al.length).flatMap λt=>(CL r.p (r.ft t)).map λfr=>r.ml t fr H.Ac.Ab) λm hm=>by
  obtain⟨t,fr,h1,h2,_,_,rfl⟩:=h.inb m hm;exact List.mem_flatMap.2 ⟨t,Dz.2 h1,List.mem_map.2 ⟨fr,h2,Y⟩⟩
 exact Cf this (Cf (AAU (m:=17) λt _=>by rw[Ap];exact Kv) (by rw[DC];exact Nat.le_refl _))
def P1(r:Rd)(s:JL)(nd:Bu)(t:Nat):Prop:=t<r.Al.length/\nd.Ac.Ab∈CL r.p (r.ft t)/\¬XT nd t/\Qn r.D (sig s.AU) nd.Ac.Ab t
def RE(r:Rd)(nd:Bu)(t:Nat):Prop:=t<r.Al.length/\nd.Ac.Ab∈DX r.p (r.ft t)/\¬WV nd t/\AJn r.p (r.ft t) (t:Int) nd.Ac.Ab nd.C5=true
open Classical in
theorem AD6(h:QI r s)(z:H∈s.AU)(ht:t<r.Al.length)(hp:H.Ac.Ab∈CL r.p (r.ft t))(y:¬QB r.D (sig s.AU) H.Ac.Ab t):((t:Int),KN r.p (r.ft t) H.Ac.Ab)∈r.WA (sig s.AU) H.Ac.Ab:=
 List.mem_map.2 ⟨t,BK.2 ⟨Dz.2 ht,Bw ⟨⟨ht,hp⟩,y⟩⟩,Y⟩
open Classical in
theorem ADh(h:QI r s)(O:H∈s.AU)(ht:t<r.Al.length)(hp:H.Ac.Ab∈CL r.p (r.ft t))(Z:¬XT H t):Tt (IB H.table (t:Int)) λg=>g=true↔Qn r.D (sig s.AU) H.Ac.Ab t:=by
 have K:¬QB r.D (sig s.AU) H.Ac.Ab t:=λhr=>Z ((h.C9 O).1 (h.AE5.AAx ⟨ht,hp⟩ hr));refine(AJZ (h.ni H O).tab (AD6 h O ht hp K)).mono λg hg=>hg.trans ⟨λW u hu N z=>?_,λW x hx X z=>?_⟩
 ·rcases Classical.em (QB r.D (sig s.AU) H.Ac.Ab u)with h1|h1
  ·exact h1
  ·exact absurd z (W _ (AD6 h O N.1 N.2 h1) (by show(u:Int)<(t:Int);omega))
 ·obtain⟨u,hu,rfl⟩:=List.mem_map.1 hx;have⟨aa,y⟩:=BK.1 hu;have y:=of_decide_eq_true y;exact y.2 (W u (by have:(u:Int)<(t:Int):=X;omega) y.1 z)
theorem Ue(Z:r.Ok)(h:QI r s){nd:Bu}(W:nd∈s.AU)(j:Int):∀(n t:Nat)(out:List Mk),t<=r.Al.length->r.Al.length-t<n->out.length+(r.Al.length-t)<=1099511627776->Tt (Ib s nd j n out (t:Int)) λo=>∃new,o=out++new/\new.length<=r.Al.length-t/\(∀a∈new,a.k=60/\a.a=j/\∃u:Nat,a.b=(u:Int)/\P1 r s nd u)/\(new=[]->∀u,t<=u->¬P1 r s nd u)
 |0,t,out,_,hx,_=>by omega
 |n+1,t,out,ht,hx,hb=>by
  have hN:=Z.n;have hI:=h.ni nd W;unfold Ib;rw[h.tx];refine Tt.cond (λh1=>?_) λh1=>Tt.mk ⟨[],by simp,by simp,by simp,λ_ u hu K=>?_⟩
  ·simp only[AZ]at h1;have z:t<r.Al.length:=ox
   have aa:=hI.sl;rw[h.pa];refine Tt.eq (AAG (q:=λt=>CL r.p (r.ft t)) (λ_=>Kv) z) (Tt.Ba (λ_=>⟨by omega,by omega⟩) ?_);rw[BB ox];by_cases hp:nd.Ac.Ab∈CL r.p (r.ft t)
   ·simp only[hp,Ay,DE,cond_true,Cw];by_cases K:XT nd t
    ·rw[(atB ox).2 K];simp only[BC,show(false==true)=false by rfl,VC,AY,NN,AP];refine(Ue Z h W j n (t+1) out z ox ox).mono λo ⟨new,N,e2,O,X⟩=>⟨new,N,by omega,O,λe u hu y=>?_⟩;rcases A7 t u with H|H
     ·exact X e u H y
     ·have:u=t:=ox
      subst this;exact y.2.2.1 K
    ·have hf:AN nd.C9 (t:Int)=false:=by
      cases hb:AN nd.C9 (t:Int)with
      |false=>rfl|true=>exact absurd ((atB ox).1 hb) K
     rw[hf];simp only[GJ,DE,FP,Cw];refine Tt.Az (ADh h W z hp K) λg hg=>Tt.cond (λh2=>Tt.Ba (by simp only[AT,BO];omega) ?_) λh2=>?_
     ·refine(Ue Z h W j n (t+1) _ z ox (by simp only[AT,BO];omega)).mono λo ⟨new,N,e2,O,X⟩=>⟨⟨60,j,(t:Int)⟩::new,by rw[N];simp,by simp only[Bz];omega,λa ha=>?_,λe=>by simp at e⟩;rcases Aj.1 ha with rfl|ha
      ·exact⟨Y,Y,t,Y,z,hp,K,hg.1 h2⟩
      ·exact O a ha
     ·refine(Ue Z h W j n (t+1) out z ox ox).mono λo ⟨new,N,e2,O,X⟩=>⟨new,N,by omega,O,λe u hu y=>?_⟩;rcases A7 t u with H|H
      ·exact X e u H y
      ·have:u=t:=ox
       subst this;rw[hg.2 y.2.2.2]at h2;cases h2
   ·simp only[hp,Dp,show(false==true)=false by rfl,AP,NN,VC,AY];refine(Ue Z h W j n (t+1) out z ox ox).mono λo ⟨new,N,e2,O,X⟩=>⟨new,N,by omega,O,λe u hu y=>?_⟩;rcases A7 t u with H|H
    ·exact X e u H y
    ·have:u=t:=ox
     subst this;exact hp y.2.1
  ·simp only[Ai]at h1;have:=K.1;omega
end
section
open Go.ChangeShapes
variable {r:Rd} {s:JL}
theorem Ud(H:r.Ok)(h:QI r s){nd:Bu}(X:nd∈s.AU)(j:Int):∀(n t:Nat)(out:List Mk),t<=r.Al.length->r.Al.length-t<n->out.length+(r.Al.length-t)<=1099511627776->Tt (Ia s nd j n out (t:Int)) λo=>∃new,o=out++new/\new.length<=r.Al.length-t/\(∀a∈new,a.k=64/\a.a=j/\∃u:Nat,a.b=(u:Int)/\RE r nd u)/\(new=[]->∀u,t<=u->¬RE r nd u)
 |0,t,out,_,hx,_=>by omega
 |n+1,t,out,ht,hx,hb=>by
  have hN:=H.n;have hI:=h.ni nd X;unfold Ia;rw[h.tx];refine Tt.cond (λh1=>?_) λh1=>Tt.mk ⟨[],by simp,by simp,by simp,λ_ u hu O=>?_⟩
  ·simp only[AZ]at h1;have y:t<r.Al.length:=ox
   have ab:=hI.xl;have ad:s.Oq.length=r.Al.length:=by rw[h.fo,Ap,DC]
   have aa:AN s.Oq (t:Int)=r.ft t:=by rw[A0 ox];simp[h.fo]
   have ae:=hI.inl;rw[h.ex,aa,h.p];refine Tt.eq (AAG (q:=λt=>DX r.p (r.ft t)) (λ_=>Qq) y) (Tt.Ba (λ_=>⟨by omega,by omega⟩) (Tt.Ba (λ_=>⟨by omega,by omega⟩) ?_));rw[BB ox];by_cases hp:nd.Ac.Ab∈DX r.p (r.ft t)
   ·simp only[hp,Ay,DE,cond_true,Cw];by_cases O:WV nd t
    ·rw[(atB ox).2 O];simp only[BC,show(false==true)=false by rfl,VC,AY,NN,AP];refine(Ud H h X j n (t+1) out y ox ox).mono λo ⟨new,K,e2,N,Z⟩=>⟨new,K,by omega,N,λe u hu z=>?_⟩;rcases A7 t u with W|W
     ·grind
     ·have:u=t:=ox
      subst this;exact z.2.2.1 O
    ·have hf:AN nd.exec (t:Int)=false:=by
      cases hb:AN nd.exec (t:Int)with
      |false=>rfl|true=>exact absurd ((atB ox).1 hb) O
     rw[hf];simp only[GJ,DE,FP,Cw,cond_true];refine Tt.eq (ACI H.hp (AIR (GL (H.v t)).2) ox) (Tt.cond (λh2=>Tt.Ba (by simp only[AT,BO];omega) ?_) λh2=>?_)
     ·refine(Ud H h X j n (t+1) _ y ox (by simp only[AT,BO];omega)).mono λo ⟨new,K,e2,N,Z⟩=>⟨⟨64,j,(t:Int)⟩::new,by rw[K];simp,by simp only[Bz];omega,λa ha=>?_,λe=>by simp at e⟩;rcases Aj.1 ha with rfl|ha
      ·exact⟨Y,Y,t,Y,y,hp,O,h2⟩
      ·exact N a ha
     ·refine(Ud H h X j n (t+1) out y ox ox).mono λo ⟨new,K,e2,N,Z⟩=>⟨new,K,by omega,N,λe u hu z=>?_⟩;rcases A7 t u with W|W
      ·exact Z e u W z
      ·have:u=t:=ox
       subst this;rw[z.2.2.2]at h2;cases h2
   ·simp only[hp,Dp,show(false==true)=false by rfl,AP,NN,VC,AY];refine(Ud H h X j n (t+1) out y ox ox).mono λo ⟨new,K,e2,N,Z⟩=>⟨new,K,by omega,N,λe u hu z=>?_⟩;rcases A7 t u with W|W
    ·grind
    ·have:u=t:=ox
     subst this;exact hp z.2.1
  ·simp only[Ai]at h1;have:=O.1;omega
theorem QI.nl(h:QI r s):s.AU.length<=17:=by
 have:=B2 List.length h.ids;rw[Ap]at this;rw[this];exact Kz r.p
theorem AIm(K:r.Ok)(h:QI r s):∀(n j:Nat)(out:List Mk),j<=s.AU.length->s.AU.length-j<n->out.length+(s.AU.length-j)*r.Al.length<=1099511627776->Tt (LD s n out (j:Int)) λo=>∃new,o=out++new/\new.length<=(s.AU.length-j)*r.Al.length/\(∀a∈new,a.k=60/\∃i u:Nat,∃hi:i<s.AU.length,a.a=(i:Int)/\a.b=(u:Int)/\P1 r s s.AU[i] u)/\(new=[]->∀i(hi:i<s.AU.length),j<=i->∀u,¬P1 r s s.AU[i] u)
 |0,j,out,_,O,_=>by omega
 |n+1,j,out,hj,O,hb=>by
  have hN:=K.n;have hl:=h.nl;unfold LD;refine Tt.cond (λh1=>?_) λh1=>Tt.mk ⟨[],by simp,by simp,by simp,λ_ i hi N=>?_⟩
  ·simp only[AZ]at h1;have y:j<s.AU.length:=ox
   have hm:(s.AU.length-j)*r.Al.length=(s.AU.length-(j+1))*r.Al.length+r.Al.length:=by
    rw[show s.AU.length-j=(s.AU.length-(j+1))+1 by omega,Vc]
   rw[A0 y,h.tx,show(((r.Al.length:Nat):Int).toNat+1)=r.Al.length+1 by omega,BB ox];refine Tt.Ba ⟨by omega,h1⟩ (Tt.Az (Ue K h (AW y) (j:Int) (r.Al.length+1) 0 out ox ox ox) λo ⟨new,W,e2,e3,e4⟩=>?_);subst W;refine(AIm K h n (j+1) (out++new) y ox (by rw[AT];omega)).mono λo' ⟨z,f1,f2,X,f4⟩=>⟨new++z,by rw[f1,CZ],by rw[AT];omega,λa H=>?_,λe i hi N=>?_⟩
   ·rcases BW.1 H with H|H
    ·grind
    ·exact X a H
   ·have⟨a1,a2⟩:=ABo.1 e;rcases A7 j i with Z|Z
    ·grind
    ·grind
  ·grind
theorem AIk(K:r.Ok)(h:QI r s):∀(n j:Nat)(out:List Mk),j<=s.AU.length->s.AU.length-j<n->out.length+(s.AU.length-j)*r.Al.length<=1099511627776->Tt (LB s n out (j:Int)) λo=>∃new,o=out++new/\new.length<=(s.AU.length-j)*r.Al.length/\(∀a∈new,a.k=64/\∃i u:Nat,∃hi:i<s.AU.length,a.a=(i:Int)/\a.b=(u:Int)/\RE r s.AU[i] u)/\(new=[]->∀i(hi:i<s.AU.length),j<=i->∀u,¬RE r s.AU[i] u)
 |0,j,out,_,O,_=>by omega
 |n+1,j,out,hj,O,hb=>by
  have hN:=K.n;have hl:=h.nl;unfold LB;refine Tt.cond (λh1=>?_) λh1=>Tt.mk ⟨[],by simp,by simp,by simp,λ_ i hi N=>?_⟩
  ·simp only[AZ]at h1;have y:j<s.AU.length:=ox
   have hm:(s.AU.length-j)*r.Al.length=(s.AU.length-(j+1))*r.Al.length+r.Al.length:=by
    rw[show s.AU.length-j=(s.AU.length-(j+1))+1 by omega,Vc]
   rw[A0 y,h.tx,show(((r.Al.length:Nat):Int).toNat+1)=r.Al.length+1 by omega,BB ox];refine Tt.Ba ⟨by omega,h1⟩ (Tt.Az (Ud K h (AW y) (j:Int) (r.Al.length+1) 0 out ox ox ox) λo ⟨new,W,e2,e3,e4⟩=>?_);subst W;refine(AIk K h n (j+1) (out++new) y ox (by rw[AT];omega)).mono λo' ⟨z,f1,f2,X,f4⟩=>⟨new++z,by rw[f1,CZ],by rw[AT];omega,λa H=>?_,λe i hi N=>?_⟩
   ·rcases BW.1 H with H|H
    ·grind
    ·exact X a H
   ·have⟨a1,a2⟩:=ABo.1 e;rcases A7 j i with Z|Z
    ·grind
    ·grind
  ·grind
theorem AIl(z:s.A6.length<=1099511627776):∀(n j:Nat)(out:List Mk),j<=s.A6.length->s.A6.length-j<n->out.length+(s.A6.length-j)<=1099511627776->Tt (LC s n out (j:Int)) λo=>∃new,o=out++new/\new.length=s.A6.length-j/\(∀a∈new,a.k=61/\∃i:Nat,i<s.A6.length/\a.a=(i:Int))
 |0,j,out,_,H,_=>by omega
 |n+1,j,out,O,H,W=>by
  unfold LC;refine Tt.cond (λh1=>?_) λh1=>Tt.mk ⟨[],by simp,by simp only[Ai]at h1;simp;omega,by simp⟩;simp only[AZ]at h1;rw[BB ox];refine Tt.Ba (by simp only[AT,BO];omega) ((AIl z n (j+1) _ ox ox (by simp only[AT,BO];omega)).mono λo ⟨new,K,X,N⟩=>⟨⟨61,(j:Int),0⟩::new,by rw[K];simp,by simp only[Bz];omega,λa y=>?_⟩);rcases Aj.1 y with rfl|y
  ·grind
  ·exact N a y
inductive AMD(r:Rd)(s:JL):Mk->Prop
 |send (i t:Nat) (hi:i<s.AU.length) (h:P1 r s s.AU[i] t):AMD r s ⟨60,(i:Int),(t:Int)⟩
 |AIX (i:Nat) (b:Int) (hi:i<s.A6.length):AMD r s ⟨61,(i:Int),b⟩
 |AIS (i t:Nat) (hi:i<s.AU.length) (h:RE r s.AU[i] t):AMD r s ⟨64,(i:Int),(t:Int)⟩
theorem AJs(N:r.Ok)(h:QI r s):Tt (Og s) λo=>o.length<=1099511627776/\(∀a∈o,AMD r s a)/\(o=[]->s.A6=[]/\∀nd∈s.AU,∀t,¬P1 r s nd t/\¬RE r nd t):=by
 have hN:=N.n;have hl:=h.nl;have Z:=h.trl;have hm:s.AU.length*r.Al.length<=17*r.Al.length:=Cm _ hl;unfold Og;rw[show(((s.AU.length:Nat):Int).toNat+1)=s.AU.length+1 by omega,show(((s.A6.length:Nat):Int).toNat+1)=s.A6.length+1 by omega];have⟨o1,h1,n1,W,l1,a1,z1⟩:=AIm N h (s.AU.length+1) 0 [] ox ox (by simp;omega);rw[KA]at W;subst W;rw[ABk]at l1;have⟨o2,h2,n2,X,l2,a2⟩:=AIl (s:=s) ox (s.A6.length+1) 0 o1 ox ox ox;have⟨o3,h3,n3,e3,l3,a3,z3⟩:=AIk N h (s.AU.length+1) 0 o2 ox ox (by rw[X,AT,ABk];omega);rw[Ku]at h1 h2 h3;rw[h1,AY,h2,AY,h3];refine Tt.mk ?_;subst X;subst e3;rw[ABk]at l2 l3;refine⟨by rw[AT,AT];omega,λa y=>?_,λe=>?_⟩
 ·simp only[BW]at y;have⟨k,x,b⟩:=a;rcases y with(y|y)|y
  ·have⟨z,i,u,hi,H,K,O⟩:=a1 _ y;simp only at z H K;subst z H K;exact .send i u hi O
  ·have⟨z,i,hi,H⟩:=a2 _ y;simp only at z H;subst z H;exact .AIX i b hi
  ·have⟨z,i,u,hi,H,K,O⟩:=a3 _ y;simp only at z H K;subst z H K;exact .AIS i u hi O
 ·simp only[ABo]at e;obtain⟨⟨rfl,rfl⟩,rfl⟩:=e;refine⟨Jt.1 (by rw[HI]at l2;omega),λnd hn t=>?_⟩;obtain⟨i,hi,rfl⟩:=BL hn;exact⟨z1 Y i hi (By i) t,z3 Y i hi (By i) t⟩
end
section
open Go.ChangeShapes
variable {r:Rd} {s:JL}
def dl(m:B3)(nd:Bu):Bu:=cond (nd.Ac.Ab==m.To) {nd with C5:=nd.C5++[m]} nd
theorem QG(m:B3)(nd:Bu):(dl m nd).Ac=nd.Ac/\(dl m nd).C9=nd.C9/\(dl m nd).exec=nd.exec/\(dl m nd).table=nd.table:=by
 unfold dl;cases(nd.Ac.Ab==m.To)<;>exact⟨Y,Y,Y,Y⟩
theorem Zg{m:B3}{l0:List Bu}(hl:l0.length<=1099511627776)(hi:∀nd∈l0,nd.C5.length<1099511627776):∀(n i:Nat)(l:List Bu),i<=l0.length->l0.length-i<n->l=(l0.take i).map (dl m)++l0.drop i->H5 m n l (i:Int)=some (l0.map (dl m))
 |0,i,l,_,h,_=>by omega
 |n+1,i,l,y,H,he=>by
  have hlen:l.length=l0.length:=by rw[he,AT,Ap,Ao,Bj];omega
  unfold H5;rcases A7 i l0.length with h|h
  ·have z:l[i]'ox=l0[i]:=by
    rw[List.getElem_eq_iff,he,E4 (by rw[Ap,Ao];omega),Ap,Ao,Cq y,Vd,DT,JH,List.getElem?_eq_getElem h]
   have K:=hi _ (AW h);simp only[show(i:Int)<((l.length:Nat):Int) by omega,Ay,cond_true,show 0<=(i:Int) by omega,CA,DW,A0 (show i<l.length by omega),z];rw[A5 (by rw[AT,BO];omega),BB ox,Int.toNat_natCast];have e:cond (l0[i].Ac.Ab==m.To) (some {l0[i]with C5:=l0[i].C5++[m]}) (some l0[i])=some (dl m l0[i]):=by
    unfold dl;cases(l0[i].Ac.Ab==m.To)<;>rfl
   rw[e,AY];refine Zg hl hi n (i+1) _ h ox ?_;rw[he,List.set_append_right _ _ (by rw[Ap,Ao];omega),Ap,Ao,Cq y,Vd,A4 h,Wl,Bk h,E0,CZ];rfl
  ·have:i=l0.length:=ox
   subst this;rw[show decide (((l0.length:Nat):Int)<((l.length:Nat):Int))=false from Bd ox,AP,he];simp
theorem AFc{g:Bu->Bu}(y:∀nd,(g nd).Ac=nd.Ac)(i:Int):∀l:List Bu,(l.map g).find? (λnd=>nd.Ac.Ab==i)=(l.find? λnd=>nd.Ac.Ab==i).map g
 |[]=>rfl|x::l=>by
  rw[B8,KB,KB,y];cases(x.Ac.Ab==i)
  ·exact AFc y i l
  ·rfl
theorem AMR{g:Bu->Bu}(y:∀nd,(g nd).Ac=nd.Ac/\(g nd).C9=nd.C9/\(g nd).exec=nd.exec)(l:List Bu):sig (l.map g)=sig l:=by
 unfold sig
 congr 1
 ·funext i t
  refine propext ⟨λ⟨nd,z,e,h⟩=>?_,λ⟨nd,z,e,h⟩=>⟨g nd,List.mem_map.2 ⟨nd,z,Y⟩,by rw[(y nd).1];exact e,by unfold XT;rw[(y nd).2.1];exact h⟩⟩;obtain⟨a,H,rfl⟩:=List.mem_map.1 z;refine⟨a,H,by rw[<- (y a).1];exact e,?_⟩;unfold XT at h⊢;rw[<- (y a).2.1];exact h
 ·funext i t
  refine propext ⟨λ⟨nd,z,e,h⟩=>?_,λ⟨nd,z,e,h⟩=>⟨g nd,List.mem_map.2 ⟨nd,z,Y⟩,by rw[(y nd).1];exact e,by unfold WV;rw[(y nd).2.2];exact h⟩⟩;obtain⟨a,H,rfl⟩:=List.mem_map.1 z;refine⟨a,H,by rw[<- (y a).1];exact e,?_⟩;unfold WV at h⊢;rw[<- (y a).2.2];exact h
 ·funext i k
  rw[AFc (λnd=>(y nd).1)];cases(l.find? λnd=>nd.Ac.Ab==i)with
  |none=>rfl|some a=>show Ii (g a).Ac.BF k=Ii a.Ac.BF k;rw[(y a).1]
theorem ALP(y:r.Ok){to:Int}(h1:Z∈CL r.p (r.ft t))(h2:to∈DX r.p (r.ft t)):to∈B9 r.p:=
 UK (y.v t) (ABF (KZ h1) h2)
theorem AJl(hk:r.Ok)(h:QI r s)(hi:i<s.A6.length):∃z,Of s (i:Int)=some z/\QI r {s with AU:=z.1,A6:=z.2}/\z.2.length+1=s.A6.length/\sig z.1=sig s.AU/\z.1=s.AU.map (dl s.A6[i]):=by
 have hN:=hk.n;have hl:=h.nl;have ah:=h.trl;have hm:=h.tr _ (AW hi);generalize N:s.A6[i]=m at hm;have Z:m∈s.A6:=by rw[<- N];exact AW hi
 have K:sig (s.AU.map (dl m))=sig s.AU:=AMR (λnd=>⟨(QG m nd).1,(QG m nd).2.1,(QG m nd).2.2.1⟩) _;have aa:s.A6.take i++s.A6.drop (i+1)=s.A6.eraseIdx i:=(List.eraseIdx_eq_take_drop_succ _ _).symm;have ab:∀x∈s.A6.eraseIdx i,x∈s.A6/\x≠m:=λx H=>by
  refine⟨(List.eraseIdx_sublist _ _).subset H,λe=>?_⟩;subst e;rw[<- aa]at H;have O:=h.trn;have ae:s.A6=s.A6.take i++s.A6[i]::s.A6.drop (i+1):=by rw[<- A4 hi,Dq]
  rw[ae,N,R0]at O;have⟨_,n2,n3⟩:=O;rcases BW.1 H with H|H
  ·exact n3 x H x zp Y
  ·exact(Qb.1 n2).1 H
 refine⟨(s.AU.map (dl m),s.A6.eraseIdx i),?_,?_,?_,K,Y⟩
 ·unfold Of;rw[BB ox,A5 ox,A5 ox,A5 ox,A0 hi,N];have:=Zg (m:=m) (l0:=s.AU) ox (λnd O=>by have:=(h.ni nd O).inl;omega) (s.AU.length+1) 0 s.AU ox ox zp;rw[Ku]at this;rw[show(((s.AU.length:Nat):Int).toNat+1)=s.AU.length+1 by omega,this,AY,Int.toNat_natCast,Int.toNat_natCast,aa]
 ·obtain⟨t,fr,to,t1,t2,t3,t4,rfl⟩:=hm;have ad:(r.ml t fr to).To=to:=Y;refine⟨h.ps,h.p,h.tx,h.fo,h.pa,h.ex,?_,λnd O=>?_,?_,λx H=>?_,?_,λx H nd O=>?_,λu a b h1 h2 h3 h4=>?_,h.efl,λu hu a X H=>?_⟩
  ·show(s.AU.map (dl _)).map _=_;rw[JI,<- h.ids];exact Cu λnd _=>by show(dl _ nd).Ac.Ab=_;rw[(QG _ nd).1]
  ·obtain⟨a,X,rfl⟩:=List.mem_map.1 O;show NI r (sig (s.AU.map (dl _))) (dl _ a);rw[K];have hI:=h.ni a X;have⟨d1,d2,d3,d4⟩:=QG (r.ml t fr to) a;refine⟨by rw[d2];exact hI.sl,by rw[d3];exact hI.xl,by rw[d1,d3];exact hI.AGf,by rw[d1];exact hI.own,by rw[d1,d4];exact hI.tab,?_,?_⟩
   ·rw[d1];intro x H;unfold dl at H;cases W:(a.Ac.Ab==(r.ml t fr to).To)with
    |false=>rw[W]at H;exact hI.inb x H|true=>
     rw[W]at H;rcases BW.1 H with H|H
     ·exact hI.inb x H
     ·rw[List.mem_singleton.1 H];rw[ad]at W;have e:a.Ac.Ab=to:=by simpa using W
      rw[e];exact⟨t,fr,t1,t2,t3,t4,Y⟩
   ·unfold dl;cases W:(a.Ac.Ab==(r.ml t fr to).To)with
    |false=>exact hI.inn|true=>
     show(a.C5++[_]).Nodup;rw[R0];exact⟨hI.inn,by simp,λx H y hy e=>h.dis _ Z a X (by rw[<- List.mem_singleton.1 hy,<- e];exact H)⟩
  ·show Vb r.D (sig (s.AU.map (dl _)));rw[K];exact h.AE5
  ·show∃t fr to,_/\_/\_/\(sig (s.AU.map (dl _))).C9 fr t/\_;rw[K];exact h.tr x (ab x H).1
  ·exact Sf (List.eraseIdx_sublist _ _) h.trn
  ·obtain⟨a,X,rfl⟩:=List.mem_map.1 O;have⟨x1,x2⟩:=ab x H;unfold dl;cases W:(a.Ac.Ab==(r.ml t fr to).To)with
   |false=>exact h.dis x x1 a X|true=>
    show x∉a.C5++[_];rw[BW,List.mem_singleton];exactλhh=>hh.elim (h.dis x x1 a X) x2
  ·have af:(sig s.AU).C9 a u:=by rw[<- K];exact h4
   rcases h.all u a b h1 h2 h3 af with g|⟨nd,g1,g2,g3⟩
   ·rcases Classical.em (r.ml u a b=r.ml t fr to)with e|e
    ·have⟨nd,n1,n2⟩:=h.node (ALP hk h2 h3);refine .inr ⟨dl (r.ml t fr to) nd,List.mem_map.2 ⟨nd,n1,Y⟩,by rw[(QG _ nd).1];exact n2,?_⟩;have⟨_,_,e3⟩:=ADv e;have W:(nd.Ac.Ab==(r.ml t fr to).To)=true:=by rw[ad,n2,e3];simp
     rw[e];unfold dl;rw[W];show _∈nd.C5++[_];simp
    ·refine .inl ?_;have⟨j,hj,e2⟩:=BL g;refine List.mem_eraseIdx_iff_getElem.2 ⟨j,hj,λe3=>e ?_,e2⟩;subst e3;rw[<- e2];exact N
   ·refine .inr ⟨dl (r.ml t fr to) nd,List.mem_map.2 ⟨nd,g1,Y⟩,by rw[(QG _ nd).1];exact g2,?_⟩;unfold dl;cases(nd.Ac.Ab==(r.ml t fr to).To)
    ·exact g3
    ·exact List.mem_append_left _ g3
  ·have ag:(sig s.AU).exec a u:=by rw[<- K];exact H
   exact h.ef u hu a X ag
 ·show(s.A6.eraseIdx i).length+1=_;rw[List.length_eraseIdx_of_lt hi];omega
end
section
open Go.ChangeShapes
variable {r:Rd} {s:JL}
theorem Ny(h:S1 l)(q:A9->Bool)(k:A9):Ii (l.filter λx=>q x.Key) k=if q k=true then Ii l k else⟨0,0,[]⟩:=by
 have H:S1 (l.filter λx=>q x.Key):=D5 _ h;split
 ·rename_i z;rcases S3 l k with⟨x,y,e,g⟩|⟨e,g⟩
  ·rw[g,<- e];exact US H (BK.2 ⟨y,by rw[e];exact z⟩)
  ·rw[g];exact QX λx y=>e x (BK.1 y).1
 ·rename_i z;exact QX λx y e=>z (by rw[<- e];exact(BK.1 y).2)
theorem ALA(W:r.Ok)(h:QI r s)(X:H∈s.AU)(z:P1 r s H t):M7 r.p H.Ac (r.ft t)=M7 r.p (Sn r.p (r.st t) H.Ac.Ab) (r.ft t):=by
 have⟨ht,hp,hs,hg⟩:=z;have hI:=h.ni H X;have hv:=W.v t;have N:=(W.run.sv t (Ve ht)).Rq;have K:G5 (Sn r.p (r.st t) H.Ac.Ab).BF=true:=HS N _;have O:∀{l:List AR},S1 l->∀k,Ii (l.filter λx=>(r.ft t).G7||(r.ft t).Am.any λy=>y==x.Key) k=if((r.ft t).G7||(r.ft t).Am.any λy=>y==k)=true then Ii l k else⟨0,0,[]⟩:=λhl k=>Ny hl (λk=>(r.ft t).G7||(r.ft t).Am.any λy=>y==k) k
 unfold M7;rw[v31,hv,hI.Rq.Rq,v31,hv,K,FJ,cond_true,cond_true];refine AH0 (HS hI.Rq.Rq _) (HS K _) λk=>?_;rw[O (Eg.1 hI.Rq.Rq).2,O (Eg.1 K).2];split
 ·rename_i hq;have Z:r.D.rd t k:=by
   simp only[ES,Gg,B1]at hq;exact hq.imp id λ⟨y,hy,e⟩=>e▸hy
  refine Eq.trans ?_ (Ny (Eg.1 N).2 (λk=>Bl r.p k==H.Ac.Ab) k).symm;split
  ·rename_i z;have z:Bl r.p k=H.Ac.Ab:=by simpa using z
   have aa:¬(sig s.AU).C9 (r.D.own k) t:=by
    show¬(sig s.AU).C9 (Bl r.p k) t;rw[z];exactλe=>hs ((h.C9 X).1 e)
   have ab:Qn r.D (sig s.AU) (r.D.own k) t:=by
    show Qn r.D (sig s.AU) (Bl r.p k) t;rw[z];exact hg
   have:=h.AE5.read W.d ht aa ab (.inr Z);rw[show r.D.own k=H.Ac.Ab from z,h.val X]at this;exact this
  ·rename_i z;exact QX λx hx e=>z (by have:=hI.own x hx;rw[<- e,this];simp)
 ·rfl
theorem AMU(y:r.Ok)(h:QI r s)(z:H∈s.AU)(K:P1 r s H t):LV r.p H.Ac (t:Int) (r.ft t)=some ((DX r.p (r.ft t)).map λto=>r.ml t H.Ac.Ab to):=by
 have hI:=h.ni H z;have N:=y.hl;have hlen:=hI.Rq.len;unfold HL at N;rw[AI8 y.hp (AIR (GL (y.v t)).2) (hI.Rq.ok ox) ox];unfold AKa;rw[v31,y.v t,hI.Rq.Rq,VH.2 K.2.1,FJ,FJ,cond_true]
 congr 1
 refine Cu λto _=>?_;show(⟨(t:Int),H.Ac.Ab,to,_,M7 r.p H.Ac (r.ft t)⟩:B3)=⟨(t:Int),H.Ac.Ab,to,_,M7 r.p (Sn r.p (r.st t) H.Ac.Ab) (r.ft t)⟩;rw[ALA y h z K];rfl
end
variable {j:Nat} {aW:PS A9 Ah}
section
open Go.ChangeShapes
variable {r:Rd} {s:JL}
theorem Gb(h:QI r s)(z:j<s.AU.length)(x:Bu):x∈s.AU.set j H↔x=H\/(x∈s.AU/\x.Ac.Ab≠s.AU[j].Ac.Ab):=by
 constructor
 ·intro K;obtain⟨i,hi,rfl⟩:=BL K;simp only[Cr]at hi;rw[NJ];split
  ·exact .inl Y
  ·rename_i y;refine .inr ⟨AW hi,λe=>y ?_⟩;have hp:=FI.1 h.nodup;rcases H0 i j with h1|h1|h1
   ·exact absurd e (A3.1 hp i j hi z h1)
   ·exact h1.symm
   ·exact absurd e.symm (A3.1 hp j i z hi h1)
 ·rintro(rfl|⟨K,y⟩)
  ·exact List.mem_set z _
  ·obtain⟨i,hi,rfl⟩:=BL K;have N:j≠i:=λe=>y (by subst e;rfl);exact JN.2 ⟨i,by simpa using hi,by rw[List.getElem_set_ne N]⟩
theorem AH1(y:j<s.AU.length)(he:H.Ac.Ab=s.AU[j].Ac.Ab):(s.AU.set j H).map (λnd=>nd.Ac.Ab)=s.AU.map λnd=>nd.Ac.Ab:=by
 rw[List.map_set,he];refine TT zp λi h1 h2=>?_;rw[NJ];split
 ·rename_i e;subst e;simp
 ·rfl
open Classical in
theorem U3{i:Int}(h:∀u,r.D.part i u->(QB r.D aW i u↔QB r.D σ i u)):r.WA aW i=r.WA σ i:=by
 unfold Rd.WA
 congr 1
 refine AJ6 λu _=>?_;rw[decide_eq_decide];exact and_congr_right λhp=>not_congr (h u hp)
open Classical in
theorem ACh{i:Int}(h:∀u,u≠t->(QB r.D aW i u↔QB r.D σ i u))(ht:QB r.D aW i t):r.WA aW i=(r.WA σ i).filter λx=>x.1 !=(t:Int):=by
 unfold Rd.WA;rw[List.filter_map,List.filter_filter]
 congr 1
 refine AJ6 λu _=>?_;rw[ET,Aq,AZ,AZ];by_cases e:u=t
 ·subst e;simp[ht]
 ·rw[h u e];have:((u:Int) !=(t:Int))=true:=by simp;omega
  simp[this]
end
section
open Go.ChangeShapes
variable {r:Rd} {s:JL}
theorem AMh(h:QI r s)(z:H∈s.AU)(y:P1 r s H t):¬QB r.D (sig s.AU) H.Ac.Ab t:=
 λK=>y.2.2.1 ((h.C9 z).1 (h.AE5.AAx ⟨y.1,y.2.1⟩ K))
theorem AEy(h:QI r s)(K:j<s.AU.length)(ht:t<r.Al.length)(h1:H.Ac=s.AU[j].Ac)(h2:H.C9=s.AU[j].C9.set t true)(h3:H.exec=s.AU[j].exec):sig (s.AU.set j H)=(sig s.AU).send s.AU[j].Ac.Ab t:=by
 have O:=AW K;have ad:=(h.ni _ O).sl;have hid:H.Ac.Ab=s.AU[j].Ac.Ab:=by rw[h1]
 unfold sig PS.send
 congr 1
 ·funext i u
  refine propext ⟨λ⟨nd,hm,e,y⟩=>?_,λy=>?_⟩
  ·rcases(Gb h K nd).1 hm with rfl|⟨N,g2⟩
   ·rw[hid]at e;by_cases hu:u=t
    ·exact .inr ⟨e.symm,hu⟩
    ·refine .inl ⟨_,O,e,?_⟩;unfold XT at y⊢;rw[h2,JO (λZ=>hu Z.symm)]at y;exact y
   ·exact .inl ⟨nd,N,e,y⟩
  ·rcases y with⟨nd,hm,e,y⟩|⟨rfl,rfl⟩
   ·by_cases z:nd.Ac.Ab=s.AU[j].Ac.Ab
    ·have:=h.uniq hm O z;subst this;refine⟨H,(Gb h K H).2 (.inl Y),by rw[hid];exact e,?_⟩;unfold XT at y⊢;rw[h2];by_cases hu:u=t
     ·subst hu;rw[Ka ox]
     ·rw[JO (λZ=>hu Z.symm)];exact y
    ·exact⟨nd,(Gb h K nd).2 (.inr ⟨hm,z⟩),e,y⟩
   ·refine⟨H,(Gb h K H).2 (.inl Y),hid,?_⟩;unfold XT;rw[h2,Ka ox]
 ·funext i u
  refine propext ⟨λ⟨nd,hm,e,y⟩=>?_,λ⟨nd,hm,e,y⟩=>?_⟩
  ·rcases(Gb h K nd).1 hm with rfl|⟨N,g2⟩
   ·exact⟨_,O,by rw[<- hid];exact e,by unfold WV at y⊢;rw[<- h3];exact y⟩
   ·exact⟨nd,N,e,y⟩
  ·by_cases z:nd.Ac.Ab=s.AU[j].Ac.Ab
   ·have:=h.uniq hm O z;subst this;exact⟨H,(Gb h K H).2 (.inl Y),by rw[hid];exact e,by unfold WV at y⊢;rw[h3];exact y⟩
   ·exact⟨nd,(Gb h K nd).2 (.inr ⟨hm,z⟩),e,y⟩
 ·funext i k
  have W:s.AU.set j H=s.AU.map λnd=>if nd.Ac.Ab=s.AU[j].Ac.Ab then H else nd:=by
   refine TT zp λi N g2=>?_;simp only[Cr]at N;rw[NJ,AAB];split
   ·rename_i e;subst e;rw[if_pos Y]
   ·rename_i aa;rw[if_neg λe=>aa ?_];have hp:=FI.1 h.nodup;rcases H0 i j with q|q|q
    ·exact absurd e (A3.1 hp i j N K q)
    ·exact q.symm
    ·exact absurd e.symm (A3.1 hp j i K N q)
  have hg:∀l:List Bu,(∀nd∈l,nd∈s.AU)->(match(l.map λnd=>if nd.Ac.Ab=s.AU[j].Ac.Ab then H else nd).find? (λnd=>nd.Ac.Ab==i)with|some nd=>Ii nd.Ac.BF k|none=>⟨0,0,[]⟩)=(match l.find? (λnd=>nd.Ac.Ab==i)with|some nd=>Ii nd.Ac.BF k|none=>⟨0,0,[]⟩):=by
   intro l
   induction l with
   |nil=>intro _;rfl|cons a l ih=>
    intro hl;have ha:=hl a zp;have X:(if a.Ac.Ab=s.AU[j].Ac.Ab then H else a).Ac=a.Ac:=by
     split
     ·rename_i e;rw[h1,h.uniq ha O e]
     ·rfl
    rw[B8,KB,KB,X];cases(a.Ac.Ab==i)
    ·exact ih λnd ab=>hl nd (by simp[ab])
    ·show Ii (if a.Ac.Ab=s.AU[j].Ac.Ab then H else a).Ac.BF k=Ii a.Ac.BF k;rw[X]
  rw[W];exact hg s.AU λ_ h=>h
end
section
open Go.ChangeShapes
variable {r:Rd} {s:JL}
theorem YI{i:Int}(h:Z≠i\/u≠t\/r.D.exr Z u):QB r.D (σ.send i t) Z u↔QB r.D σ Z u:=
 ⟨λg=>⟨g.1,λy=>(g.2 y).elim id λe=>by
  rcases h with h|h|h
  ·exact absurd e.1 h
  ·exact absurd e.2 h
  ·exact absurd h y⟩,YJ⟩
theorem AI7(hk:r.Ok)(h:QI r s)(W:j<s.AU.length)(O:P1 r s s.AU[j] t)(h1:H.Ac=s.AU[j].Ac)(h2:H.C9=s.AU[j].C9.set t true)(h3:H.exec=s.AU[j].exec)(h4:H.C5=s.AU[j].C5)(h5:Q4 (r.WA ((sig s.AU).send s.AU[j].Ac.Ab t) s.AU[j].Ac.Ab) H.table):QI r {s with AU:=s.AU.set j H,A6:=s.A6++(DX r.p (r.ft t)).map λto=>r.ml t s.AU[j].Ac.Ab to}:=by
 have hn:=AW W;have y:=AEy h W O.1 h1 h2 h3;have hid:H.Ac.Ab=s.AU[j].Ac.Ab:=by rw[h1]
 have z:∀{i u},(sig s.AU).C9 i u->(sig (s.AU.set j H)).C9 i u:=λhs=>by rw[y];exact .inl hs
 have Z:(sig (s.AU.set j H)).C9 s.AU[j].Ac.Ab t:=by rw[y];exact .inr ⟨Y,Y⟩
 have aa:¬(sig s.AU).C9 s.AU[j].Ac.Ab t:=λe=>O.2.2.1 ((h.C9 hn).1 e);have K:∀{to:Int},r.ml t s.AU[j].Ac.Ab to∉s.A6/\∀nd∈s.AU,r.ml t s.AU[j].Ac.Ab to∉nd.C5:=λ{to}=>by
  constructor
  ·intro hm;have⟨u,fr,o,_,_,_,g,e⟩:=h.tr _ hm;obtain⟨rfl,rfl,_⟩:=ADv e;exact aa g
  ·intro nd X hm;have⟨u,fr,_,_,_,g,e⟩:=(h.ni nd X).inb _ hm;obtain⟨rfl,rfl,_⟩:=ADv e;exact aa g
 refine⟨h.ps,h.p,h.tx,h.fo,h.pa,h.ex,by rw[<- h.ids];exact AH1 W hid,λnd hm=>?_,?_,λm hm=>?_,?_,λm hm nd X=>?_,λu fr to g1 g2 g3 g4=>?_,h.efl,λu hu i hi hx=>?_⟩
 ·show NI r (sig (s.AU.set j H)) nd;rcases(Gb h W nd).1 hm with rfl|⟨g1,g2⟩
  ·have hI:=h.ni _ hn;refine⟨by rw[h2,Cr];exact hI.sl,by rw[h3];exact hI.xl,by rw[h1,h3];exact hI.AGf,by rw[h1];exact hI.own,by rw[hid,y];exact h5,?_,by rw[h4];exact hI.inn⟩;rw[h4,hid];intro m hm;have⟨u,fr,a,b,c,d,e⟩:=hI.inb m hm;exact⟨u,fr,a,b,c,z d,e⟩
  ·have hI:=h.ni nd g1;refine⟨hI.sl,hI.xl,hI.AGf,hI.own,?_,λm hm=>?_,hI.inn⟩
   ·rw[y,U3 λu _=>YI (.inl g2)];exact hI.tab
   ·have⟨u,fr,a,b,c,d,e⟩:=hI.inb m hm;exact⟨u,fr,a,b,c,z d,e⟩
 ·show Vb r.D (sig (s.AU.set j H));rw[y];exact h.AE5.send O.1 ⟨O.1,O.2.1⟩ O.2.2.2
 ·rcases BW.1 hm with hm|hm
  ·have⟨u,fr,to,a,b,c,d,e⟩:=h.tr m hm;exact⟨u,fr,to,a,b,c,z d,e⟩
  ·obtain⟨to,ae,rfl⟩:=List.mem_map.1 hm;exact⟨t,_,to,O.1,O.2.1,ae,Z,Y⟩
 ·show(s.A6++_).Nodup;rw[R0];refine⟨h.trn,FI.2 ((AHI (p:=r.p) (f:=r.ft t)).imp λ{a b}ag e=>?_),λa ha b hb e=>?_⟩
  ·have:=(ADv e).2.2;omega
  ·obtain⟨to,_,rfl⟩:=List.mem_map.1 hb;exact K.1 (e▸ha)
 ·have af:∃a∈s.AU,nd.C5=a.C5:=by
   rcases(Gb h W nd).1 X with rfl|⟨g1,_⟩
   ·exact⟨_,hn,h4⟩
   ·exact⟨nd,g1,Y⟩
  have⟨a,ha,e⟩:=af;rw[e];rcases BW.1 hm with hm|hm
  ·exact h.dis m hm a ha
  ·obtain⟨to,_,rfl⟩:=List.mem_map.1 hm;exact K.2 a ha
 ·have N:(sig (s.AU.set j H)).C9 fr u:=g4;rw[y]at N;rcases N with N|⟨rfl,rfl⟩
  ·rcases h.all u fr to g1 g2 g3 N with g|⟨nd,a,b,c⟩
   ·exact .inl (List.mem_append_left _ g)
   ·by_cases ab:nd.Ac.Ab=s.AU[j].Ac.Ab
    ·have:=h.uniq a hn ab;subst this;exact .inr ⟨H,(Gb h W H).2 (.inl Y),by rw[hid];exact b,by rw[h4];exact c⟩
    ·exact .inr ⟨nd,(Gb h W nd).2 (.inr ⟨a,ab⟩),b,c⟩
  ·exact .inl (List.mem_append_right _ (List.mem_map.2 ⟨to,g3,Y⟩))
 ·have ad:(sig (s.AU.set j H)).exec i u:=hx;rw[y]at ad;exact h.ef u hu i hi ad
theorem AN5(O:r.Ok)(h:QI r s)(W:j<s.AU.length)(H:P1 r s s.AU[j] t):∃z,MS s s.AU[j] (t:Int)=some z/\QI r {s with AU:=s.AU.set j z.1,A6:=z.2}/\z.2.length<=s.A6.length+17/\sig (s.AU.set j z.1)=(sig s.AU).send s.AU[j].Ac.Ab t/\z.1.C9=s.AU[j].C9.set t true/\z.1.exec=s.AU[j].exec:=by
 have hN:=O.n;have aa:=h.trl;have K:=AW W;have hI:=h.ni _ K;have ab:=hI.sl;have X:AN s.Oq (t:Int)=r.ft t:=by rw[A0 (by rw[h.fo,Ap,DC];exact H.1)];simp[h.fo]
 have ad:=Qq (p:=r.p) (f:=r.ft t)
 suffices core:∃y:Bu,MS s s.AU[j] (t:Int)=some (y,s.A6++(DX r.p (r.ft t)).map λto=>r.ml t s.AU[j].Ac.Ab to)/\y.Ac=s.AU[j].Ac/\y.C9=s.AU[j].C9.set t true/\y.exec=s.AU[j].exec/\y.C5=s.AU[j].C5/\Q4 (r.WA ((sig s.AU).send s.AU[j].Ac.Ab t) s.AU[j].Ac.Ab) y.table by
  have⟨y,e,h1,h2,h3,h4,h5⟩:=core;exact⟨_,e,AI7 O h W H h1 h2 h3 h4 h5,by rw[AT,Ap];omega,AEy h W H.1 h1 h2 h3,h2,h3⟩
 unfold MS;rw[A5 (by have:=H.1;omega),A5 (by rw[h.fo,Ap,DC];have:=H.1;omega),X,h.p,AMU O h K H,AY,A5 (by rw[AT,Ap];omega),h.ex,AAG (q:=λt=>DX r.p (r.ft t)) (λ_=>Qq) H.1,AY,Int.toNat_natCast];by_cases N:s.AU[j].Ac.Ab∈DX r.p (r.ft t)
 ·rw[Bw N];simp only[BC,AP,AY];refine⟨{s.AU[j]with C9:=s.AU[j].C9.set t true},Y,Y,Y,Y,Y,?_⟩;rw[U3 λu _=>YI ?_]
  ·exact hI.tab
  ·by_cases hu:u=t
   ·subst hu;exact .inr (.inr ⟨H.1,N⟩)
   ·exact .inr (.inl hu)
 ·rw[Bd N];simp only[GJ,cond_true];have⟨T',e1,e2⟩:=ACr hI.tab (AD6 h K H.1 H.2.1 (AMh h K H));unfold Hk;dsimp only;rw[e1,AY];simp only[DE,cond_true,AY];refine⟨{s.AU[j]with C9:=s.AU[j].C9.set t true,table:=T'},Y,Y,Y,Y,Y,?_⟩;rw[ACh (t:=t) (λu hu=>YI (.inr (.inl hu))) ⟨λZ=>absurd Z.2 N,λ_=>.inr ⟨Y,Y⟩⟩];exact e2
end
section
open Go.ChangeShapes
variable {r:Rd} {s:JL}
theorem APO(z:r.Ok)(ht:t<r.Al.length)(fr to:Int):AJ3 (r.ml t fr to)/\(r.ml t fr to).BF.length<=r.L+16384*r.Al.length:=by
 have hv:=z.v t;have H:=(z.run.sv t (Ve ht)).mono (show r.L+16384*t<=r.L+16384*r.Al.length by omega);have K:=z.hl;unfold HL at K;have e:(r.ml t fr to).BF=(R5 (r.ft t) (r.st t)).filter λx=>Bl r.p x.Key==fr:=Pd hv H.Rq fr;have hp:=(H.filter λx=>(r.ft t).G7||(r.ft t).Am.any λy=>y==x.Key).filter λx=>Bl r.p x.Key==fr;have⟨_,_,_,N,_⟩:=SJ (GL hv).2;refine⟨⟨Nat.lt_of_le_of_lt (C3 _ _) ox,?_⟩,?_⟩
 ·rw[e];exact hp.ok ox
 ·rw[e];exact hp.len
theorem AEB(K:r.Ok)(h:QI r s)(hn:H∈s.AU)(ho:RE r H t):∃c,HW (t:Int) H.Ac.Ab H.C5=some c/\c.1=R5 (r.ft t) (r.st t):=by
 have⟨ht,z,aa,W⟩:=ho;have hN:=K.n;have ab:=K.hl2;have hI:=h.ni H hn;have ad:=hI.inl;have X:=(K.run.sv t (Ve ht)).Rq
 let q:B3->Bool:=λm=>(m.Is==(t:Int))&&(m.To==H.Ac.Ab)
 have y:∀m∈H.C5.filter q,m.BU∈CL r.p (r.ft t)/\m=r.ml t m.BU H.Ac.Ab:=λm hm=>by
  have⟨h1,h2⟩:=BK.1 hm;obtain⟨u,fr,a,b,c,d,rfl⟩:=hI.inb m h1;have hu:u=t:=by
   simp only[q,Aq,B1]at h2;have h3:((u:Nat):Int)=((t:Nat):Int):=h2.1;omega
  subst hu;exact⟨b,Y⟩
 have hl:H.C5.filter q=((H.C5.filter q).map (·.BU)).map λfr=>NR r.p (Sn r.p (r.st t) fr) (t:Int) (r.ft t) H.Ac.Ab:=by
  rw[JI];refine(List.map_id _).symm.trans (Cu λm hm=>?_);exact(y m hm).2
 have N:((H.C5.filter q).map (·.BU)).Nodup:=by
  have h1:(H.C5.filter q).Nodup:=D5 _ hI.inn;rw[hl,List.Nodup,FI]at h1;exact h1.imp λ{a b}Z e=>Z (by rw[e])
 have O:∀x,x∈(H.C5.filter q).map (·.BU)↔x∈CL r.p (r.ft t):=λx=>by
  constructor
  ·intro z;obtain⟨m,hm,rfl⟩:=List.mem_map.1 z;exact(y m hm).1
  ·intro z;unfold AJn at W;rw[Aq,AAD]at W;have⟨m,hm,e⟩:=Gg.1 (W.2 x z);simp only[Aq,B1]at e;exact List.mem_map.2 ⟨m,BK.2 ⟨hm,by simp only[q,Aq,B1];exact⟨e.1.1,e.2⟩⟩,e.1.2⟩
 have⟨c1,c2⟩:=AFk (K.v t) X hl N O;have hlen:(WO (t:Int) H.Ac.Ab H.C5).length<=17:=by
  rw[c1,Ap];exact Cf (ADs N λx z=>(O x).1 z) Kv
 refine⟨_,AED (P:=r.L+16384*r.Al.length) ox ?_ λm hm=>?_,c2⟩
 ·have:=Cm (r.L+16384*r.Al.length) (show(WO (t:Int) H.Ac.Ab H.C5).length+1<=18 by omega);omega
 ·obtain⟨u,fr,a,b,c,d,rfl⟩:=hI.inb m hm;exact APO K a fr H.Ac.Ab
theorem ALQ(z:r.Ok)(ht:t<r.Al.length):Gs r.ps (R5 (r.ft t) (r.st t)) r.Al[t]=some (apl (R5 (r.ft t) (r.st t)) (r.ef t),r.ef t):=by
 have O:=z.hl;have K:=(z.run.sv t (Ve ht)).mono (show r.L+16384*t<=HL by omega);refine z.run.one t ht _ ⟨K.filter _,λhv k H=>?_⟩;unfold R5;rw[z.ftv ht hv];refine(Ny (Eg.1 K.Rq).2 (λk=>r.Al[t].HK.G7||r.Al[t].HK.Am.any λy=>y==k) k).trans (if_pos ?_);cases N:r.Al[t].HK.G7 with
 |true=>rfl|false=>simpa using H N
end
section
open Go.ChangeShapes
variable {r:Rd} {s:JL}
def exP(r:Rd)(nd:Bu)(t:Nat):List AR:=if(r.ef t).Ad.DY=1 then am nd.Ac.BF ((r.ef t).AX.filter λx=>Bl r.p x.Key==nd.Ac.Ab)else nd.Ac.BF
theorem AIT(K:r.Ok)(hI:NI r σ H)(ht:t<r.Al.length)(k:A9)[Decidable (r.D.wr t k/\Bl r.p k=H.Ac.Ab)]:Ii (exP r H t) k=if r.D.wr t k/\Bl r.p k=H.Ac.Ab then Ii (r.st (t+1)) k else Ii H.Ac.BF k:=by
 unfold exP;by_cases h1:(r.ef t).Ad.DY=1
 ·have he:=K.run.ok t ht h1;have hw:=(I8.1 he.srt).2;have W:R6 ((r.ef t).AX.filter λx=>Bl r.p x.Key==H.Ac.Ab)=true:=
   I8.2 ⟨λx z=>(I8.1 he.srt).1 x (BK.1 z).1,D5 _ hw⟩
  rw[if_pos h1,AHZ hI.Rq.Rq W];by_cases N:r.D.wr t k/\Bl r.p k=H.Ac.Ab
  ·have⟨⟨_,x,z,e⟩,O⟩:=N;rw[if_pos (show∃y∈(r.ef t).AX.filter _,y.Key=k from⟨x,BK.2 ⟨z,by rw[e,O];simp⟩,e⟩),if_pos (show r.D.wr t k/\Bl r.p k=H.Ac.Ab from⟨⟨h1,x,z,e⟩,O⟩),K.run.nx t ht];unfold apl;rw[if_pos h1,AHZ (K.run.sv t (Ve ht)).Rq he.srt,if_pos ⟨x,z,e⟩];refine(Ny hw (λk=>Bl r.p k==H.Ac.Ab) k).trans (if_pos (by rw[O];simp))
  ·rw[if_neg N,if_neg];rintro⟨x,z,e⟩;have⟨X,Z⟩:=BK.1 z;exact N ⟨⟨h1,x,X,e⟩,by rw[<- e];simpa using Z⟩
 ·rw[if_neg h1,if_neg λh=>h1 h.1.1]
theorem AM6(y:r.Ok)(hI:NI r σ H)(ht:t<r.Al.length):∀x∈exP r H t,Bl r.p x.Key=H.Ac.Ab:=by
 unfold exP;split
 ·rename_i h1;have he:=y.run.ok t ht h1;have hw:=(I8.1 he.srt).2;intro x z;rcases((RY (Eg.1 hI.Rq.Rq).2 (D5 _ hw)).2 x).1 z with h|h
  ·simpa using(BK.1 h.1).2
  ·exact hI.own x h.1
 ·exact hI.own
theorem AM5(K:r.Ok)(hI:NI r σ H)(ht:t<r.Al.length)(y:¬WV H t):Vx (r.L+16384*(H.exec.set t true).count true) (exP r H t):=by
 have N:=hI.xl;have z:(H.exec.set t true).count true=H.exec.count true+1:=by
  rw[List.count_set ox];have:H.exec[t]'ox=false:=by
   cases O:H.exec[t]'ox with
   |false=>rfl|true=>exact absurd (by unfold WV;rw[List.getElem?_eq_getElem ox,O]) y
  simp[this]
 rw[z,Nat.mul_add,<- Km];unfold exP;split
 ·rename_i h1;have he:=K.run.ok t ht h1;refine ANm hI.AGf (I8.2 ⟨λx y=>(I8.1 he.srt).1 x (BK.1 y).1,D5 _ (I8.1 he.srt).2⟩) (Cf (C3 _ _) he.len) λx y=>he.r x (BK.1 y).1
 ·exact hI.AGf.mono ox
theorem AM3{l:List Bu}{i:Int}(z:H∈l)(he:H.Ac.Ab=i)(hu:∀a∈l,a.Ac.Ab=i->a=H):l.find? (λH=>H.Ac.Ab==i)=some H:=by
 cases y:l.find? λH=>H.Ac.Ab==i with
 |none=>exact absurd (Q8.1 y H z) (by simp[he])
 |some a=>rw[hu a (IX y) (by simpa using Uu y)]
theorem AFb{α:Type}{p:α->Bool}{x:α}:∀{l:List α}{j:Nat}(y:j<l.length),p l[j]=false->p x=false->(l.set j x).find? p=l.find? p
 |a::l,0,_,h1,h2=>by
  have h1:p a=false:=h1;rw[Wl,KB,KB,h1,h2]
 |a::l,j+1,y,h1,h2=>by
  have h1:p (l[j]'(by simpa using y))=false:=h1;rw[Wm,KB,KB,AFb (l:=l) (by simpa using y) h1 h2]
open Classical in
theorem AFe(Z:r.Ok)(h:QI r s)(z:j<s.AU.length)(ht:t<r.Al.length)(h1:H.Ac=⟨s.AU[j].Ac.Ab,exP r s.AU[j] t⟩)(h2:H.C9=s.AU[j].C9)(h3:H.exec=s.AU[j].exec.set t true):sig (s.AU.set j H)=(sig s.AU).run r.D s.AU[j].Ac.Ab t:=by
 have N:=AW z;have hI:=h.ni _ N;have aa:=hI.xl;have hid:H.Ac.Ab=s.AU[j].Ac.Ab:=by rw[h1]
 unfold sig PS.run
 congr 1
 ·funext i u
  refine propext ⟨λ⟨nd,hm,e,y⟩=>?_,λ⟨nd,hm,e,y⟩=>?_⟩
  ·rcases(Gb h z nd).1 hm with rfl|⟨W,g2⟩
   ·exact⟨_,N,by rw[<- hid];exact e,by unfold XT at y⊢;rw[<- h2];exact y⟩
   ·exact⟨nd,W,e,y⟩
  ·by_cases K:nd.Ac.Ab=s.AU[j].Ac.Ab
   ·have:=h.uniq hm N K;subst this;exact⟨H,(Gb h z H).2 (.inl Y),by rw[hid];exact e,by unfold XT at y⊢;rw[h2];exact y⟩
   ·exact⟨nd,(Gb h z nd).2 (.inr ⟨hm,K⟩),e,y⟩
 ·funext i u
  refine propext ⟨λ⟨nd,hm,e,y⟩=>?_,λy=>?_⟩
  ·rcases(Gb h z nd).1 hm with rfl|⟨W,g2⟩
   ·rw[hid]at e;by_cases hu:u=t
    ·exact .inr ⟨e.symm,hu⟩
    ·refine .inl ⟨_,N,e,?_⟩;unfold WV at y⊢;rw[h3,JO (λX=>hu X.symm)]at y;exact y
   ·exact .inl ⟨nd,W,e,y⟩
  ·rcases y with⟨nd,hm,e,y⟩|⟨rfl,rfl⟩
   ·by_cases K:nd.Ac.Ab=s.AU[j].Ac.Ab
    ·have:=h.uniq hm N K;subst this;refine⟨H,(Gb h z H).2 (.inl Y),by rw[hid];exact e,?_⟩;unfold WV at y⊢;rw[h3];by_cases hu:u=t
     ·subst hu;rw[Ka ox]
     ·rw[JO (λX=>hu X.symm)];exact y
    ·exact⟨nd,(Gb h z nd).2 (.inr ⟨hm,K⟩),e,y⟩
   ·refine⟨H,(Gb h z H).2 (.inl Y),hid,?_⟩;unfold WV;rw[h3,Ka ox]
 ·funext i k
  have hu:∀a∈s.AU.set j H,a.Ac.Ab=s.AU[j].Ac.Ab->a=H:=λa ha e=>by
   rcases(Gb h z a).1 ha with g|g
   ·exact g
   ·exact absurd e g.2
  show(sig (s.AU.set j H)).val i k=if i=s.AU[j].Ac.Ab/\r.D.wr t k/\r.D.own k=s.AU[j].Ac.Ab then r.D.s (t+1) k else(sig s.AU).val i k
  by_cases hi:i=s.AU[j].Ac.Ab
  ·subst hi;rw[h.val N k];have e:(sig (s.AU.set j H)).val s.AU[j].Ac.Ab k=Ii H.Ac.BF k:=by
    show(match(s.AU.set j H).find? λnd=>nd.Ac.Ab==s.AU[j].Ac.Ab with|some nd=>Ii nd.Ac.BF k|none=>⟨0,0,[]⟩)=_;rw[AM3 ((Gb h z H).2 (.inl Y)) hid hu]
   rw[e,h1];by_cases O:r.D.wr t k/\Bl r.p k=s.AU[j].Ac.Ab
   ·rw[if_pos ⟨Y,O⟩];have:=AIT Z hI ht k;rwa[if_pos O]at this
   ·rw[if_neg λe=>O e.2];have:=AIT Z hI ht k;rwa[if_neg O]at this
  ·rw[if_neg λe=>hi e.1];show(match(s.AU.set j H).find? λnd=>nd.Ac.Ab==i with|some nd=>Ii nd.Ac.BF k|none=>⟨0,0,[]⟩)=(match s.AU.find? λnd=>nd.Ac.Ab==i with|some nd=>Ii nd.Ac.BF k|none=>⟨0,0,[]⟩);rw[AFb z (by simpa usingλe=>hi e.symm) (by rw[hid];simpa usingλe=>hi e.symm)]
end
variable {bd:List Bb}
section
open Go.ChangeShapes
variable {r:Rd} {s:JL}
theorem WD{i:Int}(h:Z≠i\/u≠t\/¬r.D.exr Z u):QB r.D (σ.run r.D i t) Z u↔QB r.D σ Z u:=
 ⟨λg=>⟨λy=>(g.1 y).elim id λe=>by
  rcases h with h|h|h
  ·grind
  ·grind
  ·exact absurd y h,g.2⟩,λg=>⟨λy=>.inl (g.1 y),g.2⟩⟩
theorem AJc(h:QI r s)(z:H∈s.AU)(K:RE r H t)(hp:H.Ac.Ab∈CL r.p (r.ft t)):(sig s.AU).C9 H.Ac.Ab t:=by
 have y:=K.2.2.2;unfold AJn at y;rw[Aq,AAD]at y;have⟨m,hm,e⟩:=Gg.1 (y.2 _ hp);simp only[Aq,B1]at e;obtain⟨u,fr,a,b,c,d,rfl⟩:=(h.ni H z).inb m hm;have O:((u:Nat):Int)=((t:Nat):Int):=e.1.1;have N:fr=H.Ac.Ab:=e.1.2;have:u=t:=ox
 rw[<- this,<- N];exact d
theorem AJf(hk:r.Ok)(h:QI r s)(O:j<s.AU.length)(K:RE r s.AU[j] t)(h1:H.Ac=⟨s.AU[j].Ac.Ab,exP r s.AU[j] t⟩)(h2:H.C9=s.AU[j].C9)(h3:H.exec=s.AU[j].exec.set t true)(h4:H.C5=s.AU[j].C5)(h5:Q4 (r.WA ((sig s.AU).run r.D s.AU[j].Ac.Ab t) s.AU[j].Ac.Ab) H.table)(h6:bd=if(DX r.p (r.ft t))[0]? =some s.AU[j].Ac.Ab then s.DP.set t (r.ef t)else s.DP):QI r {s with AU:=s.AU.set j H,DP:=bd}:=by
 have Z:=AW O;have hI:=h.ni _ Z;have y:=AFe hk h O K.1 h1 h2 h3;have hid:H.Ac.Ab=s.AU[j].Ac.Ab:=by rw[h1]
 have N:(sig (s.AU.set j H)).C9=(sig s.AU).C9:=by rw[y];rfl
 have ad:bd.length=s.DP.length:=by grind
 refine⟨h.ps,h.p,h.tx,h.fo,h.pa,h.ex,by rw[<- h.ids];exact AH1 O hid,λnd hm=>?_,?_,?_,h.trn,λm hm nd ae=>?_,λu fr to g1 g2 g3 g4=>?_,by rw[<- h.efl];exact ad,λu hu i hi hx=>?_⟩
 ·show NI r (sig (s.AU.set j H)) nd;rcases(Gb h O nd).1 hm with rfl|⟨g1,g2⟩
  ·refine⟨by rw[h2];exact hI.sl,by rw[h3,Cr];exact hI.xl,by rw[h1,h3];exact AM5 hk hI K.1 K.2.2.1,by rw[h1];exact AM6 hk hI K.1,by rw[hid,y];exact h5,?_,by rw[h4];exact hI.inn⟩;rw[h4,hid,N];exact hI.inb
  ·have W:=h.ni nd g1;refine⟨W.sl,W.xl,W.AGf,W.own,?_,?_,W.inn⟩
   ·rw[y,U3 λu _=>WD (.inl g2)];exact W.tab
   ·rw[N];exact W.inb
 ·show Vb r.D (sig (s.AU.set j H));rw[y];exact h.AE5.run hk.d K.1 ⟨K.1,K.2.1⟩ (λe=>K.2.2.1 ((h.exec Z).1 e)) λhp=>AJc h Z K hp.2
 ·show∀m∈s.A6,∃t fr to,_/\_/\_/\(sig (s.AU.set j H)).C9 fr t/\_;rw[N];exact h.tr
 ·rcases(Gb h O nd).1 ae with rfl|⟨g1,_⟩
  ·rw[h4];exact h.dis m hm _ Z
  ·exact h.dis m hm nd g1
 ·have aa:(sig (s.AU.set j H)).C9 fr u:=g4;rw[N]at aa;rcases h.all u fr to g1 g2 g3 aa with g|⟨nd,a,b,c⟩
  ·exact .inl g
  ·by_cases ab:nd.Ac.Ab=s.AU[j].Ac.Ab
   ·have:=h.uniq a Z ab;subst this;exact .inr ⟨H,(Gb h O H).2 (.inl Y),by rw[hid];exact b,by rw[h4];exact c⟩
   ·exact .inr ⟨nd,(Gb h O nd).2 (.inr ⟨a,ab⟩),b,c⟩
 ·have z:(sig (s.AU.set j H)).exec i u:=hx;rw[y]at z;show bd[u]? =_;have ag:=h.efl;rw[h6];by_cases X:u=t
  ·subst X;rcases z with z|⟨rfl,_⟩
   ·have:=h.ef u hu i hi z;split
    ·rw[Ka ox]
    ·exact this
   ·rw[if_pos hi,Ka ox]
  ·have af:(sig s.AU).exec i u:=z.elim id λe=>absurd e.2 X;have:=h.ef u hu i hi af;split
   ·rw[JO (λe=>X e.symm)];exact this
   ·exact this
theorem ADl{E:List (Int×AV)}{T:BG}(h:Q4 E T){t:Int}(hm:∀x∈E,x.1≠t):∃K,G3 T t=some (K,9):=by
 have N:=h.el;have O:T.BM.length=E.length:=by rw[h.gl,Ap]
 have⟨i,hi,H⟩:=XR (l:=T.BM) ox t;have:i= -1:=by
  rcases H with⟨e,_⟩|⟨k,rfl,W,e,_⟩
  ·exact e
  ·have z:=AW W;generalize T.BM[k]=y at z e;rw[h.gl]at z;have⟨x,X,Z⟩:=List.mem_map.1 z;refine absurd ?_ (hm x X);have:=B2 A1.Is Z;rw[e]at this;exact this
 subst this;refine⟨⟨[],[]⟩,?_⟩;unfold G3;rw[Wx h,AY,hi,AY];rfl
open Classical in
theorem AJb(O:r.Ok)(h:QI r s)(hj:j<s.AU.length)(y:RE r s.AU[j] t):∃z,I3 s s.AU[j] (t:Int)=some z/\QI r {s with AU:=s.AU.set j z.1,DP:=z.2}/\sig (s.AU.set j z.1)=(sig s.AU).run r.D s.AU[j].Ac.Ab t/\z.1.C9=s.AU[j].C9/\z.1.exec=s.AU[j].exec.set t true:=by
 have hN:=O.n;have hn:=AW hj;have hI:=h.ni _ hn;have aj:=hI.xl;have hL:=O.hl;unfold HL at hL;have hlen:=hI.Rq.len;have⟨c,hc,af⟩:=AEB O h hn y;have Z:=ALQ O y.1;have ag:AN s.Xa (t:Int)=DX r.p (r.ft t):=by rw[A0 (by rw[h.ex,Ap,DC];exact y.1)];simp[h.ex]
 have aa:0<(DX r.p (r.ft t)).length:=KZ y.2.1;have ai:=h.efl
 suffices core:∃(H:Bu)(K:List Bb),I3 s s.AU[j] (t:Int)=some (H,K)/\H.Ac=⟨s.AU[j].Ac.Ab,exP r s.AU[j] t⟩/\H.C9=s.AU[j].C9/\H.exec=s.AU[j].exec.set t true/\H.C5=s.AU[j].C5/\Q4 (r.WA ((sig s.AU).run r.D s.AU[j].Ac.Ab t) s.AU[j].Ac.Ab) H.table/\K=if(DX r.p (r.ft t))[0]? =some s.AU[j].Ac.Ab then s.DP.set t (r.ef t)else s.DP by
  have⟨H,K,e,h1,h2,h3,h4,h5,h6⟩:=core;exact⟨_,e,AJf O h hj y h1 h2 h3 h4 h5 h6,AFe O h hj y.1 h1 h2 h3,h2,h3⟩
 have ab:QB r.D ((sig s.AU).run r.D s.AU[j].Ac.Ab t) s.AU[j].Ac.Ab t:=⟨λ_=>.inr ⟨Y,Y⟩,λhx=>absurd ⟨y.1,y.2.1⟩ hx⟩;have ad:∀N:Bu,N.table=s.AU[j].table->∃W,Hk N (t:Int)=some {N with table:=W}/\Q4 (r.WA ((sig s.AU).run r.D s.AU[j].Ac.Ab t) s.AU[j].Ac.Ab) W:=λN e=>by
  unfold Hk;rw[e];by_cases hp:s.AU[j].Ac.Ab∈CL r.p (r.ft t)
  ·have ah:¬QB r.D (sig s.AU) s.AU[j].Ac.Ab t:=λhr=>y.2.2.1 ((h.exec hn).1 (hr.1 ⟨y.1,y.2.1⟩));have⟨W,X,e2⟩:=ACr hI.tab (AD6 h hn y.1 hp ah);refine⟨W,by rw[X];rfl,?_⟩;rw[ACh (t:=t) (λu hu=>WD (.inr (.inl hu))) ab];exact e2
  ·have⟨W,X⟩:=ADl (t:=(t:Int)) hI.tab λx hx e=>by
    obtain⟨u,hu,rfl⟩:=List.mem_map.1 hx;have:=(of_decide_eq_true (BK.1 hu).2).1;have e:((u:Nat):Int)=((t:Nat):Int):=e;obtain rfl:u=t:=ox
    exact hp this.2
   refine⟨s.AU[j].table,by rw[X,AY];show some N=_;rw[<- e],?_⟩;rw[U3 λu hu=>WD (.inr (.inl λe=>?_))]
   ·exact hI.tab
   ·subst e;exact hp hu.2
 unfold I3;rw[A5 (by have:=y.1;omega),hc,AY,A5 (by rw[h.tx];have:=y.1;omega),af,h.ps,h.tx,A0 y.1,Z,AY,A5 (by rw[h.ex,Ap,DC];have:=y.1;omega),ag,A5 ox];have ae:(cond (s.AU[j].Ac.Ab==AN (DX r.p (r.ft t)) 0) (Ba (0<=(t:Int)/\(t:Int)<(s.DP.length:Int)) (some (s.DP.set (t:Int).toNat (r.ef t)))) (some s.DP))=some (if(DX r.p (r.ft t))[0]? =some s.AU[j].Ac.Ab then s.DP.set t (r.ef t)else s.DP):=by
  rw[show AN (DX r.p (r.ft t)) 0=(DX r.p (r.ft t))[0]from A0 (i:=0) aa,List.getElem?_eq_getElem aa,A5 (by have:=y.1;omega),Int.toNat_natCast];by_cases e:s.AU[j].Ac.Ab=(DX r.p (r.ft t))[0]
  ·grind
  ·grind
 rw[ae,AY,Int.toNat_natCast];by_cases h1:(r.ef t).Ad.DY=1
 ·have he:=O.run.ok t y.1 h1;have hf:R6 ((r.ef t).AX.filter λx=>Bl r.p x.Key==s.AU[j].Ac.Ab)=true:=
   I8.2 ⟨λx hx=>(I8.1 he.srt).1 x (BK.1 hx).1,D5 _ (I8.1 he.srt).2⟩
  have ak:((r.ef t).AX.filter λx=>Bl r.p x.Key==s.AU[j].Ac.Ab).length<=16384:=Cf (C3 _ _) he.len;have al:=he.len;rw[show((r.ef t).Ad.DY==(1:Int))=true by simpa using h1,cond_true,h.p,WL O.hp O.hv (l:=(r.ef t).AX) ox,AY,AFt (hI.Rq.ok ox) (AGg hf ox) hI.Rq.Rq hf ox,AY,AY];simp only[DE,cond_true];have⟨W,X,e2⟩:=ad {s.AU[j]with exec:=s.AU[j].exec.set t true,Ac:=⟨s.AU[j].Ac.Ab,am s.AU[j].Ac.BF ((r.ef t).AX.filter λx=>Bl r.p x.Key==s.AU[j].Ac.Ab)⟩} Y;rw[X,AY];exact⟨_,_,Y,by unfold exP;rw[if_pos h1],Y,Y,Y,e2,Y⟩
 ·rw[show((r.ef t).Ad.DY==(1:Int))=false by simpa using h1,AP,AY];have⟨W,X,e2⟩:=ad {s.AU[j]with exec:=s.AU[j].exec.set t true} Y;rw[X,AY];exact⟨_,_,Y,by unfold exP;rw[if_neg h1],Y,Y,Y,e2,Y⟩
end
variable {n:Nat}
section
open Go.ChangeShapes
variable {r:Rd}
def Rd.E(r:Rd)(t:Nat)(i:Int):List (Int×AV):=((List.range t).filter λu=>decide (i∈CL r.p (r.ft u))).map λu:Nat=>((u:Int),KN r.p (r.ft u) i)
theorem AMA(t:Nat)(i:Int):r.E (t+1) i=r.E t i++if i∈CL r.p (r.ft t)then[((t:Int),KN r.p (r.ft t) i)]else[]:=by
 unfold Rd.E;rw[AB4,K5,E0]
 congr 1
 by_cases h:i∈CL r.p (r.ft t)
 ·grind
 ·grind
theorem APl(t:Nat)(i:Int):(r.E t i).length<=t:=by
 unfold Rd.E;rw[Ap];exact Cf (C3 _ _) (by rw[DC];exact Nat.le_refl t)
structure NwN(r:Rd)(t:Nat)(nd:Bu):Prop where
 tab:Q4 (r.E t nd.Ac.Ab) nd.table
 ql:nd.table.Af.length<=128*t
 inb:nd.C5=[]
 sl:nd.C9=AH r.Al.length false
 xl:nd.exec=AH r.Al.length false
theorem Rd.Ok.fok(h:r.Ok)(t:Nat):FOk (r.ft t):=AIR (GL (h.v t)).2
theorem AK3(K:r.Ok){t:Nat}(ht:t<r.Al.length){l:List BA}(hl:l.length<=17):∀(n j:Nat)(K0:List Bu),K0.map (·.Ac)=l->j<=l.length->l.length-j<n->(∀i(hi:i<K0.length),NwN r (if i<j then t+1 else t) K0[i])->∃y,MT r.p (r.ft t) ((List.range (t+1)).map λu=>CL r.p (r.ft u)) (t:Int) n K0 (j:Int)=some y/\y.map (·.Ac)=l/\∀nd∈y,NwN r (t+1) nd
 |0,j,K0,_,_,h,_=>by omega
 |n+1,j,K0,hm,hj,hn,W=>by
  have hN:=K.n;have hlen:K0.length=l.length:=by grind
  unfold MT;rcases A7 j l.length with h|h
  ·have N:j<K0.length:=ox
   have hI:=W j N;rw[if_neg (Nat.lt_irrefl j)]at hI;rw[show decide ((j:Int)<((K0.length:Nat):Int))=true from Bw ox,cond_true,A5 ox,A0 N,AAG (q:=λu=>CL r.p (r.ft u)) (λ_=>Kv) (CE t),AY]
   suffices core:∃H,(cond (decide (K0[j].Ac.Ab∈CL r.p (r.ft t))) (Az (LQ r.p (r.ft t) K0[j].Ac.Ab) λX=>Az (IA K0[j].table (t:Int) X) λz=>some {K0[j]with table:=z.1}) (some K0[j]))=some {K0[j]with table:=H}/\NwN r (t+1) {K0[j]with table:=H} by
    have⟨H,e,hT⟩:=core;rw[e,AY,BB ox,Int.toNat_natCast];refine AK3 K ht hl n (j+1) _ ?_ h ox λi hi=>?_
    ·rw[List.map_set,hm];subst hm;refine TT zp λi h1 h2=>?_;rw[NJ];split
     ·grind
     ·rfl
    ·grind
   by_cases hp:K0[j].Ac.Ab∈CL r.p (r.ft t)
   ·rw[Bw hp,cond_true,AE3 K.hp (K.fok t),AY];have Z:=APl (r:=r) t K0[j].Ac.Ab;have⟨H,e1,e2,e3⟩:=AJC (t:=(t:Int)) (f:=KN r.p (r.ft t) K0[j].Ac.Ab) hI.tab (λx hx=>by
     obtain⟨u,hu,rfl⟩:=List.mem_map.1 hx;have:=Dz.1 (BK.1 hu).1;show((u:Nat):Int)<(t:Int);omega) ox (AJE (K.v t) _) ox (by have:=hI.ql;omega)
    refine⟨H,by rw[e1];rfl,?_,by show H.Af.length<=_;have:=hI.ql;omega,hI.inb,hI.sl,hI.xl⟩;show Q4 (r.E (t+1) K0[j].Ac.Ab) H;rw[AMA,if_pos hp];exact e2
   ·rw[Bd hp,AP];refine⟨K0[j].table,Y,?_,by show K0[j].table.Af.length<=_;have:=hI.ql;omega,hI.inb,hI.sl,hI.xl⟩;show Q4 (r.E (t+1) K0[j].Ac.Ab) K0[j].table;rw[AMA,if_neg hp,Du];exact hI.tab
  ·have:j=l.length:=ox
   subst this;rw[show decide (((l.length:Nat):Int)<((K0.length:Nat):Int))=false from Bd ox,AP];refine⟨K0,Y,hm,λnd O=>?_⟩;obtain⟨i,hi,rfl⟩:=BL O;have:=W i hi;rwa[if_pos ox]at this
theorem AIH(y:r.Ok){l:List BA}(hl:l.length<=17)(hp:∀x∈l,x.BF.length<=1099511627776):∀n i:Nat,i<=l.length->l.length-i<n->LA r.Al.length l n ((l.take i).map λx=>⟨x,⟨[],[]⟩,[],AH r.Al.length false,AH r.Al.length false⟩) (i:Int)=some (l.map λx=>⟨x,⟨[],[]⟩,[],AH r.Al.length false,AH r.Al.length false⟩)
 |0,i,_,h=>by omega
 |n+1,i,hi,z=>by
  have H:=y.n;unfold LA;rcases A7 i l.length with h|h
  ·have K:=hp _ (AW h);rw[show decide ((i:Int)<((l.length:Nat):Int))=true from Bw ox,cond_true,A5 ox,A0 h,A5 ox,A5 ox,A5 (by rw[Ap,Ao];omega),BB ox];refine Eq.trans ?_ (AIH y hl hp n (i+1) h ox)
   congr 1
   rw[Bk h,E0];rfl
  ·grind
theorem AIF(z:r.Ok){l:List BA}(hl:l.length<=17):∀(n t:Nat)(K0:List Bu),t<=r.Al.length->r.Al.length-t<n->K0.map (·.Ac)=l->(∀nd∈K0,NwN r t nd)->∃y,K9 r.p r.Al n ⟨K0,(List.range t).map r.ft,(List.range t).map λu=>CL r.p (r.ft u),(List.range t).map λu=>DX r.p (r.ft u)⟩ (t:Int)=some ⟨y,(List.range r.Al.length).map r.ft,(List.range r.Al.length).map λu=>CL r.p (r.ft u),(List.range r.Al.length).map λu=>DX r.p (r.ft u)⟩/\y.map (·.Ac)=l/\∀nd∈y,NwN r r.Al.length nd
 |0,t,K0,_,h,_,_=>by omega
 |n+1,t,K0,ht,X,hm,K=>by
  have Z:=z.n;have hlen:K0.length=l.length:=by grind
  unfold K9;rcases A7 t r.Al.length with h|h
  ·have N:ftX (r.Al[t].HK)=r.ft t:=by unfold Rd.ft;rw[List.getElem?_eq_getElem h];rfl
   have es:∀{α:Type}(g:Nat->α),(List.range t).map g++[g t]=(List.range (t+1)).map g:=λg=>by rw[AB4,E0];rfl
   rw[show decide ((t:Int)<((r.Al.length:Nat):Int))=true from Bw ox,cond_true,A5 ox,A0 h,Nz (z.tx _ (AW h)).f,AY];rw[show(cond (!Wt r.Al[t].HK) (⟨false,[],[]⟩:AV) r.Al[t].HK)=r.ft t from N,AY];dsimp only;rw[es r.ft,QD z.hp (z.fok t),Zd z.hp (z.fok t),AY,AY,es (λu=>CL r.p (r.ft u)),es (λu=>DX r.p (r.ft u))];rw[A5 (by rw[Ap,DC];omega),A5 (by rw[Ap,DC];omega),A5 (by rw[Ap,DC];omega)];have⟨y,H,O,W⟩:=AK3 z h hl (K0.length+1) 0 K0 hm ox ox λi hi=>by rw[if_neg (Nat.not_lt_zero i)];exact K _ (AW hi)
   rw[Ku]at H;rw[show(((K0.length:Nat):Int).toNat+1)=K0.length+1 by omega,H,AY,BB ox];exact AIF z hl n (t+1) y h ox O W
  ·grind
theorem ANa(h:(AH n false)[t]? =some true):False:=by
 rw[List.getElem?_replicate]at h;split at h
 ·cases h
 ·cases h
theorem AFN(hv:Md r.p=true)(y:G5 ah=true):GN r.p ah=(B9 r.p).map (Sn r.p ah):=by
 rw[GN,hv,y,FJ,if_pos Y]
theorem AFE(z:r.Ok):∃s,Mp r.ps r.p (GN r.p r.s0) r.Al=some s/\QI r s/\s.A6=[]:=by
 have hN:=z.n;have hL:=z.hl;unfold HL at hL;have H:Vx r.L r.s0:=by have:=z.run.sv 0 (By _);rw[z.run.s0]at this;exact this
 have X:=AFN z.hv H.Rq;have⟨l1,l2⟩:=AFL r.p r.s0;have hlen:=H.len;have e1:=AIH z (l:=GN r.p r.s0) l1 (λx O=>by have:=l2 x O;omega) ((GN r.p r.s0).length+1) 0 ox ox;rw[List.take_zero,Ge,Ku]at e1;have⟨K0,e2,e3,e4⟩:=AIF z (l:=GN r.p r.s0) l1 (r.Al.length+1) 0 ((GN r.p r.s0).map λx=>⟨x,⟨[],[]⟩,[],AH r.Al.length false,AH r.Al.length false⟩) ox ox (by rw[JI];exact List.map_id' _) λnd y=>by
  obtain⟨x,O,rfl⟩:=List.mem_map.1 y;refine⟨⟨List.Pairwise.nil,by simp[Rd.E],by simp[Rd.E],by simp[Rd.E],Y,⟨List.Pairwise.nil,by simp,λk z=>absurd Y z⟩,by simp⟩,by simp,Y,Y,Y⟩
 rw[List.range_zero,Ge,Ge,Ge,Ku]at e2;refine⟨⟨r.ps,r.p,r.Al,(List.range r.Al.length).map r.ft,(List.range r.Al.length).map λu=>CL r.p (r.ft u),(List.range r.Al.length).map λu=>DX r.p (r.ft u),K0,[],AH r.Al.length default⟩,?_,?_,Y⟩
 ·unfold Mp;rw[A5 ox,show((((GN r.p r.s0).length:Nat):Int).toNat+1)=(GN r.p r.s0).length+1 by omega,e1,AY,show(((r.Al.length:Nat):Int).toNat+1)=r.Al.length+1 by omega,e2,AY]
 ·have Z:∀nd∈K0,nd.Ac.Ab∈B9 r.p/\nd.Ac=Sn r.p r.s0 nd.Ac.Ab:=λnd y=>by
   have:nd.Ac∈GN r.p r.s0:=by grind
   rw[X]at this;have⟨i,hi,e⟩:=List.mem_map.1 this;rw[<- e];exact⟨hi,Y⟩
  have W:K0.map (λnd=>nd.Ac.Ab)=B9 r.p:=by
   have:K0.map (λnd=>nd.Ac.Ab)=(K0.map (·.Ac)).map (·.Ab):=by rw[JI];rfl
   rw[this,e3,X,JI];exact List.map_id' _
  have K:∀i t,¬(sig K0).C9 i t:=λi t ⟨nd,y,_,h⟩=>by unfold XT at h;rw[(e4 nd y).sl]at h;exact ANa h
  have N:∀i t,¬(sig K0).exec i t:=λi t ⟨nd,y,_,h⟩=>by unfold WV at h;rw[(e4 nd y).xl]at h;exact ANa h
  have aa:∀i t,¬QB r.D (sig K0) i t:=λi t h=>by
   by_cases O:r.D.exr i t
   ·exact N i t (h.1 O)
   ·exact K i t (h.2 O)
  refine⟨Y,Y,Y,Y,Y,Y,W,λnd y=>?_,⟨λi u v _ _ _ _ h=>absurd h (K i v),λi t h=>absurd h (N i t),λi t h=>absurd h (K i t),λk m hm h1 h2=>?_⟩,by simp,List.Pairwise.nil,by simp,λt fr to _ _ _ h=>absurd h (K fr t),by simp,λt _ i _ h=>absurd h (N i t)⟩
  ·have⟨g1,g2⟩:=Z nd y;have hn:=e4 nd y;refine⟨by rw[hn.sl,Fi],by rw[hn.xl,Fi],?_,?_,?_,by rw[hn.inb];simp,by rw[hn.inb];exact List.Pairwise.nil⟩
   ·rw[g2];exact(H.filter _).mono ox
   ·intro x O;rw[g2]at O;exact eq_of_beq (BK.1 O).2
   ·have:r.WA (sig K0) nd.Ac.Ab=r.E r.Al.length nd.Ac.Ab:=by
     unfold Rd.WA Rd.E
     congr 1
     refine AJ6 λu hu=>?_;rw[decide_eq_decide];exact⟨λh=>h.1.2,λh=>⟨⟨Dz.1 hu,h⟩,aa _ _⟩⟩
    rw[this];exact hn.tab
  ·have hw:∀u,0<=u->u<m->¬r.D.wr u k:=λu _ hu hw=>N _ _ (h1 u hu hw);rw[AH2 z.d (By m) hm hw];show _=Ii (r.st 0) k;rw[z.run.s0];have ho:=Nn z.hv k;rw[<- W]at ho;have⟨nd,y,he⟩:=List.mem_map.1 ho;have hu:∀a∈K0,a.Ac.Ab=Bl r.p k->a.Ac=Sn r.p r.s0 (Bl r.p k):=λa ha e=>by rw[(Z a ha).2,e]
   show(match K0.find? λnd=>nd.Ac.Ab==Bl r.p k with|some nd=>Ii nd.Ac.BF k|none=>⟨0,0,[]⟩)=_;cases hf:K0.find? λnd=>nd.Ac.Ab==Bl r.p k with
   |none=>exact absurd (Q8.1 hf nd y) (by simp[he])
   |some a=>
    show Ii a.Ac.BF k=_;rw[hu a (IX hf) (by simpa using Uu hf)];exact(Ny (Eg.1 H.Rq).2 (λx=>Bl r.p x==Bl r.p k) k).trans (if_pos zp)
end
variable {p:AI}
section
open Go.ChangeShapes
variable {r:Rd} {s:JL}
theorem Wz{α:Type}(g:α->Nat){x:α}:∀{l:List α}{j:Nat}(y:j<l.length),((l.set j x).map g).sum+g l[j]=(l.map g).sum+g x
 |a::l,0,_=>by
  rw[Wl,B8,B8,QK,QK,List.getElem_cons_zero];omega
 |a::l,j+1,h=>by
  have:=Wz g (x:=x) (l:=l) (j:=j) (by simpa using h);rw[Wm,B8,B8,QK,QK,List.getElem_cons_succ];omega
theorem AGa{α:Type}{g:α->Nat}{m:Nat}:∀{l:List α},(∀x∈l,g x<=m)->(l.map g).sum<=l.length*m
 |[],_=>by simp
 |x::l,h=>by
  have h1:=AGa (g:=g) (m:=m) (l:=l) λy z=>h y (by simp[z]);have h2:=h x zp;rw[B8,QK,Bz,Vc];omega
theorem AEE:∀{l:List Bool}{t:Nat},t<l.length->¬l[t]? =some true->(l.set t true).count false+1=l.count false
 |b::l,0,_,h=>by
  cases b with
  |true=>exact absurd Y h|false=>simp
 |b::l,t+1,hl,h=>by
  have:=AEE (l:=l) (t:=t) (by simpa using hl) (by simpa using h);rw[Wm,List.count_cons,List.count_cons];omega
def muY(s:JL):Nat:=18*(s.AU.map λnd=>nd.C9.count false).sum+s.A6.length+(s.AU.map λnd=>nd.exec.count false).sum
theorem AOI(h:QI r s):muY s<=323*r.Al.length+s.A6.length:=by
 have hl:=h.nl;have h1:=AGa (g:=λnd:Bu=>nd.C9.count false) (m:=r.Al.length) (l:=s.AU) λnd y=>by have:=(h.ni nd y).sl;have:=AEZ (a:=false) (l:=nd.C9);omega
 have h2:=AGa (g:=λnd:Bu=>nd.exec.count false) (m:=r.Al.length) (l:=s.AU) λnd y=>by have:=(h.ni nd y).xl;have:=AEZ (a:=false) (l:=nd.exec);omega
 have h3:s.AU.length*r.Al.length<=17*r.Al.length:=Cm _ hl;unfold muY;omega
theorem AN1(O:r.Ok)(h:QI r s){a:Mk}(ha:AMD r s a):∃W,N4 s a=some W/\QI r W/\muY W<muY s:=by
 have hl:=h.nl;cases ha with
 |send j t y H=>
  have hI:=h.ni _ (AW y);have⟨z,e,K,g2,_,N,X⟩:=AN5 O h y H;refine⟨_,?_,K,?_⟩
  ·unfold N4;rw[if_pos Y];dsimp only;rw[A5 ox,A0 y,e,AY,Int.toNat_natCast]
  ·have Z:=Wz (λnd:Bu=>nd.C9.count false) (x:=z.1) y;have s2:=Wz (λnd:Bu=>nd.exec.count false) (x:=z.1) y;rw[N]at Z;rw[X]at s2;have:=AEE (l:=s.AU[j].C9) (t:=t) (by have:=hI.sl;have:=H.1;omega) H.2.2.1;unfold muY;dsimp only;omega
 |AIX i b hi=>
  have⟨z,e,K,g2,N,hz⟩:=AJl O h hi;refine⟨_,?_,K,?_⟩
  ·unfold N4;rw[if_neg (show¬(61:Nat)=60 by decide),if_pos Y];dsimp only;rw[e,AY]
  ·unfold muY;dsimp only;rw[hz,JI,JI];rw[show((λnd:Bu=>nd.C9.count false)∘dl s.A6[i])=λnd:Bu=>nd.C9.count false from funext λnd=>by show(dl _ nd).C9.count false=_;rw[(QG _ nd).2.1],show((λnd:Bu=>nd.exec.count false)∘dl s.A6[i])=λnd:Bu=>nd.exec.count false from funext λnd=>by show(dl _ nd).exec.count false=_;rw[(QG _ nd).2.2.1]];omega
 |AIS j t y H=>
  have hI:=h.ni _ (AW y);have⟨z,e,K,_,N,X⟩:=AJb O h y H;refine⟨_,?_,K,?_⟩
  ·unfold N4;rw[if_neg (show¬(64:Nat)=60 by decide),if_neg (show¬(64:Nat)=61 by decide),if_pos Y];dsimp only;rw[A5 ox,A0 y,e,AY,Int.toNat_natCast]
  ·have Z:=Wz (λnd:Bu=>nd.C9.count false) (x:=z.1) y;have s2:=Wz (λnd:Bu=>nd.exec.count false) (x:=z.1) y;rw[N]at Z;rw[X]at s2;have:=AEE (l:=s.AU[j].exec) (t:=t) (by have:=hI.xl;have:=H.1;omega) H.2.2.1;unfold muY;dsimp only;omega
theorem ALb{choices:List Int}{step:Nat}(y:0<n)(h2:n<=1099511627776):∃c:Nat,PY choices (step:Int) (n:Int)=some (c:Int)/\c<n:=by
 unfold PY;by_cases H:step<choices.length
 ·rw[show decide (((choices.length:Nat):Int)<=(step:Int))=false from Bd ox];simp only[DE,forall_const,cond_true,Ck];rw[A5 ox];by_cases z:AN choices (step:Int)<0
  ·grind
  ·rw[Bd z,AP,A5 ox,A5 ox];refine⟨(AN choices (step:Int)).toNat%n,?_,Nat.mod_lt _ y⟩;unfold AAw;rw[Int.tmod_eq_emod_of_nonneg ox,Int.natCast_emod,Mx ox]
 ·rw[show decide (((choices.length:Nat):Int)<=(step:Int))=true from Bw ox];rw[A5 zp,AKE,cond_true];exact⟨0,Y,y⟩
def Idle(r:Rd)(s:JL):Prop:=s.A6=[]/\∀nd∈s.AU,∀t,¬P1 r s nd t/\¬RE r nd t
theorem AK9(H:r.Ok){choices:List Int}:∀(n:Nat)(s:JL)(step:Nat),QI r s->muY s<n->step+n<=9223372036854775807->∃z,MU choices n s (step:Int)=some z/\QI r z/\Idle r z
 |0,s,step,_,h,_=>by omega
 |n+1,s,step,h,hm,X=>by
  have⟨y,e,h1,h2,h3⟩:=AJs H h;unfold MU;rw[e,AY];rcases Nat.eq_zero_or_pos y.length with h0|h0
  ·have:y=[]:=Jt.1 h0;subst this;exact⟨s,Y,h,h3 Y⟩
  ·rw[show(((y.length:Nat):Int)==(0:Int))=false from Bh.2 ox,AP];have⟨c,N,K⟩:=ALb (choices:=choices) (step:=step) h0 h1;have⟨z,O,W,Z⟩:=AN1 H h (h2 _ (AW K));rw[N,AY,A5 ox,A0 K,O,AY,BB ox];exact AK9 H n z (step+1) W ox ox
theorem AJe{f:AV}(hv:v30 p f=true){x:Int}(h:x∈DX p f):x∈B9 p:=by
 have y:=(GL hv).1;by_cases z:0<(CL p f).length
 ·exact UK hv (ABF z h)
 ·unfold DX at h;rw[if_pos hv]at h;split at h
  ·rename_i N;exact absurd (KZ (ABX (AW N))) z
  ·rw[List.mem_singleton]at h;subst h;have H:=Lg.1 y;have hl:=H.len;have K:=H.node 0 ox;rw[B9,if_pos y,QV];exact⟨K.1,by have:=K.2;show(ap p.AG 0).Ab<_;omega,(SH _ _ _).2 ⟨0,by omega,.inl Y⟩⟩
theorem AJV(N:r.Ok)(h:QI r s)(hi:Idle r s)(t:Nat):∀i,(r.D.part i t->(sig s.AU).C9 i t)/\(r.D.exr i t->(sig s.AU).exec i t):=by
 induction t using Nat.strongRecOn with
 |ind t W=>
  have H:∀i,r.D.part i t->(sig s.AU).C9 i t:=λi hp=>by
   obtain⟨nd,y,rfl⟩:=h.node (UK (N.v t) hp.2);by_cases H:XT nd t
   ·exact(h.C9 y).2 H
   ·exact absurd ⟨hp.1,hp.2,H,h.AE5.ACF λu hu i=>W u hu i⟩ (hi.2 nd y t).1
  refineλi=>⟨H i,λz=>?_⟩;obtain⟨nd,y,rfl⟩:=h.node (AJe (N.v t) z.2);by_cases he:WV nd t
  ·exact(h.exec y).2 he
  ·refine absurd ⟨z.1,z.2,he,?_⟩ (hi.2 nd y t).2;unfold AJn;rw[N.v t,Cw,AAD];intro fr K;rcases h.all t fr _ z.1 K z.2 (H fr ⟨z.1,K⟩)with g|⟨X,Z,g2,O⟩
   ·rw[hi.1]at g;simp at g
   ·rw[h.uniq Z y g2]at O;exact Gg.2 ⟨_,O,by simp[Rd.ml,NR,Sn]⟩
theorem ALJ(z:r.Ok)(h:QI r s)(hi:Idle r s):s.AU.map (λnd=>nd.Ac)=GN r.p (r.st r.Al.length)/\s.DP=(List.range r.Al.length).map r.ef:=by
 have K:=AJV z h hi;have y:=(z.run.sv _ (Nat.le_refl r.Al.length)).Rq;constructor
 ·rw[AFN z.hv y,<- h.ids,JI];refine Cu λnd N=>?_;have hI:=h.ni nd N;show nd.Ac=Sn r.p (r.st r.Al.length) nd.Ac.Ab;have:nd.Ac.BF=(r.st r.Al.length).filter λx=>Bl r.p x.Key==nd.Ac.Ab:=by
   refine AH0 hI.Rq.Rq (HS y _) λk=>?_;refine Eq.trans ?_ (Ny (Eg.1 y).2 (λx=>Bl r.p x==nd.Ac.Ab) k).symm;by_cases H:Bl r.p k=nd.Ac.Ab
   ·rw[if_pos (by rw[H];simp),<- h.val N k];have hv:=h.AE5.Oo k r.Al.length (Nat.le_refl _) (λu hu hw=>(K u _).2 (z.d.wp u k hu hw).2) λu h1 h2 _=>absurd h2 (Nat.not_lt.2 h1);rw[show r.D.own k=nd.Ac.Ab from H]at hv;exact hv
   ·rw[if_neg (by simpa using H)];exact QX λx O e=>H (by rw[<- e];exact hI.own x O)
  unfold Sn;rw[<- this]
 ·refine G2 λt=>?_;rcases A7 t r.Al.length with ht|ht
  ·have hp:=AHH (z.v t);have e:(DX r.p (r.ft t))[0]? =some (DX r.p (r.ft t))[0]:=List.getElem?_eq_getElem hp;rw[h.ef t ht _ e ((K t _).2 ⟨ht,AW hp⟩)];rw[EX,List.getElem?_range ht];rfl
  ·rw[G8 (by rw[h.efl];exact ht),G8 (by rw[Ap,DC];exact ht)]
theorem AOa(y:r.Ok)(choices:List Int):Oh r.ps r.p (GN r.p r.s0) r.Al choices=some (GN r.p (r.st r.Al.length),(List.range r.Al.length).map r.ef):=by
 have hN:=y.n;have K:=y.hl2;have z:Vx r.L r.s0:=by have:=y.run.sv 0 (By _);rw[y.run.s0]at this;exact this
 have hlen:=z.len;have⟨s,N,h1,h2⟩:=AFE y;have hm:=AOI h1;rw[h2,HI]at hm;have⟨s',H,h3,O⟩:=AK9 y (choices:=choices) 1099511627776 s 0 h1 ox ox;rw[Ku]at H;have⟨W,X⟩:=ALJ y h3 O;have Z:=h3.nl;unfold Oh;rw[RU y.hp (AAP r.p (z.ok ox) ox),AAQ y.hv z.Rq,AY,BC,AP,N,AY,H,AY,A5 ox,W,X]
end
section
open Go.ChangeShapes
theorem ANe{L:Nat->Int->AA Bool}{J:AA Bool}{len:Nat}(hl:len<=1099511627776)(h1:∀(n i:Nat),i<len->L (n+1) (i:Int)=L n (AB ((i:Int)+1)))(h2:∀n,L (n+1) (len:Int)=J):∀n i:Nat,i<=len->len-i<n->L n (i:Int)=J
 |0,i,_,h=>by omega
 |n+1,i,hi,y=>by
  rcases A7 i len with h|h
  ·rw[h1 n i h,BB ox];exact ANe hl h1 h2 n (i+1) h ox
  ·obtain rfl:i=len:=ox
   exact h2 n
theorem AG4{L:Nat->Int->AA Bool}{J:AA Bool}{len:Nat}(hl:len<=1099511627776)(h1:∀(n i:Nat),i<len->L (n+1) (i:Int)=L n (AB ((i:Int)+1)))(h2:∀n,L (n+1) (len:Int)=J):L (((len:Nat):Int).toNat+1) 0=J:=by
 have:=ANe hl h1 h2 (len+1) 0 ox ox;rw[Ku]at this;rw[show(((len:Nat):Int).toNat+1)=len+1 by omega];exact this
theorem AC9{l:List A9}(hl:l.length<=1099511627776):Fg l l=some true:=by
 unfold Fg;rw[Fo,AP,CM];refine AG4 (L:=λn i=>D7 l l (some true) n i) hl (λn i h=>?_) λn=>?_
 ·conv=>lhs;unfold D7
  rw[Bw ox,cond_true,A5 ox,A5 ox,Fo,AP]
 ·conv=>lhs;unfold D7
  rw[Bd ox,AP]
theorem AFg{e:Bb}(h:EfL e):JF e e=some true:=by
 have⟨h1,h2,h3,y⟩:=h;unfold JF;rw[Fo,Fo,Fo,Gi,Gi,AP,CM];refine AG4 (L:=λn i=>Ey e e _ n i) h1 (λn i h=>?_) λn=>?_
 ·conv=>lhs;unfold Ey
  rw[Bw ox,cond_true,A5 ox,A5 ox];simp only[DE,FJ,BC,AP]
 ·conv=>lhs;unfold Ey
  rw[Bd ox,AP,AC9 h2,AY,AC9 h3,AKc ox ox,(Xd WJ).2 Y];simp only[DE,FP,AY,FJ]
theorem AHa{l:List Bb}(hl:l.length<=1099511627776)(h:∀e∈l,EfL e):Jp l l=some true:=by
 unfold Jp;rw[Fo,AP,CM];refine AG4 (L:=λn i=>FM l l (some true) n i) hl (λn i hi=>?_) λn=>?_
 ·conv=>lhs;unfold FM
  rw[Bw ox,cond_true,A5 ox,A5 ox,A0 hi,AFg (h _ (AW hi)),AY,BC,AP]
 ·conv=>lhs;unfold FM
  rw[Bd ox,AP]
end
section
open Go.ChangeShapes
set_option maxRecDepth 100000 in
theorem S4:Hm=some true:=by
 simp only[Hm,Hv,Hs,Ht,IM,Hu,EC,Kx,JR,Kf,LR,Jo,FD,AKY]
 kernel_rfl
theorem AI1{L:Nat}(hv:Md p=true)(hp:Qa p)(y:Vx L ah)(X:L<=17180917760){m:HC}(O:m.Key.length<JJ):∃z,Md z=true/\Qa z/\∀J:AI->List BA->AA Bool,jn J (λJ=>cond ((Ys p (GN p ah) m).2.2==0) (J (Ys p (GN p ah) m).1 (Ys p (GN p ah) m).2.1) (J p (GN p ah)))=J z (GN z ah):=by
 have hlen:=y.len;have H:=AAP p (y.ok ox) (show ah.length<=34359738368 by omega);have K:p.AG.length<=1000:=by have:=(Lg.1 hv).len;omega
 have N:=AAQ hv y.Rq;unfold Ys;rw[N,AFM hv y.Rq];cases hm:AGv m with
 |false=>exact⟨p,hv,hp,λJ=>Y⟩|true=>
  by_cases h0:(PZ p (GN p ah) m).2=0
  ·refine⟨(PZ p (GN p ah) m).1,(AGc N h0 (AE4 hm)).1,AKo hp K H O,λJ=>?_⟩;rw[h0];rfl
  ·refine⟨p,hv,hp,λJ=>?_⟩;have e:((PZ p (GN p ah) m).2 !=0)=true:=bne_iff_ne.2 h0;have W:((PZ p (GN p ah) m).2==0)=false:=Bh.2 h0;rw[e];rw[CM];show cond ((PZ p (GN p ah) m).2==0) _ _=_;rw[W];rfl
structure AOs(t:Vw):Prop where
 k:t.Marker.Key.length<JJ
 tx:∀x∈t.PH,ALw x
theorem AFR{ps:List Ce}{l:List Vw}(H:AHg ps)(hl:l.length<=20)(ht:∀t∈l,AOs t){J:AA Bool}:∀(n i:Nat)(p:AI)(state:List AR)(L:Nat),i<=l.length->l.length-i<n->Md p=true->Qa p->Vx L state->L+16384*((l.drop i).map λt=>t.PH.length).sum<=17180917760->((l.drop i).map λt=>t.PH.length).sum<=1048575->EZ l ps J n p state (GN p state) (i:Int)=J
 |0,i,_,_,_,_,h,_,_,_,_,_=>by omega
 |n+1,i,p,state,L,hi,hn,hv,hp,W,Z,hN=>by
  conv=>lhs;unfold EZ
  rcases A7 i l.length with h|h
  ·rw[A4 h,B8,QK]at Z hN;have hT:=ht _ (AW h);have hlen:=W.len;have X:p.AG.length<=1000:=by have:=(Lg.1 hv).len;omega
   have⟨N,z,K,hJ⟩:=AI1 hv hp W ox hT.k;have⟨st,ef,R⟩:=runs H hT.tx W (show L+16384*l[i].PH.length<=HL by unfold HL;omega);have hk:Rd.Ok ⟨ps,N,state,l[i].PH,L,st,ef⟩:=⟨K,z,H,hT.tx,by show l[i].PH.length<=_;omega,by show L+16384*l[i].PH.length<=HL;unfold HL;omega,by show 36*(L+16384*l[i].PH.length)<_;omega,R⟩;have hR:Oh ps N (GN N state) l[i].PH l[i].Rn=some (GN N (st l[i].PH.length),(List.range l[i].PH.length).map ef):=AOa hk l[i].Rn;have y:=R.sv _ (Nat.le_refl l[i].PH.length);have aa:=y.len;have O:=AAP N (y.ok ox) (show(st l[i].PH.length).length<=34359738368 by omega);rw[Bw ox,cond_true,A5 ox,A0 h,AHU hp X (AAP p (W.ok ox) ox) hT.k,AY,hJ];rw[A5 ox,A5 ox,hR,AY,A5 ox,AGk R (by unfold HL;omega),AY];dsimp only;rw[UT O,AFM z y.Rq,AY];dsimp only;rw[Fo,DE,FP,AGx ox,AY];simp only[BC,Gi,DE,FP];rw[AHa (by rw[Ap,DC];omega) (λe he=>by
    obtain⟨t,ht,rfl⟩:=List.mem_map.1 he;exact R.el t (Dz.1 ht)),AY]
   simp only[BC,Gi,DE,FP];rw[RU K O,AAQ z y.Rq,AY];simp only[BC,Gi,AP];rw[BB ox];exact AFR H hl ht n (i+1) N (st l[i].PH.length) (L+16384*l[i].PH.length) h ox z K y ox ox
  ·obtain rfl:i=l.length:=ox
   rw[Bd ox,AP]
theorem XC(ps:List Ce)(p:AI)(state:List AR)(l:List Vw)(z:AHg ps)(hp:Qa p)(O:JG state)(W:∀x∈state,Rz x.JK.N)(H:state.length<=1048576)(ht:∀t∈l,AOs t)(hl:(l.map λt=>t.PH.length).sum<=1048575):I4 ps p state l=some true:=by
 unfold I4;by_cases y:(20:Int)<((l.length:Nat):Int)
 ·rw[Bw y];simp only[AKE,show(true==false)=false by rfl,VC,AY,cond_true,S4]
 ·rw[Bd y];simp only[Ck,DE,FP];rw[F4 hp.l hp.s,AY];cases hv:Md p with
  |false=>simp only[GJ,AKE,show(true==false)=false by rfl,VC,AY,cond_true,S4]
  |true=>
   simp only[BC,Ck,DE,FP];rw[AGZ O,AY];cases K:G5 state with
   |false=>simp only[GJ,AY,cond_true,S4]|true=>
    simp only[BC,AP];rw[Ya hp O ox,AY,CM,S4,AY];have:=AFR (J:=some true) z (show l.length<=20 by omega) ht (l.length+1) 0 p state 1048576 ox ox hv hp ⟨K,W,H⟩ (by rw[PI];omega) (by rw[PI];omega);rw[Ku]at this;rw[show(((l.length:Nat):Int).toNat+1)=l.length+1 by omega];exact this
end
variable {P:Program} {e sz:Nat} {aB:World} {cs:List Value} {bc:Array Field}
section
open Go.ChangeShapes Go.WideShapes Go.ChangeAt Go.RowKit
open Rows (uptoBulk uptoBulkAll)
theorem Xg{H:Type}(d:DataW H):1<=uptoBulk d:=by
 cases d with
 |lit l=>cases l<;>simp[uptoBulk]|nil=>simp[uptoBulk]|ptr d=>simp[uptoBulk]|slice elems spare=>simp[uptoBulk]|agg parts=>simp[uptoBulk]|iface t d=>simp[uptoBulk]|map entries=>simp[uptoBulk]|held h=>simp[uptoBulk]
theorem ABO{H:Type}{d:DataW H}:∀{l:List (DataW H)},d∈l->uptoBulk d<=uptoBulkAll l
 |x::r,h=>by
  simp only[uptoBulkAll];rcases Aj.1 h with e|e
  ·subst e;omega
  ·have:=ABO e;omega
theorem AFo{H:Type}:∀l:List (DataW H),l.length<=uptoBulkAll l
 |[]=>by simp[uptoBulkAll]
 |x::r=>by
  have:=Xg x;have:=AFo r;simp only[uptoBulkAll,Bz];omega
theorem AFn{α H:Type}{m:α->Nat}:∀{l:List α}{D:Nat->DataW H},(∀i x,l[i]? =some x->m x<=uptoBulk (D i))->(l.map m).sum<=uptoBulkAll ((List.range l.length).map D)
 |[],D,_=>by simp
 |x::l,D,h=>by
  have h1:=h 0 x Y;have h2:=AFn (m:=m) (l:=l) (D:=λi=>D (i+1)) λi y z=>h (i+1) y z;rw[B8,QK,Bz,ABm,B8,JI];simp only[uptoBulkAll];exact Nat.add_le_add h1 h2
def Lk{α:Type}[Inhabited α](P:Program)(b t:Nat)(c:Cd α)(ok:α->Prop)(m:α->Nat):Prop:=
 ∀(H:Type)(enc:TypeId×Value->H)(W:World)(fuel:Nat)(cs:List Value)(d:DataW H×List MemPlace),DataW.trod enc P W 0 (λ_=>true) true fuel t cs=some d->uptoBulk d.1<=b->∃x,c.rep (λa=>W.cell? a) x cs/\ok x/\m x<=uptoBulk d.1
abbrev m0{α:Type}(_:α):Nat:=0
def mL{α:Type}(m:α->Nat)(l:List α):Nat:=max l.length (l.map m).sum
def okM{α:Type}(ok:α->Prop)(l:List α):Prop:=l.length<=1048576/\∀x∈l,ok x
theorem AGE.Vi{α:Type}[Inhabited α]{b:Nat}{c:Cd α}{ok:α->Prop}(h:AGE P t c ok):Lk P b t c ok m0:=λH enc W fuel cs d y _=>by
 have⟨x,h1,h2⟩:=h H enc W fuel cs d y;exact⟨x,h1,h2,By _⟩
theorem F5{α:Type}[Inhabited α]{b:Nat}{c:Cd α}{ok:α->Prop}{m:α->Nat}(hb:b<=1048576)(ht:P.underlying t=some (.slice e))(K:P.cellsOf e=c.sz)(he:∀b',b'<b->Lk P b' e c ok m):Lk P b t (cSl c) (okM ok) (mL m):=by
 intro H enc W fuel cs d h hw;rcases Go.Deep.open_slice ht h with⟨rfl,rfl⟩|⟨a,len,cap,q,n,D,Pl,rfl,_,ad,ae,hm,rfl,N⟩
 ·exact⟨[],⟨none,0,Y,AK.nil⟩,by simp[okM],by simp[mL]⟩
 ·simp only[IW]at hm;subst hm;simp only[uptoBulk]at hw;have hlen:=AFo ((List.range len).map D);rw[Ap,DC]at hlen;have aa:∀i,i<len->uptoBulk (D i)<=uptoBulkAll ((List.range len).map D):=λi hi=>ABO (List.mem_map.2 ⟨i,Dz.2 hi,Y⟩);have O:0<len->a.spot=none:=by
   intro af;have⟨y,k1,_⟩:=N 0 ox;have⟨_,k5,k6⟩:=World.cells?_some k1;rw[K]at k5 k6;have h0:=k6 0 c.pos;have ab:0<y.length:=by rw[k5];exact c.pos
   rw[List.getElem?_eq_getElem ab]at h0;unfold World.cell? at h0;split at h0
   ·split at h0
    ·simp at h0
    ·rename_i hs;cases hq:a.spot with
     |none=>rfl|some q=>
      exfalso;apply hs;simp[Addr.add,hq]
   ·simp at h0
  have X:∀i,i<len->∃x,(∃y,c.rep (λa=>W.cell? a) x y/\Bi (λa=>W.cell? a) (some a) (i*c.sz) y)/\ok x/\m x<=uptoBulk (D i):=by
   intro i hi;have⟨y,k1,k2⟩:=N i ox;have:=aa i hi;have⟨x,k3,k4⟩:=he (uptoBulk (D i)) ox H enc W n y _ k2 (Nat.le_refl _);have⟨_,k5,k6⟩:=World.cells?_some k1;rw[K]at k1 k5 k6;have z:a.spot=none:=O ox;refine⟨x,⟨y,k3,a.block,a.off,?_,λj v hj=>?_⟩,k4⟩
   ·cases a;simp only at z;subst z;rfl
   ·have ag:=(As.1 hj).1;have:=k6 j ox;rw[hj]at this;rw[<- this]
    congr 1
    cases a;simp only at z;subst z;simp[Addr.add_lit]
  have⟨l,h1,h2⟩:=Zc X;have hs:=AFn (m:=m) (l:=l) (D:=D) λi x Z=>(h2 i x Z).2.2;rw[h1]at hs;refine⟨l,⟨some a,q,by rw[h1],by omega,λi x Z=>(h2 i x Z).1⟩,⟨by omega,λx Z=>?_⟩,?_⟩
  ·obtain⟨i,hi,rfl⟩:=JN.1 Z;exact(h2 i _ (List.getElem?_eq_getElem hi)).2.1
  ·simp only[uptoBulk];exact Nat.max_le.2 ⟨by omega,by omega⟩
theorem D0{α:Type}[Inhabited α]{H:Type}{enc:TypeId×Value->H}{b:Nat}{xs:List (DataW H×List MemPlace)}{c:Cd α}{ok:α->Prop}{m:α->Nat}{f:Field}(O:∀(i:Nat)(f:Field),bc[i]? =some f->DataW.trod enc P aB 0 (λ_=>true) true n f.type ((cs.drop f.offset).take (P.cellsOf f.type))=xs[i]?)(z:xs.length=bc.size)(hw:uptoBulk (DataW.agg (xs.map (·.1)))<=b)(i:Nat)(hi:bc[i]? =some f)(K:P.cellsOf f.type=sz)(X:Lk P b f.type c ok m):∃x,c.rep (λa=>aB.cell? a) x ((cs.drop f.offset).take sz)/\ok x/\m x<=uptoBulk (DataW.agg (xs.map (·.1))):=by
 have h1:=O i f hi;have y:i<xs.length:=by
  rw[z];exact(An.1 hi).1
 rw[K,List.getElem?_eq_getElem y]at h1;have hb:=ABO (List.mem_map.2 ⟨xs[i],AW y,Y⟩:xs[i].1∈xs.map (·.1));have N:=hw;simp only[uptoBulk]at N⊢;have⟨x,Z,g2,g3⟩:=X H enc aB n _ _ h1 ox;exact⟨x,Z,g2,by omega⟩
theorem UH{α:Type}[Inhabited α]{H:Type}{enc:TypeId×Value->H}{c:Cd α}{ok:α->Prop}{m:α->Nat}(ht:P.underlying t=some (.slice e))(K:P.cellsOf e=c.sz)(he:∀b,b<=1048576->Lk P b e c ok m){v:Value}{d:DataW H}{p:List MemPlace}(z:Value.okWide P aB .any y t v)(h:DataW.Trod enc P aB 0 (λ_=>true) true t v d p)(hw:uptoBulk d<=1048576):∃a k l,v=.slice a (List.length l) k/\AK c (λa=>aB.cell? a) a k l/\okM ok l/\mL m l<=uptoBulk d:=by
 obtain⟨a,n,k,rfl⟩:=okWide_slice ht z;have⟨fuel,N⟩:=h;have⟨l,⟨a',O,h1,h2⟩,h3⟩:=F5 (b:=1048576) (Nat.le_refl _) ht K (λb X=>he b ox) H enc aB fuel _ _ N hw;simp[Value.cells]at h1;obtain⟨rfl,rfl,rfl⟩:=h1;exact⟨a,k,l,Y,h2,h3⟩
theorem ADp{α:Type}[Inhabited α]{H:Type}{enc:TypeId×Value->H}{c:Cd α}{ok:α->Prop}{m:α->Nat}(ht:P.underlying t=some (.struct bc))(he:Lk P 1048576 t c ok m){v:Value}{d:DataW H}{p:List MemPlace}(z:Value.okWide P aB .any y t v)(h:DataW.Trod enc P aB 0 (λ_=>true) true t v d p)(hw:uptoBulk d<=1048576):∃cs x,v=.agg ⟨cs⟩/\c.rep (λa=>aB.cell? a) x cs/\ok x:=by
 obtain⟨cs,rfl,_⟩:=okWide_struct ht z;have⟨fuel,K⟩:=h;have⟨x,h1,h2,_⟩:=he H enc aB fuel _ _ K hw;exact⟨cs.toList,x,Y,h1,h2⟩
end
section
open Go.ChangeShapes Go.WideShapes Go.ChangeAt Go.RowKit
open Rows (uptoBulk uptoBulkAll)
def AFB(s:Gd):Prop:=okS s.Name/\(okI .i64) s.Rf
theorem AId{α:Type}{l:List α}(h:l.length=2):∃y c1,l=[y,c1]:=by
 match l,h with
 |[y,c1],_=>exact⟨_,_,Y⟩
theorem YQ:∀b,b<=1048576->Lk Tryz.prog b 240 Er AFB m0:=by
 intro b hb H enc W fuel cs d h hw;obtain⟨xs,n,_,rfl,hl,y,K⟩:=DataW.trod_struct Tryz.underlying240 h;rw[show Tryz.prog.cellsOf 240=2 by kernel_rfl]at hl;obtain⟨z,c1,rfl⟩:∃z c1,cs=[z,c1]:=AId hl;have⟨N,r0,o0,q0⟩:=D0 (sz:=1) K y hw 0 Y kz (JQ Tryz.underlying9).Vi;have O:[z]=[.string ⟨⟨N⟩⟩]:=r0;simp only[A8,CO]at O;obtain rfl:=O;have⟨X,r1,o1,q1⟩:=D0 (sz:=1) K y hw 1 Y kz (Fb Tryz.underlying3).Vi;have Z:[c1]=[.int .i64 X]:=r1;simp only[A8,CO]at Z;obtain rfl:=Z;exact⟨⟨N,X⟩,Y,⟨o0,o1⟩,By _⟩
theorem AIc{α:Type}{l:List α}(h:l.length=4):∃y c1 c2 z,l=[y,c1,c2,z]:=by
 match l,h with
 |[y,c1,c2,z],_=>exact⟨_,_,_,_,Y⟩
theorem Td:∀b,b<=1048576->Lk Tryz.prog b 265 Br EBs m0:=by
 intro b
 induction b using Nat.strongRecOn with
 |ind b ih=>
 intro hb H enc W fuel cs d h hw;obtain⟨xs,n,_,rfl,hl,y,z⟩:=DataW.trod_struct Tryz.underlying265 h;rw[show Tryz.prog.cellsOf 265=4 by kernel_rfl]at hl;obtain⟨N,c1,c2,O,rfl⟩:∃N c1 c2 O,cs=[N,c1,c2,O]:=AIc hl;have⟨Z,r0,o0,q0⟩:=D0 (sz:=1) z y hw 0 Y kz (Fb Tryz.underlying3).Vi;have e0:[N]=[.int .i64 Z]:=r0;simp only[A8,CO]at e0;obtain rfl:=e0;have⟨x1,r1,o1,q1⟩:=D0 (sz:=1) z y hw 1 Y kz (Fb Tryz.underlying2).Vi;have e1:[c1]=[.int .i64 x1]:=r1;simp only[A8,CO]at e1;obtain rfl:=e1;have⟨x2,r2,o2,q2⟩:=D0 (sz:=1) z y hw 2 Y kz (JQ Tryz.underlying9).Vi;have e2:[c2]=[.string ⟨⟨x2⟩⟩]:=r2;simp only[A8,CO]at e2;obtain rfl:=e2;have⟨x3,r3,o3,q3⟩:=D0 (sz:=1) z y hw 3 Y kz (F5 hb Tryz.underlying263 kz λb X=>ih b X ox);have⟨a1,k1,K,h1⟩:=r3;replace K:[O]=[.slice a1 x3.length k1]:=K;simp only[A8,CO]at K;obtain rfl:=K;exact⟨⟨Z,x1,x2,x3⟩,(DS.2 ⟨_,_,Y,h1⟩),λn=>match n with|0=>trivial|n+1=>⟨⟨o1.1,o1.2⟩,Nat.lt_succ_of_le o2,Nat.lt_of_le_of_lt o3.1 ox,λa ha=>o3.2 a ha n⟩,By _⟩
theorem ALd{α:Type}{l:List α}(h:l.length=13):∃K c1 c2 N O W X Z c8 c9 y z H,l=[K,c1,c2,N,O,W,X,Z,c8,c9,y,z,H]:=by
 match l,h with
 |[K,c1,c2,N,O,W,X,Z,c8,c9,y,z,H],_=>exact⟨_,_,_,_,_,_,_,_,_,_,_,_,_,Y⟩
theorem Zt:∀b,b<=1048576->Lk Tryz.prog b 267 CN SBs m0:=by
 intro b
 induction b using Nat.strongRecOn with
 |ind b ih=>
 intro hb H enc W fuel cs d h hw;obtain⟨xs,n,_,rfl,hl,y,z⟩:=DataW.trod_struct Tryz.underlying267 h;rw[show Tryz.prog.cellsOf 267=13 by kernel_rfl]at hl;obtain⟨c0,c1,c2,c3,c4,c5,c6,c7,c8,c9,K,O,X,rfl⟩:∃c0 c1 c2 c3 c4 c5 c6 c7 c8 c9 K O X,cs=[c0,c1,c2,c3,c4,c5,c6,c7,c8,c9,K,O,X]:=ALd hl;have⟨x0,r0,o0,q0⟩:=D0 (sz:=1) z y hw 0 Y kz (Fb Tryz.underlying3).Vi;have e0:[c0]=[.int .i64 x0]:=r0;simp only[A8,CO]at e0;obtain rfl:=e0;have⟨x1,r1,o1,q1⟩:=D0 (sz:=1) z y hw 1 Y kz (JQ Tryz.underlying9).Vi;have e1:[c1]=[.string ⟨⟨x1⟩⟩]:=r1;simp only[A8,CO]at e1;obtain rfl:=e1;have⟨x2,r2,o2,q2⟩:=D0 (sz:=1) z y hw 2 Y kz (Fb Tryz.underlying3).Vi;have e2:[c2]=[.int .i64 x2]:=r2;simp only[A8,CO]at e2;obtain rfl:=e2;have⟨x3,r3,o3,q3⟩:=D0 (sz:=4) z y hw 3 Y kz (Td b hb);have⟨a1,k1,e3,h1⟩:=(DS.1 r3);replace e3:[c3,c4,c5,c6]=[.int .i64 x3.Op,.int .i64 x3.N,.string ⟨⟨x3.S⟩⟩,.slice a1 x3.Aw.length k1]:=e3;simp only[A8,CO]at e3;obtain⟨rfl,rfl,rfl,rfl⟩:=e3;have⟨x4,r4,o4,q4⟩:=D0 (sz:=4) z y hw 4 Y kz (Td b hb);have⟨a2,k2,e4,h2⟩:=(DS.1 r4);replace e4:[c7,c8,c9,K]=[.int .i64 x4.Op,.int .i64 x4.N,.string ⟨⟨x4.S⟩⟩,.slice a2 x4.Aw.length k2]:=e4;simp only[A8,CO]at e4;obtain⟨rfl,rfl,rfl,rfl⟩:=e4;have⟨x5,r5,o5,q5⟩:=D0 (sz:=1) z y hw 5 Y kz (F5 hb Tryz.underlying189 kz λb Z=>ih b Z ox);have⟨a3,k3,e5,h3⟩:=r5;replace e5:[O]=[.slice a3 x5.length k3]:=e5;simp only[A8,CO]at e5;obtain rfl:=e5;have⟨x6,r6,o6,q6⟩:=D0 (sz:=1) z y hw 6 Y kz (F5 hb Tryz.underlying189 kz λb Z=>ih b Z ox);have⟨a4,k4,e6,h4⟩:=r6;replace e6:[X]=[.slice a4 x6.length k4]:=e6;simp only[A8,CO]at e6;obtain rfl:=e6;exact⟨⟨x0,x1,x2,x3,x4,x5,x6⟩,(Jx.2 ⟨_,_,_,_,_,_,_,_,Y,h1,h2,h3,h4⟩),λn=>match n with|0=>trivial|n+1=>⟨o3 (n+1),o4 (n+1),Nat.lt_succ_of_le o1,⟨Nat.lt_of_le_of_lt o5.1 ox,λa ha=>o5.2 a ha n⟩,Nat.lt_of_le_of_lt o6.1 ox,λa ha=>o6.2 a ha n⟩,By _⟩
def AMe(s:Ce):Prop:=okS s.Name/\(okM AFB) s.BH/\(okM SBs) s.CU
theorem AEF{α:Type}{l:List α}(h:l.length=3):∃y c1 c2,l=[y,c1,c2]:=by
 match l,h with
 |[y,c1,c2],_=>exact⟨_,_,_,Y⟩
theorem Zu:∀b,b<=1048576->Lk Tryz.prog b 191 Jz AMe m0:=by
 intro b z H enc W fuel cs d h hw;obtain⟨xs,n,_,rfl,hl,y,O⟩:=DataW.trod_struct Tryz.underlying191 h;rw[show Tryz.prog.cellsOf 191=3 by kernel_rfl]at hl;obtain⟨X,c1,c2,rfl⟩:∃X c1 c2,cs=[X,c1,c2]:=AEF hl;have⟨x0,r0,o0,q0⟩:=D0 (sz:=1) O y hw 0 Y kz (JQ Tryz.underlying9).Vi;have e0:[X]=[.string ⟨⟨x0⟩⟩]:=r0;simp only[A8,CO]at e0;obtain rfl:=e0;have⟨x1,r1,o1,q1⟩:=D0 (sz:=1) O y hw 1 Y kz (F5 z Tryz.underlying188 kz λb Z=>have z:b<=1048576:=ox;(YQ b z));have⟨a1,k1,K,h1⟩:=r1;replace K:[c1]=[.slice a1 x1.length k1]:=K;simp only[A8,CO]at K;obtain rfl:=K;have⟨x2,r2,o2,q2⟩:=D0 (sz:=1) O y hw 2 Y kz (F5 z Tryz.underlying189 kz λb Z=>have z:b<=1048576:=ox;(Zt b z));have⟨a2,k2,N,h2⟩:=r2;replace N:[c2]=[.slice a2 x2.length k2]:=N;simp only[A8,CO]at N;obtain rfl:=N;exact⟨⟨x0,x1,x2⟩,⟨_,_,_,_,Y,h1,h2⟩,⟨o0,o1,o2⟩,By _⟩
def AIC(s:Bc):Prop:=(okI .i64) s.Id/\okS s.BU/\(okI .i64) s.Ab/\(okI .i64) s.C0/\okS s.Gh
theorem ANG{α:Type}{l:List α}(h:l.length=5):∃y c1 c2 z H,l=[y,c1,c2,z,H]:=by
 match l,h with
 |[y,c1,c2,z,H],_=>exact⟨_,_,_,_,_,Y⟩
theorem AA0:∀b,b<=1048576->Lk Tryz.prog b 54 BS AIC m0:=by
 intro b hb H enc W fuel cs d h hw;obtain⟨xs,n,_,rfl,hl,y,z⟩:=DataW.trod_struct Tryz.underlying54 h;rw[show Tryz.prog.cellsOf 54=5 by kernel_rfl]at hl;obtain⟨K,c1,c2,N,O,rfl⟩:∃K c1 c2 N O,cs=[K,c1,c2,N,O]:=ANG hl;have⟨X,r0,o0,q0⟩:=D0 (sz:=1) z y hw 0 Y kz (Fb Tryz.underlying3).Vi;have Z:[K]=[.int .i64 X]:=r0;simp only[A8,CO]at Z;obtain rfl:=Z;have⟨x1,r1,o1,q1⟩:=D0 (sz:=1) z y hw 1 Y kz (JQ Tryz.underlying9).Vi;have e1:[c1]=[.string ⟨⟨x1⟩⟩]:=r1;simp only[A8,CO]at e1;obtain rfl:=e1;have⟨x2,r2,o2,q2⟩:=D0 (sz:=1) z y hw 2 Y kz (Fb Tryz.underlying3).Vi;have e2:[c2]=[.int .i64 x2]:=r2;simp only[A8,CO]at e2;obtain rfl:=e2;have⟨x3,r3,o3,q3⟩:=D0 (sz:=1) z y hw 3 Y kz (Fb Tryz.underlying3).Vi;have e3:[N]=[.int .i64 x3]:=r3;simp only[A8,CO]at e3;obtain rfl:=e3;have⟨x4,r4,o4,q4⟩:=D0 (sz:=1) z y hw 4 Y kz (JQ Tryz.underlying9).Vi;have e4:[O]=[.string ⟨⟨x4⟩⟩]:=r4;simp only[A8,CO]at e4;obtain rfl:=e4;exact⟨⟨X,x1,x2,x3,x4⟩,Y,⟨o0,o1,o2,o3,o4⟩,By _⟩
def ADr(s:AI):Prop:=(okI .i64) s.Ax/\(okM AIC) s.AG
theorem VL:∀b,b<=1048576->Lk Tryz.prog b 25 AFm ADr m0:=by
 intro b K H enc W fuel cs d h hw;obtain⟨xs,n,_,rfl,hl,y,O⟩:=DataW.trod_struct Tryz.underlying25 h;rw[show Tryz.prog.cellsOf 25=2 by kernel_rfl]at hl;obtain⟨N,c1,rfl⟩:∃N c1,cs=[N,c1]:=AId hl;have⟨X,r0,o0,q0⟩:=D0 (sz:=1) O y hw 0 Y kz (Fb Tryz.underlying2).Vi;have Z:[N]=[.int .i64 X]:=r0;simp only[A8,CO]at Z;obtain rfl:=Z;have⟨x1,r1,o1,q1⟩:=D0 (sz:=1) O y hw 1 Y kz (F5 K Tryz.underlying23 kz λb aa=>have K:b<=1048576:=ox;(AA0 b K));have⟨a1,k1,z,h1⟩:=r1;replace z:[c1]=[.slice a1 x1.length k1]:=z;simp only[A8,CO]at z;obtain rfl:=z;exact⟨⟨X,x1⟩,⟨_,_,Y,h1⟩,⟨o0,o1⟩,By _⟩
def AA3(s:Ah):Prop:=(okI .i64) s.BD/\(okI .i64) s.N/\okS s.S
theorem Tc:∀b,b<=1048576->Lk Tryz.prog b 60 DQ AA3 m0:=by
 intro b hb H enc W fuel cs d h hw;obtain⟨xs,n,_,rfl,hl,y,z⟩:=DataW.trod_struct Tryz.underlying60 h;rw[show Tryz.prog.cellsOf 60=3 by kernel_rfl]at hl;obtain⟨K,c1,c2,rfl⟩:∃K c1 c2,cs=[K,c1,c2]:=AEF hl;have⟨N,r0,o0,q0⟩:=D0 (sz:=1) z y hw 0 Y kz (Fb Tryz.underlying3).Vi;have O:[K]=[.int .i64 N]:=r0;simp only[A8,CO]at O;obtain rfl:=O;have⟨X,r1,o1,q1⟩:=D0 (sz:=1) z y hw 1 Y kz (Fb Tryz.underlying2).Vi;have Z:[c1]=[.int .i64 X]:=r1;simp only[A8,CO]at Z;obtain rfl:=Z;have⟨x2,r2,o2,q2⟩:=D0 (sz:=1) z y hw 2 Y kz (JQ Tryz.underlying9).Vi;have e2:[c2]=[.string ⟨⟨x2⟩⟩]:=r2;simp only[A8,CO]at e2;obtain rfl:=e2;exact⟨⟨N,X,x2⟩,Y,⟨o0,o1,o2⟩,By _⟩
def AMf(s:AR):Prop:=okS s.Key/\AA3 s.JK
theorem AA1:∀b,b<=1048576->Lk Tryz.prog b 62 Au AMf m0:=by
 intro b hb H enc W fuel cs d h hw;obtain⟨xs,n,_,rfl,hl,y,X⟩:=DataW.trod_struct Tryz.underlying62 h;rw[show Tryz.prog.cellsOf 62=4 by kernel_rfl]at hl;obtain⟨K,c1,c2,O,rfl⟩:∃K c1 c2 O,cs=[K,c1,c2,O]:=AIc hl;have⟨Z,r0,o0,q0⟩:=D0 (sz:=1) X y hw 0 Y kz (JQ Tryz.underlying9).Vi;have e0:[K]=[.string ⟨⟨Z⟩⟩]:=r0;simp only[A8,CO]at e0;obtain rfl:=e0;have⟨z,r1,o1,q1⟩:=D0 (sz:=3) X y hw 1 Y kz (Tc b hb);have e1:[c1,c2,O]=[.int .i64 z.BD,.int .i64 z.N,.string ⟨⟨z.S⟩⟩]:=r1;simp only[A8,CO]at e1;obtain⟨rfl,rfl,rfl⟩:=e1;exact⟨⟨Z,z⟩,Y,⟨o0,o1⟩,By _⟩
def ACy(s:HC):Prop:=(okI .i64) s.BD/\(okI .i64) s.Part/\(okI .i64) s.New/\(okI .i64) s.Ab/\(okI .i64) s.N/\okS s.Key
theorem ANF{α:Type}{l:List α}(h:l.length=6):∃y c1 c2 z H K,l=[y,c1,c2,z,H,K]:=by
 match l,h with
 |[y,c1,c2,z,H,K],_=>exact⟨_,_,_,_,_,_,Y⟩
theorem YR:∀b,b<=1048576->Lk Tryz.prog b 37 ALf ACy m0:=by
 intro b hb H enc W fuel cs d h hw;obtain⟨xs,n,_,rfl,hl,y,z⟩:=DataW.trod_struct Tryz.underlying37 h;rw[show Tryz.prog.cellsOf 37=6 by kernel_rfl]at hl;obtain⟨K,c1,c2,N,O,X,rfl⟩:∃K c1 c2 N O X,cs=[K,c1,c2,N,O,X]:=ANF hl;have⟨Z,r0,o0,q0⟩:=D0 (sz:=1) z y hw 0 Y kz (Fb Tryz.underlying3).Vi;have e0:[K]=[.int .i64 Z]:=r0;simp only[A8,CO]at e0;obtain rfl:=e0;have⟨x1,r1,o1,q1⟩:=D0 (sz:=1) z y hw 1 Y kz (Fb Tryz.underlying3).Vi;have e1:[c1]=[.int .i64 x1]:=r1;simp only[A8,CO]at e1;obtain rfl:=e1;have⟨x2,r2,o2,q2⟩:=D0 (sz:=1) z y hw 2 Y kz (Fb Tryz.underlying3).Vi;have e2:[c2]=[.int .i64 x2]:=r2;simp only[A8,CO]at e2;obtain rfl:=e2;have⟨x3,r3,o3,q3⟩:=D0 (sz:=1) z y hw 3 Y kz (Fb Tryz.underlying3).Vi;have e3:[N]=[.int .i64 x3]:=r3;simp only[A8,CO]at e3;obtain rfl:=e3;have⟨x4,r4,o4,q4⟩:=D0 (sz:=1) z y hw 4 Y kz (Fb Tryz.underlying3).Vi;have e4:[O]=[.int .i64 x4]:=r4;simp only[A8,CO]at e4;obtain rfl:=e4;have⟨x5,r5,o5,q5⟩:=D0 (sz:=1) z y hw 5 Y kz (JQ Tryz.underlying9).Vi;have e5:[X]=[.string ⟨⟨x5⟩⟩]:=r5;simp only[A8,CO]at e5;obtain rfl:=e5;exact⟨⟨Z,x1,x2,x3,x4,x5⟩,Y,⟨o0,o1,o2,o3,o4,o5⟩,By _⟩
def XI(s:AV):Prop:=(λ_=>True) s.G7/\(okM okS) s.Am/\(okM okS) s.AX
theorem UG:∀b,b<=1048576->Lk Tryz.prog b 130 N1 XI m0:=by
 intro b z H enc W fuel cs d h hw;obtain⟨xs,n,_,rfl,hl,y,O⟩:=DataW.trod_struct Tryz.underlying130 h;rw[show Tryz.prog.cellsOf 130=3 by kernel_rfl]at hl;obtain⟨X,c1,c2,rfl⟩:∃X c1 c2,cs=[X,c1,c2]:=AEF hl;have⟨x0,r0,o0,q0⟩:=D0 (sz:=1) O y hw 0 Y kz (AGy Tryz.underlying4).Vi;have e0:[X]=[.bool x0]:=r0;simp only[A8,CO]at e0;obtain rfl:=e0;have⟨x1,r1,o1,q1⟩:=D0 (sz:=1) O y hw 1 Y kz (F5 z Tryz.underlying108 kz λb Z=>have z:b<=1048576:=ox;(JQ Tryz.underlying9).Vi);have⟨a1,k1,K,h1⟩:=r1;replace K:[c1]=[.slice a1 x1.length k1]:=K;simp only[A8,CO]at K;obtain rfl:=K;have⟨x2,r2,o2,q2⟩:=D0 (sz:=1) O y hw 2 Y kz (F5 z Tryz.underlying108 kz λb Z=>have z:b<=1048576:=ox;(JQ Tryz.underlying9).Vi);have⟨a2,k2,N,h2⟩:=r2;replace N:[c2]=[.slice a2 x2.length k2]:=N;simp only[A8,CO]at N;obtain rfl:=N;exact⟨⟨x0,x1,x2⟩,⟨_,_,_,_,Y,h1,h2⟩,⟨o0,o1,o2⟩,By _⟩
def AKx(s:L8):Prop:=(okI .i64) s.Id/\okS s.AHh/\(okM AA3) s.Aw/\XI s.HK/\(okI .i64) s.X9
theorem ANE{α:Type}{l:List α}(h:l.length=7):∃y c1 c2 z H K N,l=[y,c1,c2,z,H,K,N]:=by
 match l,h with
 |[y,c1,c2,z,H,K,N],_=>exact⟨_,_,_,_,_,_,_,Y⟩
theorem AAy:∀b,b<=1048576->Lk Tryz.prog b 132 Vo AKx m0:=by
 intro b K H enc W fuel cs d h hw;obtain⟨xs,n,_,rfl,hl,y,z⟩:=DataW.trod_struct Tryz.underlying132 h;rw[show Tryz.prog.cellsOf 132=7 by kernel_rfl]at hl;obtain⟨Z,c1,c2,c3,c4,c5,c6,rfl⟩:∃Z c1 c2 c3 c4 c5 c6,cs=[Z,c1,c2,c3,c4,c5,c6]:=ANE hl;have⟨x0,r0,o0,q0⟩:=D0 (sz:=1) z y hw 0 Y kz (Fb Tryz.underlying2).Vi;have e0:[Z]=[.int .i64 x0]:=r0;simp only[A8,CO]at e0;obtain rfl:=e0;have⟨x1,r1,o1,q1⟩:=D0 (sz:=1) z y hw 1 Y kz (JQ Tryz.underlying9).Vi;have e1:[c1]=[.string ⟨⟨x1⟩⟩]:=r1;simp only[A8,CO]at e1;obtain rfl:=e1;have⟨x2,r2,o2,q2⟩:=D0 (sz:=1) z y hw 2 Y kz (F5 K Tryz.underlying105 kz λb aa=>have K:b<=1048576:=ox;(Tc b K));have⟨a1,k1,N,h1⟩:=r2;replace N:[c2]=[.slice a1 x2.length k1]:=N;simp only[A8,CO]at N;obtain rfl:=N;have⟨O,r3,o3,q3⟩:=D0 (sz:=3) z y hw 3 Y kz (UG b K);have⟨a2,k2,a3,k3,X,h2,h3⟩:=r3;replace X:[c3,c4,c5]=[.bool O.G7,.slice a2 O.Am.length k2,.slice a3 O.AX.length k3]:=X;simp only[A8,CO]at X;obtain⟨rfl,rfl,rfl⟩:=X;have⟨x4,r4,o4,q4⟩:=D0 (sz:=1) z y hw 4 Y kz (Fb Tryz.underlying3).Vi;have e4:[c6]=[.int .i64 x4]:=r4;simp only[A8,CO]at e4;obtain rfl:=e4;exact⟨⟨x0,x1,x2,O,x4⟩,⟨_,_,_,_,_,_,Y,h1,h2,h3⟩,⟨o0,o1,o2,o3,o4⟩,By _⟩
def AIB(s:Vw):Prop:=ACy s.Marker/\(okM AKx) s.PH/\(okM (okI .i64)) s.Rn
theorem AND{α:Type}{l:List α}(h:l.length=8):∃y c1 c2 z H K N O,l=[y,c1,c2,z,H,K,N,O]:=by
 match l,h with
 |[y,c1,c2,z,H,K,N,O],_=>exact⟨_,_,_,_,_,_,_,_,Y⟩
theorem AAz:∀b,b<=1048576->Lk Tryz.prog b 41 ABN AIB (λt=>t.PH.length):=by
 intro b K H enc W fuel cs d h hw;obtain⟨xs,n,_,rfl,hl,y,Z⟩:=DataW.trod_struct Tryz.underlying41 h;rw[show Tryz.prog.cellsOf 41=8 by kernel_rfl]at hl;obtain⟨c0,c1,c2,c3,c4,c5,c6,c7,rfl⟩:∃c0 c1 c2 c3 c4 c5 c6 c7,cs=[c0,c1,c2,c3,c4,c5,c6,c7]:=AND hl;have⟨z,r0,o0,q0⟩:=D0 (sz:=6) Z y hw 0 Y kz (YR b K);have e0:[c0,c1,c2,c3,c4,c5]=[.int .i64 z.BD,.int .i64 z.Part,.int .i64 z.New,.int .i64 z.Ab,.int .i64 z.N,.string ⟨⟨z.Key⟩⟩]:=r0;simp only[A8,CO]at e0;obtain⟨rfl,rfl,rfl,rfl,rfl,rfl⟩:=e0;have⟨x1,r1,o1,q1⟩:=D0 (sz:=1) Z y hw 1 Y kz (F5 K Tryz.underlying38 kz λb aa=>have K:b<=1048576:=ox;(AAy b K));have⟨a1,k1,O,h1⟩:=r1;replace O:[c6]=[.slice a1 x1.length k1]:=O;simp only[A8,CO]at O;obtain rfl:=O;have⟨x2,r2,o2,q2⟩:=D0 (sz:=1) Z y hw 2 Y kz (F5 K Tryz.underlying39 kz λb aa=>have K:b<=1048576:=ox;(Fb Tryz.underlying3).Vi);have⟨a2,k2,X,h2⟩:=r2;replace X:[c7]=[.slice a2 x2.length k2]:=X;simp only[A8,CO]at X;obtain rfl:=X;exact⟨⟨z,x1,x2⟩,⟨_,_,_,_,Y,h1,h2⟩,⟨o0,o1,o2⟩,Cf (Nat.le_max_left _ _) q1⟩
end
end Go.Proofs.YthjnkknigpkldaaGreatDoor
namespace Go.Proofs.YthjnkknigpkldaaGreatDoor.topMigrates
variable {aB:World}
open Go.ChangeShapes Go.WideShapes Go.ChangeAt Go.RowKit
theorem types:∀t∈Tryz.f3.params.toList,Tryz.prog.readableRec t=true/\t<Tryz.prog.types.size:=by
 intro t ht;rw[show Tryz.f3.params= #[22,25,26,27]from Tryz.params3]at ht;simp only[Aj,BY,D3]at ht;rcases ht with rfl|rfl|rfl|rfl
 all_goals exact⟨by kernel_rfl,of_decide_eq_true kz⟩
theorem table(h:laidMetH Tryz.prog Rows.topMigratesUptoRow.laid aB):Lib.TabIs Tryz.prog aB "internal/strconv.uint64pow10" .u64 Lib.pow10Tab:=by
 have h:laidMet Tryz.prog Rows.topMigratesUptoRow.laid aB:=h;have⟨ps,⟨_,_,_,_,_,_,_,_,_,_,⟨_,_,_,_,_,_,_,_,_,_,⟨g,t,cs,fuel,p,q,K,ht,y,N,_,_⟩,_⟩,_⟩,_⟩:=h;have z:Tryz.prog.globalNamed "internal/strconv.uint64pow10"=some 1:=kz
 obtain rfl:=Lp (z.symm.trans K);have H:(Tryz.prog.globals[1]?).map (·.type)=some 365:=kz
 obtain rfl:=Lp (H.symm.trans ht);unfold Lib.TabIs;rw[y,<- Lib.cells_of_tab (k:=.u64) (zs:=Lib.pow10Tab) Tryz.underlying365 Tryz.underlying210 kz kz N]
theorem AMK{t:Vw}(h:AIB t):AOs t:=
 ⟨Nat.lt_succ_of_le h.1.2.2.2.2.2,λx H=>by
  have⟨_,_,h3,y,_⟩:=h.2.1.2 x H;exact⟨λv hv=>⟨(h3.2 v hv).2.1,Nat.lt_succ_of_le (h3.2 v hv).2.2⟩,Nat.lt_of_le_of_lt y.2.1.1 ox,Nat.lt_of_le_of_lt y.2.2.1 ox,λk z=>Nat.lt_succ_of_le (y.2.1.2 k z),λk z=>Nat.lt_succ_of_le (y.2.2.2 k z)⟩⟩
set_option maxRecDepth 100000 in
theorem ALY(H:Type)(enc:TypeId×Value->H)(W:World)(base:Nat)(args:Array Value)(ds gs:List (DataW H))(before:List MemPlace)(y:∀(j:Nat)t v,Tryz.f3.params[j]? =some t->args[j]? =some v->Value.okWide Tryz.prog W .any base t v)(hW:DataW.Whole enc Tryz.prog Tryz.f3.params.toList Rows.topMigratesSpec.vars false W args.toList ds gs before)(hk:Rows.uptoSmall H (ds++gs)=true)(hL:laidMetH Tryz.prog Rows.topMigratesUptoRow.laid W):Calls Tryz.prog 3 args W λe N=>∃v,e=.returned v/\Rows.topMigratesSpec.post enc Tryz.prog Tryz.f3 false true false false W args v N:=by
 have aa:=hW;obtain⟨p,q,ab,hV,rfl,af,ag⟩:=hW;have hA:DataW.TrodAll enc Tryz.prog W 0 (λ_=>true) true Tryz.f3.params.toList args.toList ds p:=ab;rw[Tryz.params3]at hA y;obtain⟨v0,v1,v2,v3,d0,d1,d2,d3,p0,p1,p2,p3,rfl,rfl,rfl,h0,h1,h2,h3⟩:=trodAll_four hA;obtain⟨rfl,rfl⟩:=trodVars_none hV;have hb:Rows.uptoBulkAll ([d0,d1,d2,d3]++[])<=1048576:=of_decide_eq_true hk;rw[Du]at hb;simp only[Rows.uptoBulkAll]at hb;have b0:=Xg d0;have b1:=Xg d1;have b2:=Xg d2;obtain⟨a0,k0,x0,rfl,g0,o0,_⟩:=UH Tryz.underlying22 kz Zu (y 0 22 v0 Y Y) h0 ox;obtain⟨ah,O,rfl,ad,o1⟩:=ADp Tryz.underlying25 (VL _ (Nat.le_refl _)) (y 1 25 v1 Y Y) h1 ox;obtain⟨a1,k1,rfl,g1⟩:=ad;obtain⟨a2,k2,x2,rfl,g2,X,_⟩:=UH Tryz.underlying26 kz AA1 (y 2 26 v2 Y Y) h2 ox;obtain⟨a3,k3,Z,rfl,g3,o3,m3⟩:=UH Tryz.underlying27 kz AAz (y 3 27 v3 Y Y) h3 ox;have hV:Holds (λa=>W.cell? a) W:=⟨λ_ _ h=>h,Y3.of (table hL)⟩;have ae:AHg x0:=⟨Nat.lt_of_le_of_lt o0.1 ox,λp hp=>by
  have⟨_,q1,q2⟩:=o0.2 p hp;exact⟨⟨Nat.lt_of_le_of_lt q1.1 ox,Nat.lt_of_le_of_lt q2.1 ox,q2.2⟩,Cf q1.1 ox⟩⟩
 have hp:Qa O:=⟨Nat.lt_of_le_of_lt o1.2.1 (by unfold JJ;omega),λx K=>⟨Nat.lt_succ_of_le (o1.2.2 x K).2.1,Nat.lt_succ_of_le (o1.2.2 x K).2.2.2.2⟩⟩;have hs:JG x2:=⟨Nat.lt_of_le_of_lt X.1 ox,λx K=>⟨Nat.lt_succ_of_le (X.2 x K).1,Nat.lt_succ_of_le (X.2 x K).2.2.2⟩⟩;have z:=XC x0 O x2 Z ae hp hs (λx K=>(X.2 x K).2.2.1) X.1 (λt ht=>AMK (o3.2 t ht)) (by
  have:=Nat.le_max_right Z.length (Z.map λt=>t.PH.length).sum;unfold mL at m3;omega)
 have hc:Calls Tryz.prog 3 ⟨[.slice a0 x0.length k0,.agg ⟨[.int .i64 O.Ax,.slice a1 O.AG.length k1]⟩,.slice a2 x2.length k2,.slice a3 Z.length k3]⟩ W λe N=>e=.returned (.bool true)/\Below W.heap.size W N:=by
  refine((Qy x0 O x2 Z g0 g1 g2 g3 Yt z).2 W hV).mono λe N ⟨v,V',h1,h2,_,_,_,h6⟩=>?_;rw[h1,h6];exact⟨Y,h2⟩
 refine hc.mono λe N ⟨he,hg⟩=>?_;exact⟨_,he,ALC Y kz types aa Y hg⟩
noncomputable def AN3 (h:Array Obj) (b:Nat) (k:IntKind) (zs:List Int):Array Obj:=h.modify b λ
 |.cells _ t frozen=>.cells (zs.map λz=>Value.int k z).toArray t frozen|o=>o
def APF:List Int:=[0,1,28,2,29,14,24,3,30,22,20,15,25,17,4,8,31,27,13,23,21,19,16,7,26,12,18,6,11,5,10,9]
def APE:List Int:=[0,1,56,2,57,49,28,3,61,58,42,50,38,29,17,4,62,47,59,36,45,43,51,22,53,39,33,30,24,18,12,5,63,55,48,27,60,41,37,16,46,35,44,21,52,32,23,11,54,26,40,15,34,20,31,10,25,14,19,9,13,8,7,6]
noncomputable def Yd (os:Os):World:=
 {World.holding Tryz.prog os ⟨#[],#[],[]⟩with heap:=AN3 (AN3 (AN3 (World.holding Tryz.prog os ⟨#[],#[],[]⟩).heap 1 .u64 Lib.pow10Tab) 2 .u8 APF) 3 .u8 APE}
abbrev AHt:Array Value:= #[.slice none 0 0,.agg #[.int .i64 0,.slice none 0 0],.slice none 0 0,.slice none 0 0]
theorem ALE(os:Os):laidMet Tryz.prog Rows.topMigratesUptoRow.laid ((Yd os).forCall (λ_ _=>0) ⟨#[],AHt,[]⟩).memory:=
 laidMet_of_run' 8 kz kz
theorem reads(os:Os){H:Type}(enc:TypeId×Value->H):∃places,DataW.whole enc Tryz.prog ((Yd os).forCall (λ_ _=>0) ⟨#[],AHt,[]⟩).memory Tryz.f3.params.toList Rows.topMigratesSpec.vars false AHt.toList 8=some ([.nil,.agg [.lit (.int .i64 0),.nil],.nil,.nil],[],places):=
 ⟨[],by kernel_rfl⟩
set_option maxRecDepth 100000 in
theorem AG7(os:Os)(started:os.Started)(H:Type)(enc:TypeId×Value->H)(F:Stop.Interp):ReturnsInHanded {} Tryz.checked os 3 .any ((Rows.OpenSpec.upto Rows.topMigratesSpec).preRow enc Tryz.prog Tryz.f3 Rows.topMigratesUptoRow.domain false Rows.topMigratesUptoRow.laid) (((Rows.OpenSpec.upto Rows.topMigratesSpec).at F).post enc Tryz.prog Tryz.f3 false true false false):=by
 have⟨places,K⟩:=reads os enc;refine returnsInHanded_of_row (C:=Tryz.checked) (s:=Rows.OpenSpec.upto Rows.topMigratesSpec) own started kz Tryz.func3
  (witness_row_at (enc:=enc) (C:=Tryz.checked) false (Yd os) AHt Y kz kz kz
   (OpenSpec.preRow_of_cond 8 K kz (λk N=>by cases N;kernel_rfl) kz (ALE os))) ?_
 intro W base args ds gs before z O _ y _ X _ _;exact ALY H enc W base args ds gs before z O (y _ Y) X
theorem ba{a b:Bool}(h:a=true)(k:b=true):(a&&b)=true:=by rw[h,k];rfl
theorem k0:Rows.topMigratesUptoRow.wf (OpenSpec.ofChange Rows.topMigratesSpec)=true:=kz
theorem k1:laidOutB Tryz.prog=true:=kz
theorem k2:mapsRowed Tryz.prog=true:=kz
theorem k3:Tryz.f3.params.all (Tryz.prog.readableRec ·)=true:=kz
theorem k4:namedTie Tryz.prog Rows.topMigratesUptoRow.named Rows.topMigratesSpec.vars=true:=kz
theorem k5:(Rows.topMigratesUptoRow.stops==[])=true:=kz
theorem k6:(Tryz.prog.stops==[])=true:=kz
theorem k7:(Rows.topMigratesUptoRow.knobs==[])=true:=kz
theorem k8:(Tryz.prog.stopKnobs==[])=true:=kz
theorem k9:(Rows.topMigratesUptoRow.inPlace==Tryz.prog.inPlace 3)=true:=kz
theorem RF:(Rows.topMigratesUptoRow.unfollowed==Tryz.prog.unfollowed 3)=true:=kz
theorem Nf:(Rows.topMigratesUptoRow.recurses==Tryz.prog.recurses 3)=true:=kz
theorem Se:(Rows.topMigratesUptoRow.named==Tryz.prog.varsNamed 3)=true:=kz
theorem Pt:(Rows.topMigratesUptoRow.maps==(Tryz.f3.params.toList++Rows.topMigratesSpec.plain.varTypes Tryz.prog).any (Tryz.prog.mapsRec ·))=true:=kz
theorem LI:(Rows.topMigratesUptoRow.ifaces==(Tryz.f3.params.toList++Rows.topMigratesSpec.plain.varTypes Tryz.prog).any (Tryz.prog.ifacesRec ·))=true:=kz
theorem T3:(Rows.topMigratesUptoRow.mapsOut==Tryz.prog.mapsAmong Tryz.f3.resultTypes.toList)=true:=kz
theorem O6:(Rows.topMigratesUptoRow.loops==(Tryz.f3.params.toList++Rows.topMigratesSpec.plain.varTypes Tryz.prog).any (Tryz.prog.loopsFrom ·))=true:=kz
theorem UP:(Rows.topMigratesUptoRow.wideKeys==(Tryz.f3.params.toList++Rows.topMigratesSpec.plain.varTypes Tryz.prog++Tryz.f3.resultTypes.toList).any (Tryz.prog.wideKeysFrom ·))=true:=kz
theorem XO:Rows.topMigratesSpec.vars.all (Tryz.prog.varReadable ·)=true:=kz
theorem Rt:Tryz.f3.resultTypes.all (λt=>Tryz.prog.readableRec t&&decide (t<Tryz.prog.types.size))=true:=kz
theorem k20:(Rows.topMigratesUptoRow.ifacesOut==Tryz.f3.resultTypes.toList.any (Tryz.prog.ifacesRec ·))=true:=kz
theorem ZX:(Rows.topMigratesUptoRow.loopsOut==Tryz.f3.resultTypes.toList.any (Tryz.prog.loopsFrom ·))=true:=kz
theorem k22:(Rows.topMigratesUptoRow.plainKeys==Tryz.prog.plainKeys)=true:=kz
theorem k23:Rows.topMigratesUptoRow.shortTexts.isNone=true:=kz
theorem k24:Tryz.prog.stopsHeard=true:=kz
theorem WT:Tryz.prog.mayEnter=true:=kz
theorem k26:(Rows.topMigratesUptoRow.lifted==Tryz.prog.liftsFinal)=true:=kz
theorem k27:(Tryz.prog.make==some Rows.topMigratesUptoRow.make)=true:=kz
theorem k28:(Rows.topMigratesUptoRow.kinds==(if Rows.topMigratesUptoRow.domain.isEmpty then[]else Tryz.f3.params.toList.map λt=>match Tryz.prog.underlying t with|some (.int k)=>some k|_=>none))=true:=kz
theorem Yg:(Rows.topMigratesUptoRow.pinned==Rows.topMigratesUptoRow.pinnedBy)=true:=kz
theorem k30:(Rows.topMigratesUptoRow.veiled==(Tryz.f3.params.toList++Rows.topMigratesSpec.plain.varTypes Tryz.prog++Tryz.f3.resultTypes.toList).any (Tryz.prog.veiledRec ·))=true:=kz
theorem k31:Rows.topMigratesUptoRow.veiledFits Tryz.prog Tryz.f3.params.toList (Tryz.f3.params.toList++Rows.topMigratesSpec.plain.varTypes Tryz.prog++Tryz.f3.resultTypes.toList)=true:=kz
theorem closed:joinedFacts Tryz.prog 3 Tryz.f3 Rows.topMigratesSpec Rows.topMigratesUptoRow=true:=
 ba (ba (ba (ba (ba (ba (ba (ba (ba (ba (ba (ba (ba (ba (ba (ba (ba (ba (ba (ba (ba (ba (ba (ba (ba (ba (ba (ba (ba (ba (ba k0 k1) k2) k3) k4) k5) k6) k7) k8) k9) RF) Nf) Se) Pt) LI) T3) O6) UP) XO) Rt) k20) ZX) k22) k23) k24) WT) k26) k27) k28) Yg) k30) k31
theorem AOH:Tryz.pinned.checked.prog.funcNamed Rows.topMigratesUptoRow.func=some 3:=kz
theorem AKd:Rows.TopMigratesUptoSaid:=
 OpenClaim.holds_of_cond 3 Tryz.f3 Y Y Y Y Y Y Y ⟨Y,Y,Y,Y,Y⟩ Y Y Y Y Y AOH Tryz.func3 closed
  (of_decide_eq_true kz) (by unfold Func.isWrapper;first|(rw[if_pos (by decide+kernel)];kernel_rfl)|(rw[if_neg (by decide+kernel)];exact⟨Y,Y⟩))
  (λos started H enc _ F=>by rw[OpenClaim.pre_eq_preRow];exact AG7 os started H enc F)
theorem AJH(f:FuncId)(fn:Func)(H:Tryz.pinned.checked.prog.funcNamed "clockwork/clockworktop.TopMigrates"=some f)(z:Tryz.pinned.checked.prog.funcs[f]? =some fn):true=Tryz.pinned.checked.prog.looks []/\∀(j:Nat)t,fn.params[j]? =some t->Tryz.pinned.checked.prog.wantsStandIn t=false:=by
 obtain rfl:f=3:=Lp ((show Tryz.prog.funcNamed "clockwork/clockworktop.TopMigrates"=some 3 by kernel_rfl).symm.trans H)|>.symm;obtain rfl:fn=Tryz.f3:=(Lp (Tryz.func3.symm.trans z)).symm;refine⟨by kernel_rfl,λj t ht=>?_⟩;rw[Tryz.params3]at ht;have hm:t∈[22,25,26,27]:=by simpa using Array.mem_of_getElem? ht
 have y:([22,25,26,27].all λu=> !Tryz.prog.wantsStandIn u)=true:=kz
 exact(show Tryz.prog.wantsStandIn t=false by simpa using AAD.1 y t hm)
end Go.Proofs.YthjnkknigpkldaaGreatDoor.topMigrates
namespace Go.Proofs.YthjnkknigpkldaaGreatDoor
variable {aB:World}
theorem topMigratesProved:Rows.TopMigratesUptoCardSaid:=
 Go.Claim7.holds_tied_plain_at .later [] _ _ _ _ topMigrates.AKd (λ_ h=>by cases h) kz (λ_ h=>by cases h) topMigratesUpto_row_tie Y ⟨Y,Y⟩ kz Y topMigrates.AJH kz
end Go.Proofs.YthjnkknigpkldaaGreatDoor
