/-
  A part of the proof that the statement TopMigratesUptoCardSaid holds (Hj).
  Conditions: none.
-/
import Derived.Test.YthjnkknigpkldaaGreatDoorPc
import Derived.Test.YthjnkknigpkldaaGreatDoorPe
set_option linter.all false
set_option maxRecDepth 100000
set_option maxHeartbeats 4000000
namespace Go.Proofs.YthjnkknigpkldaaGreatDoor
variable {V V' V0:AM} {y z N W i n:Nat} {r:Bool} {H:Bu} {A:SA} {O av cs:List Value} {X:List OB} {ao:List (List OB)} {bq:List Ak}
def Nl(y:BR)(X:Int):AA Int:=
 (Az (Oj y.Op) λz=>Az (CG ((!z.2)==false) (Rj y z.1)) λZ=>cond ((!z.2)||(!Z)) (some 1) (Az (CG ((z.1.name)==true) (I0 y.Name)) λx9=>cond (z.1.name&&(!x9)) (some 7) (jn (jn (cond (decide (12<X)) (some 2) (some 0)) (λH=>cond z.1.b (Az (La (⟨y.B.Op,y.B.N,y.B.S,y.B.Aw⟩:Ak)) λK=>cond (K !=0) (some K) H) H)) (λO=>cond z.1.a (Az (La (⟨y.A.Op,y.A.N,y.A.S,y.A.Aw⟩:Ak)) λW=>cond (W !=0) (some W) O) O))))
theorem Z8(H:BR)(Z:Int){a2:AA Addr}{a3:AA Addr}{a4:AA Addr}{a5:AA Addr}(h2:AK Br V a2 y H.A.Aw)(h3:AK Br V a3 z H.B.Aw)(h4:AK CN V a4 N H.CU)(h5:AK CN V a5 W H.Js){r:Int}(U:Nl H Z=some r):Spec Tryz.prog 227 [.agg ⟨[vI H.Op,vS H.Name,vI H.Max,vI H.A.Op,vI H.A.N,vS H.A.S,vL a2 H.A.Aw y,vI H.B.Op,vI H.B.N,vS H.B.S,vL a3 H.B.Aw z,vL a4 H.CU N,vL a5 H.Js W]⟩,vI Z] V (λ_ v=>v=vI r):=by
 refine se Tryz.func227 ?_;refine Yr.cb U Y (AEU H.Op) λK U=>?_;refine Gj U Y (AF5 H K.1 h2 h3 h4 h5) λx8 U=>?_;refine i1 U λhb U=>?_;refine Gj U Y (OP H.Name) λx9 U=>?_;refine i1 U λhb U=>?_;refine sm U (λO L' V' M'=>L'=[(1,sI Z),(2,.ptr 0 0),(5,.ptr 1 0)]/\M'=[.Bp [sI H.Op,sS H.Name,sI H.Max,sI H.A.Op,sI H.A.N,sS H.A.S,sL a2 H.A.Aw y,sI H.B.Op,sI H.B.N,sS H.B.S,sL a3 H.B.Aw z,sL a4 H.CU N,sL a5 H.Js W] 267,.Bp [sB K.1.name,sB K.1.a,sB K.1.b,sB K.1.max,sB K.1.body,sB K.1.other] 334]/\AK Br V' a2 y H.A.Aw/\AK Br V' a3 z H.B.Aw/\AK CN V' a4 N H.CU/\AK CN V' a5 W H.Js/\O=some r) Y ?_ λO U=>?_
 ·rintro L' _ M' ⟨rfl,rfl,_,aa,_,_,U⟩;refine sm U (λX L' V' M'=>L'=[(1,sI Z)]/\M'=[]/\X=some r) Y ?_ λX U=>?_
  ·rintro L' _ M' ⟨rfl,rfl,U⟩;exact i3 U
  ·refine i6 U λhb U=>?_;refine Yr.cb U Y (Tj (⟨H.B.Op,H.B.N,H.B.S,H.B.Aw⟩:Ak) aa) λab U=>?_;exact B4 U Y (λ_ U=>rt) λ_ U=>r0
 ·refine i4 U λhb U=>?_;refine Yr.cb U Y (Tj (⟨H.A.Op,H.A.N,H.A.S,H.A.Aw⟩:Ak) h2) λad U=>?_;exact B4 U Y (λ_ U=>rt) λ_ U=>rd
def Kj(y:Int)(H:Ah)(x3:Ah):AA (Except Gk Ah):=
 (Az (CI ((H.BD==x3.BD)&&(((H.BD==1)||(H.BD==2))||((H.BD==3)&&(decide (y<=11)))))) λx4=>I9 x4 (λs5=>some (.error s5)) λx6=>Az (Nh H x3) λz=>cond (y==10) (Az (Db (z==0)) λK=>some (.ok K)) (cond (y==11) (Az (Db (z !=0)) λN=>some (.ok N)) (cond (y==12) (Az (Db (decide (z<0))) λO=>some (.ok O)) (cond (y==13) (Az (Db (decide (z<=0))) λW=>some (.ok W)) (cond (y==14) (Az (Db (decide (0<z))) λX=>some (.ok X)) (Az (Db (decide (0<=z))) λZ=>some (.ok Z)))))))
theorem Y0(O:Int)(z:Ah)(H:Ah){r:Except Gk Ah}(U:Kj O z H=some r):GP Tryz.prog 243 [vI O,.agg ⟨[vI z.BD,vI z.N,vS z.S]⟩,.agg ⟨[vI H.BD,vI H.N,vS H.S]⟩] [] V (λV' e M'=>M'=[]/\e=Pv 246 (λ(y:Ah)=>(.agg ⟨[vI y.BD,vI y.N,vS y.S]⟩:Value)) r):=by
 refine sx Tryz.func243 ?_;refine xr Y ?_;have⟨_,W,U⟩:=AO U;refine Y.cx U [] Y (CB ((z.BD==H.BD)&&(((z.BD==1)||(z.BD==2))||((z.BD==3)&&(decide (O<=11))))) W) (λx6 Z U=>?_);rintro _ _ _ rfl;refine⟨_,Y,?_⟩;refine Yr.cb U Y (Zy z H) λK U=>?_;refine B4 U Y (λ_ U=>?_) λX U=>?_
 ·refine Yr.cb U Y (Fy (K==0)) λaa U=>?_;exact rt
 ·refine B4 U Y (λ_ U=>?_) λX U=>?_
  ·refine Yr.cb U Y (Fy (K !=0)) λab U=>?_;exact rt
  ·refine B4 U Y (λ_ U=>?_) λX U=>?_
   ·refine Yr.cb U Y (Fy (decide (K<0))) λad U=>?_;exact rt
   ·refine B4 U Y (λ_ U=>?_) λX U=>?_
    ·refine Yr.cb U Y (Fy (decide (K<=0))) λae U=>?_;exact rt
    ·refine B4 U Y (λ_ U=>?_) λ_ U=>?_
     ·refine Yr.cb U Y (Fy (decide (0<K))) λaf U=>?_;exact rt
     ·refine Yr.cb U Y (Fy (decide (0<=K))) λag U=>?_;exact rt
def Kl(H:List Int)(O:AI)(W:List AR)(K:(List BA)->AA (List BA)):Nat->(List BA)->Int->AA (List BA)
 |0,_,_=>none|X+1,z,y=>cond (decide (y<(H.length:Int))) (Ba (0<=y/\y<(H.length:Int)) (Az (K8 O W (AN H y)) λN=>Ba ((z++[(⟨(AN H y),N⟩:BA)]).length*32<=140737488355328) (Kl H O W K X (z++[(⟨(AN H y),N⟩:BA)]) (AB (y+1))))) (K z)
def Kx(y:AI)(K:List AR):AA (List BA):=
 (Az (Ct y) λN=>Az (CG ((!N)==false) (Fa K)) λW=>cond ((!N)||(!W)) (some ([]:List BA)) (Az (FD y) λO=>jn (λ(z:List BA)=>some z) (λH=>Kl O y K H ((O.length:Int).toNat+1) ([]:List BA) 0)))
theorem Rc(N:AI)(x3:List AR){a2:AA Addr}{a4:AA Addr}(h2:AK BS V a2 y N.AG)(h4:AK Au V a4 z x3){r:List BA}(U:Kx N x3=some r):Spec Tryz.prog 7 [.agg ⟨[vI N.Ax,vL a2 N.AG y]⟩,vL a4 x3 z] V (λV' v=>∃ah ai,v=vL ah r ai/\AK DH V' ah ai r):=by
 refine se Tryz.func7 ?_;refine Yr.cb U Y (Dm N h2) λx5 U=>?_;refine Gj U Y (Hb x3 h4) λx6 U=>?_;refine i1 U λhb U=>?_;have⟨Z,ar,U⟩:=AO U;refine Yr.call Y (Ja N h2 ar) ?_;rintro V9 _ _ ⟨a8,k8,rfl,h8⟩;refine AD.run Aa 3 Y ?_;refine AD.Eh 66 2 Y ?_;have au:AF DH V9 ([]:List BA) []:=AF.nil;refine sn U (λab L' V' M'=>∃(W:List BA),∃ad Pt X,L'=[(5,sL ad W Pt)]/\M'=[.Bp [sI N.Ax,sL a2 N.AG y] 25,.row (vL ad W Pt) X 66 2]/\AF DH V' W X/\AK BS V' a2 y N.AG/\ab W=some r) Y ?_ λab U=>?_
 ·rintro L' _ M' ⟨W,ad,Pt,X,rfl,rfl,av,_,U⟩;refine Yr.QY 1 Y (λaC aj ak al=>?_);have aB:=BV av aj ak al;exact ry
 ·refine lq (λan L' V' M'=>∃(K:List BA),∃ae k20 O,∃(H:Int),L'=[(1,sL a4 x3 z),(2,.ptr 0 0),(5,sL ae K k20),(17,sL a8 Z k8),(18,sN Z),(19,sI H)]/\M'=[.Bp [sI N.Ax,sL a2 N.AG y] 25,.row (vL ae K k20) O 66 2]/\AF DH V' K O/\AK Au V' a4 z x3/\AK (CD .i64) V' a8 k8 Z/\AK BS V' a2 y N.AG/\Kl Z N x3 ab an K H=some r) Y ⟨_,_,_,_,_,Y,Y,au,tu,h8,tu,U⟩ ?_;rintro an L' _ M' ⟨K,ae,k20,O,H,rfl,rfl,aw,ax,ay,az,U⟩;refine i4 U λ_ U=>?_;have⟨af,U⟩:=AL U;obtain⟨_,rfl,aa⟩:=AK.get ay af;refine Yr.ia Y ⟨af.1,af.2,aa.some⟩ ?_;refine Yr.ld (x:=vI (AN Z H)) Y aa Y ?_;have⟨ag,ao,U⟩:=AO U;refine Yr.call Y (TG N x3 (AN Z H) az ax ao) ?_;rintro a1 _ aq ⟨a6,k31,rfl,_⟩;have a7:=AF.mono aq aw;refine Yr.RV Y ?_;have⟨aA,U⟩:=AL U;refine Yr.app (nm:=(K++[(⟨(AN Z H),ag⟩:BA)]).length) 1 2 Y zp (λ_ _=>Y) aA (λaD aE=>?_);have aF:AF DH a1 (K++[(⟨(AN Z H),ag⟩:BA)]) (O++[vI (AN Z H),vL a6 ag k31]):=AF.app a7 ⟨_,_,Y,tu,Y⟩;exact r2
def JV(z:List BA)(H:List Int)(X:AI)(K:AA Bool):Nat->Int->AA Bool
 |0,_=>none|O+1,y=>cond (decide (y<(z.length:Int))) (Ba (0<=y/\y<(z.length:Int)) (Ba (0<=y/\y<(H.length:Int)) (Az (CG (((AN z y).Ab !=(AN H y))==false) (Fa ((AN z y).BF))) λN=>Az (CG ((((AN z y).Ab !=(AN H y))||(!N))==false) (K8 X ((AN z y).BF) ((AN z y).Ab))) λW=>cond ((((AN z y).Ab !=(AN H y))||(!N))||((W.length:Int) !=(((AN z y).BF).length:Int))) (some false) (JV z H X K O (AB (y+1)))))) K
def Jo(y:AI)(z:List BA):AA Bool:=
 (Az (FD y) λN=>Az (Ct y) λH=>cond ((!H)||((z.length:Int) !=(N.length:Int))) (some false) (jn (some true) (λK=>JV z N y K ((z.length:Int).toNat+1) 0)))
theorem QH(N:AI)(K:List BA){a2:AA Addr}{a4:AA Addr}(h2:AK BS V a2 y N.AG)(h4:AK DH V a4 z K)(U:Jo N K=some r):Spec Tryz.prog 14 [.agg ⟨[vI N.Ax,vL a2 N.AG y]⟩,vL a4 K z] V (λ_ v=>v=vB r):=by
 refine se Tryz.func14 ?_;have⟨x5,al,U⟩:=AO U;refine Yr.call Y (Ja N h2 al) ?_;rintro _ _ _ ⟨a6,k6,rfl,_⟩;refine Yr.cb U Y (Dm N tu) λaw U=>?_;refine i1 U λhb U=>?_;refine sj 8 U Y λan U=>?_;refine lq (λag L' V' M'=>∃(H:Int),L'=[(2,.ptr 0 0),(5,sL a6 x5 k6),(20,sL a4 K z),(21,sN K),(22,sI H)]/\M'=[.Bp [sI N.Ax,sL a2 N.AG y] 25]/\AK (CD .i64) V' a6 k6 x5/\AK DH V' a4 z K/\AK BS V' a2 y N.AG/\JV K x5 N an ag H=some r) Y tu ?_;rintro ag L' _ M' ⟨H,rfl,rfl,ao,aq,ar,U⟩;refine i6 U λhb U=>?_;have⟨Z,U⟩:=AL U;have⟨_,ah,O⟩:=AK.get aq Z;obtain⟨au,ZX,rfl,ai⟩:=ah;refine Yr.ia Y ⟨Z.1,Z.2,O.some⟩ ?_;refine Yr.ld (x:=.agg ⟨[vI ((AN K H).Ab),vL au (AN K H).BF ZX]⟩) Y O Y ?_;refine Yr.DU [(0,true),(1,true),(2,true),(3,true),(4,true),(5,true),(6,true),(7,true),(8,true),(9,true),(10,false),(11,false),(12,false),(13,false),(14,true),(15,true),(16,true),(17,true),(18,true),(21,true),(22,true),(23,true),(19,false),(20,false),(24,false),(25,false)] Y ?_;have⟨ab,U⟩:=AL U;obtain⟨_,rfl,W⟩:=AK.get ao ab;refine Yr.Qp Y ⟨ab.1,ab.2,W.some⟩ ?_;refine Yr.P8 (x:=vI (AN x5 H)) Y W ?_;refine Gj U Y (Hb ((AN K H).BF) ai) λax U=>?_;have⟨ad,X,U⟩:=AO U;refine xr Y (ZD (λaa:AA Addr×Nat=>vL aa.1 ad (aa.2)) (none,0) (R:=λV' aa=>AK Au V' aa.1 aa.2 ad) Y Y Y (λae=>(TG N ((AN K H).BF) ((AN K H).Ab) ar ai (Nq X (Bv ae))).mono (λV' _ _ ⟨af,k26,e1,aj⟩=>⟨⟨af,k26⟩,e1,aj⟩)) ?_);rintro av ⟨af,k26⟩ _ ak;have aj:AK Au av af k26 ad:=AHC X (λae=>(ak ae));exact B4 U Y (λ_ U=>rt) λ_ U=>r1
def EC(N:MG)(H:AI)(K:Int):AA (AI×List BA×Int):=
 (cond (K !=0) (some ((⟨0,([]:List Bc)⟩:AI),([]:List BA),K)) (Az (Ic N.l) λy=>cond (y.2 !=0) (some ((⟨0,([]:List Bc)⟩:AI),([]:List BA),y.2)) (Az (Kx H y.1) λz=>some (H,z,0))))
theorem J1(H:MG)(K:AI)(x6:Int){a2:AA Addr}{a3:AA Addr}{a5:AA Addr}(h2:AK BS V a2 y H.p.AG)(h3:AK DH V a3 z H.l)(h5:AK BS V a5 N K.AG){r:AI×List BA×Int}(U:EC H K x6=some r):Spec Tryz.prog 48 [.agg ⟨[vI H.p.Ax,vL a2 H.p.AG y,vL a3 H.l z,vI H.m.BD,vI H.m.Part,vI H.m.New,vI H.m.Ab,vI H.m.N,vS H.m.Key]⟩,.agg ⟨[vI K.Ax,vL a5 K.AG N]⟩,vI x6] V (λV' v=>∃O k20 W ZX,v=.tuple ⟨[.agg ⟨[vI (r.1.Ax),vL O r.1.AG k20]⟩,vL W r.2.1 ZX,vI (r.2.2)]⟩/\AK BS V' O k20 r.1.AG/\AK DH V' W ZX r.2.1):=by
 refine se Tryz.func48 ?_;refine i1 U λhb U=>?_;have⟨x7,Z,U⟩:=AO U;refine Yr.call Y (Rx H.l h3 Z) ?_;rintro _ _ _ ⟨_,_,rfl,h8⟩;refine i1 U λ_ U=>?_;refine Yr.DU (pm 7 0 7) Y ?_;have⟨_,X,U⟩:=AO U;refine Yr.call Y (Rc K x7.1 tu h8 X) ?_;rintro _ _ _ ⟨_,_,rfl,_⟩;exact rt
def MS(s:JL)(nd:Bu)(t:Int):AA (Bu×List B3):=
 Ba (0<=t/\t<(nd.C9.length:Int)) (Ba (0<=t/\t<(s.Oq.length:Int)) (Az (LV s.p nd.Ac t (AN s.Oq t)) λms=>Ba ((s.A6++ms).length*72<=140737488355328)
  (Az (Jn s.Xa nd.Ac.Ab t) λex=>Az (cond (!ex) (Hk {nd with C9:=nd.C9.set t.toNat true} t) (some {nd with C9:=nd.C9.set t.toNat true})) λy=>some (y,s.A6++ms))))
theorem W8{r:Bu}{t:Int}(h:Hk H t=some r):r={H with table:=r.table}:=by
 unfold Hk at h;have⟨z,_,h⟩:=AO h;obtain rfl:=Bt h;cases(z.2==0)<;>rfl
abbrev syR(b:Nat)(s:JL)(n:Nat)(A:SA):OB:=.row (.slice (some ⟨b,0,none⟩) 1 1) (syC s n A) 88 10
abbrev ndR(b:Nat)(nd:Bu)(B:NA):OB:=.row (.slice (some ⟨b,0,none⟩) 1 1) (ndC nd B) 96 7
theorem Wf(s:JL)(nd:Bu)(i t:Int){b:Nat}{bs:List Nat}{B:NA}(hS:SyV V s bs A)(z:NdV V nd B)(hi:0<=i/\i<(bs.length:Int))(ht:AF DO V s.A6 O)(hs:AF Ot V nd.C9 av){r:Bu×List B3}(U:MS s nd t=some r):GP Tryz.prog 60 [.pointer (some ⟨b,0,none⟩),.int .i64 i,.int .i64 t] [syR b s bs.length A,.row (.slice A.a7 s.A6.length A.k7) O 183 5,ndR (AN bs i) nd B,.row (.slice B.sa nd.C9.length B.ks) av 4 1] V (λV' e M'=>∃v,e=.returned v/\v=.tuple ⟨[]⟩/\∃a7 k7 O ag kg aq kq av,M'=[syR b {s with A6:=r.2} bs.length {A with a7:=a7,k7:=k7},.row (.slice a7 r.2.length k7) O 183 5,ndR (AN bs i) r.1 {B with ag:=ag,kg:=kg,aq:=aq,kq:=kq},.row (.slice B.sa r.1.C9.length B.ks) av 4 1]/\NdV V' r.1 {B with ag:=ag,kg:=kg,aq:=aq,kq:=kq}/\AF DO V' r.2 O/\AF Ot V' r.1.C9 av):=by
 have⟨q1,U⟩:=AL U;have⟨q2,U⟩:=AL U;have⟨ms,ab,U⟩:=AO U;have⟨q3,U⟩:=AL U;have⟨ex,hex,U⟩:=AO U;have⟨N,W,U⟩:=AO U;cases U;refine sx Tryz.func60 ?_;refine Yr.O5 (l:=[.slice A.a6 bs.length A.k6]) 0 Y (Ar Y) Y ?_;obtain⟨_,rfl,hd⟩:=AK.get hS.nd hi;refine Yr.ia Y ⟨hi.1,hi.2,hd.some⟩ ?_;refine Yr.ld (x:=.pointer (some ⟨AN bs i,0,none⟩)) Y hd Y ?_;refine Yr.O5 (l:=[.slice B.sa nd.C9.length B.ks]) 2 Y (Ar Y) Y ?_;refine xr Y (CX 3 Y (λra rb rc=>?_));have rs:=rb (YM q1);refine AD.ia Aa Y Y ⟨q1.1,q1.2,rs⟩ ?_;have X:AF Ot V (nd.C9.set t.toNat true) (av.take (t.toNat*1)++[.bool true]++av.drop (t.toNat*1+1)):=AF.set hs q1 Y;refine Yr.Zr 3 Y rs (stB q1 (AF.len hs)) Y ?_;refine Yr.E2 [25] [1] (pm 26 0 27262975) Y ?_;refine Yr.Jw (l:=[.slice A.a7 s.A6.length A.k7]) 0 Y (Ar Y) ?_;refine Yr.Jw (l:=[.int .i64 s.p.Ax,.slice A.a1 s.p.AG.length A.k1]) 0 Y (BE.part (off:=0) (λj v hj=>by simpa using hj) 1 2 Y) ?_;refine Yr.Jw (l:=[.int .i64 nd.Ac.Ab,.slice B.ap nd.Ac.BF.length B.kp]) 2 Y (BE.part (off:=0) (λj v hj=>by simpa using hj) 0 2 Y) ?_;refine Yr.Jw (l:=[.slice A.a3 s.Oq.length A.k3]) 0 Y (Ar Y) ?_;obtain⟨_,⟨a2,k2,a3,k3,rfl,h2,h3⟩,Z⟩:=AK.get hS.fo q2;refine Yr.Qp Y ⟨q2.1,q2.2,Z.some⟩ ?_;refine Yr.P8 (x:=.agg ⟨[.bool (AN s.Oq t).G7,.slice a2 (AN s.Oq t).Am.length k2,.slice a3 (AN s.Oq t).AX.length k3]⟩) Y Z ?_;refine Yr.call Y (Z7 s.p nd.Ac t (AN s.Oq t) hS.pp z.p h2 h3 ab) ?_;rintro V1 _ y ⟨_,_,rfl,h4⟩;have hS:=hS.mono y;have z:=z.mono y;refine xr Y (ABw (cd:=DO) Aa 1 (nm:=(s.A6++ms).length) Y Y Y Y Y Y h4 Y zp (λ_ _ _=>Y) Y q3 (λnews K a7 k7=>?_));have aa:AF DO V1 (s.A6++ms) (O++news):=AF.app (AF.mono y ht) K;refine Yr.P6 0 Y (Ae Y) ?_;refine xr Y (Wp (.bool ex) Y Y (λV2 H hl=>OS s.Xa nd.Ac.Ab t (Bi.part ((hl.row 0 Y).1 zp) 6 1 Y) (hS.ex.mono H) (Bi.part ((hl.row 2 Y).1 zp) 0 1 Y) hex) ?_);refine xr Y ?_;have e1:ndR (AN bs i) nd B=ndR (AN bs i) {nd with C9:=nd.C9.set t.toNat true} B:=by simp[ndR,ndC]
 cases ex with
 |false=>
  refine CT Y Y ?_;refine xr Y ?_;rw[e1];refine I7 [2] Y Y Y Y Y Y (Oy {nd with C9:=nd.C9.set t.toNat true} t (A:=B) ⟨z.p,z.g,z.q⟩ W) ?_;rintro V2 _ _ H ⟨rfl,ag,kg,aq,kq,rfl,h5,h6⟩;refine⟨_,Y,?_⟩;have h7:N.C9.length=nd.C9.length:=by rw[h6];simp
  have ad:AF Ot V2 N.C9 (av.take (t.toNat*1)++[.bool true]++av.drop (t.toNat*1+1)):=by rw[h6];exact AF.mono (y.trans H) X
  exact Yr.SL Y ⟨Y,Y,_,Y,Y,a7,k7,_,ag,kg,aq,kq,_,by rw[h7];rfl,h5,AF.mono H aa,ad⟩
 |true=>
  obtain rfl:=Bt W;refine CY Y Y ?_;exact Yr.SL Y ⟨Y,Y,_,Y,Y,a7,k7,_,B.ag,B.kg,B.aq,B.kq,_,by rw[<- e1,Cr];rfl,⟨z.p,z.g,z.q⟩,aa,AF.mono y X⟩
abbrev ndO(b:Nat)(nd:Bu)(B:NA)(y z H:List Value):List OB:=[ndR b nd B,.row (.slice B.ai nd.C5.length B.ki) y 183 5,.row (.slice B.sa nd.C9.length B.ks) z 4 1,.row (.slice B.ae nd.exec.length B.ke) H 4 1]
def Z9(V:AM)(b:Nat)(nd:Bu)(O:List OB):Prop:=∃B y z H,O=ndO b nd B y z H/\NdV V nd B/\AF DO V nd.C5 y/\AF Ot V nd.C9 z/\AF Ot V nd.exec H
theorem Z9.mono{b:Nat}(h:Z9 V b H X)(hv:DI V V'):Z9 V' b H X:=by
 have⟨B,y,z,K,h0,h1,h2,h3,N⟩:=h;exact⟨B,y,z,K,h0,h1.mono hv,AF.mono hv h2,AF.mono hv h3,AF.mono hv N⟩
structure Jd(V:AM)(bs:List Nat)(l:List Bu)(Bs:List (List OB)):Prop where
 h1:bs.length=l.length
 h2:Bs.length=l.length
 h:∀(i:Nat)b nd O,bs[i]? =some b->l[i]? =some nd->Bs[i]? =some O->Z9 V b nd O
theorem Jd.mono{bs:List Nat}{l:List Bu}(h:Jd V bs l ao)(hv:DI V V'):Jd V' bs l ao:=⟨h.h1,h.h2,λi b nd O a c d=>(h.h i b nd O a c d).mono hv⟩
theorem Jd.get{bs:List Nat}{l:List Bu}(h:Jd V bs l ao){i:Int}(q:0<=i/\i<(bs.length:Int)):∃O,ao[i.toNat]? =some O/\Z9 V (AN bs i) (AN l i) O:=by
 have⟨O,y⟩:=get_some (l:=ao) (i:=i.toNat) (by rw[h.h2,<- h.h1];exact lt_toNat q);exact⟨O,y,h.h _ _ _ _ (ABQ q) (ABQ (by rw[<- h.h1];exact q)) y⟩
theorem Jd.set{bs:List Nat}{l:List Bu}(h:Jd V bs l ao){i:Int}(q:0<=i/\i<(bs.length:Int))(W:Z9 V (AN bs i) H X):Jd V bs (l.set i.toNat H) (ao.set i.toNat X):=by
 refine⟨by rw[Cr];exact h.h1,by rw[Cr,Cr];exact h.h2,λj b x P N y z=>?_⟩;rw[H2]at y z;by_cases K:i.toNat=j
 ·subst K;rw[ABQ q]at N;simp only[IW]at y z;split at y<;>simp at y;split at z<;>simp at z;simp only[AE]at N;subst N;subst y;subst z;exact W
 ·rw[if_neg K]at y z;exact h.h j b x P N y z
theorem O8(h:ao[i]? =some X):ao.flatten=(ao.take i).flatten++X++(ao.drop (i+1)).flatten:=by
 have:=B2 List.flatten (YF h);simpa[AGH]using this
theorem SK(h:i<ao.length):(ao.take i).flatten++X++(ao.drop (i+1)).flatten=(ao.set i X).flatten:=by
 rw[ACm h];simp[AGH]
def H5(m:B3):Nat->List Bu->Int->AA (List Bu)
 |0,_,_=>none|n+1,l,i=>cond (decide (i<(l.length:Int))) (Ba (0<=i/\i<(l.length:Int)) (Az (cond ((AN l i).Ac.Ab==m.To) (Ba (((AN l i).C5++[m]).length*72<=140737488355328) (some {AN l i with C5:=(AN l i).C5++[m]})) (some (AN l i))) λnd=>
  H5 m n (l.set i.toNat nd) (AB (i+1)))) (some l)
def Of(s:JL)(i:Int):AA (List Bu×List B3):=
 Ba (0<=i/\i<(s.A6.length:Int)) (Ba (0<=i/\i<=AB (i+1)/\AB (i+1)<=(s.A6.length:Int)) (Ba (s.A6.length<9223372036854775808)
  (Az (H5 (AN s.A6 i) ((s.AU.length:Int).toNat+1) s.AU 0) λl=>some (l,s.A6.take i.toNat++s.A6.drop (AB (i+1)).toNat))))
theorem Tx(s:JL)(i j:Int){b:Nat}{bs:List Nat}(hS:SyV V s bs A)(z:Jd V bs s.AU ao)(ht:AF DO V s.A6 O){r:List Bu×List B3}(U:Of s i=some r):GP Tryz.prog 61 [vP b,vI i,vI j] [syR b s bs.length A,.row (vL A.a7 s.A6 A.k7) O 183 5,.ext (C2 ao.flatten)] V (λV' e M'=>∃v,e=.returned v/\v=.tuple ⟨[]⟩/\∃O ao,M'=[syR b {s with A6:=r.2} bs.length A,.row (vL A.a7 r.2 A.k7) O 183 5,.ext (C2 ao.flatten)]/\Jd V' bs r.1 ao/\AF DO V' r.2 O):=by
 have⟨q1,U⟩:=AL U;have⟨q2,U⟩:=AL U;have⟨q3,U⟩:=AL U;have⟨l,hl,U⟩:=AO U;cases U;refine sx Tryz.func61 ?_;refine Yr.O5 (l:=[vL A.a7 s.A6 A.k7]) 0 Y (Ar Y) Y ?_;refine xr Y (CX 1 Y (λra rb rc=>?_));have rs:=rb (YM q1);refine AD.ia Aa Y Y ⟨q1.1,q1.2,rs⟩ ?_;obtain⟨_,⟨a1,k1,a2,k2,rfl,h1,h2⟩,hd⟩:=AF.get ht q1;refine xr Y (KM Aa 1 (x:=.agg ⟨[vI (AN s.A6 i).Is,vI (AN s.A6 i).BU,vI (AN s.A6 i).To,vL a1 (AN s.A6 i).Keys k1,vL a2 (AN s.A6 i).BF k2]⟩) Y Y Y ⟨hd,rs⟩ Y Y ?_);refine Yr.O5 (l:=[vL A.a7 s.A6 A.k7]) 0 Y (Ar Y) Y ?_;refine xr Y (Ef 1 Y Y Y Y (OA s.A6 ht q2 q3) ?_);rintro _ _ _ H ⟨K,rfl,rfl,h3⟩;refine⟨_,Y,?_⟩;have hS:=hS.mono H;have z:=z.mono H;have h1:=AK.mono h1 H;have h2:=AK.mono h2 H;refine Yr.P6 0 Y (Ae Y) ?_;refine Yr.O5 (l:=[vL A.a6 bs A.k6]) 0 Y (Ar Y) Y ?_;refine xr Y ?_;have e0:(ao.length:Int)=ao.length:=Y;refine AD.loop (λn L' V' M'=>∃(u:Int)(l0:List Bu)(ao:List (List OB)),L'=[(6,.ptr 3 0),(30,sL A.a6 bs A.k6),(31,sN bs),(32,sI u)]/\M'=[syR b {s with A6:=s.A6.take i.toNat++s.A6.drop (AB (i+1)).toNat} bs.length A,.row (vL A.a7 (s.A6.take i.toNat++s.A6.drop (AB (i+1)).toNat) A.k7) K 183 5,.ext (C2 ao.flatten),.Bp [sI (AN s.A6 i).Is,sI (AN s.A6 i).BU,sI (AN s.A6 i).To,sL a1 (AN s.A6 i).Keys k1,sL a2 (AN s.A6 i).BF k2] 183]/\
  Jd V' bs l0 ao/\AF DO V' (s.A6.take i.toNat++s.A6.drop (AB (i+1)).toNat) K/\AK Bf V' a1 k1 (AN s.A6 i).Keys/\AK Au V' a2 k2 (AN s.A6 i).BF/\AK ACJ V' A.a6 A.k6 bs/\H5 (AN s.A6 i) n l0 u=some l)
  ⟨_,[(6,.ptr 3 0),(30,sL A.a6 bs A.k6),(31,sN bs),(32,sI 0)],⟨Y,Y,Y,Y,Yt⟩,0,s.AU,ao,Y,Y,z,h3,h1,h2,hS.nd,hl⟩ ?_
 rintro n L' V2 M' ⟨u,l0,ao,rfl,rfl,z,h3,h1,h2,hP,hl⟩;rcases n with _|n
 ·exact absurd hl (by simp[H5])
 rw[H5,<- z.h1]at hl;refine xr Y ?_;rcases CV hl with⟨hb,hl⟩|⟨hb,hl⟩
 ·refine CT Y hb ?_;have⟨q4,hl⟩:=AL hl;have⟨_,y,hl⟩:=AO hl;obtain⟨_,rfl,Z⟩:=AK.get hP q4;refine Yr.ia Y ⟨q4.1,q4.2,Z.some⟩ ?_;refine Yr.ld (x:=.pointer (some ⟨AN bs u,0,none⟩)) Y Z Y ?_;obtain⟨_,hO,B,aa,N,W,rfl,g1,g2,g3,g4⟩:=z.get q4;rw[O8 hO];refine AD.Eh 0 0 Y ?_;refine AD.Eh 0 0 Y ?_;refine AD.Eh 0 0 Y ?_;refine AD.Eh 0 0 Y ?_;refine Uy [2,4,5,6,7] O9 Y Y Y Y Y Y ?_;refine Yr.DU (pm 8 0 255) Y ?_;refine Yr.Jw (l:=[vI (AN l0 u).Ac.Ab]) 4 Y (Ar Y) ?_;refine xr Y ?_;have ab:u.toNat<ao.length:=by rw[z.h2,<- z.h1];exact lt_toNat q4
  rcases CV y with⟨X,y⟩|⟨X,y⟩
  ·have⟨q5,y⟩:=AL y;obtain rfl:=Bt y;refine CT Y X ?_;refine Yr.E2 [10] [5] (pm 11 0 831) Y ?_;refine Yr.Jw (l:=[vL B.ai (AN l0 u).C5 B.ki]) 4 Y (Ar Y) ?_;refine Yr.RV Y ?_;refine Yr.app (nm:=((AN l0 u).C5++[AN s.A6 i]).length) 5 8 Y zp (λ_ _=>Y) q5 (λa5 k5=>?_);have g5:AF DO V2 ((AN l0 u).C5++[AN s.A6 i]) (aa++[vI (AN s.A6 i).Is,vI (AN s.A6 i).BU,vI (AN s.A6 i).To,vL a1 (AN s.A6 i).Keys k1,vL a2 (AN s.A6 i).BF k2]):=AF.app g2 ⟨_,_,Y,tu,Y⟩;refine Yr.P6 4 Y (Ae Y) ?_;have ad:Z9 V2 (AN bs u) {AN l0 u with C5:=(AN l0 u).C5++[AN s.A6 i]} (ndO (AN bs u) {AN l0 u with C5:=(AN l0 u).C5++[AN s.A6 i]} {B with ai:=a5,ki:=k5} _ N W):=⟨_,_,_,_,Y,⟨g1.p,g1.g,g1.q⟩,g5,g3,g4⟩;refine xr Y (Ir [2,4,5,6,7] (ME (B:=ndO (AN bs u) {AN l0 u with C5:=(AN l0 u).C5++[AN s.A6 i]} {B with ai:=a5,ki:=k5} _ N W) Y) Y Y Y Y Y Y ?_);rw[SK ab];refine Yr.cut 4 [6,30,31,32] Y ?_;exact Fj ⟨n,CE _,_,_,_,Y,Y,z.set q4 ad,h3,h1,h2,hP,hl⟩
  ·obtain rfl:=Bt y;refine CY Y X ?_;refine xr Y (Ir [2,4,5,6,7] (ME (B:=ndO (AN bs u) (AN l0 u) B aa N W) Y) Y Y Y Y Y Y ?_);rw[SK ab];refine Yr.cut 4 [6,30,31,32] Y ?_;exact Fj ⟨n,CE _,_,_,_,Y,Y,z.set q4 ⟨_,_,_,_,Y,g1,g2,g3,g4⟩,h3,h1,h2,hP,hl⟩
 ·refine CY Y hb ?_;obtain rfl:=Bt hl;exact rA
def Kf(y:AI)(H:List BA)(K:Int):AA (Int×Int):=
 (Az (Jo y H) λN=>cond (!N) (some (0,1)) (Az (MQ y K) λz=>cond (decide (z<0)) (some (0,9)) (Ba (0<=z/\z<(y.AG.length:Int)) (cond ((AN y.AG z).C0==0) (some (0,19)) (cond (y.Ax==1099511627776) (some (0,2)) (some (z,0)))))))
theorem Yx(H:AI)(N:List BA)(O:Int){a2:AA Addr}{a4:AA Addr}(h2:AK BS V a2 y H.AG)(Z:AK DH V a4 z N){r:Int×Int}(U:Kf H N O=some r):Spec Tryz.prog 85 [.agg ⟨[vI H.Ax,vL a2 H.AG y]⟩,vL a4 N z,vI O] V (λ_ v=>v=.tuple ⟨[vI (r.1),vI (r.2)]⟩):=by
 refine se Tryz.func85 ?_;refine Yr.cb U Y (QH H N h2 Z) λx6 U=>?_;refine i1 U λX U=>?_;refine Yr.cb U Y (Uj H O h2) λx7 U=>?_;refine i1 U λX U=>?_;have⟨W,U⟩:=AL U;obtain⟨_,rfl,K⟩:=AK.get h2 W;refine Yr.ia Y ⟨W.1,W.2,K.some⟩ ?_;refine Yr.ld (x:=vI ((AN H.AG x7).C0)) Y (Bi.part K 3 1 Y) Y ?_;refine i1 U λX U=>?_;exact i3 U
def LR(z:AI)(H:List BA):AA (List BA):=
 (Az (Ic H) λK=>Az (Kx z K.1) λy=>some y)
theorem Z2(H:AI)(O:List BA){a2:AA Addr}{a4:AA Addr}(h2:AK BS V a2 y H.AG)(X:AK DH V a4 z O){r:List BA}(U:LR H O=some r):Spec Tryz.prog 88 [.agg ⟨[vI H.Ax,vL a2 H.AG y]⟩,vL a4 O z] V (λV' v=>∃K O6,v=vL K r O6/\AK DH V' K O6 r):=by
 refine se Tryz.func88 ?_;have⟨Z,W,U⟩:=AO U;refine Yr.call Y (Rx O X W) ?_;rintro _ _ _ ⟨_,_,rfl,h6⟩;have⟨_,N,U⟩:=AO U;refine Yr.call Y (Rc H Z.1 tu h6 N) ?_;rintro _ _ _ ⟨_,_,rfl,_⟩;exact rt
def vaJ(b:Nat)(_:AM)(e:Int)(E:Ext):Prop:=E=C2 [.row (.slice (some ⟨b,0,none⟩) 1 1) [.int .i64 e] 33 1]
def vaS(s:BR)(d e:Int):AA Int:=cond (e==0) (Nl s d) (some e)
def noR{S:Type}(_:Ak)(s:S):AA S:=some s
def noS{S:Type}(_:BR)(_:Int)(s:S):AA S:=some s
theorem AFx{S:Type}(J:AM->S->Ext->Prop):Ry J 228 [] noR:=by
 intro V x cs s E r y z U;cases U;obtain⟨_,_,rfl,_⟩:=DS.1 y;refine sx Tryz.func228 ?_;exact rA
theorem ALo{S:Type}(J:AM->S->Ext->Prop):Q6 J 231 [] noS:=by
 intro V x cs d s E r y z U;cases U;obtain⟨_,_,_,_,_,_,_,_,rfl,_,_,_,_⟩:=Jx.1 y;refine sx Tryz.func231 ?_;exact rA
theorem AFy(b:Nat):Q6 (vaJ b) 226 [vP b] vaS:=by
 intro V x cs d e E r y H U;subst H;obtain⟨_,_,_,_,_,_,_,_,rfl,h1,h2,h3,K⟩:=Jx.1 y;unfold vaS at U;refine sx Tryz.func226 ?_;refine xr Y (Uw 0 Y Y Y Y ?_);refine AD.O5 Aa 0 (l:=[vI e]) Y Y Y (Ar Y) Y Y ?_;refine ZA 0 Y Y Y Y ?_;refine xr Y ?_;rcases CV U with⟨z,U⟩|⟨z,U⟩
 ·refine CT Y z ?_;refine Yr.OJ (vI r) Y (Z8 x d h1 h2 h3 K U) ?_;refine Uw 0 Y Y Y Y ?_;refine Yr.P6 0 Y (Ae Y) ?_;refine ZA 0 Y Y Y Y ?_;exact rA
 ·cases U;refine CY Y z ?_;exact rA
def Ho(y:Ce):AA Int:=
 Az (I0 y.Name) λx=>cond (!x) (some 7) (Az (QQ y.BH) λe=>cond (e !=0) (some e)
  (Az (PM vaS noR y e) λq=>cond ((q.2==0)&&(decide (400<q.1))) (some 2) (some q.2)))
theorem Uq(K:Ce){a2:AA Addr}{a3:AA Addr}(h2:AK Er V a2 y K.BH)(h3:AK CN V a3 z K.CU){r:Int}(U:Ho K=some r):Spec Tryz.prog 208 [.agg ⟨[vS K.Name,vL a2 K.BH y,vL a3 K.CU z]⟩] V (λ_ v=>v=vI r):=by
 refine se Tryz.func208 ?_;refine Yr.cb U Y (OP K.Name) λx U=>?_;refine xr Y ?_;rcases CV U with⟨H,U⟩|⟨H,U⟩
 ·refine CT Y H ?_;exact rt
 refine CY Y H ?_;refine Yr.cb U Y (AEV K.BH h2) λe U=>?_;refine xr Y ?_;rcases CV U with⟨H,U⟩|⟨H,U⟩
 ·refine CT Y H ?_;exact rt
 refine CY Y H ?_;have⟨q,N,U⟩:=AO U;refine xr Y (Fh 1 (n:=1) (sz:=1) Y Y Y Y Y (λ_=>Y) (λ_=>Y) (λ_=>Y) (λb=>?_));refine Fe Y Y ?_;refine xr Y (ZA 1 Y Y Y Y ?_);refine AD.HT [1] Y Y Y Y Y Y (Wh (J:=vaJ b) (λ_ h=>h) (AFy b) (AFx _) K e h2 h3 Y N) ?_;rintro _ _ _ ⟨_,rfl,rfl⟩;refine⟨_,Y,?_⟩;refine Uw 1 Y Y Y Y ?_;refine Yr.O5 (l:=[vI q.2]) 1 Y (Ar Y) Y ?_;refine xr Y ?_;rcases CV U with⟨H,U⟩|⟨H,U⟩
 ·refine CT Y H ?_;exact rt
 refine CY Y H ?_;refine Yr.O5 (l:=[vI q.2]) 1 Y (Ar Y) Y ?_;exact rt
def naJ(b:Nat)(V:AM)(l:List A9)(E:Ext):Prop:=∃a k cs,E=C2 [.row (.slice (some ⟨b,0,none⟩) 1 1) [.slice a l.length k] 108 1,.row (.slice a l.length k) cs 9 1]/\AF Bf V l cs
def naS(s:BR)(_:Int)(l:List A9):AA (List A9):=cond ((s.Op==1)||(s.Op==6)) (Ba ((l++[s.Name]).length*16<=140737488355328) (some (l++[s.Name]))) (some l)
theorem ALt(b:Nat):Q6 (naJ b) 229 [vP b] naS:=by
 intro V x cs d l E r y K U;obtain⟨a,k,_,rfl,z⟩:=K;obtain⟨_,_,_,_,_,_,_,_,rfl,_,_,_,_⟩:=Jx.1 y;unfold naS at U;refine sx Tryz.func229 ?_;refine xr Y ?_;rcases CV U with⟨H,U⟩|⟨H,U⟩
 ·have⟨q,U⟩:=AL U;cases U;refine CT Y H ?_;refine Yr.Eh 0 0 Y ?_;refine Uv 0 2 Y Y Y Y Y Y Y Y Y ?_;refine AD.O5 Aa 0 (l:=[vL a l k]) Y Y Y (Ar Y) Y Y ?_;refine Yr.RV Y ?_;refine Yr.app (nm:=(l++[x.Name]).length) 2 3 Y zp (λ_ _=>Y) q (λa5 k5=>?_);refine Yr.P6 0 Y (Ae Y) ?_;refine AD.AE7 0 2 Y Y Y Y Y Y Y Y Y ?_;exact Yr.SL Y ⟨Y,Y,⟨_,Y,a5,k5,_,Y,AF.app z ⟨_,_,Y,Y,Y⟩⟩,Y⟩
 ·cases U;refine CY Y H ?_;exact rA
def WN(ps:List Gd):Nat->Int->List A9->AA (List A9)
 |0,_,_=>none|n+1,i,l=>cond (decide (i<(ps.length:Int))) (Ba (0<=i/\i<(ps.length:Int)) (Ba ((l++[(AN ps i).Name]).length*16<=140737488355328) (WN ps n (AB (i+1)) (l++[(AN ps i).Name])))) (some l)
def Rk(y:Ce):AA (List A9):=Az (WN y.BH (y.BH.length+1) 0 []) λl=>Az (PM naS noR y l) λq=>some q.2
theorem AF8(H:Ce){a2:AA Addr}{a3:AA Addr}(h2:AK Er V a2 y H.BH)(h3:AK CN V a3 z H.CU){r:List A9}(U:Rk H=some r):Spec Tryz.prog 210 [.agg ⟨[vS H.Name,vL a2 H.BH y,vL a3 H.CU z]⟩] V (λV' v=>∃(a:AA Addr)(k:Nat),v=vL a r k/\AK Bf V' a k r):=by
 have⟨l0,hl,U⟩:=AO U;refine se Tryz.func210 ?_;refine Yr.Eh 9 1 Y ?_;refine AD.loop (λn L' V' M'=>∃(i:Int)(l:List A9)(a:AA Addr)(k:Nat)(cs:List Value),L'=[(1,.ptr 0 0),(3,.ptr 1 0),(7,sL a2 H.BH y),(8,sN H.BH),(9,sI i)]/\M'=[.Bp [sS H.Name,sL a2 H.BH y,sL a3 H.CU z] 191,.Bp [sL a l k] 108,.row (vL a l k) cs 9 1]/\AK Er V' a2 y H.BH/\AK CN V' a3 z H.CU/\AF Bf V' l cs/\WN H.BH n i l=some l0)
  ⟨_,[(1,.ptr 0 0),(3,.ptr 1 0),(7,sL a2 H.BH y),(8,sN H.BH),(9,sI 0)],⟨Y,Y,Y,Y,Y,Yt⟩,0,[],none,0,[],Y,Y,h2,h3,AF.nil,hl⟩ ?_
 rintro n L' _ M' ⟨i,l,a,k,cs,rfl,rfl,O,h5,K,hl⟩;rcases n with _|n
 ·exact absurd hl (by simp[WN])
 rw[WN]at hl;refine xr Y ?_;rcases CV hl with⟨W,hl⟩|⟨W,hl⟩
 ·refine CT Y W ?_;have⟨q,hl⟩:=AL hl;have⟨q2,hl⟩:=AL hl;obtain⟨_,rfl,hd⟩:=AK.get O q;refine Yr.ia Y ⟨q.1,q.2,hd.some⟩ ?_;refine Yr.ld (x:=.agg ⟨[vS (AN H.BH i).Name,vI (AN H.BH i).Rf]⟩) Y hd Y ?_;refine Yr.RV Y ?_;refine Yr.app (nm:=(l++[(AN H.BH i).Name]).length) 2 4 Y zp (λ_ _=>Y) q2 (λa5 k5=>?_);refine xr Y (AD.cut 3 [(1,.ptr 0 0),(3,.ptr 1 0),(7,sL a2 H.BH y),(8,sN H.BH),(9,sI (AB (i+1)))] (M':=[.Bp [sS H.Name,sL a2 H.BH y,sL a3 H.CU z] 191,.Bp [sL a5 (l++[(AN H.BH i).Name]) k5] 108,.row (vL a5 (l++[(AN H.BH i).Name]) k5) (cs++[vS (AN H.BH i).Name]) 9 1]) Y ⟨Y,Y,Y,Y,Y,Yt⟩ Y Y Y ?_);exact AD.round [(1,.ptr 0 0),(3,.ptr 1 0),(7,sL a2 H.BH y),(8,sN H.BH),(9,sI (AB (i+1)))] ⟨Y,Y,Y,Y,Y,Yt⟩ ⟨n,CE _,_,_,a5,k5,_,Y,Y,O,h5,AF.app K ⟨_,_,Y,Y,Y⟩,hl⟩
 ·obtain rfl:=Bt hl;refine CY Y W ?_;have⟨q,hq,U⟩:=AO U;refine xr Y (Fh 1 (n:=1) (sz:=1) Y Y Y Y Y (λ_=>Y) (λ_=>Y) (λ_=>Y) (λb=>?_));refine Fe Y Y ?_;refine xr Y (AD.AE7 1 2 Y Y Y Y Y Y Y Y Y ?_);refine AD.HT [1] Y Y Y Y Y Y (Wh (J:=naJ b) (λhv ⟨a,k,cs,he,hr⟩=>⟨a,k,cs,he,AF.mono hv hr⟩) (ALt b) (AFx _) H _ O h5 ⟨a,k,cs,Y,K⟩ hq) ?_;rintro _ _ _ ⟨_,rfl,a6,k6,_,rfl,N⟩;refine⟨_,Y,?_⟩;refine Uv 1 2 Y Y Y Y Y Y Y Y Y ?_;refine Yr.O5 (l:=[vL a6 q.2 k6]) 1 Y (Ar Y) Y ?_;refine Yr.QY 2 Y (λV3 X Z aa=>?_);have hz:=BV N X Z aa;exact ry
def exJ(b:Nat)(V:AM)(l:List Ak)(E:Ext):Prop:=∃a k cs,E=C2 [.row (.slice (some ⟨b,0,none⟩) 1 1) [.slice a l.length k] 263 1,.row (.slice a l.length k) cs 265 4]/\AF Br V l cs
def exS(e:Ak)(l:List Ak):AA (List Ak):=Az (R3 e l) λx=>some x.2
theorem ALu(b:Nat):Ry (exJ b) 232 [vP b] exS:=by
 intro V x cs l E r y N U;obtain⟨a,k,H,rfl,z⟩:=N;obtain⟨_,_,rfl,h1⟩:=DS.1 y;unfold exS at U;have⟨_,O,U⟩:=AO U;cases U;refine((ACX x l h1 ⟨a,k,H,Y,z⟩ O).AE7 Y Y).mono ?_;rintro _ _ _ _ ⟨_,_,rfl,⟨a5,k5,K,W,X⟩,he⟩;refine⟨⟨_,Y,a5,k5,K,?_,X⟩,he⟩;rw[W]
def Rl(y:Ce):AA (List Ak):=Az (PM noS exS y []) λq=>some q.2
theorem AF9(H:Ce){a2:AA Addr}{a3:AA Addr}(h2:AK Er V a2 y H.BH)(h3:AK CN V a3 z H.CU){r:List Ak}(U:Rl H=some r):Spec Tryz.prog 212 [.agg ⟨[vS H.Name,vL a2 H.BH y,vL a3 H.CU z]⟩] V (λV' v=>∃(a:AA Addr)(k:Nat),v=vL a r k/\AK Br V' a k r):=by
 refine se Tryz.func212 ?_;have⟨q,X,U⟩:=AO U;refine xr Y (Fh 1 (n:=1) (sz:=1) Y Y Y Y Y (λ_=>Y) (λ_=>Y) (λ_=>Y) (λb=>?_));refine Fe Y Y ?_;refine Yr.Eh 265 4 Y ?_;refine AD.AE7 1 2 Y Y Y Y Y Y Y Y Y ?_;refine AD.HT [1] Y Y Y Y Y Y (Wh (J:=exJ b) (λhv ⟨a,k,cs,he,Z⟩=>⟨a,k,cs,he,AF.mono hv Z⟩) (ALo _) (ALu b) H _ h2 h3 ⟨none,0,[],Y,AF.nil⟩ X) ?_;rintro _ _ _ ⟨_,rfl,a6,k6,_,rfl,K⟩;refine⟨_,Y,?_⟩;refine Uv 1 2 Y Y Y Y Y Y Y Y Y ?_;refine Yr.O5 (l:=[vL a6 q.2 k6]) 1 Y (Ar Y) Y ?_;refine Yr.QY 2 Y (λV3 N O W=>?_);have hz:=BV K N O W;exact ry
def LU(y:Int)(z:Ah)(H:Ah):AA (Except Gk Ah):=
 (jn (λ(x4:Bool)=>cond x4 (Az (CI ((z.BD==1)&&(H.BD==1))) λx7=>I9 x7 (λs8=>some (.error s8)) λx9=>Az (IC y z.N H.N) λO=>I9 O (λW=>some (.error W)) λX=>some (.ok X)) (cond (y==16) (Az (CI ((z.BD==3)&&(H.BD==3))) λZ=>I9 Z (λaa=>some (.error aa)) λaq=>Az (Db ((z.N==1)&&(H.N==1))) λab=>some (.ok ab)) (cond (y==17) (Az (CI ((z.BD==3)&&(H.BD==3))) λad=>I9 ad (λae=>some (.error ae)) λar=>Az (Db ((z.N==1)||(H.N==1))) λaf=>some (.ok af)) (cond (y==19) (Az (CI ((z.BD==2)&&(H.BD==2))) λag=>I9 ag (λah=>some (.error ah)) λau=>Ba (z.S.length+H.S.length<=9223372036854775807) (Az (IZ (z.S++H.S)) λai=>I9 ai (λaj=>some (.error aj)) λak=>some (.ok ak))) (Az (Kj y z H) λal=>I9 al (λan=>some (.error an)) λao=>some (.ok ao)))))) (λK=>cond (y==4) (K (y==4)) (cond (y==5) (K (y==5)) (cond (y==6) (K (y==6)) (cond (y==7) (K (y==7)) (K (y==8)))))))
theorem Th(K:Int)(z:Ah)(H:Ah){r:Except Gk Ah}(U:LU K z H=some r):GP Tryz.prog 220 [vI K,.agg ⟨[vI z.BD,vI z.N,vS z.S]⟩,.agg ⟨[vI H.BD,vI H.N,vS H.S]⟩] [] V (λV' e M'=>M'=[]/\e=Pv 246 (λ(y:Ah)=>(.agg ⟨[vI y.BD,vI y.N,vS y.S]⟩:Value)) r):=by
 unfold LU at U;refine sx Tryz.func220 ?_;refine sm U (λJ5 L' V' M'=>∃(x4:Bool),L'=[(0,sI K),(4,.ptr 0 0),(5,.ptr 1 0),(6,.ptr 2 0),(7,sI K),(8,sB x4)]/\M'=[.Bp [sI z.BD,sI z.N,sS z.S] 60,.Bp [sI H.BD,sI H.N,sS H.S] 60,.Bp [sI 0,sI 0,sS []] 60]/\J5 x4=some r) Y ?_ λJ5 U=>?_
 ·rintro L' _ M' ⟨x4,rfl,rfl,U⟩;refine B4 U Y (λ_ U=>?_) λO U=>?_
  ·refine xr Y ?_;have⟨_,ae,U⟩:=AO U;refine Y.cx U [] Y (CB ((z.BD==1)&&(H.BD==1)) ae) (λx9 an U=>?_);rintro _ _ _ rfl;refine yx ?_;have⟨_,W,U⟩:=AO U;refine Y.cx U [] Y (VS K z.N H.N W) (λao ag U=>?_);rintro _ _ _ rfl;refine⟨_,Y,?_⟩;exact rt
  ·refine B4 U Y (λ_ U=>?_) λO U=>?_
   ·refine xr Y ?_;have⟨_,X,U⟩:=AO U;refine Y.cx U [] Y (CB ((z.BD==3)&&(H.BD==3)) X) (λaq ah U=>?_);rintro _ _ _ rfl;refine⟨_,Y,?_⟩;refine Yr.cb U Y (Fy ((z.N==1)&&(H.N==1))) λar U=>?_;exact rt
   ·refine B4 U Y (λ_ U=>?_) λO U=>?_
    ·refine xr Y ?_;have⟨_,Z,U⟩:=AO U;refine Y.cx U [] Y (CB ((z.BD==3)&&(H.BD==3)) Z) (λau ai U=>?_);rintro _ _ _ rfl;refine⟨_,Y,?_⟩;refine Yr.cb U Y (Fy ((z.N==1)||(H.N==1))) λav U=>?_;exact rt
    ·refine B4 U Y (λ_ U=>?_) λ_ U=>?_
     ·refine xr Y ?_;have⟨_,aa,U⟩:=AO U;refine Y.cx U [] Y (CB ((z.BD==2)&&(H.BD==2)) aa) (λaw aj U=>?_);rintro _ _ _ rfl;refine⟨_,Y,?_⟩;have⟨af,U⟩:=AL U;refine xr Y (AD.cat Y Y af ?_);refine xr Y ?_;have⟨_,ab,U⟩:=AO U;refine Y.cx U [] Y (NT (z.S++H.S) ab) (λax ak U=>?_);rintro _ _ _ rfl;refine⟨_,Y,?_⟩;exact rt
     ·refine xr Y ?_;have⟨_,ad,U⟩:=AO U;refine Y.cx U [] Y (Y0 K z H ad) (λay al U=>?_);rintro _ _ _ rfl;refine⟨_,Y,?_⟩;exact rt
 ·refine i5 U λO U=>?_;refine i5 U λO U=>?_;refine i5 U λO U=>?_;exact B4 U Y (λ_ U=>rd) λ_ U=>rd
def Hs(y:MG):AA (AI×List BA×Int):=
 (Az (Jh (⟨y.p.Ax,y.p.AG⟩:AI) y.m.Part y.m.Key y.m.New) λH=>Az (EC y H.1 H.2) λz=>some (z.1,z.2.1,z.2.2))
theorem SQ(H:MG){a2:AA Addr}{a3:AA Addr}(h2:AK BS V a2 y H.p.AG)(h3:AK DH V a3 z H.l){r:AI×List BA×Int}(U:Hs H=some r):Spec Tryz.prog 26 [.agg ⟨[vI H.p.Ax,vL a2 H.p.AG y,vL a3 H.l z,vI H.m.BD,vI H.m.Part,vI H.m.New,vI H.m.Ab,vI H.m.N,vS H.m.Key]⟩] V (λV' v=>∃K O6 O UP,v=.tuple ⟨[.agg ⟨[vI (r.1.Ax),vL K r.1.AG O6]⟩,vL O r.2.1 UP,vI (r.2.2)]⟩/\AK BS V' K O6 r.1.AG/\AK DH V' O UP r.2.1):=by
 refine se Tryz.func26 ?_;refine Yr.DU (pm 22 0 208895) Y ?_;have⟨Z,W,U⟩:=AO U;refine Yr.call Y (Xo (⟨H.p.Ax,H.p.AG⟩:AI) H.m.Part H.m.Key H.m.New h2 W) ?_;rintro _ _ _ ⟨_,_,rfl,h5⟩;have⟨_,X,U⟩:=AO U;refine Yr.call Y (J1 H Z.1 Z.2 tu tu h5 X) ?_;rintro _ _ _ ⟨_,_,_,_,rfl,_,_⟩;exact rt
def Ht(y:MG):AA (AI×List BA×Int):=
 (Az (Ji (⟨y.p.Ax,y.p.AG⟩:AI) y.m.Part) λH=>Az (EC y H.1 H.2) λz=>some (z.1,z.2.1,z.2.2))
theorem SS(H:MG){a2:AA Addr}{a3:AA Addr}(h2:AK BS V a2 y H.p.AG)(h3:AK DH V a3 z H.l){r:AI×List BA×Int}(U:Ht H=some r):Spec Tryz.prog 27 [.agg ⟨[vI H.p.Ax,vL a2 H.p.AG y,vL a3 H.l z,vI H.m.BD,vI H.m.Part,vI H.m.New,vI H.m.Ab,vI H.m.N,vS H.m.Key]⟩] V (λV' v=>∃K O6 O UP,v=.tuple ⟨[.agg ⟨[vI (r.1.Ax),vL K r.1.AG O6]⟩,vL O r.2.1 UP,vI (r.2.2)]⟩/\AK BS V' K O6 r.1.AG/\AK DH V' O UP r.2.1):=by
 refine se Tryz.func27 ?_;refine Yr.DU (pm 16 0 3263) Y ?_;have⟨Z,W,U⟩:=AO U;refine Yr.call Y (Xq (⟨H.p.Ax,H.p.AG⟩:AI) H.m.Part h2 W) ?_;rintro _ _ _ ⟨_,_,rfl,h5⟩;have⟨_,X,U⟩:=AO U;refine Yr.call Y (J1 H Z.1 Z.2 tu tu h5 X) ?_;rintro _ _ _ ⟨_,_,_,_,rfl,_,_⟩;exact rt
def IM(y:MG):AA (AI×List BA×Int):=
 (Az (LS (⟨y.p.Ax,y.p.AG⟩:AI) y.m.Part y.m.Ab) λH=>Az (EC y H.1 H.2) λz=>some (z.1,z.2.1,z.2.2))
theorem TD(H:MG){a2:AA Addr}{a3:AA Addr}(h2:AK BS V a2 y H.p.AG)(h3:AK DH V a3 z H.l){r:AI×List BA×Int}(U:IM H=some r):Spec Tryz.prog 28 [.agg ⟨[vI H.p.Ax,vL a2 H.p.AG y,vL a3 H.l z,vI H.m.BD,vI H.m.Part,vI H.m.New,vI H.m.Ab,vI H.m.N,vS H.m.Key]⟩] V (λV' v=>∃K O6 O UP,v=.tuple ⟨[.agg ⟨[vI (r.1.Ax),vL K r.1.AG O6]⟩,vL O r.2.1 UP,vI (r.2.2)]⟩/\AK BS V' K O6 r.1.AG/\AK DH V' O UP r.2.1):=by
 refine se Tryz.func28 ?_;refine Yr.DU (pm 19 0 26111) Y ?_;have⟨Z,W,U⟩:=AO U;refine Yr.call Y (Z3 (⟨H.p.Ax,H.p.AG⟩:AI) H.m.Part H.m.Ab h2 W) ?_;rintro _ _ _ ⟨_,_,rfl,h5⟩;have⟨_,X,U⟩:=AO U;refine Yr.call Y (J1 H Z.1 Z.2 tu tu h5 X) ?_;rintro _ _ _ ⟨_,_,_,_,rfl,_,_⟩;exact rt
def GF(z:List BA)(W:AI)(X:Int×Int)(H:D8×Int)(K:(List AR)->AA (AI×List BA×Lj×Int)):Nat->(List AR)->Int->AA (AI×List BA×Lj×Int)
 |0,_,_=>none|Z+1,N,y=>cond (decide (y<(z.length:Int))) (Ba (0<=y/\y<(z.length:Int)) (jn (λ(aa:List AR)=>GF z W X H K Z aa (AB (y+1))) (λO=>cond ((AN z y).Ab==(AN W.AG X.1).Ab) (Az (Na ((AN z y).BF) (⟨(AN W.AG X.1).Gh,H.1.To⟩:D8)) λab=>O ab) (O N)))) (K N)
def JR(z:AI)(X:List BA)(Z:Int)(K:Int):AA (AI×List BA×Lj×Int):=
 (cond (decide (K<1)) (some ((⟨0,([]:List Bc)⟩:AI),([]:List BA),(⟨0,0,0,(default:D8),([]:List AR),false⟩:Lj),1)) (Az (Kf z X Z) λy=>cond (y.2 !=0) (some ((⟨0,([]:List Bc)⟩:AI),([]:List BA),(⟨0,0,0,(default:D8),([]:List AR),false⟩:Lj),y.2)) (Ba (0<=y.1/\y.1<(z.AG.length:Int)) (Az (Lv z Z) λN=>jn (λ(H:List AR)=>jn (λ(aa:Bc)(ab:Lj)=>Az (Jj z y.1 aa) λO=>Az (LR O X) λad=>some (O,ad,ab,0)) (λW=>cond (decide (K<(H.length:Int))) (Ba (0<=K/\K<(H.length:Int)) (Ba (0<=K/\K<=K) (Ba (48*K.toNat<=281474976710656) (Ba (0<=K/\K<(H.length:Int)) (W (⟨(AN z.AG y.1).Id,(AN z.AG y.1).BU,(AN z.AG y.1).Ab,(AN z.AG y.1).C0,(AN H K).Key⟩:Bc) (⟨Z,(AN z.AG y.1).Ab,(AN z.AG y.1).C0,(⟨(AN z.AG y.1).Gh,(AN H K).Key⟩:D8),(cpL H (AH K.toNat (default:AR))),false⟩:Lj)))))) (W (⟨(AN z.AG y.1).Id,(AN z.AG y.1).BU,(AN z.AG y.1).C0,0,([]:A9)⟩:Bc) (⟨Z,(AN z.AG y.1).Ab,(AN z.AG y.1).C0,(⟨(AN z.AG y.1).Gh,N.1.To⟩:D8),H,true⟩:Lj)))) (λae=>GF X z y N ae ((X.length:Int).toNat+1) ([]:List AR) 0)))))
theorem Z4(H:AI)(N:List BA)(x5:Int)(X:Int){a2:AA Addr}{a4:AA Addr}(h2:AK BS V a2 y H.AG)(h4:AK DH V a4 z N){r:AI×List BA×Lj×Int}(U:JR H N x5 X=some r):Spec Tryz.prog 52 [.agg ⟨[vI H.Ax,vL a2 H.AG y]⟩,vL a4 N z,vI x5,vI X] V (λV' v=>∃ax ay az a1 a6 a7,v=.tuple ⟨[.agg ⟨[vI (r.1.Ax),vL ax r.1.AG ay]⟩,vL az r.2.1 a1,.agg ⟨[vI (r.2.2.1.Part),vI (r.2.2.1.BU),vI (r.2.2.1.To),vS r.2.2.1.Keys.BU,vS r.2.2.1.Keys.To,vL a6 r.2.2.1.BF a7,vB r.2.2.1.AOy]⟩,vI (r.2.2.2)]⟩/\AK BS V' ax ay r.1.AG/\AK DH V' az a1 r.2.1/\AK Au V' a6 a7 r.2.2.1.BF):=by
 refine se Tryz.func52 ?_;refine i1 U λhb U=>?_;refine Yr.cb U Y (Yx H N x5 h2 h4) λK U=>?_;refine i1 U λhb U=>?_;have⟨q8,U⟩:=AL U;obtain⟨_,rfl,a8⟩:=AK.get h2 q8;refine Yr.ia Y ⟨q8.1,q8.2,a8.some⟩ ?_;refine Yr.ld (x:=.agg ⟨[vI ((AN H.AG K.1).Id),vS (AN H.AG K.1).BU,vI ((AN H.AG K.1).Ab),vI ((AN H.AG K.1).C0),vS (AN H.AG K.1).Gh]⟩) Y a8 Y ?_;refine Yr.cb U Y (Xp H x5 h2) λaa U=>?_;refine AD.run Aa 25 Y ?_;refine sn U (λaj L' V' M'=>∃(O:List AR),∃ak Se,L'=[(1,sL a4 N z),(2,sI x5),(3,sI X),(4,.ptr 0 0),(8,.ptr 1 0),(10,.ptr 2 0),(12,sI (K.1)),(14,.ptr 3 0),(15,.ptr 4 0),(17,sL ak O Se)]/\M'=[.Bp [sI H.Ax,sL a2 H.AG y] 25,.Bp [sI 0,.v (.slice none 0 0)] 25,.Bp [sI 0,sI 0,sI 0,sS [],sS [],.v (.slice none 0 0),sB false] 126,.Bp [sI ((AN H.AG K.1).Id),sS (AN H.AG K.1).BU,sI ((AN H.AG K.1).Ab),sI ((AN H.AG K.1).C0),sS (AN H.AG K.1).Gh] 54,.Bp [sS (AN H.AG K.1).Gh,sS aa.1.To] 124]/\AK Au V' ak Se O/\AK DH V' a4 z N/\AK BS V' a2 y H.AG/\aj O=some r) Y ?_ λaj U=>?_
 ·rintro L' aN M' ⟨O,ak,Se,rfl,rfl,ad,aO,aP,U⟩;refine sm U (λaA L' V' M'=>∃(Z:Bc)(W:Lj),∃al Rt,L'=[(1,sL a4 N z),(4,.ptr 0 0),(8,.ptr 1 0),(10,.ptr 2 0),(12,sI (K.1)),(14,.ptr 3 0),(20,.ptr 5 0)]/\M'=[.Bp [sI H.Ax,sL a2 H.AG y] 25,.Bp [sI 0,.v (.slice none 0 0)] 25,.Bp [sI 0,sI 0,sI 0,sS [],sS [],.v (.slice none 0 0),sB false] 126,.Bp [sI Z.Id,sS Z.BU,sI Z.Ab,sI Z.C0,sS Z.Gh] 54,.Bp [sS (AN H.AG K.1).Gh,sS aa.1.To] 124,.Bp [sI W.Part,sI W.BU,sI W.To,sS W.Keys.BU,sS W.Keys.To,sL al W.BF Rt,sB W.AOy] 126]/\AK Au V' al Rt W.BF/\AK DH V' a4 z N/\AK BS V' a2 y H.AG/\aA Z W=some r) Y ?_ λaA U=>?_
  ·rintro L' _ M' ⟨Z,W,al,Rt,rfl,rfl,_,_,aQ,U⟩;have⟨aR,aB,U⟩:=AO U;refine Yr.call Y (Rb H K.1 Z aQ aB) ?_;rintro _ _ _ ⟨_,_,rfl,aS⟩;refine Yr.DU [(0,true),(1,true),(2,true),(4,true),(3,false),(5,false),(6,false),(7,false),(8,false)] Y ?_;have⟨_,aC,U⟩:=AO U;refine Yr.call Y (Z2 aR N aS tu aC) ?_;rintro _ _ _ ⟨_,_,rfl,_⟩;exact rt
  ·refine B4 U Y (λ_ U=>?_) λ_ U=>?_
   ·refine Yr.DU (pm 10 0 63) Y ?_;have⟨an,U⟩:=AL U;obtain⟨_,rfl,ag⟩:=AK.get ad an;refine Yr.Qp Y ⟨an.1,an.2,ag.some⟩ ?_;refine Yr.P8 (x:=vS (AN O X).Key) Y (Bi.part ag 0 1 Y) ?_;have⟨aT,U⟩:=AL U;have⟨aU,U⟩:=AL U;refine xr Y (LG Aa Y Y Y Y (nm:=(AH X.toNat (default:AR)).length) zp aT aU (λ_=>Y) (λaD=>?_));have aV:AF Au aN (AH X.toNat (default:AR)) ((AH (AH X.toNat (default:AR)).length [vS [],vI 0,vI 0,vS []]).flatten):=by rw[Fi];exact Ns (c:=Au) Y _
    refine xr Y (AAZ Aa (cd:=Au) 6 Y Y Y Y Y Y aV Y ad Y (λ_=>Y) Y (λbc aW=>?_));have⟨ao,U⟩:=AL U;obtain⟨_,rfl,ah⟩:=AK.get ad ao;refine Yr.ia Y ⟨ao.1,ao.2,ah.some⟩ ?_;refine Yr.ld (x:=vS (AN O X).Key) Y (Bi.part ah 0 1 Y) Y ?_;refine Yr.QY 6 Y (λbd aE aF aG=>?_);have aH:=BV aW aE aF (Cf (Vf zp) aG);refine AD.cut 6 [(1,sL a4 N z),(4,.ptr 0 0),(8,.ptr 1 0),(10,.ptr 2 0),(12,sI (K.1)),(14,.ptr 3 0),(20,.ptr 5 0)] (M':=[.Bp [sI H.Ax,sL a2 H.AG y] 25,.Bp [sI 0,.v (.slice none 0 0)] 25,.Bp [sI 0,sI 0,sI 0,sS [],sS [],.v (.slice none 0 0),sB false] 126,.Bp [sI ((AN H.AG K.1).Id),sS (AN H.AG K.1).BU,sI ((AN H.AG K.1).Ab),sI ((AN H.AG K.1).C0),sS (AN O X).Key] 54,.Bp [sS (AN H.AG K.1).Gh,sS aa.1.To] 124,.Bp [sI x5,sI ((AN H.AG K.1).Ab),sI ((AN H.AG K.1).C0),sS (AN H.AG K.1).Gh,sS (AN O X).Key,sL (some aD) (AH X.toNat (default:AR)) X.toNat,sB false] 126]) Y ⟨Y,Y,Y,Y,Y,Y,Y,Yt⟩ Y Y Y ?_;exact AD.round [(1,sL a4 N z),(4,.ptr 0 0),(8,.ptr 1 0),(10,.ptr 2 0),(12,sI (K.1)),(14,.ptr 3 0),(20,.ptr 5 0)] ⟨Y,Y,Y,Y,Y,Y,Y,Yt⟩ ⟨(⟨(AN H.AG K.1).Id,(AN H.AG K.1).BU,(AN H.AG K.1).Ab,(AN H.AG K.1).C0,(AN O X).Key⟩:Bc),(⟨x5,(AN H.AG K.1).Ab,(AN H.AG K.1).C0,(⟨(AN H.AG K.1).Gh,(AN O X).Key⟩:D8),(cpL O (AH X.toNat (default:AR))),false⟩:Lj),(some aD),X.toNat,Y,zp,aH,tu,tu,U⟩
   ·exact Yr.rd Y ⟨_,_,_,_,Y,Y,ad,aO,aP,U⟩
 ·refine lq (λaI L' V' M'=>∃(ae:List AR),∃aq ar,∃(ab:Int),L'=[(1,sL a4 N z),(2,sI x5),(3,sI X),(4,.ptr 0 0),(8,.ptr 1 0),(10,.ptr 2 0),(12,sI (K.1)),(14,.ptr 3 0),(15,.ptr 4 0),(17,sL aq ae ar),(52,sL a4 N z),(53,sN N),(54,sI ab)]/\M'=[.Bp [sI H.Ax,sL a2 H.AG y] 25,.Bp [sI 0,.v (.slice none 0 0)] 25,.Bp [sI 0,sI 0,sI 0,sS [],sS [],.v (.slice none 0 0),sB false] 126,.Bp [sI ((AN H.AG K.1).Id),sS (AN H.AG K.1).BU,sI ((AN H.AG K.1).Ab),sI ((AN H.AG K.1).C0),sS (AN H.AG K.1).Gh] 54,.Bp [sS (AN H.AG K.1).Gh,sS aa.1.To] 124]/\AK Au V' aq ar ae/\AK DH V' a4 z N/\AK BS V' a2 y H.AG/\GF N H K aa aj aI ae ab=some r) Y ⟨_,_,_,_,Y,Y,AK.nil,h4,h2,U⟩ ?_;rintro aI L' _ M' ⟨ae,aq,ar,ab,rfl,rfl,aX,aJ,aY,U⟩;refine i4 U λhb U=>?_;have⟨au,U⟩:=AL U;have⟨_,aK,ai⟩:=AK.get aJ au;obtain⟨aZ,ba,rfl,bb⟩:=aK;refine Yr.ia Y ⟨au.1,au.2,ai.some⟩ ?_;refine Yr.ld (x:=.agg ⟨[vI ((AN N ab).Ab),vL aZ (AN N ab).BF ba]⟩) Y ai Y ?_;refine sm U (λaL L' V' M'=>∃(af:List AR),∃av aw,L'=[(1,sL a4 N z),(2,sI x5),(3,sI X),(4,.ptr 0 0),(8,.ptr 1 0),(10,.ptr 2 0),(12,sI (K.1)),(14,.ptr 3 0),(15,.ptr 4 0),(17,sL av af aw),(52,sL a4 N z),(53,sN N),(54,sI ab)]/\M'=[.Bp [sI H.Ax,sL a2 H.AG y] 25,.Bp [sI 0,.v (.slice none 0 0)] 25,.Bp [sI 0,sI 0,sI 0,sS [],sS [],.v (.slice none 0 0),sB false] 126,.Bp [sI ((AN H.AG K.1).Id),sS (AN H.AG K.1).BU,sI ((AN H.AG K.1).Ab),sI ((AN H.AG K.1).C0),sS (AN H.AG K.1).Gh] 54,.Bp [sS (AN H.AG K.1).Gh,sS aa.1.To] 124]/\AK Au V' av aw af/\AK DH V' a4 z N/\AK BS V' a2 y H.AG/\aL af=some r) Y ?_ λaL U=>?_
  ·rintro L' _ M' ⟨af,av,aw,rfl,rfl,_,_,_,U⟩;exact rd
  ·refine B4 U Y (λ_ U=>?_) λ_ U=>?_
   ·have⟨_,aM,U⟩:=AO U;refine Yr.call Y (ACT ((AN N ab).BF) (⟨(AN H.AG K.1).Gh,aa.1.To⟩:D8) bb aM) ?_;rintro _ _ _ ⟨_,_,rfl,_⟩;exact r5
   ·exact ADJ 5 Y ⟨_,_,_,Y,Y,aX,aJ,aY,U⟩
def Kd(H:List A9)(N:Ag->(List (A9×Bool))->AA Int):Nat->Int->Ag->(List (A9×Bool))->AA Int
 |0,_,_,_=>none|O+1,y,z,K=>cond (decide (y<(H.length:Int))) (Ba (0<=y/\y<(H.length:Int)) (cond ((D4 (AN H y) K).getD (default:Bool)) (some 8) (Kd H N O (AB (y+1)) (⟨z.Bg,z.loops,z.all⟩:Ag) (NQ (AN H y) true K)))) (N (⟨z.Bg,z.loops,z.all⟩:Ag) K)
def Kc(K:Ce)(N:Ag->AA Int):Nat->Int->Ag->AA Int
 |0,_,_=>none|O+1,y,z=>cond (decide (y<(K.BH.length:Int))) (Ba (0<=y/\y<(K.BH.length:Int)) (cond ((AN K.BH y).Rf==3) (some 10) (Az (GQ (⟨z.Bg,z.loops,z.all⟩:Ag) ((AN K.BH y).Name) ((AN K.BH y).Rf)) λH=>Kc K N O (AB (y+1)) (⟨H.2.Bg,H.2.loops,H.2.all⟩:Ag)))) (N (⟨z.Bg,z.loops,z.all⟩:Ag))
def R2(z:Ce):AA Int:=
 (Az (Ho z) λX=>cond (X !=0) (some X) (jn (λ(K:Ag)=>Az (Rk z) λH=>jn (λ(y:Ag)(Z:List (A9×Bool))=>Az (Dv 1099511627776 (⟨y.Bg,y.loops,y.all⟩:Ag) z.CU) λN=>some N.1) (λO=>Kd H O ((H.length:Int).toNat+1) 0 (⟨K.Bg,K.loops,K.all⟩:Ag) ([]:List (A9×Bool)))) (λW=>Kc z W ((z.BH.length:Int).toNat+1) 0 (⟨([]:List (A9×Int)),([]:List (A9×Bool)),([]:List (A9×Int))⟩:Ag))))
theorem ACS(H:Ce){a2:AA Addr}{a3:AA Addr}(h2:AK Er V a2 y H.BH)(h3:AK CN V a3 z H.CU){r:Int}(U:R2 H=some r):Spec Tryz.prog 196 [.agg ⟨[vS H.Name,vL a2 H.BH y,vL a3 H.CU z]⟩] V (λ_ v=>∃mv,v=.tuple ⟨[mv,vI r]⟩):=by
 refine se Tryz.func196 ?_;refine Yr.cb U Y (Uq H h2 h3) λx4 U=>?_;refine i1 U λhb U=>?_;refine xr Y (Qd (λ(aa:Int)=>(vI aa:Value)) Y Y (λb5=>?_));refine xr Y (Qd (λ(aa:Bool)=>(vB aa:Value)) Y Y (λb6=>?_));refine xr Y (Qd (λ(aa:Int)=>(vI aa:Value)) Y Y (λb7=>?_));refine AD.run Aa 12 Y ?_;refine I6 4 (n:=1) (sz:=3) Y Y Y Y Y (λ_=>Y) (λ_=>Y) (λb8=>?_);refine sn U (λaf L' V' M'=>∃(x9:Ag),L'=[(1,.ptr 0 0),(5,sP b8)]/\M'=[.Bp [sS H.Name,sL a2 H.BH y,sL a3 H.CU z] 191,.ext (FN (λ(aa:Int)=>(vI aa:Value)) b5 x9.Bg),.ext (FN (λ(aa:Bool)=>(vB aa:Value)) b6 x9.loops),.ext (FN (λ(aa:Int)=>(vI aa:Value)) b7 x9.all),.row (.slice (some ⟨b8,0,none⟩) 1 1) [.map (some b5),.map (some b6),.map (some b7)] 291 3]/\AK Er V' a2 y H.BH/\AK CN V' a3 z H.CU/\af x9=some r) Y ?_ λaf U=>?_
 ·rintro L' _ M' ⟨x9,rfl,rfl,aw,ax,U⟩;refine xr Y (Qd (λ(aa:Bool)=>(vB aa:Value)) Y Y (λag=>?_));have⟨K,al,U⟩:=AO U;refine Yr.call Y (AF8 H aw ax al) ?_;rintro _ _ _ ⟨an,O6,rfl,_⟩;refine AD.run Aa 3 Y ?_;refine sn U (λah L' V' M'=>∃(N:Ag)(ai:List (A9×Bool)),L'=[(1,.ptr 0 0),(5,sP b8)]/\M'=[.Bp [sS H.Name,sL a2 H.BH y,sL a3 H.CU z] 191,.ext (FN (λ(aa:Int)=>(vI aa:Value)) b5 N.Bg),.ext (FN (λ(aa:Bool)=>(vB aa:Value)) b6 N.loops),.ext (FN (λ(aa:Int)=>(vI aa:Value)) b7 N.all),.row (.slice (some ⟨b8,0,none⟩) 1 1) [.map (some b5),.map (some b6),.map (some b7)] 291 3,.ext (FN (λ(aa:Bool)=>(vB aa:Value)) ag ai)]/\AK Er V' a2 y H.BH/\AK CN V' a3 z H.CU/\ah N ai=some r) Y ?_ λah U=>?_
  ·rintro L' _ M' ⟨N,ai,rfl,rfl,_,ay,U⟩;have⟨_,ao,U⟩:=AO U;refine Yr.HT [4,1,2,3] Y (Tp (⟨N.Bg,N.loops,N.all⟩:Ag) H.CU ⟨Y,Yt⟩ ay ao) ?_;rintro _ _ _ ⟨rfl,_⟩;refine⟨_,Y,?_⟩;refine Yr.O5 (l:=[.map (some b7)]) 4 Y (Ar Y) Y ?_;exact rt
  ·refine lq (λaq L' V' M'=>∃(W:Int)(ab:Ag)(Z:List (A9×Bool)),L'=[(1,.ptr 0 0),(5,sP b8),(8,.v (.map (some ag))),(41,sL an K O6),(42,sN K),(43,sI W)]/\M'=[.Bp [sS H.Name,sL a2 H.BH y,sL a3 H.CU z] 191,.ext (FN (λ(aa:Int)=>(vI aa:Value)) b5 ab.Bg),.ext (FN (λ(aa:Bool)=>(vB aa:Value)) b6 ab.loops),.ext (FN (λ(aa:Int)=>(vI aa:Value)) b7 ab.all),.row (.slice (some ⟨b8,0,none⟩) 1 1) [.map (some b5),.map (some b6),.map (some b7)] 291 3,.ext (FN (λ(aa:Bool)=>(vB aa:Value)) ag Z)]/\AK Bf V' an O6 K/\AK Er V' a2 y H.BH/\AK CN V' a3 z H.CU/\Kd K ah aq W ab Z=some r) Y tu ?_;rintro aq L' _ M' ⟨W,ab,Z,rfl,rfl,az,_,_,U⟩;refine i4 U λhb U=>?_;have⟨aj,U⟩:=AL U;obtain⟨_,rfl,ad⟩:=AK.get az aj;refine Yr.ia Y ⟨aj.1,aj.2,ad.some⟩ ?_;refine Yr.ld (x:=vS (AN K W)) Y ad Y ?_;have ar:((D4 (AN K W) Z).map (λ(aa:Bool)=>(vB aa:Value))).getD (vB false)=vB ((D4 (AN K W) Z).getD (default:Bool)):=by cases D4 (AN K W) Z<;>rfl
   refine xr Y (Ux 5 Y Y Y Tryz.underlying289 Tryz.underlying9 (RL kz) Y Y ar ?_);refine i1 U λ_ U=>?_;refine xr Y (Ma (v:=true) 5 Y Y Y Y Tryz.underlying289 Tryz.underlying9 Y Y Y Y Y ?_);exact rd
 ·refine lq (λau L' V' M'=>∃(X:Int)(O:Ag),L'=[(1,.ptr 0 0),(5,sP b8),(23,sL a2 H.BH y),(24,sN H.BH),(25,sI X)]/\M'=[.Bp [sS H.Name,sL a2 H.BH y,sL a3 H.CU z] 191,.ext (FN (λ(aa:Int)=>(vI aa:Value)) b5 O.Bg),.ext (FN (λ(aa:Bool)=>(vB aa:Value)) b6 O.loops),.ext (FN (λ(aa:Int)=>(vI aa:Value)) b7 O.all),.row (.slice (some ⟨b8,0,none⟩) 1 1) [.map (some b5),.map (some b6),.map (some b7)] 291 3]/\AK Er V' a2 y H.BH/\AK CN V' a3 z H.CU/\Kc H af au X O=some r) Y ⟨_,_,Y,Y,h2,h3,U⟩ ?_;rintro au L' _ M' ⟨X,O,rfl,rfl,a1,_,U⟩;refine i4 U λhb U=>?_;have⟨ak,U⟩:=AL U;obtain⟨_,rfl,ae⟩:=AK.get a1 ak;refine Yr.ia Y ⟨ak.1,ak.2,ae.some⟩ ?_;refine Yr.ld (x:=.agg ⟨[vS (AN H.BH X).Name,vI ((AN H.BH X).Rf)]⟩) Y ae Y ?_;refine i1 U λ_ U=>?_;have⟨_,av,U⟩:=AO U;refine Yr.HT [4,1,2,3] Y (KT (⟨O.Bg,O.loops,O.all⟩:Ag) ((AN H.BH X).Name) ((AN H.BH X).Rf) ⟨Y,Yt⟩ av) ?_;rintro _ _ _ ⟨rfl,_⟩;refine⟨_,Y,?_⟩;exact r5
def UJ(f:Ak->AA (List Ak)):List Ak->AA (List Ak)
 |[]=>some []|e::l=>Az (f e) λx=>Az (UJ f l) λy=>some (x++y)
def Qk:Nat->Ak->AA (List Ak)
 |0,_=>none|n+1,e=>Ba (e.Aw.length<9223372036854775807) (Az (UJ (Qk n) e.Aw) λl=>some (e::l))
def IJ(V:AM):List Value->List Ak->Prop
 |[],[]=>True|v::vs,e::es=>(∃cs,v=.agg ⟨cs⟩/\Br.rep V e cs)/\IJ V vs es|_,_=>False
def Mu{α:Type}(f:Nat->List α)(n:Nat):List α:=(List.range n).flatMap f
theorem MD{α:Type}(f:Nat->List α)(n:Nat):Mu f (n+1)=Mu f n++f n:=by simp[Mu,AB4,List.flatMap_append]
theorem WX{α:Type}(f:Nat->List α){i:Nat}:∀{n:Nat},i<=n->∃t,Mu f n=Mu f i++t
 |0,h=>⟨[],by simp[show i=0 by omega]⟩
 |n+1,h=>by
  rcases A7 i (n+1)with h1|h1
  ·have⟨t,ht⟩:=WX f (i:=i) (n:=n) ox;exact⟨t++f n,by rw[MD,ht,CZ]⟩
  ·exact⟨[],by simp[show i=n+1 by omega]⟩
theorem WM{F:Ak->AA (List Ak)}:∀{l:List Ak}{y:List Ak},UJ F l=some y->∃g:Nat->List Ak,y=Mu g l.length/\∀(i:Nat)(x:Ak),l[i]? =some x->F x=some (g i)
 |[],y,h=>by
  simp only[UJ,AE]at h;exact⟨λ_=>[],by simp[Mu,<- h],λi x H=>by simp at H⟩
 |e::l,y,h=>by
  simp only[UJ]at h;have⟨x,H,h⟩:=AO h;have⟨W,N,h⟩:=AO h;obtain rfl:=Bt h;obtain⟨g,rfl,O⟩:=WM N;refine⟨λi=>match i with|0=>x|i+1=>g i,?_,λi z K=>?_⟩
  ·simp[Mu,ABm,List.flatMap_map]
  ·cases i with
   |zero=>simp at K;rw[<- K];exact H|succ i=>exact O i z (by simpa using K)
theorem IJ.app{V:AM}:∀{a b:List Value}{x y:List Ak},IJ V a x->IJ V b y->IJ V (a++b) (x++y)
 |[],_,[],_,_,h=>h|v::a,b,e::x,y,h,h2=>⟨h.1,IJ.app h.2 h2⟩|[],_,_::_,_,h,_=>h.elim|_::_,_,[],_,h,_=>h.elim
theorem ABh{V:AM}{f:Nat->List Value}{g:Nat->List Ak}:∀{n:Nat},(∀i<n,IJ V (f i) (g i))->IJ V (Mu f n) (Mu g n)
 |0,_=>trivial|n+1,h=>by
  rw[MD,MD];exact(ABh λi hi=>h i ox).app (h n ox)
theorem IJ.mono{V V':AM}(hv:DI V V'):∀{a:List Value}{x:List Ak},IJ V a x->IJ V' a x
 |[],[],_=>trivial|v::a,e::x,h=>by
  have⟨⟨cs,h1,h2⟩,h3⟩:=h;exact⟨⟨cs,h1,Br.mono hv h2⟩,IJ.mono hv h3⟩
 |[],_::_,h=>h.elim|_::_,[],h=>h.elim
theorem IJ.at{V:AM}:∀{pre:List Value}{x:Value}{rest:List Value}{es:List Ak},IJ V (pre++x::rest) es->∃e y cs,es=es.take pre.length++e::y/\x=.agg ⟨cs⟩/\Br.rep V e cs/\IJ V rest y
 |[],x,rest,e::es,h=>by
  have⟨⟨cs,h1,h2⟩,h3⟩:=h;exact⟨e,es,cs,by simp,h1,h2,h3⟩
 |p::pre,x,rest,e::es,h=>by
  have⟨z,H,cs,h1,h2⟩:=IJ.at (pre:=pre) h.2;refine⟨z,H,cs,?_,h2⟩;simp only[Bz,List.take_succ_cons,NK];rw[<- h1]
 |[],x,rest,[],h=>h.elim|p::pre,x,rest,[],h=>h.elim
theorem ADK:∀(args:Array Value)(w:World),(callFunc 235 args).run Tryz.prog w=.ok (.enter 235 args) w:=by
 intro args w;exact enters_of Tryz.func235 kz Y args w
set_option maxHeartbeats 400000 in
theorem AIn:∀(n:Nat)(e:Ak){V0:AM}{cs:List Value}{es:List Ak},Br.rep V0 e cs->Qk n e=some es->∃vs,IJ V0 vs es/\ANT Tryz.prog 235 #[.agg ⟨cs⟩] #[] vs V0 (vB true) (vB false)
 |0,_,_,_,_,_,h=>by simp[Qk]at h
 |n+1,e,V0,cs,es,ai,h=>by
  simp only[Qk]at h;have⟨hlen,h⟩:=AL h;have⟨y,hy,h⟩:=AO h;obtain rfl:=Bt h;obtain⟨g,rfl,hg⟩:=WM hy;obtain⟨a1,k1,rfl,h1⟩:=DS.1 ai;have H:∀i,∃vs:List Value,i<e.Aw.length->IJ V0 vs (g i)/\∃ci,Br.rep V0 (AN e.Aw i) ci/\Bi V0 a1 (i*4) ci/\ANT Tryz.prog 235 #[.agg ⟨ci⟩] #[] vs V0 (vB true) (vB false):=λi=>by
   by_cases hi:i<e.Aw.length
   ·have⟨ci,ag,al⟩:=AK.get h1 (n:=(i:Int)) ⟨by omega,by omega⟩;have⟨vs,q1,q2⟩:=AIn n _ ag (hg i _ (by simp[AN,hi]));exact⟨vs,λ_=>⟨q1,ci,ag,al,q2⟩⟩
   ·exact⟨[],λh=>absurd h hi⟩
  have⟨f,hf⟩:=Classical.axiomOfChoice H;refine⟨.agg ⟨[vI e.Op,vI e.N,vS e.S,vL a1 e.Aw k1]⟩::Mu f e.Aw.length,⟨⟨_,Y,ai⟩,ABh λi hi=>(hf i hi).1⟩,?_⟩;obtain⟨v0,Z⟩:∃v,v=Value.agg ⟨[vI e.Op,vI e.N,vS e.S,vL a1 e.Aw k1]⟩:=⟨_,Y⟩;intro l J V W aw K hY h0;have e0:(#[Value.agg ⟨[vI e.Op,vI e.N,vS e.S,vL a1 e.Aw k1]⟩]++ #[Value.func (.yield l) #[] #[]]++ #[]:Array Value)=⟨[Value.agg ⟨[vI e.Op,vI e.N,vS e.S,vL a1 e.Aw k1]⟩,Value.func (.yield l) #[] #[]]⟩:=by simp
  rw[e0];refine(callsIn_wide (n:=0)).1 (callsIn_of_wp Tryz.func235 Y Yt ?_);have s0:PJ J 23 [(0,.v (.agg ⟨[vI e.Op,vI e.N,vS e.S,vL a1 e.Aw k1]⟩)),(1,.v (.func (.yield l) #[] #[]))] V (some []) {tmps:=(⟨[Value.agg ⟨[vI e.Op,vI e.N,vS e.S,vL a1 e.Aw k1]⟩,Value.func (.yield l) #[] #[]]⟩:Array Value)++Array.replicate (Tryz.f235.ntmps-(⟨[Value.agg ⟨[vI e.Op,vI e.N,vS e.S,vL a1 e.Aw k1]⟩,Value.func (.yield l) #[] #[]]⟩:Array Value).size) undef,defers:=[]} W:=
   ⟨Y,by rw[R4,T2];rfl,UM [Value.agg ⟨[vI e.Op,vI e.N,vS e.S,vL a1 e.Aw k1]⟩,Value.func (.yield l) #[] #[]] _,h0⟩
  refine wpIn_seq ?_;refine s0.IG (T:=NP) (fn:=Tryz.f235) K (λL' V'=>∃b,L'=[(1,.v (.func (.yield l) #[] #[])),(2,sP b)]/\Bi V' (some ⟨b,0,none⟩) 0 [vI e.Op,vI e.N,vS e.S,vL a1 e.Aw k1]) ?_ ?_
  ·refine AD.run Aa 400 Y ?_;refine ZB 0 Y Y Y Y (λ_=>Y) (λV4 b4 an ax=>?_);exact r0
  clear s0 h0;rintro L' V1 t1 w1 ⟨b2,rfl,ay⟩ aG s1;show Code.wpIn _ _ _ _ _ _ _;refine wpIn_seq ?_;refine wpIn_seq ?_;refine s1.head (T:=NP) (fn:=Tryz.f235) K (λL' V'=>L'=[(1,.v (.func (.yield l) #[] #[])),(2,sP b2),(7,.v (.func (.yield l) #[] #[])),(8,.v v0)]/\DI V1 V') (ops:=[_,_]) (rest:=[_,_]) ?_ Y ?_
  ·refine AD.run Aa 400 Y ?_;refine AD.ld Aa (x:=v0) Y Y ay Y Z.symm ?_;exact Yr.rd Y ⟨Y,Y,DI.refl _⟩
  clear s1;rintro L' V2 t2 w2 ⟨rfl,az⟩ aR s2;rw[<- Z]at hY;refine s2.ANp (l:=l) (x:=v0) (d:=9) (g:=7) (ar:=8) Y Y Y (by decide) Y (s2.eval Y) ?_;have⟨f1,f2,f3,f4,ao,aq⟩:=hY [] v0 (Mu f e.Aw.length) V2 w2 Y s2.j;refine⟨f1,f2,f3,f4,ao,aq.mono ?_⟩;rintro X W3 ⟨b,V3,rfl,aa,ab⟩;refine⟨b,V3,_,Y,aa,ab,λt3 s3=>?_⟩;clear s2 ab;have aH:=Bi.mono (Bi.mono ay az) aa;refine s3.ops (T:=NP) (fn:=Tryz.f235) K (λL' V'=>L'=[(1,.v (.func (.yield l) #[] #[])),(2,sP b2),(10,sB (!b))]/\DI V3 V') ?_ ?_
  ·refine AD.run Aa 400 Y ?_;exact Yr.rd Y ⟨Y,Y,DI.refl _⟩
  clear s3;rintro L' V4 t4 w4 ⟨rfl,an⟩ aS s4;have ax:=Bi.mono aH an;have aj:DI V V4:=aG.trans (az.trans (aa.trans an));show Code.wpIn _ _ _ _ _ _ _;cases b with
  |false=>
   refine wpIn_cond_true (s4.eval (s:=10) Y) ?_;refine wpIn_seq ?_;refine s4.IG (T:=NP) (fn:=Tryz.f235) K (λL' V'=>L'=[(4,sB false)]/\DI V4 V') ?_ ?_
   ·refine AD.run Aa 400 Y ?_;exact Yr.rd Y ⟨Y,Y,DI.refl _⟩
   rintro L' V5 t5 w5 ⟨rfl,au⟩ _ s5;refine wpIn_ret ?_;subst Z;exact s5.AN8 (P:=Tryz.prog) (fn:=Tryz.f235) (t:=4) (x:=vB false) (R:=λX W'=>∃V',DI V V'/\((X=.returned (vB true)/\J (some (Value.agg ⟨[vI e.Op,vI e.N,vS e.S,vL a1 e.Aw k1]⟩::Mu f e.Aw.length)) V' W')\/(X=.returned (vB false)/\J none V' W'))) Y Y ⟨V5,aj.trans au,.inr ⟨Y,s5.j⟩⟩
  |true=>
  refine wpIn_cond_false (s4.eval (s:=10) Y) ?_;refine wpIn_skip ?_;show Code.wpIn _ _ _ _ _ _ _;refine wpIn_seq ?_;refine wpIn_seq ?_;refine s4.IG (T:=NP) (fn:=Tryz.f235) K (λL' V'=>L'=[(1,.v (.func (.yield l) #[] #[])),(12,sL a1 e.Aw k1),(13,sN e.Aw),(14,sI 0)]/\DI V4 V') ?_ ?_
  ·refine AD.run Aa 400 Y ?_;refine AD.ld Aa (x:=vL a1 e.Aw k1) Y Y (ax.field 3 Y).shift Y Y ?_;exact Yr.rd Y ⟨Y,Y,DI.refl _⟩
  clear s4;rintro L' V5 t5 w5 ⟨rfl,au⟩ _ s5;have a6:=aj.trans au;show Code.wpIn _ _ _ _ _ _ _;refine wpIn_block ?_;refine wpIn_loop (λa w=>∃(i:Int)(V6:AM),(0<=i/\i<=(e.Aw.length:Int))/\DI V V6/\PJ J 23 [(1,.v (.func (.yield l) #[] #[])),(12,sL a1 e.Aw k1),(13,sN e.Aw),(14,sI i)] V6 (some (v0::Mu f i.toNat)) a w)
   (λa _=>muS 14 e.Aw.length a) ⟨0,V5,⟨D6 _,by omega⟩,a6,s5⟩ ?_
  clear s5;rintro a w ⟨i,V6,hi,a7,s⟩;rw[s.muS (s:=14) e.Aw.length Y];refine wpIn_seq ?_;refine s.IG (T:=NP) (fn:=Tryz.f235) K (λL' V'=>L'=[(1,.v (.func (.yield l) #[] #[])),(12,sL a1 e.Aw k1),(13,sN e.Aw),(14,sI i),(15,sB (decide (i<(e.Aw.length:Int))))]) ?_ ?_
  ·refine AD.run Aa 400 Y ?_;exact rd
  clear s;rintro L' V7 t7 w7 rfl aI s;have O:=a7.trans aI;show Code.wpIn _ _ _ _ _ _ _;refine wpIn_seq ?_;refine wpIn_cond_split (s.eval (s:=15) Y) (λhc=>?_) (λhc=>?_)
  case _=>
   have aJ:i<(e.Aw.length:Int):=by simpa using hc
   have aK:i.toNat<e.Aw.length:=ox
   refine wpIn_skip ?_;show Code.wpIn _ _ _ _ _ _ _;have⟨q1,ci,ag,al,a8⟩:=hf i.toNat aK;obtain⟨ac,kc,rfl,aT⟩:=DS.1 ag;obtain⟨vi,ah⟩:∃v,v=Value.agg ⟨[vI (AN e.Aw i.toNat).Op,vI (AN e.Aw i.toNat).N,vS (AN e.Aw i.toNat).S,vL ac (AN e.Aw i.toNat).Aw kc]⟩:=⟨_,Y⟩;have ak:=Bi.mono al (aw.trans O);refine wpIn_seq ?_;refine wpIn_block ?_;refine wpIn_seq ?_;refine s.IG (T:=NP) (fn:=Tryz.f235) K (λL' V'=>∃b6,L'=[(1,.v (.func (.yield l) #[] #[])),(6,sP b6),(12,sL a1 e.Aw k1),(13,sN e.Aw),(14,sI i)]/\Bi V' (some ⟨b6,0,none⟩) 0 [vI (AN e.Aw i.toNat).Op,vI (AN e.Aw i.toNat).N,vS (AN e.Aw i.toNat).S,vL ac (AN e.Aw i.toNat).Aw kc]) ?_ ?_
   ·refine AD.run Aa 400 Y ?_;refine AD.ia Aa Y Y ⟨hi.1,aJ,ak.some⟩ ?_;refine Yr.ld (x:=vi) Y ak ah.symm ?_;subst ah;refine xr Y (ZB 0 Y Y Y Y (λ_=>Y) (λV8 b8 ad aA=>?_));exact r0
   clear s;rintro L' V8 t8 w8 ⟨b6,rfl,aA⟩ ad s;show Code.wpIn _ _ _ _ _ _ _;refine wpIn_seq ?_;refine s.head (T:=NP) (fn:=Tryz.f235) K (λL' V'=>L'=[(1,.v (.func (.yield l) #[] #[])),(12,sL a1 e.Aw k1),(13,sN e.Aw),(14,sI i),(18,.v vi),(19,.v (.func (.yield l) #[] #[]))]) (ops:=[_,_]) (rest:=[_,_]) ?_ Y ?_
   ·refine AD.run Aa 400 Y ?_;refine AD.ld Aa (x:=vi) Y Y aA Y ah.symm ?_;exact rd
   clear s;rintro L' V9 t9 w9 rfl aB s;rw[<- ah]at a8;have⟨tl,aL⟩:=WX f (i:=i.toNat+1) (n:=e.Aw.length) ox;have hC:=a8 l (λt V W=>J (match t with|some p=>some (v0::Mu f i.toNat++p)|none=>none) V W) V9 w9 (aw.trans (O.trans (ad.trans aB))) ⟨λt V W h=>K.holds _ _ _ h,λt V W V' W' h=>K.grow _ _ _ _ _ h⟩ (λpre x rest V1 W1 hx hj=>by
    have⟨f1,f2,f3,f4,ao,aq⟩:=hY (v0::Mu f i.toNat++pre) x (rest++tl) V1 W1 (by rw[aL,MD,hx];simp) hj;refine⟨f1,f2,f3,f4,ao,aq.mono ?_⟩;rintro X W3 ⟨b,V3,rfl,aa,ab⟩;refine⟨b,V3,Y,aa,?_⟩;cases b with
    |true=>simpa using ab|false=>simpa using ab) (by simpa using s.j)
   have aM:(#[Operand.tmp 18,Operand.tmp 19]:Array Operand).map t9.eval= #[vi]++ #[.func (.yield l) #[] #[]]++ #[]:=by
    have e1:=s.eval (s:=18) Y;have e2:=s.eval (s:=19) Y;simp[e1,e2]
   refine s.ANj (f:=235) (d:=20) (args:= #[.tmp 18,.tmp 19]) (ts:=_) Y Y Y (by decide) aM ADK hC ?_;rintro X aN ⟨aC,aD,hc⟩;have hB:∃(b:Bool)(s2:AA (List Value)),X=.returned (vB b)/\J s2 aC aN/\s2=if b then some (v0::Mu f (i.toNat+1))else none:=by
    rcases hc with⟨rfl,hj⟩|⟨rfl,hj⟩
    ·exact⟨true,_,Y,by simpa[MD]using hj,by simp[MD]⟩
    ·exact⟨false,none,Y,hj,by simp⟩
   obtain⟨b,s2,rfl,hj,aE⟩:=hB;refine⟨_,aC,s2,Y,hj,λaU s=>?_⟩;clear hj hc hC;refine s.ops (T:=NP) (fn:=Tryz.f235) K (λL' V'=>L'=[(1,.v (.func (.yield l) #[] #[])),(12,sL a1 e.Aw k1),(13,sN e.Aw),(14,sI i),(21,sB (!b))]) ?_ ?_
   ·refine AD.run Aa 400 Y ?_;exact rd
   clear s;rintro L' aO aV aW rfl aF s;have ae:DI V aO:=O.trans (ad.trans (aB.trans (aD.trans aF)));show Code.wpIn _ _ _ _ _ _ _;cases b with
   |false=>
    refine wpIn_cond_true (s.eval (s:=21) Y) ?_;refine wpIn_seq ?_;refine s.IG (T:=NP) (fn:=Tryz.f235) K (λL' V'=>L'=[(4,sB false)]) ?_ ?_
    ·refine AD.run Aa 400 Y ?_;exact rd
    rintro L' av aP aQ rfl af z;refine wpIn_ret ?_;rw[aE]at z;subst Z;exact z.AN8 (P:=Tryz.prog) (fn:=Tryz.f235) (t:=4) (x:=vB false) (R:=λX W'=>∃V',DI V V'/\((X=.returned (vB true)/\J (some (Value.agg ⟨[vI e.Op,vI e.N,vS e.S,vL a1 e.Aw k1]⟩::Mu f e.Aw.length)) V' W')\/(X=.returned (vB false)/\J none V' W'))) Y Y ⟨av,ae.trans af,.inr ⟨Y,z.j⟩⟩
   |true=>
    refine wpIn_cond_false (s.eval (s:=21) Y) ?_;refine wpIn_skip ?_;show Code.wpIn _ _ _ _ _ _ _;refine s.IG (T:=NP) (fn:=Tryz.f235) K (λL' V'=>L'=[(1,.v (.func (.yield l) #[] #[])),(12,sL a1 e.Aw k1),(13,sN e.Aw),(14,sI (AB (i+1)))]) ?_ ?_
    ·refine AD.run Aa 400 Y ?_;exact rd
    rintro L' av aP aQ rfl af z;have hw:AB (i+1)=i+1:=Vg ox ox;have ht:(i+1).toNat=i.toNat+1:=ox
    rw[hw,aE,if_pos Y,<- ht]at z;refine⟨⟨i+1,av,⟨by omega,by omega⟩,ae.trans af,z⟩,?_⟩;rw[z.muS (s:=14) e.Aw.length Y];omega
  case _=>
   have aX:(e.Aw.length:Int)<=i:=by simpa using hc
   refine wpIn_exit ?_;show Code.wpIn _ _ _ _ _ _ _;refine wpIn_seq ?_;have he:i.toNat=e.Aw.length:=ox
   rw[he]at s;refine s.IG (T:=NP) (fn:=Tryz.f235) K (λL' V'=>L'=[(4,sB true)]) ?_ ?_
   ·refine AD.run Aa 400 Y ?_;exact rd
   rintro L' V8 t8 w8 rfl ad s8;refine wpIn_ret ?_;subst Z;exact s8.AN8 (P:=Tryz.prog) (fn:=Tryz.f235) (t:=4) (x:=vB true) (R:=λX W'=>∃V',DI V V'/\((X=.returned (vB true)/\J (some (Value.agg ⟨[vI e.Op,vI e.N,vS e.S,vL a1 e.Aw k1]⟩::Mu f e.Aw.length)) V' W')\/(X=.returned (vB false)/\J none V' W'))) Y Y ⟨V8,O.trans ad,.inl ⟨Y,s8.j⟩⟩
theorem ALn{e:Ak}(z:Br.rep V0 e cs)(hc:Bi V0 (some ⟨y,0,none⟩) 0 cs)(h:Qk 1099511627776 e=some bq):∃vs,IJ V0 vs bq/\ANT Tryz.prog 234 #[] #[vP y] vs V0 (.tuple #[]) (.tuple #[]):=by
 have⟨vs,h1,K⟩:=AIn _ e z h;refine⟨vs,h1,?_⟩;obtain⟨a1,k1,rfl,_⟩:=DS.1 z;obtain⟨v0,O⟩:∃v,v=Value.agg ⟨[vI e.Op,vI e.N,vS e.S,vL a1 e.Aw k1]⟩:=⟨_,Y⟩;intro l J V W X hJ hY h0;have e0:(#[]++ #[Value.func (.yield l) #[] #[]]++ #[Value.pointer (some ⟨y,0,none⟩)]:Array Value)=⟨[Value.func (.yield l) #[] #[],Value.pointer (some ⟨y,0,none⟩)]⟩:=by simp
 rw[e0];refine(callsIn_wide (n:=0)).1 (callsIn_of_wp Tryz.func234 Y Yt ?_);have s:PJ J 6 [(0,.v (.func (.yield l) #[] #[])),(1,sP y)] V (some []) {tmps:=(⟨[Value.func (.yield l) #[] #[],Value.pointer (some ⟨y,0,none⟩)]⟩:Array Value)++Array.replicate (Tryz.f234.ntmps-(⟨[Value.func (.yield l) #[] #[],Value.pointer (some ⟨y,0,none⟩)]⟩:Array Value).size) undef,defers:=[]} W:=
  ⟨Y,by rw[R4,T2];rfl,UM [Value.func (.yield l) #[] #[],Value.pointer (some ⟨y,0,none⟩)] _,h0⟩
 have aa:=Bi.mono hc X;refine s.head (T:=NP) (fn:=Tryz.f234) hJ (λL' V'=>L'=[(3,.v v0),(4,.v (.func (.yield l) #[] #[]))]) (ops:=[_,_]) (rest:=[_]) ?_ Y ?_
 ·refine AD.run Aa 400 Y ?_;refine AD.ld Aa (x:=v0) Y Y aa Y O.symm ?_;exact rd
 clear s;rintro L' V1 t1 w1 rfl Z s;rw[<- O]at K;have hC:=K l J V1 w1 (X.trans Z) hJ hY s.j;have ab:(#[Operand.tmp 3,Operand.tmp 4]:Array Operand).map t1.eval= #[v0]++ #[.func (.yield l) #[] #[]]++ #[]:=by
  have e1:=s.eval (s:=3) Y;have e2:=s.eval (s:=4) Y;simp[e1,e2]
 refine s.ANj (f:=235) (d:=5) (args:= #[.tmp 3,.tmp 4]) (ts:=_) Y Y Y (by decide) ab ADK hC ?_;rintro en W2 ⟨V2,ad,ae⟩;have hB:∃(b:Bool)(s2:AA (List Value)),en=.returned (vB b)/\J s2 V2 W2/\((b=true/\s2=some vs)\/(b=false/\s2=none)):=by
  rcases ae with⟨rfl,H⟩|⟨rfl,H⟩
  ·exact⟨true,_,Y,H,.inl ⟨Y,Y⟩⟩
  ·exact⟨false,_,Y,H,.inr ⟨Y,Y⟩⟩
 obtain⟨b,s2,rfl,H,af⟩:=hB;refine⟨_,V2,s2,Y,H,λt2 s=>?_⟩;refine wpListIn_nil ?_;exact bodyPost_end (v:=.tuple #[]) (by simp[results,show Tryz.f234.results= #[]from rfl]) s.df ⟨V2,Z.trans ad,by
  rcases af with⟨_,rfl⟩|⟨_,rfl⟩
  ·exact .inl ⟨Y,H⟩
  ·exact .inr ⟨Y,H⟩⟩
theorem ANQ{e:Ak}(y:Br.rep V e cs):Spec Tryz.prog 213 [.agg ⟨cs⟩] V (λV' v=>∃b,v=.func (.func 234) #[] #[vP b]/\Bi V' (some ⟨b,0,none⟩) 0 cs):=by
 obtain⟨_,_,rfl,_⟩:=DS.1 y;refine se Tryz.func213 ?_;refine xr Y (HZ 0 Y Y Y Y (λ_=>Y) (λ_=>Y) (λK N z H=>?_));refine Fe Y Y ?_;exact rE
theorem AHb:∀(args:Array Value)(w:World),(callFunc 234 args).run Tryz.prog w=.ok (.enter 234 args) w:=by
 intro args w;exact enters_of Tryz.func234 kz Y args w
theorem AKV{α:Type}{l:List α}{x:α}{r:List α}(h:l=l.take n++x::r):l.take (n+1)=l.take n++[x]:=by
 have hl:=B2 List.length h;simp only[AT,Ao,Bz]at hl;have h1:l[n]? =some x:=by
  rw[h,E4 (by simp;omega)];simp[show min n l.length=n by omega]
 rw[List.take_add_one,h1];rfl
def Li:List Ak->Int->Int×Int×Bool
 |[],_=>(0,0,false)|e::l,b=>if(e.Op==25||e.Op==26)||e.Op==27 then(e.Op,b,true)else Li l (AB (b+1))
def KJ(z:Ce):AA (Int×Int×Bool):=
 Az (Ho z) λy=>cond (y !=0) (some (0,0,false)) (Az (Rl z) λes=>Ba (es.length<9223372036854775807) (Az (UJ (Qk 1099511627776) es) λH=>some (Li H 0)))
set_option maxHeartbeats 1099511627776 in
theorem VU(H:Ce){a2:AA Addr}{a3:AA Addr}(h2:AK Er V a2 y H.BH)(h3:AK CN V a3 z H.CU){r:Int×Int×Bool}(U:KJ H=some r):Spec Tryz.prog 197 [.agg ⟨[vS H.Name,vL a2 H.BH y,vL a3 H.CU z]⟩] V (λ_ v=>v=.tuple ⟨[vI (r.1),vI (r.2.1),vB r.2.2]⟩):=by
 have⟨aa,hy,U⟩:=AO U;obtain⟨p0,aj⟩:∃p,p=Value.agg ⟨[vS H.Name,vL a2 H.BH y,vL a3 H.CU z]⟩:=⟨_,Y⟩;refine AHf Tryz.func197 Y kz Y Y Y (λw a s=>?_);refine wpIn_seq ?_;refine s.region (ro:=none) (T:=NP) (fn:=Tryz.f197) (λL' V' M'=>∃b1 O W X,L'=[(1,sP b1),(2,sP O),(3,sP W),(4,sP X)]/\
  M'=[.row (.slice (some ⟨b1,0,none⟩) 1 1) [vS H.Name,vL a2 H.BH y,vL a3 H.CU z] 191 3,.row (.slice (some ⟨O,0,none⟩) 1 1) [vI 0] 3 1,.row (.slice (some ⟨W,0,none⟩) 1 1) [vI 0] 3 1,.row (.slice (some ⟨X,0,none⟩) 1 1) [vB false] 4 1]/\DI V V') ?_ Y ?_
 ·refine AD.run Aa 400 Y ?_;refine I6 0 (n:=1) (sz:=3) Y Y Y Y Y (λ_=>Y) (λ_=>Y) (λb1=>?_);refine I6 1 (n:=1) (sz:=1) Y Y Y Y Y (λ_=>Y) (λ_=>Y) (λO=>?_);refine I6 2 (n:=1) (sz:=1) Y Y Y Y Y (λ_=>Y) (λ_=>Y) (λW=>?_);refine I6 3 (n:=1) (sz:=1) Y Y Y Y Y (λ_=>Y) (λ_=>Y) (λX=>?_);exact Yr.rd Y ⟨_,_,_,_,Y,Y,DI.refl _⟩
 clear s a;rintro L' V1 M' a1 w1 ⟨b1,O,W,X,rfl,rfl,bf⟩ s;show Code.wpIn _ _ _ _ _ _ _;refine wpIn_seq ?_;refine wpIn_seq ?_;refine s.region (ro:=none) (T:=NP) (fn:=Tryz.f197) (λL' V' M'=>L'=[(1,sP b1),(2,sP O),(3,sP W),(4,sP X),(11,sB (aa !=0))]/\
  M'=[.row (.slice (some ⟨b1,0,none⟩) 1 1) [vS H.Name,vL a2 H.BH y,vL a3 H.CU z] 191 3,.row (.slice (some ⟨O,0,none⟩) 1 1) [vI 0] 3 1,.row (.slice (some ⟨W,0,none⟩) 1 1) [vI 0] 3 1,.row (.slice (some ⟨X,0,none⟩) 1 1) [vB false] 4 1]/\DI V1 V') ?_ Y ?_
 ·refine AD.run Aa 400 Y ?_;refine AD.O5 Aa 0 (x:=p0) (l:=[vS H.Name,vL a2 H.BH y,vL a3 H.CU z]) Y Y Y (by intro j v hj;simpa using hj) Y aj.symm ?_;refine Yr.OJ (vI aa) Y (aj▸Uq H tu tu hy) ?_;exact Yr.rd Y ⟨Y,Y,DI.refl _⟩
 clear s a1;rintro L' V2 M' aA w2 ⟨rfl,rfl,bg⟩ s;show Code.wpIn _ _ _ _ _ _ _;rcases CV U with⟨hb,U⟩|⟨hb,U⟩
 case _=>
  refine wpIn_cond_true (by rw[s.eval (s:=11) Y,hb]) ?_;refine wpIn_seq ?_;cases U;refine s.region (ro:=none) (T:=NP) (fn:=Tryz.f197) (λL' V' M'=>L'=[(2,sP O),(3,sP W),(4,sP X)]/\∃o,
   M'=[o,.row (.slice (some ⟨O,0,none⟩) 1 1) [vI 0] 3 1,.row (.slice (some ⟨W,0,none⟩) 1 1) [vI 0] 3 1,.row (.slice (some ⟨X,0,none⟩) 1 1) [vB false] 4 1]) ?_ Y ?_
  ·refine AD.run Aa 400 Y ?_;refine AD.P6 Aa 1 Y Y Y Y Y (Ae Y) Y Y Y ?_;refine Yr.P6 2 Y (Ae Y) ?_;refine Yr.P6 3 Y (Ae Y) ?_;exact rd
  clear s aA;rintro L' V4 M' au w4 ⟨rfl,o,rfl⟩ s;show Code.wpIn _ _ _ _ _ _ _;refine wpIn_ret ?_;have hl:=TS (FR:=JZ w) (Ds:=[]) (T:=NP) (P:=Tryz.prog) (n:=1) (fn:=Tryz.f197) (rs:=[.cell 2 3,.cell 3 3,.cell 4 4]) (vs:=[vI 0,vI 0,vB false])
   (R:=λe w'=>∃v env V' M',e=.returned v/\FC V (JZ w) env V' M' w'/\v=.tuple ⟨[vI 0,vI 0,vB false]⟩) Aa Y Yt s ⟨⟨_,1,_,_,_,_,_,Y,Y,Y,.inl ⟨Y,Y,Y⟩⟩,⟨_,2,_,_,_,_,_,Y,Y,Y,.inl ⟨Y,Y,Y⟩⟩,⟨_,3,_,_,_,_,_,Y,Y,Y,.inl ⟨Y,Y,Y⟩⟩,Yt⟩ (λenv w' hW=>⟨_,env,V4,_,Y,hW,Y⟩)
  show LeavesInM _ _ _ _ _ _ au.defers _ _;rw[s.df];exact hl
 refine wpIn_cond_false (by rw[s.eval (s:=11) Y,hb]) ?_;refine wpIn_skip ?_;show Code.wpIn _ _ _ _ _ _ _;have⟨es,aM,U⟩:=AO U;have⟨hlen,U⟩:=AL U;have⟨ns,aN,U⟩:=AO U;cases U;have⟨g,aB,hg⟩:=WM aN;refine wpIn_seq ?_;refine s.region (ro:=none) (T:=NP) (fn:=Tryz.f197) (λL' V' M'=>∃Z,L'=[(1,sP b1),(2,sP O),(3,sP W),(4,sP X),(5,sP Z)]/\M'=[.row (.slice (some ⟨b1,0,none⟩) 1 1) [vS H.Name,vL a2 H.BH y,vL a3 H.CU z] 191 3,.row (.slice (some ⟨O,0,none⟩) 1 1) [vI 0] 3 1,.row (.slice (some ⟨W,0,none⟩) 1 1) [vI 0] 3 1,.row (.slice (some ⟨X,0,none⟩) 1 1) [vB false] 4 1,.row (.slice (some ⟨Z,0,none⟩) 1 1) [vI 0] 3 1]/\DI V2 V') ?_ Y ?_
 ·refine AD.run Aa 400 Y ?_;refine I6 4 (n:=1) (sz:=1) Y Y Y Y Y (λ_=>Y) (λ_=>Y) (λZ=>?_);exact Yr.rd Y ⟨_,Y,Y,DI.refl _⟩
 clear s aA;rintro L' V3 M' aO w3 ⟨Z,rfl,rfl,bh⟩ s;show Code.wpIn _ _ _ _ _ _ _;refine wpIn_seq ?_;refine wpIn_seq ?_;refine s.region (ro:=none) (T:=NP) (fn:=Tryz.f197) (λL' V' M'=>∃ae ke,L'=[(2,sP O),(3,sP W),(4,sP X),(5,sP Z),(13,sL ae es ke),(14,sN es),(15,sI 0)]/\M'=[.row (.slice (some ⟨b1,0,none⟩) 1 1) [vS H.Name,vL a2 H.BH y,vL a3 H.CU z] 191 3,.row (.slice (some ⟨O,0,none⟩) 1 1) [vI 0] 3 1,.row (.slice (some ⟨W,0,none⟩) 1 1) [vI 0] 3 1,.row (.slice (some ⟨X,0,none⟩) 1 1) [vB false] 4 1,.row (.slice (some ⟨Z,0,none⟩) 1 1) [vI 0] 3 1]/\DI V3 V'/\AK Br V' ae ke es) ?_ Y ?_
 ·refine AD.run Aa 400 Y ?_;refine AD.O5 Aa 0 (x:=p0) (l:=[vS H.Name,vL a2 H.BH y,vL a3 H.CU z]) Y Y Y (by intro j v hj;simpa using hj) Y aj.symm ?_;refine Yr.call Y (aj▸AF9 H tu tu aM) ?_;rintro V4 _ aP ⟨ae,ke,rfl,aC⟩;exact rd
 clear s aO;rintro L' V4 M' au w4 ⟨ae,ke,rfl,rfl,aP,aC⟩ s;show Code.wpIn _ _ _ _ _ _ _;refine wpIn_block ?_;refine wpIn_loop (λa w5=>∃(i:Int)(Ds:List Nat)(V5:AM)(bb:Int),(0<=i/\i<=(es.length:Int))/\MOk (JZ w) Ds/\DI V4 V5/\QJ 31 V ((JZ w).Wc Ds) (marks Ds) [(2,sP O),(3,sP W),(4,sP X),(5,sP Z),(13,sL ae es ke),(14,sN es),(15,sI i)] V5 [.row (.slice (some ⟨b1,0,none⟩) 1 1) [vS H.Name,vL a2 H.BH y,vL a3 H.CU z] 191 3,.row (.slice (some ⟨O,0,none⟩) 1 1) [vI 0] 3 1,.row (.slice (some ⟨W,0,none⟩) 1 1) [vI 0] 3 1,.row (.slice (some ⟨X,0,none⟩) 1 1) [vB false] 4 1,.row (.slice (some ⟨Z,0,none⟩) 1 1) [vI bb] 3 1] a w5/\∀tl,Li (Mu g i.toNat++tl) 0=Li tl bb)
  (λa _=>muS 15 es.length a) ⟨0,[],V4,0,⟨D6 _,by omega⟩,Yt,DI.refl _,s,λtl=>Y⟩ ?_
 clear s au;rintro a w5 ⟨i,Ds,V5,bb,hi,av,aD,s,aE⟩;have aF:=AK.mono aC aD;rw[s.muS (s:=15) es.length Y];refine wpIn_seq ?_;refine s.region (ro:=none) (T:=NP) (fn:=Tryz.f197) (λL' V' M'=>L'=[(2,sP O),(3,sP W),(4,sP X),(5,sP Z),(13,sL ae es ke),(14,sN es),(15,sI i),(16,sB (decide (i<(es.length:Int))))]/\V'=V5/\M'=[.row (.slice (some ⟨b1,0,none⟩) 1 1) [vS H.Name,vL a2 H.BH y,vL a3 H.CU z] 191 3,.row (.slice (some ⟨O,0,none⟩) 1 1) [vI 0] 3 1,.row (.slice (some ⟨W,0,none⟩) 1 1) [vI 0] 3 1,.row (.slice (some ⟨X,0,none⟩) 1 1) [vB false] 4 1,.row (.slice (some ⟨Z,0,none⟩) 1 1) [vI bb] 3 1]) ?_ Y ?_
 ·refine AD.run Aa 400 Y ?_;exact rd
 clear s;rintro L' V6 M' a6 w6 ⟨rfl,rfl,rfl⟩ s;show Code.wpIn _ _ _ _ _ _ _;refine wpIn_seq ?_;refine wpIn_cond_split (s.eval (s:=16) Y) (λhc=>?_) (λhc=>?_)
 case _=>
  have aG:i<(es.length:Int):=by simpa using hc
  have aQ:i.toNat<es.length:=ox
  refine wpIn_skip ?_;show Code.wpIn _ _ _ _ _ _ _;have⟨ci,aw,ax⟩:=AK.get aF (n:=i) ⟨hi.1,aG⟩;obtain⟨an,kn,rfl,aR⟩:=DS.1 aw;obtain⟨ne,aH⟩:∃ab,ab=AN es i:=⟨_,Y⟩;rw[<- aH]at aw ax aR;have aS:Qk 1099511627776 ne=some (g i.toNat):=hg i.toNat ne (by rw[aH];simp[AN,aQ]);obtain⟨vi,ak⟩:∃v,v=Value.agg ⟨[vI ne.Op,vI ne.N,vS ne.S,vL an ne.Aw kn]⟩:=⟨_,Y⟩;refine wpIn_seq ?_;refine wpIn_block ?_;refine wpIn_seq ?_;refine s.region (ro:=none) (T:=NP) (fn:=Tryz.f197) (λL' V' M'=>∃b7,L'=[(2,sP O),(3,sP W),(4,sP X),(5,sP Z),(13,sL ae es ke),(14,sN es),(15,sI i),(7,sP b7)]/\DI V6 V'/\Bi V' (some ⟨b7,0,none⟩) 0 [vI ne.Op,vI ne.N,vS ne.S,vL an ne.Aw kn]/\M'=[.row (.slice (some ⟨b1,0,none⟩) 1 1) [vS H.Name,vL a2 H.BH y,vL a3 H.CU z] 191 3,.row (.slice (some ⟨O,0,none⟩) 1 1) [vI 0] 3 1,.row (.slice (some ⟨W,0,none⟩) 1 1) [vI 0] 3 1,.row (.slice (some ⟨X,0,none⟩) 1 1) [vB false] 4 1,.row (.slice (some ⟨Z,0,none⟩) 1 1) [vI bb] 3 1]) ?_ Y ?_
  ·refine AD.run Aa 400 Y ?_;refine AD.ia Aa Y Y ⟨hi.1,aG,ax.some⟩ ?_;refine Yr.ld (x:=vi) Y ax ak.symm ?_;subst ak;refine xr Y (ZB 5 Y Y Y Y (λ_=>Y) (λV8 b8 al ay=>?_));exact r5
  clear s;rintro L' V7 M' a7 w7 ⟨b7,rfl,aI,aT,rfl⟩ s;have ar:=Br.mono aI aw;show Code.wpIn _ _ _ _ _ _ _;refine wpIn_seq ?_;refine s.region (ro:=none) (T:=NP) (fn:=Tryz.f197) (λL' V' M'=>∃b8,L'=[(2,sP O),(3,sP W),(4,sP X),(5,sP Z),(13,sL ae es ke),(14,sN es),(15,sI i),(20,.v (.func (.func 234) #[] #[vP b8]))]/\DI V7 V'/\Bi V' (some ⟨b8,0,none⟩) 0 [vI ne.Op,vI ne.N,vS ne.S,vL an ne.Aw kn]/\M'=[.row (.slice (some ⟨b1,0,none⟩) 1 1) [vS H.Name,vL a2 H.BH y,vL a3 H.CU z] 191 3,.row (.slice (some ⟨O,0,none⟩) 1 1) [vI 0] 3 1,.row (.slice (some ⟨W,0,none⟩) 1 1) [vI 0] 3 1,.row (.slice (some ⟨X,0,none⟩) 1 1) [vB false] 4 1,.row (.slice (some ⟨Z,0,none⟩) 1 1) [vI bb] 3 1]) ?_ Y ?_
  ·refine AD.run Aa 400 Y ?_;refine AD.ld Aa (x:=vi) Y Y aT Y ak.symm ?_;refine Yr.call Y (ak▸ANQ ar) ?_;rintro V8 _ al ⟨b8,rfl,ay⟩;exact rd
  clear s;rintro L' V8 M' a8 w8 ⟨b8,rfl,al,ay,rfl⟩ s;have aJ:=Br.mono al ar;show Code.wpIn _ _ _ _ _ _ _;have⟨vs,ah,aU⟩:=ALn aJ ay aS;refine wpIn_block ?_;have s2:=s.weaken (L':=[(2,sP O),(3,sP W),(4,sP X),(5,sP Z),(13,sL ae es ke),(14,sN es),(15,sI i)]) ⟨Y,Y,Y,Y,Y,Y,Y,Yt⟩;refine s2.AN9 (s.eval (s:=20) Y) AHb aU Y (by decide)
   (λpre V' M'=>∃b',M'=[.row (.slice (some ⟨b1,0,none⟩) 1 1) [vS H.Name,vL a2 H.BH y,vL a3 H.CU z] 191 3,.row (.slice (some ⟨O,0,none⟩) 1 1) [vI 0] 3 1,.row (.slice (some ⟨W,0,none⟩) 1 1) [vI 0] 3 1,.row (.slice (some ⟨X,0,none⟩) 1 1) [vB false] 4 1,.row (.slice (some ⟨Z,0,none⟩) 1 1) [vI b'] 3 1]/\∀tl,Li (Mu g i.toNat++((g i.toNat).take pre.length++tl)) 0=Li tl b') (λ_ _ _ _ _ h=>h) ⟨bb,Y,λtl=>by simpa using aE tl⟩
   (λV' M'=>∃xa xb o,M'=[.row (.slice (some ⟨b1,0,none⟩) 1 1) [vS H.Name,vL a2 H.BH y,vL a3 H.CU z] 191 3,.row (.slice (some ⟨O,0,none⟩) 1 1) [vI xa] 3 1,.row (.slice (some ⟨W,0,none⟩) 1 1) [vI xb] 3 1,.row (.slice (some ⟨X,0,none⟩) 1 1) [vB true] 4 1,o]/\Li ns 0=(xa,xb,true)) (λ_ _ _ _ h=>h)
   (λpre x L2 V' M'=>∃b' ne an kn,L2=[(2,sP O),(3,sP W),(4,sP X),(5,sP Z),(8,.ptr 5 0)]/\M'=[.row (.slice (some ⟨b1,0,none⟩) 1 1) [vS H.Name,vL a2 H.BH y,vL a3 H.CU z] 191 3,.row (.slice (some ⟨O,0,none⟩) 1 1) [vI 0] 3 1,.row (.slice (some ⟨W,0,none⟩) 1 1) [vI 0] 3 1,.row (.slice (some ⟨X,0,none⟩) 1 1) [vB false] 4 1,.row (.slice (some ⟨Z,0,none⟩) 1 1) [vI b'] 3 1,.Bp [sI ne.Op,sI ne.N,sS ne.S,sL an ne.Aw kn] 265]/\(∃rest,g i.toNat=(g i.toNat).take pre.length++ne::rest)/\∀tl,Li (Mu g i.toNat++((g i.toNat).take pre.length++tl)) 0=Li tl b') ?_ ?_ ?_ ?_
  ·
   rintro l aV pre x rest V9 M9 a9 w9 K hx ao ⟨b',rfl,ag⟩ s9 hK;obtain⟨ne,af,cs,aq,rfl,aW,_⟩:=IJ.at (hx▸ah);obtain⟨an,kn,rfl,_⟩:=DS.1 aW;refine s9.region (ro:=some l) (T:=NP) (fn:=Tryz.f197) (λL' V' M'=>L'=[(2,sP O),(3,sP W),(4,sP X),(5,sP Z),(8,.ptr 5 0)]/\V'=V9/\M'=[.row (.slice (some ⟨b1,0,none⟩) 1 1) [vS H.Name,vL a2 H.BH y,vL a3 H.CU z] 191 3,.row (.slice (some ⟨O,0,none⟩) 1 1) [vI 0] 3 1,.row (.slice (some ⟨W,0,none⟩) 1 1) [vI 0] 3 1,.row (.slice (some ⟨X,0,none⟩) 1 1) [vB false] 4 1,.row (.slice (some ⟨Z,0,none⟩) 1 1) [vI b'] 3 1,.Bp [sI ne.Op,sI ne.N,sS ne.S,sL an ne.Aw kn] 265]) ?_ Y ?_
   ·refine AD.run Aa 400 Y ?_;exact rd
   rintro L' ai M' aK aL ⟨rfl,rfl,rfl⟩ ad;exact hK _ _ _ _ _ (DI.refl _) ⟨b',ne,an,kn,Y,Y,⟨af,aq⟩,ag⟩ ad
  ·
   rintro l aV pre x rest L2 V9 M9 a9 w9 Q1 hx ao ⟨b',ne,an,kn,rfl,rfl,⟨af,aq⟩,ag⟩ s9 hQ aX;refine wpIn_block ?_;refine wpIn_seq ?_;refine wpIn_seq ?_;refine s9.region (ro:=some l) (T:=NP) (fn:=Tryz.f197) (λL' V' M'=>L'=[(2,sP O),(3,sP W),(4,sP X),(5,sP Z),(8,.ptr 5 0),(24,sB ((ne.Op==25||ne.Op==26)||ne.Op==27))]/\V'=V9/\M'=[.row (.slice (some ⟨b1,0,none⟩) 1 1) [vS H.Name,vL a2 H.BH y,vL a3 H.CU z] 191 3,.row (.slice (some ⟨O,0,none⟩) 1 1) [vI 0] 3 1,.row (.slice (some ⟨W,0,none⟩) 1 1) [vI 0] 3 1,.row (.slice (some ⟨X,0,none⟩) 1 1) [vB false] 4 1,.row (.slice (some ⟨Z,0,none⟩) 1 1) [vI b'] 3 1,.Bp [sI ne.Op,sI ne.N,sS ne.S,sL an ne.Aw kn] 265]) ?_ Y ?_
   ·refine AD.run Aa 400 Y ?_;refine AD.OJ (vB ((ne.Op==25||ne.Op==26)||ne.Op==27)) Y Y (PG ne.Op Y) ?_;exact rd
   clear s9;rintro L' ai M' aK aL ⟨rfl,rfl,rfl⟩ ad;show Code.wpIn _ _ _ _ _ _ _;refine wpIn_cond_split (ad.eval (s:=24) Y) (λhc=>?_) (λhc=>?_)
   case _=>
    refine wpIn_seq ?_;refine ad.drawn Aa (ro:=some l) (fn:=Tryz.f197) (λL' V' M'=>L'=[(2,sP O),(3,sP W),(4,sP X)]/\V'=ai/\M'=[.row (.slice (some ⟨b1,0,none⟩) 1 1) [vS H.Name,vL a2 H.BH y,vL a3 H.CU z] 191 3,.row (.slice (some ⟨O,0,none⟩) 1 1) [vI ne.Op] 3 1,.row (.slice (some ⟨W,0,none⟩) 1 1) [vI b'] 3 1,.row (.slice (some ⟨X,0,none⟩) 1 1) [vB true] 4 1,.row (.slice (some ⟨Z,0,none⟩) 1 1) [vI b'] 3 1]) [4,5] [1] [(0,true),(2,true),(1,false),(3,false),(4,false),(5,false)] kz ?_ Y ?_
    ·refine AD.run Aa 400 Y ?_;refine AD.Jw Aa 4 (l:=[vI b']) Y Y Y Y (by intro j v hj;simpa using hj) Y Y ?_;refine Yr.P6 1 Y (Ae Y) ?_;refine Yr.P6 2 Y (Ae Y) ?_;refine Yr.P6 3 Y (Ae Y) ?_;exact r5
    clear ad;rintro L' aY M' aZ ba ⟨rfl,rfl,rfl⟩ az;show Code.wpIn _ _ _ _ _ _ _;refine wpIn_ret ?_;refine aX _ _ _ _ _ (DI.refl _) ⟨_,_,_,Y,?_⟩ az;have⟨tl,bc⟩:=WX g (i:=i.toNat+1) (n:=es.length) ox;have h1:=ag (ne::af++tl);rw[aB,bc,MD,aq];simp only[CZ]at h1⊢;rw[h1];simp only[Li,NK];rw[if_pos hc]
   case _=>
    refine wpIn_skip ?_;show Code.wpIn _ _ _ _ _ _ _;refine ad.region (ro:=some l) (T:=NP) (fn:=Tryz.f197) (λL' V' M'=>L'=[(2,sP O),(3,sP W),(4,sP X),(5,sP Z)]/\V'=ai/\M'=[.row (.slice (some ⟨b1,0,none⟩) 1 1) [vS H.Name,vL a2 H.BH y,vL a3 H.CU z] 191 3,.row (.slice (some ⟨O,0,none⟩) 1 1) [vI 0] 3 1,.row (.slice (some ⟨W,0,none⟩) 1 1) [vI 0] 3 1,.row (.slice (some ⟨X,0,none⟩) 1 1) [vB false] 4 1,.row (.slice (some ⟨Z,0,none⟩) 1 1) [vI (AB (b'+1))] 3 1]) ?_ Y ?_
    ·refine AD.run Aa 400 Y ?_;refine AD.O5 Aa 4 (l:=[vI b']) Y Y Y (by intro j v hj;simpa using hj) Y Y ?_;refine Yr.P6 4 Y (Ae Y) ?_;exact r5
    clear ad;rintro L' aY M' aZ ba ⟨rfl,rfl,rfl⟩ az;refine hQ _ _ _ _ _ (DI.refl _) ⟨_,Y,λtl=>?_⟩ az;have h1:=ag (ne::tl);have ht:(g i.toNat).take (pre++[x]).length=(g i.toNat).take pre.length++[ne]:=by
     rw[AT];exact AKV aq
    rw[ht,CZ];rw[Ik,h1];simp only[Li];rw[if_neg (by rw[hc];simp)]
  ·
   rintro D V9 M9 a9 w9 hD ao ⟨b',rfl,ag⟩ s9;have bd:∀{a:List Value}{x:List Ak},IJ V8 a x->x.take a.length=x:=by
    intro a
    induction a with
    |nil=>intro x h;cases x with|nil=>rfl|cons=>exact h.elim
    |cons v a ih=>intro x h;cases x with|nil=>rfl|cons e x=>simp[ih h.2]
   have hw:IntKind.wrap .i64 (i+1)=i+1:=Vg ox ox;have ht:(i+1).toNat=i.toNat+1:=ox
   show Code.wpIn _ _ _ _ _ _ _;have ad:=s9;refine QJ.region ad (ro:=none) (T:=NP) (fn:=Tryz.f197) (λL' V' M'=>L'=[(2,sP O),(3,sP W),(4,sP X),(5,sP Z),(13,sL ae es ke),(14,sN es),(15,sI (i+1))]/\V'=V9/\M'=[.row (.slice (some ⟨b1,0,none⟩) 1 1) [vS H.Name,vL a2 H.BH y,vL a3 H.CU z] 191 3,.row (.slice (some ⟨O,0,none⟩) 1 1) [vI 0] 3 1,.row (.slice (some ⟨W,0,none⟩) 1 1) [vI 0] 3 1,.row (.slice (some ⟨X,0,none⟩) 1 1) [vB false] 4 1,.row (.slice (some ⟨Z,0,none⟩) 1 1) [vI b'] 3 1]) ?_ Y ?_
   ·refine AD.run Aa 400 Y ?_;rw[hw];exact rd
   rintro L' ai M' aK aL ⟨rfl,rfl,rfl⟩ ad;refine⟨⟨i+1,D::Ds,ai,b',⟨by omega,by omega⟩,⟨hD,av⟩,aD.trans (aI.trans (al.trans ao)),ad,λtl=>?_⟩,?_⟩
   ·rw[ht,MD,CZ,<- ag tl,bd ah]
   ·rw[ad.muS (s:=15) es.length Y];omega
  ·
   rintro D V9 M9 a9 w9 hD ao ⟨xa,xb,o,rfl,hr⟩ s9;have hl:=TS (FR:=JZ w) (Ds:=D::Ds) (T:=NP) (P:=Tryz.prog) (n:=1) (fn:=Tryz.f197) (rs:=[.cell 2 3,.cell 3 3,.cell 4 4]) (vs:=[vI xa,vI xb,vB true])
    (R:=λe w'=>∃v env V' M',e=.returned v/\FC V (JZ w) env V' M' w'/\v=.tuple ⟨[vI (Li ns 0).1,vI (Li ns 0).2.1,vB (Li ns 0).2.2]⟩) Aa Y ⟨hD,av⟩ s9 ⟨⟨_,1,_,_,_,_,_,Y,Y,Y,.inl ⟨Y,Y,Y⟩⟩,⟨_,2,_,_,_,_,_,Y,Y,Y,.inl ⟨Y,Y,Y⟩⟩,⟨_,3,_,_,_,_,_,Y,Y,Y,.inl ⟨Y,Y,Y⟩⟩,Yt⟩ (λenv w' hW=>⟨_,env,_,_,Y,hW,by rw[hr];rfl⟩)
   show LeavesInM _ _ _ _ _ _ (Act.defers _) _ _;rw[s9.df];exact hl
 case _=>
  have bj:(es.length:Int)<=i:=by simpa using hc
  refine wpIn_exit ?_;have hr:Li ns 0=(0,0,false):=by
   have:=aE [];rw[Du,show i.toNat=es.length by omega,<- aB]at this;rw[this];rfl
  show Code.wpIn _ _ _ _ _ _ _;refine wpIn_seq ?_;refine s.region (ro:=none) (T:=NP) (fn:=Tryz.f197) (λL' V' M'=>L'=[(2,sP O),(3,sP W),(4,sP X)]/\∃o1 o2,M'=[o1,.row (.slice (some ⟨O,0,none⟩) 1 1) [vI 0] 3 1,.row (.slice (some ⟨W,0,none⟩) 1 1) [vI 0] 3 1,.row (.slice (some ⟨X,0,none⟩) 1 1) [vB false] 4 1,o2]) ?_ Y ?_
  ·refine AD.run Aa 400 Y ?_;refine AD.P6 Aa 1 Y Y Y Y Y (Ae Y) Y Y Y ?_;refine Yr.P6 2 Y (Ae Y) ?_;refine Yr.P6 3 Y (Ae Y) ?_;exact rd
  clear s;rintro L' V7 M' a7 w7 ⟨rfl,o1,o2,rfl⟩ s;show Code.wpIn _ _ _ _ _ _ _;refine wpIn_ret ?_;have hl:=TS (FR:=JZ w) (Ds:=Ds) (T:=NP) (P:=Tryz.prog) (n:=1) (fn:=Tryz.f197) (rs:=[.cell 2 3,.cell 3 3,.cell 4 4]) (vs:=[vI 0,vI 0,vB false])
   (R:=λe w'=>∃v env V' M',e=.returned v/\FC V (JZ w) env V' M' w'/\v=.tuple ⟨[vI (Li ns 0).1,vI (Li ns 0).2.1,vB (Li ns 0).2.2]⟩) Aa Y av s ⟨⟨_,1,_,_,_,_,_,Y,Y,Y,.inl ⟨Y,Y,Y⟩⟩,⟨_,2,_,_,_,_,_,Y,Y,Y,.inl ⟨Y,Y,Y⟩⟩,⟨_,3,_,_,_,_,_,Y,Y,Y,.inl ⟨Y,Y,Y⟩⟩,Yt⟩ (λenv w' hW=>⟨_,env,_,_,Y,hW,by rw[hr];rfl⟩)
  show LeavesInM _ _ _ _ _ _ (Act.defers _) _ _;rw[s.df];exact hl
def F2(N:Ak)(y:AQ->Ak->AA ((Except Gk Ah)×AQ))(X:(List Ah)->AQ->AA ((Except Gk Ah)×AQ)):Nat->(List Ah)->Int->AQ->AA ((Except Gk Ah)×AQ)
 |0,_,_,_=>none|aa+1,H,z,O=>cond (decide (z<(N.Aw.length:Int))) (Ba (0<=z/\z<(N.Aw.length:Int)) (Az (y O (AN N.Aw z)) λK=>I9 K.1 (λZ=>some ((.error Z),K.2)) λW=>Ba ((H++[W]).length*32<=140737488355328) (F2 N y X aa (H++[W]) (AB (z+1)) (K.2)))) (X H O)
def Lm(y:AQ->Ak->AA ((Except Gk Ah)×AQ))(O:AQ)(z:Ak):AA ((Except Gk Ah)×AQ):=
 (cond (z.Op==1) (Az (GY z.N) λae=>some ((.ok ae),O)) (cond (z.Op==2) (some ((.ok (⟨2,0,z.S⟩:Ah)),O)) (cond (z.Op==3) (Az (CI ((D4 z.S O.vars).isSome)) λaf=>I9 af (λag=>some ((.error ag),O)) λal=>some ((.ok ((D4 z.S O.vars).getD (default:Ah))),O)) (jn (λ(H:List Ah)(K:AQ)=>cond ((H.length:Int)==1) (Ba (0<=(0:Int)/\0<(H.length:Int)) (Az (IP K z.Op (AN H 0)) λW=>I9 W.1 (λah=>some ((.error ah),W.2)) λai=>some ((.ok ai),W.2))) (cond ((H.length:Int)==2) (Ba (0<=(0:Int)/\0<(H.length:Int)) (Ba (0<=(1:Int)/\1<(H.length:Int)) (Az (LU z.Op (AN H 0) (AN H 1)) λX=>I9 X (λZ=>some ((.error Z),K)) λaa=>some ((.ok aa),K)))) (Az (CR 1009) λab=>I9 ab (λad=>some ((.error ad),K)) λak=>some ((.ok (⟨0,0,[]⟩:Ah)),K)))) (λaj=>F2 z y aj ((z.Aw.length:Int).toNat+1) ([]:List Ah) 0 O)))))
def HJ(g:AQ->Ak->AA ((Except Gk Ah)×AQ)):Prop:=∀{V:AM}(X:AQ)(z:Ak){W H K:Nat}{Z:List OB}{O:AA Addr}{Nf:Nat}(aa:Dc V W H K X Z)(ab:AK Br V O Nf z.Aw)(ad:Hz V){r:(Except Gk Ah)×AQ},g X z=some r->GP Tryz.prog 201 [vP W,.agg ⟨[vI z.Op,vI z.N,vS z.S,vL O z.Aw Nf]⟩] Z V (λV' e M'=>Dc V' W H K r.2 M'/\e=Pv 246 (λ(y:Ah)=>(.agg ⟨[vI y.BD,vI y.N,vS y.S]⟩:Value)) r.1)
theorem TR{H:AQ->Ak->AA ((Except Gk Ah)×AQ)}(W:HJ H):HJ (Lm H):=by
 intro V K z b2 al aI M2 ae Nf bO bP bQ r U;obtain⟨a3,k3,a4,k4,a5,k5,a6,k6,bp,a7,k7,bq,a8,k8,br,a9,k9,bs,rfl,h3,h4,h5,h6,h7,h8,h9⟩:=bO;refine sx Tryz.func201 ?_;refine B4 U Y (λ_ U=>?_) λhb U=>?_
 ·refine Yr.cb U Y (Mj z.N) λcg U=>?_;exact rt
 ·refine i1 U λhb U=>?_;refine B4 U Y (λ_ U=>?_) λhb U=>?_
  ·refine Yr.E2 [] [] (pm 6 0 63) Y ?_;refine Yr.Jw (l:=[.map (some al)]) 0 Y (Ar Y) ?_;refine xr Y (Nd 6 10 [(7,true),(8,true),(9,true),(10,false)] [(6,false),(7,true),(8,true),(9,true)] [(11,false),(12,true)] (λlr' L' V' M'=>lr'=[]/\L'=[(4,.ptr 8 0),(5,.ptr 9 0),(32,.v (.agg ⟨[vI (((D4 z.S K.vars).getD (default:Ah)).BD),vI (((D4 z.S K.vars).getD (default:Ah)).N),vS ((D4 z.S K.vars).getD (default:Ah)).S]⟩)),(33,sB (D4 z.S K.vars).isSome)]/\M'=[.row (.slice (some ⟨b2,0,none⟩) 1 1) [vL a3 K.state k3,vB K.DN.G7,vL a4 K.DN.Am k4,vL a5 K.DN.AX k5,.map (some al),.map (some aI),vI K.AS.Ad.DY,vI K.AS.Ad.Code,vL a6 K.AS.Ad.Out k6,vL a7 K.AS.Am k7,vL a8 K.AS.DB k8,vL a9 K.AS.AX k9,vS K.AS.NG,vI K.AS.Steps] 243 14,.ext (FN (λ(y:Ah)=>(.agg ⟨[vI y.BD,vI y.N,vS y.S]⟩:Value)) al K.vars),.ext (FN (λ(y:Ah)=>(.agg ⟨[vI y.BD,vI y.N,vS y.S]⟩:Value)) aI K.own),.row (vL a6 K.AS.Ad.Out k6) bp 60 3,.row (vL a7 K.AS.Am k7) bq 9 1,.row (vL a8 K.AS.DB k8) br 9 1,.row (vL a9 K.AS.AX k9) bs 62 4,.Bp [sI z.Op,sI z.N,sS z.S,sL ae z.Aw Nf] 265,.Bp [sI 0,sI 0,sS []] 60,.Bp [sI 0,sI 0,sS []] 60]/\AF DQ V' K.AS.Ad.Out bp/\AF Bf V' K.AS.Am bq/\AF Bf V' K.AS.DB br/\AF Au V' K.AS.AX bs/\AK Br V' ae Nf z.Aw/\Hz V'/\AK Au V' a3 k3 K.state/\AK Bf V' a4 k4 K.DN.Am/\AK Bf V' a5 k5 K.DN.AX) 2 [true,true,true,true,true,true,true,true,true,true,true,false,false] Y kz Y Y kz kz kz kz (λjoin=>?_) (λjoin=>?_) ?_)
   ·have bt:((D4 z.S K.vars).map (λ(y:Ah)=>(.agg ⟨[vI y.BD,vI y.N,vS y.S]⟩:Value))).getD (.agg ⟨[vI 0,vI 0,vS []]⟩)=.agg ⟨[vI (((D4 z.S K.vars).getD (default:Ah)).BD),vI (((D4 z.S K.vars).getD (default:Ah)).N),vS ((D4 z.S K.vars).getD (default:Ah)).S]⟩:=by cases D4 z.S K.vars<;>rfl
    refine xr Y (Po 1 Y Y Y Tryz.underlying241 Tryz.underlying9 (RL kz) Y Y bt Y ?_);refine xr Y ?_;exact join [0,1,2,3,4,5,6,7,8,9] (lr':=[]) (L':=[(4,.ptr 8 0),(5,.ptr 9 0),(32,.v (.agg ⟨[vI (((D4 z.S K.vars).getD (default:Ah)).BD),vI (((D4 z.S K.vars).getD (default:Ah)).N),vS ((D4 z.S K.vars).getD (default:Ah)).S]⟩)),(33,sB (D4 z.S K.vars).isSome)]) Y Y Y Y ⟨⟨_,Y,Y⟩,⟨_,Y,Y⟩,⟨_,Y,Y⟩,⟨_,Y,Y⟩,Yt⟩ Yt tu
   ·have bu:((D4 z.S K.vars).map (λ(y:Ah)=>(.agg ⟨[vI y.BD,vI y.N,vS y.S]⟩:Value))).getD (.agg ⟨[vI 0,vI 0,vS []]⟩)=.agg ⟨[vI (((D4 z.S K.vars).getD (default:Ah)).BD),vI (((D4 z.S K.vars).getD (default:Ah)).N),vS ((D4 z.S K.vars).getD (default:Ah)).S]⟩:=by cases D4 z.S K.vars<;>rfl
    refine xr Y (Po 1 Y Y Y Tryz.underlying241 Tryz.underlying9 (RL kz) Y Y bu Y ?_);refine xr Y ?_;exact join [0,1,2,3,4,5,6,7,8,9] (lr':=[]) (L':=[(4,.ptr 8 0),(5,.ptr 9 0),(32,.v (.agg ⟨[vI (((D4 z.S K.vars).getD (default:Ah)).BD),vI (((D4 z.S K.vars).getD (default:Ah)).N),vS ((D4 z.S K.vars).getD (default:Ah)).S]⟩)),(33,sB (D4 z.S K.vars).isSome)]) Y Y Y Y ⟨⟨_,Y,Y⟩,⟨_,Y,Y⟩,⟨_,Y,Y⟩,⟨_,Y,Y⟩,Yt⟩ Yt tu
   rintro lr' L' _ M' ⟨rfl,rfl,rfl,_,_,_,_,_,_,_,_,_⟩;refine xr Y ?_;have⟨_,aJ,U⟩:=AO U;rcases EM U with⟨_,an,U⟩|⟨_,an,U⟩
   ·refine Y.GC [] Y (CB ((D4 z.S K.vars).isSome) aJ) an ?_;rintro _ _ _ rfl;cases U;exact tu
   refine Y.GB [] Y (CB ((D4 z.S K.vars).isSome) aJ) an ?_;rintro _ _ _ rfl;refine⟨_,Y,?_⟩;exact rt
  ·refine AD.run Aa 14 Y ?_;refine AD.Eh 60 3 Y ?_;have bR:AF DQ V ([]:List Ah) []:=AF.nil;refine sn U (λaZ L' V' M'=>∃(O:List Ah),∃ba bb ao,∃(aq:AQ),∃bc bd bf bg bh bj bw bx ar bz b0 au b1 b3 av b4 b5 aw,L'=[(0,sP b2),(3,.ptr 7 0),(4,.ptr 8 0),(7,sL ba O bb)]/\M'=mR b2 al aI aq bc bd bf bg bh bj bw bx ar bz b0 au b1 b3 av b4 b5 aw [.Bp [sI z.Op,sI z.N,sS z.S,sL ae z.Aw Nf] 265,.Bp [sI 0,sI 0,sS []] 60,.row (vL ba O bb) ao 60 3]/\AF DQ V' O ao/\mJ V' aq bc bd bf bg bh bj ar au av aw/\AK Br V' ae Nf z.Aw/\Hz V'/\aZ O aq=some r) Y ?_ λaZ U=>?_
   ·rintro L' _ M' ⟨O,ba,bb,ao,aq,bc,bd,bf,bg,bh,bj,bw,bx,ar,bz,b0,au,b1,b3,av,b4,b5,aw,rfl,rfl,bk,⟨_,_,_,_,_,_,_⟩,_,bS,U⟩;refine B4 U Y (λ_ U=>?_) λhb U=>?_
    ·refine Yr.E2 [7] [0,1,2,3,4,5,6] (pm 8 0 63) Y ?_;have⟨b6,U⟩:=AL U;refine xr Y (CX 9 Y (λbU b7 bV=>?_));obtain⟨_,rfl,b8⟩:=AF.get bk b6;have aK:0<=(0:Int)/\0<(O.length:Int):=b6;have aL:=b7 ox;refine AD.Qp Aa Y Y Y ⟨aK.1,aK.2,aL⟩ ?_;refine xr Y (Hp Aa 9 (x:=.agg ⟨[vI ((AN O 0).BD),vI ((AN O 0).N),vS (AN O 0).S]⟩) Y Y Y Y ⟨b8,aL⟩ Y Y ?_);refine xr Y ?_;have⟨_,b9,U⟩:=AO U;refine Y.cx U [0,1,2,3,4,5,6] Y (TE aq z.Op (AN O 0) tu bS b9) (λch bW U=>?_);rintro _ _ _ ⟨_,_,_,_,_,_,_,_,_,_,_,_,_,_,_,_,_,_,rfl,_,_,_,_,_,_,_⟩;refine⟨_,Y,?_⟩;exact rt
    ·refine B4 U Y (λ_ U=>?_) λ_ U=>?_
     ·refine Yr.DU (pm 10 0 255) Y ?_;have⟨bA,U⟩:=AL U;refine xr Y (CX 9 Y (λbX bB bY=>?_));obtain⟨_,rfl,bC⟩:=AF.get bk bA;have aM:0<=(0:Int)/\0<(O.length:Int):=bA;have aN:=bB ox;refine AD.Qp Aa Y Y Y ⟨aM.1,aM.2,aN⟩ ?_;refine xr Y (Hp Aa 9 (x:=.agg ⟨[vI ((AN O 0).BD),vI ((AN O 0).N),vS (AN O 0).S]⟩) Y Y Y Y ⟨bC,aN⟩ Y Y ?_);have⟨bD,U⟩:=AL U;refine xr Y (CX 9 Y (λbZ bE ca=>?_));obtain⟨_,rfl,bF⟩:=AF.get bk bD;have aO:0<=(1:Int)/\1<(O.length:Int):=bD;have aP:=bE ox;refine AD.Qp Aa Y Y Y ⟨aO.1,aO.2,aP⟩ ?_;refine xr Y (Hp Aa 9 (x:=.agg ⟨[vI ((AN O 1).BD),vI ((AN O 1).N),vS (AN O 1).S]⟩) Y Y Y Y ⟨bF,aP⟩ Y Y ?_);refine xr Y ?_;have⟨_,ax,U⟩:=AO U;rcases EM U with⟨_,af,U⟩|⟨_,af,U⟩
      ·refine Y.GC [] Y (Th z.Op (AN O 0) (AN O 1) ax) af ?_;rintro _ _ _ rfl;cases U;exact tu
      refine Y.GB [] Y (Th z.Op (AN O 0) (AN O 1) ax) af ?_;rintro _ _ _ rfl;refine⟨_,Y,?_⟩;exact rt
     ·refine xr Y ?_;have⟨_,ay,U⟩:=AO U;rcases EM U with⟨_,ag,U⟩|⟨_,ag,U⟩
      ·refine Y.GC [] Y (Co 1009 ay) ag ?_;rintro _ _ _ rfl;cases U;exact tu
      refine Y.GB [] Y (Co 1009 ay) ag ?_;rintro _ _ _ rfl;refine⟨_,Y,?_⟩;exact rt
   ·refine lq (λaQ L' V' M'=>∃(Z:List Ah),∃az a1 aa,∃(X:Int)(ab:AQ),∃aA aB aC aD aE aF aR aS ah aT aU ai aV aW aj aX aY ak,L'=[(0,sP b2),(3,.ptr 7 0),(4,.ptr 8 0),(7,sL az Z a1),(38,sL ae z.Aw Nf),(39,sN z.Aw),(40,sI X)]/\M'=mR b2 al aI ab aA aB aC aD aE aF aR aS ah aT aU ai aV aW aj aX aY ak [.Bp [sI z.Op,sI z.N,sS z.S,sL ae z.Aw Nf] 265,.Bp [sI 0,sI 0,sS []] 60,.row (vL az Z a1) aa 60 3]/\AF DQ V' Z aa/\mJ V' ab aA aB aC aD aE aF ah ai aj ak/\AK Br V' ae Nf z.Aw/\Hz V'/\F2 z H aZ aQ Z X ab=some r) Y ⟨_,_,_,_,_,_,_,_,_,_,_,_,_,_,_,_,_,_,_,_,_,_,_,_,Y,Y,bR,⟨h3,h4,h5,h6,h7,h8,h9⟩,bP,bQ,U⟩ ?_;rintro aQ L' _ M' ⟨Z,az,a1,aa,X,ab,aA,aB,aC,aD,aE,aF,aR,aS,ah,aT,aU,ai,aV,aW,aj,aX,aY,ak,rfl,rfl,bG,⟨_,_,_,_,_,_,_⟩,bH,bI,U⟩;refine i4 U λ_ U=>?_;have⟨aG,U⟩:=AL U;have⟨_,bl,aH⟩:=AK.get bH aG;obtain⟨bJ,bK,rfl,bL⟩:=(DS.1 bl);refine Yr.ia Y ⟨aG.1,aG.2,aH.some⟩ ?_;refine Yr.ld (x:=.agg ⟨[vI ((AN z.Aw X).Op),vI ((AN z.Aw X).N),vS (AN z.Aw X).S,vL bJ (AN z.Aw X).Aw bK]⟩) Y aH Y ?_;refine xr Y ?_;have⟨_,bm,U⟩:=AO U;refine Y.cx U [0,1,2,3,4,5,6] Y (W ab (AN z.Aw X) tu bL bI bm) (λad bT U=>?_);rintro bn _ bo ⟨_,_,_,_,_,_,_,_,_,_,_,_,_,_,_,_,_,_,rfl,_,_,_,_,_,_,_⟩;have bM:=AF.mono bo bG;refine⟨_,Y,?_⟩;refine Yr.RV Y ?_;have⟨bN,U⟩:=AL U;refine Yr.app (nm:=(Z++[ad]).length) 9 11 Y zp (λ_ _=>Y) bN (λcc cd=>?_);have cf:AF DQ bn (Z++[ad]) (aa++[vI ad.BD,vI ad.N,vS ad.S]):=AF.app bM ⟨_,_,Y,Y,Y⟩;exact SO 10 Y
def BZ:Nat->AQ->Ak->AA ((Except Gk Ah)×AQ)
 |0,_,_=>none|n+1,z,y=>Lm (BZ n) z y
theorem TN:∀n:Nat,HJ (BZ n):=by
 intro n
 induction n with
 |zero=>unfold HJ;intros;rename_i h;simp[BZ]at h|succ n y=>exact TR y
theorem C7:HJ (BZ n):=TN n
end Go.Proofs.YthjnkknigpkldaaGreatDoor
