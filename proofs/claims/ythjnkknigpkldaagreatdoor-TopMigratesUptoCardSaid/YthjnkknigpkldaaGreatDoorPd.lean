/-
  A part of the proof that the statement TopMigratesUptoCardSaid holds (Hb Hc Hd He Hf Hg).
  Conditions: none.
-/
import Derived.Test.YthjnkknigpkldaaGreatDoorPc
set_option linter.all false
set_option maxRecDepth 100000
set_option maxHeartbeats 4000000
namespace Go.Proofs.YthjnkknigpkldaaGreatDoor
variable {V:AM} {y c z o0 N W ab ai aA:Nat} {cs O ds:List Value} {r:Bool}
def Jj(y:AI)(z:Int)(H:Bc):AA AI:=
 (Ba (0<=(y.AG.length:Int)/\(y.AG.length:Int)<=(y.AG.length:Int)) (Ba (56*(y.AG.length:Int).toNat<=281474976710656) (Ba (0<=z/\z<((cpL y.AG (AH (y.AG.length:Int).toNat (default:Bc))).length:Int)) (some (⟨(AB (y.Ax+1)),((cpL y.AG (AH (y.AG.length:Int).toNat (default:Bc))).set z.toNat H)⟩:AI)))))
theorem Rb(z:AI)(N:Int)(x4:Bc){a2:AA Addr}(h2:AK BS V a2 y z.AG){r:AI}(U:Jj z N x4=some r):Sp 84 [vA (S2 z a2 y),vI N,vA (gv7 x4)] V (λV' v=>∃O O6,v=vA (S2 r O O6)/\AK BS V' O O6 r.AG):=by
 refine se Tryz.func84 ?_;have⟨q5,U⟩:=AL U;have⟨q6,U⟩:=AL U;refine xr Y (LG Aa Y Y Y Y (nm:=(AH (z.AG.length:Int).toNat (default:Bc)).length) zp q5 q6 (λ_=>Y) (λa7=>?_));have h7:AF BS V (AH (z.AG.length:Int).toNat (default:Bc)) ((AH (AH (z.AG.length:Int).toNat (default:Bc)).length [vI 0,vS [],vI 0,vI 0,vS []]).flatten):=by rw[Fi];exact Ns (c:=BS) Y _
 refine xr Y (AAZ Aa (cd:=BS) 3 Y Y Y Y Y Y h7 Y h2 Y (λ_=>Y) Y (λW h8=>?_));have⟨q9,U⟩:=AL U;refine xr Y (CX 3 Y (λag X ah=>?_));obtain⟨_,rfl,_⟩:=AF.get h8 q9;have H:0<=N/\N<((AH (z.AG.length:Int).toNat (default:Bc)).length:Int):=(by simpa using q9);have K:=X ox;refine AD.ia Aa Y Y ⟨H.1,H.2,K⟩ ?_;have Z:=AF.len h8;have af:AF BS V ((cpL z.AG (AH (z.AG.length:Int).toNat (default:Bc))).set N.toNat x4) (W.take (N.toNat*5)++(gv7 x4)++W.drop ((N.toNat*5)+5)):=AF.set h8 q9 Y;refine Yr.Zr 3 Y K (stB q9 Z) Y (Yr.QY 3 Y (λai aa ab ad=>?_));have ae:=BV af aa ab (Cf (Vf zp) ad);obtain rfl:=Bt U;exact Y.ret Y ⟨_,_,(by simp[UC]),ae⟩
theorem OA(x:List B3){a:AA Addr}(O:AF DO V x cs){i j:Int}(y:0<=i/\i<=j/\j<=(x.length:Int))(hx:x.length<9223372036854775808):MJ Tryz.prog 104 [.slice a x.length c,.int .i64 i,.int .i64 j] ⟨.slice a x.length c,cs,183,5⟩ V (λV' v r'=>∃N,v=.slice a (x.take i.toNat++x.drop j.toNat).length c/\r'=⟨.slice a (x.take i.toNat++x.drop j.toNat).length c,N,183,5⟩/\AF DO V' (x.take i.toNat++x.drop j.toNat) N):=by
 have K:=O.AA2;have aa:DO.sz=5:=Y;refine MJ.enter (T:=NP) Tryz.func104 Y kz Y Y Y ?_;refine MZ 0 Y (λr1 r2 r3 r4 r5=>?_);have r1:cs.length=x.length*5:=r1;refine xr Y (ABq Aa Y Y Y Y Y Y Y ⟨y.1,y.2.1,y.2.2,by omega⟩ Y Y Y ?_);refine xr Y ?_;cases X:(i==j)
 ·have ab:i<j:=by simp at X;omega
  refine CY Y Y ?_;refine xr Y ?_;obtain⟨g,rfl⟩:∃g,a=some ⟨g,0,none⟩:=by
   cases a with
   |none=>have:=(r4 Y).1;omega|some p=>obtain⟨g,rfl⟩:=r5 p Y;exact⟨g,Y⟩
  refine AD.E2 Aa [] [0] (pm 8 0 63) kz ?_;refine xr Y (IF Aa Y Y Y (lo:=0) (hi:=i) Y Y ⟨by decide,y.1,by omega⟩ (lo':=0) Y (n':=i.toNat) ox (c':=c) ox ?_);refine xr Y (IF Aa Y Y Y (lo:=j) (hi:=(x.length:Int)) Y Y ⟨by omega,y.2.2,by omega⟩ Y (n':=x.length-j.toNat) ox Y ?_);have e0:Em (some ⟨g,0,none⟩) c 0 5=some ⟨g,0,none⟩:=by simp[Em,Addr.add_lit]
  have z:∃ad,Em (some ⟨g,0,none⟩) c j.toNat 5=some ad/\Src [.row (.slice (some ⟨g,0,none⟩) x.length c) cs 183 5] V (Em (some ⟨g,0,none⟩) c j.toNat 5) (cs.drop (j.toNat*5)):=by
   by_cases Z:c=j.toNat
   ·have:cs.drop (j.toNat*5)=[]:=by rw[T1];omega
    rw[this];simp only[Em,if_pos Z];exact⟨_,Y,.nil _⟩
   ·simp only[Em,if_neg Z,Bq,Addr.add_lit,Bo];exact⟨_,Y,.row 0 Y (λjj v hv=>by rwa[DT]at hv)⟩
  have⟨ad,W,z⟩:=z;refine xr Y (AGP Aa 0 Y Y Y e0 Y W Y z (by simp;omega) ox (λu hu=>K u (DK hu)) K Y Y Y ?_);refine xr Y (Y8 0 (i.toNat+(x.length-j.toNat)) Y ox Y Y ?_);refine HD Aa Y Y (lo:=((i.toNat+(x.length-j.toNat):Nat):Int)) (hi:=(x.length:Int)) Y Y ⟨by omega,by omega,by omega⟩ (lo':=i.toNat+(x.length-j.toNat)) ox Y Y (xr Y (ABv Aa 0 Y Y Y Y ?_ Y ?_ Y (Nat.le_refl _) ?_ Y Y ?_))
  ·decide
  ·simp only[Em];rw[if_neg ox];simp only[Bq,Addr.add_lit,Bo]
  ·show(i.toNat+(x.length-j.toNat))*5+((x.length:Int).toNat-(i.toNat+(x.length-j.toNat)))*5<=c*5;omega
  refine xr Y ?_;have hlen:(x.take i.toNat++x.drop j.toNat).length=i.toNat+(x.length-j.toNat):=by simp;omega
  rw[hlen];refine Y.ret Y ?_;dsimp only;refine OV.at 0 Y ⟨_,Y,Y,?_⟩;have H:(cs.take (i.toNat*5)++cs.drop (j.toNat*5)++cs.drop (i.toNat*5+(cs.drop (j.toNat*5)).length)).take ((i.toNat+(x.length-j.toNat))*5)=cs.take (i.toNat*5)++cs.drop (j.toNat*5):=by
   rw[Ut];simp only[AT,Ao,Bj];omega
  rw[H];exact(O.take i.toNat).app (O.drop j.toNat)
 ·have he:i=j:=by simpa using X
  refine CT Y Y ?_;refine xr Y ?_;subst he;rw[Dq];refine Y.ret Y ?_;dsimp only;exact OV.at 0 Y ⟨cs,Y,Y,O⟩
def JE(y:B3)(z:Int)(H:Int)(K:Int):AA Bool:=
 (some (((y.Is==z)&&(y.BU==H))&&(y.To==K)))
theorem Tv(H:B3)(K:Int)(O:Int)(X:Int){a2:AA Addr}{a3:AA Addr}(h2:AK Bf V a2 y H.Keys)(h3:AK Au V a3 z H.BF)(Z:Bi V (some ⟨N,o0,none⟩) 0 [vI K])(aa:Bi V (some ⟨W,ab,none⟩) 0 [vI O])(ad:Bi V (some ⟨ai,aA,none⟩) 0 [vI X])(U:JE H K O X=some r):Sp 106 [vA (XW H a2 y a3 z),.pointer (some ⟨N,o0,none⟩),.pointer (some ⟨W,ab,none⟩),.pointer (some ⟨ai,aA,none⟩)] V (λ_ v=>v=vB r):=by
 refine se Tryz.func106 ?_;exact Yr.ld (x:=vI K) Y Z Y (Yr.ld (x:=vI O) Y (λ_=>aa) Y (Yr.ld (x:=vI X) Y (λ_=>ad) Y rt))
def Lr(y z:A9):AA Int:=some (Go.Lib.compareBytes y z)
theorem RZ(y z:A9){r:Int}(U:Lr y z=some r):Sp 111 [vS y,vS z] V (λ_ v=>v=vI r):=by
 cases U;exact Spec.pure ⟨_,Tryz.func111,by kernel_rfl,by kernel_rfl⟩ (λw=>Tryz.strings_Compare ⟨⟨y⟩⟩ ⟨⟨z⟩⟩ w)
def Ej(z:A9)(K:Int->AA Bool)(N:AA Bool):Nat->Int->AA Bool
 |0,_=>none|O+1,y=>cond (decide (y<(z.length:Int))) (Ba (0<=y/\y<(z.length:Int)) (Az (K (B0 z y.toNat)) λH=>cond (!H) (some false) (Ej z K N O (AB (y+1))))) N
def JS(y:A9)(z:Int->AA Bool):AA Bool:=
 (cond (decide (24<(y.length:Int))) (some false) (jn (some true) (λH=>Ej y z H ((y.length:Int).toNat+1) 0)))
theorem Tg(z:A9)(H:Int->AA Bool)(X:Hq Tryz.prog y O V (λ(aa:Int)=>.int .u8 aa) (λ(r:Bool)=>vB r) H)(U:JS z H=some r):Sp 112 [vS z,.func (.func y) #[] ⟨O⟩] V (λ_ v=>v=vB r):=by
 refine se Tryz.func112 ?_;refine i1 U λZ U=>?_;refine sj 8 U Y λJ4 U=>?_;refine lq (λW L' V' M'=>∃(K:Int),L'=[(0,sS z),(1,.v (.func (.func y) #[] ⟨O⟩)),(10,sN z),(11,sI K)]/\M'=[]/\Hq Tryz.prog y O V' (λ(aa:Int)=>.int .u8 aa) (λ(r:Bool)=>vB r) H/\Ej z H J4 W K=some r) Y tu ?_;rintro W L' _ M' ⟨K,rfl,rfl,h9,U⟩;refine i4 U λZ U=>?_;have⟨N,U⟩:=AL U;refine xr Y (Mq Aa Y Y N ?_);refine Yr.cb U Y h9.at λab U=>?_;exact B4 U Y (λ_ U=>rt) λ_ U=>rd
def Kh(y:Int):AA Bool:=
 (some (((((((decide (97<=y))&&(decide (y<=122)))||((decide (48<=y))&&(decide (y<=57))))||(y==47))||(y==46))||(y==95))||(y==45)))
theorem ABd(y:Int)(U:Kh y=some r):Sp 113 [.int .u8 y] V (λ_ v=>v=vB r):=by
 refine se Tryz.func113 ?_;exact rt
def Eu(z:A9)(H:AA Bool):Nat->Int->AA Bool
 |0,_=>none|K+1,y=>cond (decide (y<(z.length:Int))) (Ba (0<=y/\y<(z.length:Int)) (Ba (((decide ((B0 z y.toNat)<32))==false)=true->0<=y/\y<(z.length:Int)) (cond ((decide ((B0 z y.toNat)<32))||(decide (126<(B0 z y.toNat)))) (some false) (Eu z H K (AB (y+1)))))) H
def KD(y:A9):AA Bool:=
 (jn (some (decide ((y.length:Int)<=(64:Int)))) (λz=>Eu y z ((y.length:Int).toNat+1) 0))
theorem ACP(y:A9)(U:KD y=some r):Sp 114 [vS y] V (λ_ v=>v=vB r):=by
 unfold KD at U;refine se Tryz.func114 ?_;refine AD.run Aa 9 Y ?_;refine sn U (λz L' V' M'=>L'=[(0,sS y)]/\M'=[]/\z=some r) Y ?_ λz U=>?_
 ·rintro L' _ M' ⟨rfl,rfl,U⟩;exact rt
 ·refine lq (λN L' V' M'=>∃(H:Int),L'=[(0,sS y),(3,sI H)]/\M'=[]/\Eu y z N H=some r) Y tu ?_;rintro N L' _ M' ⟨H,rfl,rfl,U⟩;refine i4 U λX U=>?_;have⟨O,U⟩:=AL U;refine xr Y (Mq Aa Y Y O ?_);have⟨W,U⟩:=AL U;refine xr Y (Mq Aa Y Y (λK=>W (Bv K)) ?_);exact B4 U Y (λ_ U=>rt) λ_ U=>rd
def Mn(y:Bc)(z:Int):AA Bool:=
 (some (y.Id==z))
theorem Yy(K:Bc)(z:Int)(H:Bi V (some ⟨y,o0,none⟩) 0 [vI z])(U:Mn K z=some r):Sp 128 [vA (gv7 K),.pointer (some ⟨y,o0,none⟩)] V (λ_ v=>v=vB r):=by
 refine se Tryz.func128 ?_;exact Yr.ld (x:=vI z) Y H Y rt
def D2(z:List Int)(H:Int)(K:AA Int):Nat->Int->AA Int
 |0,_=>none|N+1,y=>cond (decide (y<(z.length:Int))) (Ba (0<=y/\y<(z.length:Int)) (cond (H==(AN z y)) (some y) (D2 z H K N (AB (y+1))))) K
def IL(y:List Int)(z:Int):AA Int:=
 (jn (some (-1:Int)) (λH=>D2 y z H ((y.length:Int).toNat+1) 0))
theorem TB(z:List Int)(N:Int){a2:AA Addr}(h2:AK (CD .i64) V a2 y z){r:Int}(U:IL z N=some r):Sp 132 [vL a2 z y,vI N] V (λ_ v=>v=vI r):=by
 unfold IL at U;refine se Tryz.func132 ?_;refine sj 11 U Y λX U=>?_;refine lq (λW L' V' M'=>∃(O:Int),L'=[(0,sL a2 z y),(1,sI N),(7,sN z),(8,sI O)]/\M'=[]/\AK (CD .i64) V' a2 y z/\D2 z N X W O=some r) Y tu ?_;rintro W L' _ M' ⟨O,rfl,rfl,Z,U⟩;refine i4 U λhb U=>?_;have⟨K,U⟩:=AL U;obtain⟨_,rfl,H⟩:=AK.get Z K;exact Yr.ia Y ⟨K.1,K.2,H.some⟩ (Yr.ld (x:=vI (AN z O)) Y H Y (B4 U Y (λ_ U=>rt) λ_ U=>rd))
def F0(z:List A1)(H:AA Bool):Nat->Int->AA Bool
 |0,_=>none|K+1,y=>cond (decide (y<(z.length:Int))) (Ba (0<=y/\y<(z.length:Int)) (Ba ((((decide (0<y))==true)&&((decide ((AN z y).Is<0))==false))=true->0<=(AB (y-1))/\(AB (y-1))<(z.length:Int)) (cond ((decide ((AN z y).Is<0))||((decide (0<y))&&(decide ((AN z y).Is<=(cond (((decide (0<y))==true)&&((decide ((AN z y).Is<0))==false)) (AN z (AB (y-1))) default).Is)))) (some false) (F0 z H K (AB (y+1)))))) H
def Ft(y:List A1):AA Bool:=
 (jn (some true) (λz=>F0 y z ((y.length:Int).toNat+1) 0))
theorem Ov(z:List A1){a2:AA Addr}(h2:AK BX V a2 y z)(U:Ft z=some r):Sp 133 [vL a2 z y] V (λ_ v=>v=vB r):=by
 unfold Ft at U;refine se Tryz.func133 ?_;refine sj 11 U Y λJ3 U=>?_;refine lq (λn6 L' V' M'=>∃(N:Int),L'=[(0,sL a2 z y),(5,sL a2 z y),(6,sN z),(7,sI N)]/\M'=[]/\AK BX V' a2 y z/\F0 z J3 n6 N=some r) Y tu ?_;rintro n6 L' _ M' ⟨N,rfl,rfl,h8,U⟩;refine i4 U λhb U=>?_;have⟨Z,U⟩:=AL U;obtain⟨_,rfl,O⟩:=AK.get h8 Z;refine Yr.ia Y ⟨Z.1,Z.2,O.some⟩ (Yr.ld (x:=vA (XU (AN z N))) Y O Y (Yr.DU (pm 18 0 262143) Y ?_));have⟨X,U⟩:=AL U;obtain⟨_,rfl,W⟩:=AK.OG (((decide (0<N))==true)&&((decide ((AN z N).Is<0))==false)) h8 X;exact Yr.Qp Y (λH K=>⟨(X (Dr H K)).1,(X (Dr H K)).2,(W (Dr H K)).some⟩) (Yr.P8 (x:=vI ((cond (((decide (0<N))==true)&&((decide ((AN z N).Is<0))==false)) (AN z (AB (N-1))) default).Is)) Y (λH K=>(Bi.part (W (Dr H K)) 0 1 Y)) (B4 U Y (λ_ U=>rt) λ_ U=>r0))
def Cl(z:List A1)(K:A1->AA Bool)(N:AA Int):Nat->Int->AA Int
 |0,_=>none|O+1,y=>cond (decide (y<(z.length:Int))) (Ba (0<=y/\y<(z.length:Int)) (Az (K (AN z y)) λH=>cond H (some y) (Cl z K N O (AB (y+1))))) N
def CS(y:List A1)(z:A1->AA Bool):AA Int:=
 (jn (some (-1:Int)) (λH=>Cl y z H ((y.length:Int).toNat+1) 0))
theorem Gp(H:List A1)(W:A1->AA Bool){a2:AA Addr}(h2:AK BX V a2 z H)(ad:Hq Tryz.prog y O V (λ(aa:A1)=>vA (XU aa)) (λ(r:Bool)=>vB r) W){r:Int}(U:CS H W=some r):Sp 134 [vL a2 H z,.func (.func y) #[] ⟨O⟩] V (λ_ v=>v=vI r):=by
 unfold CS at U;refine se Tryz.func134 ?_;refine sj 11 U Y λJ5 U=>?_;refine lq (λn8 L' V' M'=>∃(X:Int),L'=[(0,sL a2 H z),(1,.v (.func (.func y) #[] ⟨O⟩)),(7,sN H),(8,sI X)]/\M'=[]/\AK BX V' a2 z H/\Hq Tryz.prog y O V' (λ(aa:A1)=>vA (XU aa)) (λ(r:Bool)=>vB r) W/\Cl H W J5 n8 X=some r) Y tu ?_;rintro n8 L' _ M' ⟨X,rfl,rfl,Z,ab,U⟩;refine i4 U λhb U=>?_;have⟨N,U⟩:=AL U;obtain⟨_,rfl,K⟩:=AK.get Z N;refine Yr.ia Y ⟨N.1,N.2,K.some⟩ (Yr.ld (x:=vA (XU (AN H X))) Y K Y (Yr.cb U Y ab.at λae U=>?_));exact B4 U Y (λ_ U=>rt) λ_ U=>rd
def NM(y:A1)(z:Int):AA Bool:=
 (some (y.Is==z))
theorem VN(K:A1)(z:Int)(H:Bi V (some ⟨y,o0,none⟩) 0 [vI z])(U:NM K z=some r):Sp 135 [vA (XU K),.pointer (some ⟨y,o0,none⟩)] V (λ_ v=>v=vB r):=by
 refine se Tryz.func135 ?_;exact Yr.ld (x:=vI z) Y H Y rt
def GG(y:List A1):AA (List A1):=
 (Ba (0<=(y.length:Int)/\(y.length:Int)<=(AB ((y.length:Int)+1))) (Ba (16*(AB ((y.length:Int)+1)).toNat<=281474976710656) (some (cpL y (AH (y.length:Int).toNat (default:A1))))))
theorem AHc(z:List A1){a2:AA Addr}(h2:AK BX V a2 y z){r:List A1}(U:GG z=some r):Sp 136 [vL a2 z y] V (λV' v=>∃W k9,v=vL W r k9/\AK BX V' W k9 r):=by
 refine se Tryz.func136 ?_;have⟨q3,U⟩:=AL U;have⟨q4,U⟩:=AL U;refine xr Y (LG Aa Y Y Y Y (nm:=(AH (z.length:Int).toNat (default:A1)).length) zp q3 q4 (λ_=>Y) (λa5=>?_));have X:AF BX V (AH (z.length:Int).toNat (default:A1)) ((AH (AH (z.length:Int).toNat (default:A1)).length [vI 0,vB false]).flatten):=by rw[Fi];exact Ns (c:=BX) Y _
 refine xr Y (AAZ Aa (cd:=BX) 0 Y Y Y Y Y Y X Y h2 Y (λ_=>Y) Y (λZ h6=>?_));refine Yr.QY 0 Y (λV7 H K N=>?_);have O:=BV h6 H K (Cf (Vf zp) N);obtain rfl:=Bt U;exact Y.ret Y ⟨_,_,(by simp[UC]),O⟩
theorem ABZ(z:List A1){a2:AA Addr}(h2:AK BX V a2 y z){r:List A1}(U:GG z=some r):Sx 136 [vL a2 z y] [.row (.slice none 0 0) [] 173 2] V (X2 173 2 r.length (λV' cs=>AF BX V' r cs)):=by
 refine sx Tryz.func136 ?_;have⟨q3,U⟩:=AL U;have⟨q4,U⟩:=AL U;refine xr Y (LG Aa Y Y Y Y (nm:=(AH (z.length:Int).toNat (default:A1)).length) zp q3 q4 (λ_=>Y) (λa5=>?_));have K:AF BX V (AH (z.length:Int).toNat (default:A1)) ((AH (AH (z.length:Int).toNat (default:A1)).length [vI 0,vB false]).flatten):=by rw[Fi];exact Ns (c:=BX) Y _
 refine xr Y (AAZ Aa (cd:=BX) 1 Y Y Y Y Y Y K Y h2 Y (λ_=>Y) Y (λH N=>?_));cases U;refine xr Y (Sb 0 1 Y Y Y Y Y Y Y Y ?_);exact Y.ret Y ⟨Y,Y,some a5,_,H,(by simp[Ln];rfl),N,by simp[UC]⟩
def Av(H:List HG)(K:HG->A9->AA Int)(N:A9)(O:Int->AA (Int×Bool)):Nat->Int->Int->AA (Int×Bool)
 |0,_,_=>none|X+1,y,z=>cond (decide (y<z)) (Ba (0<=(1:Int)) (Ba (0<=(AB (R7 .u64 (IntKind.u64.wrap (AB (y+z))) 1))/\(AB (R7 .u64 (IntKind.u64.wrap (AB (y+z))) 1))<(H.length:Int)) (Az (K (AN H (AB (R7 .u64 (IntKind.u64.wrap (AB (y+z))) 1))) N) λW=>cond (decide (W<0)) (Av H K N O X (AB ((AB (R7 .u64 (IntKind.u64.wrap (AB (y+z))) 1))+1)) z) (Av H K N O X y (AB (R7 .u64 (IntKind.u64.wrap (AB (y+z))) 1)))))) (O y)
def BI(y:List HG)(K:A9)(N:HG->A9->AA Int):AA (Int×Bool):=
 (jn (λ(z:Int)=>Ba (((decide (z<(y.length:Int)))==true)=true->0<=z/\z<(y.length:Int)) (Az (CG ((decide (z<(y.length:Int)))==true) (N (cond ((decide (z<(y.length:Int)))==true) (AN y z) default) K)) λH=>some (z,((decide (z<(y.length:Int)))&&(H==0))))) (λO=>Av y N K O (1099511627776:Nat) 0 (y.length:Int)))
theorem HA(H:List HG)(x3:A9)(g5:HG->A9->AA Int){a2:AA Addr}(h2:AK Jy V a2 z H)(ak:Ob Tryz.prog y O V (λ(aa:HG)=>.agg ⟨[vS aa.Key,.slice aa.DR.a aa.DR.n aa.DR.k]⟩) (λ(aa:A9)=>vS aa) (λ(r:Int)=>vI r) g5){r:Int×Bool}(U:BI H x3 g5=some r):Sp 137 [vL a2 H z,vS x3,.func (.func y) #[] ⟨O⟩] V (λ_ v=>v=.tuple ⟨[vI (r.1),vB r.2]⟩):=by
 unfold BI at U;refine se Tryz.func137 ?_;refine AD.run Aa 18 Y ?_;refine sn U (λJ7 L' V' M'=>∃(W:Int),L'=[(0,sL a2 H z),(1,sS x3),(2,.v (.func (.func y) #[] ⟨O⟩)),(8,sN H),(9,sI W)]/\M'=[]/\AK Jy V' a2 z H/\Ob Tryz.prog y O V' (λ(aa:HG)=>.agg ⟨[vS aa.Key,.slice aa.DR.a aa.DR.n aa.DR.k]⟩) (λ(aa:A9)=>vS aa) (λ(r:Int)=>vI r) g5/\J7 W=some r) Y ?_ λJ7 U=>?_
 ·rintro L' _ M' ⟨W,rfl,rfl,h9,ag,U⟩;have⟨ad,U⟩:=AL U;obtain⟨_,rfl,Z⟩:=AK.OG ((decide (W<(H.length:Int)))==true) h9 ad;refine Yr.ia Y (λX=>⟨(ad (Bv X)).1,(ad (Bv X)).2,(Z (Bv X)).some⟩) (Yr.ld (x:=.agg ⟨[vS (cond ((decide (W<(H.length:Int)))==true) (AN H W) default).Key,.slice ((cond ((decide (W<(H.length:Int)))==true) (AN H W) default).DR).a ((cond ((decide (W<(H.length:Int)))==true) (AN H W) default).DR).n ((cond ((decide (W<(H.length:Int)))==true) (AN H W) default).DR).k]⟩) Y (λX=>(Z (Bv X))) Y (Gj U Y ag.at λal U=>?_));exact rt
 ·refine lq (λaf L' V' M'=>∃(K:Int)(N:Int),L'=[(0,sL a2 H z),(1,sS x3),(2,.v (.func (.func y) #[] ⟨O⟩)),(8,sN H),(9,sI K),(10,sI N)]/\M'=[]/\AK Jy V' a2 z H/\Ob Tryz.prog y O V' (λ(aa:HG)=>.agg ⟨[vS aa.Key,.slice aa.DR.a aa.DR.n aa.DR.k]⟩) (λ(aa:A9)=>vS aa) (λ(r:Int)=>vI r) g5/\Av H g5 x3 J7 af K N=some r) Y tu ?_;rintro af L' _ M' ⟨K,N,rfl,rfl,ah,ai,U⟩;refine i4 U λhb U=>?_;have⟨aj,U⟩:=AL U;refine xr Y (TW Y Y aj ?_);have⟨ae,U⟩:=AL U;obtain⟨_,rfl,ab⟩:=AK.get ah ae;refine Yr.ia Y ⟨ae.1,ae.2,ab.some⟩ (Yr.ld (x:=.agg ⟨[vS (AN H (AB (R7 .u64 (IntKind.u64.wrap (AB (K+N))) 1))).Key,.slice ((AN H (AB (R7 .u64 (IntKind.u64.wrap (AB (K+N))) 1))).DR).a ((AN H (AB (R7 .u64 (IntKind.u64.wrap (AB (K+N))) 1))).DR).n ((AN H (AB (R7 .u64 (IntKind.u64.wrap (AB (K+N))) 1))).DR).k]⟩) Y ab Y (Yr.cb U Y ai.at λan U=>?_));exact B4 U Y (λ_ U=>rd) λ_ U=>rd
def C8(y:HG)(z:A9):AA Int:=
 (cond (Dy y.Key z) (some (-1:Int)) (cond (Dy z y.Key) (some 1) (some 0)))
theorem Xt(y:HG)(z:A9){r:Int}(U:C8 y z=some r):Sp 138 [.agg ⟨[vS y.Key,.slice y.DR.a y.DR.n y.DR.k]⟩,vS z] V (λ_ v=>v=vI r):=by
 refine se Tryz.func138 ?_;refine i1 U λH U=>?_;exact i3 U
theorem Kn(x:List HG)(y:HG){a:AA Addr}{b:Nat}(hr:AF Jy V x cs)(hy:AF Jy V [y] ds){i:Int}(hi:0<=i/\i<=(x.length:Int))(hb:(x.length+1)*40<=140737488355328):SR 139 [.slice a x.length c,.int .i64 i,vR b] [⟨.slice a x.length c,cs,218,2⟩,⟨vR b,ds,218,2⟩] V (λV' v ag=>∃a' k' aa r2,v=.slice a' (x.take i.toNat++[y]++x.drop i.toNat).length k'/\ag=[⟨.slice a' (x.take i.toNat++[y]++x.drop i.toNat).length k',aa,218,2⟩,r2]/\AF Jy V' (x.take i.toNat++[y]++x.drop i.toNat) aa):=by
 have hlen:(x.take i.toNat++[y]++x.drop i.toNat).length=x.length+1:=by simp;omega
 rw[hlen];have O:=hr.AA2;have H:=hy.AA2;have ah:Jy.sz=2:=Y;have z:ds.length=2:=by simpa[ah]using hy.len
 have ab:cs.length=x.length*2:=hr.len;have hW:∀n:Int,0<=n->n<=9223372036854775807->AB n=n:=λn h h'=>Vg ox h';refine Q7.enter (T:=NP) Tryz.func139 Y kz Y Y Y Y ?_;refine MZ 0 Y (λr1 r2 r3 r4 r5=>?_);have aj:c<=9223372036854775807:=r3;refine xr Y (HD Aa Y Y (lo:=i) (hi:=(x.length:Int)) Y Y ⟨by omega,by omega,by omega⟩ (lo':=i.toNat) Y Y Y ?_);refine xr Y (CY Y Y ?_);refine xr Y ?_;cases ad:(i==(x.length:Int))
 case true=>
  have he:i=(x.length:Int):=by simpa using ad
  refine CT Y Y ?_;refine xr Y (ABx Aa 0 Y Y Y Y Y Y (.row 1 (off:=0) Y (l:=ds) (λj v hv=>by simpa using hv)) H (by simpa using z) (nm:=x.length+1) Y (λ_=>Y) Y hb (λa' c'=>?_));refine Yr.ret Y ?_;dsimp only;refine⟨[⟨.slice a' (x.length+1) c',cs++ds,218,2⟩,_],Y,Y,a',c',cs++ds,_,Y,Y,?_⟩;have:x.take i.toNat++[y]++x.drop i.toNat=x++[y]:=by rw[he];simp
  rw[this];exact hr.app hy
 case false=>
  have ak:i<(x.length:Int):=by simp at ad;omega
  obtain⟨g,rfl⟩:∃g,a=some ⟨g,0,none⟩:=by
   cases a with
   |none=>have:=(r4 Y).1;omega|some p=>obtain⟨g,rfl⟩:=r5 p Y;exact⟨g,Y⟩
  have ae:i.toNat<x.length:=ox
  have ei:((i.toNat:Nat):Int)=i:=Mx hi.1;have K:AF Jy V (x.take i.toNat++[y]++x.drop i.toNat) (cs.take (i.toNat*2)++ds++cs.drop (i.toNat*2)):=((hr.take i.toNat).app hy).app (hr.drop i.toNat);have e0:Em (some ⟨g,0,none⟩) c 0 2=some ⟨g,0,none⟩:=by simp[Em,Addr.add_lit]
  refine CY Y Y ?_;refine xr Y ?_;have ew:AB ((x.length:Int)+((1:Nat):Int))=((x.length+1:Nat):Int):=by rw[hW _ ox ox];omega
  cases N:decide ((c:Int)<AB ((x.length:Int)+((1:Nat):Int)))
  case true=>
   have hc:c<x.length+1:=by rw[ew]at N;simp at N;omega
   refine CT Y Y ?_;refine xr Y (HD Aa Y Y (lo:=0) (hi:=i) Y Y ⟨by omega,by omega,by omega⟩ (lo':=0) Y (n':=i.toNat) ox (c':=c) ox ?_);have eq:AB (AB ((x.length:Int)+((1:Nat):Int))-i)=((x.length+1-i.toNat:Nat):Int):=by
    rw[ew,hW _ ox ox];omega
   have e5:i.toNat+(x.length+1-i.toNat)=x.length+1:=ox
   refine xr Y (AEe Aa 0 Y Y Y Y Y Y Y e0 Y eq ox Y ox ox (by rw[e5];exact hb) (nq:=x.length+1) e5 (λ_=>Y) (λb2 c2=>?_));have W:(AH (x.length+1-i.toNat) ([.string ⟨⟨[]⟩⟩,.slice none 0 0]:List Value)).flatten.length=(x.length+1-i.toNat)*2:=by simp[P2]
   refine xr Y (MZ 2 Y (λs1 s2 s3 s4 s5=>?_));refine HD Aa Y Y (lo:=i) (hi:=((x.length+1:Nat):Int)) Y Y ⟨by omega,by omega,by omega⟩ (lo':=i.toNat) Y (n':=x.length+1-i.toNat) ox Y ?_;have a1:Em (some ⟨b2,0,none⟩) c2 i.toNat 2=some ⟨b2,i.toNat*2,none⟩:=by simp only[Em];rw[if_neg ox];simp only[Bq,Addr.add_lit,Bo]
   refine xr Y (Ms Aa 2 Y Y Y a1 Y Y (.row 1 (off:=0) Y (l:=ds) (λj v hv=>by simpa using hv)) (m:=1) (Cq ox) (by simpa using z) ?_ H Y Y Y ?_)
   ·simp only[AT,Ao,z];rw[W];show i.toNat*2+2<=min (i.toNat*2) cs.length+(x.length+1-i.toNat)*2;omega
   refine Yr.E2 [] [2] (pm 9 0 255) Y ?_;have ai:AB (i+((1:Nat):Int))=((i.toNat+1:Nat):Int):=by rw[hW _ ox ox];omega
   refine xr Y (IF Aa Y Y Y (lo:=AB (i+((1:Nat):Int))) (hi:=((x.length+1:Nat):Int)) Y Y ⟨by omega,by omega,by omega⟩ (lo':=i.toNat+1) ox (n':=x.length-i.toNat) ox Y ?_);refine xr Y (IF Aa Y Y Y (lo:=i) (hi:=(x.length:Int)) Y Y ⟨by omega,by omega,by omega⟩ (lo':=i.toNat) Y (n':=x.length-i.toNat) ox Y ?_);have a3:Em (some ⟨g,0,none⟩) c i.toNat 2=some ⟨g,i.toNat*2,none⟩:=by simp only[Em];rw[if_neg ox];simp only[Bq,Addr.add_lit,Bo]
   have a2:∃o2,(o2=(i.toNat+1)*2\/(x.length-i.toNat=0))/\Em (some ⟨b2,0,none⟩) c2 (i.toNat+1) 2=some ⟨b2,o2,none⟩:=by
    refine⟨(i.toNat+1)*2,.inl Y,?_⟩;simp only[Em];rw[if_neg ox];simp only[Bq,Addr.add_lit,Bo]
   have⟨o2,af,a2⟩:=a2;have af:o2=(i.toNat+1)*2:=ox
   subst af;refine xr Y (Ms Aa 2 Y Y Y a2 Y Y (by rw[a3];exact .row 0 (off:=i.toNat*2) Y (l:=cs.drop (i.toNat*2)) (λj v hv=>by rwa[DT]at hv)) (m:=x.length-i.toNat) (Nat.min_self _) (by show(cs.drop (i.toNat*2)).length=(x.length-i.toNat)*2;simp;omega) ?_ (λu hu=>O u (DK hu)) Y Y Y ?_)
   ·simp only[AT,Ao,Bj,z];rw[W];show(i.toNat+1)*2+(cs.length-i.toNat*2)<=_;omega
   have X:=WU (cs:=cs) (ds:=ds) (n:=x.length) (i:=i.toNat) (sz:=2) ab z W ae;refine xr Y (AEc [2,1] [(6,.v (.slice (some ⟨b2,0,none⟩) (x.length+1) c2))] Y Y Y Y sb ?_);refine Y.ret Y ?_;dsimp only;refine⟨[⟨.slice (some ⟨b2,0,none⟩) (x.length+1) c2,_,218,2⟩,_],Y,Y,_,c2,_,_,Y,Y,?_⟩;rw[<- X]at K;exact K
  case false=>
   have hc:x.length+1<=c:=by rw[ew]at N;simp at N;omega
   refine CY Y Y ?_;refine xr Y (HD Aa Y Y (lo:=0) (hi:=AB ((x.length:Int)+((1:Nat):Int))) Y Y ⟨by omega,by omega,by omega⟩ (lo':=0) Y (n':=x.length+1) ox (c':=c) ox ?_);refine xr Y (Y9 0 1 Y hc (λ_=>Y) Y (λjs Z=>?_));have Z:js.length=2:=by simpa using Z
   have ai:AB (i+((1:Nat):Int))=((i.toNat+1:Nat):Int):=by rw[hW _ ox ox];omega
   refine HD Aa Y Y (lo:=AB (i+((1:Nat):Int))) (hi:=((x.length+1:Nat):Int)) Y Y ⟨by omega,by omega,by omega⟩ (lo':=i.toNat+1) ox (n':=x.length-i.toNat) ox Y (xr Y ?_);have a2:Em (some ⟨g,0,none⟩) c (i.toNat+1) 2=some ⟨g,(i.toNat+1)*2,none⟩:=by
    simp only[Em];rw[if_neg ox];simp only[Bq,Addr.add_lit,Bo]
   have a3:Em (some ⟨g,0,none⟩) c i.toNat 2=some ⟨g,i.toNat*2,none⟩:=by simp only[Em];rw[if_neg ox];simp only[Bq,Addr.add_lit,Bo]
   rw[e0];refine AEd 0 1 (t:=91) (tb:=4) (e:=218) (ez:=2) Y Y Y Tryz.func173 kz kz kz kz Tryz.underlying91 Tryz.sizeOf218 Y a2 (by decide) ?_ Y Y ?_
   ·show 0<c*2;omega
   refine xr Y (CT Y Y ?_);refine Yr.E2 [] [0] (pm 9 0 255) Y ?_;refine xr Y (IF Aa Y Y Y (lo:=AB (i+((1:Nat):Int))) (hi:=((x.length+1:Nat):Int)) Y Y ⟨by omega,by omega,by omega⟩ (lo':=i.toNat+1) ox (n':=x.length-i.toNat) ox Y ?_);refine xr Y (IF Aa Y Y Y (lo:=i) (hi:=((x.length+1:Nat):Int)) Y Y ⟨by omega,by omega,by omega⟩ (lo':=i.toNat) Y (n':=x.length+1-i.toNat) ox Y ?_);refine xr Y ?_;refine Ms Aa 0 Y Y Y a2 Y Y (by rw[a3];exact .row 0 (off:=i.toNat*2) Y (l:=cs.drop (i.toNat*2)) (λj v hv=>by
    rw[DT]at hv;rw[DL,if_pos (As.1 hv).1];exact hv)) (m:=x.length-i.toNat) (Kq ox) (by show(cs.drop (i.toNat*2)).length=(x.length-i.toNat)*2;simp;omega) ?_ (λu hu=>O u (DK hu)) Y Y Y ?_
   ·simp only[AT,Bj];omega
   refine xr Y (HD Aa Y Y (lo:=i) (hi:=((x.length+1:Nat):Int)) Y Y ⟨by omega,by omega,by omega⟩ (lo':=i.toNat) Y (n':=x.length+1-i.toNat) ox Y ?_);refine xr Y (Ms Aa 0 Y Y Y a3 Y Y (.row 1 (off:=0) Y (l:=ds) (λj v hv=>by simpa using hv)) (m:=1) (Cq ox) (by simpa using z) ?_ H Y Y Y ?_)
   ·simp only[AT,Ao,Bj,z];omega
   refine Yr.ret Y ?_;dsimp only;refine⟨[⟨.slice (some ⟨g,0,none⟩) (x.length+1) c,_,218,2⟩,_],Y,Y,_,c,_,_,Y,Y,?_⟩;have X:=Yh (cs:=cs) (ds:=ds) (js:=js) (n:=x.length) (i:=i.toNat) (sz:=2) ab z Z ae;rw[<- X]at K;exact K
def Dd(z:List A9)(H:A9)(K:AA Int):Nat->Int->AA Int
 |0,_=>none|N+1,y=>cond (decide (y<(z.length:Int))) (Ba (0<=y/\y<(z.length:Int)) (cond (H==(AN z y)) (some y) (Dd z H K N (AB (y+1))))) K
def F7(y:List A9)(z:A9):AA Int:=
 (jn (some (-1:Int)) (λH=>Dd y z H ((y.length:Int).toNat+1) 0))
theorem Px(z:List A9)(N:A9){a2:AA Addr}(h2:AK Bf V a2 y z){r:Int}(U:F7 z N=some r):Sp 140 [vL a2 z y,vS N] V (λ_ v=>v=vI r):=by
 unfold F7 at U;refine se Tryz.func140 ?_;refine sj 11 U Y λX U=>?_;refine lq (λW L' V' M'=>∃(O:Int),L'=[(0,sL a2 z y),(1,sS N),(7,sN z),(8,sI O)]/\M'=[]/\AK Bf V' a2 y z/\Dd z N X W O=some r) Y tu ?_;rintro W L' _ M' ⟨O,rfl,rfl,Z,U⟩;refine i4 U λhb U=>?_;have⟨K,U⟩:=AL U;obtain⟨_,rfl,H⟩:=AK.get Z K;exact Yr.ia Y ⟨K.1,K.2,H.some⟩ (Yr.ld (x:=vS (AN z O)) Y H Y (B4 U Y (λ_ U=>rt) λ_ U=>rd))
def Cj(z:List B3)(N:B3->AA Bool)(O:AA Int):Nat->Int->AA Int
 |0,_=>none|H+1,y=>cond (decide (y<(z.length:Int))) (Ba (0<=y/\y<(z.length:Int)) (Az (N (AN z y)) λK=>cond K (some y) (Cj z N O H (AB (y+1))))) O
def EL(y:List B3)(z:B3->AA Bool):AA Int:=
 (jn (some (-1:Int)) (λH=>Cj y z H ((y.length:Int).toNat+1) 0))
theorem NF(K:List B3)(g4:B3->AA Bool){a2:AA Addr}(h2:AK DO V a2 z K)(af:RB Tryz.prog y O V DO (λ(r:Bool)=>vB r) g4){r:Int}(U:EL K g4=some r):Sp 145 [vL a2 K z,.func (.func y) #[] ⟨O⟩] V (λ_ v=>v=vI r):=by
 unfold EL at U;refine se Tryz.func145 ?_;refine sj 11 U Y λJ9 U=>?_;refine lq (λX L' V' M'=>∃(H:Int),L'=[(0,sL a2 K z),(1,.v (.func (.func y) #[] ⟨O⟩)),(7,sN K),(8,sI H)]/\M'=[]/\AK DO V' a2 z K/\RB Tryz.prog y O V' DO (λ(r:Bool)=>vB r) g4/\Cj K g4 J9 X H=some r) Y tu ?_;rintro X L' _ M' ⟨H,rfl,rfl,aa,ab,U⟩;refine i4 U λhb U=>?_;have⟨W,U⟩:=AL U;have⟨_,Z,N⟩:=AK.get aa W;obtain⟨ad,XO,ae,Rt,rfl,_,_⟩:=Z;refine Yr.ia Y ⟨W.1,W.2,N.some⟩ (Yr.ld (x:=vA (XW (AN K H) ad XO ae Rt)) Y N Y (Yr.cb U Y (ab.at tu) λag U=>?_));exact B4 U Y (λ_ U=>rt) λ_ U=>rd
def Jm(y:B3)(z:B3):AA Bool:=
 (some (y.BU==z.BU))
theorem Um(K:B3)(H:B3){a2:AA Addr}{a3:AA Addr}{a5:AA Addr}{a6:AA Addr}(h2:AK Bf V a2 y K.Keys)(h3:AK Au V a3 z K.BF)(X:AK Bf V a5 N H.Keys)(Z:AK Au V a6 W H.BF)(O:Bi V (some ⟨ab,o0,none⟩) 0 (XW H a5 N a6 W))(U:Jm K H=some r):Sp 148 [vA (XW K a2 y a3 z),.pointer (some ⟨ab,o0,none⟩)] V (λ_ v=>v=vB r):=by
 refine se Tryz.func148 ?_;exact Yr.ld (x:=vI H.BU) Y (Bi.shift (Bi.part O 1 1 Y)) Y rt
def DG(z:List Ce)(N:Ce->AA Bool)(O:AA Int):Nat->Int->AA Int
 |0,_=>none|H+1,y=>cond (decide (y<(z.length:Int))) (Ba (0<=y/\y<(z.length:Int)) (Az (N (AN z y)) λK=>cond K (some y) (DG z N O H (AB (y+1))))) O
def DZ(y:List Ce)(z:Ce->AA Bool):AA Int:=
 (jn (some (-1:Int)) (λH=>DG y z H ((y.length:Int).toNat+1) 0))
theorem NC(K:List Ce)(g4:Ce->AA Bool){a2:AA Addr}(h2:AK Jz V a2 z K)(af:RB Tryz.prog y O V Jz (λ(r:Bool)=>vB r) g4){r:Int}(U:DZ K g4=some r):Sp 152 [vL a2 K z,.func (.func y) #[] ⟨O⟩] V (λ_ v=>v=vI r):=by
 unfold DZ at U;refine se Tryz.func152 ?_;refine sj 11 U Y λJ9 U=>?_;refine lq (λX L' V' M'=>∃(H:Int),L'=[(0,sL a2 K z),(1,.v (.func (.func y) #[] ⟨O⟩)),(7,sN K),(8,sI H)]/\M'=[]/\AK Jz V' a2 z K/\RB Tryz.prog y O V' Jz (λ(r:Bool)=>vB r) g4/\DG K g4 J9 X H=some r) Y tu ?_;rintro X L' _ M' ⟨H,rfl,rfl,aa,ab,U⟩;refine i4 U λhb U=>?_;have⟨W,U⟩:=AL U;have⟨_,Z,N⟩:=AK.get aa W;obtain⟨ad,XO,ae,Rt,rfl,_,_⟩:=Z;refine Yr.ia Y ⟨W.1,W.2,N.some⟩ (Yr.ld (x:=vA (gv4 (AN K H) ad XO ae Rt)) Y N Y (Yr.cb U Y (ab.at tu) λag U=>?_));exact B4 U Y (λ_ U=>rt) λ_ U=>rd
variable {X:List OB} {av:List Value} {n:Nat}
def LP(y:Ce)(z:L8):AA Bool:=
 (some (y.Name==z.AHh))
theorem Z0(K:Ce)(H:L8){a2:AA Addr}{a3:AA Addr}{a5:AA Addr}{a6:AA Addr}{a7:AA Addr}(h2:AK Er V a2 y K.BH)(h3:AK CN V a3 z K.CU)(X:AK DQ V a5 N H.Aw)(Z:AK Bf V a6 W H.HK.Am)(h7:AK Bf V a7 ab H.HK.AX)(O:Bi V (some ⟨ai,o0,none⟩) 0 (AJX H a5 N a6 W a7 ab))(U:LP K H=some r):Sp 153 [vA (gv4 K a2 y a3 z),.pointer (some ⟨ai,o0,none⟩)] V (λ_ v=>v=vB r):=by
 refine se Tryz.func153 ?_;exact Yr.ld (x:=vS H.AHh) Y (Bi.shift (Bi.part O 1 1 Y)) Y rt
def RD:AA Bb:=
 (some (⟨(⟨2,1009,([]:List Ah)⟩:OU),([]:List A9),([]:List A9),([]:List AR),[],0⟩:Bb))
theorem ABe{r:Bb}(U:RD=some r):Sp 157 [] V (λV' v=>∃a1 k1 a2 k2 a3 k3 a4 k4,v=vA (Zw r a1 k1 a2 k2 a3 k3 a4 k4)/\AK DQ V' a1 k1 r.Ad.Out/\AK Bf V' a2 k2 r.Am/\AK Bf V' a3 k3 r.DB/\AK Au V' a4 k4 r.AX):=by
 refine se Tryz.func157 ?_;exact rt
def FX(z:AQ)(K:(List AR)->AA Bb):Nat->(List AR)->Int->AA Bb
 |0,_,_=>none|N+1,H,y=>cond (decide (y<(z.AS.DB.length:Int))) (Ba (0<=y/\y<(z.AS.DB.length:Int)) (Ba ((H++[(⟨(AN z.AS.DB y),((D4 (AN z.AS.DB y) z.own).getD (default:Ah))⟩:AR)]).length*48<=140737488355328) (FX z K N (H++[(⟨(AN z.AS.DB y),((D4 (AN z.AS.DB y) z.own).getD (default:Ah))⟩:AR)]) (AB (y+1))))) (K H)
def ER(y:AQ)(z:Gk)(H:Bool):AA Bb:=
 (cond H (some (⟨(⟨z.st,z.code,([]:List Ah)⟩:OU),y.AS.Am,y.AS.DB,y.AS.AX,z.ADw,y.AS.Steps⟩:Bb)) (jn (λ(K:List AR)=>some (⟨(⟨1,y.AS.Ad.Code,y.AS.Ad.Out⟩:OU),y.AS.Am,y.AS.DB,K,y.AS.NG,y.AS.Steps⟩:Bb)) (λN=>FX y N ((y.AS.DB.length:Int).toNat+1) y.AS.AX 0)))
theorem SW(H:AQ)(O:Gk)(aq:Bool)(aK:Dc V y z N H X){r:Bb}(U:ER H O aq=some r):Sx 159 [vP y,.agg ⟨[vI O.st,vI O.code,.slice none 0 0,vS O.ADw]⟩,vB aq] X V (λV' e _=>∃ar Se au Pt av LI aw T3,e=.returned (vA (Zw r ar Se au Pt av LI aw T3))/\AK DQ V' ar Se r.Ad.Out/\AK Bf V' au Pt r.Am/\AK Bf V' av LI r.DB/\AK Au V' aw T3 r.AX):=by
 obtain⟨a3,k3,a4,k4,a5,k5,a6,k6,_,a7,k7,_,a8,k8,_,a9,k9,_,rfl,_,_,_,h6,h7,h8,h9⟩:=aK;refine sx Tryz.func159 ?_;refine Yr.QY 3 Y (λbb Z ax ay=>?_);have aW:=BV h6 Z ax ay;have aL:=AF.mono Z h7;have aM:=AF.mono Z h8;have aN:=AF.mono Z h9;refine Yr.QY 4 Y (λbc ad az a1=>?_);have aX:=BV aL ad az a1;have aO:=AF.mono ad aM;have aP:=AF.mono ad aN;refine Yr.QY 5 Y (λbd ag aA aB=>?_);have aY:=BV aO ag aA aB;have aQ:=AF.mono ag aP;refine Yr.O5 (l:=(Zw H.AS a6 k6 a7 k7 a8 k8 a9 k9)) 0 Y (BE.part (off:=0) (λj v hj=>by simpa using hj) 6 8 Y) Y (B4 U Y (λ_ U=>?_) λhb U=>?_)
 ·refine Yr.DU (pm 8 0 31) Y (Yr.QY 6 Y (λbf aC aD aE=>?_));have aZ:=BV aQ aC aD aE;exact ry
 ·refine AD.run Aa 15 Y ?_;refine sn U (λai L' V' M'=>∃(ae:List AR),∃aj ak af,L'=[(6,.ptr 8 0),(7,.ptr 9 0)]/\M'=[.row (vR y) [vL a3 H.state k3,vB H.DN.G7,vL a4 H.DN.Am k4,vL a5 H.DN.AX k5,.map (some z),.map (some N),vI H.AS.Ad.DY,vI H.AS.Ad.Code,vL a6 H.AS.Ad.Out k6,vL a7 H.AS.Am k7,vL a8 H.AS.DB k8,vL a9 H.AS.AX k9,vS H.AS.NG,vI H.AS.Steps] 243 14,.ext (FN (λ(aa:Ah)=>(vA (Te aa):Value)) z H.vars),.ext (FN (λ(aa:Ah)=>(vA (Te aa):Value)) N H.own),.Sk,.Sk,.Sk,.row (vL aj ae ak) af 62 4,.Bp [sI O.st,sI O.code,.v (.slice none 0 0),sS O.ADw] 246,.Bp [sI 0,sI 0,.v (.slice none 0 0),.v (.slice none 0 0),.v (.slice none 0 0),.v (.slice none 0 0),sS [],sI 0] 110,.Bp [sI 1,sI H.AS.Ad.Code,sL a6 H.AS.Ad.Out k6,sL a7 H.AS.Am k7,sL a8 H.AS.DB k8,sL aj ae ak,sS H.AS.NG,sI H.AS.Steps] 110]/\AF Au V' ae af/\AK DQ V' a6 k6 H.AS.Ad.Out/\AK Bf V' a7 k7 H.AS.Am/\AK Bf V' a8 k8 H.AS.DB/\ai ae=some r) Y ?_ λai U=>?_
  ·rintro L' _ M' ⟨ae,aj,ak,af,rfl,rfl,aR,_,_,_,U⟩;refine Yr.QY 6 Y (λbg aF aG aH=>?_);have ba:=BV aR aF aG aH;exact ry
  ·refine lq (λaI L' V' M'=>∃(W:List AR),∃al an ab,∃(K:Int),L'=[(0,sP y),(6,.ptr 8 0),(7,.ptr 9 0),(25,sL a8 H.AS.DB k8),(26,sN H.AS.DB),(27,sI K)]/\M'=[.row (vR y) [vL a3 H.state k3,vB H.DN.G7,vL a4 H.DN.Am k4,vL a5 H.DN.AX k5,.map (some z),.map (some N),vI H.AS.Ad.DY,vI H.AS.Ad.Code,vL a6 H.AS.Ad.Out k6,vL a7 H.AS.Am k7,vL a8 H.AS.DB k8,vL a9 H.AS.AX k9,vS H.AS.NG,vI H.AS.Steps] 243 14,.ext (FN (λ(aa:Ah)=>(vA (Te aa):Value)) z H.vars),.ext (FN (λ(aa:Ah)=>(vA (Te aa):Value)) N H.own),.Sk,.Sk,.Sk,.row (vL al W an) ab 62 4,.Bp [sI O.st,sI O.code,.v (.slice none 0 0),sS O.ADw] 246,.Bp [sI 0,sI 0,.v (.slice none 0 0),.v (.slice none 0 0),.v (.slice none 0 0),.v (.slice none 0 0),sS [],sI 0] 110,.Bp [sI 1,sI H.AS.Ad.Code,sL a6 H.AS.Ad.Out k6,sL a7 H.AS.Am k7,sL a8 H.AS.DB k8,sL al W an,sS H.AS.NG,sI H.AS.Steps] 110]/\AF Au V' W ab/\AK Bf V' a8 k8 H.AS.DB/\AK DQ V' a6 k6 H.AS.Ad.Out/\AK Bf V' a7 k7 H.AS.Am/\FX H ai aI W K=some r) Y tu ?_;rintro aI L' aS M' ⟨W,al,an,ab,K,rfl,rfl,aT,aU,_,_,U⟩;refine i4 U λ_ U=>?_;have⟨ao,U⟩:=AL U;obtain⟨_,rfl,ah⟩:=AK.get aU ao;refine Yr.ia Y ⟨ao.1,ao.2,ah.some⟩ (Yr.ld (x:=vS (AN H.AS.DB K)) Y ah Y (Yr.E2 [13] [6] (pm 14 0 4863) Y ?_));refine Yr.Jw (l:=[.map (some N)]) 0 Y (Ar Y) ?_;have aJ:((D4 (AN H.AS.DB K) H.own).map (λ(aa:Ah)=>(vA (Te aa):Value))).getD (.agg ⟨[vI 0,vI 0,vS []]⟩)=vA (Te ((D4 (AN H.AS.DB K) H.own).getD (default:Ah))):=by cases D4 (AN H.AS.DB K) H.own<;>rfl
   refine xr Y (Ux 2 Y Y Y Tryz.underlying241 Tryz.underlying9 (RL kz) Y Y aJ ?_);refine Yr.RV Y ?_;have⟨aV,U⟩:=AL U;refine Yr.app (nm:=(W++[(⟨(AN H.AS.DB K),((D4 (AN H.AS.DB K) H.own).getD (default:Ah))⟩:AR)]).length) 6 10 Y zp (λ_ _=>Y) aV (λbh bj=>?_);have bk:AF Au aS (W++[(⟨(AN H.AS.DB K),((D4 (AN H.AS.DB K) H.own).getD (default:Ah))⟩:AR)]) (ab++[vS (AN H.AS.DB K),vI (((D4 (AN H.AS.DB K) H.own).getD (default:Ah)).BD),vI (((D4 (AN H.AS.DB K) H.own).getD (default:Ah)).N),vS ((D4 (AN H.AS.DB K) H.own).getD (default:Ah)).S]):=AF.app aT ⟨_,_,Y,Y,Y⟩;exact SO 10 Y
def Nk(y:Int):AA Bool:=
 (some (y !=y))
theorem Ti(y:Int)(U:Nk y=some r):Sp 169 [vI y] V (λ_ v=>v=vB r):=by
 refine se Tryz.func169 ?_;exact rt
def Kb(z:A9)(H:AA Bool):Nat->Int->AA Bool
 |0,_=>none|K+1,y=>cond (decide (y<(z.length:Int))) (Ba (0<=y/\y<(z.length:Int)) (Ba (((decide ((B0 z y.toNat)<32))==false)=true->0<=y/\y<(z.length:Int)) (cond ((decide ((B0 z y.toNat)<32))||(decide (126<(B0 z y.toNat)))) (some false) (Kb z H K (AB (y+1)))))) H
def NV(y:A9):AA Bool:=
 (jn (some (decide ((y.length:Int)<=(64:Int)))) (λz=>Kb y z ((y.length:Int).toNat+1) 0))
theorem ACR(y:A9)(U:NV y=some r):Sp 179 [vS y] V (λ_ v=>v=vB r):=by
 unfold NV at U;refine se Tryz.func179 ?_;refine AD.run Aa 9 Y ?_;refine sn U (λz L' V' M'=>L'=[(0,sS y)]/\M'=[]/\z=some r) Y ?_ λz U=>?_
 ·rintro L' _ M' ⟨rfl,rfl,U⟩;exact rt
 ·refine lq (λN L' V' M'=>∃(H:Int),L'=[(0,sS y),(3,sI H)]/\M'=[]/\Kb y z N H=some r) Y tu ?_;rintro N L' _ M' ⟨H,rfl,rfl,U⟩;refine i4 U λX U=>?_;have⟨O,U⟩:=AL U;refine xr Y (Mq Aa Y Y O ?_);have⟨W,U⟩:=AL U;refine xr Y (Mq Aa Y Y (λK=>W (Bv K)) ?_);exact B4 U Y (λ_ U=>rt) λ_ U=>rd
def Cg(X:A1->AA Bool)(Z:(List A1)->Int->AA (List A1)):Nat->(List A1)->Int->Int->AA (List A1)
 |0,_,_,_=>none|aa+1,y,z,H=>cond (decide (H<(y.length:Int))) (Ba (0<=H/\H<(y.length:Int)) (Az (X (AN y H)) λN=>jn (λ(O:List A1)(W:Int)=>Cg X Z aa O W (AB (H+1))) (λK=>cond (!N) (Ba (0<=z/\z<(y.length:Int)) (K (y.set z.toNat (AN y H)) (AB (z+1)))) (K y z)))) (Z y z)
def EY(y:List A1)(K:A1->AA Bool):AA (List A1):=
 (Az (CS y K) λz=>cond (z==(-1:Int)) (some y) (jn (λ(N:List A1)(H:Int)=>Ba (0<=H/\H<(N.length:Int)) (some (N.take H.toNat))) (λO=>Cg K O (1099511627776:Nat) y z (AB (z+1)))))
theorem Ko(x1:List A1)(g4:A1->AA Bool){a2:AA Addr}(h2:AF BX V x1 av)(aC:Hq Tryz.prog y O V (λ(aa:A1)=>vA (XU aa)) (λ(r:Bool)=>vB r) g4){r:List A1}(U:EY x1 g4=some r):Sx 192 [vL a2 x1 z,.func (.func y) #[] ⟨O⟩] [.row (vL a2 x1 z) av 173 2] V (X2 173 2 r.length (λV' cs=>AF BX V' r cs)):=by
 refine sx Tryz.func192 ?_;have⟨x5,aD,U⟩:=AO U;refine xr Y (ZC (vI x5) Y Y (λ_ hv hl=>Gp x1 g4 (BV h2 hv (hl 0 _ _ _ _ _ _ Y).1 (hl 0 _ _ _ _ _ _ Y).2) (aC.mono hv) aD) ?_);refine i1 U λhb U=>?_;refine AD.run Aa 8 Y ?_;refine sn U (λJ9 L' V' M'=>∃(X:List A1),∃a6 k6 ae,∃(x8:Int),L'=[(0,sL a6 X k6),(5,sI x8)]/\M'=[.row (vL a6 X k6) ae 173 2]/\AF BX V' X ae/\J9 X x8=some r) Y ?_ λJ9 U=>?_
 ·rintro L' aE M' ⟨X,a6,k6,ae,x8,rfl,rfl,h6,U⟩;have⟨ao,U⟩:=AL U;have aq:(X.take x8.toNat).length=x8.toNat:=by simp;omega
  refine xr Y (MZ 0 Y (λaH aI _ ar au=>?_));obtain⟨aw,rfl⟩:∃g,a6=some ⟨g,0,none⟩:=by cases a6 with|none=>(have:=(ar Y).1;omega)|some p=>(obtain⟨g,rfl⟩:=au p Y;exact⟨g,Y⟩)
  refine Y8 0 (X.take x8.toNat).length Y ox Y Y ?_;have aJ:AF BX aE (X.take x8.toNat) (ae.take ((X.take x8.toNat).length*2)):=by rw[aq];exact AF.take _ h6
  refine HD Aa Y Y (lo:=x8) (hi:=(X.length:Int)) Y Y ⟨ao.1,by omega,by omega⟩ (lo':=(X.take x8.toNat).length) ox Y Y (xr Y (ABv Aa 0 Y Y Y Y ?_ Y ?_ Y (Nat.le_refl _) ?_ Y Y ?_))
  ·decide
  ·simp only[Em];rw[if_neg ox];simp only[Bq,Addr.add_lit,Bo]
  ·show(X.take x8.toNat).length*2+((X.length:Int).toNat-(X.take x8.toNat).length)*2<=k6*2;omega
  refine xr Y (HD Aa Y Y (lo:=0) (hi:=x8) Y Y ⟨by decide,ao.1,by omega⟩ (lo':=0) Y (n':=(X.take x8.toNat).length) ox (c':=k6) ox ?_);rw[show Em (some ⟨aw,0,none⟩) k6 0 2=(some ⟨aw,0,none⟩)from by simp[Em,Addr.add_lit]];exact rt
 ·refine lq (λax L' V' M'=>∃(H:List A1),∃Z LI W,∃(K:Int)(N:Int),L'=[(0,sL Z H LI),(1,.v (.func (.func y) #[] ⟨O⟩)),(5,sI K),(6,sI N)]/\M'=[.row (vL Z H LI) W 173 2]/\AF BX V' H W/\Hq Tryz.prog y O V' (λ(aa:A1)=>vA (XU aa)) (λ(r:Bool)=>vB r) g4/\Cg g4 J9 ax H K N=some r) Y tu ?_;rintro ax L' aF M' ⟨H,Z,LI,W,K,N,rfl,rfl,af,ay,U⟩;refine i4 U λhb U=>?_;have⟨az,U⟩:=AL U;refine xr Y (CX 0 Y (λaK a1 aL=>?_));obtain⟨_,rfl,a7⟩:=AF.get af az;have ah:0<=N/\N<(H.length:Int):=az;have ai:=a1 ox;refine AD.ia Aa Y Y ⟨ah.1,ah.2,ai⟩ ?_;refine xr Y (KM Aa 0 (x:=vA (XU (AN H N))) Y Y Y ⟨a7,ai⟩ Y Y ?_);refine Yr.cb U Y ay.at λaO U=>?_;refine sm U (λa8 L' V' M'=>∃(ab:List A1),∃al WT ad,∃(an:Int),L'=[(0,sL al ab WT),(1,.v (.func (.func y) #[] ⟨O⟩)),(5,sI an),(6,sI N)]/\M'=[.row (vL al ab WT) ad 173 2]/\AF BX V' ab ad/\Hq Tryz.prog y O V' (λ(aa:A1)=>vA (XU aa)) (λ(r:Bool)=>vB r) g4/\a8 ab an=some r) Y ?_ λa8 U=>?_
  ·rintro L' _ M' ⟨ab,al,WT,ad,an,rfl,rfl,_,_,U⟩;exact rd
  ·refine B4 U Y (λ_ U=>?_) λ_ U=>r1;have⟨ag,U⟩:=AL U;refine xr Y (CX 0 Y (λaM aA aN=>?_));obtain⟨_,rfl,_⟩:=AF.get af ag;have aj:0<=K/\K<(H.length:Int):=ag;have ak:=aA ox;refine AD.ia Aa Y Y ⟨aj.1,aj.2,ak⟩ ?_;have aB:=AF.len af;have aG:AF BX aF (H.set K.toNat (AN H N)) (W.take (K.toNat*2)++(XU (AN H N))++W.drop ((K.toNat*2)+2)):=AF.set af ag Y;refine Yr.Zr 0 Y ak (stB ag aB) Y (xr Y (AD.cut 1 [(0,sL Z H LI),(1,.v (.func (.func y) #[] ⟨O⟩)),(5,sI (AB (K+1))),(6,sI N)] (M':=[.row (vL Z H LI) (W.take (K.toNat*2)++(XU (AN H N))++W.drop ((K.toNat*2)+2)) 173 2]) Y ⟨Y,Y,Y,Y,Yt⟩ Y Y Y ?_));exact AD.round [(0,sL Z (H.set K.toNat (AN H N)) LI),(1,.v (.func (.func y) #[] ⟨O⟩)),(5,sI (AB (K+1))),(6,sI N)] ⟨look_eq Y zp,Y,Y,Y,Yt⟩ ⟨(H.set K.toNat (AN H N)),Z,LI,(W.take (K.toNat*2)++(XU (AN H N))++W.drop ((K.toNat*2)+2)),(AB (K+1)),Y,zp,aG,ay,U⟩
def HN(y:A1)(z:Int):AA Bool:=
 (some (y.Is==z))
theorem Ts(K:A1)(z:Int)(H:Bi V (some ⟨y,o0,none⟩) 0 [vI z])(U:HN K z=some r):Sp 193 [vA (XU K),.pointer (some ⟨y,o0,none⟩)] V (λ_ v=>v=vB r):=by
 refine se Tryz.func193 ?_;exact Yr.ld (x:=vI z) Y H Y rt
def De(z:List A9)(H:List A9)(K:AA Bool):Nat->Int->AA Bool
 |0,_=>none|N+1,y=>cond (decide (y<(z.length:Int))) (Ba (0<=y/\y<(z.length:Int)) (Ba (0<=y/\y<(H.length:Int)) (cond ((AN z y) !=(AN H y)) (some false) (De z H K N (AB (y+1)))))) K
def H4(y:List A9)(z:List A9):AA Bool:=
 (cond ((y.length:Int) !=(z.length:Int)) (some false) (jn (some true) (λH=>De y z H ((y.length:Int).toNat+1) 0)))
theorem Py(H:List A9)(O:List A9){a2:AA Addr}{a4:AA Addr}(h2:AK Bf V a2 y H)(h4:AK Bf V a4 z O)(U:H4 H O=some r):Sp 194 [vL a2 H y,vL a4 O z] V (λ_ v=>v=vB r):=by
 refine se Tryz.func194 ?_;refine i1 U λhb U=>?_;refine sj 8 U Y λJ5 U=>?_;refine lq (λn8 L' V' M'=>∃(Z:Int),L'=[(0,sL a2 H y),(1,sL a4 O z),(12,sN H),(13,sI Z)]/\M'=[]/\AK Bf V' a2 y H/\AK Bf V' a4 z O/\De H O J5 n8 Z=some r) Y tu ?_;rintro n8 L' _ M' ⟨Z,rfl,rfl,aa,ab,U⟩;refine i4 U λhb U=>?_;refine Yr.DU (pm 9 0 511) Y ?_;have⟨W,U⟩:=AL U;obtain⟨_,rfl,K⟩:=AK.get aa W;refine Yr.Qp Y ⟨W.1,W.2,K.some⟩ (Yr.P8 (x:=vS (AN H Z)) Y K ?_);have⟨X,U⟩:=AL U;obtain⟨_,rfl,N⟩:=AK.get ab X;exact Yr.Qp Y ⟨X.1,X.2,N.some⟩ (Yr.P8 (x:=vS (AN O Z)) Y N (B4 U Y (λ_ U=>rt) λ_ U=>rd))
def C4(z:List AR)(H:List AR)(K:AA Bool):Nat->Int->AA Bool
 |0,_=>none|O+1,y=>cond (decide (y<(z.length:Int))) (Ba (0<=y/\y<(z.length:Int)) (Ba (0<=y/\y<(H.length:Int)) (cond (!(((AN z y).Key==(AN H y).Key)&&((((AN z y).JK.BD==(AN H y).JK.BD)&&(((AN z y).JK.N==(AN H y).JK.N)&&(((AN z y).JK.S==(AN H y).JK.S)&&true)))&&true))) (some false) (C4 z H K O (AB (y+1)))))) K
def Gr(y:List AR)(z:List AR):AA Bool:=
 (cond ((y.length:Int) !=(z.length:Int)) (some false) (jn (some true) (λH=>C4 y z H ((y.length:Int).toNat+1) 0)))
theorem OL(H:List AR)(O:List AR){a2:AA Addr}{a4:AA Addr}(h2:AK Au V a2 y H)(h4:AK Au V a4 z O)(U:Gr H O=some r):Sp 195 [vL a2 H y,vL a4 O z] V (λ_ v=>v=vB r):=by
 refine se Tryz.func195 ?_;refine i1 U λhb U=>?_;refine sj 8 U Y λJ5 U=>?_;refine lq (λn8 L' V' M'=>∃(Z:Int),L'=[(0,sL a2 H y),(1,sL a4 O z),(12,sN H),(13,sI Z)]/\M'=[]/\AK Au V' a2 y H/\AK Au V' a4 z O/\C4 H O J5 n8 Z=some r) Y tu ?_;rintro n8 L' _ M' ⟨Z,rfl,rfl,aa,ab,U⟩;refine i4 U λhb U=>?_;refine Yr.DU (pm 9 0 511) Y ?_;have⟨W,U⟩:=AL U;obtain⟨_,rfl,K⟩:=AK.get aa W;refine Yr.Qp Y ⟨W.1,W.2,K.some⟩ (Yr.P8 (x:=vA (Zv (AN H Z))) Y K ?_);have⟨X,U⟩:=AL U;obtain⟨_,rfl,N⟩:=AK.get ab X;exact Yr.Qp Y ⟨X.1,X.2,N.some⟩ (Yr.P8 (x:=vA (Zv (AN O Z))) Y N (B4 U Y (λ_ U=>rt) λ_ U=>rd))
def HQ(K:List Int)(H:(List Int)->AA (List Int)):Nat->(List Int)->Int->AA (List Int)
 |0,_,_=>none|N+1,z,y=>cond (decide (y<4)) (Ba (0<=y/\y<(z.length:Int)) (Ba (0<=y/\y<(K.length:Int)) (Ba (0<=y/\y<(z.length:Int)) (HQ K H N (z.set y.toNat (min (AB ((AN z y)+(AN K y))) 16385)) (AB (y+1)))))) (H z)
def FY(z:List Int)(H:List Int):AA (List Int):=
 (Ba (z.length=4) (Ba (H.length=4) (jn (λ(K:List Int)=>some K) (λy=>HQ H y ((4:Int).toNat+1) z 0))))
theorem Nr(x1:List Int)(H:List Int){r:List Int}(U:FY x1 H=some r):Sp 198 [.agg ⟨x1.map (Value.int .i64)⟩,.agg ⟨H.map (Value.int .i64)⟩] V (λ_ v=>v=.agg ⟨r.map (Value.int .i64)⟩):=by
 refine se Tryz.func198 ?_;refine AD.run Aa 2 Y ?_;have⟨q3,U⟩:=AL U;refine Uz Aa (n:=4) (cs:=(x1.map (Value.int .i64))) Y Y Y Y (by rw[Ap];exact q3) Y (λ_=>Y) (λb4=>?_);have h4:AF (CD .i64) V x1 (x1.map (Value.int .i64)):=CH _;have⟨q5,U⟩:=AL U;refine Uz Aa (n:=4) (cs:=(H.map (Value.int .i64))) Y Y Y Y (by rw[Ap];exact q5) Y (λ_=>Y) (λb6=>?_);have h6:AF (CD .i64) V H (H.map (Value.int .i64)):=CH _;refine AD.run Aa 1 Y (Fh 2 (n:=4) (sz:=1) (cs:=(AH 4 (vI 0))) Y Y Y Y Y (λ_=>Y) (λ_=>Y) (λ_=>Y) (λb7=>?_));have h7:AF (CD .i64) V (AH 4 0) (AH 4 (vI 0)):=by have:=CH (k:=.i64) (V:=V) (AH 4 0);rwa[K4]at this
 refine AD.run Aa 6 Y ?_;refine sn U (λW L' V' M'=>∃(Z:List Int),∃X,L'=[(2,sP b4),(4,sP b7)]/\M'=[.row (.slice (some ⟨b4,0,none⟩) 4 4) X 261 1,.row (.slice (some ⟨b6,0,none⟩) 4 4) (H.map (Value.int .i64)) 261 1,.row (.slice (some ⟨b7,0,none⟩) 4 4) (AH 4 (vI 0)) 261 1]/\AF (CD .i64) V' Z X/\AF (CD .i64) V' H (H.map (Value.int .i64))/\AF (CD .i64) V' (AH 4 0) (AH 4 (vI 0))/\W Z=some r) Y ?_ λW U=>?_
 ·rintro L' ar M' ⟨Z,X,rfl,rfl,h8,_,_,U⟩;refine xr Y (X6 Aa 0 (kd:=.i64) Y Y Y h8 Y Y (λaa=>?_));refine QS Aa 2 (nv:=(Z.map (Value.int .i64))) Y Y Y Y Y Y Y Y (by rw[Ap];exact aa) (λu hu=>by obtain⟨_,_,rfl⟩:=List.mem_map.1 hu;rfl) Y Y ?_;have au:AF (CD .i64) ar Z (Z.map (Value.int .i64)):=CH _;cases U;exact xr Y (PN Aa 2 (kd:=.i64) Y Y Y Y Y Y Y au Y)
 ·refine lq (λab L' V' M'=>∃(K:List Int),∃z,∃(y:Int),L'=[(2,sP b4),(3,sP b6),(4,sP b7),(6,sI y)]/\M'=[.row (.slice (some ⟨b4,0,none⟩) 4 4) z 261 1,.row (.slice (some ⟨b6,0,none⟩) 4 4) (H.map (Value.int .i64)) 261 1,.row (.slice (some ⟨b7,0,none⟩) 4 4) (AH 4 (vI 0)) 261 1]/\AF (CD .i64) V' K z/\AF (CD .i64) V' H (H.map (Value.int .i64))/\AF (CD .i64) V' (AH 4 0) (AH 4 (vI 0))/\HQ H W ab K y=some r) Y tu ?_;rintro ab L' av M' ⟨K,z,y,rfl,rfl,N,ad,_,U⟩;refine i4 U λ_ U=>?_;refine Yr.DU (pm 11 0 1023) Y ?_;have⟨ae,U⟩:=AL U;refine xr Y (CX 0 Y (λaf aw ax=>?_));obtain⟨_,rfl,ag⟩:=N.get ae;have ah:=AF.len N;refine Lb Aa Y Y Y (ixA ae ah af (CD .i64).pos) ?_;refine xr Y (Hp Aa 0 (x:=vI (AN K y)) Y Y Y Y ⟨ag,⟨_,_,Y⟩⟩ Y Y ?_);have⟨ai,U⟩:=AL U;refine xr Y (CX 1 Y (λaj ay az=>?_));obtain⟨_,rfl,ak⟩:=ad.get ai;have al:=AF.len ad;refine Lb Aa Y Y Y (ixA ai al aj (CD .i64).pos) ?_;refine xr Y (Hp Aa 1 (x:=vI (AN H y)) Y Y Y Y ⟨ak,⟨_,_,Y⟩⟩ Y Y ?_);have⟨O,U⟩:=AL U;refine xr Y (CX 0 Y (λan a1 a6=>?_));obtain⟨_,rfl,_⟩:=N.get O;have ao:=AF.len N;refine Lb Aa Y Y Y (ixA O ao an (CD .i64).pos) ?_;have aq:=AF.len N;have a7:AF (CD .i64) av (K.set y.toNat (min (AB ((AN K y)+(AN H y))) 16385)) (z.take (y.toNat*1)++[vI (min (AB ((AN K y)+(AN H y))) 16385)]++z.drop ((y.toNat*1)+1)):=AF.set N O Y;exact Yr.Zr 0 Y ⟨_,_,Y⟩ (stB O aq) Y rd
def CR(y:Int):AA (Except Gk Unit):=
 (some (.error (⟨2,y,[]⟩:Gk)))
theorem Co(y:Int){r:Except Gk Unit}(U:CR y=some r):Sx 200 [vI y] [] V (λV' e M'=>M'=[]/\e=Pv 246 (λ(_:Unit)=>.tuple ⟨[]⟩) r):=by
 refine sx Tryz.func200 ?_;refine xr Y (AIv Y Y ⟨_,Tryz.underlying246,λm h=>by cases h⟩ Y ?_);cases U;exact xr Y (AIu Y Y Y ⟨Y,Y,Y,Y⟩)
def CI(y:Bool):AA (Except Gk Unit):=
 (cond (!y) (Az (CR 1009) λz=>I9 z (λH=>some (.error H)) λK=>some (.ok ())) (some (.ok ())))
theorem CB(z:Bool){r:Except Gk Unit}(U:CI z=some r):Sx 202 [vB z] [] V (λV' e M'=>M'=[]/\e=Pv 246 (λ(_:Unit)=>.tuple ⟨[]⟩) r):=by
 refine sx Tryz.func202 ?_;refine B4 U Y (λ_ U=>?_) λ_ U=>rf;refine xr Y ?_;have⟨_,y,U⟩:=AO U;refine Y.cx U [] Y (Co 1009 y) (λK H U=>?_);rintro _ _ _ rfl;refine⟨_,Y,?_⟩;exact rf
def Fu(K:AQ)(z:Ah):AA ((Except Gk Unit)×AQ):=
 (jn (λ(y:AQ)=>Ba ((y.AS.Ad.Out++[z]).length*32<=140737488355328) (some ((.ok ()),(⟨y.state,⟨y.DN.G7,y.DN.Am,y.DN.AX⟩,y.vars,y.own,⟨⟨y.AS.Ad.DY,y.AS.Ad.Code,(y.AS.Ad.Out++[z])⟩,y.AS.Am,y.AS.DB,y.AS.AX,y.AS.NG,y.AS.Steps⟩⟩:AQ)))) (λH=>cond ((K.AS.Ad.Out.length:Int)==16) (Az (CR 1007) λN=>I9 N (λO=>some ((.error O),K)) λW=>H K) (H K)))
theorem Tu(x1:AQ)(O:Ah)(an:Dc V y z N x1 X){r:(Except Gk Unit)×AQ}(U:Fu x1 O=some r):Sx 205 [vP y,vA (Te O)] X V (λV' e M'=>Dc V' y z N r.2 M'/\e=Pv 246 (λ(_:Unit)=>.tuple ⟨[]⟩) r.1):=by
 unfold Fu at U;obtain⟨_,_,_,_,_,_,a6,k6,_,_,_,_,_,_,_,_,_,_,rfl,_,_,_,_,_,_,_⟩:=an;refine sx Tryz.func205 ?_;refine Yr.O5 (l:=[vL a6 x1.AS.Ad.Out k6]) 0 Y (Ar Y) Y ?_;refine sm U (λai L' V' M'=>∃(H:AQ),∃ae Se af Pt ag LI ah T3 K aj O6 W ak UP Z al XO aa,L'=[(0,sP y),(3,.ptr 7 0)]/\M'=mR y z N H ae Se af Pt ag LI ah T3 K aj O6 W ak UP Z al XO aa [.Bp (Yl O) 60]/\mJ V' H ae Se af Pt ag LI K W Z aa/\ai H=some r) Y ?_ λai U=>?_
 ·rintro L' ao M' ⟨H,ae,Se,af,Pt,ag,LI,ah,T3,K,aj,O6,W,ak,UP,Z,al,XO,aa,rfl,rfl,⟨_,_,_,aq,_,_,_⟩,U⟩;refine Yr.E2 [14] [3] (pm 15 0 15615) Y ?_;refine Yr.Jw (l:=[vL ah H.AS.Ad.Out T3]) 0 Y (Ar Y) (Yr.RV Y ?_);have⟨ar,U⟩:=AL U;refine Yr.app (nm:=(H.AS.Ad.Out++[O]).length) 3 8 Y zp (λ_ _=>Y) ar (λau ZX=>?_);have av:AF DQ ao (H.AS.Ad.Out++[O]) (K++(Te O)):=AF.app aq ⟨_,_,Y,Y,Y⟩;refine Yr.P6 0 Y (Ae Y) ?_;exact rf
 ·refine i4 U λ_ U=>?_;refine xr Y ?_;have⟨_,ad,U⟩:=AO U;rcases EM U with⟨_,ab,U⟩|⟨_,ab,U⟩
  ·refine Y.GC [] Y (Co 1007 ad) ab ?_;rintro _ _ _ rfl;cases U;exact tu
  refine Y.GB [] Y (Co 1007 ad) ab ?_;rintro _ _ _ rfl;refine⟨_,Y,?_⟩;exact rd
def Kg(y:Int):AA Bool:=
 (some ((decide (33<=y))&&(decide (y<=126))))
theorem Yz(y:Int)(U:Kg y=some r):Sp 206 [.int .u8 y] V (λ_ v=>v=vB r):=by
 refine se Tryz.func206 ?_;exact rt
def GQ(y:Ag)(z:A9)(H:Int):AA (Unit×Ag):=
 (some ((),(⟨(NQ z H y.Bg),y.loops,(NQ z H y.all)⟩:Ag)))
theorem KT(O:Ag)(Z:A9)(H:Int)(K:Nx V y z N W O X){r:Unit×Ag}(U:GQ O Z H=some r):Sx 209 [vP y,vS Z,vI H] X V (λV' e M'=>Nx V' y z N W r.2 M'/\e=.returned (.tuple ⟨[]⟩)):=by
 obtain⟨rfl,_⟩:=K;refine sx Tryz.func209 ?_;refine Yr.O5 (l:=[.map (some z)]) 0 Y (Ar Y) Y (xr Y (Ma (v:=H) 1 Y Y Y Y Tryz.underlying275 Tryz.underlying9 Y Y Y Y Y ?_));refine Yr.O5 (l:=[.map (some W)]) 0 Y (Ar Y) Y (xr Y (Ma (v:=H) 3 Y Y Y Y Tryz.underlying275 Tryz.underlying9 Y Y Y Y Y ?_));exact rf
def PL(y:Int):AA Bool:=
 (some (((y==25)||(y==26))||(y==27)))
theorem PG(y:Int)(U:PL y=some r):Sp 214 [vI y] V (λ_ v=>v=vB r):=by
 refine se Tryz.func214 ?_;exact rt
def LW(N:Ak)(y:Ak->AA Int)(H:Int->AA Int):Nat->Int->Int->AA Int
 |0,_,_=>none|W+1,K,z=>cond (decide (z<(N.Aw.length:Int))) (Ba (0<=z/\z<(N.Aw.length:Int)) (Az (y (AN N.Aw z)) λO=>LW N y H W (AB (K+O)) (AB (z+1)))) (H K)
def QM(y:Ak->AA Int)(z:Ak):AA Int:=
 (jn (λ(W:Bool)=>jn (λ(X:Int)=>jn (λ(H:Int)=>some (min H 16385)) (λK=>LW z y K ((z.Aw.length:Int).toNat+1) X 0)) (λO=>cond W (O 1) (O 0))) (λN=>cond (z.Op==22) (N (z.Op==22)) (cond (z.Op==23) (N (z.Op==23)) (N (z.Op==24)))))
def OY(g:Ak->AA Int):Prop:=∀{V:AM}(y:Ak){a2:AA Addr}{k2:Nat}(h2:AK Br V a2 k2 y.Aw){r:Int},g y=some r->Sp 215 [vA (Ws y a2 k2)] V (λ_ v=>v=vI r)
theorem ACa{y:Ak->AA Int}(z:OY y):OY (QM y):=by
 intro V K a2 k2 h2 r U;unfold QM at U;refine se Tryz.func215 ?_;refine sm U (λJ4 L' V' M'=>∃(x3:Bool),L'=[(1,.ptr 0 0),(3,sI 0),(8,sB x3)]/\M'=[.Bp (AHD K a2 k2) 265]/\AK Br V' a2 k2 K.Aw/\J4 x3=some r) Y ?_ λJ4 U=>?_
 ·rintro L' _ M' ⟨x3,rfl,rfl,_,U⟩;refine sm U (λJ8 L' V' M'=>∃(x7:Int),L'=[(1,.ptr 0 0),(3,sI x7)]/\M'=[.Bp (AHD K a2 k2) 265]/\AK Br V' a2 k2 K.Aw/\J8 x7=some r) Y ?_ λJ8 U=>?_
  ·rintro L' _ M' ⟨x7,rfl,rfl,_,U⟩;refine AD.run Aa 9 Y ?_;refine sn U (λO L' V' M'=>∃(W:Int),L'=[(3,sI W)]/\M'=[]/\O W=some r) Y ?_ λO U=>?_
   ·rintro L' _ M' ⟨W,rfl,rfl,U⟩;exact rt
   ·refine Yr.cut 0 [3,13,14,15] Y ?_;refine lq (λaa L' V' M'=>∃(X:Int)(H:Int),L'=[(3,sI X),(13,sL a2 K.Aw k2),(14,sN K.Aw),(15,sI H)]/\M'=[]/\AK Br V' a2 k2 K.Aw/\LW K y O aa X H=some r) Y tu ?_;rintro aa L' _ M' ⟨X,H,rfl,rfl,ad,U⟩;refine i4 U λ_ U=>?_;have⟨Z,U⟩:=AL U;have⟨_,ab,N⟩:=AK.get ad Z;obtain⟨ae,ZX,rfl,af⟩:=(DS.1 ab);refine Yr.ia Y ⟨Z.1,Z.2,N.some⟩ (Yr.ld (x:=vA (Ws (AN K.Aw H) ae ZX)) Y N Y (Yr.cb U Y (z (AN K.Aw H) af) λag U=>?_));exact r0
  ·exact B4 U Y (λ_ U=>rd) λ_ U=>rd
 ·refine i5 U λhb U=>?_;exact B4 U Y (λ_ U=>rd) λ_ U=>rd
def F8:Nat->Ak->AA Int
 |0,_=>none|n+1,y=>QM (F8 n) y
theorem ACY:∀n:Nat,OY (F8 n):=by
 intro n
 induction n with
 |zero=>unfold OY;intros;rename_i h;simp[F8]at h|succ n y=>exact ACa y
theorem TH:OY (F8 n):=ACY n
def Ga(K:List Int)(H:(List Int)->AA (List Int)):Nat->(List Int)->Int->AA (List Int)
 |0,_,_=>none|N+1,z,y=>cond (decide (y<4)) (Ba (0<=y/\y<(z.length:Int)) (Ba (0<=y/\y<(K.length:Int)) (Ba (0<=y/\y<(z.length:Int)) (Ga K H N (z.set y.toNat (max (AN z y) (AN K y))) (AB (y+1)))))) (H z)
def Hl(z:List Int)(H:List Int):AA (List Int):=
 (Ba (z.length=4) (Ba (H.length=4) (jn (λ(K:List Int)=>some K) (λy=>Ga H y ((4:Int).toNat+1) z 0))))
theorem Uo(x1:List Int)(H:List Int){r:List Int}(U:Hl x1 H=some r):Sp 216 [.agg ⟨x1.map (Value.int .i64)⟩,.agg ⟨H.map (Value.int .i64)⟩] V (λ_ v=>v=.agg ⟨r.map (Value.int .i64)⟩):=by
 refine se Tryz.func216 ?_;refine AD.run Aa 2 Y ?_;have⟨q3,U⟩:=AL U;refine Uz Aa (n:=4) (cs:=(x1.map (Value.int .i64))) Y Y Y Y (by rw[Ap];exact q3) Y (λ_=>Y) (λb4=>?_);have h4:AF (CD .i64) V x1 (x1.map (Value.int .i64)):=CH _;have⟨q5,U⟩:=AL U;refine Uz Aa (n:=4) (cs:=(H.map (Value.int .i64))) Y Y Y Y (by rw[Ap];exact q5) Y (λ_=>Y) (λb6=>?_);have h6:AF (CD .i64) V H (H.map (Value.int .i64)):=CH _;refine AD.run Aa 1 Y (Fh 2 (n:=4) (sz:=1) (cs:=(AH 4 (vI 0))) Y Y Y Y Y (λ_=>Y) (λ_=>Y) (λ_=>Y) (λb7=>?_));have h7:AF (CD .i64) V (AH 4 0) (AH 4 (vI 0)):=by have:=CH (k:=.i64) (V:=V) (AH 4 0);rwa[K4]at this
 refine AD.run Aa 6 Y ?_;refine sn U (λW L' V' M'=>∃(Z:List Int),∃X,L'=[(2,sP b4),(4,sP b7)]/\M'=[.row (.slice (some ⟨b4,0,none⟩) 4 4) X 261 1,.row (.slice (some ⟨b6,0,none⟩) 4 4) (H.map (Value.int .i64)) 261 1,.row (.slice (some ⟨b7,0,none⟩) 4 4) (AH 4 (vI 0)) 261 1]/\AF (CD .i64) V' Z X/\AF (CD .i64) V' H (H.map (Value.int .i64))/\AF (CD .i64) V' (AH 4 0) (AH 4 (vI 0))/\W Z=some r) Y ?_ λW U=>?_
 ·rintro L' ar M' ⟨Z,X,rfl,rfl,h8,_,_,U⟩;refine xr Y (X6 Aa 0 (kd:=.i64) Y Y Y h8 Y Y (λaa=>?_));refine QS Aa 2 (nv:=(Z.map (Value.int .i64))) Y Y Y Y Y Y Y Y (by rw[Ap];exact aa) (λu hu=>by obtain⟨_,_,rfl⟩:=List.mem_map.1 hu;rfl) Y Y ?_;have au:AF (CD .i64) ar Z (Z.map (Value.int .i64)):=CH _;cases U;exact xr Y (PN Aa 2 (kd:=.i64) Y Y Y Y Y Y Y au Y)
 ·refine lq (λab L' V' M'=>∃(K:List Int),∃z,∃(y:Int),L'=[(2,sP b4),(3,sP b6),(4,sP b7),(6,sI y)]/\M'=[.row (.slice (some ⟨b4,0,none⟩) 4 4) z 261 1,.row (.slice (some ⟨b6,0,none⟩) 4 4) (H.map (Value.int .i64)) 261 1,.row (.slice (some ⟨b7,0,none⟩) 4 4) (AH 4 (vI 0)) 261 1]/\AF (CD .i64) V' K z/\AF (CD .i64) V' H (H.map (Value.int .i64))/\AF (CD .i64) V' (AH 4 0) (AH 4 (vI 0))/\Ga H W ab K y=some r) Y tu ?_;rintro ab L' av M' ⟨K,z,y,rfl,rfl,N,ad,_,U⟩;refine i4 U λ_ U=>?_;refine Yr.DU (pm 10 0 511) Y ?_;have⟨ae,U⟩:=AL U;refine xr Y (CX 0 Y (λaf aw ax=>?_));obtain⟨_,rfl,ag⟩:=N.get ae;have ah:=AF.len N;refine Lb Aa Y Y Y (ixA ae ah af (CD .i64).pos) ?_;refine xr Y (Hp Aa 0 (x:=vI (AN K y)) Y Y Y Y ⟨ag,⟨_,_,Y⟩⟩ Y Y ?_);have⟨ai,U⟩:=AL U;refine xr Y (CX 1 Y (λaj ay az=>?_));obtain⟨_,rfl,ak⟩:=ad.get ai;have al:=AF.len ad;refine Lb Aa Y Y Y (ixA ai al aj (CD .i64).pos) ?_;refine xr Y (Hp Aa 1 (x:=vI (AN H y)) Y Y Y Y ⟨ak,⟨_,_,Y⟩⟩ Y Y ?_);have⟨O,U⟩:=AL U;refine xr Y (CX 0 Y (λan a1 a6=>?_));obtain⟨_,rfl,_⟩:=N.get O;have ao:=AF.len N;refine Lb Aa Y Y Y (ixA O ao an (CD .i64).pos) ?_;have aq:=AF.len N;have a7:AF (CD .i64) av (K.set y.toNat (max (AN K y) (AN H y))) (z.take (y.toNat*1)++[vI (max (AN K y) (AN H y))]++z.drop ((y.toNat*1)+1)):=AF.set N O Y;exact Yr.Zr 0 Y ⟨_,_,Y⟩ (stB O aq) Y rd
def Gv(H:Int)(K:(List Int)->AA (List Int)):Nat->(List Int)->Int->AA (List Int)
 |0,_,_=>none|N+1,z,y=>cond (decide (y<4)) (Ba (0<=y/\y<(z.length:Int)) (Ba (0<=y/\y<(z.length:Int)) (Gv H K N (z.set y.toNat (min (AB ((AN z y)*H)) 16385)) (AB (y+1))))) (K z)
def ID(y:List Int)(z:Int):AA (List Int):=
 (Ba (y.length=4) (jn (λ(H:List Int)=>some H) (λK=>Gv z K ((4:Int).toNat+1) y 0)))
theorem VX(Z:List Int)(W:Int){r:List Int}(U:ID Z W=some r):Sp 217 [.agg ⟨Z.map (Value.int .i64)⟩,vI W] V (λ_ v=>v=.agg ⟨r.map (Value.int .i64)⟩):=by
 refine se Tryz.func217 ?_;refine AD.run Aa 2 Y ?_;have⟨q3,U⟩:=AL U;refine Uz Aa (n:=4) (cs:=(Z.map (Value.int .i64))) Y Y Y Y (by rw[Ap];exact q3) Y (λ_=>Y) (λb4=>?_);have h4:AF (CD .i64) V Z (Z.map (Value.int .i64)):=CH _;refine AD.run Aa 1 Y (Fh 1 (n:=4) (sz:=1) (cs:=(AH 4 (vI 0))) Y Y Y Y Y (λ_=>Y) (λ_=>Y) (λ_=>Y) (λb5=>?_));have h5:AF (CD .i64) V (AH 4 0) (AH 4 (vI 0)):=by have:=CH (k:=.i64) (V:=V) (AH 4 0);rwa[K4]at this
 refine AD.run Aa 6 Y ?_;refine sn U (λJ9 L' V' M'=>∃(X:List Int),∃O,L'=[(2,sP b4),(4,sP b5)]/\M'=[.row (.slice (some ⟨b4,0,none⟩) 4 4) O 261 1,.row (.slice (some ⟨b5,0,none⟩) 4 4) (AH 4 (vI 0)) 261 1]/\AF (CD .i64) V' X O/\AF (CD .i64) V' (AH 4 0) (AH 4 (vI 0))/\J9 X=some r) Y ?_ λJ9 U=>?_
 ·rintro L' ak M' ⟨X,O,rfl,rfl,h6,_,U⟩;refine xr Y (X6 Aa 0 (kd:=.i64) Y Y Y h6 Y Y (λaa=>?_));refine QS Aa 1 (nv:=(X.map (Value.int .i64))) Y Y Y Y Y Y Y Y (by rw[Ap];exact aa) (λu hu=>by obtain⟨_,_,rfl⟩:=List.mem_map.1 hu;rfl) Y Y ?_;have al:AF (CD .i64) ak X (X.map (Value.int .i64)):=CH _;cases U;exact xr Y (PN Aa 1 (kd:=.i64) Y Y Y Y Y Y Y al Y)
 ·refine lq (λab L' V' M'=>∃(H:List Int),∃z,∃(y:Int),L'=[(1,sI W),(2,sP b4),(4,sP b5),(6,sI y)]/\M'=[.row (.slice (some ⟨b4,0,none⟩) 4 4) z 261 1,.row (.slice (some ⟨b5,0,none⟩) 4 4) (AH 4 (vI 0)) 261 1]/\AF (CD .i64) V' H z/\AF (CD .i64) V' (AH 4 0) (AH 4 (vI 0))/\Gv W J9 ab H y=some r) Y tu ?_;rintro ab L' an M' ⟨H,z,y,rfl,rfl,K,_,U⟩;refine i4 U λ_ U=>?_;have⟨ad,U⟩:=AL U;refine xr Y (CX 0 Y (λae ao aq=>?_));obtain⟨_,rfl,af⟩:=K.get ad;have ag:=AF.len K;refine LH Aa Y Y (ixA ad ag ae (CD .i64).pos) ?_;refine xr Y (KM Aa 0 (x:=vI (AN H y)) Y Y Y ⟨af,⟨_,_,Y⟩⟩ Y Y ?_);have⟨N,U⟩:=AL U;refine xr Y (CX 0 Y (λah ar au=>?_));obtain⟨_,rfl,_⟩:=K.get N;have ai:=AF.len K;refine LH Aa Y Y (ixA N ai ah (CD .i64).pos) ?_;have aj:=AF.len K;have av:AF (CD .i64) an (H.set y.toNat (min (AB ((AN H y)*W)) 16385)) (z.take (y.toNat*1)++[vI (min (AB ((AN H y)*W)) 16385)]++z.drop ((y.toNat*1)+1)):=AF.set K N Y;exact Yr.Zr 0 Y ⟨_,_,Y⟩ (stB N aj) Y rd
def GY(y:Int):AA Ah:=
 (some (⟨1,y,[]⟩:Ah))
theorem Mj(y:Int){r:Ah}(U:GY y=some r):Sp 218 [vI y] V (λ_ v=>v=vA (Te r)):=by
 refine se Tryz.func218 ?_;exact rt
def Ki(y:A9):AA (Except Gk Unit):=
 (some (.error (⟨3,0,y⟩:Gk)))
theorem Mi(y:A9){r:Except Gk Unit}(U:Ki y=some r):Sx 221 [vS y] [] V (λV' e M'=>M'=[]/\e=Pv 246 (λ(_:Unit)=>.tuple ⟨[]⟩) r):=by
 refine sx Tryz.func221 ?_;refine xr Y (AIv Y Y ⟨_,Tryz.underlying246,λm h=>by cases h⟩ Y ?_);cases U;exact xr Y (AIu Y Y Y ⟨Y,Y,Y,Y⟩)
def LZ(N:Ak)(y:Ak->AA Ak)(W:(List Ak)->AA Ak):Nat->(List Ak)->Int->AA Ak
 |0,_,_=>none|O+1,H,z=>cond (decide (z<(N.Aw.length:Int))) (Ba (0<=z/\z<(N.Aw.length:Int)) (Az (y (AN N.Aw z)) λK=>Ba ((H++[K]).length*56<=140737488355328) (LZ N y W O (H++[K]) (AB (z+1))))) (W H)
def QO(y:Ak->AA Ak)(z:Ak):AA Ak:=
 (jn (λ(H:List Ak)=>some (⟨z.Op,z.N,z.S,H⟩:Ak)) (λK=>LZ z y K ((z.Aw.length:Int).toNat+1) ([]:List Ak) 0))
def OZ(g:Ak->AA Ak):Prop:=∀{V:AM}(y:Ak){a2:AA Addr}{k2:Nat}(h2:AK Br V a2 k2 y.Aw){r:Ak},g y=some r->Sp 233 [vA (Ws y a2 k2)] V (λV' v=>∃a3 k3,v=vA (Ws r a3 k3)/\AK Br V' a3 k3 r.Aw)
theorem ACc{y:Ak->AA Ak}(z:OZ y):OZ (QO y):=by
 intro V O a2 k2 h2 r U;unfold QO at U;refine se Tryz.func233 ?_;refine AD.run Aa 23 Y (AD.Eh 265 4 Y ?_);have h4:AF Br V ([]:List Ak) []:=AF.nil;refine sn U (λJ7 L' V' M'=>∃(x6:List Ak),∃a5 k5 Z,L'=[(1,.ptr 0 0),(2,.ptr 1 0)]/\M'=[.Bp [sI O.Op,sI O.N,sS O.S,sL a5 x6 k5] 265,.Bp [sI 0,sI 0,sS [],.v (.slice none 0 0)] 265,.row (vL a5 x6 k5) Z 265 4]/\AF Br V' x6 Z/\J7 x6=some r) Y ?_ λJ7 U=>?_
 ·rintro L' _ M' ⟨x6,a5,k5,Z,rfl,rfl,h5,U⟩;refine Yr.QY 2 Y (λV9 ai aj ak=>?_);have ax:=BV h5 ai aj ak;exact ry
 ·refine lq (λae L' V' M'=>∃(H:List Ak),∃aa RF K,∃(W:Int),L'=[(1,.ptr 0 0),(2,.ptr 1 0),(9,sL a2 O.Aw k2),(10,sN O.Aw),(11,sI W)]/\M'=[.Bp [sI O.Op,sI O.N,sS O.S,sL aa H RF] 265,.Bp [sI 0,sI 0,sS [],.v (.slice none 0 0)] 265,.row (vL aa H RF) K 265 4]/\AF Br V' H K/\AK Br V' a2 k2 O.Aw/\LZ O y J7 ae H W=some r) Y ⟨_,_,_,_,_,Y,Y,h4,h2,U⟩ ?_;rintro ae L' _ M' ⟨H,aa,RF,K,W,rfl,rfl,al,an,U⟩;refine i4 U λ_ U=>?_;have⟨ab,U⟩:=AL U;have⟨_,af,X⟩:=AK.get an ab;obtain⟨ao,XO,rfl,aq⟩:=(DS.1 af);refine Yr.ia Y ⟨ab.1,ab.2,X.some⟩ (Yr.ld (x:=vA (Ws (AN O.Aw W) ao XO)) Y X Y (Yr.E2 [7] [2] (pm 8 0 71) Y ?_));have⟨ad,ag,U⟩:=AO U;refine Yr.call Y (z (AN O.Aw W) aq ag) ?_;rintro ar _ ah ⟨au,k20,rfl,_⟩;have av:=AF.mono ah al;refine Yr.RV Y ?_;have⟨aw,U⟩:=AL U;refine Yr.app (nm:=(H++[ad]).length) 2 4 Y zp (λ_ _=>Y) aw (λay k26=>?_);have az:AF Br ar (H++[ad]) (K++(Ws ad au k20)):=AF.app av ⟨_,_,Y,(DS.2 tu),Y⟩;exact SO 3 Y
def Jq:Nat->Ak->AA Ak
 |0,_=>none|n+1,y=>QO (Jq n) y
theorem ACZ:∀n:Nat,OZ (Jq n):=by
 intro n
 induction n with
 |zero=>unfold OZ;intros;rename_i h;simp[Jq]at h|succ n y=>exact ACc y
theorem Xz:OZ (Jq n):=ACZ n
def F3(N:Int)(H:Int):AA (Except Gk Ah):=
 (cond (H==0) (Az (GY N) λO=>some (.ok O)) (jn (Az (CR 1001) λW=>I9 W (λX=>some (.error X)) λx8=>some (.ok (⟨0,0,[]⟩:Ah))) (λK=>cond (H==4) (Az (CR 1002) λy=>I9 y (λz=>some (.error z)) λZ=>K) K)))
theorem Iw(H:Int)(N:Int){r:Except Gk Ah}(U:F3 H N=some r):Sx 236 [vI H,vI N] [] V (λV' e M'=>M'=[]/\e=Pv 246 (λ(y:Ah)=>(vA (Te y):Value)) r):=by
 refine sx Tryz.func236 ?_;refine B4 U Y (λ_ U=>?_) λhb U=>?_
 ·refine Yr.cb U Y (Mj H) λx3 U=>?_;exact rt
 ·refine sm U (λO L' V' M'=>L'=[(4,.ptr 0 0)]/\M'=[.Bp [sI 0,sI 0,sS []] 60]/\O=some r) Y ?_ λO U=>?_
  ·rintro L' _ M' ⟨rfl,rfl,U⟩;refine xr Y ?_;have⟨_,K,U⟩:=AO U;refine Y.cx U [] Y (Co 1001 K) (λx8 X U=>?_);rintro _ _ _ rfl;refine⟨_,Y,?_⟩;exact rt
  ·refine i4 U λ_ U=>?_;refine xr Y ?_;have⟨_,z,U⟩:=AO U;refine Y.cx U [] Y (Co 1002 z) (λZ W U=>?_);rintro _ _ _ rfl;refine⟨_,Y,?_⟩;exact rd
def Qc(y:Int):AA (Int×Int):=
 (cond (y==(-9223372036854775808:Int)) (some (0,3)) (some ((AB (0-y)),0)))
theorem VI(y:Int){r:Int×Int}(U:Qc y=some r):Sp 237 [vI y] V (λ_ v=>v=.tuple ⟨[vI (r.1),vI (r.2)]⟩):=by
 refine se Tryz.func237 ?_;exact i3 U
def Db(y:Bool):AA Ah:=
 (cond y (some (⟨3,1,[]⟩:Ah)) (some (⟨3,0,[]⟩:Ah)))
theorem Fy(y:Bool){r:Ah}(U:Db y=some r):Sp 238 [vB y] V (λ_ v=>v=vA (Te r)):=by
 refine se Tryz.func238 ?_;exact i3 U
def IZ(y:A9):AA (Except Gk Ah):=
 (jn (some (.ok (⟨2,0,y⟩:Ah))) (λz=>cond (decide (64<(y.length:Int))) (Az (CR 1006) λH=>I9 H (λK=>some (.error K)) λN=>z) z))
theorem NT(z:A9){r:Except Gk Ah}(U:IZ z=some r):Sx 239 [vS z] [] V (λV' e M'=>M'=[]/\e=Pv 246 (λ(y:Ah)=>(vA (Te y):Value)) r):=by
 unfold IZ at U;refine sx Tryz.func239 ?_;refine sm U (λK L' V' M'=>L'=[(0,sS z),(2,.ptr 0 0)]/\M'=[.Bp [sI 0,sI 0,sS []] 60]/\K=some r) Y ?_ λK U=>?_
 ·rintro L' _ M' ⟨rfl,rfl,U⟩;exact rt
 ·refine i4 U λ_ U=>?_;refine xr Y ?_;have⟨_,H,U⟩:=AO U;refine Y.cx U [] Y (Co 1006 H) (λO N U=>?_);rintro _ _ _ rfl;refine⟨_,Y,?_⟩;exact rd
theorem Pg(x:List A9)(y:A9){a:AA Addr}{b:Nat}(hr:AF Bf V x cs)(hy:AF Bf V [y] ds){i:Int}(hi:0<=i/\i<=(x.length:Int))(hb:(x.length+1)*16<=140737488355328):SR 245 [.slice a x.length c,.int .i64 i,vR b] [⟨.slice a x.length c,cs,9,1⟩,⟨vR b,ds,9,1⟩] V (λV' v ag=>∃a' k' aa r2,v=.slice a' (x.take i.toNat++[y]++x.drop i.toNat).length k'/\ag=[⟨.slice a' (x.take i.toNat++[y]++x.drop i.toNat).length k',aa,9,1⟩,r2]/\AF Bf V' (x.take i.toNat++[y]++x.drop i.toNat) aa):=by
 have hlen:(x.take i.toNat++[y]++x.drop i.toNat).length=x.length+1:=by simp;omega
 rw[hlen];have O:=hr.AA2;have H:=hy.AA2;have ah:Bf.sz=1:=Y;have z:ds.length=1:=by simpa[ah]using hy.len
 have ab:cs.length=x.length*1:=hr.len;have hW:∀n:Int,0<=n->n<=9223372036854775807->AB n=n:=λn h h'=>Vg ox h';refine Q7.enter (T:=NP) Tryz.func245 Y kz Y Y Y Y ?_;refine MZ 0 Y (λr1 r2 r3 r4 r5=>?_);have aj:c<=9223372036854775807:=r3;refine xr Y (HD Aa Y Y (lo:=i) (hi:=(x.length:Int)) Y Y ⟨by omega,by omega,by omega⟩ (lo':=i.toNat) Y Y Y ?_);refine xr Y (CY Y Y ?_);refine xr Y ?_;cases ad:(i==(x.length:Int))
 case true=>
  have he:i=(x.length:Int):=by simpa using ad
  refine CT Y Y ?_;refine xr Y (ABx Aa 0 Y Y Y Y Y Y (.row 1 (off:=0) Y (l:=ds) (λj v hv=>by simpa using hv)) H (by simpa using z) (nm:=x.length+1) Y (λ_=>Y) Y hb (λa' c'=>?_));refine Yr.ret Y ?_;dsimp only;refine⟨[⟨.slice a' (x.length+1) c',cs++ds,9,1⟩,_],Y,Y,a',c',cs++ds,_,Y,Y,?_⟩;have:x.take i.toNat++[y]++x.drop i.toNat=x++[y]:=by rw[he];simp
  rw[this];exact hr.app hy
 case false=>
  have ak:i<(x.length:Int):=by simp at ad;omega
  obtain⟨g,rfl⟩:∃g,a=some ⟨g,0,none⟩:=by
   cases a with
   |none=>have:=(r4 Y).1;omega|some p=>obtain⟨g,rfl⟩:=r5 p Y;exact⟨g,Y⟩
  have ae:i.toNat<x.length:=ox
  have ei:((i.toNat:Nat):Int)=i:=Mx hi.1;have K:AF Bf V (x.take i.toNat++[y]++x.drop i.toNat) (cs.take (i.toNat*1)++ds++cs.drop (i.toNat*1)):=((hr.take i.toNat).app hy).app (hr.drop i.toNat);have e0:Em (some ⟨g,0,none⟩) c 0 1=some ⟨g,0,none⟩:=by simp[Em,Addr.add_lit]
  refine CY Y Y ?_;refine xr Y ?_;have ew:AB ((x.length:Int)+((1:Nat):Int))=((x.length+1:Nat):Int):=by rw[hW _ ox ox];omega
  cases N:decide ((c:Int)<AB ((x.length:Int)+((1:Nat):Int)))
  case true=>
   have hc:c<x.length+1:=by rw[ew]at N;simp at N;omega
   refine CT Y Y ?_;refine xr Y (HD Aa Y Y (lo:=0) (hi:=i) Y Y ⟨by omega,by omega,by omega⟩ (lo':=0) Y (n':=i.toNat) ox (c':=c) ox ?_);have eq:AB (AB ((x.length:Int)+((1:Nat):Int))-i)=((x.length+1-i.toNat:Nat):Int):=by
    rw[ew,hW _ ox ox];omega
   have e5:i.toNat+(x.length+1-i.toNat)=x.length+1:=ox
   refine xr Y (AEe Aa 0 Y Y Y Y Y Y Y e0 Y eq ox Y ox ox (by rw[e5];exact hb) (nq:=x.length+1) e5 (λ_=>Y) (λb2 c2=>?_));have W:(AH (x.length+1-i.toNat) ([.string ⟨⟨[]⟩⟩]:List Value)).flatten.length=(x.length+1-i.toNat)*1:=by simp[P2]
   refine xr Y (MZ 2 Y (λs1 s2 s3 s4 s5=>?_));refine HD Aa Y Y (lo:=i) (hi:=((x.length+1:Nat):Int)) Y Y ⟨by omega,by omega,by omega⟩ (lo':=i.toNat) Y (n':=x.length+1-i.toNat) ox Y ?_;have a1:Em (some ⟨b2,0,none⟩) c2 i.toNat 1=some ⟨b2,i.toNat*1,none⟩:=by simp only[Em];rw[if_neg ox];simp only[Bq,Addr.add_lit,Bo]
   refine xr Y (Ms Aa 2 Y Y Y a1 Y Y (.row 1 (off:=0) Y (l:=ds) (λj v hv=>by simpa using hv)) (m:=1) (Cq ox) (by simpa using z) ?_ H Y Y Y ?_)
   ·simp only[AT,Ao,z];rw[W];show i.toNat*1+1<=min (i.toNat*1) cs.length+(x.length+1-i.toNat)*1;omega
   refine Yr.E2 [] [2] (pm 9 0 255) Y ?_;have ai:AB (i+((1:Nat):Int))=((i.toNat+1:Nat):Int):=by rw[hW _ ox ox];omega
   refine xr Y (IF Aa Y Y Y (lo:=AB (i+((1:Nat):Int))) (hi:=((x.length+1:Nat):Int)) Y Y ⟨by omega,by omega,by omega⟩ (lo':=i.toNat+1) ox (n':=x.length-i.toNat) ox Y ?_);refine xr Y (IF Aa Y Y Y (lo:=i) (hi:=(x.length:Int)) Y Y ⟨by omega,by omega,by omega⟩ (lo':=i.toNat) Y (n':=x.length-i.toNat) ox Y ?_);have a3:Em (some ⟨g,0,none⟩) c i.toNat 1=some ⟨g,i.toNat*1,none⟩:=by simp only[Em];rw[if_neg ox];simp only[Bq,Addr.add_lit,Bo]
   have a2:∃o2,(o2=(i.toNat+1)*1\/(x.length-i.toNat=0))/\Em (some ⟨b2,0,none⟩) c2 (i.toNat+1) 1=some ⟨b2,o2,none⟩:=by
    refine⟨(i.toNat+1)*1,.inl Y,?_⟩;simp only[Em];rw[if_neg ox];simp only[Bq,Addr.add_lit,Bo]
   have⟨o2,af,a2⟩:=a2;have af:o2=(i.toNat+1)*1:=ox
   subst af;refine xr Y (Ms Aa 2 Y Y Y a2 Y Y (by rw[a3];exact .row 0 (off:=i.toNat*1) Y (l:=cs.drop (i.toNat*1)) (λj v hv=>by rwa[DT]at hv)) (m:=x.length-i.toNat) (Nat.min_self _) (by show(cs.drop (i.toNat*1)).length=(x.length-i.toNat)*1;simp;omega) ?_ (λu hu=>O u (DK hu)) Y Y Y ?_)
   ·simp only[AT,Ao,Bj,z];rw[W];show(i.toNat+1)*1+(cs.length-i.toNat*1)<=_;omega
   have X:=WU (cs:=cs) (ds:=ds) (n:=x.length) (i:=i.toNat) (sz:=1) ab z W ae;refine xr Y (AEc [2,1] [(6,.v (.slice (some ⟨b2,0,none⟩) (x.length+1) c2))] Y Y Y Y sb ?_);refine Y.ret Y ?_;dsimp only;refine⟨[⟨.slice (some ⟨b2,0,none⟩) (x.length+1) c2,_,9,1⟩,_],Y,Y,_,c2,_,_,Y,Y,?_⟩;rw[<- X]at K;exact K
  case false=>
   have hc:x.length+1<=c:=by rw[ew]at N;simp at N;omega
   refine CY Y Y ?_;refine xr Y (HD Aa Y Y (lo:=0) (hi:=AB ((x.length:Int)+((1:Nat):Int))) Y Y ⟨by omega,by omega,by omega⟩ (lo':=0) Y (n':=x.length+1) ox (c':=c) ox ?_);refine xr Y (Y9 0 1 Y hc (λ_=>Y) Y (λjs Z=>?_));have Z:js.length=1:=by simpa using Z
   have ai:AB (i+((1:Nat):Int))=((i.toNat+1:Nat):Int):=by rw[hW _ ox ox];omega
   refine HD Aa Y Y (lo:=AB (i+((1:Nat):Int))) (hi:=((x.length+1:Nat):Int)) Y Y ⟨by omega,by omega,by omega⟩ (lo':=i.toNat+1) ox (n':=x.length-i.toNat) ox Y (xr Y ?_);have a2:Em (some ⟨g,0,none⟩) c (i.toNat+1) 1=some ⟨g,(i.toNat+1)*1,none⟩:=by
    simp only[Em];rw[if_neg ox];simp only[Bq,Addr.add_lit,Bo]
   have a3:Em (some ⟨g,0,none⟩) c i.toNat 1=some ⟨g,i.toNat*1,none⟩:=by simp only[Em];rw[if_neg ox];simp only[Bq,Addr.add_lit,Bo]
   rw[e0];refine AEd 0 1 (t:=108) (tb:=4) (e:=9) (ez:=1) Y Y Y Tryz.func266 kz kz kz kz Tryz.underlying108 Tryz.sizeOf9 Y a2 (by decide) ?_ Y Y ?_
   ·show 0<c*1;omega
   refine xr Y (CT Y Y ?_);refine Yr.E2 [] [0] (pm 9 0 255) Y ?_;refine xr Y (IF Aa Y Y Y (lo:=AB (i+((1:Nat):Int))) (hi:=((x.length+1:Nat):Int)) Y Y ⟨by omega,by omega,by omega⟩ (lo':=i.toNat+1) ox (n':=x.length-i.toNat) ox Y ?_);refine xr Y (IF Aa Y Y Y (lo:=i) (hi:=((x.length+1:Nat):Int)) Y Y ⟨by omega,by omega,by omega⟩ (lo':=i.toNat) Y (n':=x.length+1-i.toNat) ox Y ?_);refine xr Y ?_;refine Ms Aa 0 Y Y Y a2 Y Y (by rw[a3];exact .row 0 (off:=i.toNat*1) Y (l:=cs.drop (i.toNat*1)) (λj v hv=>by
    rw[DT]at hv;rw[DL,if_pos (As.1 hv).1];exact hv)) (m:=x.length-i.toNat) (Kq ox) (by show(cs.drop (i.toNat*1)).length=(x.length-i.toNat)*1;simp;omega) ?_ (λu hu=>O u (DK hu)) Y Y Y ?_
   ·simp only[AT,Bj];omega
   refine xr Y (HD Aa Y Y (lo:=i) (hi:=((x.length+1:Nat):Int)) Y Y ⟨by omega,by omega,by omega⟩ (lo':=i.toNat) Y (n':=x.length+1-i.toNat) ox Y ?_);refine xr Y (Ms Aa 0 Y Y Y a3 Y Y (.row 1 (off:=0) Y (l:=ds) (λj v hv=>by simpa using hv)) (m:=1) (Cq ox) (by simpa using z) ?_ H Y Y Y ?_)
   ·simp only[AT,Ao,Bj,z];omega
   refine Yr.ret Y ?_;dsimp only;refine⟨[⟨.slice (some ⟨g,0,none⟩) (x.length+1) c,_,9,1⟩,_],Y,Y,_,c,_,_,Y,Y,?_⟩;have X:=Yh (cs:=cs) (ds:=ds) (js:=js) (n:=x.length) (i:=i.toNat) (sz:=1) ab z Z ae;rw[<- X]at K;exact K
def RC(y:Int):AA Bool:=
 (some ((decide (97<=y))&&(decide (y<=122))))
theorem Uk(y:Int)(U:RC y=some r):Sp 246 [.int .i32 y] V (λ_ v=>v=vB r):=by
 refine se Tryz.func246 ?_;exact rt
def AAb(s:A9):Nat->Nat->AA Int
 |0,_=>none|n+1,pos=>cond (decide (pos<s.length)) (Az (RC (((Utf8.decode ⟨⟨s⟩⟩ pos).1:Nat):Int)) λy=>cond (((!y)&&((decide ((((Utf8.decode ⟨⟨s⟩⟩ pos).1:Nat):Int)<48))||(decide (57<(((Utf8.decode ⟨⟨s⟩⟩ pos).1:Nat):Int)))))&&((((Utf8.decode ⟨⟨s⟩⟩ pos).1:Nat):Int) !=95)) (some ((pos:Nat):Int)) (AAb s n (pos+(Utf8.decode ⟨⟨s⟩⟩ pos).2))) (some (s.length:Int))
def X4(y:A9):AA Int:=AAb y 1099511627776 0
theorem AEP(z:A9){r:Int}(U:X4 z=some r):Sp 247 [vS z] V (λ_ v=>v=vI r):=by
 refine se Tryz.func247 ?_;refine xr Y (AL4 (s:=z) Y Y Tryz.underlying9 Y (λb=>?_));refine lq (λn L' V' M'=>∃pos:Nat,L'=[(0,sS z),(6,sP b)]/\M'=[.ext (ABC b z pos)]/\AAb z n pos=some r) Y tu ?_;rintro n L' _ M' ⟨pos,rfl,rfl,U⟩;rw[AAb]at U;refine xr Y ?_;rcases CV U with⟨H,U⟩|⟨H,U⟩
 ·refine AHm 0 Y Y Y Y (of_decide_eq_true H) Y Y ?_;generalize(((Utf8.decode ⟨⟨z⟩⟩ pos).1:Nat):Int)=c at U⊢;generalize(Utf8.decode ⟨⟨z⟩⟩ pos).2=wd at U⊢;refine xr Y (CT Y Y ?_);refine Yr.cb U Y (Uk c) λy U=>?_;refine xr Y ?_;rcases CV U with⟨H,U⟩|⟨H,U⟩
  ·refine CT Y H ?_;exact rt
  ·refine CY Y H ?_;exact rd
 ·refine AHn 0 Y Y Y Y (of_decide_eq_false H) ?_;refine xr Y (CY Y Y ?_);exact rt
def Jk(y:A9):AA Bool:=
 (jn (λ(H:Bool)=>cond H (some true) (some false)) (λz=>cond (y==([112,114,111,99]:A9)) (z (y==([112,114,111,99]:A9))) (cond (y==([108,101,116]:A9)) (z (y==([108,101,116]:A9))) (cond (y==([112,117,116]:A9)) (z (y==([112,117,116]:A9))) (cond (y==([100,101,108,101,116,101]:A9)) (z (y==([100,101,108,101,116,101]:A9))) (cond (y==([105,102]:A9)) (z (y==([105,102]:A9))) (cond (y==([101,108,115,101]:A9)) (z (y==([101,108,115,101]:A9))) (cond (y==([102,111,114]:A9)) (z (y==([102,111,114]:A9))) (cond (y==([116,111]:A9)) (z (y==([116,111]:A9))) (cond (y==([109,97,120]:A9)) (z (y==([109,97,120]:A9))) (cond (y==([101,109,105,116]:A9)) (z (y==([101,109,105,116]:A9))) (cond (y==([97,98,111,114,116]:A9)) (z (y==([97,98,111,114,116]:A9))) (cond (y==([110,111,116]:A9)) (z (y==([110,111,116]:A9))) (cond (y==([97,110,100]:A9)) (z (y==([97,110,100]:A9))) (cond (y==([111,114]:A9)) (z (y==([111,114]:A9))) (cond (y==([105,110,116]:A9)) (z (y==([105,110,116]:A9))) (cond (y==([115,116,114]:A9)) (z (y==([115,116,114]:A9))) (cond (y==([98,111,111,108]:A9)) (z (y==([98,111,111,108]:A9))) (cond (y==([116,101,120,116]:A9)) (z (y==([116,101,120,116]:A9))) (cond (y==([108,101,110]:A9)) (z (y==([108,101,110]:A9))) (cond (y==([103,101,116,105,110,116]:A9)) (z (y==([103,101,116,105,110,116]:A9))) (cond (y==([103,101,116,115,116,114]:A9)) (z (y==([103,101,116,115,116,114]:A9))) (cond (y==([104,97,115]:A9)) (z (y==([104,97,115]:A9))) (cond (y==([110,111,119]:A9)) (z (y==([110,111,119]:A9))) (cond (y==([114,97,110,100,111,109]:A9)) (z (y==([114,97,110,100,111,109]:A9))) (z (y==([110,111,100,101]:A9))))))))))))))))))))))))))))
theorem Xu(H:A9)(U:Jk H=some r):Sp 248 [vS H] V (λ_ v=>v=vB r):=by
 unfold Jk at U;refine se Tryz.func248 ?_;refine sm U (λK L' V' M'=>∃(z:Bool),L'=[(4,sB z)]/\M'=[]/\K z=some r) Y ?_ λK U=>?_
 ·rintro L' _ M' ⟨z,rfl,rfl,U⟩;exact i3 U
 ·refine i5 U λy U=>?_;refine i5 U λy U=>?_;refine i5 U λy U=>?_;refine i5 U λy U=>?_;refine i5 U λy U=>?_;refine i5 U λy U=>?_;refine i5 U λy U=>?_;refine i5 U λy U=>?_;refine i5 U λy U=>?_;refine i5 U λy U=>?_;refine i5 U λy U=>?_;refine i5 U λy U=>?_;refine i5 U λy U=>?_;refine i5 U λy U=>?_;refine i5 U λy U=>?_;refine i5 U λy U=>?_;refine i5 U λy U=>?_;refine i5 U λy U=>?_;refine i5 U λy U=>?_;refine i5 U λy U=>?_;refine i5 U λy U=>?_;refine i5 U λy U=>?_;refine i5 U λy U=>?_;exact B4 U Y (λ_ U=>rd) λ_ U=>rd
def MX(y:Gd)(z:Gd):AA Bool:=
 (some (y.Name==z.Name))
theorem ABg(K:Gd)(z:Gd)(H:Bi V (some ⟨y,o0,none⟩) 0 (AFY z))(U:MX K z=some r):Sp 250 [vA (AFY K),.pointer (some ⟨y,o0,none⟩)] V (λ_ v=>v=vB r):=by
 refine se Tryz.func250 ?_;exact Yr.ld (x:=vS z.Name) Y (Bi.part H 0 1 Y) Y rt
def Oj(y:Int):AA (KW×Bool):=
 (jn (λ(H:Bool)=>cond H (some ((⟨true,true,false,false,false,false⟩:KW),true)) (cond (y==3) (some ((⟨false,true,true,false,false,false⟩:KW),true)) (jn (λ(K:Bool)=>cond K (some ((⟨false,true,false,false,false,false⟩:KW),true)) (cond (y==5) (some ((⟨false,true,false,false,true,true⟩:KW),true)) (cond (y==6) (some ((⟨true,true,true,true,true,false⟩:KW),true)) (cond (y==8) (some ((⟨false,false,false,true,false,false⟩:KW),true)) (some ((⟨false,false,false,false,false,false⟩:KW),false)))))) (λJ6=>cond (y==4) (J6 (y==4)) (J6 (y==7)))))) (λz=>cond (y==1) (z (y==1)) (z (y==2))))
theorem AEU(y:Int){r:KW×Bool}(U:Oj y=some r):Sp 252 [vI y] V (λ_ v=>v=.tuple ⟨[vA (APX r.1),vB r.2]⟩):=by
 unfold Oj at U;refine se Tryz.func252 ?_;refine sm U (λN L' V' M'=>∃(H:Bool),L'=[(2,.ptr 0 0),(4,sI y),(5,sB H)]/\M'=[.Bp [sB false,sB false,sB false,sB false,sB false,sB false] 334]/\N H=some r) Y ?_ λN U=>?_
 ·rintro L' _ M' ⟨H,rfl,rfl,U⟩;refine i1 U λz U=>?_;refine i1 U λz U=>?_;refine sm U (λJ6 L' V' M'=>∃(K:Bool),L'=[(2,.ptr 0 0),(4,sI y),(12,sB K)]/\M'=[.Bp [sB false,sB false,sB false,sB false,sB false,sB false] 334]/\J6 K=some r) Y ?_ λJ6 U=>?_
  ·rintro L' _ M' ⟨K,rfl,rfl,U⟩;refine i1 U λz U=>?_;refine i1 U λz U=>?_;refine i1 U λz U=>?_;exact i3 U
  ·exact B4 U Y (λ_ U=>rd) λ_ U=>rd
 ·exact B4 U Y (λ_ U=>rd) λ_ U=>rd
def NL(y z:Int):AA A9:=Ba (z=10/\ -9223372036854775808<=y/\y<=9223372036854775807) (some (Go.Lib.itoa y))
theorem VM(y O:Int)(W:Hz V){r:A9}(U:NL y O=some r):Sp 256 [vI y,vI O] V (λ_ v=>v=vS r):=by
 have⟨⟨z,q1,q2⟩,H⟩:=AL U;obtain rfl:=Bt H;subst z;refine⟨⟨_,Tryz.func256,by kernel_rfl,by kernel_rfl⟩,λw hw=>(Tryz.strconv_FormatInt_10 y q1 q2 w hw.t.is).mono ?_⟩;rintro _ _ ⟨rfl,k,os,rfl⟩;have K:∀j,j<w.heap.size->(Go.Sort.grow (w.drewN k) os).heap[j]? =w.heap[j]? :=λj X=>by
  show(w.heap++os)[j]? =w.heap[j]?;rw[Wq X]
 refine⟨_,V,Y,⟨Y,Y,Y,?_,K⟩,DI.refl V,⟨λa x Z=>?_,hw.t.same (K 1 hw.t.lt)⟩,λ_ _ h=>.inl h,Y⟩
 ·show w.heap.size<=(w.heap++os).size;simp
 ·have h1:=hw a x Z;have N:=World.block_lt_of_cell? w a h1;rw[World.cell?_of_block (w:=w) (K _ N)];exact h1
def MO(z:List AR)(H:A9)(K:Ah->AA Ah):Nat->Ah->Int->AA Ah
 |0,_,_=>none|W+1,O,y=>cond (decide (y<(z.length:Int))) (Ba (0<=y/\y<(z.length:Int)) (cond ((AN z y).Key==H) (some (⟨(AN z y).JK.BD,(AN z y).JK.N,(AN z y).JK.S⟩:Ah)) (MO z H K W O (AB (y+1))))) (K O)
def MP(y:List AR)(z:A9):AA Ah:=
 (jn (λ(K:Ah)=>some (⟨0,0,[]⟩:Ah)) (λH=>MO y z H ((y.length:Int).toNat+1) (default:Ah) 0))
theorem AF3(z:List AR)(N:A9){a2:AA Addr}(h2:AK Au V a2 y z){r:Ah}(U:MP z N=some r):Sp 257 [vL a2 z y,vS N] V (λ_ v=>v=vA (Te r)):=by
 unfold MP at U;refine se Tryz.func257 ?_;refine AD.run Aa 11 Y ?_;refine sn U (λW L' V' M'=>∃(X:Ah),L'=[(4,.ptr 0 0)]/\M'=[.Bp (Yl X) 60]/\W X=some r) Y ?_ λW U=>?_
 ·rintro L' _ M' ⟨X,rfl,rfl,U⟩;exact rt
 ·refine lq (λn9 L' V' M'=>∃(Z:Ah)(O:Int),L'=[(1,sS N),(4,.ptr 0 0),(7,sL a2 z y),(8,sN z),(9,sI O)]/\M'=[.Bp (Yl Z) 60]/\AK Au V' a2 y z/\MO z N W n9 Z O=some r) Y ⟨_,_,Y,Y,h2,U⟩ ?_;rintro n9 L' _ M' ⟨Z,O,rfl,rfl,aa,U⟩;refine i4 U λhb U=>?_;have⟨K,U⟩:=AL U;obtain⟨_,rfl,H⟩:=AK.get aa K;exact Yr.ia Y ⟨K.1,K.2,H.some⟩ (Yr.ld (x:=vA (Zv (AN z O))) Y H Y (B4 U Y (λ_ U=>rt) λ_ U=>r1))
def ADS(y:Int)(z:Int):AA (Int×Int):=
 (cond (((decide (0<z))&&(decide ((AB (y+z))<y)))||((decide (z<0))&&(decide (y<(AB (y+z)))))) (some (0,3)) (some ((AB (y+z)),0)))
theorem AJz(y:Int)(z:Int){r:Int×Int}(U:ADS y z=some r):Sp 258 [vI y,vI z] V (λ_ v=>v=.tuple ⟨[vI (r.1),vI (r.2)]⟩):=by
 refine se Tryz.func258 ?_;exact i3 U
def ADO(y:Int)(z:Int):AA (Int×Int):=
 (cond (((decide (0<z))&&(decide (y<(AB (y-z)))))||((decide (z<0))&&(decide ((AB (y-z))<y)))) (some (0,3)) (some ((AB (y-z)),0)))
theorem AJv(y:Int)(z:Int){r:Int×Int}(U:ADO y z=some r):Sp 259 [vI y,vI z] V (λ_ v=>v=.tuple ⟨[vI (r.1),vI (r.2)]⟩):=by
 refine se Tryz.func259 ?_;exact i3 U
def ADP(z:Int)(y:Int):AA (Int×Int):=
 (cond ((z==0)||(y==0)) (some (0,0)) (cond (z==(-1:Int)) (Az (Qc y) λH=>some (H.1,H.2)) (cond (y==(-1:Int)) (Az (Qc z) λK=>some (K.1,K.2)) (Ba (y≠0) (cond ((AKj .i64 (AB (z*y)) y) !=z) (some (0,3)) (some ((AB (z*y)),0)))))))
theorem AJw(y:Int)(z:Int){r:Int×Int}(U:ADP y z=some r):Sp 260 [vI y,vI z] V (λ_ v=>v=.tuple ⟨[vI (r.1),vI (r.2)]⟩):=by
 refine se Tryz.func260 ?_;refine i1 U λH U=>?_;refine B4 U Y (λ_ U=>?_) λH U=>?_
 ·refine Yr.cb U Y (VI z) λN U=>?_;exact rt
 ·refine B4 U Y (λ_ U=>?_) λH U=>?_
  ·refine Yr.cb U Y (VI y) λO U=>?_;exact rt
  ·have⟨K,U⟩:=AL U;refine xr Y (TW Y Y K ?_);exact i3 U
def ADR(z:Int)(y:Int):AA (Int×Int):=
 (cond (y==0) (some (0,4)) (cond (y==(-1:Int)) (Az (Qc z) λH=>some (H.1,H.2)) (Ba (y≠0) (Ba (y≠0) (jn (λ(N:Int)=>some (N,0)) (λK=>cond (((AAw z y) !=0)&&(!((decide (z<0))==(decide (y<0))))) (K (AB ((AKj .i64 z y)-1))) (K (AKj .i64 z y))))))))
theorem AJy(y:Int)(H:Int){r:Int×Int}(U:ADR y H=some r):Sp 261 [vI y,vI H] V (λ_ v=>v=.tuple ⟨[vI (r.1),vI (r.2)]⟩):=by
 refine se Tryz.func261 ?_;refine i1 U λN U=>?_;refine B4 U Y (λ_ U=>?_) λN U=>?_
 ·refine Yr.cb U Y (VI y) λW U=>?_;exact rt
 ·have⟨q4,U⟩:=AL U;refine xr Y (TW Y Y q4 ?_);have⟨O,U⟩:=AL U;refine xr Y (TW Y Y O ?_);refine sm U (λK L' V' M'=>∃(z:Int),L'=[(6,sI z)]/\M'=[]/\K z=some r) Y ?_ λK U=>?_
  ·rintro L' _ M' ⟨z,rfl,rfl,U⟩;exact rt
  ·exact B4 U Y (λ_ U=>rd) λ_ U=>rd
def ADQ(z:Int)(y:Int):AA (Int×Int):=
 (cond (y==0) (some (0,4)) (cond (y==(-1:Int)) (some (0,0)) (Ba (y≠0) (jn (λ(K:Int)=>some (K,0)) (λH=>cond (((AAw z y) !=0)&&(!((decide ((AAw z y)<0))==(decide (y<0))))) (H (AB ((AAw z y)+y))) (H (AAw z y)))))))
theorem AJx(z:Int)(H:Int){r:Int×Int}(U:ADQ z H=some r):Sp 262 [vI z,vI H] V (λ_ v=>v=.tuple ⟨[vI (r.1),vI (r.2)]⟩):=by
 refine se Tryz.func262 ?_;refine i1 U λN U=>?_;refine i1 U λN U=>?_;have⟨q3,U⟩:=AL U;refine xr Y (TW Y Y q3 ?_);refine sm U (λK L' V' M'=>∃(y:Int),L'=[(6,sI y)]/\M'=[]/\K y=some r) Y ?_ λK U=>?_
 ·rintro L' _ M' ⟨y,rfl,rfl,U⟩;exact rt
 ·exact B4 U Y (λ_ U=>rd) λ_ U=>rd
def JC(y:A9):AA Bool:=
 (some (y !=y))
theorem Ou(y:A9)(U:JC y=some r):Sp 265 [vS y] V (λ_ v=>v=vB r):=by
 refine se Tryz.func265 ?_;exact rt
variable {f1 f2 aH:Nat} {ca1 ca2:List Value}
def Cz(z:List Gd)(K:Gd->AA Bool)(N:AA Int):Nat->Int->AA Int
 |0,_=>none|O+1,y=>cond (decide (y<(z.length:Int))) (Ba (0<=y/\y<(z.length:Int)) (Az (K (AN z y)) λH=>cond H (some y) (Cz z K N O (AB (y+1))))) N
def EA(y:List Gd)(z:Gd->AA Bool):AA Int:=
 (jn (some (-1:Int)) (λH=>Cz y z H ((y.length:Int).toNat+1) 0))
theorem MF(H:List Gd)(W:Gd->AA Bool){a2:AA Addr}(h2:AK Er V a2 z H)(ad:Hq Tryz.prog y O V (λ(aa:Gd)=>vA (AFY aa)) (λ(r:Bool)=>vB r) W){r:Int}(U:EA H W=some r):Sp 268 [vL a2 H z,.func (.func y) #[] ⟨O⟩] V (λ_ v=>v=vI r):=by
 unfold EA at U;refine se Tryz.func268 ?_;refine sj 11 U Y λJ5 U=>?_;refine lq (λn8 L' V' M'=>∃(X:Int),L'=[(0,sL a2 H z),(1,.v (.func (.func y) #[] ⟨O⟩)),(7,sN H),(8,sI X)]/\M'=[]/\AK Er V' a2 z H/\Hq Tryz.prog y O V' (λ(aa:Gd)=>vA (AFY aa)) (λ(r:Bool)=>vB r) W/\Cz H W J5 n8 X=some r) Y tu ?_;rintro n8 L' _ M' ⟨X,rfl,rfl,Z,ab,U⟩;refine i4 U λhb U=>?_;have⟨N,U⟩:=AL U;obtain⟨_,rfl,K⟩:=AK.get Z N;refine Yr.ia Y ⟨N.1,N.2,K.some⟩ (Yr.ld (x:=vA (AFY (AN H X))) Y K Y (Yr.cb U Y ab.at λae U=>?_));exact B4 U Y (λ_ U=>rt) λ_ U=>rd
def Ol(y:Ak):AA Bool:=
 (some ((((y.Op==0)&&(y.N==0))&&(y.S==([]:A9)))&&((y.Aw.length:Int)==0)))
theorem TM(z:Ak){a2:AA Addr}(h2:AK Br V a2 y z.Aw)(U:Ol z=some r):Sp 270 [vA (Ws z a2 y)] V (λ_ v=>v=vB r):=by
 refine se Tryz.func270 ?_;exact rt
def L6(y:Int)(z:Int):AA Int:=
 (Az (Nk y) λK=>Az (Nk z) λH=>cond K (cond H (some 0) (some (-1:Int))) (cond H (some 1) (cond (decide (y<z)) (some (-1:Int)) (cond (decide (z<y)) (some 1) (some 0)))))
theorem Xx(y:Int)(z:Int){r:Int}(U:L6 y z=some r):Sp 274 [vI y,vI z] V (λ_ v=>v=vI r):=by
 refine se Tryz.func274 ?_;refine Yr.cb U Y (Ti y) λK U=>?_;refine Yr.cb U Y (Ti z) λN U=>?_;refine B4 U Y (λH U=>?_) λH U=>?_
 ·exact i3 U
 ·refine i1 U λH U=>?_;refine i1 U λH U=>?_;exact i3 U
def MM(y:Ur):AA Int:=
 (Az (Lr y.a.S y.b.S) λz=>some z)
theorem Uf(y:Ur){r:Int}(U:MM y=some r):Sp 276 [vA (APW y)] V (λ_ v=>v=vI r):=by
 refine se Tryz.func276 ?_;refine Yr.cb U Y (RZ y.a.S y.b.S) λz U=>?_;exact rt
def LF(y:A9):AA Bool:=
 (some (y !=y))
theorem Qx(y:A9)(U:LF y=some r):Sp 277 [vS y] V (λ_ v=>v=vB r):=by
 refine se Tryz.func277 ?_;exact rt
section
variable {S:Type}
def Hn(K:Ak)(y:(Bn S)->Ak->AA (Unit×Bn S)):Nat->Int->(Bn S)->AA (Unit×Bn S)
 |0,_,_=>none|O+1,z,N=>cond (decide (z<(K.Aw.length:Int))) (Ba (0<=z/\z<(K.Aw.length:Int)) (Az (y (⟨N.left,N.Tm⟩:Bn S) (AN K.Aw z)) λH=>Hn K y O (AB (z+1)) (⟨H.2.left,H.2.Tm⟩:Bn S))) (some ((),(⟨N.left,N.Tm⟩:Bn S)))
def Oa(fS:BR->Int->S->AA S)(fR:Ak->S->AA S)(y:(Bn S)->Ak->AA (Unit×Bn S))(z:Bn S)(H:Ak):AA (Unit×Bn S):=
 (cond (z.left==0) (some ((),(⟨z.left,z.Tm⟩:Bn S))) (Hn H y ((H.Aw.length:Int).toNat+1) 0 (⟨(AB (z.left-1)),z.Tm⟩:Bn S)))
theorem Wj{S:Type}{fS:BR->Int->S->AA S}{fR:Ak->S->AA S}{J:AM->S->Ext->Prop}(hJ:∀{V V':AM}{s:S}{E:Ext},DI V V'->J V s E->J V' s E)(hS:Q6 J f1 ca1 fS)(hR:Ry J f2 ca2 fR){H:(Bn S)->Ak->AA (Unit×Bn S)}(K:∀{V:AM}(O:Bn S)(N:Ak){y:Nat}{X:List OB}{a5:AA Addr}{z:Nat}(aa:HE J f1 ca1 f2 ca2 V y O X)(h5:AK Br V a5 z N.Aw){r:Unit×Bn S},H O N=some r->Sx 279 [vP y,vA (Ws N a5 z)] X V (λV' e M'=>HE J f1 ca1 f2 ca2 V' y r.2 M'/\e=.returned (.tuple ⟨[]⟩)))(O:Bn S)(N:Ak){a5:AA Addr}(aa:HE J f1 ca1 f2 ca2 V y O X)(h5:AK Br V a5 z N.Aw){r:Unit×Bn S}(U:Oa fS fR H O N=some r):Sx 279 [vP y,vA (Ws N a5 z)] X V (λV' e M'=>HE J f1 ca1 f2 ca2 V' y r.2 M'/\e=.returned (.tuple ⟨[]⟩)):=by
 obtain⟨E3,rfl,h3⟩:=aa;refine sx Tryz.func279 ?_;refine Yr.O5 (l:=[vI O.left]) 0 Y (Ar Y) Y (i1 U λhb U=>?_);refine Yr.O5 (l:=[vI O.left]) 0 Y (Ar Y) Y ?_;refine Yr.P6 0 Y (Ae Y) ?_;refine Yr.cut 2 [0,19,20,21] Y ?_;refine lq (λn9 L' V' M'=>∃(x6:Int)(x7:Bn S)(E8:Ext),L'=[(0,sP y),(19,sL a5 N.Aw z),(20,sN N.Aw),(21,sI x6)]/\M'=[.row (vR y) [vI x7.left,.func (.func f1) #[] ⟨ca1⟩,.func (.func f2) #[] ⟨ca2⟩] 331 3,.ext E8]/\J V' x7.Tm E8/\AK Br V' a5 z N.Aw/\Hn N H n9 x6 x7=some r) Y ⟨0,(⟨(AB (O.left-1)),O.Tm⟩:Bn S),E3,Y,Y,h3,h5,U⟩ ?_;rintro n9 L' _ M' ⟨x6,x7,E8,rfl,rfl,_,ae,U⟩;refine B4 U Y (λ_ U=>?_) λ_ U=>rf;have⟨Z,U⟩:=AL U;have⟨_,ab,W⟩:=AK.get ae Z;obtain⟨af,LI,rfl,ag⟩:=(DS.1 ab);refine Yr.ia Y ⟨Z.1,Z.2,W.some⟩ (Yr.ld (x:=vA (Ws (AN N.Aw x6) af LI)) Y W Y ?_);have⟨_,ad,U⟩:=AO U;refine Yr.HT [0,1] Y (K (⟨x7.left,x7.Tm⟩:Bn S) (AN N.Aw x6) tu ag ad) ?_;rintro _ _ _ ⟨_,rfl,_⟩;refine⟨_,Y,?_⟩;exact r2
def FH(fS:BR->Int->S->AA S)(fR:Ak->S->AA S):Nat->(Bn S)->Ak->AA (Unit×Bn S)
 |0,_,_=>none|n+1,y,z=>Oa fS fR (FH fS fR n) y z
theorem Wi{S:Type}{fS:BR->Int->S->AA S}{fR:Ak->S->AA S}{J:AM->S->Ext->Prop}(N:∀{V V':AM}{s:S}{E:Ext},DI V V'->J V s E->J V' s E)(hS:Q6 J f1 ca1 fS)(hR:Ry J f2 ca2 fR):∀n:Nat,(∀{V:AM}(H:Bn S)(y:Ak){z:Nat}{K:List OB}{a5:AA Addr}{k5:Nat}(O:HE J f1 ca1 f2 ca2 V z H K)(X:AK Br V a5 k5 y.Aw){r:Unit×Bn S},FH fS fR n H y=some r->Sx 279 [vP z,vA (Ws y a5 k5)] K V (λV' e M'=>HE J f1 ca1 f2 ca2 V' z r.2 M'/\e=.returned (.tuple ⟨[]⟩))):=by
 intro n
 induction n with
 |zero=>exact by intros;rename_i h;simp[FH]at h
 |succ n W=>exact by intros;rename_i h;rw[FH]at h;exact Wj (J:=J) (f1:=f1) (f2:=f2) (ca1:=ca1) (ca2:=ca2) @N hS hR (by exact W) _ _ (by assumption) (by assumption) h
theorem Xy{S:Type}{fS:BR->Int->S->AA S}{fR:Ak->S->AA S}{J:AM->S->Ext->Prop}(O:∀{V V':AM}{s:S}{E:Ext},DI V V'->J V s E->J V' s E)(hS:Q6 J f1 ca1 fS)(hR:Ry J f2 ca2 fR)(K:Bn S)(H:Ak){a5:AA Addr}(N:HE J f1 ca1 f2 ca2 V y K X)(W:AK Br V a5 z H.Aw){r:Unit×Bn S}(U:FH fS fR n K H=some r):Sx 279 [vP y,vA (Ws H a5 z)] X V (λV' e M'=>HE J f1 ca1 f2 ca2 V' y r.2 M'/\e=.returned (.tuple ⟨[]⟩)):=(Wi (J:=J) (f1:=f1) (f2:=f2) (ca1:=ca1) (ca2:=ca2) @O hS hR n) K H N W U
end
def Sa(y:Int)(z:Int):AA Bool:=
 (some (((z !=3)||(y==10))||(y==11)))
theorem Yw(y:Int)(z:Int)(U:Sa y z=some r):Sp 281 [vI y,vI z] V (λ_ v=>v=vB r):=by
 refine se Tryz.func281 ?_;exact rt
def Jf(y:Int):AA (Int×Int):=
 (jn (λ(O:Bool)=>cond O (some (1,1)) (jn (λ(W:Bool)=>cond W (some (2,2)) (jn (λ(X:Bool)=>cond X (some (3,3)) (cond (y==20) (some (1,2)) (jn (λ(K:Bool)=>cond K (some (2,1)) (some (2,3))) (λH=>cond (y==21) (H (y==21)) (H (y==22)))))) (λN=>cond (y==16) (N (y==16)) (cond (y==17) (N (y==17)) (N (y==18)))))) (λJ6=>cond (y==2) (J6 (y==2)) (cond (y==19) (J6 (y==19)) (J6 (y==23)))))) (λz=>cond (y==1) (z (y==1)) (cond (y==25) (z (y==25)) (cond (y==26) (z (y==26)) (cond (y==27) (z (y==27)) (cond (y==4) (z (y==4)) (cond (y==5) (z (y==5)) (cond (y==6) (z (y==6)) (cond (y==7) (z (y==7)) (cond (y==8) (z (y==8)) (z (y==9))))))))))))
theorem Xl(H:Int){r:Int×Int}(U:Jf H=some r):Sp 282 [vI H] V (λ_ v=>v=.tuple ⟨[vI (r.1),vI (r.2)]⟩):=by
 unfold Jf at U;refine se Tryz.func282 ?_;refine sm U (λX L' V' M'=>∃(N:Bool),L'=[(4,sI H),(5,sB N)]/\M'=[]/\X N=some r) Y ?_ λX U=>?_
 ·rintro L' _ M' ⟨N,rfl,rfl,U⟩;refine i1 U λy U=>?_;refine sm U (λJ6 L' V' M'=>∃(O:Bool),L'=[(4,sI H),(16,sB O)]/\M'=[]/\J6 O=some r) Y ?_ λJ6 U=>?_
  ·rintro L' _ M' ⟨O,rfl,rfl,U⟩;refine i1 U λy U=>?_;refine sm U (λZ L' V' M'=>∃(W:Bool),L'=[(4,sI H),(20,sB W)]/\M'=[]/\Z W=some r) Y ?_ λZ U=>?_
   ·rintro L' _ M' ⟨W,rfl,rfl,U⟩;refine i1 U λy U=>?_;refine i1 U λy U=>?_;refine sm U (λK L' V' M'=>∃(z:Bool),L'=[(26,sB z)]/\M'=[]/\K z=some r) Y ?_ λK U=>?_
    ·rintro L' _ M' ⟨z,rfl,rfl,U⟩;exact i3 U
    ·exact B4 U Y (λ_ U=>rd) λ_ U=>rd
   ·refine i5 U λy U=>?_;exact B4 U Y (λ_ U=>rd) λ_ U=>rd
  ·refine i5 U λy U=>?_;exact B4 U Y (λ_ U=>rd) λ_ U=>rd
 ·refine i5 U λy U=>?_;refine i5 U λy U=>?_;refine i5 U λy U=>?_;refine i5 U λy U=>?_;refine i5 U λy U=>?_;refine i5 U λy U=>?_;refine i5 U λy U=>?_;refine i5 U λy U=>?_;exact B4 U Y (λ_ U=>rd) λ_ U=>rd
def Rm(y:Int):AA Int:=
 (cond ((decide (y<1))||(decide (27<y))) (some (-1:Int)) (cond ((decide (y<=3))||(decide (25<=y))) (some 0) (cond (((y==9)||(y==18))||(decide (20<=y))) (some 1) (some 2))))
theorem AGA(y:Int){r:Int}(U:Rm y=some r):Sp 289 [vI y] V (λ_ v=>v=vI r):=by
 refine se Tryz.func289 ?_;refine i1 U λz U=>?_;refine i1 U λz U=>?_;exact i3 U
def MW(z:A9)(H:AA Bool):Nat->Int->AA Bool
 |0,_=>none|K+1,y=>cond (decide (y<(z.length:Int))) (Ba (0<=y/\y<(z.length:Int)) (Ba (((decide ((B0 z y.toNat)<32))==false)=true->0<=y/\y<(z.length:Int)) (cond ((decide ((B0 z y.toNat)<32))||(decide (126<(B0 z y.toNat)))) (some false) (MW z H K (AB (y+1)))))) H
def Pn(y:A9):AA Bool:=
 (jn (some (decide ((y.length:Int)<=(64:Int)))) (λz=>MW y z ((y.length:Int).toNat+1) 0))
theorem AF6(y:A9)(U:Pn y=some r):Sp 290 [vS y] V (λ_ v=>v=vB r):=by
 unfold Pn at U;refine se Tryz.func290 ?_;refine AD.run Aa 9 Y ?_;refine sn U (λz L' V' M'=>L'=[(0,sS y)]/\M'=[]/\z=some r) Y ?_ λz U=>?_
 ·rintro L' _ M' ⟨rfl,rfl,U⟩;exact rt
 ·refine lq (λN L' V' M'=>∃(H:Int),L'=[(0,sS y),(3,sI H)]/\M'=[]/\MW y z N H=some r) Y tu ?_;rintro N L' _ M' ⟨H,rfl,rfl,U⟩;refine i4 U λX U=>?_;have⟨O,U⟩:=AL U;refine xr Y (Mq Aa Y Y O ?_);have⟨W,U⟩:=AL U;refine xr Y (Mq Aa Y Y (λK=>W (Bv K)) ?_);exact B4 U Y (λ_ U=>rt) λ_ U=>rd
def Lz(y:Int):AA Bool:=
 (some (y !=y))
theorem Re(y:Int)(U:Lz y=some r):Sp 295 [vI y] V (λ_ v=>v=vB r):=by
 refine se Tryz.func295 ?_;exact rt
def Ex(y:List Bc)(z:Int):AA Int:=
 (Az (Da y (λH=>GD H z)) λK=>some K)
theorem KU(z:List Bc)(H:Int){a2:AA Addr}(h2:AK BS V a2 y z){r:Int}(U:Ex z H=some r):Sp 19 [vL a2 z y,vI H] V (λ_ v=>v=vI r):=by
 refine se Tryz.func19 ?_;refine xr Y (HZ 0 Y Y Y Y (λ_=>Y) (λ_=>Y) (λX Z O K=>?_));refine Fe Y Y ?_;refine Yr.cb U Y (H8 z (λN=>GD N H) tu (λV' hv N r W=>Wd N H (Bi.mono K hv) W)) λx6 U=>?_;exact rt
def Ey(z:Bb)(H:Bb)(K:AA Bool):Nat->Int->AA Bool
 |0,_=>none|O+1,y=>cond (decide (y<(z.Ad.Out.length:Int))) (Ba (0<=y/\y<(z.Ad.Out.length:Int)) (Ba (0<=y/\y<(H.Ad.Out.length:Int)) (cond (!(((AN z.Ad.Out y).BD==(AN H.Ad.Out y).BD)&&(((AN z.Ad.Out y).N==(AN H.Ad.Out y).N)&&(((AN z.Ad.Out y).S==(AN H.Ad.Out y).S)&&true)))) (some false) (Ey z H K O (AB (y+1)))))) K
def JF(y:Bb)(z:Bb):AA Bool:=
 (cond (((y.Ad.DY !=z.Ad.DY)||(y.Ad.Code !=z.Ad.Code))||((y.Ad.Out.length:Int) !=(z.Ad.Out.length:Int))) (some false) (jn (Az (Fg y.Am z.Am) λH=>Az (CG ((H)==true) (Fg y.DB z.DB)) λK=>Az (CG ((H&&K)==true) (Fw y.AX z.AX)) λN=>some ((((H&&K)&&N)&&(y.NG==z.NG))&&(y.Steps==z.Steps))) (λO=>Ey y z O ((y.Ad.Out.length:Int).toNat+1) 0)))
theorem Tz(H:Bb)(K:Bb){a2:AA Addr}{a3:AA Addr}{a4:AA Addr}{a5:AA Addr}{a7:AA Addr}{a8:AA Addr}{Z:AA Addr}{O:AA Addr}(h2:AK DQ V a2 y H.Ad.Out)(h3:AK Bf V a3 z H.Am)(h4:AK Bf V a4 N H.DB)(h5:AK Au V a5 W H.AX)(h7:AK DQ V a7 ab K.Ad.Out)(h8:AK Bf V a8 ai K.Am)(h9:AK Bf V Z aA K.DB)(av:AK Au V O aH K.AX)(U:JF H K=some r):Sp 37 [vA (Zw H a2 y a3 z a4 N a5 W),vA (Zw K a7 ab a8 ai Z aA O aH)] V (λ_ v=>v=vB r):=by
 refine se Tryz.func37 ?_;refine Yr.E2 [7] [] (pm 4 0 15) Y ?_;refine xr Y (Nd 4 5 [(5,false)] [(4,false)] [(6,false),(7,false)] (λlr' L' V' M'=>lr'=[]/\L'=[(2,.ptr 0 0),(3,.ptr 1 0),(5,.ptr 2 0),(6,.ptr 3 0),(9,.v (vA (AJW H.Ad a2 y))),(11,.v (vA (AJW K.Ad a7 ab)))]/\M'=[.Bp (AFZ H a2 y a3 z a4 N a5 W) 110,.Bp (AFZ K a7 ab a8 ai Z aA O aH) 110,.Bp [sI 0,sI 0,.v (.slice none 0 0)] 107,.Bp [sI 0,sI 0,.v (.slice none 0 0)] 107]/\AK DQ V' a2 y H.Ad.Out/\AK DQ V' a7 ab K.Ad.Out/\AK Bf V' a3 z H.Am/\AK Bf V' a4 N H.DB/\AK Au V' a5 W H.AX/\AK Bf V' a8 ai K.Am/\AK Bf V' Z aA K.DB/\AK Au V' O aH K.AX) 2 [true,true,true,true,true,true,false,false] Y kz Y Y kz kz kz kz (λjoin=>?_) (λjoin=>?_) ?_)
 ·exact xr Y (join [0,1,2,3] (lr':=[]) (L':=[(2,.ptr 0 0),(3,.ptr 1 0),(5,.ptr 2 0),(6,.ptr 3 0),(9,.v (vA (AJW H.Ad a2 y))),(11,.v (vA (AJW K.Ad a7 ab)))]) Y Y Y Y sb Yt tu)
 ·exact xr Y (join [0,1,3,2] (lr':=[]) (L':=[(2,.ptr 0 0),(3,.ptr 1 0),(5,.ptr 2 0),(6,.ptr 3 0),(9,.v (vA (AJW H.Ad a2 y))),(11,.v (vA (AJW K.Ad a7 ab)))]) Y Y Y Y sb Yt tu)
 rintro lr' L' _ M' ⟨rfl,rfl,rfl,_,_,_,_,_,_,_,_⟩;refine i1 U λhb U=>?_;refine AD.run Aa 6 Y ?_;refine sn U (λae L' V' M'=>L'=[(2,.ptr 0 0),(3,.ptr 1 0)]/\M'=[.Bp (AFZ H a2 y a3 z a4 N a5 W) 110,.Bp (AFZ K a7 ab a8 ai Z aA O aH) 110]/\AK DQ V' a2 y H.Ad.Out/\AK Bf V' a3 z H.Am/\AK Bf V' a4 N H.DB/\AK Au V' a5 W H.AX/\AK DQ V' a7 ab K.Ad.Out/\AK Bf V' a8 ai K.Am/\AK Bf V' Z aA K.DB/\AK Au V' O aH K.AX/\ae=some r) Y ?_ λae U=>?_
 ·rintro L' _ M' ⟨rfl,rfl,_,aj,ak,al,_,an,ao,aq,U⟩;refine Yr.cb U Y (Mw H.Am K.Am aj an) λaw U=>?_;refine Gj U Y (Mw H.DB K.DB ak ao) λax U=>?_;refine Gj U Y (Oz H.AX K.AX al aq) λay U=>?_;exact rt
 ·refine lq (λah L' V' M'=>∃(X:Int),L'=[(2,.ptr 0 0),(3,.ptr 1 0),(5,.ptr 2 0),(6,.ptr 3 0),(7,sI X)]/\M'=[.Bp (AFZ H a2 y a3 z a4 N a5 W) 110,.Bp (AFZ K a7 ab a8 ai Z aA O aH) 110,.Bp (APY H.Ad a2 y) 107,.Bp (APY K.Ad a7 ab) 107]/\AK DQ V' a2 y H.Ad.Out/\AK Bf V' a3 z H.Am/\AK Bf V' a4 N H.DB/\AK Au V' a5 W H.AX/\AK DQ V' a7 ab K.Ad.Out/\AK Bf V' a8 ai K.Am/\AK Bf V' Z aA K.DB/\AK Au V' O aH K.AX/\Ey H K ae ah X=some r) Y tu ?_;rintro ah L' _ M' ⟨X,rfl,rfl,ar,_,_,_,au,_,_,_,U⟩;refine B4 U Y (λhb U=>?_) λ_ U=>r2;refine Yr.DU (pm 11 0 2047) Y ?_;have⟨af,U⟩:=AL U;obtain⟨_,rfl,aa⟩:=AK.get ar af;refine Yr.Qp Y ⟨af.1,af.2,aa.some⟩ (Yr.P8 (x:=vA (Te (AN H.Ad.Out X))) Y aa ?_);have⟨ag,U⟩:=AL U;obtain⟨_,rfl,ad⟩:=AK.get au ag;exact Yr.Qp Y ⟨ag.1,ag.2,ad.some⟩ (Yr.P8 (x:=vA (Te (AN K.Ad.Out X))) Y ad (B4 U Y (λ_ U=>rt) λ_ U=>rd))
def IS(y:Ah):AA Bool:=
 (cond (y.BD==0) (some ((y.N==0)&&(y.S==([]:A9)))) (cond (y.BD==1) (some (y.S==([]:A9))) (Az (CG (((y.BD==2)&&(y.N==0))==true) (IT y.S)) λz=>some (((y.BD==2)&&(y.N==0))&&z))))
theorem TJ(y:Ah)(U:IS y=some r):Sp 40 [vA (Te y)] V (λ_ v=>v=vB r):=by
 refine se Tryz.func40 ?_;refine i1 U λz U=>?_;refine i1 U λ_ U=>?_;refine Gj U Y (TK y.S) λH U=>?_;exact rt
def Dx(H:List AR)(K:AA Bool):Nat->Int->AA Bool
 |0,_=>none|N+1,y=>cond (decide (y<(H.length:Int))) (Ba (0<=y/\y<(H.length:Int)) (Az (Gy ((AN H y).Key)) λz=>Ba ((((decide (0<y))==true)&&((!z)==false))=true->0<=y/\y<(H.length:Int)) (Ba ((((decide (0<y))==true)&&((!z)==false))=true->0<=(AB (y-1))/\(AB (y-1))<(H.length:Int)) (cond ((!z)||((decide (0<y))&&(!Dy (cond (((decide (0<y))==true)&&((!z)==false)) (AN H (AB (y-1))) default).Key (cond (((decide (0<y))==true)&&((!z)==false)) (AN H y) default).Key))) (some false) (Dx H K N (AB (y+1))))))) K
def FZ(y:List AR):AA Bool:=
 (jn (some true) (λz=>Dx y z ((y.length:Int).toNat+1) 0))
theorem Qz(N:List AR){a2:AA Addr}(h2:AK Au V a2 y N)(U:FZ N=some r):Sp 41 [vL a2 N y] V (λ_ v=>v=vB r):=by
 unfold FZ at U;refine se Tryz.func41 ?_;refine sj 9 U Y λJ3 U=>?_;refine lq (λn6 L' V' M'=>∃(K:Int),L'=[(0,sL a2 N y),(3,sI K)]/\M'=[]/\AK Au V' a2 y N/\Dx N J3 n6 K=some r) Y tu ?_;rintro n6 L' _ M' ⟨K,rfl,rfl,h8,U⟩;refine i4 U λhb U=>?_;refine Yr.DU (pm 25 0 129055) Y ?_;have⟨q9,U⟩:=AL U;obtain⟨_,rfl,W⟩:=AK.get h8 q9;refine Yr.Qp Y ⟨q9.1,q9.2,W.some⟩ (Yr.P8 (x:=vS (AN N K).Key) Y (Bi.part W 0 1 Y) (Yr.cb U Y (TL ((AN N K).Key)) λO U=>?_));have⟨aa,U⟩:=AL U;obtain⟨_,rfl,X⟩:=AK.OG (((decide (0<K))==true)&&((!O)==false)) h8 aa;refine Yr.Qp Y (λz H=>⟨(aa (Dr z H)).1,(aa (Dr z H)).2,(X (Dr z H)).some⟩) (Yr.P8 (x:=vS (cond (((decide (0<K))==true)&&((!O)==false)) (AN N K) default).Key) Y (λz H=>(Bi.part (X (Dr z H)) 0 1 Y)) ?_);have⟨ab,U⟩:=AL U;obtain⟨_,rfl,Z⟩:=AK.OG (((decide (0<K))==true)&&((!O)==false)) h8 ab;exact Yr.ia Y (λz H=>⟨(ab (Dr z H)).1,(ab (Dr z H)).2,(Z (Dr z H)).some⟩) (Yr.ld (x:=vS (cond (((decide (0<K))==true)&&((!O)==false)) (AN N (AB (K-1))) default).Key) Y (λz H=>(Bi.part (Z (Dr z H)) 0 1 Y)) Y (B4 U Y (λ_ U=>rt) λ_ U=>rd))
def FL(y:List AR)(z:AR->AA Bool):AA Bool:=
 (Az (EK y z) λH=>some (decide (0<=H)))
theorem L7(H:List AR)(K:AR->AA Bool){a2:AA Addr}(h2:AK Au V a2 z H)(N:Hq Tryz.prog y O V (λ(aa:AR)=>vA (Zv aa)) (λ(r:Bool)=>vB r) K)(U:FL H K=some r):Sp 43 [vL a2 H z,.func (.func y) #[] ⟨O⟩] V (λ_ v=>v=vB r):=by
 refine se Tryz.func43 ?_;refine Yr.cb U Y (ND H K h2 N) λW U=>?_;exact rt
def IY(y:AR)(z:AR):AA Int:=
 (Az (Lr y.Key z.Key) λH=>some H)
theorem Vq(y:AR)(z:AR){r:Int}(U:IY y z=some r):Sp 69 [vA (Zv y),vA (Zv z)] V (λ_ v=>v=vI r):=by
 refine se Tryz.func69 ?_;refine Yr.cb U Y (RZ y.Key z.Key) λH U=>?_;exact rt
def IN(y:A9):AA Bool:=
 (Az (CG ((y !=([]:A9))==true) (JS y (λz=>Kh z))) λH=>some ((y !=([]:A9))&&H))
theorem Mh(y:A9)(U:IN y=some r):Sp 74 [vS y] V (λ_ v=>v=vB r):=by
 refine se Tryz.func74 ?_;refine Gj U Y (Tg y (λz=>Kh z) (λV' hv z r H=>ABd z H)) λK U=>?_;exact rt
def PW(y:Ah):AA Bool:=
 (cond (y.BD==0) (some ((y.BD==0)&&((y.N==0)&&((y.S==[])&&true)))) (cond (y.BD==1) (some (y.S==([]:A9))) (cond (y.BD==2) (Az (CG ((y.N==0)==true) (KD y.S)) λz=>some ((y.N==0)&&z)) (some false))))
theorem ACQ(y:Ah)(U:PW y=some r):Sp 75 [vA (Te y)] V (λ_ v=>v=vB r):=by
 refine se Tryz.func75 ?_;refine i1 U λz U=>?_;refine i1 U λz U=>?_;refine i2 U λ_ U=>?_;refine Gj U Y (ACP y.S) λH U=>?_;exact rt
def MQ(y:AI)(z:Int):AA Int:=
 (Az (Da y.AG (λH=>Mn H z)) λK=>some K)
theorem Uj(z:AI)(H:Int){a2:AA Addr}(h2:AK BS V a2 y z.AG){r:Int}(U:MQ z H=some r):Sp 83 [vA (S2 z a2 y),vI H] V (λ_ v=>v=vI r):=by
 refine se Tryz.func83 ?_;refine xr Y (HZ 1 Y Y Y Y (λ_=>Y) (λ_=>Y) (λX Z O K=>?_));refine Fe Y Y ?_;refine Yr.cb U Y (H8 z.AG (λN=>Mn N H) tu (λV' hv N r W=>Yy N H (Bi.mono K hv) W)) λx6 U=>?_;exact rt
def Dl(z:List A9)(K:AA Bool):Nat->Int->AA Bool
 |0,_=>none|N+1,y=>cond (decide (y<(z.length:Int))) (Ba (0<=y/\y<(z.length:Int)) (Az (IN (AN z y)) λH=>Ba ((((decide (0<y))==true)&&((!H)==false))=true->0<=(AB (y-1))/\(AB (y-1))<(z.length:Int)) (cond ((!H)||((decide (0<y))&&(!Dy (cond (((decide (0<y))==true)&&((!H)==false)) (AN z (AB (y-1))) default) (AN z y)))) (some false) (Dl z K N (AB (y+1)))))) K
def FA(y:List A9):AA Bool:=
 (jn (some (decide ((y.length:Int)<=(64:Int)))) (λz=>Dl y z ((y.length:Int).toNat+1) 0))
theorem Ox(z:List A9){a2:AA Addr}(h2:AK Bf V a2 y z)(U:FA z=some r):Sp 89 [vL a2 z y] V (λ_ v=>v=vB r):=by
 unfold FA at U;refine se Tryz.func89 ?_;refine AD.run Aa 11 Y ?_;refine sn U (λJ3 L' V' M'=>L'=[(0,sL a2 z y)]/\M'=[]/\AK Bf V' a2 y z/\J3=some r) Y ?_ λJ3 U=>?_
 ·rintro L' _ M' ⟨rfl,rfl,_,U⟩;exact rt
 ·refine lq (λn7 L' V' M'=>∃(N:Int),L'=[(0,sL a2 z y),(5,sL a2 z y),(6,sN z),(7,sI N)]/\M'=[]/\AK Bf V' a2 y z/\Dl z J3 n7 N=some r) Y tu ?_;rintro n7 L' _ M' ⟨N,rfl,rfl,h9,U⟩;refine i4 U λhb U=>?_;have⟨X,U⟩:=AL U;obtain⟨_,rfl,O⟩:=AK.get h9 X;refine Yr.ia Y ⟨X.1,X.2,O.some⟩ (Yr.ld (x:=vS (AN z N)) Y O Y (Yr.cb U Y (Mh (AN z N)) λaa U=>?_));have⟨Z,U⟩:=AL U;obtain⟨_,rfl,W⟩:=AK.OG (((decide (0<N))==true)&&((!aa)==false)) h9 Z;exact Yr.ia Y (λH K=>⟨(Z (Dr H K)).1,(Z (Dr H K)).2,(W (Dr H K)).some⟩) (Yr.ld (x:=vS (cond (((decide (0<N))==true)&&((!aa)==false)) (AN z (AB (N-1))) default)) Y (λH K=>(W (Dr H K))) Y (B4 U Y (λ_ U=>rt) λ_ U=>rd))
def Eb(y:List Int)(z:Int):AA Bool:=
 (Az (IL y z) λH=>some (decide (0<=H)))
theorem HB(z:List Int)(H:Int){a2:AA Addr}(h2:AK (CD .i64) V a2 y z)(U:Eb z H=some r):Sp 94 [vL a2 z y,vI H] V (λ_ v=>v=vB r):=by
 refine se Tryz.func94 ?_;refine Yr.cb U Y (TB z H h2) λK U=>?_;exact rt
def FE(y:List A1)(z:Int):AA Int:=
 (Az (CS y (λH=>NM H z)) λK=>some K)
theorem Jb(z:List A1)(H:Int){a2:AA Addr}(h2:AK BX V a2 y z){r:Int}(U:FE z H=some r):Sp 96 [vL a2 z y,vI H] V (λ_ v=>v=vI r):=by
 refine se Tryz.func96 ?_;refine xr Y (HZ 0 Y Y Y Y (λ_=>Y) (λ_=>Y) (λX Z O K=>?_));refine Fe Y Y ?_;refine Yr.cb U Y (Gp z (λN=>NM N H) tu (λV' hv N r W=>VN N H (Bi.mono K hv) W)) λx6 U=>?_;exact rt
def CP(y:List A9)(z:A9):AA Bool:=
 (Az (F7 y z) λH=>some (decide (0<=H)))
theorem FQ(z:List A9)(H:A9){a2:AA Addr}(h2:AK Bf V a2 y z)(U:CP z H=some r):Sp 99 [vL a2 z y,vS H] V (λ_ v=>v=vB r):=by
 refine se Tryz.func99 ?_;refine Yr.cb U Y (Px z H h2) λK U=>?_;exact rt
def CK(y:List B3)(z:B3->AA Bool):AA Bool:=
 (Az (EL y z) λH=>some (decide (0<=H)))
theorem FK(H:List B3)(K:B3->AA Bool){a2:AA Addr}(h2:AK DO V a2 z H)(N:RB Tryz.prog y O V DO (λ(r:Bool)=>vB r) K)(U:CK H K=some r):Sp 105 [vL a2 H z,.func (.func y) #[] ⟨O⟩] V (λ_ v=>v=vB r):=by
 refine se Tryz.func105 ?_;refine Yr.cb U Y (NF H K h2 N) λW U=>?_;exact rt
def Fs(K:Int)(z:List A1)(X:(List Int)->AA (List Int)):Nat->(List Int)->Int->AA (List Int)
 |0,_,_=>none|O+1,H,y=>cond (decide (y<(max 0 K))) (Ba (0<=y/\y<(z.length:Int)) (Ba ((((AN z y).Mv)==false)=true->0<=K/\K<(z.length:Int)) (jn (λ(W:List Int)=>Fs K z X O W (AB (y+1))) (λN=>cond ((AN z y).Mv||(cond (((AN z y).Mv)==false) (AN z K) default).Mv) (Ba (0<=y/\y<(z.length:Int)) (Ba ((H++[(AN z y).Is]).length*8<=140737488355328) (N (H++[(AN z y).Is])))) (N H))))) (X H)
def Iz(H:List Int)(y:List A1)(K:Int):AA (List Int):=
 (Az (FE y K) λz=>jn (λ(N:List Int)=>some N) (λO=>Fs z y O ((max 0 z).toNat+1) H 0))
theorem Qv(x1:List Int)(K:List A1)(x5:Int){a2:AA Addr}{a4:AA Addr}(h2:AF (CD .i64) V x1 O)(h4:AK BX V a4 z K){r:List Int}(U:Iz x1 K x5=some r):Sx 141 [vL a2 x1 y,vL a4 K z,vI x5] [.row (vL a2 x1 y) O 3 1] V (X2 3 1 r.length (λV' cs=>AF (CD .i64) V' r cs)):=by
 refine sx Tryz.func141 ?_;refine Yr.cb U Y (Jb K x5 h4) λx6 U=>?_;refine AD.run Aa 9 Y ?_;refine sn U (λJ9 L' V' M'=>∃(x8:List Int),∃a7 k7 af,L'=[(0,sL a7 x8 k7)]/\M'=[.row (vL a7 x8 k7) af 3 1]/\AF (CD .i64) V' x8 af/\J9 x8=some r) Y ?_ λJ9 U=>?_
 ·rintro L' _ M' ⟨x8,a7,k7,af,rfl,rfl,_,U⟩;exact rt
 ·refine lq (λan L' V' M'=>∃(N:List Int),∃ag Nf W,∃(H:Int),L'=[(0,sL ag N Nf),(1,sL a4 K z),(7,sI x6),(13,sI (max 0 x6)),(14,sI H)]/\M'=[.row (vL ag N Nf) W 3 1]/\AF (CD .i64) V' N W/\AK BX V' a4 z K/\Fs x6 K J9 an N H=some r) Y tu ?_;rintro an L' aq M' ⟨N,ag,Nf,W,H,rfl,rfl,ar,ah,U⟩;refine i4 U λhb U=>?_;have⟨ai,U⟩:=AL U;obtain⟨_,rfl,ab⟩:=AK.get ah ai;refine Yr.ia Y ⟨ai.1,ai.2,ab.some⟩ (Yr.ld (x:=vB (AN K H).Mv) Y (Bi.part ab 1 1 Y) Y ?_);have⟨aj,U⟩:=AL U;obtain⟨_,rfl,ad⟩:=AK.OG (((AN K H).Mv)==false) ah aj;refine Yr.ia Y (λX=>⟨(aj (Bv X)).1,(aj (Bv X)).2,(ad (Bv X)).some⟩) (Yr.ld (x:=vB (cond (((AN K H).Mv)==false) (AN K x6) default).Mv) Y (λX=>(Bi.part (ad (Bv X)) 1 1 Y)) Y ?_);refine sm U (λao L' V' M'=>∃(Z:List Int),∃ak ZX aa,L'=[(0,sL ak Z ZX),(1,sL a4 K z),(7,sI x6),(13,sI (max 0 x6)),(14,sI H)]/\M'=[.row (vL ak Z ZX) aa 3 1]/\AF (CD .i64) V' Z aa/\AK BX V' a4 z K/\ao Z=some r) Y ?_ λao U=>?_
  ·rintro L' _ M' ⟨Z,ak,ZX,aa,rfl,rfl,_,_,U⟩;exact rd
  ·refine i4 U λ_ U=>?_;have⟨al,U⟩:=AL U;obtain⟨_,rfl,ae⟩:=AK.get ah al;refine Yr.ia Y ⟨al.1,al.2,ae.some⟩ (Yr.ld (x:=vI ((AN K H).Is)) Y (Bi.part ae 0 1 Y) Y (Yr.RV Y ?_));have⟨au,U⟩:=AL U;refine Yr.app (nm:=(N++[(AN K H).Is]).length) 0 1 Y zp (λ_ _=>Y) au (λav k28=>?_);have aw:AF (CD .i64) aq (N++[(AN K H).Is]) (W++[vI ((AN K H).Is)]):=AF.app ar ⟨_,_,Y,Y,Y⟩;exact r1
def H9(z:List A1)(H:Int):AA (List A1):=
 (Az (GG z) λK=>Az (EY K (λN=>HN N H)) λy=>some y)
theorem P9(W:List A1)(X:Int){a2:AA Addr}(h2:AK BX V a2 y W){r:List A1}(U:H9 W X=some r):Sp 175 [vL a2 W y,vI X] V (λV' v=>∃z UP,v=vL z r UP/\AK BX V' z UP r):=by
 refine se Tryz.func175 ?_;refine Yr.Eh 173 2 Y ?_;have⟨x4,Z,U⟩:=AO U;refine Mb 1 Y Y Y Y (ABZ W h2 Z) ?_;rintro _ _ _ _ _ h5;refine yz Y (HZ 0 Y Y Y Y (λ_=>Y) (λ_=>Y) (λV7 b7 aa ab=>?_));have h9:=AF.mono aa h5;refine Fe Y Y ?_;have⟨_,H,U⟩:=AO U;refine xr Y (Mb 1 Y Y Y Y (Ko x4 (λy0=>HN y0 X) h9 (λV' hv y0 r hr=>Ts y0 X (Bi.mono ab hv) hr) H) ?_);rintro _ _ _ _ _ ad;refine⟨_,Y,?_⟩;refine Yr.QY 1 Y (λaf K N O=>?_);have ae:=BV ad K N O;exact ry
def Ri(y:List A9)(z:List A9):AA Bool:=
 (Az (H4 y z) λH=>some H)
theorem AF4(H:List A9)(K:List A9){a2:AA Addr}{a4:AA Addr}(h2:AK Bf V a2 y H)(N:AK Bf V a4 z K)(U:Ri H K=some r):Sp 176 [vL a2 H y,vL a4 K z] V (λ_ v=>v=vB r):=by
 refine se Tryz.func176 ?_;refine Yr.cb U Y (Py H K h2 N) λO U=>?_;exact rt
def QP(y:List AR)(z:List AR):AA Bool:=
 (Az (Gr y z) λH=>some H)
theorem AEN(H:List AR)(K:List AR){a2:AA Addr}{a4:AA Addr}(h2:AK Au V a2 y H)(N:AK Au V a4 z K)(U:QP H K=some r):Sp 177 [vL a2 H y,vL a4 K z] V (λ_ v=>v=vB r):=by
 refine se Tryz.func177 ?_;refine Yr.cb U Y (OL H K h2 N) λO U=>?_;exact rt
def LX(N:List BR)(y:BR->AA (List Int))(W:(List Int)->AA (List Int)):Nat->(List Int)->Int->AA (List Int)
 |0,_,_=>none|X+1,H,z=>cond (decide (z<(N.length:Int))) (Ba (0<=z/\z<(N.length:Int)) (Az (y (AN N z)) λO=>Az (FY H O) λK=>Ba (K.length=4) (LX N y W X K (AB (z+1))))) (W H)
def QN(z:(List BR)->AA (List Int))(y:BR->AA (List Int))(H:List BR):AA (List Int):=
 (jn (λ(K:List Int)=>some K) (λN=>LX H y N ((H.length:Int).toNat+1) (AH 4 0) 0))
def Ml(g:(List BR)->AA (List Int)):Prop:=∀{V:AM}(y:List BR){a2:AA Addr}{k2:Nat}(h2:AK CN V a2 k2 y){r:List Int},g y=some r->Sp 181 [vL a2 y k2] V (λ_ v=>v=.agg ⟨r.map (Value.int .i64)⟩)
def Il(g:BR->AA (List Int)):Prop:=∀{V:AM}(y:BR){a2:AA Addr}{k2:Nat}{a3:AA Addr}{k3:Nat}{a4:AA Addr}{k4:Nat}{a5:AA Addr}{k5:Nat}(h2:AK Br V a2 k2 y.A.Aw)(h3:AK Br V a3 k3 y.B.Aw)(z:AK CN V a4 k4 y.CU)(H:AK CN V a5 k5 y.Js){r:List Int},g y=some r->Sp 199 [vA (gv5 y a2 k2 a3 k3 a4 k4 a5 k5)] V (λ_ v=>v=.agg ⟨r.map (Value.int .i64)⟩)
theorem ACb{z:(List BR)->AA (List Int)}{y:BR->AA (List Int)}(K:Ml z)(H:Il y):Ml (QN z y):=by
 intro V x1 a2 k2 h2 r U;unfold QN at U;refine se Tryz.func181 ?_;refine AD.run Aa 3 Y (Fh 0 (n:=4) (sz:=1) (cs:=(AH 4 (vI 0))) Y Y Y Y Y (λ_=>Y) (λ_=>Y) (λ_=>Y) (λb3=>?_));have h3:AF (CD .i64) V (AH 4 0) (AH 4 (vI 0)):=by have:=CH (k:=.i64) (V:=V) (AH 4 0);rwa[K4]at this
 refine AD.run Aa 4 Y (Fh 1 (n:=4) (sz:=1) (cs:=(AH 4 (vI 0))) Y Y Y Y Y (λ_=>Y) (λ_=>Y) (λ_=>Y) (λb4=>?_));have h4:AF (CD .i64) V (AH 4 0) (AH 4 (vI 0)):=by have:=CH (k:=.i64) (V:=V) (AH 4 0);rwa[K4]at this
 refine AD.run Aa 8 Y ?_;refine sn U (λJ8 L' V' M'=>∃(x7:List Int),∃Z,L'=[(2,sP b3),(3,sP b4)]/\M'=[.row (.slice (some ⟨b3,0,none⟩) 4 4) (AH 4 (vI 0)) 261 1,.row (.slice (some ⟨b4,0,none⟩) 4 4) Z 261 1]/\AF (CD .i64) V' (AH 4 0) (AH 4 (vI 0))/\AF (CD .i64) V' x7 Z/\J8 x7=some r) Y ?_ λJ8 U=>?_
 ·rintro L' V9 M' ⟨x7,Z,rfl,rfl,h5,h6,U⟩;refine xr Y (X6 Aa 1 (kd:=.i64) Y Y Y h6 Y Y (λad=>?_));refine QS Aa 0 (nv:=(x7.map (Value.int .i64))) Y Y Y Y Y Y Y Y (by rw[Ap];exact ad) (λu hu=>by obtain⟨_,_,rfl⟩:=List.mem_map.1 hu;rfl) Y Y ?_;have ag:AF (CD .i64) V9 x7 (x7.map (Value.int .i64)):=CH _;cases U;exact xr Y (PN Aa 0 (kd:=.i64) Y Y Y Y Y Y Y ag Y)
 ·refine lq (λae L' V' M'=>∃(W:List Int),∃N,∃(O:Int),L'=[(2,sP b3),(3,sP b4),(6,sL a2 x1 k2),(7,sN x1),(8,sI O)]/\M'=[.row (.slice (some ⟨b3,0,none⟩) 4 4) (AH 4 (vI 0)) 261 1,.row (.slice (some ⟨b4,0,none⟩) 4 4) N 261 1]/\AF (CD .i64) V' (AH 4 0) (AH 4 (vI 0))/\AF (CD .i64) V' W N/\AK CN V' a2 k2 x1/\LX x1 y J8 ae W O=some r) Y tu ?_;rintro ae L' ah M' ⟨W,N,O,rfl,rfl,_,ai,aj,U⟩;refine i4 U λ_ U=>?_;have⟨aa,U⟩:=AL U;have⟨_,af,X⟩:=AK.get aj aa;obtain⟨ak,ZX,al,k22,an,k23,ao,k24,rfl,aq,ar,au,av⟩:=(Jx.1 af);refine Yr.ia Y ⟨aa.1,aa.2,X.some⟩ (Yr.ld (x:=vA (gv5 (AN x1 O) ak ZX al k22 an k23 ao k24)) Y X Y (Yr.DU (pm 5 0 3) Y (xr Y (ABu Aa 1 (kd:=.i64) Y Y Y Y Y ai Y Y (λay=>(Yr.cb U Y (H (AN x1 O) aq ar au av) λaw U=>?_))))));refine Yr.cb U Y (Nr W aw) λab U=>?_;refine AD.run Aa 2 Y ?_;have⟨ax,U⟩:=AL U;refine QS Aa 1 (nv:=(ab.map (Value.int .i64))) Y Y Y Y Y Y Y Y (by rw[Ap];exact ax) (λu hu=>by obtain⟨_,_,rfl⟩:=List.mem_map.1 hu;rfl) Y Y ?_;have az:AF (CD .i64) ah ab (ab.map (Value.int .i64)):=CH _;exact r2
def PK(z:(List BR)->AA (List Int))(K:BR->AA (List Int))(H:BR):AA (List Int):=
 (Ba (0<=(0:Int)/\0<((AH 4 0).length:Int)) (jn (λ(y:List Int)=>jn (λ(ak:List Int)(ad:List Int)=>some ad) (λO=>cond (H.Op==3) (Ba (0<=(1:Int)/\1<(y.length:Int)) (Az (F8 1099511627776 (⟨H.B.Op,H.B.N,H.B.S,H.B.Aw⟩:Ak)) λX=>Ba (0<=(1:Int)/\1<(y.length:Int)) (Ba (0<=(2:Int)/\2<((y.set (1:Int).toNat (min (AB ((AN y 1)+X)) 16385)).length:Int)) (O (AH 4 0) ((y.set (1:Int).toNat (min (AB ((AN y 1)+X)) 16385)).set (2:Int).toNat 1))))) (cond (H.Op==4) (Ba (0<=(2:Int)/\2<(y.length:Int)) (O (AH 4 0) (y.set (2:Int).toNat 1))) (cond (H.Op==7) (Ba (0<=(3:Int)/\3<(y.length:Int)) (O (AH 4 0) (y.set (3:Int).toNat 1))) (cond (H.Op==5) (Az (z H.CU) λae=>Az (z H.Js) λaf=>Az (Hl ae af) λag=>Az (FY y ag) λZ=>Ba (Z.length=4) (some Z)) (cond (H.Op==6) (Ba (0<=(1:Int)/\1<(y.length:Int)) (Az (F8 1099511627776 (⟨H.B.Op,H.B.N,H.B.S,H.B.Aw⟩:Ak)) λW=>Ba (0<=(1:Int)/\1<(y.length:Int)) (Ba (0<=(0:Int)/\0<((y.set (1:Int).toNat (min (AB ((AN y 1)+W)) 16385)).length:Int)) (Ba (0<=(0:Int)/\0<((y.set (1:Int).toNat (min (AB ((AN y 1)+W)) 16385)).length:Int)) (Az (z H.CU) λah=>Az (ID ah H.Max) λai=>Az (FY ((y.set (1:Int).toNat (min (AB ((AN y 1)+W)) 16385)).set (0:Int).toNat (AB ((AN (y.set (1:Int).toNat (min (AB ((AN y 1)+W)) 16385)) 0)+H.Max))) ai) λaa=>Ba (aa.length=4) (some aa)))))) (O (AH 4 0) y))))))) (λab=>cond (H.Op !=8) (Az (F8 1099511627776 (⟨H.A.Op,H.A.N,H.A.S,H.A.Aw⟩:Ak)) λaj=>Ba (0<=(1:Int)/\1<(((AH 4 0).set (0:Int).toNat 1).length:Int)) (ab (((AH 4 0).set (0:Int).toNat 1).set (1:Int).toNat aj))) (ab ((AH 4 0).set (0:Int).toNat 1)))))
theorem X0{W:(List BR)->AA (List Int)}{K:BR->AA (List Int)}(H:Ml W)(ab:Il K):Il (PK W K):=by
 intro V X a2 k2 a3 k3 a4 k4 a5 k5 h2 h3 h4 h5 r U;refine se Tryz.func199 ?_;refine AD.run Aa 4 Y (Fh 1 (n:=4) (sz:=1) (cs:=(AH 4 (vI 0))) Y Y Y Y Y (λ_=>Y) (λ_=>Y) (λ_=>Y) (λb6=>?_));have h6:AF (CD .i64) V (AH 4 0) (AH 4 (vI 0)):=by have:=CH (k:=.i64) (V:=V) (AH 4 0);rwa[K4]at this
 refine AD.run Aa 4 Y (Fh 2 (n:=4) (sz:=1) (cs:=(AH 4 (vI 0))) Y Y Y Y Y (λ_=>Y) (λ_=>Y) (λ_=>Y) (λb7=>?_));have h7:AF (CD .i64) V (AH 4 0) (AH 4 (vI 0)):=by have:=CH (k:=.i64) (V:=V) (AH 4 0);rwa[K4]at this
 have⟨q8,U⟩:=AL U;refine xr Y (CX 2 Y (λbk bQ bR=>?_));obtain⟨_,rfl,_⟩:=h7.get q8;have bl:=AF.len h7;refine LH Aa Y Y (ixA q8 bl bk (CD .i64).pos) ?_;have ay:=AF.len h7;have ai:AF (CD .i64) V ((AH 4 0).set (0:Int).toNat 1) (((AH 4 (vI 0)):List Value).take ((0:Int).toNat*1)++[vI 1]++((AH 4 (vI 0)):List Value).drop (((0:Int).toNat*1)+1)):=AF.set h7 q8 Y;refine Yr.Zr 2 Y ⟨_,_,Y⟩ (stB q8 ay) Y ?_;refine sm U (λaz L' V' M'=>∃(y:List Int),∃z,L'=[(1,.ptr 0 0),(2,sP b6),(3,sP b7)]/\M'=[.Bp (AJY X a2 k2 a3 k3 a4 k4 a5 k5) 267,.row (.slice (some ⟨b6,0,none⟩) 4 4) (AH 4 (vI 0)) 261 1,.row (.slice (some ⟨b7,0,none⟩) 4 4) z 261 1]/\AF (CD .i64) V' (AH 4 0) (AH 4 (vI 0))/\AF (CD .i64) V' y z/\AK Br V' a2 k2 X.A.Aw/\AK Br V' a3 k3 X.B.Aw/\AK CN V' a4 k4 X.CU/\AK CN V' a5 k5 X.Js/\az y=some r) Y ?_ λaz U=>?_
 ·rintro L' aa M' ⟨y,z,rfl,rfl,_,O,_,a1,a6,bm,U⟩;refine sm U (λa7 L' V' M'=>∃(av:List Int),∃af,∃(ad:List Int),∃ag,L'=[(2,sP b6),(3,sP b7)]/\M'=[.Bp (AJY X a2 k2 a3 k3 a4 k4 a5 k5) 267,.row (.slice (some ⟨b6,0,none⟩) 4 4) af 261 1,.row (.slice (some ⟨b7,0,none⟩) 4 4) ag 261 1]/\AF (CD .i64) V' av af/\AF (CD .i64) V' ad ag/\AK Br V' a2 k2 X.A.Aw/\AK Br V' a3 k3 X.B.Aw/\AK CN V' a4 k4 X.CU/\AK CN V' a5 k5 X.Js/\a7 av ad=some r) Y ?_ λa7 U=>?_
  ·rintro L' bn M' ⟨av,af,ad,ag,rfl,rfl,_,bo,_,_,_,_,U⟩;refine xr Y (X6 Aa 2 (kd:=.i64) Y Y Y bo Y Y (λa8=>?_));refine QS Aa 1 (nv:=(ad.map (Value.int .i64))) Y Y Y Y Y Y Y Y (by rw[Ap];exact a8) (λu hu=>by obtain⟨_,_,rfl⟩:=List.mem_map.1 hu;rfl) Y Y ?_;have bp:AF (CD .i64) bn ad (ad.map (Value.int .i64)):=CH _;cases U;exact xr Y (PN Aa 1 (kd:=.i64) Y Y Y Y Y Y Y bp Y)
  ·refine B4 U Y (λ_ U=>?_) λhb U=>?_
   ·refine Yr.DU (pm 9 0 15) Y ?_;have⟨aA,U⟩:=AL U;refine xr Y (CX 2 Y (λaB b2 b3=>?_));obtain⟨_,rfl,aC⟩:=O.get aA;have aD:=AF.len O;refine Lb Aa Y Y Y (ixA aA aD aB (CD .i64).pos) ?_;refine xr Y (Hp Aa 2 (x:=vI (AN y 1)) Y Y Y Y ⟨aC,⟨_,_,Y⟩⟩ Y Y ?_);refine Yr.cb U Y (TH (⟨X.B.Op,X.B.N,X.B.S,X.B.Aw⟩:Ak) a1) λah U=>?_;have⟨aj,U⟩:=AL U;refine xr Y (CX 2 Y (λaE b4 b5=>?_));obtain⟨_,rfl,_⟩:=O.get aj;have aF:=AF.len O;refine LH Aa Y Y (ixA aj aF aE (CD .i64).pos) ?_;have aG:=AF.len O;have ak:AF (CD .i64) aa (y.set (1:Int).toNat (min (AB ((AN y 1)+ah)) 16385)) (z.take ((1:Int).toNat*1)++[vI (min (AB ((AN y 1)+ah)) 16385)]++z.drop (((1:Int).toNat*1)+1)):=AF.set O aj Y;refine Yr.Zr 2 Y ⟨_,_,Y⟩ (stB aj aG) Y ?_;have⟨al,U⟩:=AL U;refine xr Y (CX 2 Y (λaH b8 b9=>?_));obtain⟨_,rfl,_⟩:=ak.get al;have aI:=AF.len ak;refine LH Aa Y Y (ixA al aI aH (CD .i64).pos) ?_;have aJ:=AF.len ak;have bS:AF (CD .i64) aa ((y.set (1:Int).toNat (min (AB ((AN y 1)+ah)) 16385)).set (2:Int).toNat 1) (((z.take ((1:Int).toNat*1)++[vI (min (AB ((AN y 1)+ah)) 16385)]++z.drop (((1:Int).toNat*1)+1)):List Value).take ((2:Int).toNat*1)++[vI 1]++((z.take ((1:Int).toNat*1)++[vI (min (AB ((AN y 1)+ah)) 16385)]++z.drop (((1:Int).toNat*1)+1)):List Value).drop (((2:Int).toNat*1)+1)):=AF.set ak al Y;refine Yr.Zr 2 Y ⟨_,_,Y⟩ (stB al aJ) Y ?_;exact rd
   ·refine B4 U Y (λ_ U=>?_) λhb U=>?_
    ·have⟨an,U⟩:=AL U;refine xr Y (CX 2 Y (λaK bA bB=>?_));obtain⟨_,rfl,_⟩:=O.get an;have aL:=AF.len O;refine LH Aa Y Y (ixA an aL aK (CD .i64).pos) ?_;have aM:=AF.len O;have bT:AF (CD .i64) aa (y.set (2:Int).toNat 1) (z.take ((2:Int).toNat*1)++[vI 1]++z.drop (((2:Int).toNat*1)+1)):=AF.set O an Y;refine Yr.Zr 2 Y ⟨_,_,Y⟩ (stB an aM) Y ?_;exact rd
    ·refine B4 U Y (λ_ U=>?_) λhb U=>?_
     ·have⟨ao,U⟩:=AL U;refine xr Y (CX 2 Y (λaN bC bD=>?_));obtain⟨_,rfl,_⟩:=O.get ao;have aO:=AF.len O;refine LH Aa Y Y (ixA ao aO aN (CD .i64).pos) ?_;have aP:=AF.len O;have bU:AF (CD .i64) aa (y.set (3:Int).toNat 1) (z.take ((3:Int).toNat*1)++[vI 1]++z.drop (((3:Int).toNat*1)+1)):=AF.set O ao Y;refine Yr.Zr 2 Y ⟨_,_,Y⟩ (stB ao aP) Y ?_;exact rd
     ·refine B4 U Y (λ_ U=>?_) λhb U=>?_
      ·refine Yr.DU [(0,true),(1,true),(2,true),(4,true),(5,true),(3,false),(6,false),(7,false),(8,false),(9,false)] Y (xr Y (ABu Aa 2 (kd:=.i64) Y Y Y Y Y O Y Y (λbE=>?_)));refine Yr.cb U Y (H X.CU a6) λbq U=>?_;refine Yr.cb U Y (H X.Js bm) λbr U=>?_;refine Yr.cb U Y (Uo bq br) λbs U=>?_;refine Yr.cb U Y (Nr y bs) λaw U=>?_;refine AD.run Aa 2 Y ?_;have⟨bt,U⟩:=AL U;refine QS Aa 1 (nv:=(aw.map (Value.int .i64))) Y Y Y Y Y Y Y Y (by rw[Ap];exact bt) (λu hu=>by obtain⟨_,_,rfl⟩:=List.mem_map.1 hu;rfl) Y Y ?_;have bu:AF (CD .i64) aa aw (aw.map (Value.int .i64)):=CH _;cases U;exact xr Y (PN Aa 1 (kd:=.i64) Y Y Y Y Y Y Y bu Y)
      ·refine i4 U λ_ U=>?_;refine Yr.DU (pm 9 0 15) Y ?_;have⟨aQ,U⟩:=AL U;refine xr Y (CX 2 Y (λaR bF bG=>?_));obtain⟨_,rfl,aS⟩:=O.get aQ;have aT:=AF.len O;refine Lb Aa Y Y Y (ixA aQ aT aR (CD .i64).pos) ?_;refine xr Y (Hp Aa 2 (x:=vI (AN y 1)) Y Y Y Y ⟨aS,⟨_,_,Y⟩⟩ Y Y ?_);refine Yr.cb U Y (TH (⟨X.B.Op,X.B.N,X.B.S,X.B.Aw⟩:Ak) a1) λZ U=>?_;have⟨aq,U⟩:=AL U;refine xr Y (CX 2 Y (λaU bH bI=>?_));obtain⟨_,rfl,_⟩:=O.get aq;have aV:=AF.len O;refine LH Aa Y Y (ixA aq aV aU (CD .i64).pos) ?_;have aW:=AF.len O;have ae:AF (CD .i64) aa (y.set (1:Int).toNat (min (AB ((AN y 1)+Z)) 16385)) (z.take ((1:Int).toNat*1)++[vI (min (AB ((AN y 1)+Z)) 16385)]++z.drop (((1:Int).toNat*1)+1)):=AF.set O aq Y;refine Yr.Zr 2 Y ⟨_,_,Y⟩ (stB aq aW) Y ?_;have⟨aX,U⟩:=AL U;refine xr Y (CX 2 Y (λaY bJ bK=>?_));obtain⟨_,rfl,aZ⟩:=ae.get aX;have ba:=AF.len ae;refine LH Aa Y Y (ixA aX ba aY (CD .i64).pos) ?_;refine xr Y (KM Aa 2 (x:=vI (AN (y.set (1:Int).toNat (min (AB ((AN y 1)+Z)) 16385)) 0)) Y Y Y ⟨aZ,⟨_,_,Y⟩⟩ Y Y ?_);have⟨ar,U⟩:=AL U;refine xr Y (CX 2 Y (λbb bL bM=>?_));obtain⟨_,rfl,_⟩:=ae.get ar;have bc:=AF.len ae;refine LH Aa Y Y (ixA ar bc bb (CD .i64).pos) ?_;have bd:=AF.len ae;have bw:AF (CD .i64) aa ((y.set (1:Int).toNat (min (AB ((AN y 1)+Z)) 16385)).set (0:Int).toNat (AB ((AN (y.set (1:Int).toNat (min (AB ((AN y 1)+Z)) 16385)) 0)+X.Max))) (((z.take ((1:Int).toNat*1)++[vI (min (AB ((AN y 1)+Z)) 16385)]++z.drop (((1:Int).toNat*1)+1)):List Value).take ((0:Int).toNat*1)++[vI (AB ((AN (y.set (1:Int).toNat (min (AB ((AN y 1)+Z)) 16385)) 0)+X.Max))]++((z.take ((1:Int).toNat*1)++[vI (min (AB ((AN y 1)+Z)) 16385)]++z.drop (((1:Int).toNat*1)+1)):List Value).drop (((0:Int).toNat*1)+1)):=AF.set ae ar Y;refine Yr.Zr 2 Y ⟨_,_,Y⟩ (stB ar bd) Y (Yr.DU [(0,true),(1,true),(2,true),(4,true),(5,true),(3,false),(6,false),(7,false),(8,false)] Y (xr Y (ABu Aa 2 (kd:=.i64) Y Y Y Y Y bw Y Y (λbN=>(Yr.cb U Y (H X.CU a6) λbx U=>?_)))));refine Yr.cb U Y (VX bx X.Max) λbz U=>?_;refine Yr.cb U Y (Nr ((y.set (1:Int).toNat (min (AB ((AN y 1)+Z)) 16385)).set (0:Int).toNat (AB ((AN (y.set (1:Int).toNat (min (AB ((AN y 1)+Z)) 16385)) 0)+X.Max))) bz) λax U=>?_;refine AD.run Aa 2 Y ?_;have⟨b0,U⟩:=AL U;refine QS Aa 1 (nv:=(ax.map (Value.int .i64))) Y Y Y Y Y Y Y Y (by rw[Ap];exact b0) (λu hu=>by obtain⟨_,_,rfl⟩:=List.mem_map.1 hu;rfl) Y Y ?_;have b1:AF (CD .i64) aa ax (ax.map (Value.int .i64)):=CH _;cases U;exact xr Y (PN Aa 1 (kd:=.i64) Y Y Y Y Y Y Y b1 Y)
 ·refine i4 U λ_ U=>?_;refine Yr.cb U Y (TH (⟨X.A.Op,X.A.N,X.A.S,X.A.Aw⟩:Ak) h2) λbf U=>?_;have⟨au,U⟩:=AL U;refine xr Y (CX 2 Y (λbg bO bP=>?_));obtain⟨_,rfl,_⟩:=ai.get au;have bh:=AF.len ai;refine LH Aa Y Y (ixA au bh bg (CD .i64).pos) ?_;have bj:=AF.len ai;have bV:AF (CD .i64) V (((AH 4 0).set (0:Int).toNat 1).set (1:Int).toNat bf) (((((AH 4 (vI 0)):List Value).take ((0:Int).toNat*1)++[vI 1]++((AH 4 (vI 0)):List Value).drop (((0:Int).toNat*1)+1)):List Value).take ((1:Int).toNat*1)++[vI bf]++((((AH 4 (vI 0)):List Value).take ((0:Int).toNat*1)++[vI 1]++((AH 4 (vI 0)):List Value).drop (((0:Int).toNat*1)+1)):List Value).drop (((1:Int).toNat*1)+1)):=AF.set ai au Y;exact Yr.Zr 2 Y ⟨_,_,Y⟩ (stB au bj) Y rd
mutual
def Gw:Nat->(List BR)->AA (List Int)
 |0,_=>none|n+1,y=>QN (Gw n) (GZ n) y
def GZ:Nat->BR->AA (List Int)
 |0,_=>none|n+1,y=>PK (Gw n) (GZ n) y
end
theorem Vv:∀n:Nat,Ml (Gw n)/\Il (GZ n):=by
 intro n
 induction n with
 |zero=>exact⟨by unfold Ml;intros;rename_i h;simp[Gw]at h,by unfold Il;intros;rename_i h;simp[GZ]at h⟩
 |succ n y=>exact⟨ACb y.1 y.2,X0 y.1 y.2⟩
theorem AES:Ml (Gw n):=(Vv n).1
theorem AJ0:Il (GZ n):=(Vv n).2
def HP(z:List A9)(K:AA Bool):Nat->Int->AA Bool
 |0,_=>none|N+1,y=>cond (decide (y<(z.length:Int))) (Ba (0<=y/\y<(z.length:Int)) (Az (IN (AN z y)) λH=>Ba ((((decide (0<y))==true)&&((!H)==false))=true->0<=(AB (y-1))/\(AB (y-1))<(z.length:Int)) (cond ((!H)||((decide (0<y))&&(!Dy (cond (((decide (0<y))==true)&&((!H)==false)) (AN z (AB (y-1))) default) (AN z y)))) (some false) (HP z K N (AB (y+1)))))) K
def I1(y:List A9):AA Bool:=
 (jn (some (decide ((y.length:Int)<=(64:Int)))) (λz=>HP y z ((y.length:Int).toNat+1) 0))
theorem Qw(z:List A9){a2:AA Addr}(h2:AK Bf V a2 y z)(U:I1 z=some r):Sp 182 [vL a2 z y] V (λ_ v=>v=vB r):=by
 unfold I1 at U;refine se Tryz.func182 ?_;refine AD.run Aa 11 Y ?_;refine sn U (λJ3 L' V' M'=>L'=[(0,sL a2 z y)]/\M'=[]/\AK Bf V' a2 y z/\J3=some r) Y ?_ λJ3 U=>?_
 ·rintro L' _ M' ⟨rfl,rfl,_,U⟩;exact rt
 ·refine lq (λn7 L' V' M'=>∃(N:Int),L'=[(0,sL a2 z y),(5,sL a2 z y),(6,sN z),(7,sI N)]/\M'=[]/\AK Bf V' a2 y z/\HP z J3 n7 N=some r) Y tu ?_;rintro n7 L' _ M' ⟨N,rfl,rfl,h9,U⟩;refine i4 U λhb U=>?_;have⟨X,U⟩:=AL U;obtain⟨_,rfl,O⟩:=AK.get h9 X;refine Yr.ia Y ⟨X.1,X.2,O.some⟩ (Yr.ld (x:=vS (AN z N)) Y O Y (Yr.cb U Y (Mh (AN z N)) λaa U=>?_));have⟨Z,U⟩:=AL U;obtain⟨_,rfl,W⟩:=AK.OG (((decide (0<N))==true)&&((!aa)==false)) h9 Z;exact Yr.ia Y (λH K=>⟨(Z (Dr H K)).1,(Z (Dr H K)).2,(W (Dr H K)).some⟩) (Yr.ld (x:=vS (cond (((decide (0<N))==true)&&((!aa)==false)) (AN z (AB (N-1))) default)) Y (λH K=>(W (Dr H K))) Y (B4 U Y (λ_ U=>rt) λ_ U=>rd))
def HO(y:AQ):AA ((Except Gk Unit)×AQ):=
 (cond (decide (16384<(AB (y.AS.Steps+1)))) (Az (CR 1008) λz=>I9 z (λH=>some ((.error H),(⟨y.state,⟨y.DN.G7,y.DN.Am,y.DN.AX⟩,y.vars,y.own,⟨⟨y.AS.Ad.DY,y.AS.Ad.Code,y.AS.Ad.Out⟩,y.AS.Am,y.AS.DB,y.AS.AX,y.AS.NG,(AB (y.AS.Steps+1))⟩⟩:AQ))) λK=>some ((.ok ()),(⟨y.state,⟨y.DN.G7,y.DN.Am,y.DN.AX⟩,y.vars,y.own,⟨⟨y.AS.Ad.DY,y.AS.Ad.Code,y.AS.Ad.Out⟩,y.AS.Am,y.AS.DB,y.AS.AX,y.AS.NG,(AB (y.AS.Steps+1))⟩⟩:AQ))) (some ((.ok ()),(⟨y.state,⟨y.DN.G7,y.DN.Am,y.DN.AX⟩,y.vars,y.own,⟨⟨y.AS.Ad.DY,y.AS.Ad.Code,y.AS.Ad.Out⟩,y.AS.Am,y.AS.DB,y.AS.AX,y.AS.NG,(AB (y.AS.Steps+1))⟩⟩:AQ))))
theorem Ow(O:AQ)(W:Dc V y z N O X){r:(Except Gk Unit)×AQ}(U:HO O=some r):Sx 184 [vP y] X V (λV' e M'=>Dc V' y z N r.2 M'/\e=Pv 246 (λ(_:Unit)=>.tuple ⟨[]⟩) r.1):=by
 obtain⟨_,_,_,_,_,_,_,_,_,_,_,_,_,_,_,_,_,_,rfl,_,_,_,_,_,_,_⟩:=W;refine sx Tryz.func184 ?_;refine Yr.O5 (l:=[vI O.AS.Steps]) 0 Y (Ar Y) Y ?_;refine Yr.P6 0 Y (Ae Y) ?_;refine Yr.O5 (l:=[vI (AB (O.AS.Steps+1))]) 0 Y (Ar Y) Y ?_;refine B4 U Y (λ_ U=>?_) λ_ U=>rf;refine xr Y ?_;have⟨_,K,U⟩:=AO U;rcases EM U with⟨_,H,U⟩|⟨_,H,U⟩
 ·refine Y.GC [] Y (Co 1008 K) H ?_;rintro _ _ _ rfl;cases U;exact tu
 refine Y.GB [] Y (Co 1008 K) H ?_;rintro _ _ _ rfl;refine⟨_,Y,?_⟩;exact rf
def MR(y:A9):AA Bool:=
 (Az (JS y (λz=>Kg z)) λH=>some H)
theorem Ul(y:A9)(U:MR y=some r):Sp 189 [vS y] V (λ_ v=>v=vB r):=by
 refine se Tryz.func189 ?_;refine Yr.cb U Y (Tg y (λz=>Kg z) (λV' hv z r H=>Yz z H)) λK U=>?_;exact rt
def I0(y:A9):AA Bool:=
 (Ba ((((y !=([]:A9))&&(decide ((y.length:Int)<=(16:Int))))==true)=true->0<=(0:Int)/\0<(y.length:Int)) (Az (CG (((y !=([]:A9))&&(decide ((y.length:Int)<=(16:Int))))==true) (RC (IntKind.i32.wrap (B0 y (0:Int).toNat)))) λz=>Az (CG ((((y !=([]:A9))&&(decide ((y.length:Int)<=(16:Int))))&&z)==true) (X4 y)) λH=>Az (CG (((((y !=([]:A9))&&(decide ((y.length:Int)<=(16:Int))))&&z)&&(H==(y.length:Int)))==true) (Jk y)) λK=>some (((((y !=([]:A9))&&(decide ((y.length:Int)<=(16:Int))))&&z)&&(H==(y.length:Int)))&&(!K))))
theorem OP(y:A9)(U:I0 y=some r):Sp 223 [vS y] V (λ_ v=>v=vB r):=by
 refine se Tryz.func223 ?_;have⟨q2,U⟩:=AL U;refine xr Y (Mq Aa Y Y (λz=>q2 (Bv z)) ?_);refine Gj U Y (Uk (IntKind.i32.wrap (B0 y (0:Int).toNat))) λH U=>?_;refine Gj U Y (AEP y) λK U=>?_;refine Gj U Y (Xu y) λN U=>?_;exact rt
def R3(z:Ak)(y:List Ak):AA (Unit×List Ak):=
 (Az (Jq 1099511627776 z) λH=>Ba ((y++[(⟨0,0,([]:A9),([]:List Ak)⟩:Ak)]).length*56<=140737488355328) (Ba (0<=(y.length:Int)/\(y.length:Int)<((y++[(⟨0,0,([]:A9),([]:List Ak)⟩:Ak)]).length:Int)) (some ((),(((y++[(⟨0,0,([]:A9),([]:List Ak)⟩:Ak)]).set (y.length:Int).toNat H):List Ak)))))
theorem ACX(x1:Ak)(H:List Ak){a2:AA Addr}(h2:AK Br V a2 y x1.Aw)(aq:ANb V z H X){r:Unit×List Ak}(U:R3 x1 H=some r):Sx 232 [vA (Ws x1 a2 y),vP z] X V (λV' e M'=>ANb V' z r.2 M'/\e=.returned (.tuple ⟨[]⟩)):=by
 obtain⟨a5,k5,K,rfl,_⟩:=aq;refine sx Tryz.func232 ?_;refine Yr.E2 [7,8] [1] [(0,true),(1,true),(3,true)] Y ?_;refine Yr.Jw (l:=[vL a5 H k5]) 0 Y (Ar Y) ?_;have⟨W,ag,U⟩:=AO U;refine xr Y (Nd 2 4 [(4,false)] [(2,false)] [(5,false)] (λlr' L' V' M'=>∃a7 k7,lr'=[]/\L'=[(1,sP z),(3,sL a5 H k5),(5,.v (vA (Ws W a7 k7))),(6,sN H),(7,.TY 3 0 1 1)]/\M'=[.row (vR z) [vL a5 H k5] 263 1,.row (vL a5 H k5) K 265 4,.Bp (AHD x1 a2 y) 265,.Bp [sI 0,sI 0,sS ([]:A9),.v (.slice none 0 0)] 265]/\AK Br V' a7 k7 W.Aw/\AF Br V' H K/\AK Br V' a2 y x1.Aw) 4 [true,true,true,true,true,false,false,false,false] Y kz Y Y kz kz kz kz (λjoin=>?_) (λjoin=>?_) ?_)
 ·refine Yr.call Y (Xz x1 h2 ag) ?_;rintro _ _ _ ⟨ar,Nf,rfl,_⟩;exact Yr.RV Y (xr Y (join [0,1,2,3] (lr':=[]) (L':=[(1,sP z),(3,sL a5 H k5),(5,.v (vA (Ws W ar Nf))),(6,sN H),(7,.TY 3 0 1 1)]) Y Y Y Y sb Yt tu))
 ·refine Yr.RV Y (Yr.call Y (Xz x1 h2 ag) ?_);rintro _ _ _ ⟨au,T3,rfl,_⟩;exact xr Y (join [0,1,2,3] (lr':=[]) (L':=[(1,sP z),(3,sL a5 H k5),(5,.v (vA (Ws W au T3))),(6,sN H),(7,.TY 3 0 1 1)]) Y Y Y Y sb Yt tu)
 rintro lr' L' Z M' ⟨a7,k7,rfl,rfl,rfl,_,av,_⟩;have⟨aw,U⟩:=AL U;refine Yr.app (nm:=(H++[(⟨0,0,([]:A9),([]:List Ak)⟩:Ak)]).length) 1 3 Y zp (λ_ _=>Y) aw (λaf k23=>?_);have O:AF Br Z (H++[(⟨0,0,([]:A9),([]:List Ak)⟩:Ak)]) (K++[vI 0,vI 0,vS ([]:A9),.slice none 0 0]):=AF.app av ⟨_,_,Y,(DS.2 ⟨_,_,Y,AK.nil⟩),Y⟩;have⟨N,U⟩:=AL U;refine xr Y (AKA [] (λlr' L' V' M'=>lr'=[]/\L'=[]/\M'=[.row (vR z) [vL af (H++[(⟨0,0,([]:A9),([]:List Ak)⟩:Ak)]) k23] 263 1,.row (vL af (H++[(⟨0,0,([]:A9),([]:List Ak)⟩:Ak)]) k23) (((K++[vI 0,vI 0,vS ([]:A9),.slice none 0 0]):List Value).take ((H.length:Int).toNat*4)++(Ws W a7 k7)++((K++[vI 0,vI 0,vS ([]:A9),.slice none 0 0]):List Value).drop (((H.length:Int).toNat*4)+4)) 265 4,.Bp (AHD x1 a2 y) 265,.Bp [sI 0,sI 0,sS ([]:A9),.v (.slice none 0 0)] 265]/\AF Br V' ((H++[(⟨0,0,([]:A9),([]:List Ak)⟩:Ak)]).set (H.length:Int).toNat W) (((K++[vI 0,vI 0,vS ([]:A9),.slice none 0 0]):List Value).take ((H.length:Int).toNat*4)++(Ws W a7 k7)++((K++[vI 0,vI 0,vS ([]:A9),.slice none 0 0]):List Value).drop (((H.length:Int).toNat*4)+4))/\AK Br V' a2 y x1.Aw) 0 [true,true,true,true,true,true,true,true,true] kz (λjoin=>?_) ?_)
 ·refine xr Y (N5 (i:=6) (j:=8) [] [(6,false),(7,false)] Y kz Y Y kz kz kz ?_ ?_)
  ·refine xr Y (CX 1 Y (λay ah az=>?_));have⟨_,ai,_⟩:=AF.get O N;obtain⟨_,_,rfl,_⟩:=(DS.1 ai);have ab:0<=(H.length:Int)/\(H.length:Int)<((H++[(⟨0,0,([]:A9),([]:List Ak)⟩:Ak)]).length:Int):=N;have aa:=ah ox;refine AD.ia Aa Y Y ⟨ab.1,ab.2,aa⟩ ?_;refine xr Y (xr Y (N5 (i:=7) (j:=8) [(8,false)] [(7,false)] Y kz Y Y kz kz kz ?_ ?_))
   ·have aj:=AF.len O;have a8:AF Br Z ((H++[(⟨0,0,([]:A9),([]:List Ak)⟩:Ak)]).set (H.length:Int).toNat W) (((K++[vI 0,vI 0,vS ([]:A9),.slice none 0 0]):List Value).take ((H.length:Int).toNat*4)++(Ws W a7 k7)++((K++[vI 0,vI 0,vS ([]:A9),.slice none 0 0]):List Value).drop (((H.length:Int).toNat*4)+4)):=AF.set O N (DS.2 tu);refine Yr.Zr 1 Y aa (stB N aj) Y ?_;refine Yr.P6 0 Y (Ae Y) ?_;refine AD.run Aa 1 Y ?_;exact join [0,1,2,3] (lr':=[]) (L':=[]) Y Y Y Y Yt Yt tu
   ·refine Yr.P6 0 Y (Ae Y) ?_;have ak:=AF.len O;have aA:AF Br Z ((H++[(⟨0,0,([]:A9),([]:List Ak)⟩:Ak)]).set (H.length:Int).toNat W) (((K++[vI 0,vI 0,vS ([]:A9),.slice none 0 0]):List Value).take ((H.length:Int).toNat*4)++(Ws W a7 k7)++((K++[vI 0,vI 0,vS ([]:A9),.slice none 0 0]):List Value).drop (((H.length:Int).toNat*4)+4)):=AF.set O N (DS.2 tu);exact Yr.Zr 1 Y aa (stB N ak) Y (AD.run Aa 1 Y (join [0,1,2,3] (lr':=[]) (L':=[]) Y Y Y Y Yt Yt tu))
  ·refine Yr.P6 0 Y (Ae Y) (xr Y (CX 1 Y (λa1 al a6=>?_)));have⟨_,an,_⟩:=AF.get O N;obtain⟨_,_,rfl,_⟩:=(DS.1 an);have ad:0<=(H.length:Int)/\(H.length:Int)<((H++[(⟨0,0,([]:A9),([]:List Ak)⟩:Ak)]).length:Int):=N;have ae:=al ox;refine AD.ia Aa Y Y ⟨ad.1,ad.2,ae⟩ ?_;have ao:=AF.len O;have aB:AF Br Z ((H++[(⟨0,0,([]:A9),([]:List Ak)⟩:Ak)]).set (H.length:Int).toNat W) (((K++[vI 0,vI 0,vS ([]:A9),.slice none 0 0]):List Value).take ((H.length:Int).toNat*4)++(Ws W a7 k7)++((K++[vI 0,vI 0,vS ([]:A9),.slice none 0 0]):List Value).drop (((H.length:Int).toNat*4)+4)):=AF.set O N (DS.2 tu);exact Yr.Zr 1 Y ae (stB N ao) Y (AD.run Aa 1 Y (join [0,1,2,3] (lr':=[]) (L':=[]) Y Y Y Y Yt Yt tu))
 rintro lr' L' _ M' ⟨rfl,rfl,rfl,ax,_⟩;obtain rfl:=Bt U;exact Yr.SL Y ⟨Y,Y,⟨af,k23,(((K++[vI 0,vI 0,vS ([]:A9),.slice none 0 0]):List Value).take ((H.length:Int).toNat*4)++(Ws W a7 k7)++((K++[vI 0,vI 0,vS ([]:A9),.slice none 0 0]):List Value).drop (((H.length:Int).toNat*4)+4)),(by simp[Ln]),ax⟩,Y⟩
def TU(y:Int):AA A9:=
 (Az (NL y 10) λz=>some z)
theorem AEO(y:Int)(z:Hz V){r:A9}(U:TU y=some r):Sp 240 [vI y] V (λ_ v=>v=vS r):=by
 refine se Tryz.func240 ?_;refine Yr.cb U Y (VM y 10 z) λH U=>?_;exact rt
def IC(W:Int)(y:Int)(z:Int):AA (Except Gk Ah):=
 (cond (W==4) (Az (ADS y z) λx4=>Az (F3 x4.1 x4.2) λx5=>I9 x5 (λs6=>some (.error s6)) λx7=>some (.ok x7)) (cond (W==5) (Az (ADO y z) λH=>Az (F3 H.1 H.2) λX=>I9 X (λZ=>some (.error Z)) λaa=>some (.ok aa)) (cond (W==6) (Az (ADP y z) λK=>Az (F3 K.1 K.2) λab=>I9 ab (λad=>some (.error ad)) λae=>some (.ok ae)) (cond (W==7) (Az (ADR y z) λN=>Az (F3 N.1 N.2) λaf=>I9 af (λag=>some (.error ag)) λah=>some (.ok ah)) (Az (ADQ y z) λO=>Az (F3 O.1 O.2) λai=>I9 ai (λaj=>some (.error aj)) λak=>some (.ok ak))))))
theorem VS(x1:Int)(z:Int)(H:Int){r:Except Gk Ah}(U:IC x1 z H=some r):Sx 242 [vI x1,vI z,vI H] [] V (λV' e M'=>M'=[]/\e=Pv 246 (λ(y:Ah)=>(vA (Te y):Value)) r):=by
 refine sx Tryz.func242 ?_;refine B4 U Y (λ_ U=>?_) λhb U=>?_
 ·refine Yr.cb U Y (AJz z H) λx4 U=>?_;refine xr Y ?_;have⟨_,ad,U⟩:=AO U;refine Y.cx U [] Y (Iw x4.1 x4.2 ad) (λx7 ai U=>?_);rintro _ _ _ rfl;refine⟨_,Y,?_⟩;exact rt
 ·refine B4 U Y (λ_ U=>?_) λhb U=>?_
  ·refine Yr.cb U Y (AJv z H) λK U=>?_;refine xr Y ?_;have⟨_,N,U⟩:=AO U;refine Y.cx U [] Y (Iw K.1 K.2 N) (λaj ae U=>?_);rintro _ _ _ rfl;refine⟨_,Y,?_⟩;exact rt
  ·refine B4 U Y (λ_ U=>?_) λhb U=>?_
   ·refine Yr.cb U Y (AJw z H) λO U=>?_;refine xr Y ?_;have⟨_,W,U⟩:=AO U;refine Y.cx U [] Y (Iw O.1 O.2 W) (λak af U=>?_);rintro _ _ _ rfl;refine⟨_,Y,?_⟩;exact rt
   ·refine B4 U Y (λ_ U=>?_) λ_ U=>?_
    ·refine Yr.cb U Y (AJy z H) λX U=>?_;refine xr Y ?_;have⟨_,Z,U⟩:=AO U;refine Y.cx U [] Y (Iw X.1 X.2 Z) (λal ag U=>?_);rintro _ _ _ rfl;refine⟨_,Y,?_⟩;exact rt
    ·refine Yr.cb U Y (AJx z H) λaa U=>?_;refine xr Y ?_;have⟨_,ab,U⟩:=AO U;refine Y.cx U [] Y (Iw aa.1 aa.2 ab) (λan ah U=>?_);rintro _ _ _ rfl;refine⟨_,Y,?_⟩;exact rt
def Dn(y:List Gd)(z:Gd->AA Bool):AA Bool:=
 (Az (EA y z) λH=>some (decide (0<=H)))
theorem LM(H:List Gd)(K:Gd->AA Bool){a2:AA Addr}(h2:AK Er V a2 z H)(N:Hq Tryz.prog y O V (λ(aa:Gd)=>vA (AFY aa)) (λ(r:Bool)=>vB r) K)(U:Dn H K=some r):Sp 249 [vL a2 H z,.func (.func y) #[] ⟨O⟩] V (λ_ v=>v=vB r):=by
 refine se Tryz.func249 ?_;refine Yr.cb U Y (MF H K h2 N) λW U=>?_;exact rt
def Rj(y:BR)(z:KW):AA Bool:=
 (Az (CG (((!z.a)==true)&&(((!z.name)&&(y.Name !=([]:A9)))==false)) (Ol (⟨y.A.Op,y.A.N,y.A.S,y.A.Aw⟩:Ak))) λH=>Az (CG (((!z.b)==true)&&((((!z.name)&&(y.Name !=([]:A9)))||((!z.a)&&(!H)))==false)) (Ol (⟨y.B.Op,y.B.N,y.B.S,y.B.Aw⟩:Ak))) λK=>cond (((((((!z.name)&&(y.Name !=([]:A9)))||((!z.a)&&(!H)))||((!z.b)&&(!K)))||((!z.max)&&(y.Max !=0)))||((!z.body)&&(decide (0<(y.CU.length:Int)))))||((!z.other)&&(decide (0<(y.Js.length:Int))))) (some false) (cond (y.Op==6) (some ((decide (1<=y.Max))&&(decide (y.Max<=16)))) (cond (y.Op==8) (some ((decide (0<=y.Max))&&(decide (y.Max<=999)))) (some true))))
theorem AF5(H:BR)(K:KW){a2:AA Addr}{a3:AA Addr}{a4:AA Addr}{a5:AA Addr}(h2:AK Br V a2 y H.A.Aw)(h3:AK Br V a3 z H.B.Aw)(X:AK CN V a4 N H.CU)(Z:AK CN V a5 W H.Js)(U:Rj H K=some r):Sp 253 [vA (gv5 H a2 y a3 z a4 N a5 W),vA (APX K)] V (λ_ v=>v=vB r):=by
 refine se Tryz.func253 ?_;refine Gj U Y (TM (⟨H.A.Op,H.A.N,H.A.S,H.A.Aw⟩:Ak) h2) λx7 U=>?_;refine Gj U Y (TM (⟨H.B.Op,H.B.N,H.B.S,H.B.Aw⟩:Ak) h3) λx8 U=>?_;refine i1 U λO U=>?_;refine i1 U λO U=>?_;exact i3 U
def L5(y:A9)(z:A9):AA Bool:=
 (Az (LF y) λH=>Az (CG ((H)==true) (LF z)) λK=>some ((H&&(!K))||(Dy y z)))
theorem Xw(y:A9)(z:A9)(U:L5 y z=some r):Sp 264 [vS y,vS z] V (λ_ v=>v=vB r):=by
 refine se Tryz.func264 ?_;refine Yr.cb U Y (Qx y) λH U=>?_;refine Gj U Y (Qx z) λK U=>?_;exact rt
section
variable {S:Type}
def I5(fS:BR->Int->S->AA S)(fR:Ak->S->AA S)(y:Bn S)(H:Ak):AA (Unit×Bn S):=
 (Az (CG ((y.left==0)==false) (Ol H)) λK=>cond ((y.left==0)||K) (some ((),(⟨y.left,y.Tm⟩:Bn S))) (Az (fR H y.Tm) λN=>Az (FH fS fR 1099511627776 (⟨y.left,N⟩:Bn S) H) λz=>some ((),(⟨z.2.left,z.2.Tm⟩:Bn S))))
theorem Q0{S:Type}{fS:BR->Int->S->AA S}{fR:Ak->S->AA S}{J:AM->S->Ext->Prop}(Z:∀{V V':AM}{s:S}{E:Ext},DI V V'->J V s E->J V' s E)(hS:Q6 J f1 ca1 fS)(hR:Ry J f2 ca2 fR)(K:Bn S)(H:Ak){a5:AA Addr}(O:HE J f1 ca1 f2 ca2 V y K X)(h5:AK Br V a5 z H.Aw){r:Unit×Bn S}(U:I5 fS fR K H=some r):Sx 269 [vP y,vA (Ws H a5 z)] X V (λV' e M'=>HE J f1 ca1 f2 ca2 V' y r.2 M'/\e=.returned (.tuple ⟨[]⟩)):=by
 obtain⟨_,rfl,h3⟩:=O;refine sx Tryz.func269 ?_;refine Yr.O5 (l:=[vI K.left]) 0 Y (Ar Y) Y (Gj U Y (TM H h5) λx6 U=>?_);refine i1 U λ_ U=>?_;refine Yr.E2 [] [1] (pm 6 0 31) Y ?_;refine Yr.Jw (l:=[.func (.func f2) #[] ⟨ca2⟩]) 0 Y (Ar Y) ?_;have⟨x7,W,U⟩:=AO U;refine Yr.HT [1] Y (hR H _ K.Tm (DS.2 tu) h3 W) ?_;rintro _ _ _ ⟨_,rfl,_⟩;refine⟨_,Y,?_⟩;have⟨_,N,U⟩:=AO U;refine Yr.HT [0,1] Y (Xy (J:=J) (f1:=f1) (f2:=f2) (ca1:=ca1) (ca2:=ca2) @Z hS hR (⟨K.left,x7⟩:Bn S) H tu tu N) ?_;rintro _ _ _ ⟨_,rfl,_⟩;refine⟨_,Y,?_⟩;exact rf
end
def NX(K:List Int)(z:Int×Int)(H:AA (Int×Int)):Nat->Int->AA (Int×Int)
 |0,_=>none|N+1,y=>cond (decide (y<(K.length:Int))) (Ba (0<=y/\y<(K.length:Int)) (cond ((AN K y) !=z.1) (some (0,10)) (NX K z H N (AB (y+1))))) H
def NW(N:Ak)(y:Ak->(List (A9×Int))->AA (Int×Int))(O:List (A9×Int))(W:(List Int)->AA (Int×Int)):Nat->(List Int)->Int->AA (Int×Int)
 |0,_,_=>none|X+1,K,z=>cond (decide (z<(N.Aw.length:Int))) (Ba (0<=z/\z<(N.Aw.length:Int)) (Az (y (AN N.Aw z) O) λH=>cond (H.2 !=0) (some (0,H.2)) (Ba ((K++[H.1]).length*8<=140737488355328) (NW N y O W X (K++[H.1]) (AB (z+1)))))) (W K)
def Wo(y:Ak->(List (A9×Int))->AA (Int×Int))(H:Ak)(K:List (A9×Int)):AA (Int×Int):=
 (cond (H.Op==3) (cond (!((D4 H.S K).isSome)) (some (0,11)) (cond ((decide (((D4 H.S K).getD (default:Int))<1))||(decide (3<((D4 H.S K).getD (default:Int))))) (some (0,10)) (some (((D4 H.S K).getD (default:Int)),0)))) (jn (λ(z:List Int)=>cond ((decide (10<=H.Op))&&(decide (H.Op<=15))) (Ba (0<=(0:Int)/\0<(z.length:Int)) (Ba (0<=(1:Int)/\1<(z.length:Int)) (Ba ((((AN z 0) !=(AN z 1))==false)=true->0<=(0:Int)/\0<(z.length:Int)) (Az (CG (((AN z 0) !=(AN z 1))==false) (Sa H.Op (cond (((AN z 0) !=(AN z 1))==false) (AN z 0) default))) λO=>cond (((AN z 0) !=(AN z 1))||(!O)) (some (0,10)) (some (3,0)))))) (Az (Jf H.Op) λN=>jn (some (N.2,0)) (λW=>NX z N W ((z.length:Int).toNat+1) 0))) (λX=>NW H y K X ((H.Aw.length:Int).toNat+1) ([]:List Int) 0)))
def RA(g:Ak->(List (A9×Int))->AA (Int×Int)):Prop:=∀{V:AM}(z:Ak)(H:List (A9×Int)){a2:AA Addr}{k2:Nat}{K:Nat}(h2:AK Br V a2 k2 z.Aw){r:Int×Int},g z H=some r->Sx 272 [vA (Ws z a2 k2),.map (some K)] [.ext (FN (λ(y:Int)=>(vI y:Value)) K H)] V (λV' e M'=>M'=[.ext (FN (λ(y:Int)=>(vI y:Value)) K H)]/\e=.returned (.tuple ⟨[vI (r.1),vI (r.2)]⟩))
theorem AGC{z:Ak->(List (A9×Int))->AA (Int×Int)}(K:RA z):RA (Wo z):=by
 intro V N x3 a2 k2 b4 h2 r U;refine sx Tryz.func272 ?_;refine B4 U Y (λhb U=>?_) λhb U=>?_
 ·have aL:((D4 N.S x3).map (λ(y:Int)=>(vI y:Value))).getD (vI 0)=vI ((D4 N.S x3).getD (default:Int)):=by cases D4 N.S x3<;>rfl
  refine xr Y (Po 0 Y Y Y Tryz.underlying275 Tryz.underlying9 (RL kz) Y Y aL Y ?_);refine i1 U λhb U=>?_;exact i3 U
 ·refine AD.run Aa 13 Y (AD.Eh 3 1 Y ?_);have h6:AF (CD .i64) V ([]:List Int) []:=AF.nil;refine sn U (λJ9 L' V' M'=>∃(H:List Int),∃a7 k7 aa,L'=[(2,.ptr 1 0),(8,sL a7 H k7)]/\M'=[.ext (FN (λ(y:Int)=>(vI y:Value)) b4 x3),.Bp (AHD N a2 k2) 265,.row (vL a7 H k7) aa 3 1]/\AF (CD .i64) V' H aa/\AK Br V' a2 k2 N.Aw/\J9 H=some r) Y ?_ λJ9 U=>?_
  ·rintro L' _ M' ⟨H,a7,k7,aa,rfl,rfl,h7,_,U⟩;refine B4 U Y (λhb U=>?_) λhb U=>?_
   ·refine Yr.DU (pm 16 0 8191) Y ?_;have⟨aw,U⟩:=AL U;refine xr Y (CX 2 Y (λaU ax aV=>?_));obtain⟨_,rfl,ay⟩:=AF.get h7 aw;have af:0<=(0:Int)/\0<(H.length:Int):=aw;have ag:=ax ox;refine AD.Qp Aa Y Y Y ⟨af.1,af.2,ag⟩ ?_;refine xr Y (Hp Aa 2 (x:=vI (AN H 0)) Y Y Y Y ⟨ay,ag⟩ Y Y ?_);have⟨az,U⟩:=AL U;refine xr Y (CX 2 Y (λaW a1 aX=>?_));obtain⟨_,rfl,a6⟩:=AF.get h7 az;have ah:0<=(1:Int)/\1<(H.length:Int):=az;have ai:=a1 ox;refine AD.Qp Aa Y Y Y ⟨ah.1,ah.2,ai⟩ ?_;refine xr Y (Hp Aa 2 (x:=vI (AN H 1)) Y Y Y Y ⟨a6,ai⟩ Y Y ?_);have⟨a8,U⟩:=AL U;refine xr Y (CX 2 Y (λaY aA aZ=>?_));obtain⟨_,rfl,aB⟩:=AF.OG (((AN H 0) !=(AN H 1))==false) h7 a8;have ab:(((AN H 0) !=(AN H 1))==false)=true->0<=(0:Int)/\0<(H.length:Int):=a8;have aj:(((AN H 0) !=(AN H 1))==false)=true->∃b o,a7=some ⟨b,o,none⟩:=λhg=>aA (by have:=ab hg;omega);refine AD.Qp Aa Y Y Y (λX=>⟨(ab (Bv X)).1,(ab (Bv X)).2,aj (Bv X)⟩) ?_;refine xr Y (Hp Aa 2 (x:=vI (cond (((AN H 0) !=(AN H 1))==false) (AN H 0) default)) Y Y Y Y (λX=>⟨(aB (Bv X)),(aj (Bv X))⟩) Y Y ?_);refine Gj U Y (Yw N.Op (cond (((AN H 0) !=(AN H 1))==false) (AN H 0) default)) λbc U=>?_;exact i3 U
   ·refine Yr.cb U Y (Xl N.Op) λae U=>?_;refine AD.run Aa 13 Y ?_;refine sn U (λao L' V' M'=>L'=[(14,sI (ae.2))]/\M'=[.ext (FN (λ(y:Int)=>(vI y:Value)) b4 x3)]/\ao=some r) Y ?_ λao U=>?_
    ·rintro L' _ M' ⟨rfl,rfl,U⟩;exact rt
    ·refine lq (λaC L' V' M'=>∃(Z:Int),L'=[(13,sI (ae.1)),(14,sI (ae.2)),(89,sL a7 H k7),(90,sN H),(91,sI Z)]/\M'=[.ext (FN (λ(y:Int)=>(vI y:Value)) b4 x3),.Bp (AHD N a2 k2) 265,.row (vL a7 H k7) aa 3 1]/\AF (CD .i64) V' H aa/\AK Br V' a2 k2 N.Aw/\NX H ae ao aC Z=some r) Y tu ?_;rintro aC L' _ M' ⟨Z,rfl,rfl,aM,_,U⟩;refine B4 U Y (λhb U=>?_) λ_ U=>r1;have⟨aD,U⟩:=AL U;refine xr Y (CX 2 Y (λba aE bb=>?_));obtain⟨_,rfl,aF⟩:=AF.get aM aD;have ak:0<=Z/\Z<(H.length:Int):=aD;have al:=aE ox;refine AD.ia Aa Y Y ⟨ak.1,ak.2,al⟩ ?_;refine xr Y (KM Aa 2 (x:=vI (AN H Z)) Y Y Y ⟨aF,al⟩ Y Y ?_);exact B4 U Y (λ_ U=>rt) λ_ U=>rd
  ·refine lq (λaG L' V' M'=>∃(O:List Int),∃aq ar W,∃(ad:Int),L'=[(1,.v (.map (some b4))),(2,.ptr 1 0),(8,sL aq O ar),(39,sL a2 N.Aw k2),(40,sN N.Aw),(41,sI ad)]/\M'=[.ext (FN (λ(y:Int)=>(vI y:Value)) b4 x3),.Bp (AHD N a2 k2) 265,.row (vL aq O ar) W 3 1]/\AF (CD .i64) V' O W/\AK Br V' a2 k2 N.Aw/\NW N z x3 J9 aG O ad=some r) Y ⟨_,_,_,_,_,Y,Y,h6,h2,U⟩ ?_;rintro aG L' _ M' ⟨O,aq,ar,W,ad,rfl,rfl,aN,aO,U⟩;refine i4 U λhb U=>?_;have⟨au,U⟩:=AL U;have⟨_,aH,an⟩:=AK.get aO au;obtain⟨aP,aQ,rfl,aR⟩:=(DS.1 aH);refine Yr.ia Y ⟨au.1,au.2,an.some⟩ (Yr.ld (x:=vA (Ws (AN N.Aw ad) aP aQ)) Y an Y ?_);have⟨av,aI,U⟩:=AO U;refine Yr.HT [0] Y (K (AN N.Aw ad) x3 aR aI) ?_;rintro aJ _ aK rfl;have aS:=AF.mono aK aN;refine⟨_,Y,?_⟩;refine i1 U λ_ U=>?_;refine Yr.RV Y ?_;have⟨aT,U⟩:=AL U;refine Yr.app (nm:=(O++[av.1]).length) 2 4 Y zp (λ_ _=>Y) aT (λbd bf=>?_);have bg:AF (CD .i64) aJ (O++[av.1]) (W++[vI (av.1)]):=AF.app aS ⟨_,_,Y,Y,Y⟩;exact SO 3 Y
def K6:Nat->Ak->(List (A9×Int))->AA (Int×Int)
 |0,_,_=>none|n+1,y,z=>Wo (K6 n) y z
theorem AGB:∀n:Nat,RA (K6 n):=by
 intro n
 induction n with
 |zero=>unfold RA;intros;rename_i h;simp[K6]at h|succ n y=>exact AGC y
theorem ABa:RA (K6 n):=AGB n
def TV(y:Ak)(H:Int):AA Int:=
 (Az (Rm y.Op) λz=>cond (((decide (z<0))||((y.Op !=1)&&(y.N !=0)))||(((y.Op !=2)&&(y.Op !=3))&&(y.S !=([]:A9)))) (some 1) (Az (CG ((y.Op==3)==true) (I0 y.S)) λK=>cond ((y.Op==3)&&(!K)) (some 7) (Az (CG (((y.Op==2)==true)&&(((y.Op==1)&&(decide (y.N<0)))==false)) (Pn y.S)) λO=>cond ((((y.Op==1)&&(decide (y.N<0)))||((y.Op==2)&&(!O)))||((y.Aw.length:Int) !=z)) (some 1) (cond (decide (12<H)) (some 2) (some 0)))))
theorem AHd(z:Ak)(H:Int){a2:AA Addr}(h2:AK Br V a2 y z.Aw){r:Int}(U:TV z H=some r):Sp 280 [vA (Ws z a2 y),vI H] V (λ_ v=>v=vI r):=by
 refine se Tryz.func280 ?_;refine Yr.cb U Y (AGA z.Op) λN U=>?_;refine i1 U λK U=>?_;refine Gj U Y (OP z.S) λO U=>?_;refine i1 U λK U=>?_;refine Gj U Y (AF6 z.S) λW U=>?_;refine i1 U λK U=>?_;exact i3 U
def KL(y:Int)(z:Int):AA Int:=
 (Az (Lz y) λK=>Az (Lz z) λH=>cond K (cond H (some 0) (some (-1:Int))) (cond H (some 1) (cond (decide (y<z)) (some (-1:Int)) (cond (decide (z<y)) (some 1) (some 0)))))
theorem VY(y:Int)(z:Int){r:Int}(U:KL y z=some r):Sp 287 [vI y,vI z] V (λ_ v=>v=vI r):=by
 refine se Tryz.func287 ?_;refine Yr.cb U Y (Re y) λK U=>?_;refine Yr.cb U Y (Re z) λN U=>?_;refine B4 U Y (λH U=>?_) λH U=>?_
 ·exact i3 U
 ·refine i1 U λH U=>?_;refine i1 U λH U=>?_;exact i3 U
def GS(z:AI)(X:AA Bool):Nat->Int->AA Bool
 |0,_=>none|Z+1,y=>cond (decide (y<(z.AG.length:Int))) (Ba (0<=y/\y<(z.AG.length:Int)) (Az (CG ((decide (0<y))==true) (Gt ((AN z.AG y).BU))) λO=>Ba ((((!O)==false)&&((decide (0<y))==true))=true->0<=(AB (y-1))/\(AB (y-1))<(z.AG.length:Int)) (cond ((decide (0<y))&&((!O)||(!Dy (cond (((!O)==false)&&((decide (0<y))==true)) (AN z.AG (AB (y-1))) default).BU (AN z.AG y).BU))) (some false) (Az (Iy ((AN z.AG y).Id)) λH=>Az (CG ((!H)==false) (Ip ((AN z.AG y).Ab))) λK=>Az (CG (((!H)||(!K))==false) (HM z.AG y)) λN=>Ba (((((!H)||(!K))||(!N))==false)=true->0<=(0:Int)/\0<=y/\y<=(z.AG.length:Int)) (Az (CG ((((!H)||(!K))||(!N))==false) (Ex (cond ((((!H)||(!K))||(!N))==false) ((z.AG.take y.toNat).drop (0:Int).toNat) ([]:List Bc)) ((AN z.AG y).Id))) λW=>cond ((((!H)||(!K))||(!N))||(decide (0<=W))) (some false) (GS z X Z (AB (y+1)))))))) X
def Ct(y:AI):AA Bool:=
 (Ba ((((((decide (y.Ax<0))||(decide (1099511627776<y.Ax)))||(decide ((y.AG.length:Int)<(1:Int))))||(decide (16<(y.AG.length:Int))))==false)=true->0<=(0:Int)/\0<(y.AG.length:Int)) (cond (((((decide (y.Ax<0))||(decide (1099511627776<y.Ax)))||(decide ((y.AG.length:Int)<(1:Int))))||(decide (16<(y.AG.length:Int))))||((cond (((((decide (y.Ax<0))||(decide (1099511627776<y.Ax)))||(decide ((y.AG.length:Int)<(1:Int))))||(decide (16<(y.AG.length:Int))))==false) (AN y.AG 0) default).BU !=([]:A9))) (some false) (jn (some true) (λz=>GS y z ((y.AG.length:Int).toNat+1) 0))))
theorem Dm(H:AI){a2:AA Addr}(h2:AK BS V a2 y H.AG)(U:Ct H=some r):Sp 4 [vA (S2 H a2 y)] V (λ_ v=>v=vB r):=by
 refine se Tryz.func4 ?_;have⟨q3,U⟩:=AL U;obtain⟨_,rfl,ab⟩:=AK.OG (((((decide (H.Ax<0))||(decide (1099511627776<H.Ax)))||(decide ((H.AG.length:Int)<(1:Int))))||(decide (16<(H.AG.length:Int))))==false) h2 q3;refine Yr.ia Y (λz=>⟨(q3 (Bv z)).1,(q3 (Bv z)).2,(ab (Bv z)).some⟩) (Yr.ld (x:=vS (cond (((((decide (H.Ax<0))||(decide (1099511627776<H.Ax)))||(decide ((H.AG.length:Int)<(1:Int))))||(decide (16<(H.AG.length:Int))))==false) (AN H.AG 0) default).BU) Y (λz=>(Bi.part (ab (Bv z)) 1 1 Y)) Y (i1 U λhb U=>?_));refine sj 9 U Y λJ5 U=>?_;refine lq (λn8 L' V' M'=>∃(K:Int),L'=[(1,.ptr 0 0),(34,sL a2 H.AG y),(35,sN H.AG),(36,sI K)]/\M'=[.Bp (Vk H a2 y) 25]/\AK BS V' a2 y H.AG/\GS H J5 n8 K=some r) Y tu ?_;rintro n8 L' _ M' ⟨K,rfl,rfl,O,U⟩;refine i6 U λhb U=>?_;have⟨Z,U⟩:=AL U;obtain⟨_,rfl,W⟩:=AK.get O Z;refine Yr.ia Y ⟨Z.1,Z.2,W.some⟩ (Yr.ld (x:=vA (gv7 (AN H.AG K))) Y W Y (Yr.DU (pm 20 0 3871) Y (Gj U Y (ON ((AN H.AG K).BU)) λad U=>?_)));have⟨aa,U⟩:=AL U;obtain⟨_,rfl,X⟩:=AK.OG (((!ad)==false)&&((decide (0<K))==true)) O aa;refine Yr.ia Y (λz N=>⟨(aa (Dr z N)).1,(aa (Dr z N)).2,(X (Dr z N)).some⟩) (Yr.ld (x:=vS (cond (((!ad)==false)&&((decide (0<K))==true)) (AN H.AG (AB (K-1))) default).BU) Y (λz N=>(Bi.part (X (Dr z N)) 1 1 Y)) Y (i1 U λhb U=>?_));refine Yr.DU (pm 27 0 3938307) Y (Yr.cb U Y (Qu ((AN H.AG K).Id)) λae U=>?_);refine Gj U Y (PF ((AN H.AG K).Ab)) λaf U=>?_;refine Gj U Y (Tr H.AG K O) λag U=>?_;have⟨ah,U⟩:=AL U;refine xr Y (AKC Aa (c:=BS) (g:=((((!ae)||(!af))||(!ag))==false)) Y Y Y (lo:=0) (hi:=K) Y Y O zp Y (λz=>Bv z) ah (λaj k20 ai=>?_));refine Gj U Y (KU (cond ((((!ae)||(!af))||(!ag))==false) ((H.AG.take K.toNat).drop (0:Int).toNat) ([]:List Bc)) ((AN H.AG K).Id) ai) λak U=>?_;exact B4 U Y (λ_ U=>rt) λ_ U=>r1
def FM(z:List Bb)(H:List Bb)(N:AA Bool):Nat->Int->AA Bool
 |0,_=>none|O+1,y=>cond (decide (y<(z.length:Int))) (Ba (0<=y/\y<(z.length:Int)) (Ba (0<=y/\y<(H.length:Int)) (Az (JF (AN z y) (AN H y)) λK=>cond (!K) (some false) (FM z H N O (AB (y+1)))))) N
def Jp(y:List Bb)(z:List Bb):AA Bool:=
 (cond ((y.length:Int) !=(z.length:Int)) (some false) (jn (some true) (λH=>FM y z H ((y.length:Int).toNat+1) 0)))
theorem Up(H:List Bb)(K:List Bb){a2:AA Addr}{a4:AA Addr}(h2:AK Eo V a2 y H)(h4:AK Eo V a4 z K)(U:Jp H K=some r):Sp 13 [vL a2 H y,vL a4 K z] V (λ_ v=>v=vB r):=by
 refine se Tryz.func13 ?_;refine i1 U λhb U=>?_;refine sj 6 U Y λJ5 U=>?_;refine lq (λn8 L' V' M'=>∃(W:Int),L'=[(0,sL a2 H y),(1,sL a4 K z),(5,sI W)]/\M'=[]/\AK Eo V' a2 y H/\AK Eo V' a4 z K/\FM H K J5 n8 W=some r) Y tu ?_;rintro n8 L' _ M' ⟨W,rfl,rfl,ad,ae,U⟩;refine i4 U λhb U=>?_;refine Yr.DU (pm 10 0 255) Y ?_;have⟨X,U⟩:=AL U;have⟨_,aa,N⟩:=AK.get ad X;obtain⟨af,LI,ag,T3,ah,O6,ai,UP,rfl,aj,ak,al,an⟩:=aa;refine Yr.Qp Y ⟨X.1,X.2,N.some⟩ (Yr.P8 (x:=vA (Zw (AN H W) af LI ag T3 ah O6 ai UP)) Y N ?_);have⟨Z,U⟩:=AL U;have⟨_,ab,O⟩:=AK.get ae Z;obtain⟨ao,k20,aq,ZX,ar,k22,au,k23,rfl,av,aw,ax,ay⟩:=ab;refine Yr.Qp Y ⟨Z.1,Z.2,O.some⟩ (Yr.P8 (x:=vA (Zw (AN K W) ao k20 aq ZX ar k22 au k23)) Y O (Yr.cb U Y (Tz (AN H W) (AN K W) aj ak al an av aw ax ay) λaz U=>?_));exact B4 U Y (λ_ U=>rt) λ_ U=>rd
def Df(z:List AR)(K:AA Bool):Nat->Int->AA Bool
 |0,_=>none|N+1,y=>cond (decide (y<(z.length:Int))) (Ba (0<=y/\y<(z.length:Int)) (Az (IS ((AN z y).JK)) λH=>cond (!H) (some false) (Df z K N (AB (y+1))))) K
def Ep(y:List AR):AA Bool:=
 (jn (Az (FZ y) λz=>some z) (λH=>Df y H ((y.length:Int).toNat+1) 0))
theorem P0(z:List AR){a2:AA Addr}(h2:AK Au V a2 y z)(U:Ep z=some r):Sp 20 [vL a2 z y] V (λ_ v=>v=vB r):=by
 unfold Ep at U;refine se Tryz.func20 ?_;refine AD.run Aa 9 Y ?_;refine sn U (λO L' V' M'=>L'=[(0,sL a2 z y)]/\M'=[]/\AK Au V' a2 y z/\O=some r) Y ?_ λO U=>?_
 ·rintro L' _ M' ⟨rfl,rfl,Z,U⟩;refine Yr.cb U Y (Qz z Z) λx6 U=>?_;exact rt
 ·refine lq (λX L' V' M'=>∃(N:Int),L'=[(0,sL a2 z y),(3,sI N)]/\M'=[]/\AK Au V' a2 y z/\Df z O X N=some r) Y tu ?_;rintro X L' _ M' ⟨N,rfl,rfl,W,U⟩;refine i4 U λhb U=>?_;have⟨K,U⟩:=AL U;obtain⟨_,rfl,H⟩:=AK.get W K;refine Yr.ia Y ⟨K.1,K.2,H.some⟩ (Yr.ld (x:=vA (Te (AN z N).JK)) Y (Bi.part H 1 3 Y) Y (Yr.cb U Y (TJ ((AN z N).JK)) λaa U=>?_));exact B4 U Y (λ_ U=>rt) λ_ U=>rd
def GU(H:AI)(O:(List Int)->AA (List Int)):Nat->(List Int)->Int->AA (List Int)
 |0,_,_=>none|W+1,z,y=>cond (decide (y<(H.AG.length:Int))) (Ba (0<=y/\y<(H.AG.length:Int)) (Ba ((z++[(AN H.AG y).Ab]).length*8<=140737488355328) (jn (λ(N:List Int)=>GU H O W N (AB (y+1))) (λK=>cond ((AN H.AG y).C0 !=0) (Ba (((z++[(AN H.AG y).Ab])++[(AN H.AG y).C0]).length*8<=140737488355328) (K ((z++[(AN H.AG y).Ab])++[(AN H.AG y).C0]))) (K (z++[(AN H.AG y).Ab])))))) (O z)
def FD(y:AI):AA (List Int):=
 (Az (Ct y) λH=>cond (!H) (some ([]:List Int)) (jn (λ(z:List Int)=>Ba (z.length<4611686018427387904) (some (EN (Fx z)))) (λK=>GU y K ((y.AG.length:Int).toNat+1) ([]:List Int) 0)))
theorem Ja(H:AI){a2:AA Addr}(h2:AK BS V a2 y H.AG){r:List Int}(U:FD H=some r):Sp 23 [vA (S2 H a2 y)] V (λV' v=>∃ag ah,v=vL ag r ah/\AK (CD .i64) V' ag ah r):=by
 refine se Tryz.func23 ?_;refine Yr.cb U Y (Dm H h2) λx3 U=>?_;refine i1 U λhb U=>?_;refine AD.run Aa 13 Y (AD.Eh 3 1 Y ?_);have h4:AF (CD .i64) V ([]:List Int) []:=AF.nil;refine sn U (λJ7 L' V' M'=>∃(Z:List Int),∃a5 k5 ab,L'=[(3,sL a5 Z k5)]/\M'=[.Bp (Vk H a2 y) 25,.row (vL a5 Z k5) ab 3 1]/\AF (CD .i64) V' Z ab/\AK BS V' a2 y H.AG/\J7 Z=some r) Y ?_ λJ7 U=>?_
 ·rintro L' V8 M' ⟨Z,a5,k5,ab,rfl,rfl,h5,_,U⟩;have⟨aq,U⟩:=AL U;refine xr Y (Ef 1 Y Y Y Y (YG h5 (λcs e=>by subst e;exact(T9 ⟨_,Y,by kernel_rfl,by kernel_rfl⟩ Tryz.slices_Sort_int Tryz.slices_Sort_int_none aq))) ?_);rintro _ _ _ _ ⟨rfl,O,rfl⟩;have O:=O.symm;subst O;refine⟨_,Y,?_⟩;have ar:AF (CD .i64) V8 (Fx Z) ((Fx Z).map (Value.int .i64)):=CH _;refine xr Y (Ef 1 Y Y Y Y (S8 ar (λcs e=>by subst e;exact(Qs ⟨_,Y,by kernel_rfl,by kernel_rfl⟩ Tryz.slices_Compact_int Tryz.slices_Compact_int_empty))) ?_);rintro _ _ _ _ ⟨rfl,O,rfl⟩;have O:=O.symm;subst O;refine⟨_,Y,?_⟩;have au:AF (CD .i64) V8 (EN (Fx Z)) ((EN (Fx Z)).map (Value.int .i64)):=CH _;refine Yr.QY 1 Y (λa6 ai aj ak=>?_);have a1:=BV au ai aj ak;exact ry
 ·refine lq (λal L' V' M'=>∃(K:List Int),∃ad T3 N,∃(z:Int),L'=[(3,sL ad K T3),(10,sL a2 H.AG y),(11,sN H.AG),(12,sI z)]/\M'=[.Bp (Vk H a2 y) 25,.row (vL ad K T3) N 3 1]/\AF (CD .i64) V' K N/\AK BS V' a2 y H.AG/\GU H J7 al K z=some r) Y ⟨_,_,_,_,_,Y,Y,h4,h2,U⟩ ?_;rintro al L' an M' ⟨K,ad,T3,N,z,rfl,rfl,av,aw,U⟩;refine i4 U λhb U=>?_;have⟨ae,U⟩:=AL U;obtain⟨_,rfl,aa⟩:=AK.get aw ae;refine Yr.ia Y ⟨ae.1,ae.2,aa.some⟩ (Yr.ld (x:=vA (gv7 (AN H.AG z))) Y aa Y (Yr.RV Y ?_));have⟨ax,U⟩:=AL U;refine Yr.app (nm:=(K++[(AN H.AG z).Ab]).length) 1 3 Y zp (λ_ _=>Y) ax (λa7 k23=>?_);have ay:AF (CD .i64) an (K++[(AN H.AG z).Ab]) (N++[vI ((AN H.AG z).Ab)]):=AF.app av ⟨_,_,Y,Y,Y⟩;refine sm U (λao L' V' M'=>∃(W:List Int),∃af WT X,L'=[(3,sL af W WT),(10,sL a2 H.AG y),(11,sN H.AG),(12,sI z)]/\M'=[.Bp (Vk H a2 y) 25,.row (vL af W WT) X 3 1]/\AF (CD .i64) V' W X/\AK BS V' a2 y H.AG/\ao W=some r) Y ?_ λao U=>?_
  ·rintro L' _ M' ⟨W,af,WT,X,rfl,rfl,_,_,U⟩;exact rd
  ·refine B4 U Y (λ_ U=>?_) λ_ U=>r2;refine Yr.RV Y ?_;have⟨az,U⟩:=AL U;refine Yr.app (nm:=((K++[(AN H.AG z).Ab])++[(AN H.AG z).C0]).length) 1 4 Y zp (λ_ _=>Y) az (λa8 k30=>?_);have aA:AF (CD .i64) an ((K++[(AN H.AG z).Ab])++[(AN H.AG z).C0]) ((N++[vI ((AN H.AG z).Ab)])++[vI ((AN H.AG z).C0)]):=AF.app ay ⟨_,_,Y,Y,Y⟩;exact r2
def Hr(z:List AR)(O:AA Bool):Nat->Int->AA Bool
 |0,_=>none|W+1,y=>cond (decide (y<(z.length:Int))) (Ba (0<=y/\y<(z.length:Int)) (Az (IN ((AN z y).Key)) λH=>Az (CG ((!H)==false) (PW (⟨(AN z y).JK.BD,(AN z y).JK.N,(AN z y).JK.S⟩:Ah))) λK=>Ba ((((decide (0<y))==true)&&(((!H)||(!K))==false))=true->0<=(AB (y-1))/\(AB (y-1))<(z.length:Int)) (cond (((!H)||(!K))||((decide (0<y))&&(!Dy (cond (((decide (0<y))==true)&&(((!H)||(!K))==false)) (AN z (AB (y-1))) default).Key (AN z y).Key))) (some false) (Hr z O W (AB (y+1)))))) O
def Ke(y:List AR):AA Bool:=
 (jn (some true) (λz=>Hr y z ((y.length:Int).toNat+1) 0))
theorem Uh(z:List AR){a2:AA Addr}(h2:AK Au V a2 y z)(U:Ke z=some r):Sp 42 [vL a2 z y] V (λ_ v=>v=vB r):=by
 unfold Ke at U;refine se Tryz.func42 ?_;refine sj 11 U Y λJ3 U=>?_;refine lq (λn6 L' V' M'=>∃(H:Int),L'=[(0,sL a2 z y),(5,sL a2 z y),(6,sN z),(7,sI H)]/\M'=[]/\AK Au V' a2 y z/\Hr z J3 n6 H=some r) Y tu ?_;rintro n6 L' _ M' ⟨H,rfl,rfl,h8,U⟩;refine i4 U λhb U=>?_;have⟨q9,U⟩:=AL U;obtain⟨_,rfl,W⟩:=AK.get h8 q9;refine Yr.ia Y ⟨q9.1,q9.2,W.some⟩ (Yr.ld (x:=vA (Zv (AN z H))) Y W Y (Yr.DU (pm 25 0 1032195) Y (Yr.cb U Y (Mh ((AN z H).Key)) λaa U=>?_)));refine Gj U Y (ACQ (⟨(AN z H).JK.BD,(AN z H).JK.N,(AN z H).JK.S⟩:Ah)) λab U=>?_;have⟨Z,U⟩:=AL U;obtain⟨_,rfl,X⟩:=AK.OG (((decide (0<H))==true)&&(((!aa)||(!ab))==false)) h8 Z;exact Yr.Qp Y (λK O=>⟨(Z (Dr K O)).1,(Z (Dr K O)).2,(X (Dr K O)).some⟩) (Yr.P8 (x:=vS (cond (((decide (0<H))==true)&&(((!aa)||(!ab))==false)) (AN z (AB (H-1))) default).Key) Y (λK O=>(Bi.part (X (Dr K O)) 0 1 Y)) (B4 U Y (λ_ U=>rt) λ_ U=>r0))
def Jh(y:AI)(X:Int)(H:A9)(N:Int):AA (AI×Int):=
 (Az (Ct y) λZ=>cond (!Z) (some ((⟨0,([]:List Bc)⟩:AI),1)) (Az (Ex y.AG X) λz=>cond (decide (z<0)) (some ((⟨0,([]:List Bc)⟩:AI),9)) (Ba (0<=z/\z<(y.AG.length:Int)) (Ba (((((AB (z+1))==(y.AG.length:Int))==false)&&((Dy (AN y.AG z).BU H)==true))=true->0<=(AB (z+1))/\(AB (z+1))<(y.AG.length:Int)) (cond ((AN y.AG z).C0 !=0) (some ((⟨0,([]:List Bc)⟩:AI),19)) (Az (Gt H) λK=>Az (CG (((!K)||(!((Dy (AN y.AG z).BU H)&&(((AB (z+1))==(y.AG.length:Int))||(Dy H (cond ((((AB (z+1))==(y.AG.length:Int))==false)&&((Dy (AN y.AG z).BU H)==true)) (AN y.AG (AB (z+1))) default).BU)))))==false) (Iy N)) λO=>cond (((!K)||(!((Dy (AN y.AG z).BU H)&&(((AB (z+1))==(y.AG.length:Int))||(Dy H (cond ((((AB (z+1))==(y.AG.length:Int))==false)&&((Dy (AN y.AG z).BU H)==true)) (AN y.AG (AB (z+1))) default).BU)))))||(!O)) (some ((⟨0,([]:List Bc)⟩:AI),1)) (Az (Ex y.AG N) λW=>cond (decide (0<=W)) (some ((⟨0,([]:List Bc)⟩:AI),8)) (cond (((y.AG.length:Int)==16)||(y.Ax==1099511627776)) (some ((⟨0,([]:List Bc)⟩:AI),2)) (Ba (y.AG.length*56<=140737488355328) (Ba (0<=(AB (z+1))/\(AB (z+1))<=(y.AG.length:Int)) (Ba ((y.AG.length+1)*56<=140737488355328) (some ((⟨(AB (y.Ax+1)),(y.AG.take (AB (z+1)).toNat++[(⟨N,H,(AN y.AG z).Ab,0,[]⟩:Bc)]++y.AG.drop (AB (z+1)).toNat)⟩:AI),0)))))))))))))
theorem Xo(z:AI)(x3:Int)(W:A9)(X:Int){a2:AA Addr}(h2:AK BS V a2 y z.AG){r:AI×Int}(U:Jh z x3 W X=some r):Sp 49 [vA (S2 z a2 y),vI x3,vS W,vI X] V (λV' v=>∃ad ae,v=.tuple ⟨[vA (S2 r.1 ad ae),vI (r.2)]⟩/\AK BS V' ad ae r.1.AG):=by
 refine se Tryz.func49 ?_;refine Yr.cb U Y (Dm z h2) λx6 U=>?_;refine i1 U λhb U=>?_;refine Yr.cb U Y (KU z.AG x3 h2) λH U=>?_;refine i1 U λhb U=>?_;have⟨q8,U⟩:=AL U;obtain⟨_,rfl,af⟩:=AK.get h2 q8;refine Yr.ia Y ⟨q8.1,q8.2,af.some⟩ (Yr.ld (x:=vA (gv7 (AN z.AG H))) Y af Y ?_);have⟨aa,U⟩:=AL U;obtain⟨_,rfl,Z⟩:=AK.OG ((((AB (H+1))==(z.AG.length:Int))==false)&&((Dy (AN z.AG H).BU W)==true)) h2 aa;refine Yr.ia Y (λK N=>⟨(aa (Dr K N)).1,(aa (Dr K N)).2,(Z (Dr K N)).some⟩) (Yr.ld (x:=vS (cond ((((AB (H+1))==(z.AG.length:Int))==false)&&((Dy (AN z.AG H).BU W)==true)) (AN z.AG (AB (H+1))) default).BU) Y (λK N=>(Bi.part (Z (Dr K N)) 1 1 Y)) Y (i1 U λhb U=>?_));refine Yr.cb U Y (ON W) λax U=>?_;refine Gj U Y (Qu X) λay U=>?_;refine i1 U λhb U=>?_;refine Yr.cb U Y (KU z.AG X h2) λaz U=>?_;refine i1 U λhb U=>?_;refine i1 U λ_ U=>?_;refine Yr.DU [(0,true),(1,true),(3,true),(4,true),(5,true),(6,true),(7,true),(8,true),(9,true)] Y ?_;have⟨ag,U⟩:=AL U;refine xr Y (Nd 2 10 [(10,false)] [(2,false)] [(11,false),(12,false)] (λlr' L' V' M'=>∃ab O6 O,lr'=[]/\L'=[(4,.ptr 0 0),(8,.ptr 1 0),(92,sL ab z.AG O6),(94,sI (AB (H+1))),(100,.TY 4 0 1 1)]/\M'=[.Bp (Vk z a2 y) 25,.Bp [sI 0,.v (.slice none 0 0)] 25,.Bp (AQA (AN z.AG H)) 54,.row (vL ab z.AG O6) O 54 5,.Bp [sI X,sS W,sI ((AN z.AG H).Ab),sI 0,sS []] 54]/\AK BS V' a2 y z.AG/\AF BS V' z.AG O) 2 [true,true,true,true,true,true,true,true,true,true,true,false,false] Y kz Y Y kz kz kz kz (λjoin=>?_) (λjoin=>?_) ?_)
 ·refine Yr.Eh 54 5 Y ?_;refine Ef 3 Y Y Y Y (Gq z.AG h2 ag) ?_;rintro _ _ _ _ ⟨an,Rt,_,rfl,rfl,_⟩;refine⟨_,Y,?_⟩;exact Yr.RV Y (xr Y (join [0,1,2,3,4] (lr':=[]) (L':=[(4,.ptr 0 0),(8,.ptr 1 0),(92,sL an z.AG Rt),(94,sI (AB (H+1))),(100,.TY 4 0 1 1)]) Y Y Y Y sb Yt tu))
 ·refine Yr.RV Y (Yr.Eh 54 5 Y ?_);refine Ef 4 Y Y Y Y (Gq z.AG h2 ag) ?_;rintro _ _ _ _ ⟨ao,k22,_,rfl,rfl,_⟩;refine⟨_,Y,?_⟩;exact xr Y (join [0,1,2,4,3] (lr':=[]) (L':=[(4,.ptr 0 0),(8,.ptr 1 0),(92,sL ao z.AG k22),(94,sI (AB (H+1))),(100,.TY 4 0 1 1)]) Y Y Y Y sb Yt tu)
 rintro lr' L' ah M' ⟨ab,O6,O,rfl,rfl,rfl,_,aq⟩;refine xr Y (Fh 4 (n:=1) (sz:=5) Y Y Y Y Y (λ_=>Y) (λ_=>Y) (λ_=>Y) (λa1=>?_));have⟨ar,U⟩:=AL U;have⟨au,U⟩:=AL U;have ai:AF BS ah [(⟨X,W,(AN z.AG H).Ab,0,[]⟩:Bc)] [vI X,vS W,vI ((AN z.AG H).Ab),vI 0,vS []]:=⟨_,_,Y,Y,Y⟩;refine Le [3,4] Y Y Y (by rfl) Y Y (N8 z.AG (⟨X,W,(AN z.AG H).Ab,0,[]⟩:Bc) aq ai ar au) ?_;rintro _ _ _ _ ⟨_,_,_,_,rfl,rfl,av⟩;refine⟨_,Y,?_⟩;refine Yr.QY 3 Y (λa6 aj ak al=>?_);have aw:=BV av aj ak al;exact ry
def Ji(y:AI)(H:Int):AA (AI×Int):=
 (Az (Ct y) λK=>cond (!K) (some ((⟨0,([]:List Bc)⟩:AI),1)) (Az (Ex y.AG H) λz=>cond ((decide (z<0))||((AB (z+1))==(y.AG.length:Int))) (some ((⟨0,([]:List Bc)⟩:AI),9)) (Ba (0<=z/\z<(y.AG.length:Int)) (Ba (0<=(AB (z+1))/\(AB (z+1))<(y.AG.length:Int)) (cond ((((AN y.AG z).C0 !=0)||((AN y.AG (AB (z+1))).C0 !=0))||((AN y.AG z).Ab !=(AN y.AG (AB (z+1))).Ab)) (some ((⟨0,([]:List Bc)⟩:AI),19)) (cond (y.Ax==1099511627776) (some ((⟨0,([]:List Bc)⟩:AI),2)) (Ba (y.AG.length*56<=140737488355328) (Ba (0<=(AB (z+1))/\(AB (z+1))<=(AB (z+2))/\(AB (z+2))<=(y.AG.length:Int)) (Ba (y.AG.length<9223372036854775808) (some ((⟨(AB (y.Ax+1)),(y.AG.take (AB (z+1)).toNat++y.AG.drop (AB (z+2)).toNat)⟩:AI),0)))))))))))
theorem Xq(z:AI)(x3:Int){a2:AA Addr}(h2:AK BS V a2 y z.AG){r:AI×Int}(U:Ji z x3=some r):Sp 50 [vA (S2 z a2 y),vI x3] V (λV' v=>∃K ZX,v=.tuple ⟨[vA (S2 r.1 K ZX),vI (r.2)]⟩/\AK BS V' K ZX r.1.AG):=by
 refine se Tryz.func50 ?_;refine Yr.cb U Y (Dm z h2) λx4 U=>?_;refine i1 U λhb U=>?_;refine Yr.cb U Y (KU z.AG x3 h2) λH U=>?_;refine i1 U λhb U=>?_;refine Yr.E2 [14] [] (pm 11 0 2047) Y ?_;have⟨q6,U⟩:=AL U;obtain⟨_,rfl,N⟩:=AK.get h2 q6;refine Yr.Qp Y ⟨q6.1,q6.2,N.some⟩ (Yr.P8 (x:=vA (gv7 (AN z.AG H))) Y N ?_);have⟨q8,U⟩:=AL U;obtain⟨_,rfl,O⟩:=AK.get h2 q8;refine Yr.Qp Y ⟨q8.1,q8.2,O.some⟩ (Yr.P8 (x:=vA (gv7 (AN z.AG (AB (H+1))))) Y O (xr Y (Nd 11 12 [(12,false)] [(11,false)] [(13,false),(14,false)] (λlr' L' V' M'=>lr'=[]/\L'=[(2,.ptr 0 0),(4,.ptr 1 0),(6,sI H),(7,.ptr 2 0),(8,.ptr 3 0),(32,.v (vA (gv7 (AN z.AG H)))),(38,.v (vA (gv7 (AN z.AG (AB (H+1))))))]/\M'=[.Bp (Vk z a2 y) 25,.Bp [sI 0,.v (.slice none 0 0)] 25,.Bp [sI 0,sS [],sI 0,sI 0,sS []] 54,.Bp [sI 0,sS [],sI 0,sI 0,sS []] 54]/\AK BS V' a2 y z.AG) 2 [true,true,true,true,true,true,true,true,true,true,true,true,true,false,false] Y kz Y Y kz kz kz kz (λjoin=>?_) (λjoin=>?_) ?_)))
 ·exact xr Y (join [0,1,2,3] (lr':=[]) (L':=[(2,.ptr 0 0),(4,.ptr 1 0),(6,sI H),(7,.ptr 2 0),(8,.ptr 3 0),(32,.v (vA (gv7 (AN z.AG H)))),(38,.v (vA (gv7 (AN z.AG (AB (H+1))))))]) Y Y Y Y sb Yt tu)
 ·exact xr Y (join [0,1,3,2] (lr':=[]) (L':=[(2,.ptr 0 0),(4,.ptr 1 0),(6,sI H),(7,.ptr 2 0),(8,.ptr 3 0),(32,.v (vA (gv7 (AN z.AG H)))),(38,.v (vA (gv7 (AN z.AG (AB (H+1))))))]) Y Y Y Y sb Yt tu)
 rintro lr' L' _ M' ⟨rfl,rfl,rfl,aa⟩;refine i1 U λhb U=>?_;refine i1 U λ_ U=>?_;refine Yr.DU [(0,true),(1,true),(2,true),(3,true),(4,true),(6,true),(7,true),(8,true),(9,true),(5,false),(10,false),(11,false),(12,false),(13,false)] Y ?_;have⟨ab,U⟩:=AL U;refine Yr.Eh 54 5 Y ?_;refine Ef 4 Y Y Y Y (Gq z.AG aa ab) ?_;rintro _ _ _ _ ⟨_,_,_,rfl,rfl,ad⟩;refine⟨_,Y,?_⟩;have⟨ae,U⟩:=AL U;have⟨af,U⟩:=AL U;refine xr Y (Ef 4 Y Y Y Y (N9 z.AG ad ae af) ?_);rintro _ _ _ _ ⟨_,rfl,rfl,ag⟩;refine⟨_,Y,?_⟩;refine Yr.QY 4 Y (λai W X Z=>?_);have ah:=BV ag W X Z;exact ry
def LS(y:AI)(K:Int)(H:Int):AA (AI×Int):=
 (Az (Ct y) λN=>cond (((!N)||(decide (H<1)))||(decide (16<H))) (some ((⟨0,([]:List Bc)⟩:AI),1)) (Az (MQ y K) λz=>cond (decide (z<0)) (some ((⟨0,([]:List Bc)⟩:AI),9)) (Ba (0<=z/\z<(y.AG.length:Int)) (cond (((AN y.AG z).C0 !=0)||((AN y.AG z).Ab==H)) (some ((⟨0,([]:List Bc)⟩:AI),19)) (cond (y.Ax==1099511627776) (some ((⟨0,([]:List Bc)⟩:AI),2)) (Az (Jj y z (⟨(AN y.AG z).Id,(AN y.AG z).BU,(AN y.AG z).Ab,H,(AN y.AG z).BU⟩:Bc)) λO=>some (O,0)))))))
theorem Z3(z:AI)(O:Int)(W:Int){a2:AA Addr}(h2:AK BS V a2 y z.AG){r:AI×Int}(U:LS z O W=some r):Sp 51 [vA (S2 z a2 y),vI O,vI W] V (λV' v=>∃K LI,v=.tuple ⟨[vA (S2 r.1 K LI),vI (r.2)]⟩/\AK BS V' K LI r.1.AG):=by
 refine se Tryz.func51 ?_;refine Yr.cb U Y (Dm z h2) λx5 U=>?_;refine i1 U λhb U=>?_;refine Yr.cb U Y (Uj z O h2) λH U=>?_;refine i1 U λhb U=>?_;have⟨X,U⟩:=AL U;obtain⟨_,rfl,N⟩:=AK.get h2 X;refine Yr.ia Y ⟨X.1,X.2,N.some⟩ (Yr.ld (x:=vA (gv7 (AN z.AG H))) Y N Y (i1 U λhb U=>?_));refine i1 U λ_ U=>?_;have⟨_,Z,U⟩:=AO U;refine Yr.call Y (Rb z H (⟨(AN z.AG H).Id,(AN z.AG H).BU,(AN z.AG H).Ab,W,(AN z.AG H).BU⟩:Bc) h2 Z) ?_;rintro _ _ _ ⟨_,_,rfl,_⟩;exact rt
def FF(y:AV):AA Bool:=
 (cond y.G7 (some (((y.Am.length:Int)==0)&&((y.AX.length:Int)==0))) (Az (FA y.Am) λz=>Az (CG ((z)==true) (FA y.AX)) λH=>some (z&&H)))
theorem Jc(H:AV){a2:AA Addr}{a3:AA Addr}(h2:AK Bf V a2 y H.Am)(h3:AK Bf V a3 z H.AX)(U:FF H=some r):Sp 53 [vA (gv8 H a2 y a3 z)] V (λ_ v=>v=vB r):=by
 refine se Tryz.func53 ?_;refine i1 U λ_ U=>?_;refine Yr.cb U Y (Ox H.Am h2) λK U=>?_;refine Gj U Y (Ox H.AX h3) λN U=>?_;exact rt
def GW(z:A9)(K:AI)(H:Int)(J6:Int->AA Int)(J14:Int->AA Int):Nat->Int->Int->AA Int
 |0,_,_=>none|O+1,N,y=>Ba ((((decide (y<(z.length:Int)))==true)&&((y==(((AN K.AG H).BU).length:Int))==false))=true->0<=y/\y<(((AN K.AG H).BU).length:Int)) (Ba ((((decide (y<(z.length:Int)))==true)&&((y==(((AN K.AG H).BU).length:Int))==false))=true->0<=y/\y<(z.length:Int)) (cond ((y==(((AN K.AG H).BU).length:Int))||((decide (y<(z.length:Int)))&&(decide ((B0 ((AN K.AG H).BU) y.toNat)<(B0 z y.toNat))))) (J6 H) (Ba (((y==(z.length:Int))==false)=true->0<=y/\y<(((AN K.AG H).BU).length:Int)) (Ba (((y==(z.length:Int))==false)=true->0<=y/\y<(z.length:Int)) (cond ((y==(z.length:Int))||(decide ((B0 z y.toNat)<(B0 ((AN K.AG H).BU) y.toNat)))) (J14 N) (GW z K H J6 J14 O N (AB (y+1))))))))
def GX(z:AI)(K:A9)(J6:Int->AA Int):Nat->Int->Int->AA Int
 |0,_,_=>none|O+1,N,y=>cond (decide (0<y)) (jn (λ(H:Int)=>GX z K J6 O H (AB (y-1))) (λJ14=>Ba (0<=y/\y<(z.AG.length:Int)) (GW K z y J6 J14 (1099511627776:Nat) N 0))) (J6 N)
def Lw(y:AI)(z:A9):AA Int:=
 (Az (Ct y) λH=>cond (!H) (some (-1:Int)) (jn (λ(K:Int)=>some K) (λJ6=>GX y z J6 ((AB ((y.AG.length:Int)-1)).toNat+1) 0 (AB ((y.AG.length:Int)-1)))))
theorem Xr(H:AI)(O:A9){a2:AA Addr}(h2:AK BS V a2 y H.AG){r:Int}(U:Lw H O=some r):Sp 79 [vA (S2 H a2 y),vS O] V (λ_ v=>v=vI r):=by
 refine se Tryz.func79 ?_;refine xr Y (AD.scope ?_);refine Yr.cb U Y (Dm H h2) λx4 U=>?_;refine i1 U λhb U=>?_;refine AD.run Aa 16 Y ?_;refine sn U (λJ6 L' V' M'=>∃(x5:Int),L'=[(5,sI x5)]/\M'=[]/\J6 x5=some r) Y ?_ λJ6 U=>?_
 ·rintro L' _ M' ⟨x5,rfl,rfl,U⟩;exact rt
 ·refine lq (λae L' V' M'=>∃(x8:Int)(K:Int),L'=[(1,sS O),(2,.ptr 0 0),(5,sI x8),(6,sI K)]/\M'=[.Bp (Vk H a2 y) 25]/\AK BS V' a2 y H.AG/\GX H O J6 ae x8 K=some r) Y tu ?_;rintro ae L' _ M' ⟨x8,K,rfl,rfl,af,U⟩;refine i6 U λhb U=>?_;refine AD.run Aa 2 Y ?_;refine sn U (λJ14 L' V' M'=>∃(W:Int),L'=[(1,sS O),(2,.ptr 0 0),(5,sI W),(6,sI K)]/\M'=[.Bp (Vk H a2 y) 25]/\AK BS V' a2 y H.AG/\J14 W=some r) Y ?_ λJ14 U=>?_
  ·rintro L' _ M' ⟨W,rfl,rfl,_,U⟩;exact rd
  ·have⟨X,U⟩:=AL U;obtain⟨_,rfl,N⟩:=AK.get af X;refine Yr.ia Y ⟨X.1,X.2,N.some⟩ (Yr.ld (x:=vS (AN H.AG K).BU) Y (Bi.part N 1 1 Y) Y (AOn (λZ L' V' M'=>∃(aa:Int)(ab:Int),L'=[(1,sS O),(2,.ptr 0 0),(5,sI aa),(6,sI K),(7,sS (AN H.AG K).BU),(8,sI ab)]/\M'=[.Bp (Vk H a2 y) 25]/\AK BS V' a2 y H.AG/\GW O H K J6 J14 Z aa ab=some r) Y tu ?_));rintro Z L' _ M' ⟨aa,ab,rfl,rfl,_,U⟩;rcases Z with _|Z
   ·exact absurd U (by simp[GW])
   refine Yr.DU (pm 20 0 1048575) Y ?_;have⟨ag,U⟩:=AL U;refine xr Y (X7 Aa Y Y Y (λz ad=>ag (Dr z ad)) ?_);have⟨ah,U⟩:=AL U;refine xr Y (X7 Aa Y Y Y (λz ad=>ah (Dr z ad)) ?_);refine i7 U λhb U=>?_;refine Yr.DU (pm 14 0 16383) Y ?_;have⟨ai,U⟩:=AL U;refine xr Y (X7 Aa Y Y Y (λz=>ai (Bv z)) ?_);have⟨aj,U⟩:=AL U;refine xr Y (X7 Aa Y Y Y (λz=>aj (Bv z)) ?_);exact B4 U Y (λ_ U=>rd) λ_ U=>rd
def Lv(z:AI)(K:Int):AA (D8×Int):=
 (Az (Ct z) λN=>cond (!N) (some ((⟨[],[]⟩:D8),1)) (Az (Ex z.AG K) λy=>cond (decide (y<0)) (some ((⟨[],[]⟩:D8),9)) (Ba (0<=y/\y<(z.AG.length:Int)) (jn (λ(O:D8)=>some (O,0)) (λH=>cond (decide ((AB (y+1))<(z.AG.length:Int))) (Ba (0<=(AB (y+1))/\(AB (y+1))<(z.AG.length:Int)) (H (⟨(AN z.AG y).BU,(AN z.AG (AB (y+1))).BU⟩:D8))) (H (⟨(AN z.AG y).BU,[]⟩:D8)))))))
theorem Xp(z:AI)(O:Int){a2:AA Addr}(h2:AK BS V a2 y z.AG){r:D8×Int}(U:Lv z O=some r):Sp 86 [vA (S2 z a2 y),vI O] V (λ_ v=>v=.tuple ⟨[vA (AMx r.1),vI (r.2)]⟩):=by
 refine se Tryz.func86 ?_;refine Yr.cb U Y (Dm z h2) λx4 U=>?_;refine i1 U λhb U=>?_;refine Yr.cb U Y (KU z.AG O h2) λZ U=>?_;refine i1 U λhb U=>?_;have⟨W,U⟩:=AL U;obtain⟨_,rfl,N⟩:=AK.get h2 W;refine Yr.ia Y ⟨W.1,W.2,N.some⟩ (Yr.ld (x:=vS (AN z.AG Z).BU) Y (Bi.part N 1 1 Y) Y ?_);refine sm U (λJ9 L' V' M'=>∃(X:D8),L'=[(4,.ptr 1 0),(7,.ptr 2 0)]/\M'=[.Bp (Vk z a2 y) 25,.Bp [sS [],sS []] 124,.Bp (AMz X) 124]/\AK BS V' a2 y z.AG/\J9 X=some r) Y ?_ λJ9 U=>?_
 ·rintro L' _ M' ⟨X,rfl,rfl,_,U⟩;exact rt
 ·refine B4 U Y (λ_ U=>?_) λ_ U=>?_
  ·have⟨K,U⟩:=AL U;obtain⟨_,rfl,H⟩:=AK.get h2 K;exact Yr.ia Y ⟨K.1,K.2,H.some⟩ (Yr.ld (x:=vS (AN z.AG (AB (Z+1))).BU) Y (Bi.part H 1 1 Y) Y (Yr.rd Y ⟨_,Y,Y,h2,U⟩))
  ·exact Yr.rd Y ⟨_,Y,Y,h2,U⟩
def KE(z:AI)(H:AV):AA Bool:=
 (Az (Ct z) λy=>Az (CG ((y)==true) (FF H)) λK=>some (y&&K))
theorem PT(K:AI)(H:AV){a2:AA Addr}{a4:AA Addr}{a5:AA Addr}(h2:AK BS V a2 y K.AG)(O:AK Bf V a4 z H.Am)(W:AK Bf V a5 N H.AX)(U:KE K H=some r):Sp 90 [vA (S2 K a2 y),vA (gv8 H a4 z a5 N)] V (λ_ v=>v=vB r):=by
 refine se Tryz.func90 ?_;refine Yr.cb U Y (Dm K h2) λX U=>?_;refine Gj U Y (Jc H O W) λZ U=>?_;exact rt
def Hi(H:BG)(N:Int)(K:AA Bool):Nat->Int->AA Bool
 |0,_=>none|O+1,z=>cond (decide (z<(((AN H.Af N).DR).length:Int))) (Ba (0<=z/\z<(((AN H.Af N).DR).length:Int)) (Az (FE H.BM ((AN ((AN H.Af N).DR) z).Is)) λy=>Ba (((decide (y<0))==false)=true->0<=y/\y<(H.BM.length:Int)) (cond ((decide (y<0))||(cond ((decide (y<0))==false) (AN H.BM y) default).Mv) (some false) (Hi H N K O (AB (z+1)))))) K
def FV(z:BG)(O:AA Bool):Nat->Int->AA Bool
 |0,_=>none|W+1,y=>cond (decide (y<(z.Af.length:Int))) (Ba (0<=y/\y<(z.Af.length:Int)) (Az (IN ((AN z.Af y).Key)) λH=>Ba ((((decide (0<y))==true)&&((!H)==false))=true->0<=(AB (y-1))/\(AB (y-1))<(z.Af.length:Int)) (Az (CG ((((!H)||((decide (0<y))&&(!Dy (cond (((decide (0<y))==true)&&((!H)==false)) (AN z.Af (AB (y-1))) default).Key (AN z.Af y).Key)))||((((AN z.Af y).DR).length:Int)==0))==false) (Ft ((AN z.Af y).DR))) λK=>cond ((((!H)||((decide (0<y))&&(!Dy (cond (((decide (0<y))==true)&&((!H)==false)) (AN z.Af (AB (y-1))) default).Key (AN z.Af y).Key)))||((((AN z.Af y).DR).length:Int)==0))||(!K)) (some false) (jn (FV z O W (AB (y+1))) (λN=>Hi z y N ((((AN z.Af y).DR).length:Int).toNat+1) 0))))) O
def Hw(y:BG):AA Bool:=
 (Az (Ft y.BM) λz=>cond (!z) (some false) (jn (some true) (λH=>FV y H ((y.Af.length:Int).toNat+1) 0)))
theorem OO(H:BG){a2:AA Addr}{a3:AA Addr}(h2:AK BX V a2 y H.BM)(h3:AK Cy V a3 z H.Af)(U:Hw H=some r):Sp 95 [vA (gv9 H a2 y a3 z)] V (λ_ v=>v=vB r):=by
 refine se Tryz.func95 ?_;refine Yr.cb U Y (Ov H.BM h2) λx4 U=>?_;refine i1 U λhb U=>?_;refine sj 9 U Y λJ5 U=>?_;refine lq (λn8 L' V' M'=>∃(N:Int),L'=[(1,.ptr 0 0),(13,sL a3 H.Af z),(14,sN H.Af),(15,sI N)]/\M'=[.Bp (ACE H a2 y a3 z) 93]/\AK Cy V' a3 z H.Af/\AK BX V' a2 y H.BM/\FV H J5 n8 N=some r) Y tu ?_;rintro n8 L' _ M' ⟨N,rfl,rfl,ak,_,U⟩;refine i6 U λhb U=>?_;have⟨ad,U⟩:=AL U;have⟨_,al,X⟩:=AK.get ak ad;obtain⟨ae,LI,rfl,au⟩:=al;refine Yr.ia Y ⟨ad.1,ad.2,X.some⟩ (Yr.ld (x:=vA (AMw (AN H.Af N) ae LI)) Y X Y (Yr.DU (pm 32 0 3843) Y (Yr.cb U Y (Mh ((AN H.Af N).Key)) λan U=>?_)));have⟨af,U⟩:=AL U;have⟨_,ao,Z⟩:=AK.OG (((decide (0<N))==true)&&((!an)==false)) ak af;obtain⟨_,_,rfl,_⟩:=ao;refine Yr.ia Y (λK O=>⟨(af (Dr K O)).1,(af (Dr K O)).2,(Z (Dr K O)).some⟩) (Yr.ld (x:=vS (cond (((decide (0<N))==true)&&((!an)==false)) (AN H.Af (AB (N-1))) default).Key) Y (λK O=>(Bi.part (Z (Dr K O)) 0 1 Y)) Y (Gj U Y (Ov ((AN H.Af N).DR) au) λaw U=>?_));refine i1 U λhb U=>?_;refine AD.run Aa 8 Y ?_;refine sn U (λag L' V' M'=>L'=[(1,.ptr 0 0),(13,sL a3 H.Af z),(14,sN H.Af),(15,sI N)]/\M'=[.Bp (ACE H a2 y a3 z) 93]/\AK Cy V' a3 z H.Af/\AK BX V' a2 y H.BM/\ag=some r) Y ?_ λag U=>?_
 ·rintro L' _ M' ⟨rfl,rfl,_,_,U⟩;exact rd
 ·refine Yr.cut 1 [1,13,14,15,53,54,55] Y ?_;refine lq (λaq L' V' M'=>∃(W:Int),L'=[(1,.ptr 0 0),(13,sL a3 H.Af z),(14,sN H.Af),(15,sI N),(53,sL ae (AN H.Af N).DR LI),(54,sI (((AN H.Af N).DR).length:Int)),(55,sI W)]/\M'=[.Bp (ACE H a2 y a3 z) 93]/\AK Cy V' a3 z H.Af/\AK BX V' ae LI ((AN H.Af N).DR)/\AK BX V' a2 y H.BM/\Hi H N ag aq W=some r) Y tu ?_;rintro aq L' _ M' ⟨W,rfl,rfl,_,av,ar,U⟩;refine i4 U λhb U=>?_;have⟨ah,U⟩:=AL U;obtain⟨_,rfl,aa⟩:=AK.get av ah;refine Yr.ia Y ⟨ah.1,ah.2,aa.some⟩ (Yr.ld (x:=vA (XU (AN ((AN H.Af N).DR) W))) Y aa Y (Yr.cb U Y (Jb H.BM ((AN ((AN H.Af N).DR) W).Is) ar) λai U=>?_));have⟨aj,U⟩:=AL U;obtain⟨_,rfl,ab⟩:=AK.OG ((decide (ai<0))==false) ar aj;exact Yr.ia Y (λK=>⟨(aj (Bv K)).1,(aj (Bv K)).2,(ab (Bv K)).some⟩) (Yr.ld (x:=vB (cond ((decide (ai<0))==false) (AN H.BM ai) default).Mv) Y (λK=>(Bi.part (ab (Bv K)) 1 1 Y)) Y (B4 U Y (λ_ U=>rt) λ_ U=>r1))
def Hh(K:BG)(O:Int)(z:(List Int)->AA (List Int)):Nat->(List Int)->Int->AA (List Int)
 |0,_,_=>none|W+1,H,y=>cond (decide (y<(K.Af.length:Int))) (Ba (0<=y/\y<(K.Af.length:Int)) (Az (Iz H ((AN K.Af y).DR) O) λN=>Hh K O z W N (AB (y+1)))) (z H)
def Lx(z:BG)(K:Int):AA (List Int):=
 (Az (Iz ([]:List Int) z.BM K) λN=>jn (λ(y:List Int)=>Ba (y.length<4611686018427387904) (some (EN (Fx y)))) (λH=>Hh z K H ((z.Af.length:Int).toNat+1) N 0))
theorem Xs(K:BG)(x4:Int){a2:AA Addr}{a3:AA Addr}(h2:AK BX V a2 y K.BM)(h3:AK Cy V a3 z K.Af){r:List Int}(U:Lx K x4=some r):Sp 101 [vA (gv9 K a2 y a3 z),vI x4] V (λV' v=>∃ag ah,v=vL ag r ah/\AK (CD .i64) V' ag ah r):=by
 refine se Tryz.func101 ?_;refine Yr.Eh 3 1 Y ?_;have h5:AF (CD .i64) V [] []:=AF.nil;have⟨_,ar,U⟩:=AO U;refine Mb 1 Y Y Y Y (Qv ([]:List Int) K.BM x4 h5 h2 ar) ?_;rintro _ _ _ _ _ _;refine⟨_,Y,?_⟩;refine AD.run Aa 10 Y ?_;refine sn U (λab L' V' M'=>∃(H:List Int),∃ad RF W,L'=[(5,sL ad H RF)]/\M'=[.Bp (ACE K a2 y a3 z) 93,.row (vL ad H RF) W 3 1]/\AF (CD .i64) V' H W/\AK BX V' a2 y K.BM/\AK Cy V' a3 z K.Af/\ab H=some r) Y ?_ λab U=>?_
 ·rintro L' ai M' ⟨H,ad,RF,W,rfl,rfl,au,_,_,U⟩;have⟨av,U⟩:=AL U;refine xr Y (Ef 1 Y Y Y Y (YG au (λcs e=>by subst e;exact(T9 ⟨_,Y,by kernel_rfl,by kernel_rfl⟩ Tryz.slices_Sort_int Tryz.slices_Sort_int_none av))) ?_);rintro _ _ _ _ ⟨rfl,N,rfl⟩;have N:=N.symm;subst N;refine⟨_,Y,?_⟩;have aw:AF (CD .i64) ai (Fx H) ((Fx H).map (Value.int .i64)):=CH _;refine xr Y (Ef 1 Y Y Y Y (S8 aw (λcs e=>by subst e;exact(Qs ⟨_,Y,by kernel_rfl,by kernel_rfl⟩ Tryz.slices_Compact_int Tryz.slices_Compact_int_empty))) ?_);rintro _ _ _ _ ⟨rfl,N,rfl⟩;have N:=N.symm;subst N;refine⟨_,Y,?_⟩;have ax:AF (CD .i64) ai (EN (Fx H)) ((EN (Fx H)).map (Value.int .i64)):=CH _;refine Yr.QY 1 Y (λa8 aj ak al=>?_);have a7:=BV ax aj ak al;exact ry
 ·refine lq (λan L' V' M'=>∃(O:List Int),∃ae k22 X,∃(Z:Int),L'=[(1,sI x4),(5,sL ae O k22),(13,sL a3 K.Af z),(14,sN K.Af),(15,sI Z)]/\M'=[.Bp (ACE K a2 y a3 z) 93,.row (vL ae O k22) X 3 1]/\AF (CD .i64) V' O X/\AK Cy V' a3 z K.Af/\AK BX V' a2 y K.BM/\Hh K x4 ab an O Z=some r) Y tu ?_;rintro an L' _ M' ⟨O,ae,k22,X,Z,rfl,rfl,ay,az,_,U⟩;refine i4 U λ_ U=>?_;have⟨af,U⟩:=AL U;have⟨_,ao,aa⟩:=AK.get az af;obtain⟨a1,k31,rfl,a6⟩:=ao;refine Yr.ia Y ⟨af.1,af.2,aa.some⟩ (Yr.ld (x:=vA (AMw (AN K.Af Z) a1 k31)) Y aa Y ?_);have⟨_,aq,U⟩:=AO U;refine xr Y (Mb 1 Y Y Y Y (Qv O ((AN K.Af Z).DR) x4 ay a6 aq) ?_);rintro _ _ _ _ _ _;refine⟨_,Y,?_⟩;exact r2
def Gu(K:BG)(X:Int)(N:(List Be)->AA (BG×Int)):Nat->(List Be)->Int->AA (BG×Int)
 |0,_,_=>none|Z+1,z,y=>cond (decide (y<(K.Af.length:Int))) (Ba (0<=y/\y<(K.Af.length:Int)) (Az (H9 ((AN K.Af y).DR) X) λH=>jn (λ(W:List Be)=>Gu K X N Z W (AB (y+1))) (λO=>cond (decide (0<(H.length:Int))) (Ba ((z++[(⟨(AN K.Af y).Key,H⟩:Be)]).length*40<=140737488355328) (O (z++[(⟨(AN K.Af y).Key,H⟩:Be)]))) (O z)))) (N z)
def G3(y:BG)(z:Int):AA (BG×Int):=
 (Az (Hw y) λN=>cond (!N) (some ((⟨([]:List A1),([]:List Be)⟩:BG),1)) (Az (FE y.BM z) λO=>cond (decide (O<0)) (some ((⟨([]:List A1),([]:List Be)⟩:BG),9)) (Az (H9 y.BM z) λW=>jn (λ(H:List Be)=>some ((⟨W,H⟩:BG),0)) (λK=>Gu y z K ((y.Af.length:Int).toNat+1) ([]:List Be) 0))))
theorem VP(H:BG)(x4:Int){a2:AA Addr}{a3:AA Addr}(h2:AK BX V a2 y H.BM)(h3:AK Cy V a3 z H.Af){r:BG×Int}(U:G3 H x4=some r):Sp 144 [vA (gv9 H a2 y a3 z),vI x4] V (λV' v=>∃ak al an ao,v=.tuple ⟨[vA (gv9 r.1 ak al an ao),vI (r.2)]⟩/\AK BX V' ak al r.1.BM/\AK Cy V' an ao r.1.Af):=by
 refine se Tryz.func144 ?_;refine Yr.cb U Y (OO H h2 h3) λx5 U=>?_;refine i1 U λhb U=>?_;refine Yr.cb U Y (Jb H.BM x4 h2) λx6 U=>?_;refine i1 U λhb U=>?_;have⟨x7,a1,U⟩:=AO U;refine Yr.call Y (P9 H.BM x4 h2 a1) ?_;rintro V9 _ _ ⟨a8,k8,rfl,h8⟩;refine AD.run Aa 12 Y (AD.Eh 218 2 Y ?_);have a6:AF Cy V9 ([]:List Be) []:=AF.nil;refine sn U (λad L' V' M'=>∃(W:List Be),∃ae Pt X,L'=[(4,.ptr 1 0),(6,.ptr 2 0)]/\M'=[.Bp (ACE H a2 y a3 z) 93,.Bp [.v (.slice none 0 0),.v (.slice none 0 0)] 93,.Bp [sL a8 x7 k8,sL ae W Pt] 93,.row (vL ae W Pt) X 218 2]/\AF Cy V' W X/\AK BX V' a2 y H.BM/\AK Cy V' a3 z H.Af/\AK BX V' a8 k8 x7/\ad W=some r) Y ?_ λad U=>?_
 ·rintro L' _ M' ⟨W,ae,Pt,X,rfl,rfl,a7,_,_,_,U⟩;refine Yr.QY 3 Y (λaL aq ar au=>?_);have aK:=BV a7 aq ar au;exact ry
 ·refine lq (λav L' V' M'=>∃(N:List Be),∃af k24 O,∃(K:Int),L'=[(1,sI x4),(4,.ptr 1 0),(6,.ptr 2 0),(28,sL a3 H.Af z),(29,sN H.Af),(30,sI K)]/\M'=[.Bp (ACE H a2 y a3 z) 93,.Bp [.v (.slice none 0 0),.v (.slice none 0 0)] 93,.Bp [sL a8 x7 k8,sL af N k24] 93,.row (vL af N k24) O 218 2]/\AF Cy V' N O/\AK Cy V' a3 z H.Af/\AK BX V' a2 y H.BM/\AK BX V' a8 k8 x7/\Gu H x4 ad av N K=some r) Y ⟨_,_,_,_,_,Y,Y,a6,tu,tu,h8,U⟩ ?_;rintro av L' _ M' ⟨N,af,k24,O,K,rfl,rfl,aA,aB,_,_,U⟩;refine i4 U λhb U=>?_;have⟨ag,U⟩:=AL U;have⟨_,aw,ab⟩:=AK.get aB ag;obtain⟨aC,aD,rfl,aE⟩:=aw;refine Yr.ia Y ⟨ag.1,ag.2,ab.some⟩ (Yr.ld (x:=vA (AMw (AN H.Af K) aC aD)) Y ab Y ?_);have⟨ah,ax,U⟩:=AO U;refine Yr.call Y (P9 ((AN H.Af K).DR) x4 aE ax) ?_;rintro aF _ ay ⟨aG,aH,rfl,_⟩;have aI:=AF.mono ay aA;refine sm U (λaz L' V' M'=>∃(Z:List Be),∃ai aj aa,L'=[(1,sI x4),(4,.ptr 1 0),(6,.ptr 2 0),(28,sL a3 H.Af z),(29,sN H.Af),(30,sI K)]/\M'=[.Bp (ACE H a2 y a3 z) 93,.Bp [.v (.slice none 0 0),.v (.slice none 0 0)] 93,.Bp [sL a8 x7 k8,sL ai Z aj] 93,.row (vL ai Z aj) aa 218 2]/\AF Cy V' Z aa/\AK Cy V' a3 z H.Af/\AK BX V' a2 y H.BM/\AK BX V' a8 k8 x7/\az Z=some r) Y ?_ λaz U=>?_
  ·rintro L' _ M' ⟨Z,ai,aj,aa,rfl,rfl,_,_,_,_,U⟩;exact rd
  ·refine B4 U Y (λ_ U=>?_) λ_ U=>r4;refine Yr.RV Y ?_;have⟨aJ,U⟩:=AL U;refine Yr.app (nm:=(N++[(⟨(AN H.Af K).Key,ah⟩:Be)]).length) 3 5 Y zp (λ_ _=>Y) aJ (λaM aN=>?_);have aO:AF Cy aF (N++[(⟨(AN H.Af K).Key,ah⟩:Be)]) (O++[vS (AN H.Af K).Key,vL aG ah aH]):=AF.app aI ⟨_,_,Y,tu,Y⟩;exact r4
def Nj(y:B3)(z:B3):AA Bool:=
 (Az (CG ((((y.Is==z.Is)&&(y.BU==z.BU))&&(y.To==z.To))==true) (Ri y.Keys z.Keys)) λH=>Az (CG (((((y.Is==z.Is)&&(y.BU==z.BU))&&(y.To==z.To))&&H)==true) (QP y.BF z.BF)) λK=>some (((((y.Is==z.Is)&&(y.BU==z.BU))&&(y.To==z.To))&&H)&&K))
theorem Z6(H:B3)(K:B3){a2:AA Addr}{a3:AA Addr}{a5:AA Addr}{a6:AA Addr}(h2:AK Bf V a2 y H.Keys)(h3:AK Au V a3 z H.BF)(O:AK Bf V a5 N K.Keys)(X:AK Au V a6 W K.BF)(U:Nj H K=some r):Sp 147 [vA (XW H a2 y a3 z),vA (XW K a5 N a6 W)] V (λ_ v=>v=vB r):=by
 refine se Tryz.func147 ?_;refine Gj U Y (AF4 H.Keys K.Keys h2 O) λZ U=>?_;refine Gj U Y (AEN H.BF K.BF h3 X) λx8 U=>?_;exact rt
end Go.Proofs.YthjnkknigpkldaaGreatDoor
