/-
  A part of the proof that the statement TopMigratesUptoCardSaid holds (Hh Hi).
  Conditions: none.
-/
import Derived.Test.YthjnkknigpkldaaGreatDoorPc
import Derived.Test.YthjnkknigpkldaaGreatDoorPd
set_option linter.all false
set_option maxRecDepth 100000
set_option maxHeartbeats 4000000
namespace Go.Proofs.YthjnkknigpkldaaGreatDoor
variable {V V':AM} {y z f1 f2 n N W ab ai aA aH nt j off i:Nat} {r:Bool} {ca1 ca2 cs ds:List Value} {X:List OB} {L:Fr} {xs:List Int} {ae ba:List HG} {ax:List Be} {bp:HG} {Z:Int} {an:Value} {tb:BG}
def Oe(y:AV):AA Bool:=
 (cond y.G7 (some (((y.Am.length:Int)==0)&&((y.AX.length:Int)==0))) (Az (I1 y.Am) λz=>Az (CG ((z)==true) (I1 y.AX)) λH=>some (z&&H)))
theorem ABf(H:AV){a2:AA Addr}{a3:AA Addr}(h2:AK Bf V a2 y H.Am)(h3:AK Bf V a3 z H.AX)(U:Oe H=some r):Sp 156 [vA (gv8 H a2 y a3 z)] V (λ_ v=>v=vB r):=by
 refine se Tryz.func156 ?_;refine i1 U λ_ U=>?_;refine Yr.cb U Y (Qw H.Am h2) λK U=>?_;refine Gj U Y (Qw H.AX h3) λN U=>?_;exact rt
def Ly(y:D8):AA Bool:=
 (Az (MR y.BU) λz=>Az (CG ((z)==true) (MR y.To)) λH=>some ((z&&H)&&((y.To==([]:A9))||(Dy y.BU y.To))))
theorem Xv(y:D8)(U:Ly y=some r):Sp 171 [vA (AMx y)] V (λ_ v=>v=vB r):=by
 refine se Tryz.func171 ?_;refine Yr.cb U Y (Ul y.BU) λz U=>?_;refine Gj U Y (Ul y.To) λH U=>?_;exact rt
def LY(z:List Gd)(N:AA Int):Nat->Int->AA Int
 |0,_=>none|W+1,y=>cond (decide (y<(z.length:Int))) (Ba (0<=y/\y<(z.length:Int)) (Az (I0 ((AN z y).Name)) λH=>cond (!H) (some 7) (cond ((decide ((AN z y).Rf<1))||(decide (3<(AN z y).Rf))) (some 10) (Ba (0<=(0:Int)/\0<=y/\y<=(z.length:Int)) (Az (Dn ((z.take y.toNat).drop (0:Int).toNat) (λO=>MX O (AN z y))) λK=>cond K (some 8) (LY z N W (AB (y+1)))))))) N
def QQ(y:List Gd):AA Int:=
 (cond (decide (6<(y.length:Int))) (some 2) (jn (some 0) (λz=>LY y z ((y.length:Int).toNat+1) 0)))
theorem AEV(z:List Gd){a2:AA Addr}(h2:AK Er V a2 y z){r:Int}(U:QQ z=some r):Sp 224 [vL a2 z y] V (λ_ v=>v=vI r):=by
 refine se Tryz.func224 ?_;refine i1 U λO U=>?_;refine sj 8 U Y λJ3 U=>?_;refine lq (λn6 L' V' M'=>∃(H:Int),L'=[(0,sL a2 z y),(8,sL a2 z y),(9,sN z),(10,sI H)]/\M'=[]/\AK Er V' a2 y z/\LY z J3 n6 H=some r) Y tu ?_;rintro n6 L' _ M' ⟨H,rfl,rfl,h8,U⟩;refine i4 U λO U=>?_;have⟨W,U⟩:=AL U;obtain⟨_,rfl,K⟩:=AK.get h8 W;refine Yr.ia Y ⟨W.1,W.2,K.some⟩ (Yr.ld (x:=vA (AFY (AN z H))) Y K Y (Yr.cb U Y (OP ((AN z H).Name)) λab U=>?_));refine i1 U λO U=>?_;refine i1 U λO U=>?_;have⟨X,U⟩:=AL U;refine xr Y (AIt Aa (c:=Er) Y Y (lo:=0) (hi:=H) Y Y h8 zp Y X (λad Pt ae=>?_));refine xr Y (HZ 0 Y Y Y Y (λ_=>Y) (λ_=>Y) (λaf ag aa N=>?_));refine Fe Y Y ?_;refine Yr.cb U Y (LM ((z.take H.toNat).drop (0:Int).toNat) (λZ=>MX Z (AN z H)) tu (λV' hv Z r hr=>ABg Z (AN z H) (Bi.mono N hv) hr)) λah U=>?_;exact B4 U Y (λ_ U=>rt) λ_ U=>r0
def Cp(H:List A9)(K:A9)(N:Int->AA (Int×Bool)):Nat->Int->Int->AA (Int×Bool)
 |0,_,_=>none|W+1,y,z=>cond (decide (y<z)) (Ba (0<=(1:Int)) (Ba (0<=(AB (R7 .u64 (IntKind.u64.wrap (AB (y+z))) 1))/\(AB (R7 .u64 (IntKind.u64.wrap (AB (y+z))) 1))<(H.length:Int)) (Az (L5 (AN H (AB (R7 .u64 (IntKind.u64.wrap (AB (y+z))) 1))) K) λO=>cond O (Cp H K N W (AB ((AB (R7 .u64 (IntKind.u64.wrap (AB (y+z))) 1))+1)) z) (Cp H K N W y (AB (R7 .u64 (IntKind.u64.wrap (AB (y+z))) 1)))))) (N y)
def Dk(z:List A9)(H:A9):AA (Int×Bool):=
 (jn (λ(y:Int)=>Ba (((decide (y<(z.length:Int)))==true)=true->0<=y/\y<(z.length:Int)) (Ba (((((cond ((decide (y<(z.length:Int)))==true) (AN z y) default)==H)==false)&&((decide (y<(z.length:Int)))==true))=true->0<=y/\y<(z.length:Int)) (Az (CG ((((cond ((decide (y<(z.length:Int)))==true) (AN z y) default)==H)==false)&&((decide (y<(z.length:Int)))==true)) (JC (cond ((((cond ((decide (y<(z.length:Int)))==true) (AN z y) default)==H)==false)&&((decide (y<(z.length:Int)))==true)) (AN z y) default))) λK=>Az (CG (((K)==true)&&((((cond ((decide (y<(z.length:Int)))==true) (AN z y) default)==H)==false)&&((decide (y<(z.length:Int)))==true))) (JC H)) λN=>some (y,((decide (y<(z.length:Int)))&&(((cond ((decide (y<(z.length:Int)))==true) (AN z y) default)==H)||(K&&N))))))) (λO=>Cp z H O (1099511627776:Nat) 0 (z.length:Int)))
theorem NS(z:List A9)(X:A9){a2:AA Addr}(h2:AK Bf V a2 y z){r:Int×Bool}(U:Dk z X=some r):Sp 244 [vL a2 z y,vS X] V (λ_ v=>v=.tuple ⟨[vI (r.1),vB r.2]⟩):=by
 unfold Dk at U;refine se Tryz.func244 ?_;refine AD.run Aa 18 Y ?_;refine sn U (λJ5 L' V' M'=>∃(K:Int),L'=[(0,sL a2 z y),(1,sS X),(6,sN z),(7,sI K)]/\M'=[]/\AK Bf V' a2 y z/\J5 K=some r) Y ?_ λJ5 U=>?_
 ·rintro L' _ M' ⟨K,rfl,rfl,h7,U⟩;have⟨q8,U⟩:=AL U;obtain⟨_,rfl,ae⟩:=AK.OG ((decide (K<(z.length:Int)))==true) h7 q8;refine Yr.ia Y (λH=>⟨(q8 (Bv H)).1,(q8 (Bv H)).2,(ae (Bv H)).some⟩) (Yr.ld (x:=vS (cond ((decide (K<(z.length:Int)))==true) (AN z K) default)) Y (λH=>(ae (Bv H))) Y ?_);have⟨ab,U⟩:=AL U;obtain⟨_,rfl,Z⟩:=AK.OG ((((cond ((decide (K<(z.length:Int)))==true) (AN z K) default)==X)==false)&&((decide (K<(z.length:Int)))==true)) h7 ab;refine Yr.ia Y (λH N=>⟨(ab (Dr H N)).1,(ab (Dr H N)).2,(Z (Dr H N)).some⟩) (Yr.ld (x:=vS (cond ((((cond ((decide (K<(z.length:Int)))==true) (AN z K) default)==X)==false)&&((decide (K<(z.length:Int)))==true)) (AN z K) default)) Y (λH N=>(Z (Dr H N))) Y (Gj U Y (Ou (cond ((((cond ((decide (K<(z.length:Int)))==true) (AN z K) default)==X)==false)&&((decide (K<(z.length:Int)))==true)) (AN z K) default)) λai U=>?_));refine Gj U Y (Ou X) λaj U=>?_;exact rt
 ·refine lq (λaf L' V' M'=>∃(O:Int)(W:Int),L'=[(0,sL a2 z y),(1,sS X),(6,sN z),(7,sI O),(8,sI W)]/\M'=[]/\AK Bf V' a2 y z/\Cp z X J5 af O W=some r) Y tu ?_;rintro af L' _ M' ⟨O,W,rfl,rfl,ag,U⟩;refine i4 U λhb U=>?_;have⟨ah,U⟩:=AL U;refine xr Y (TW Y Y ah ?_);have⟨ad,U⟩:=AL U;obtain⟨_,rfl,aa⟩:=AK.get ag ad;refine Yr.ia Y ⟨ad.1,ad.2,aa.some⟩ (Yr.ld (x:=vS (AN z (AB (R7 .u64 (IntKind.u64.wrap (AB (O+W))) 1)))) Y aa Y (Yr.cb U Y (Xw (AN z (AB (R7 .u64 (IntKind.u64.wrap (AB (O+W))) 1))) X) λak U=>?_));exact B4 U Y (λ_ U=>rd) λ_ U=>rd
section
variable {S:Type}
def HR(H:List BR)(fS:BR->Int->S->AA S)(x6:Int)(fR:Ak->S->AA S)(y:(Bn S)->(List BR)->Int->AA (Unit×Bn S)):Nat->Int->(Bn S)->AA (Unit×Bn S)
 |0,_,_=>none|ab+1,z,K=>cond (decide (z<(H.length:Int))) (Ba (0<=z/\z<(H.length:Int)) (cond (K.left==0) (some ((),(⟨K.left,K.Tm⟩:Bn S))) (Az (fS (AN H z) x6 K.Tm) λaa=>Az (I5 fS fR (⟨(AB (K.left-1)),aa⟩:Bn S) (⟨(AN H z).A.Op,(AN H z).A.N,(AN H z).A.S,(AN H z).A.Aw⟩:Ak)) λO=>Az (I5 fS fR (⟨O.2.left,O.2.Tm⟩:Bn S) (⟨(AN H z).B.Op,(AN H z).B.N,(AN H z).B.S,(AN H z).B.Aw⟩:Ak)) λW=>Az (y (⟨W.2.left,W.2.Tm⟩:Bn S) ((AN H z).CU) (AB (x6+1))) λX=>Az (y (⟨X.2.left,X.2.Tm⟩:Bn S) ((AN H z).Js) (AB (x6+1))) λZ=>HR H fS x6 fR y ab (AB (z+1)) (⟨Z.2.left,Z.2.Tm⟩:Bn S)))) (some ((),(⟨K.left,K.Tm⟩:Bn S)))
def Nt(fS:BR->Int->S->AA S)(fR:Ak->S->AA S)(y:(Bn S)->(List BR)->Int->AA (Unit×Bn S))(z:Bn S)(H:List BR)(K:Int):AA (Unit×Bn S):=
 (HR H fS K fR y ((H.length:Int).toNat+1) 0 (⟨z.left,z.Tm⟩:Bn S))
theorem Va{S:Type}{fS:BR->Int->S->AA S}{fR:Ak->S->AA S}{J:AM->S->Ext->Prop}(hJ:∀{V V':AM}{s:S}{E:Ext},DI V V'->J V s E->J V' s E)(hS:Q6 J f1 ca1 fS)(hR:Ry J f2 ca2 fR){H:(Bn S)->(List BR)->Int->AA (Unit×Bn S)}(K:∀{V:AM}(x1:Bn S)(O:List BR)(Z:Int){y:Nat}{X:List OB}{a5:AA Addr}{z:Nat}(ad:HE J f1 ca1 f2 ca2 V y x1 X)(h5:AK CN V a5 z O){r:Unit×Bn S},H x1 O Z=some r->Sx 251 [vP y,vL a5 O z,vI Z] X V (λV' e M'=>HE J f1 ca1 f2 ca2 V' y r.2 M'/\e=.returned (.tuple ⟨[]⟩)))(x1:Bn S)(O:List BR)(Z:Int){a5:AA Addr}(ad:HE J f1 ca1 f2 ca2 V y x1 X)(h5:AK CN V a5 z O){r:Unit×Bn S}(U:Nt fS fR H x1 O Z=some r):Sx 251 [vP y,vL a5 O z,vI Z] X V (λV' e M'=>HE J f1 ca1 f2 ca2 V' y r.2 M'/\e=.returned (.tuple ⟨[]⟩)):=by
 obtain⟨_,rfl,_⟩:=ad;refine sx Tryz.func251 ?_;refine lq (λae L' V' M'=>∃(W:Int)(x8:Bn S)(E9:Ext),L'=[(0,sP y),(2,sI Z),(8,sL a5 O z),(9,sN O),(10,sI W)]/\M'=[.row (vR y) [vI x8.left,.func (.func f1) #[] ⟨ca1⟩,.func (.func f2) #[] ⟨ca2⟩] 331 3,.ext E9]/\J V' x8.Tm E9/\AK CN V' a5 z O/\HR O fS Z fR H ae W x8=some r) Y tu ?_;rintro ae L' _ M' ⟨W,x8,E9,rfl,rfl,h9,aq,U⟩;refine B4 U Y (λhb U=>?_) λ_ U=>rf;have⟨ab,U⟩:=AL U;have⟨_,af,aa⟩:=AK.get aq ab;obtain⟨ar,T3,au,O6,av,UP,aw,XO,rfl,_,_,_,_⟩:=(Jx.1 af);refine Yr.ia Y ⟨ab.1,ab.2,aa.some⟩ (Yr.ld (x:=vA (gv5 (AN O W) ar T3 au O6 av UP aw XO)) Y aa Y (Yr.O5 (l:=[vI x8.left]) 0 Y (Ar Y) Y (i1 U λ_ U=>?_)));refine Yr.O5 (l:=[vI x8.left]) 0 Y (Ar Y) Y (Yr.P6 0 Y (Ae Y) (Yr.E2 [] [1] (pm 7 0 63) Y ?_));refine Yr.Jw (l:=[.func (.func f1) #[] ⟨ca1⟩]) 0 Y (Ar Y) ?_;have⟨ax,ag,U⟩:=AO U;refine Yr.HT [1] Y (hS (AN O W) _ Z x8.Tm (Jx.2 tu) h9 ag) ?_;rintro _ _ _ ⟨_,rfl,_⟩;refine⟨_,Y,?_⟩;have⟨ah,ai,U⟩:=AO U;refine Yr.HT [0,1] Y (Q0 (J:=J) (f1:=f1) (f2:=f2) (ca1:=ca1) (ca2:=ca2) @hJ hS hR (⟨(AB (x8.left-1)),ax⟩:Bn S) (⟨(AN O W).A.Op,(AN O W).A.N,(AN O W).A.S,(AN O W).A.Aw⟩:Ak) tu tu ai) ?_;rintro _ _ _ ⟨_,rfl,_⟩;refine⟨_,Y,?_⟩;have⟨aj,ak,U⟩:=AO U;refine Yr.HT [0,1] Y (Q0 (J:=J) (f1:=f1) (f2:=f2) (ca1:=ca1) (ca2:=ca2) @hJ hS hR (⟨ah.2.left,ah.2.Tm⟩:Bn S) (⟨(AN O W).B.Op,(AN O W).B.N,(AN O W).B.S,(AN O W).B.Aw⟩:Ak) tu tu ak) ?_;rintro _ _ _ ⟨_,rfl,_⟩;refine⟨_,Y,?_⟩;have⟨al,an,U⟩:=AO U;refine Yr.HT [0,1] Y (K (⟨aj.2.left,aj.2.Tm⟩:Bn S) ((AN O W).CU) (AB (Z+1)) tu tu an) ?_;rintro _ _ _ ⟨_,rfl,_⟩;refine⟨_,Y,?_⟩;have⟨_,ao,U⟩:=AO U;refine Yr.HT [0,1] Y (K (⟨al.2.left,al.2.Tm⟩:Bn S) ((AN O W).Js) (AB (Z+1)) tu tu ao) ?_;rintro _ _ _ ⟨_,rfl,_⟩;refine⟨_,Y,?_⟩;exact r2
def El(fS:BR->Int->S->AA S)(fR:Ak->S->AA S):Nat->(Bn S)->(List BR)->Int->AA (Unit×Bn S)
 |0,_,_,_=>none|n+1,y,z,H=>Nt fS fR (El fS fR n) y z H
theorem VZ{S:Type}{fS:BR->Int->S->AA S}{fR:Ak->S->AA S}{J:AM->S->Ext->Prop}(O:∀{V V':AM}{s:S}{E:Ext},DI V V'->J V s E->J V' s E)(hS:Q6 J f1 ca1 fS)(hR:Ry J f2 ca2 fR):∀n:Nat,(∀{V:AM}(H:Bn S)(y:List BR)(K:Int){z:Nat}{N:List OB}{a5:AA Addr}{k5:Nat}(W:HE J f1 ca1 f2 ca2 V z H N)(Z:AK CN V a5 k5 y){r:Unit×Bn S},El fS fR n H y K=some r->Sx 251 [vP z,vL a5 y k5,vI K] N V (λV' e M'=>HE J f1 ca1 f2 ca2 V' z r.2 M'/\e=.returned (.tuple ⟨[]⟩))):=by
 intro n
 induction n with
 |zero=>exact by intros;rename_i h;simp[El]at h
 |succ n X=>exact by intros;rename_i h;rw[El]at h;exact Va (J:=J) (f1:=f1) (f2:=f2) (ca1:=ca1) (ca2:=ca2) @O hS hR (by exact X) _ _ _ (by assumption) (by assumption) h
theorem Wg{S:Type}{fS:BR->Int->S->AA S}{fR:Ak->S->AA S}{J:AM->S->Ext->Prop}(W:∀{V V':AM}{s:S}{E:Ext},DI V V'->J V s E->J V' s E)(hS:Q6 J f1 ca1 fS)(hR:Ry J f2 ca2 fR)(K:Bn S)(H:List BR)(N:Int){a5:AA Addr}(O:HE J f1 ca1 f2 ca2 V y K X)(Z:AK CN V a5 z H){r:Unit×Bn S}(U:El fS fR n K H N=some r):Sx 251 [vP y,vL a5 H z,vI N] X V (λV' e M'=>HE J f1 ca1 f2 ca2 V' y r.2 M'/\e=.returned (.tuple ⟨[]⟩)):=(VZ (J:=J) (f1:=f1) (f2:=f2) (ca1:=ca1) (ca2:=ca2) @W hS hR n) K H N O Z U
end
def Hc(y:Ag)(z:BR):AA ((Int×Int×Int)×Ag):=
 (cond (z.Op==8) (some ((0,0,0),(⟨y.Bg,y.loops,y.all⟩:Ag))) (Az (K6 1099511627776 (⟨z.A.Op,z.A.N,z.A.S,z.A.Aw⟩:Ak) y.Bg) λW=>jn (λ(X:Int)(Z:Int)(H:Ag)=>some ((W.1,X,Z),(⟨H.Bg,H.loops,H.all⟩:Ag))) (λK=>cond ((W.2==0)&&((z.Op==3)||(z.Op==6))) (Az (K6 1099511627776 (⟨z.B.Op,z.B.N,z.B.S,z.B.Aw⟩:Ak) y.Bg) λO=>K O.1 O.2 (⟨y.Bg,y.loops,y.all⟩:Ag)) (K 0 W.2 (⟨y.Bg,y.loops,y.all⟩:Ag)))))
theorem Rw(x1:Ag)(H:BR){a4:AA Addr}{a5:AA Addr}{a6:AA Addr}{a7:AA Addr}(af:Nx V y z N W x1 X)(h4:AK Br V a4 ab H.A.Aw)(h5:AK Br V a5 ai H.B.Aw)(h6:AK CN V a6 aA H.CU)(h7:AK CN V a7 aH H.Js){r:(Int×Int×Int)×Ag}(U:Hc x1 H=some r):Sx 255 [vP y,vA (gv5 H a4 ab a5 ai a6 aA a7 aH)] X V (λV' e M'=>Nx V' y z N W r.2 M'/\e=.returned (.tuple ⟨[vI (r.1.1),vI (r.1.2.1),vI (r.1.2.2)]⟩)):=by
 obtain⟨rfl,_⟩:=af;refine sx Tryz.func255 ?_;refine i1 U λhb U=>?_;refine Yr.E2 [] [1] (pm 12 0 4031) Y ?_;refine Yr.Jw (l:=[.map (some z)]) 0 Y (Ar Y) ?_;have⟨x8,ag,U⟩:=AO U;refine Yr.HT [1] Y (ABa (⟨H.A.Op,H.A.N,H.A.S,H.A.Aw⟩:Ak) x1.Bg h4 ag) ?_;rintro _ _ _ rfl;refine⟨_,Y,?_⟩;refine sm U (λad L' V' M'=>∃(O:Int)(Z:Int)(K:Ag),L'=[(4,sI (x8.1)),(5,sI O),(6,sI Z)]/\M'=[.row (vR y) [.map (some z),.map (some N),.map (some W)] 291 3,.ext (FN (λ(aa:Int)=>(vI aa:Value)) z K.Bg),.ext (FN (λ(aa:Bool)=>(vB aa:Value)) N K.loops),.ext (FN (λ(aa:Int)=>(vI aa:Value)) W K.all)]/\ad O Z K=some r) Y ?_ λad U=>?_
 ·rintro L' _ M' ⟨O,Z,K,rfl,rfl,U⟩;exact rt
 ·refine B4 U Y (λ_ U=>?_) λ_ U=>r4;refine Yr.E2 [] [1] (pm 12 0 4031) Y ?_;refine Yr.Jw (l:=[.map (some z)]) 0 Y (Ar Y) ?_;have⟨_,ae,U⟩:=AO U;refine Yr.HT [1] Y (ABa (⟨H.B.Op,H.B.N,H.B.S,H.B.Aw⟩:Ak) x1.Bg tu ae) ?_;rintro _ _ _ rfl;refine⟨_,Y,?_⟩;exact r4
def MY(K:Ak)(y:Ak->Int->AA Int)(N:Int)(O:AA Int):Nat->Int->AA Int
 |0,_=>none|W+1,z=>cond (decide (z<(K.Aw.length:Int))) (Ba (0<=z/\z<(K.Aw.length:Int)) (Az (y (AN K.Aw z) (AB (N+1))) λH=>cond (H !=0) (some H) (MY K y N O W (AB (z+1))))) O
def Rh(y:Ak->Int->AA Int)(z:Ak)(H:Int):AA Int:=
 (Az (TV z H) λK=>cond (K !=0) (some K) (jn (some 0) (λN=>MY z y H N ((z.Aw.length:Int).toNat+1) 0)))
def Pm(g:Ak->Int->AA Int):Prop:=∀{V:AM}(y:Ak)(z:Int){a2:AA Addr}{k2:Nat}(h2:AK Br V a2 k2 y.Aw){r:Int},g y z=some r->Sp 271 [vA (Ws y a2 k2),vI z] V (λ_ v=>v=vI r)
theorem AEX{y:Ak->Int->AA Int}(z:Pm y):Pm (Rh y):=by
 intro V K X a2 k2 h2 r U;refine se Tryz.func271 ?_;refine Yr.cb U Y (AHd K X h2) λx4 U=>?_;refine i1 U λhb U=>?_;refine sj 9 U Y λJ5 U=>?_;refine Yr.cut 0 [1,16,17,18] Y ?_;refine lq (λn8 L' V' M'=>∃(O:Int),L'=[(1,sI X),(16,sL a2 K.Aw k2),(17,sN K.Aw),(18,sI O)]/\M'=[]/\AK Br V' a2 k2 K.Aw/\MY K y X J5 n8 O=some r) Y tu ?_;rintro n8 L' _ M' ⟨O,rfl,rfl,Z,U⟩;refine i4 U λhb U=>?_;have⟨N,U⟩:=AL U;have⟨_,W,H⟩:=AK.get Z N;obtain⟨aa,Pt,rfl,ab⟩:=(DS.1 W);refine Yr.ia Y ⟨N.1,N.2,H.some⟩ (Yr.ld (x:=vA (Ws (AN K.Aw O) aa Pt)) Y H Y (Yr.cb U Y (z (AN K.Aw O) (AB (X+1)) ab) λad U=>?_));exact B4 U Y (λ_ U=>rt) λ_ U=>r0
def Jr:Nat->Ak->Int->AA Int
 |0,_,_=>none|n+1,y,z=>Rh (Jr n) y z
theorem AEW:∀n:Nat,Pm (Jr n):=by
 intro n
 induction n with
 |zero=>unfold Pm;intros;rename_i h;simp[Jr]at h|succ n y=>exact AEX y
theorem AF7:Pm (Jr n):=AEW n
def MN(y:Ur):AA Int:=
 (Az (KL y.a.N y.b.N) λz=>some z)
theorem Ug(y:Ur){r:Int}(U:MN y=some r):Sp 275 [vA (APW y)] V (λ_ v=>v=vI r):=by
 refine se Tryz.func275 ?_;refine Yr.cb U Y (VY y.a.N y.b.N) λz U=>?_;exact rt
def Ec(z:List AR)(H:AA Bool):Nat->Int->AA Bool
 |0,_=>none|K+1,y=>cond (decide (y<(z.length:Int))) (Ba (0<=y/\y<(z.length:Int)) (cond ((AN z y).JK.BD==0) (some false) (Ec z H K (AB (y+1))))) H
def Gx(y:List AR):AA Bool:=
 (jn (Az (Ep y) λz=>some z) (λH=>Ec y H ((y.length:Int).toNat+1) 0))
theorem TI(z:List AR){a2:AA Addr}(h2:AK Au V a2 y z)(U:Gx z=some r):Sp 5 [vL a2 z y] V (λ_ v=>v=vB r):=by
 unfold Gx at U;refine se Tryz.func5 ?_;refine AD.run Aa 9 Y ?_;refine sn U (λO L' V' M'=>L'=[(0,sL a2 z y)]/\M'=[]/\AK Au V' a2 y z/\O=some r) Y ?_ λO U=>?_
 ·rintro L' _ M' ⟨rfl,rfl,Z,U⟩;refine Yr.cb U Y (P0 z Z) λx6 U=>?_;exact rt
 ·refine lq (λX L' V' M'=>∃(N:Int),L'=[(0,sL a2 z y),(3,sI N)]/\M'=[]/\AK Au V' a2 y z/\Ec z O X N=some r) Y tu ?_;rintro X L' _ M' ⟨N,rfl,rfl,W,U⟩;refine i4 U λhb U=>?_;have⟨K,U⟩:=AL U;obtain⟨_,rfl,H⟩:=AK.get W K;exact Yr.ia Y ⟨K.1,K.2,H.some⟩ (Yr.ld (x:=vI ((AN z N).JK.BD)) Y (Bi.part H 1 1 Y) Y (B4 U Y (λ_ U=>rt) λ_ U=>rd))
def Fa(y:List AR):AA Bool:=
 (Az (Ke y) λz=>Az (CG ((z)==true) (FL y (λH=>Ix H))) λK=>some (z&&(!K)))
theorem Hb(z:List AR){a2:AA Addr}(h2:AK Au V a2 y z)(U:Fa z=some r):Sp 22 [vL a2 z y] V (λ_ v=>v=vB r):=by
 refine se Tryz.func22 ?_;refine Yr.cb U Y (Uh z h2) λN U=>?_;refine Gj U Y (L7 z (λH=>Ix H) h2 (λV' hv H r K=>Ui H K)) λO U=>?_;exact rt
def AKU(y z:Nat)(H:AM)(s:List AR×Bool)(r0 r1 r2:HH):Prop:=
 ∃a k cs,r0=⟨.slice (some ⟨y,0,none⟩) 1 1,[.slice a s.1.length k],26,1⟩/\r1=⟨.slice a s.1.length k,cs,62,4⟩/\
  r2=⟨.slice (some ⟨z,0,none⟩) 1 1,[.bool s.2],4,1⟩/\AF Au H s.1 cs
def Ro(s:List AR×Bool)(y:AR):AA (List AR×Bool):=Ba ((s.1++[y]).length*48<=140737488355328) (some (s.1++[y],s.2))
def U2(s:List AR×Bool)(_ _:AR):AA (List AR×Bool):=some (s.1,true)
theorem AFz(z N:Nat):Tk Tryz.prog 67 [vP z] V Hy (AKU z N) Ro:=by
 intro V1 hv s r0 r1 r2 y O ⟨a,k,cs,h0,h1,h2,H⟩ K;subst h0;subst h1;subst h2;have⟨l,t⟩:=s;unfold Ro at K;have⟨q,K⟩:=AL K;obtain rfl:=Bt K;refine Q7.enter (T:=NP) Tryz.func67 Y kz Y Y Y (M:=[.row (vR z) [vL a l k] 26 1,.row (vL a l k) cs 62 4,.row (vR N) [vB t] 4 1]) Y ?_;refine xr Y (KM Aa 0 (l:=[vL a l k]) Y Y Y ⟨λj v hv=>by simpa using hv,z,0,Y⟩ Y Y ?_);refine Yr.RV Y (Yr.app (nm:=(l++[y]).length) 1 4 Y zp (λ_ _=>Y) q (λa3 k3=>?_));refine Yr.Zr 0 Y ⟨z,0,Y⟩ (Nat.le_refl _) Y (Yr.SL Y ?_);dsimp only;exact⟨[⟨vR z,[vL a3 (l++[y]) k3],_,1⟩,⟨vL a3 (l++[y]) k3,_,_,4⟩,⟨vR N,[vB t],_,1⟩],Y,Y,Y,_,_,_,Y,a3,k3,_,Y,Y,Y,AF.app H ⟨_,_,Y,Y,Y⟩⟩
theorem ALr(K z:Nat):Zq Tryz.prog 70 [vP z] V Hy Hy (AKU K z) U2:=by
 intro V1 hv s r0 r1 r2 y O W ⟨a,k,cs,h0,h1,h2,H⟩ N;subst h0;subst h1;subst h2;have⟨l,t⟩:=s;unfold U2 at N;obtain rfl:=Bt N;refine Q7.enter (T:=NP) Tryz.func70 Y kz Y Y Y (M:=[.row (vR K) [vL a l k] 26 1,.row (vL a l k) cs 62 4,.row (vR z) [vB t] 4 1]) Y ?_;refine Yr.Zr 2 Y ⟨z,0,Y⟩ (Nat.le_refl _) Y (Yr.SL Y ?_);dsimp only;exact⟨[⟨vR K,[vL a l k],_,1⟩,⟨vL a l k,cs,_,4⟩,⟨vR z,[vB true],_,1⟩],Y,Y,Y,_,_,_,Y,a,k,cs,Y,Y,Y,H⟩
def NZ(y z:List AR):AA (List AR×Int):=
 Az (Fa y) λH=>Az (CG ((!H)==false) (Fa z)) λK=>cond ((!H)||(!K)) (some ([],1))
  (Az (YY y z IY Ro Ro U2 ([],false)) λs=>cond s.2 (some ([],8)) (some (s.1,0)))
theorem Vr(N:List AR)(O:List AR){a2:AA Addr}{a4:AA Addr}(h2:AK Au V a2 y N)(h4:AK Au V a4 z O){r:List AR×Int}(U:NZ N O=some r):Sp 36 [vL a2 N y,vL a4 O z] V (λV' v=>∃W k22,v=.tuple ⟨[vL W r.1 k22,vI (r.2)]⟩/\AK Au V' W k22 r.1):=by
 refine se Tryz.func36 ?_;refine Yr.cb U Y (Hb N h2) λx5 U=>?_;refine Gj U Y (Hb O h4) λx6 U=>?_;refine i1 U λhb U=>?_;refine xr Y (Fh 0 (n:=1) (sz:=1) Y Y Y Y Y (λ_=>Y) (λ_=>Y) (λ_=>Y) (λH=>?_));refine Fe Y Y ?_;refine xr Y (Fh 1 (n:=1) (sz:=1) Y Y Y Y Y (λ_=>Y) (λ_=>Y) (λ_=>Y) (λK=>?_));refine Fe Y Y ?_;refine AD.Eh 62 4 Y ?_;have⟨s,hs,U⟩:=AO U;refine Le [0,2,1] (rs:=[⟨vR H,[.slice none 0 0],26,1⟩,⟨.slice none 0 0,[],62,4⟩,⟨vR K,[vB false],4,1⟩]) Y Y Y Y Y Y
  (AIo (rel:=AKU H K) N O IY Ro Ro U2 h2 h4 (λV' hv y0 y1 r hr=>Vq y0 y1 hr) (AFz H K) (AFz H K) (ALr H K) (s:=([],false)) ⟨none,0,[],Y,Y,Y,AF.nil⟩ hs) ?_
 rintro _ _ _ _ ⟨rfl,_,_,_,rfl,a,k,_,rfl,rfl,rfl,X⟩;refine yz Y (KM Aa 1 (l:=[vB s.2]) Y Y Y ⟨λj v hv=>by simpa using hv,K,0,Y⟩ Y Y ?_);refine i1 U λ_ U=>?_;refine xr Y (KM Aa 0 (l:=[vL a s.1 k]) Y Y Y ⟨λj v hv=>by simpa using hv,H,0,Y⟩ Y Y ?_);refine Yr.QY 2 Y (λae Z aa ab=>?_);have ad:=BV X Z aa ab;exact ry
def Fm(z:AI)(H:A9):AA Int:=
 (Az (Lw z H) λy=>cond (decide (y<0)) (some 0) (Ba (0<=y/\y<(z.AG.length:Int)) (cond (((AN z.AG y).C0 !=0)&&(Dy H (AN z.AG y).Gh)) (some (AN z.AG y).C0) (some (AN z.AG y).Ab))))
theorem Lo(z:AI)(K:A9){a2:AA Addr}(h2:AK BS V a2 y z.AG){r:Int}(U:Fm z K=some r):Sp 47 [vA (S2 z a2 y),vS K] V (λ_ v=>v=vI r):=by
 refine se Tryz.func47 ?_;refine Yr.cb U Y (Xr z K h2) λO U=>?_;refine i1 U λW U=>?_;have⟨N,U⟩:=AL U;obtain⟨_,rfl,H⟩:=AK.get h2 N;exact Yr.ia Y ⟨N.1,N.2,H.some⟩ (Yr.ld (x:=vA (gv7 (AN z.AG O))) Y H Y (i3 U))
section
open Go.RowKit Go.Proofs
def H6(z:AI):List A9->AA (List Int)
 |[]=>some []|k::l=>Az (Fm z k) λy=>Az (H6 z l) λr=>some (y::r)
theorem XH{z:AI}:∀{H l2:List A9}{r:List Int},H6 z (H++l2)=some r->∃r1 r2,H6 z H=some r1/\H6 z l2=some r2/\r=r1++r2
 |[],l2,r,h=>⟨[],r,Y,h,Y⟩|k::H,l2,r,h=>by
  simp only[NK,H6]at h⊢;have⟨y,K,h⟩:=AO h;have⟨q,N,h⟩:=AO h;obtain rfl:=Bt h;obtain⟨r1,r2,O,W,rfl⟩:=XH N;exact⟨y::r1,r2,by rw[K,O];rfl,W,Y⟩
theorem AIV{α:Type}[Inhabited α](l:List α)(i:Int)(hi:0<=i/\i<(l.length:Int)):l.drop i.toNat=AN l i::l.drop (i+1).toNat:=by
 have h:i.toNat<l.length:=ox
 rw[A4 h,show(i+1).toNat=i.toNat+1 by omega]
 congr 1
 simp[AN,DD,h]
def mu(s:Nat)(n:Nat)(a:Act):Nat:=match a.tmps[s]? with
 |some (.int _ i)=>((n:Int)-i).toNat|_=>0
theorem RJ.mu{w0:World}{J:List Int->World->Prop}{pre:List Int}{a:Act}{w:World}(h:RJ V w0 J nt L pre a w){s:Nat}{i:Int}(n:Nat)(y:EF L s=some (sI i)):Go.Proofs.YthjnkknigpkldaaGreatDoor.mu s n a=((n:Int)-i).toNat:=by
 have h1:a.tmps[s]? =some (vI i):=(h.lk s _ y).1;simp[Go.Proofs.YthjnkknigpkldaaGreatDoor.mu,h1]
theorem AJt(H:List (List A9))(x5:AI){a4:AA Addr}{a6:AA Addr}(h4:AK (cSl Bf) V a4 y H)(ak:Bi V (some ⟨z,0,none⟩) 0 [vL a4 H y])(h6:AK BS V a6 N x5.AG)(al:Bi V (some ⟨W,0,none⟩) 0 (S2 x5 a6 N))(aB:H.length<9223372036854775807)(an:∀l∈H,l.length<9223372036854775807)(U:H6 x5 H.flatten=some xs)(w0:World)(ag:Holds V w0):AOu Tryz.prog 131 #[vP z,vP W] xs w0:=by
 intro l J ab ah Z hY h0;have hV:Holds V ab:=UR ag ah;have e:(#[Value.func (.yield l) #[] #[]]++ #[Value.pointer (some ⟨z,0,none⟩),Value.pointer (some ⟨W,0,none⟩)]:Array Value)=⟨[Value.func (.yield l) #[] #[],Value.pointer (some ⟨z,0,none⟩),Value.pointer (some ⟨W,0,none⟩)]⟩:=by simp
 rw[e];refine(callsIn_wide (n:=0)).1 (callsIn_of_wp Tryz.func131 Y Yt ?_);have s0:RJ V w0 J 28 [(0,.v (.func (.yield l) #[] #[])),(1,sP z),(2,sP W)] [] {tmps:=(⟨[Value.func (.yield l) #[] #[],Value.pointer (some ⟨z,0,none⟩),Value.pointer (some ⟨W,0,none⟩)]⟩:Array Value)++Array.replicate (Tryz.f131.ntmps-(⟨[Value.func (.yield l) #[] #[],Value.pointer (some ⟨z,0,none⟩),Value.pointer (some ⟨W,0,none⟩)]⟩:Array Value).size) undef,defers:=[]} ab:=
  ⟨Y,by rw[R4,T2];rfl,UM [Value.func (.yield l) #[] #[],Value.pointer (some ⟨z,0,none⟩),Value.pointer (some ⟨W,0,none⟩)] _,hV,ah,h0⟩
 refine wpIn_seq ?_;refine s0.IG (T:=NP) (fn:=Tryz.f131) Z (λL' V'=>L'=[(0,.v (.func (.yield l) #[] #[])),(2,sP W),(8,sL a4 H y),(9,sN H),(10,sI 0)]) ?_ ?_
 ·refine AD.run Aa 400 Y (AD.ld Aa (x:=vL a4 H y) Y Y ak Y Y ?_);exact rd
 rintro L' V' a1 w1 rfl aC s1;clear s0;show Code.wpIn _ _ _ _ _ _ _;refine wpIn_block ?_;refine wpIn_loop (λa w=>∃(i:Int)(pre r:List Int),(0<=i/\i<=(H.length:Int))/\RJ V w0 J 28 [(0,.v (.func (.yield l) #[] #[])),(2,sP W),(8,sL a4 H y),(9,sN H),(10,sI i)] pre a w/\xs=pre++r/\H6 x5 (H.drop i.toNat).flatten=some r)
  (λa _=>mu 10 H.length a) ⟨0,[],xs,⟨D6 _,by omega⟩,s1,Y,U⟩ ?_
 clear s1;rintro a w ⟨i,pre,r,hi,s,hx,hr⟩;rw[s.mu (s:=10) H.length Y];refine wpIn_seq ?_;refine s.IG (T:=NP) (fn:=Tryz.f131) Z (λL' V'=>L'=[(0,.v (.func (.yield l) #[] #[])),(2,sP W),(8,sL a4 H y),(9,sN H),(10,sI i),(11,sB (decide (i<(H.length:Int))))]) ?_ ?_
 ·exact AD.run Aa 400 Y rd
 clear s;rintro L' V2 a2 w2 rfl aD s;show Code.wpIn _ _ _ _ _ _ _;refine wpIn_seq ?_;refine wpIn_cond_split (s.eval (s:=11) Y) (λhc=>?_) (λhc=>?_)
 case _=>
  have af:i<(H.length:Int):=by simpa using hc
  refine wpIn_skip ?_;show Code.wpIn _ _ _ _ _ _ _;have hd:=AIV H i ⟨hi.1,af⟩;rw[hd,AJ5]at hr;obtain⟨r1,r2,K,ao,rfl⟩:=XH hr;have aq:=AK.get h4 (n:=i) ⟨hi.1,af⟩;have⟨aE,ai,ad⟩:=aq;obtain⟨O,O6,rfl,au⟩:=ai;refine wpIn_seq ?_;refine wpIn_block ?_;refine wpIn_seq ?_;refine s.IG (T:=NP) (fn:=Tryz.f131) Z (λL' V'=>L'=[(0,.v (.func (.yield l) #[] #[])),(2,sP W),(5,sL O (AN H i) O6),(8,sL a4 H y),(9,sN H),(10,sI i)]) ?_ ?_
  ·refine AD.run Aa 400 Y (AD.ia Aa Y Y ⟨hi.1,af,ad.some⟩ ?_);exact Yr.ld (x:=vL O (AN H i) O6) Y ad Y (AD.run Aa 8 Y rd)
  clear s;rintro L' V3 a3 w3 rfl aF s;show Code.wpIn _ _ _ _ _ _ _;refine wpIn_seq ?_;refine s.IG (T:=NP) (fn:=Tryz.f131) Z (λL' V'=>L'=[(0,.v (.func (.yield l) #[] #[])),(2,sP W),(8,sL a4 H y),(9,sN H),(10,sI i),(14,sL O (AN H i) O6),(15,sN (AN H i)),(16,sI 0)]) ?_ ?_
  ·exact AD.run Aa 400 Y rd
  clear s;rintro L' V4 aG w4 rfl aH s;show Code.wpIn _ _ _ _ _ _ _;refine wpIn_block ?_;refine wpIn_loop (λa w=>∃(j:Int)(pre r1:List Int),(0<=j/\j<=((AN H i).length:Int))/\RJ V w0 J 28 [(0,.v (.func (.yield l) #[] #[])),(2,sP W),(8,sL a4 H y),(9,sN H),(10,sI i),(14,sL O (AN H i) O6),(15,sN (AN H i)),(16,sI j)] pre a w/\xs=pre++(r1++r2)/\H6 x5 ((AN H i).drop j.toNat)=some r1)
   (λa _=>mu 16 (AN H i).length a) ⟨0,pre,r1,⟨D6 _,by omega⟩,s,hx,K⟩ ?_
  clear s hx K;rintro a w ⟨j,pre,r1,hj,s,hx,K⟩;rw[s.mu (s:=16) (AN H i).length Y];refine wpIn_seq ?_;refine s.IG (T:=NP) (fn:=Tryz.f131) Z (λL' V'=>L'=[(0,.v (.func (.yield l) #[] #[])),(2,sP W),(8,sL a4 H y),(9,sN H),(10,sI i),(14,sL O (AN H i) O6),(15,sN (AN H i)),(16,sI j),(17,sB (decide (j<((AN H i).length:Int))))]) ?_ ?_
  ·exact AD.run Aa 400 Y rd
  clear s;rintro L' V5 a5 w5 rfl aI s;show Code.wpIn _ _ _ _ _ _ _;refine wpIn_seq ?_;refine wpIn_cond_split (s.eval (s:=17) Y) (λhc=>?_) (λhc=>?_)
  case _=>
   have X:j<((AN H i).length:Int):=by simpa using hc
   refine wpIn_skip ?_;show Code.wpIn _ _ _ _ _ _ _;have av:=AIV (AN H i) j ⟨hj.1,X⟩;rw[av,H6]at K;have⟨aa,hy,K⟩:=AO K;have⟨r3,aw,K⟩:=AO K;obtain rfl:=Bt K;obtain⟨_,rfl,ae⟩:=AK.get au (n:=j) ⟨hj.1,X⟩;refine wpIn_seq ?_;refine wpIn_block ?_;refine wpIn_seq ?_;refine s.IG (T:=NP) (fn:=Tryz.f131) Z (λL' V'=>L'=[(0,.v (.func (.yield l) #[] #[])),(2,sP W),(7,sS (AN (AN H i) j)),(8,sL a4 H y),(9,sN H),(10,sI i),(14,sL O (AN H i) O6),(15,sN (AN H i)),(16,sI j)]) ?_ ?_
   ·refine AD.run Aa 400 Y (AD.ia Aa Y Y ⟨hj.1,X,ae.some⟩ ?_);exact Yr.ld (x:=vS (AN (AN H i) j)) Y ae Y (AD.run Aa 8 Y rd)
   clear s;rintro L' V6 aJ w6 rfl aK s;show Code.wpIn _ _ _ _ _ _ _;refine wpIn_seq ?_;refine s.head (T:=NP) (fn:=Tryz.f131) Z (λL' V'=>L'=[(0,.v (.func (.yield l) #[] #[])),(2,sP W),(8,sL a4 H y),(9,sN H),(10,sI i),(14,sL O (AN H i) O6),(15,sN (AN H i)),(16,sI j),(20,.v (.func (.yield l) #[] #[])),(23,sI aa)]) (ops:=[_,_,_,_]) (rest:=[_,_]) ?_ Y ?_
   ·refine AD.run Aa 400 Y (AD.ld Aa (x:=vA (S2 x5 a6 N)) Y Y al Y Y ?_);exact Yr.OJ (vI aa) Y (Lo x5 (AN (AN H i) j) h6 hy) rd
   clear s;rintro L' V7 a7 w7 rfl aL s;refine s.yield (l:=l) (x:=aa) (d:=24) (g:=20) (ar:=23) Y Y Y (by decide) Y Y (hY pre aa (r3++r2) w7 (by rw[hx];simp) s.j s.bl) ag ?_;clear s;intro a8 w8 s;refine s.ops (T:=NP) (fn:=Tryz.f131) Z (λL' V'=>L'=[(0,.v (.func (.yield l) #[] #[])),(2,sP W),(8,sL a4 H y),(9,sN H),(10,sI i),(14,sL O (AN H i) O6),(15,sN (AN H i)),(16,sI j),(25,sB false)]) ?_ ?_
   ·exact AD.run Aa 400 Y rd
   clear s;rintro L' V9 a9 w9 rfl aM s;show Code.wpIn _ _ _ _ _ _ _;refine wpIn_cond_false (s.eval (s:=25) Y) ?_;refine wpIn_skip ?_;show Code.wpIn _ _ _ _ _ _ _;refine s.IG (T:=NP) (fn:=Tryz.f131) Z (λL' V'=>L'=[(0,.v (.func (.yield l) #[] #[])),(2,sP W),(8,sL a4 H y),(9,sN H),(10,sI i),(14,sL O (AN H i) O6),(15,sN (AN H i)),(16,sI (AB (j+1)))]) ?_ ?_
   ·exact AD.run Aa 400 Y rd
   clear s;rintro L' ax ay az rfl aj s;have hm:=an (AN H i) (by
    have:=DK (i:=i.toNat) (l:=H) (a:=AN H i) (by rw[hd];simp);exact this)
   have hw:AB (j+1)=j+1:=Vg ox ox;rw[hw]at s;refine⟨⟨j+1,pre++[aa],r3,⟨by omega,by omega⟩,s,by rw[hx];simp,aw⟩,?_⟩;rw[s.mu (s:=16) (AN H i).length Y];omega
  case _=>
   have aA:((AN H i).length:Int)<=j:=by simpa using hc
   refine wpIn_exit ?_;have he:j.toNat=(AN H i).length:=ox
   rw[he,Gf,H6]at K;obtain rfl:=Bt K;show Code.wpIn _ _ _ _ _ _ _;refine s.IG (T:=NP) (fn:=Tryz.f131) Z (λL' V'=>L'=[(0,.v (.func (.yield l) #[] #[])),(2,sP W),(8,sL a4 H y),(9,sN H),(10,sI (AB (i+1)))]) ?_ ?_
   ·exact AD.run Aa 400 Y rd
   clear s;rintro L' ax ay az rfl aj s;have hw:AB (i+1)=i+1:=Vg ox ox;rw[hw]at s;refine⟨⟨i+1,pre,r2,⟨by omega,by omega⟩,s,by rw[hx];simp,ao⟩,?_⟩;rw[s.mu (s:=10) H.length Y];omega
 case _=>
  have aA:(H.length:Int)<=i:=by simpa using hc
  refine wpIn_exit ?_;have he:i.toNat=H.length:=ox
  rw[he,Gf,List.flatten_nil,H6]at hr;obtain rfl:=Bt hr;rw[Du]at hx;subst hx;show bodyPost Tryz.prog Tryz.f131 (λe W'=>(∃v,e=.returned v)/\J _ W') .normal _ _;exact bodyPost_end (v:=.tuple #[]) (by simp[results,show Tryz.f131.results= #[]from rfl]) s.df ⟨⟨_,Y⟩,s.j⟩
def AN4:Go.Shelf.Ren:=⟨λ|11=>190|n=>n,λ|0=>0|24=>39|26=>3|28=>167|33=>56|n=>n,λn=>n⟩
theorem AMT:Go.Proofs.SlLaysZI.n11 Tryz.prog AN4:={
 mixed:=kz
 f11:=⟨ "slices.AppendSeq[[]int,int]",by kernel_rfl,Tryz.func190.trans (B2 some kz)⟩
 t0:=Tryz.underlying0
 a0:=Tryz.isAgg0
 z0:=Tryz.sizeOf0
 v0:=Tryz.zeroValue0
 t24:=Tryz.underlying39
 a24:=Tryz.isAgg39
 z24:=Tryz.sizeOf39
 v24:=Tryz.zeroValue39
 t26:=Tryz.underlying3
 a26:=Tryz.isAgg3
 z26:=Tryz.sizeOf3
 v26:=Tryz.zeroValue3
 t28:=Tryz.underlying167
 a28:=Tryz.isAgg167
 z28:=Tryz.sizeOf167
 v28:=Tryz.zeroValue167
 i26:=by kernel_rfl}
theorem AF2{v:Value}(z:ADL Tryz.prog V v xs)(y:xs.length*8<=140737488355328):MJ Tryz.prog 190 [.slice none 0 0,v] ⟨.slice none 0 0,[],3,1⟩ V (λV' r H=>V'=V/\∃a k,r=vL a xs k/\H=⟨vL a xs k,xs.map (Value.int .i64),3,1⟩):=
 Zx AMT ⟨_,Tryz.func190,by kernel_rfl,by kernel_rfl⟩ z y
theorem AJu{v:Value}(H:ADL Tryz.prog V v xs)(z:xs.length*8<=140737488355328):MJ Tryz.prog 172 [v] ⟨.slice none 0 0,[],3,1⟩ V (λV' r K=>V'=V/\∃a k,r=vL a xs k/\K=⟨vL a xs k,xs.map (Value.int .i64),3,1⟩):=by
 refine MJ.enter (T:=NP) Tryz.func172 Y kz Y Y Y ?_;refine xr Y (Ef 0 Y Y Y Y (AF2 H z) ?_);rintro _ _ _ _ ⟨y,a,k,rfl,rfl⟩;have y:=y.symm;subst y;refine⟨_,Y,?_⟩;refine Yr.ret Y ?_;dsimp only;exact OV.at 0 Y ⟨Y,a,k,Y,Y⟩
theorem ALs{v:Value}(H:ADL Tryz.prog V v xs)(z:xs.length*8<=140737488355328):MJ Tryz.prog 130 [v] ⟨.slice none 0 0,[],3,1⟩ V (λV' r K=>V'=V/\∃a k,r=vL a xs k/\K=⟨vL a xs k,(Fx xs).map (Value.int .i64),3,1⟩):=by
 refine MJ.enter (T:=NP) Tryz.func130 Y kz Y Y Y ?_;refine xr Y (Ef 0 Y Y Y Y (AJu H z) ?_);rintro N _ _ _ ⟨y,a,k,rfl,rfl⟩;have y:=y.symm;subst y;refine yz Y (Ef 0 Y Y Y Y (YG (CH xs) (λcs e=>by subst e;exact(T9 ⟨_,Y,by kernel_rfl,by kernel_rfl⟩ Tryz.slices_Sort_int Tryz.slices_Sort_int_none ox))) ?_);rintro N _ _ _ ⟨rfl,y,rfl⟩;have y:=y.symm;subst y;refine⟨_,Y,?_⟩;refine Yr.ret Y ?_;dsimp only;exact OV.at 0 Y ⟨Y,a,k,Y,Y⟩
theorem AO0(l:List Int):(Fx l).length=l.length:=by simp[Fx]
theorem Zn{v:Value}(X:ADL Tryz.prog V v xs)(N:xs.length*8<=140737488355328):Sp 91 [v] V (λV' r=>∃(a:AA Addr)(k:Nat),r=vL a (EN (Fx xs)) k/\AK (CD .i64) V' a k (EN (Fx xs))):=by
 refine se Tryz.func91 ?_;refine Yr.Eh 3 1 Y ?_;refine Ef 0 Y Y Y Y (ALs X N) ?_;rintro Z _ _ _ ⟨y,a,k,rfl,rfl⟩;have y:=y.symm;subst y;refine yz Y (Ef 0 Y Y Y Y (S8 (CH (Fx xs)) (λcs e=>by subst e;exact(Qs ⟨_,Y,by kernel_rfl,by kernel_rfl⟩ Tryz.slices_Compact_int Tryz.slices_Compact_int_empty))) ?_);rintro Z _ _ _ ⟨rfl,y,rfl⟩;have y:=y.symm;subst y;refine⟨_,Y,?_⟩;have O:AF (CD .i64) V (EN (Fx xs)) ((EN (Fx xs)).map (Value.int .i64)):=CH _;refine Yr.QY 0 Y (λaa z H K=>?_);have W:=BV O z H K;exact rY
def XG(y:AI)(z:List (List A9)):AA (List Int):=H6 y z.flatten
theorem AFw(K:AI)(H:List (List A9)){a2:AA Addr}{a4:AA Addr}(h2:AK BS V a2 y K.AG)(h4:AK (cSl Bf) V a4 z H)(N:H.length<9223372036854775807)(O:∀l∈H,l.length<9223372036854775807)(U:XG K H=some xs):Sp 92 [vA (S2 K a2 y),vL a4 H z] V (λV' v=>ADL Tryz.prog V' v xs):=by
 refine se Tryz.func92 ?_;refine xr Y (HZ 0 Y Y Y Y (λ_=>Y) (λ_=>Y) (λV4 b4 ab W=>?_));refine HZ 1 Y Y Y Y (λ_=>Y) (λ_=>Y) (λV5 b5 X Z=>?_);have aa:=Bi.mono W X;refine Fe Y Y ?_;refine Yr.ret Y ⟨_,_,Y,λargs w=>?_,λw hw=>AJt H K tu Z tu aa N O U w hw⟩;exact enters_of Tryz.func131 kz Y args w
def KF(z:AI)(y:AV):AA (List Int):=
 Az (KE z y) λH=>cond (!H) (some []) (cond y.G7 (FD z)
  (Ba (y.Am.length+y.AX.length<=17592186044416) (Az (XG z [y.Am,y.AX]) λK=>some (EN (Fx K)))))
theorem Sw{z:AI}:∀{l:List A9}{r:List Int},H6 z l=some r->r.length=l.length
 |[],r,h=>by obtain rfl:=Bt h;rfl
 |k::l,r,h=>by
  simp only[H6]at h;have⟨y,K,h⟩:=AO h;have⟨q,H,h⟩:=AO h;obtain rfl:=Bt h;simp[Sw H]
theorem PU(O:AI)(H:AV){a2:AA Addr}{a4:AA Addr}{a5:AA Addr}(h2:AK BS V a2 y O.AG)(h4:AK Bf V a4 z H.Am)(h5:AK Bf V a5 N H.AX){r:List Int}(U:KF O H=some r):Sp 54 [vA (S2 O a2 y),vA (gv8 H a4 z a5 N)] V (λV' v=>∃W Yg,v=vL W r Yg/\AK (CD .i64) V' W Yg r):=by
 refine se Tryz.func54 ?_;refine Yr.cb U Y (PT O H h2 h4 h5) λx6 U=>?_;refine i1 U λhb U=>?_;refine B4 U Y (λ_ U=>?_) λ_ U=>?_
 ·refine Yr.call Y (Ja O h2 U) ?_;rintro Z _ K ⟨_,_,rfl,_⟩;exact rE
 ·have⟨_,U⟩:=AL U;have⟨_,X,U⟩:=AO U;refine xr Y (X8 Aa Y Y Y Y Y (λZ a9 K aa=>?_));have h9:AK (cSl Bf) Z (some a9) 2 ([H.Am,H.AX]:List (List A9)):=BV (c:=(cSl Bf)) (V:=Z) (cs:=[vL a4 H.Am z,vL a5 H.AX N]) ⟨_,_,Y,⟨_,_,Y,(AK.mono h4 K)⟩,⟨_,_,Y,⟨_,_,Y,(AK.mono h5 K)⟩,Y⟩⟩ (DI.refl _) (λ_=>aa) zp;refine Yr.call Y (AFw O [H.Am,H.AX] tu h9 zp (by simp;omega) X) ?_;rintro _ _ _ ab;refine Yr.call Y (Zn ab (by have:=Sw X;simp at this;omega)) ?_;rintro _ _ _ ⟨_,_,rfl,_⟩;exact rt
end
def QR(V:AM)(z:List HG)(y:List Be)(rows:List OB):Prop:=
 z.length=y.length/\rows.length=y.length/\∀(i:Nat)h q o,z[i]? =some h->y[i]? =some q->rows[i]? =some o->
  h.Key=q.Key/\h.DR.n=q.DR.length/\∃cs,o=.row (.slice h.DR.a h.DR.n h.DR.k) cs 173 2/\AF BX V q.DR cs
theorem QR.mono(h:QR V ae ax X)(hv:DI V V'):QR V' ae ax X:=
 ⟨h.1,h.2.1,λi x q o h1 h2 h3=>by
  have⟨a,b,cs,c,d⟩:=h.2.2 i x q o h1 h2 h3;exact⟨a,b,cs,c,d.mono hv⟩⟩
theorem QR.nil:QR V [] [] []:=⟨Y,Y,λi h q o h1=>by simp at h1⟩
theorem QR.ins(h:QR V ae ax X)(hj:j<=ax.length){key:A9}{l:List A1}{a:AA Addr}{k:Nat}(Z:AF BX V l cs):QR V (ae.take j++[⟨key,⟨a,l.length,k⟩⟩]++ae.drop j) (ax.take j++[⟨key,l⟩]++ax.drop j) (X.take j++[.row (vL a l k) cs 173 2]++X.drop j):=by
 have⟨_,_,h3⟩:=h;refine⟨by simp;omega,by simp;omega,λi x q o y z H=>?_⟩;rw[CZ]at y z H;have N:(ae.take j).length=j:=by simp;omega
 have O:(ax.take j).length=j:=by simp;omega
 have W:(X.take j).length=j:=by simp;omega
 rcases H0 i j with K|rfl|_
 ·rw[Pr ox,List.getElem?_take_of_lt K]at y z H;exact h3 i x q o y z H
 ·rw[E4 ox]at y z H;simp only[N,O,W,Vd,Ik,AAC,AE]at y z H;subst y;subst z;subst H;exact⟨Y,Y,cs,Y,Z⟩
 ·rw[E4 ox]at y z H;simp only[N,O,W]at y z H;obtain⟨m,hm⟩:∃m,i-j=m+1:=⟨i-j-1,by omega⟩;simp only[hm,Ik,RH,DT]at y z H;exact h3 _ x q o y z H
theorem QR.snoc(h:QR V ae ax X){key:A9}{l:List A1}{a:AA Addr}{k:Nat}(y:AF BX V l cs):QR V (ae++[⟨key,⟨a,l.length,k⟩⟩]) (ax++[⟨key,l⟩]) (X++[.row (vL a l k) cs 173 2]):=by
 have:=h.ins (j:=ax.length) (Nat.le_refl _) (key:=key) (a:=a) (k:=k) y;rw[<- h.1,Kr,Gf,h.1,Kr,Gf,<- h.2.1,Kr,Gf]at this;simpa using this
theorem QR.set(h:QR V ae ax X){key:A9}{l:List A1}{a:AA Addr}{k:Nat}(N:AF BX V l cs):QR V (ae.set j ⟨key,⟨a,l.length,k⟩⟩) (ax.set j ⟨key,l⟩) (X.set j (.row (vL a l k) cs 173 2)):=by
 have⟨h1,h2,h3⟩:=h;refine⟨by simpa using h1,by simpa using h2,λi x q o y z H=>?_⟩;rw[H2]at y z H;by_cases K:j=i
 ·subst K;simp only[IW]at y z H;split at y<;>simp at y;split at z<;>simp at z;split at H<;>simp at H;subst y;subst z;subst H;exact⟨Y,Y,cs,Y,N⟩
 ·rw[if_neg K]at y z H;exact h3 i x q o y z H
theorem QR.APR(h:QR V ae ax X):∀o∈X,∃a n c cs e sz,o=.row (.slice a n c) cs e sz:=by
 intro o y;have⟨i,hi⟩:=CC.1 y;have z:=(As.1 hi).1;have⟨_,_,h3⟩:=h;obtain⟨_,_,cs,rfl,_⟩:=h3 i _ _ o (List.getElem?_eq_getElem (show i<ae.length by omega)) (List.getElem?_eq_getElem (show i<ax.length by omega)) hi;exact⟨_,_,_,_,_,_,Y⟩
theorem QR.open(h:QR V ae ax X){a:AA Addr}{k:Nat}(O:AF Jy V ae ds)(W:ds≠[]->Bi V a 0 ds)(Z:ae.length<=k)(y:∀(a:AA Addr)(n c:Nat)(cs:List Value)(e sz:Nat),OB.row (.slice a n c) cs e sz∈X->(cs≠[]->Bi V a 0 cs)/\n<=c):AK Cy V a k ax:=by
 have⟨_,_,h3⟩:=h;have hS:=BV O (DI.refl V) W Z;refine⟨by omega,λi q z=>?_⟩;have hi:i<ax.length:=(As.1 z).1;obtain⟨x,H⟩:∃x,ae[i]? =some x:=⟨_,List.getElem?_eq_getElem ox⟩;obtain⟨o,K⟩:∃o,X[i]? =some o:=⟨_,List.getElem?_eq_getElem ox⟩;obtain⟨g1,g2,cs,rfl,g4⟩:=h3 i x q o H z K;obtain⟨_,rfl,N⟩:=hS.2 i x H;have⟨g7,_⟩:=y _ _ _ _ _ _ (BP K);refine⟨_,⟨x.DR.a,x.DR.k,Y,BV g4 (DI.refl V) g7 ox⟩,?_⟩;rw[g1,g2]at N;exact N
def GH(y:BG):Nat->List Be->Int->AA (List Be)
 |0,_,_=>none|n+1,out,i=>cond (decide (i<(y.Af.length:Int))) (Ba (0<=i/\i<(y.Af.length:Int)) (Az (GG (AN y.Af i).DR) λc=>
  Ba ((out++[(⟨(AN y.Af i).Key,c⟩:Be)]).length*40<=140737488355328) (GH y n (out++[⟨(AN y.Af i).Key,c⟩]) (AB (i+1))))) (some out)
def K7(y:BG):AA BG:=
 Az (GG y.BM) λg=>Az (GH y ((y.Af.length:Int).toNat+1) [] 0) λz=>some ⟨g,z⟩
theorem ANR(K:BG){a2:AA Addr}{a3:AA Addr}(h2:AK BX V a2 y K.BM)(h3:AK Cy V a3 z K.Af){r:BG}(U:K7 K=some r):Sx 97 [vA (gv9 K a2 y a3 z)] [.row (.slice none 0 0) [] 173 2,.row (.slice none 0 0) [] 218 2,.ext (C2 [])] V (λV' e M'=>∃v,e=.returned v/\∃a k cs H b N ds rows,M'=[.row (vL a r.BM k) cs 173 2,.row (vL b H N) ds 218 2,.ext (C2 rows)]/\AF BX V' r.BM cs/\AF Jy V' H ds/\QR V' H r.Af rows/\v=.agg ⟨[vL a r.BM k,vL b H N]⟩):=by
 have⟨g,hg,U⟩:=AO U;have⟨qs,hq,U⟩:=AO U;cases U;refine sx Tryz.func97 ?_;refine xr Y (Mb 0 Y Y Y Y (ABZ K.BM h2 hg) ?_);rintro _ a k cs X hc;refine⟨_,Y,?_⟩;have h3:=AK.mono h3 X;refine AD.run Aa 12 Y ?_;refine IE (λL' V' M'=>∃H b N ds rows,L'=[(2,.ptr 4 0),(3,.ptr 5 0)]/\M'=[.row (vL a g k) cs 173 2,.row (vL b H N) ds 218 2,.ext (C2 rows),.Bp (ACE K a2 y a3 z) 93,.Bp [.v (.slice none 0 0),.v (.slice none 0 0)] 93,.Bp [sL a g k,sL b H N] 93]/\
  AF BX V' g cs/\AF Jy V' H ds/\QR V' H qs rows) Y ?_ ?_
 ·rintro L' V' M' ⟨H,b,N,ds,rows,rfl,rfl,h4,h5,Z⟩;exact rE
 ·refine AD.run Aa 400 Y ?_;refine AD.loop (λn L' V' M'=>∃(i:Int)(out:List Be)(H:List HG)(b:AA Addr)(N:Nat)(ds:List Value)(rows:List OB),L'=[(1,.ptr 3 0),(2,.ptr 4 0),(3,.ptr 5 0),(11,sL a3 K.Af z),(12,sN K.Af),(13,sI i)]/\
   M'=[.row (vL a g k) cs 173 2,.row (vL b H N) ds 218 2,.ext (C2 rows),.Bp (ACE K a2 y a3 z) 93,.Bp [.v (.slice none 0 0),.v (.slice none 0 0)] 93,.Bp [sL a g k,sL b H N] 93]/\
   AF BX V' g cs/\AF Jy V' H ds/\QR V' H out rows/\AK Cy V' a3 z K.Af/\GH K n out i=some qs)
   ⟨_,[(1,.ptr 3 0),(2,.ptr 4 0),(3,.ptr 5 0),(11,sL a3 K.Af z),(12,sN K.Af),(13,sI 0)],⟨Y,Y,Y,Y,Y,Y,Yt⟩,0,[],[],none,0,[],[],Y,Y,hc,AF.nil,QR.nil,h3,hq⟩ ?_
  rintro n L' _ M' ⟨i,out,H,b,N,ds,rows,rfl,rfl,h4,h5,Z,h7,U⟩;rcases n with _|n
  ·exact absurd U (by simp[GH])
  refine xr Y ?_;rcases CV U with⟨hb,U⟩|⟨hb,U⟩
  ·refine CT Y hb ?_;have⟨q1,U⟩:=AL U;have⟨_,aa,W⟩:=AK.get h7 q1;obtain⟨a4,k4,rfl,h8⟩:=aa;refine Yr.ia Y ⟨q1.1,q1.2,W.some⟩ (Yr.ld (x:=vA (AMw (AN K.Af i) a4 k4)) Y W Y (Yr.DU (pm 12 0 63) Y ?_));have⟨c,ab,U⟩:=AO U;refine Yr.Eh 173 2 Y ?_;refine Mb 7 Y Y Y Y (ABZ _ h8 ab) ?_;rintro V3 a5 k5 _ O h9;refine⟨_,Y,?_⟩;refine Yr.RV Y ?_;have⟨q2,U⟩:=AL U;refine Yr.app (nm:=(H++[(⟨(AN K.Af i).Key,⟨a5,c.length,k5⟩⟩:HG)]).length) 1 8 Y zp (λ_ _=>Y) (by have:=Z.1;simp at q2⊢;omega) (λa6 k6=>?_);have ad:AF Jy V3 (H++[(⟨(AN K.Af i).Key,⟨a5,c.length,k5⟩⟩:HG)]) (ds++[vS (AN K.Af i).Key,vL a5 c k5]):=AF.app (AF.mono O h5) ⟨_,_,Y,Y,Y⟩;refine xr Y (Ir [2,7] (AJm Y) Y Y Y Y Y Y ?_);refine Yr.cut 6 [1,2,3,11,12,13] Y ?_;exact Fj ⟨n,CE _,_,_,_,a6,k6,_,_,Y,Y,AF.mono O h4,ad,(Z.mono O).snoc h9,AK.mono h7 O,U⟩
  ·refine CY Y hb ?_;cases U;exact rd
def YK(y:List Be):List HG:=y.map λq=>⟨q.Key,default⟩
theorem AE1:(YK ax).length=ax.length:=by simp[YK]
theorem ABW{x:HG}(h:x.Key=bp.Key)(y:A9):C8 x y=C8 bp y:=by unfold C8;rw[h]
theorem ALh(hl:ae.length=ba.length)(H:∀i:Int,(AN ae i).Key=(AN ba i).Key)(key:A9):BI ae key (λy z=>C8 y z)=BI ba key (λy z=>C8 y z):=by
 have K:∀(J:Int->AA (Int×Bool))n i j,Av ae (λy z=>C8 y z) key J n i j=Av ba (λy z=>C8 y z) key J n i j:=by
  intro J n
  induction n with
  |zero=>intros;rfl|succ n N=>
   intro i j;rw[Av,Av];simp only[hl,N,ABW (H _)]
 have O:∀(c:Bool)i,(cond c (AN ae i) default).Key=(cond c (AN ba i) default).Key:=λc i=>by cases c;rfl;exact H i
 unfold BI;simp only[K,hl,ABW (O _ _)]
theorem AKq{a b b':Value}(h:BE cs off [a,b]):cs.take (off+1)++[b']++cs.drop (off+1+1)=cs.take off++[a,b']++cs.drop (off+2):=by
 have h0:=h 0 a Y;rw[List.take_succ,show cs[off]? =some a from h0];simp
theorem AP6(q:0<=Z/\Z<(n:Int))(h:cs.length=n*2):Z.toNat*2+1+1<=cs.length:=ox
theorem le_toNat{i:Int}(h:0<=i/\i<=(n:Int)):i.toNat<=n:=ox
theorem YM(q:0<=Z/\Z<(n:Int)):0<n:=ox
theorem get_some{α:Type}{l:List α}(h:i<l.length):∃x,l[i]? =some x:=⟨_,List.getElem?_eq_getElem h⟩
theorem lt_toNat{i:Int}(h:0<=i/\i<(n:Int)):i.toNat<n:=ox
theorem YF{α:Type}:∀{l:List α}{i:Nat}{x:α},l[i]? =some x->l=l.take i++[x]++l.drop (i+1)
 |[],i,x,h=>by simp at h
 |a::l,0,x,h=>by simp at h;simp[h]
 |a::l,i+1,x,h=>by
  have:=YF (l:=l) (i:=i) (by simpa using h);simpa using this
theorem ACm{α:Type}{l:List α}{x:α}(h:i<l.length):l.set i x=l.take i++[x]++l.drop (i+1):=by rw[List.set_eq_take_append_cons_drop,if_pos h];simp
theorem AEH{α:Type}[Inhabited α]{l:List α}{i:Int}{x:α}(h:l[i.toNat]? =some x):AN l i=x:=by simp[AN,h]
theorem ABQ{α:Type}[Inhabited α]{l:List α}{i:Int}(h:0<=i/\i<(l.length:Int)):l[i.toNat]? =some (AN l i):=by
 rw[AEH (List.getElem?_eq_getElem (show i.toNat<l.length by omega))];exact List.getElem?_eq_getElem _
theorem QR.key(h:QR V ae ax X)(i:Int):(AN ae i).Key=(AN (YK ax) i).Key:=by
 have⟨_,_,h3⟩:=h;by_cases hi:i.toNat<ax.length
 ·have y:ae[i.toNat]? =some ae[i.toNat]:=List.getElem?_eq_getElem _;have z:ax[i.toNat]? =some ax[i.toNat]:=List.getElem?_eq_getElem _;have H:(YK ax)[i.toNat]? =some ⟨ax[i.toNat].Key,default⟩:=by simp[YK,z]
  rw[AEH y,AEH H];exact(h3 _ _ _ _ y z (List.getElem?_eq_getElem ox)).1
 ·simp[AN,G8 (l:=ae) (i:=i.toNat) ox,G8 (l:=YK ax) (i:=i.toNat) (by rw[AE1];omega)]
def HU(tb:BG)(key:A9)(r:A1):AA BG:=
 Az (BI (YK tb.Af) key (λH K=>C8 H K)) λz=>
 Az (cond z.2 (some tb.Af) (Ba (0<=z.1/\z.1<=(tb.Af.length:Int)) (Ba ((tb.Af.length+1)*40<=140737488355328) (some (tb.Af.take z.1.toNat++[⟨key,[]⟩]++tb.Af.drop z.1.toNat))))) λy=>
 Ba (0<=z.1/\z.1<(y.length:Int)) (Ba (((AN y z.1).DR++[r]).length*16<=140737488355328) (some ⟨tb.BM,y.set z.1.toNat ⟨(AN y z.1).Key,(AN y z.1).DR++[r]⟩⟩))
theorem ANn(tb:BG)(key:A9)(x:A1){b:Nat}{aq:AA Addr}(h1:AF Jy V ae ds)(h2:QR V ae tb.Af X){r:BG}(U:HU tb key x=some r):Sx 98 [.pointer (some ⟨b,0,none⟩),.string ⟨⟨key⟩⟩,.agg ⟨[.int .i64 x.Is,.bool x.Mv]⟩] [.row (vR b) [an,.slice aq ae.length y] 93 2,.row (.slice aq ae.length y) ds 218 2,.ext (C2 X)] V (λV' e M'=>∃v,e=.returned v/\v=.tuple ⟨[]⟩/\∃aq y ae ds X,M'=[.row (vR b) [an,.slice aq ae.length y] 93 2,.row (.slice aq ae.length y) ds 218 2,.ext (C2 X)]/\AF Jy V' ae ds/\QR V' ae r.Af X):=by
 have⟨z,hz,U⟩:=AO U;have⟨N,H,U⟩:=AO U;have⟨q1,U⟩:=AL U;have⟨q2,U⟩:=AL U;cases U;rw[<- ALh (h2.1.trans AE1.symm) h2.key]at hz;refine sx Tryz.func98 ?_;refine Yr.O5 (l:=[.slice aq ae.length y]) 0 Y (Ar Y) Y (xr Y (Wp (.tuple ⟨[.int .i64 z.1,.bool z.2]⟩) Y Y (λV1 hv hl=>HA ae key (λZ y1=>C8 Z y1) (BV h1 hv (hl.row 1 Y).1 (hl.row 1 Y).2) (λV' hv Z y1 r hr=>Xt Z y1 hr) hz) ?_));refine AD.run Aa 12 Y (IE (λL' V' M'=>∃aq y ae ds X,L'=[(0,.v (.pointer (some ⟨b,0,none⟩))),(5,.ptr 3 0),(6,.v (.int .i64 z.1))]/\M'=[.row (vR b) [an,.slice aq ae.length y] 93 2,.row (.slice aq ae.length y) ds 218 2,.ext (C2 X),.Bp [.v (.int .i64 x.Is),.v (.bool x.Mv)] 173]/\AF Jy V' ae ds/\QR V' ae N X) Y ?_ ?_)
 ·rintro L' V1 M' ⟨aq,y,ae,ds,X,rfl,rfl,h3,K⟩;have H:=ABQ q1;have hh:ae[z.1.toNat]? =some (AN ae z.1):=ABQ (by rw[K.1];exact q1);have⟨_,O⟩:=get_some (l:=X) (i:=z.1.toNat) (by rw[K.2.1];exact lt_toNat q1);obtain⟨g1,g2,cs,rfl,g4⟩:=K.2.2 _ _ _ _ hh H O;have aa:=YF O;rw[show C2 X=C2 (X.take z.1.toNat++[.row (.slice (AN ae z.1).DR.a (AN ae z.1).DR.n (AN ae z.1).DR.k) cs 173 2]++X.drop (z.1.toNat+1)) by rw[<- aa]];refine AD.Eh 0 0 Y ?_;refine Ir [2,4] O9 Y Y Y Y Y Y ?_;refine Yr.E2 [18] [4] (pm 19 0 16383) Y ?_;refine Yr.Jw (l:=[.slice aq ae.length y]) 0 Y (Ar Y) (Yr.Jw (l:=[.slice aq ae.length y]) 0 Y (Ar Y) ?_);have q3:0<=z.1/\z.1<(ae.length:Int):=by rw[K.1];exact q1
  obtain⟨_,rfl,hd⟩:=AF.get h3 q3;refine xr Y (CX 1 Y (λra rb rc=>?_));have rs:=rb (YM q3);refine AD.Qp Aa Y Y Y ⟨q3.1,q3.2,rs⟩ ?_;refine xr Y (Hp Aa 1 (x:=.slice (AN ae z.1).DR.a (AN ae z.1).DR.n (AN ae z.1).DR.k) Y Y Y Y ⟨(BE.part hd 1 1 Y),rs⟩ Y Y ?_);refine Yr.RV Y (Yr.app (nm:=((AN N z.1).DR++[x]).length) 4 5 Y (by rw[g2];simp) (λ_ _=>Y) q2 (λa1 k1=>?_));have h5:AF BX V1 ((AN N z.1).DR++[x]) (cs++[.int .i64 x.Is,.bool x.Mv]):=AF.app g4 ⟨_,_,Y,Y,Y⟩;refine Yr.ia Y ⟨q3.1,q3.2,rs⟩ ?_;have h6:=AF.set h3 q3 (x:=(⟨(AN ae z.1).Key,⟨a1,((AN N z.1).DR++[x]).length,k1⟩⟩:HG)) Y;have ab:=AKq hd (b':=.slice a1 ((AN N z.1).DR++[x]).length k1);refine Yr.Zr 1 Y rs (AP6 q3 ra) ab ?_;have h7:=QR.set (key:=(AN ae z.1).Key) (a:=a1) (k:=k1) (j:=z.1.toNat) K h5;refine xr Y (Ir [2,4] (ME Y) Y Y Y Y Y Y ?_);rw[ACm (l:=X) (by rw[K.2.1];exact lt_toNat q1),g1]at h7;rw[g1]at h6;refine AD.SL Aa Y Y ⟨Y,Y,_,Y,Y,aq,y,_,_,_,?_,h6,h7⟩;rw[Cr,g1];rfl
 ·cases W:z.2 with
  |true=>
   rw[W]at H;obtain rfl:=Bt H;refine xr Y (CY Y Y ?_);exact rd
  |false=>
   rw[W]at H;have⟨q3,H⟩:=AL H;have⟨q4,H⟩:=AL H;obtain rfl:=Bt H;refine xr Y (CT Y Y ?_);refine Yr.O5 (l:=[.slice aq ae.length y]) 0 Y (Ar Y) Y (Yr.RV Y (xr Y (Fh 4 (n:=1) (sz:=2) Y Y Y Y Y (λ_=>Y) (λ_=>Y) (λ_=>Y) (λb1=>?_))));have hy:AF Jy V [(⟨key,⟨none,0,0⟩⟩:HG)] [.string ⟨⟨key⟩⟩,.slice none 0 0]:=⟨_,_,Y,Y,Y⟩;refine Le [1,4] Y Y Y (by rfl) Y Y (Kn ae ⟨key,⟨none,0,0⟩⟩ h1 hy (i:=z.1) (by rw[h2.1];exact q3) (by rw[h2.1];exact q4)) ?_;rintro V1 _ _ ad ⟨a1,k1,af,_,rfl,rfl,h3⟩;refine⟨_,Y,?_⟩;refine Yr.P6 0 Y (Ae Y) (Yr.Eh 173 2 Y ?_);rw[show C2 X=C2 (X.take z.1.toNat++X.drop z.1.toNat) by rw[Dq]];refine Ir [2,5] (ME (B:=[.row (.slice none 0 0) [] 173 2]) Y) Y Y Y Y Y Y ?_;refine Yr.cut 4 [0,5,6] Y ?_;exact Fj ⟨a1,k1,_,af,X.take z.1.toNat++[.row (.slice none 0 0) [] 173 2]++X.drop z.1.toNat,Y,Y,h3,(h2.mono ad).ins (l:=[]) (a:=none) (k:=0) (cs:=[]) (le_toNat q3) AF.nil⟩
def EO(txn:Int)(ws:List A9):Nat->BG->Int->AA BG
 |0,_,_=>none|n+1,tb,i=>cond (decide (i<(ws.length:Int))) (Ba (0<=i/\i<(ws.length:Int)) (Az (HU tb (AN ws i) ⟨txn,true⟩) λy=>EO txn ws n y (AB (i+1)))) (some tb)
def EP(txn:Int)(ws rs:List A9):Nat->BG->Int->AA BG
 |0,_,_=>none|n+1,tb,i=>cond (decide (i<(rs.length:Int))) (Ba (0<=i/\i<(rs.length:Int)) (Az (CP ws (AN rs i)) λc=>
  Az (cond (!c) (HU tb (AN rs i) ⟨txn,false⟩) (some tb)) λy=>EP txn ws rs n y (AB (i+1)))) (some tb)
def IA(y:BG)(H:Int)(z:AV):AA (BG×Int):=
 Az (Hw y) λN=>Az (CG ((!N)==false) (FF z)) λO=>cond (((!N)||(!O))||(decide (H<0))) (some ((⟨[],[]⟩:BG),1))
  (Az (FE y.BM H) λK=>cond (decide (0<=K)) (some ((⟨[],[]⟩:BG),8))
   (Ba (((decide (0<(y.BM.length:Int)))==true)=true->0<=(AB ((y.BM.length:Int)-1))/\(AB ((y.BM.length:Int)-1))<(y.BM.length:Int))
    (cond ((decide (0<(y.BM.length:Int)))&&(decide (H<(cond ((decide (0<(y.BM.length:Int)))==true) (AN y.BM (AB ((y.BM.length:Int)-1))) default).Is))) (some ((⟨[],[]⟩:BG),16))
     (Az (K7 y) λc=>Ba ((c.BM++[(⟨H,z.G7⟩:A1)]).length*16<=140737488355328)
      (Az (EO H z.AX ((z.AX.length:Int).toNat+1) ⟨c.BM++[⟨H,z.G7⟩],c.Af⟩ 0) λd=>
       Az (EP H z.AX z.Am ((z.Am.length:Int).toNat+1) d 0) λe=>some (e,0))))))
abbrev rqM(a2:AA Addr)(k2:Nat)(a3:AA Addr)(k3:Nat)(z:BG)(a6:AA Addr)(k6:Nat)(a7:AA Addr)(k7:Nat)(y:AV)(a1:AA Addr)(k1:Nat)(gl:List A1)(gs:List Value)(b:Nat)(aq:AA Addr)(kq:Nat)(H:List HG)(ds:List Value)(rows:List OB):List OB:=
 [.Bp [.v (.slice a2 z.BM.length k2),.v (.slice a3 z.Af.length k3)] 93,.Bp [.v (.bool y.G7),.v (.slice a6 y.Am.length k6),.v (.slice a7 y.AX.length k7)] 130,.Bp [.v (.slice none 0 0),.v (.slice none 0 0)] 93,.row (.slice a1 gl.length k1) gs 173 2,
  .row (.slice aq H.length kq) ds 218 2,.ext (C2 rows),.row (.slice (some ⟨b,0,none⟩) 1 1) [.slice a1 gl.length k1,.slice aq H.length kq] 93 2]
theorem Zm{r:BG}{key:A9}{x:A1}(h:HU tb key x=some r):r.BM=tb.BM:=by
 unfold HU at h;have⟨_,_,h⟩:=AO h;have⟨_,_,h⟩:=AO h;have⟨_,h⟩:=AL h;have⟨_,h⟩:=AL h;obtain rfl:=Bt h;rfl
theorem ZN{txn:Int}{ws:List A9}:∀{n:Nat}{tb r:BG}{i:Int},EO txn ws n tb i=some r->r.BM=tb.BM
 |0,_,_,_,h=>by simp[EO]at h
 |n+1,tb,r,i,h=>by
  rw[EO]at h;rcases CV h with⟨_,h⟩|⟨_,h⟩
  ·have⟨_,h⟩:=AL h;have⟨t,h1,h⟩:=AO h;exact(ZN h).trans (Zm h1)
  ·obtain rfl:=Bt h;rfl
theorem ZO{txn:Int}{ws rs:List A9}:∀{n:Nat}{tb r:BG}{i:Int},EP txn ws rs n tb i=some r->r.BM=tb.BM
 |0,_,_,_,h=>by simp[EP]at h
 |n+1,tb,r,i,h=>by
  rw[EP]at h;rcases CV h with⟨_,h⟩|⟨_,h⟩
  ·have⟨_,h⟩:=AL h;have⟨c,_,h⟩:=AO h;have⟨t,h1,h⟩:=AO h;refine(ZO h).trans ?_;rcases CV h1 with⟨_,h1⟩|⟨_,h1⟩
   ·exact Zm h1
   ·obtain rfl:=Bt h1;rfl
  ·obtain rfl:=Bt h;rfl
theorem VO(x1:BG)(Z:Int)(H:AV){a2:AA Addr}{a3:AA Addr}{a6:AA Addr}{a7:AA Addr}(h2:AK BX V a2 y x1.BM)(h3:AK Cy V a3 z x1.Af)(h6:AK Bf V a6 N H.Am)(h7:AK Bf V a7 W H.AX){r:BG×Int}(U:IA x1 Z H=some r):Sp 57 [vA (gv9 x1 a2 y a3 z),vI Z,vA (gv8 H a6 N a7 W)] V (λV' v=>∃aj ak al an,v=.tuple ⟨[vA (gv9 r.1 aj ak al an),vI (r.2)]⟩/\AK BX V' aj ak r.1.BM/\AK Cy V' al an r.1.Af):=by
 refine se Tryz.func57 ?_;refine Yr.cb U Y (OO x1 h2 h3) λx8 U=>?_;refine Gj U Y (Jc H h6 h7) λx9 U=>?_;refine xr Y ?_;rcases CV U with⟨hb,U⟩|⟨hb,U⟩
 ·refine CT Y hb ?_;exact rt
 refine CY Y hb ?_;refine Yr.cb U Y (Jb x1.BM Z h2) λaH U=>?_;refine xr Y ?_;rcases CV U with⟨hb,U⟩|⟨hb,U⟩
 ·refine CT Y hb ?_;exact rt
 refine CY Y hb ?_;have⟨af,U⟩:=AL U;obtain⟨_,rfl,ae⟩:=AK.OG ((decide (0<(x1.BM.length:Int)))==true) h2 af;refine Yr.ia Y (λaa=>⟨(af (Bv aa)).1,(af (Bv aa)).2,(ae (Bv aa)).some⟩) (Yr.ld (x:=vI ((cond ((decide (0<(x1.BM.length:Int)))==true) (AN x1.BM (AB ((x1.BM.length:Int)-1))) default).Is)) Y (λaa=>(Bi.part (ae (Bv aa)) 0 1 Y)) Y (xr Y ?_));rcases CV U with⟨hb,U⟩|⟨hb,U⟩
 ·refine CT Y hb ?_;exact rt
 refine CY Y hb ?_;have⟨c,hc,U⟩:=AO U;have⟨ao,U⟩:=AL U;have⟨d,K,U⟩:=AO U;have⟨e,he,U⟩:=AO U;cases U;refine Yr.Eh 173 2 Y ?_;refine AD.Eh 218 2 Y ?_;refine AGN Y ?_;refine I7 [3,4,5] Y Y Y Y Y Y (ANR x1 h2 h3 hc) ?_;rintro V1 _ _ ar ⟨_,_,gs,O,aq,kq,ds,rows,rfl,h8,h9,X,rfl⟩;refine⟨_,Y,?_⟩;have h6:=AK.mono h6 ar;have h7:=AK.mono h7 ar;refine xr Y (Fh 6 (n:=1) (sz:=2) Y Y Y Y Y (λ_=>Y) (λ_=>Y) (λ_=>Y) (λb=>?_));refine AD.RV Aa Y Y ?_;refine Yr.app (nm:=(c.BM++[(⟨Z,H.G7⟩:A1)]).length) 3 7 Y zp (λ_ _=>Y) ao (λa1 k1=>?_);have h8:AF BX V1 (c.BM++[⟨Z,H.G7⟩]) (gs++[vI Z,vB H.G7]):=AF.app h8 ⟨_,_,Y,Y,Y⟩;refine Yr.P6 6 Y (Ae Y) ?_;obtain⟨gl,au⟩:∃gl,gl=c.BM++[(⟨Z,H.G7⟩:A1)]:=⟨_,Y⟩;rw[<- au]at K h8 ao;rw[<- au];obtain⟨M0,_⟩:∃M0:List OB,M0=[.Bp (ACE x1 a2 y a3 z) 93]:=⟨_,Y⟩;refine AD.run Aa 9 Y ?_;refine IE (λL' V' M'=>∃aq kq O ds rows,L'=[(1,sI Z),(5,.ptr 1 0),(6,.ptr 2 0),(8,sP b)]/\M'=rqM a2 y a3 z x1 a6 N a7 W H a1 k1 gl (gs++[vI Z,vB H.G7]) b aq kq O ds rows/\
  AF BX V' gl (gs++[vI Z,vB H.G7])/\AF Jy V' O ds/\QR V' O d.Af rows/\AK Bf V' a6 N H.Am/\AK Bf V' a7 W H.AX) Y ?_ ?_
 ·rintro L' V2 M' ⟨aq,kq,O,ds,rows,rfl,rfl,h8,h9,X,h6,h7⟩;refine AD.run Aa 8 Y ?_;refine IE (λL' V' M'=>∃aq kq O ds rows,L'=[(6,.ptr 2 0),(8,sP b)]/\M'=rqM a2 y a3 z x1 a6 N a7 W H a1 k1 gl (gs++[vI Z,vB H.G7]) b aq kq O ds rows/\
   AF BX V' gl (gs++[vI Z,vB H.G7])/\AF Jy V' O ds/\QR V' O e.Af rows) Y ?_ ?_
  ·rintro L' V3 M' ⟨aq,kq,O,ds,rows,rfl,rfl,h8,h9,X⟩;refine Yr.O5 (l:=[vL a1 gl k1,vL aq O kq]) 6 Y (λj v hj=>by simpa using hj) Y (Yr.QY 3 Y (λV4 ag aw ax=>?_));have ay:=BV h8 ag aw ax;refine AD.Eh 0 0 Y ?_;refine AGM 5 7 (by decide) Y Y rows Y Y ?_ (λV5 ah av=>?_)
   ·exact X.APR
   refine AD.QY 4 Y Y Y (λV6 ad az a8=>?_);have hq:=(X.mono (ag.trans (ah.trans ad))).open (h9.mono (ag.trans (ah.trans ad))) az a8 (λa n c cs e sz hm=>⟨λaA=>((av a n c cs e sz hm).1 aA).mono ad,(av a n c cs e sz hm).2⟩);have aB:gl=e.BM:=((ZO he).trans (ZN K)).symm;subst aB;exact Y.ret Y ⟨_,_,_,_,(by simp[UC,X.1]),AK.mono ay (ah.trans ad),hq⟩
  ·refine AD.run Aa 400 Y ?_;refine AD.loop (λn L' V' M'=>∃(i:Int)(tb:BG)(aq:AA Addr)(kq:Nat)(O:List HG)(ds:List Value)(rows:List OB),L'=[(1,sI Z),(5,.ptr 1 0),(6,.ptr 2 0),(8,sP b),(77,sL a6 H.Am N),(78,sN H.Am),(79,sI i)]/\M'=rqM a2 y a3 z x1 a6 N a7 W H a1 k1 gl (gs++[vI Z,vB H.G7]) b aq kq O ds rows/\
    AF BX V' gl (gs++[vI Z,vB H.G7])/\AF Jy V' O ds/\QR V' O tb.Af rows/\AK Bf V' a6 N H.Am/\AK Bf V' a7 W H.AX/\EP Z H.AX H.Am n tb i=some e)
    ⟨_,[(1,sI Z),(5,.ptr 1 0),(6,.ptr 2 0),(8,sP b),(77,sL a6 H.Am N),(78,sN H.Am),(79,sI 0)],⟨Y,Y,Y,Y,Y,Y,Y,Yt⟩,0,d,aq,kq,O,ds,rows,Y,Y,h8,h9,X,h6,h7,he⟩ ?_
   rintro n L' V2 M' ⟨i,tb,aq,kq,O,ds,rows,rfl,rfl,h8,h9,X,h6,h7,K⟩;rcases n with _|n
   ·exact absurd K (by simp[EP])
   rw[EP]at K;refine xr Y ?_;rcases CV K with⟨hb,K⟩|⟨hb,K⟩
   ·refine CT Y hb ?_;have⟨q1,K⟩:=AL K;have⟨cb,aC,K⟩:=AO K;have⟨aD,ht,K⟩:=AO K;obtain⟨_,rfl,ab⟩:=AK.get h6 q1;refine Yr.ia Y ⟨q1.1,q1.2,ab.some⟩ (Yr.ld (x:=vS (AN H.Am i)) Y ab Y (Yr.OJ (vB cb) Y (FQ H.AX (AN H.Am i) h7 aC) (xr Y ?_)));rcases CV ht with⟨ai,ht⟩|⟨ai,ht⟩
    ·refine CT Y ai ?_;refine xr Y (I7 [6,4,5] Y Y Y Y Y Y (ANn tb (AN H.Am i) ⟨Z,false⟩ h9 X ht) ?_);rintro V3 _ _ aE ⟨rfl,aq,kq,O,ds,rows,rfl,aF,aG⟩;refine⟨_,Y,?_⟩;exact rd
    ·refine CY Y ai ?_;obtain rfl:=Bt ht;exact rd
   ·refine CY Y hb ?_;obtain rfl:=Bt K;refine xr Y (AD.round [(6,.ptr 2 0),(8,sP b)] ⟨Y,Y,Yt⟩ ?_);exact⟨aq,kq,O,ds,rows,Y,Y,h8,h9,X⟩
 ·refine AD.run Aa 400 Y (Yr.cut 7 [1,5,6,8,65,66,67] Y ?_);refine AD.loop (λn L' V' M'=>∃(i:Int)(tb:BG)(aq:AA Addr)(kq:Nat)(O:List HG)(ds:List Value)(rows:List OB),L'=[(1,sI Z),(5,.ptr 1 0),(6,.ptr 2 0),(8,sP b),(65,sL a7 H.AX W),(66,sN H.AX),(67,sI i)]/\M'=rqM a2 y a3 z x1 a6 N a7 W H a1 k1 gl (gs++[vI Z,vB H.G7]) b aq kq O ds rows/\
   AF BX V' gl (gs++[vI Z,vB H.G7])/\AF Jy V' O ds/\QR V' O tb.Af rows/\AK Bf V' a6 N H.Am/\AK Bf V' a7 W H.AX/\EO Z H.AX n tb i=some d)
   ⟨_,[(1,sI Z),(5,.ptr 1 0),(6,.ptr 2 0),(8,sP b),(65,sL a7 H.AX W),(66,sN H.AX),(67,sI 0)],⟨Y,Y,Y,Y,Y,Y,Y,Yt⟩,0,⟨gl,c.Af⟩,aq,kq,O,ds,rows,Y,Y,h8,h9,X,h6,h7,K⟩ ?_
  rintro n L' V2 M' ⟨i,tb,aq,kq,O,ds,rows,rfl,rfl,h8,h9,X,h6,h7,K⟩;rcases n with _|n
  ·exact absurd K (by simp[EO])
  rw[EO]at K;refine xr Y ?_;rcases CV K with⟨hb,K⟩|⟨hb,K⟩
  ·refine CT Y hb ?_;have⟨q1,K⟩:=AL K;have⟨aD,ht,K⟩:=AO K;obtain⟨_,rfl,ab⟩:=AK.get h7 q1;refine Yr.ia Y ⟨q1.1,q1.2,ab.some⟩ (Yr.ld (x:=vS (AN H.AX i)) Y ab Y (xr Y (I7 [6,4,5] Y Y Y Y Y Y (ANn tb (AN H.AX i) ⟨Z,true⟩ h9 X ht) ?_)));rintro V3 _ _ aE ⟨rfl,aq,kq,O,ds,rows,rfl,aF,aG⟩;refine⟨_,Y,?_⟩;exact rd
  ·refine CY Y hb ?_;obtain rfl:=Bt K;exact rd
def IB(y:BG)(H:Int):AA Bool:=
 (Az (Hw y) λz=>Az (CG ((z)==true) (FE y.BM H)) λK=>Az (CG ((z&&(decide (0<=K)))==true) (Lx y H)) λN=>some ((z&&(decide (0<=K)))&&((N.length:Int)==0)))
theorem VQ(H:BG)(O:Int){a2:AA Addr}{a3:AA Addr}(h2:AK BX V a2 y H.BM)(h3:AK Cy V a3 z H.Af)(U:IB H O=some r):Sp 59 [vA (gv9 H a2 y a3 z),vI O] V (λ_ v=>v=vB r):=by
 refine se Tryz.func59 ?_;refine Yr.cb U Y (OO H h2 h3) λx5 U=>?_;refine Gj U Y (Jb H.BM O h2) λx6 U=>?_;have⟨W,N,U⟩:=AO U;refine xr Y (ZD (λaa:AA Addr×Nat=>vL aa.1 W (aa.2)) (none,0) (R:=λV' aa=>AK (CD .i64) V' aa.1 aa.2 W) Y Y Y (λK=>(Xs H O h2 h3 (Nq N (Bv K))).mono (λV' _ _ ⟨a8,k8,e1,Z⟩=>⟨⟨a8,k8⟩,e1,Z⟩)) ?_);rintro V9 ⟨a8,k8⟩ _ X;have Z:AK (CD .i64) V9 a8 k8 W:=AHC N (λK=>(X K));exact rt
def Fc(z:List Int)(N:List B3)(O:Int)(W:Int)(H:AA Bool):Nat->Int->AA Bool
 |0,_=>none|X+1,y=>cond (decide (y<(z.length:Int))) (Ba (0<=y/\y<(z.length:Int)) (Az (CK N (λZ=>JE Z O (AN z y) W)) λK=>cond (!K) (some false) (Fc z N O W H X (AB (y+1))))) H
def KI(N:AI)(O:AV)(W:Int)(X:Int)(Z:List B3):AA Bool:=
 (Az (Ct N) λy=>Az (CG ((!y)==false) (FF O)) λH=>cond ((!y)||(!H)) (some false) (Az (KF N O) λz=>jn (some true) (λK=>Fc z Z W X K ((z.length:Int).toNat+1) 0)))
theorem VT(x1:AI)(x3:AV)(x6:Int)(x7:Int)(x8:List B3){a2:AA Addr}{a4:AA Addr}{a5:AA Addr}{a9:AA Addr}(h2:AK BS V a2 y x1.AG)(h4:AK Bf V a4 z x3.Am)(h5:AK Bf V a5 N x3.AX)(h9:AK DO V a9 W x8)(U:KI x1 x3 x6 x7 x8=some r):Sp 63 [vA (S2 x1 a2 y),vA (gv8 x3 a4 z a5 N),vI x6,vI x7,vL a9 x8 W] V (λ_ v=>v=vB r):=by
 refine se Tryz.func63 ?_;refine Yr.cb U Y (Dm x1 h2) λa7 U=>?_;refine Gj U Y (Jc x3 h4 h5) λa8 U=>?_;refine i1 U λhb U=>?_;have⟨K,af,U⟩:=AO U;refine Yr.call Y (PU x1 x3 h2 h4 h5 af) ?_;rintro _ _ _ ⟨ag,Pt,rfl,_⟩;refine sj 3 U Y λau U=>?_;refine xr Y (I6 2 (n:=1) (sz:=1) Y Y Y Y Y (λ_=>Y) (λ_=>Y) (λah=>?_));refine AD.QY 2 Y Y Y (λaA aw ab _=>?_);have ai:=ab zp;refine I6 3 (n:=1) (sz:=1) Y Y Y Y Y (λ_=>Y) (λ_=>Y) (λaj=>?_);refine AD.QY 3 Y Y Y (λaB ak ad _=>?_);have ax:=ad zp;have ay:=Bi.mono ai ak;refine Yr.cut 0 [4,7,8,24,25,26] Y ?_;refine lq (λaa L' V' M'=>∃(H:Int),L'=[(4,sL a9 x8 W),(7,sP ah),(8,sP aj),(24,sL ag K Pt),(25,sN K),(26,sI H)]/\M'=[]/\AK DO V' a9 W x8/\Bi V' (some ⟨ah,0,none⟩) 0 [vI x6]/\Bi V' (some ⟨aj,0,none⟩) 0 [vI x7]/\AK (CD .i64) V' ag Pt K/\Fc K x8 x6 x7 au aa H=some r) Y tu ?_;rintro aa L' _ M' ⟨H,rfl,rfl,_,al,an,ao,U⟩;refine i4 U λhb U=>?_;have⟨O,U⟩:=AL U;obtain⟨_,rfl,X⟩:=AK.get ao O;refine Yr.ia Y ⟨O.1,O.2,X.some⟩ (Yr.ld (x:=vI (AN K H)) Y X Y (xr Y (HZ 0 Y Y Y Y (λ_=>Y) (λ_=>Y) (λaz a1 Z ae=>?_))));have aq:=Bi.mono al Z;have ar:=Bi.mono an Z;refine Fe Y Y ?_;refine Yr.cb U Y (FK x8 (λy0=>JE y0 x6 (AN K H) x7) tu (λV' hv y0 _ r av hr=>by obtain⟨_,_,_,_,rfl,s0,s1⟩:=av;exact Tv y0 x6 (AN K H) x7 s0 s1 (Bi.mono aq hv) (Bi.mono ae hv) (Bi.mono ar hv) hr)) λa6 U=>?_;exact B4 U Y (λ_ U=>rt) λ_ U=>r0
section
open Go.RowKit Go.Proofs
def Od(z:AI)(y:AV):AA (List Int):=
 Az (KE z y) λH=>cond (!H) (some []) (cond y.G7 (FD z)
  (Ba (y.AX.length<=17592186044416) (Az (XG z [y.AX]) λK=>some (EN (Fx K)))))
theorem ABc(K:AI)(H:AV){a2:AA Addr}{a4:AA Addr}{a5:AA Addr}(h2:AK BS V a2 y K.AG)(h4:AK Bf V a4 z H.Am)(h5:AK Bf V a5 N H.AX){r:List Int}(U:Od K H=some r):Sp 93 [vA (S2 K a2 y),vA (gv8 H a4 z a5 N)] V (λV' v=>∃O Yg,v=vL O r Yg/\AK (CD .i64) V' O Yg r):=by
 refine se Tryz.func93 ?_;refine Yr.cb U Y (PT K H h2 h4 h5) λx6 U=>?_;refine i1 U λhb U=>?_;refine B4 U Y (λ_ U=>?_) λ_ U=>?_
 ·refine Yr.call Y (Ja K h2 U) ?_;rintro Z _ W ⟨_,_,rfl,_⟩;exact rE
 ·have⟨_,U⟩:=AL U;have⟨_,X,U⟩:=AO U;refine xr Y (X8 Aa Y Y Y Y Y (λZ a9 W aa=>?_));have h9:AK (cSl Bf) Z (some a9) 1 ([H.AX]:List (List A9)):=BV (c:=(cSl Bf)) (V:=Z) (cs:=[vL a5 H.AX N]) ⟨_,_,Y,⟨_,_,Y,(AK.mono h5 W)⟩,Y⟩ (DI.refl _) (λ_=>aa) zp;refine Yr.call Y (AFw K [H.AX] tu h9 zp (by simp;omega) X) ?_;rintro _ _ _ ab;refine Yr.call Y (Zn ab (by have:=Sw X;simp at this;omega)) ?_;rintro _ _ _ ⟨_,_,rfl,_⟩;exact rt
end
def Io(H:List A9)(W:AI)(X:Int)(Z:(List A9)->AA (List A9)):Nat->(List A9)->Int->AA (List A9)
 |0,_,_=>none|aa+1,z,y=>cond (decide (y<(H.length:Int))) (Ba (0<=y/\y<(H.length:Int)) (Az (Fm W (AN H y)) λN=>jn (λ(O:List A9)=>Io H W X Z aa O (AB (y+1))) (λK=>cond (N==X) (Ba ((z++[(AN H y)]).length*16<=140737488355328) (K (z++[(AN H y)]))) (K z)))) (Z z)
def Ld(z:AI)(y:List A9)(H:Int):AA (List A9):=
 (jn (λ(K:List A9)=>some K) (λN=>Io y z H N ((y.length:Int).toNat+1) ([]:List A9) 0))
theorem Vt(W:AI)(K:List A9)(x5:Int){a2:AA Addr}{a4:AA Addr}(h2:AK BS V a2 y W.AG)(h4:AK Bf V a4 z K){r:List A9}(U:Ld W K x5=some r):Sp 100 [vA (S2 W a2 y),vL a4 K z,vI x5] V (λV' v=>∃ag ah,v=vL ag r ah/\AK Bf V' ag ah r):=by
 unfold Ld at U;refine se Tryz.func100 ?_;refine AD.run Aa 16 Y (AD.Eh 9 1 Y ?_);have h6:AF Bf V ([]:List A9) []:=AF.nil;refine sn U (λJ9 L' V' M'=>∃(x8:List A9),∃a7 k7 ab,L'=[(7,sL a7 x8 k7)]/\M'=[.Bp (Vk W a2 y) 25,.row (vL a7 x8 k7) ab 9 1]/\AF Bf V' x8 ab/\AK BS V' a2 y W.AG/\J9 x8=some r) Y ?_ λJ9 U=>?_
 ·rintro L' _ M' ⟨x8,a7,k7,ab,rfl,rfl,h7,_,U⟩;refine Yr.QY 1 Y (λax ai aj ak=>?_);have aw:=BV h7 ai aj ak;exact ry
 ·refine lq (λal L' V' M'=>∃(N:List A9),∃ad LI O,∃(H:Int),L'=[(2,sI x5),(3,.ptr 0 0),(7,sL ad N LI),(10,sL a4 K z),(11,sN K),(12,sI H)]/\M'=[.Bp (Vk W a2 y) 25,.row (vL ad N LI) O 9 1]/\AF Bf V' N O/\AK Bf V' a4 z K/\AK BS V' a2 y W.AG/\Io K W x5 J9 al N H=some r) Y ⟨_,_,_,_,_,Y,Y,h6,h4,h2,U⟩ ?_;rintro al L' ao M' ⟨N,ad,LI,O,H,rfl,rfl,aq,ar,au,U⟩;refine i4 U λhb U=>?_;have⟨ae,U⟩:=AL U;obtain⟨_,rfl,aa⟩:=AK.get ar ae;refine Yr.ia Y ⟨ae.1,ae.2,aa.some⟩ (Yr.ld (x:=vS (AN K H)) Y aa Y (Yr.cb U Y (Lo W (AN K H) au) λay U=>?_));refine sm U (λan L' V' M'=>∃(X:List A9),∃af k24 Z,L'=[(2,sI x5),(3,.ptr 0 0),(7,sL af X k24),(10,sL a4 K z),(11,sN K),(12,sI H)]/\M'=[.Bp (Vk W a2 y) 25,.row (vL af X k24) Z 9 1]/\AF Bf V' X Z/\AK Bf V' a4 z K/\AK BS V' a2 y W.AG/\an X=some r) Y ?_ λan U=>?_
  ·rintro L' _ M' ⟨X,af,k24,Z,rfl,rfl,_,_,_,U⟩;exact rd
  ·refine i4 U λ_ U=>?_;refine Yr.RV Y ?_;have⟨av,U⟩:=AL U;refine Yr.app (nm:=(N++[(AN K H)]).length) 1 2 Y zp (λ_ _=>Y) av (λaz k30=>?_);have a1:AF Bf ao (N++[(AN K H)]) (O++[vS (AN K H)]):=AF.app aq ⟨_,_,Y,Y,Y⟩;exact r2
abbrev ZM:HH:=⟨.slice none 0 0,[],0,0⟩
def AIh(y:Nat)(z:AM)(s:List AR)(r0 r1 r2:HH):Prop:=
 ∃a k cs,r0=⟨.slice (some ⟨y,0,none⟩) 1 1,[.slice a s.length k],26,1⟩/\r1=⟨.slice a s.length k,cs,62,4⟩/\r2=ZM/\AF Au z s cs
def Ua(s:List AR)(y:AR):AA (List AR):=Ba ((s++[y]).length*48<=140737488355328) (some (s++[y]))
def RX(s:List AR)(y:AR):AA (List AR):=Az (Ix y) λq=>cond (!q) (Ua s y) (some s)
def Yv(s:List AR)(_ y:AR):AA (List AR):=RX s y
theorem AF1(z:Nat):Tk Tryz.prog 149 [vP z] V Hy (AIh z) Ua:=by
 intro V1 hv l r0 r1 r2 y N ⟨a,k,cs,h0,h1,h2,H⟩ K;subst h0;subst h1;subst h2;unfold Ua at K;have⟨q,K⟩:=AL K;obtain rfl:=Bt K;refine Q7.enter (T:=NP) Tryz.func149 Y kz Y Y Y (M:=[.row (vR z) [vL a l k] 26 1,.row (vL a l k) cs 62 4,.row (.slice none 0 0) [] 0 0]) Y ?_;refine xr Y (KM Aa 0 (l:=[vL a l k]) Y Y Y ⟨λj v hv=>by simpa using hv,z,0,Y⟩ Y Y ?_);refine Yr.RV Y (Yr.app (nm:=(l++[y]).length) 1 4 Y zp (λ_ _=>Y) q (λa3 k3=>?_));refine Yr.Zr 0 Y ⟨z,0,Y⟩ (Nat.le_refl _) Y (Yr.SL Y ?_);dsimp only;exact⟨[⟨vR z,[vL a3 (l++[y]) k3],_,1⟩,⟨vL a3 (l++[y]) k3,_,_,4⟩,ZM],Y,Y,Y,_,_,_,Y,a3,k3,_,Y,Y,Y,AF.app H ⟨_,_,Y,Y,Y⟩⟩
theorem AF0(z bk:Nat)(hk:Bi V (some ⟨bk,0,none⟩) 0 [.func (.func 149) #[] ⟨[vP z]⟩]):Tk Tryz.prog 150 [vP bk] V Hy (AIh z) RX:=by
 intro V1 hv l r0 r1 r2 y W ⟨a,k,cs,h0,h1,h2,H⟩ K;have X:=Bi.mono hk hv;subst h0;subst h1;subst h2;unfold RX at K;refine Q7.enter (T:=NP) Tryz.func150 Y kz Y Y Y (M:=[.row (vR z) [vL a l k] 26 1,.row (vL a l k) cs 62 4,.row (.slice none 0 0) [] 0 0]) Y ?_;have⟨q,hq,K⟩:=AO K;refine Yr.OJ (vB q) Y (Ui y hq) (xr Y ?_);rcases CV K with⟨Z,K⟩|⟨Z,K⟩
 ·refine CT Y Z ?_;refine Yr.ld (x:=.func (.func 149) #[] ⟨[vP z]⟩) Y X Y ?_;refine xr Y ?_;refine Le [0,1,2] (rs:=[⟨.slice (some ⟨z,0,none⟩) 1 1,[vL a l k],26,1⟩,⟨vL a l k,cs,62,4⟩,ZM]) Y Y Y Y Y Y
   ((AF1 (V:=V1) z) V1 (DI.refl V1) l _ _ _ y W ⟨a,k,cs,Y,Y,Y,H⟩ K) ?_
  rintro _ _ _ _ ⟨rfl,_,_,_,rfl,a',k',O,rfl,rfl,rfl,N⟩;refine⟨_,Y,?_⟩;refine Yr.SL Y ?_;exact⟨[⟨vR z,[vL a' W k'],_,1⟩,⟨vL a' W k',O,_,4⟩,ZM],Y,Y,Y,_,_,_,Y,a',k',O,Y,Y,Y,N⟩
 ·refine CY Y Z ?_;obtain rfl:=Bt K;refine Yr.SL Y ?_;exact⟨[⟨vR z,[vL a l k],_,1⟩,⟨vL a l k,cs,_,4⟩,ZM],Y,Y,Y,_,_,_,Y,a,k,cs,Y,Y,Y,H⟩
theorem ALv(H O bw:Nat)(hk:Bi V (some ⟨O,0,none⟩) 0 [.func (.func 149) #[] ⟨[vP H]⟩])(hw:Bi V (some ⟨bw,0,none⟩) 0 [.func (.func 150) #[] ⟨[vP O]⟩]):Zq Tryz.prog 151 [vP bw] V Hy Hy (AIh H) Yv:=by
 intro V1 hv l r0 r1 r2 y0 y W ⟨a,k,cs,h0,h1,h2,K⟩ hg;have X:=Bi.mono hk hv;have Z:=Bi.mono hw hv;subst h0;subst h1;subst h2;unfold Yv at hg;refine Q7.enter (T:=NP) Tryz.func151 Y kz Y Y Y (M:=[.row (vR H) [vL a l k] 26 1,.row (vL a l k) cs 62 4,.row (.slice none 0 0) [] 0 0]) Y ?_;refine Yr.ld (x:=.func (.func 150) #[] ⟨[vP O]⟩) Y Z Y ?_;refine xr Y ?_;refine Le [0,1,2] (rs:=[⟨.slice (some ⟨H,0,none⟩) 1 1,[vL a l k],26,1⟩,⟨vL a l k,cs,62,4⟩,ZM]) Y Y Y Y Y Y
  ((AF0 (V:=V1) H O X) V1 (DI.refl V1) l _ _ _ y W ⟨a,k,cs,Y,Y,Y,K⟩ hg) ?_
 rintro _ _ _ _ ⟨rfl,_,_,_,rfl,a',k',N,rfl,rfl,rfl,z⟩;refine⟨_,Y,?_⟩;refine Yr.SL Y ?_;exact⟨[⟨vR H,[vL a' W k'],_,1⟩,⟨vL a' W k',N,_,4⟩,ZM],Y,Y,Y,_,_,_,Y,a',k',N,Y,Y,Y,z⟩
def Nb(y z:List AR):AA (List AR×Int):=
 Az (Fa y) λH=>Az (CG ((!H)==false) (Ke z)) λK=>cond ((!H)||(!K)) (some ([],1))
  (Az (YY y z IY Ua RX Yv []) λs=>some (s,0))
theorem Vs(N:List AR)(O:List AR){a2:AA Addr}{a4:AA Addr}(h2:AK Au V a2 y N)(h4:AK Au V a4 z O){r:List AR×Int}(U:Nb N O=some r):Sp 108 [vL a2 N y,vL a4 O z] V (λV' v=>∃W k22,v=.tuple ⟨[vL W r.1 k22,vI (r.2)]⟩/\AK Au V' W k22 r.1):=by
 refine se Tryz.func108 ?_;refine Yr.cb U Y (Hb N h2) λx5 U=>?_;refine Gj U Y (Uh O h4) λx6 U=>?_;refine i1 U λ_ U=>?_;refine xr Y (Fh 0 (n:=1) (sz:=1) Y Y Y Y Y (λ_=>Y) (λ_=>Y) (λ_=>Y) (λH=>?_));refine Fe Y Y ?_;refine xr Y (HZ 1 Y Y Y Y (λ_=>Y) (λ_=>Y) (λV1 bk X Z=>?_));refine Fe Y Y ?_;refine Yr.ld (x:=.func (.func 149) #[] ⟨[vP H]⟩) Y Z Y (xr Y (HZ 2 Y Y Y Y (λ_=>Y) (λ_=>Y) (λV2 bw K ag=>?_)));have aa:=Bi.mono Z K;refine Fe Y Y ?_;refine AD.Eh 62 4 Y ?_;refine AD.Eh 0 0 Y ?_;have⟨s,hs,U⟩:=AO U;refine Le [0,3,4] (rs:=[⟨vR H,[.slice none 0 0],26,1⟩,⟨.slice none 0 0,[],62,4⟩,ZM]) Y Y Y Y Y Y
  (AIo (rel:=AIh H) N O IY Ua RX Yv ((h2.mono X).mono K) ((h4.mono X).mono K) (λV' hv y0 y1 r hr=>Vq y0 y1 hr) (AF1 H) (AF0 H bk aa) (ALv H bk bw aa ag) (s:=[]) ⟨none,0,[],Y,Y,Y,AF.nil⟩ hs) ?_
 rintro _ _ _ _ ⟨rfl,_,_,_,rfl,a,k,_,rfl,rfl,rfl,ab⟩;refine yz Y (KM Aa 0 (l:=[vL a s k]) Y Y Y ⟨λj v hv=>by simpa using hv,H,0,Y⟩ Y Y ?_);refine Yr.QY 3 Y (λai ad ae af=>?_);have ah:=BV ab ad ae af;exact ry
def Ni(y:D8)(z:A9):AA Bool:=
 (Az (Ly y) λH=>some ((H&&(!Dy z y.BU))&&((y.To==([]:A9))||(Dy z y.To))))
theorem Z5(y:D8)(z:A9)(U:Ni y z=some r):Sp 129 [vA (AMx y),vS z] V (λ_ v=>v=vB r):=by
 refine se Tryz.func129 ?_;refine Yr.cb U Y (Xv y) λH U=>?_;exact rt
variable {o0:Nat} {O:List Value}
def Kk(K:AI)(N:BA)(O:AV):AA Bool:=
 (Az (Ct K) λy=>Az (CG ((y)==true) (FF O)) λH=>Az (CG ((y&&H)==true) (Fa N.BF)) λz=>some ((y&&H)&&z))
theorem SX(K:AI)(O:BA)(H:AV){a2:AA Addr}{a4:AA Addr}{a6:AA Addr}{a7:AA Addr}(h2:AK BS V a2 y K.AG)(X:AK Au V a4 z O.BF)(Z:AK Bf V a6 N H.Am)(h7:AK Bf V a7 W H.AX)(U:Kk K O H=some r):Sp 142 [vA (S2 K a2 y),vA (XV O a4 z),vA (gv8 H a6 N a7 W)] V (λ_ v=>v=vB r):=by
 refine se Tryz.func142 ?_;refine Yr.cb U Y (Dm K h2) λx8 U=>?_;refine Gj U Y (Jc H Z h7) λx9 U=>?_;refine Gj U Y (Hb O.BF X) λaa U=>?_;exact rt
def G4(H:BA)(O:AV)(K:(List AR)->AA (List AR)):Nat->(List AR)->Int->AA (List AR)
 |0,_,_=>none|Z+1,z,y=>cond (decide (y<(H.BF.length:Int))) (Ba (0<=y/\y<(H.BF.length:Int)) (Az (CG ((O.G7)==false) (CP O.Am ((AN H.BF y).Key))) λW=>jn (λ(X:List AR)=>G4 H O K Z X (AB (y+1))) (λN=>cond (O.G7||W) (Ba ((z++[(AN H.BF y)]).length*48<=140737488355328) (N (z++[(AN H.BF y)]))) (N z)))) (K z)
def Mo(N:AI)(y:BA)(K:AV):AA (List AR):=
 (Az (Kk N y K) λO=>cond (!O) (some ([]:List AR)) (jn (λ(z:List AR)=>some z) (λH=>G4 y K H ((y.BF.length:Int).toNat+1) ([]:List AR) 0)))
theorem SY(x1:AI)(K:BA)(X:AV){a2:AA Addr}{a4:AA Addr}{a6:AA Addr}{a7:AA Addr}(h2:AK BS V a2 y x1.AG)(h4:AK Au V a4 z K.BF)(h6:AK Bf V a6 N X.Am)(h7:AK Bf V a7 W X.AX){r:List AR}(U:Mo x1 K X=some r):Sp 143 [vA (S2 x1 a2 y),vA (XV K a4 z),vA (gv8 X a6 N a7 W)] V (λV' v=>∃an ao,v=vL an r ao/\AK Au V' an ao r):=by
 refine se Tryz.func143 ?_;refine Yr.cb U Y (SX x1 K X h2 h4 h6 h7) λx8 U=>?_;refine i1 U λhb U=>?_;refine AD.run Aa 13 Y (AD.Eh 62 4 Y ?_);have h9:AF Au V ([]:List AR) []:=AF.nil;refine sn U (λag L' V' M'=>∃(aa:List AR),∃ah RF ab,L'=[(7,sL ah aa RF)]/\M'=[.Bp (Vk x1 a2 y) 25,.Bp (ACD K a4 z) 66,.Bp (XY X a6 N a7 W) 130,.row (vL ah aa RF) ab 62 4]/\AF Au V' aa ab/\AK BS V' a2 y x1.AG/\AK Au V' a4 z K.BF/\AK Bf V' a6 N X.Am/\AK Bf V' a7 W X.AX/\ag aa=some r) Y ?_ λag U=>?_
 ·rintro L' _ M' ⟨aa,ah,RF,ab,rfl,rfl,ax,_,_,_,_,U⟩;refine Yr.QY 3 Y (λaD aq ar au=>?_);have aB:=BV ax aq ar au;exact ry
 ·refine lq (λav L' V' M'=>∃(H:List AR),∃ai k23 Z,∃(O:Int),L'=[(5,.ptr 2 0),(7,sL ai H k23),(16,sL a4 K.BF z),(17,sN K.BF),(18,sI O)]/\M'=[.Bp (Vk x1 a2 y) 25,.Bp (ACD K a4 z) 66,.Bp (XY X a6 N a7 W) 130,.row (vL ai H k23) Z 62 4]/\AF Au V' H Z/\AK Au V' a4 z K.BF/\AK BS V' a2 y x1.AG/\AK Bf V' a6 N X.Am/\AK Bf V' a7 W X.AX/\G4 K X ag av H O=some r) Y ⟨_,_,_,_,_,Y,Y,h9,h4,h2,h6,h7,U⟩ ?_;rintro av L' ay M' ⟨H,ai,k23,Z,O,rfl,rfl,az,a1,_,a8,_,U⟩;refine i4 U λhb U=>?_;have⟨aj,U⟩:=AL U;obtain⟨_,rfl,af⟩:=AK.get a1 aj;refine Yr.ia Y ⟨aj.1,aj.2,af.some⟩ (Yr.ld (x:=vA (Zv (AN K.BF O))) Y af Y (Gj U Y (FQ X.Am ((AN K.BF O).Key) a8) λaE U=>?_));refine sm U (λaw L' V' M'=>∃(ad:List AR),∃ak al ae,L'=[(5,.ptr 2 0),(7,sL ak ad al),(16,sL a4 K.BF z),(17,sN K.BF),(18,sI O)]/\M'=[.Bp (Vk x1 a2 y) 25,.Bp (ACD K a4 z) 66,.Bp (XY X a6 N a7 W) 130,.row (vL ak ad al) ae 62 4]/\AF Au V' ad ae/\AK Au V' a4 z K.BF/\AK BS V' a2 y x1.AG/\AK Bf V' a6 N X.Am/\AK Bf V' a7 W X.AX/\aw ad=some r) Y ?_ λaw U=>?_
  ·rintro L' _ M' ⟨ad,ak,al,ae,rfl,rfl,_,_,_,_,_,U⟩;exact rd
  ·refine B4 U Y (λ_ U=>?_) λ_ U=>r4;refine Yr.E2 [8] [] (pm 10 0 127) Y ?_;refine xr Y (MZ 3 Y (λ_ aC _ _ _=>?_));refine AJ9 Aa Y Y Y Y Y Y Y Y ⟨by simp[O4],by simp[O4],D6 _,by omega⟩ (q0:=H.length) zp (l':=0) Y (n':=H.length) zp (c':=H.length) zp ?_;refine Yr.RV Y ?_;have⟨aA,U⟩:=AL U;refine xr Y (AL8 Aa 3 5 (nm:=(H++[(AN K.BF O)]).length) Y Y Y Y Y Y Y Y Y zp (λ_ _=>Y) Y aA Y Y (by decide) (λaF aG=>?_));have aH:AF Au ay (H++[(AN K.BF O)]) (Z++(Zv (AN K.BF O))):=AF.app az ⟨_,_,Y,Y,Y⟩;exact r4
def Hj(y:B3)(z:B3):AA Bool:=
 (Az (Nj y z) λH=>some H)
theorem Un(K:B3)(H:B3){a2:AA Addr}{a3:AA Addr}{a5:AA Addr}{a6:AA Addr}(h2:AK Bf V a2 y K.Keys)(h3:AK Au V a3 z K.BF)(X:AK Bf V a5 N H.Keys)(Z:AK Au V a6 W H.BF)(O:Bi V (some ⟨ab,o0,none⟩) 0 (XW H a5 N a6 W))(U:Hj K H=some r):Sp 146 [vA (XW K a2 y a3 z),.pointer (some ⟨ab,o0,none⟩)] V (λ_ v=>v=vB r):=by
 refine se Tryz.func146 ?_;refine Yr.ld (x:=vA (XW H a5 N a6 W)) Y O Y (Yr.cb U Y (Z6 K H h2 h3 X Z) λx7 U=>?_);exact rt
def Ev(K:List BR)(N:Ag->AA (Int×Ag)):Nat->Int->Ag->AA (Int×Ag)
 |0,_,_=>none|W+1,z,y=>cond (decide (z<(K.length:Int))) (Ba (0<=z/\z<(K.length:Int)) (jn (λ(H:Ag)=>Ev K N W (AB (z+1)) (⟨H.Bg,H.loops,H.all⟩:Ag)) (λO=>cond ((AN K z).Op==1) (O (⟨(AA7 ((AN K z).Name) y.Bg),y.loops,y.all⟩:Ag)) (O (⟨y.Bg,y.loops,y.all⟩:Ag))))) (N (⟨y.Bg,y.loops,y.all⟩:Ag))
def Fz(N:List BR)(y:Ag->BR->AA (Int×Ag))(J6:Ag->AA (Int×Ag)):Nat->Int->Ag->AA (Int×Ag)
 |0,_,_=>none|O+1,K,H=>cond (decide (K<(N.length:Int))) (Ba (0<=K/\K<(N.length:Int)) (Az (y (⟨H.Bg,H.loops,H.all⟩:Ag) (AN N K)) λz=>cond (z.1 !=0) (some (z.1,(⟨z.2.Bg,z.2.loops,z.2.all⟩:Ag))) (Fz N y J6 O (AB (K+1)) (⟨z.2.Bg,z.2.loops,z.2.all⟩:Ag)))) (J6 (⟨H.Bg,H.loops,H.all⟩:Ag))
def JA(z:Ag->(List BR)->AA (Int×Ag))(y:Ag->BR->AA (Int×Ag))(K:Ag)(H:List BR):AA (Int×Ag):=
 (jn (λ(N:Ag)=>jn (λ(O:Ag)=>some (0,(⟨O.Bg,O.loops,O.all⟩:Ag))) (λW=>Ev H W ((H.length:Int).toNat+1) 0 (⟨N.Bg,N.loops,N.all⟩:Ag))) (λJ6=>Fz H y J6 ((H.length:Int).toNat+1) 0 (⟨K.Bg,K.loops,K.all⟩:Ag)))
def Fq(g:Ag->(List BR)->AA (Int×Ag)):Prop:=∀{V:AM}(O:Ag)(K:List BR){N y z H:Nat}{W:List OB}{a4:AA Addr}{k4:Nat}(X:Nx V N y z H O W)(Z:AK CN V a4 k4 K){r:Int×Ag},g O K=some r->Sx 211 [vP N,vL a4 K k4] W V (λV' e M'=>Nx V' N y z H r.2 M'/\e=.returned (vI (r.1)))
def Ea(g:Ag->BR->AA (Int×Ag)):Prop:=∀{V:AM}(O:Ag)(y:BR){N z H K:Nat}{W:List OB}{a4:AA Addr}{k4:Nat}{a5:AA Addr}{k5:Nat}{a6:AA Addr}{k6:Nat}{a7:AA Addr}{k7:Nat}(X:Nx V N z H K O W)(Z:AK Br V a4 k4 y.A.Aw)(h5:AK Br V a5 k5 y.B.Aw)(h6:AK CN V a6 k6 y.CU)(h7:AK CN V a7 k7 y.Js){r:Int×Ag},g O y=some r->Sx 230 [vP N,vA (gv5 y a4 k4 a5 k5 a6 k6 a7 k7)] W V (λV' e M'=>Nx V' N z H K r.2 M'/\e=.returned (vI (r.1)))
theorem TO{H:Ag->(List BR)->AA (Int×Ag)}{z:Ag->BR->AA (Int×Ag)}(X:Fq H)(K:Ea z):Fq (JA H z):=by
 intro V x1 Z b2 N O W M2 a4 k4 aw h4 r U;unfold JA at U;obtain⟨rfl,_⟩:=aw;refine sx Tryz.func211 ?_;refine AD.run Aa 11 Y ?_;refine sn U (λJ6 L' V' M'=>∃(x5:Ag),L'=[(0,sP b2),(1,sL a4 Z k4)]/\M'=[.row (vR b2) [.map (some N),.map (some O),.map (some W)] 291 3,.ext (FN (λ(y:Int)=>(vI y:Value)) N x5.Bg),.ext (FN (λ(y:Bool)=>(vB y:Value)) O x5.loops),.ext (FN (λ(y:Int)=>(vI y:Value)) W x5.all)]/\AK CN V' a4 k4 Z/\J6 x5=some r) Y ?_ λJ6 U=>?_
 ·rintro L' _ M' ⟨x5,rfl,rfl,_,U⟩;refine AD.run Aa 7 Y ?_;refine sn U (λai L' V' M'=>∃(x9:Ag),L'=[]/\M'=[.row (vR b2) [.map (some N),.map (some O),.map (some W)] 291 3,.ext (FN (λ(y:Int)=>(vI y:Value)) N x9.Bg),.ext (FN (λ(y:Bool)=>(vB y:Value)) O x9.loops),.ext (FN (λ(y:Int)=>(vI y:Value)) W x9.all)]/\ai x9=some r) Y ?_ λai U=>?_
  ·rintro L' _ M' ⟨x9,rfl,rfl,U⟩;exact rt
  ·refine lq (λal L' V' M'=>∃(ab:Int)(ad:Ag),L'=[(0,sP b2),(23,sL a4 Z k4),(24,sN Z),(25,sI ab)]/\M'=[.row (vR b2) [.map (some N),.map (some O),.map (some W)] 291 3,.ext (FN (λ(y:Int)=>(vI y:Value)) N ad.Bg),.ext (FN (λ(y:Bool)=>(vB y:Value)) O ad.loops),.ext (FN (λ(y:Int)=>(vI y:Value)) W ad.all)]/\AK CN V' a4 k4 Z/\Ev Z ai al ab ad=some r) Y tu ?_;rintro al L' _ M' ⟨ab,ad,rfl,rfl,an,U⟩;refine i4 U λhb U=>?_;have⟨aj,U⟩:=AL U;have⟨_,ao,ag⟩:=AK.get an aj;obtain⟨ax,Rt,ay,k20,az,ZX,a1,k22,rfl,_,_,_,_⟩:=(Jx.1 ao);refine Yr.ia Y ⟨aj.1,aj.2,ag.some⟩ (Yr.ld (x:=vA (gv5 (AN Z ab) ax Rt ay k20 az ZX a1 k22)) Y ag Y ?_);refine sm U (λaq L' V' M'=>∃(ae:Ag),L'=[(0,sP b2),(23,sL a4 Z k4),(24,sN Z),(25,sI ab)]/\M'=[.row (vR b2) [.map (some N),.map (some O),.map (some W)] 291 3,.ext (FN (λ(y:Int)=>(vI y:Value)) N ae.Bg),.ext (FN (λ(y:Bool)=>(vB y:Value)) O ae.loops),.ext (FN (λ(y:Int)=>(vI y:Value)) W ae.all)]/\AK CN V' a4 k4 Z/\aq ae=some r) Y ?_ λaq U=>?_
   ·rintro L' _ M' ⟨ae,rfl,rfl,_,U⟩;exact rd
   ·refine B4 U Y (λ_ U=>?_) λ_ U=>r4;refine Yr.E2 [] [1] (pm 7 0 63) Y ?_;refine Yr.Jw (l:=[.map (some N)]) 0 Y (Ar Y) (xr Y (ABt 1 Y Y Y Y Tryz.underlying275 Tryz.underlying9 Y Y Y Y ?_));exact ADJ 4 Y ⟨_,Y,Y,an,U⟩
 ·refine lq (λar L' V' M'=>∃(af:Int)(aa:Ag),L'=[(0,sP b2),(1,sL a4 Z k4),(10,sL a4 Z k4),(11,sN Z),(12,sI af)]/\M'=[.row (vR b2) [.map (some N),.map (some O),.map (some W)] 291 3,.ext (FN (λ(y:Int)=>(vI y:Value)) N aa.Bg),.ext (FN (λ(y:Bool)=>(vB y:Value)) O aa.loops),.ext (FN (λ(y:Int)=>(vI y:Value)) W aa.all)]/\AK CN V' a4 k4 Z/\Fz Z z J6 ar af aa=some r) Y tu ?_;rintro ar L' _ M' ⟨af,aa,rfl,rfl,a6,U⟩;refine i4 U λhb U=>?_;have⟨ak,U⟩:=AL U;have⟨_,au,ah⟩:=AK.get a6 ak;obtain⟨a7,a8,aA,aB,aC,aD,aE,aF,rfl,aG,aH,aI,aJ⟩:=(Jx.1 au);refine Yr.ia Y ⟨ak.1,ak.2,ah.some⟩ (Yr.ld (x:=vA (gv5 (AN Z af) a7 a8 aA aB aC aD aE aF)) Y ah Y ?_);have⟨_,av,U⟩:=AO U;refine Yr.HT [0,1,2,3] Y (K (⟨aa.Bg,aa.loops,aa.all⟩:Ag) (AN Z af) ⟨Y,Yt⟩ aG aH aI aJ av) ?_;rintro _ _ _ ⟨rfl,_⟩;refine⟨_,Y,?_⟩;exact B4 U Y (λ_ U=>rt) λ_ U=>r4
def JP(y:Ag->(List BR)->AA (Int×Ag))(H:Ag->BR->AA (Int×Ag))(x1:Ag)(K:BR):AA (Int×Ag):=
 (Az (Hc (⟨x1.Bg,x1.loops,x1.all⟩:Ag) K) λz=>cond (z.1.2.2 !=0) (some (z.1.2.2,(⟨z.2.Bg,z.2.loops,z.2.all⟩:Ag))) (jn (λ(Z:Ag)=>some (0,(⟨Z.Bg,Z.loops,Z.all⟩:Ag))) (λO=>cond (K.Op==1) (Az (GQ (⟨z.2.Bg,z.2.loops,z.2.all⟩:Ag) K.Name z.1.1) λaa=>O (⟨aa.2.Bg,aa.2.loops,aa.2.all⟩:Ag)) (cond (K.Op==2) (cond (!((D4 K.Name z.2.Bg).isSome)) (some (11,(⟨z.2.Bg,z.2.loops,z.2.all⟩:Ag))) (cond ((D4 K.Name z.2.loops).getD (default:Bool)) (some (7,(⟨z.2.Bg,z.2.loops,z.2.all⟩:Ag))) (cond (((D4 K.Name z.2.Bg).getD (default:Int)) !=z.1.1) (some (10,(⟨z.2.Bg,z.2.loops,z.2.all⟩:Ag))) (O (⟨z.2.Bg,z.2.loops,z.2.all⟩:Ag))))) (cond (K.Op==3) (cond ((z.1.1 !=2)||(z.1.2.1==3)) (some (10,(⟨z.2.Bg,z.2.loops,z.2.all⟩:Ag))) (O (⟨z.2.Bg,z.2.loops,z.2.all⟩:Ag))) (cond (K.Op==4) (cond (z.1.1 !=2) (some (10,(⟨z.2.Bg,z.2.loops,z.2.all⟩:Ag))) (O (⟨z.2.Bg,z.2.loops,z.2.all⟩:Ag))) (cond (K.Op==7) (cond (z.1.1==3) (some (10,(⟨z.2.Bg,z.2.loops,z.2.all⟩:Ag))) (O (⟨z.2.Bg,z.2.loops,z.2.all⟩:Ag))) (cond (K.Op==5) (cond (z.1.1 !=3) (some (10,(⟨z.2.Bg,z.2.loops,z.2.all⟩:Ag))) (Az (y (⟨z.2.Bg,z.2.loops,z.2.all⟩:Ag) K.CU) λN=>cond (N.1 !=0) (some (N.1,(⟨N.2.Bg,N.2.loops,N.2.all⟩:Ag))) (Az (y (⟨N.2.Bg,N.2.loops,N.2.all⟩:Ag) K.Js) λW=>some (W.1,(⟨W.2.Bg,W.2.loops,W.2.all⟩:Ag))))) (cond (K.Op==6) (cond ((z.1.1 !=1)||(z.1.2.1 !=1)) (some (10,(⟨z.2.Bg,z.2.loops,z.2.all⟩:Ag))) (Az (GQ (⟨z.2.Bg,z.2.loops,z.2.all⟩:Ag) K.Name 1) λab=>Az (y (⟨ab.2.Bg,(NQ K.Name true ab.2.loops),ab.2.all⟩:Ag) K.CU) λX=>some (X.1,(⟨(AA7 K.Name X.2.Bg),X.2.loops,X.2.all⟩:Ag)))) (O (⟨z.2.Bg,z.2.loops,z.2.all⟩:Ag)))))))))))
theorem Q3{K:Ag->(List BR)->AA (Int×Ag)}{H:Ag->BR->AA (Int×Ag)}(z:Fq K)(N:Ea H):Ea (JP K H):=by
 intro V x1 X b2 aa ab af M2 a4 k4 a5 k5 a6 k6 a7 k7 aq h4 h5 h6 h7 r U;obtain⟨rfl,_⟩:=aq;refine sx Tryz.func230 ?_;have⟨O,ar,U⟩:=AO U;refine Yr.HT [0,1,2,3] Y (Rw (⟨x1.Bg,x1.loops,x1.all⟩:Ag) X ⟨Y,Yt⟩ h4 h5 h6 h7 ar) ?_;rintro _ _ _ ⟨rfl,_⟩;refine⟨_,Y,?_⟩;refine i1 U λW U=>?_;refine sm U (λag L' V' M'=>∃(Z:Ag),L'=[]/\M'=[.row (vR b2) [.map (some aa),.map (some ab),.map (some af)] 291 3,.ext (FN (λ(y:Int)=>(vI y:Value)) aa Z.Bg),.ext (FN (λ(y:Bool)=>(vB y:Value)) ab Z.loops),.ext (FN (λ(y:Int)=>(vI y:Value)) af Z.all)]/\ag Z=some r) Y ?_ λag U=>?_
 ·rintro L' _ M' ⟨Z,rfl,rfl,U⟩;exact rt
 ·refine B4 U Y (λ_ U=>?_) λW U=>?_
  ·have⟨_,ah,U⟩:=AO U;refine Yr.HT [0,1,2,3] Y (KT (⟨O.2.Bg,O.2.loops,O.2.all⟩:Ag) X.Name O.1.1 ⟨Y,Yt⟩ ah) ?_;rintro _ _ _ ⟨rfl,_⟩;refine⟨_,Y,?_⟩;exact r4
  ·refine B4 U Y (λW U=>?_) λW U=>?_
   ·refine Yr.DU (pm 12 0 831) Y (Yr.Jw (l:=[.map (some aa)]) 0 Y (Ar Y) ?_);have ai:((D4 X.Name O.2.Bg).map (λ(y:Int)=>(vI y:Value))).getD (vI 0)=vI ((D4 X.Name O.2.Bg).getD (default:Int)):=by cases D4 X.Name O.2.Bg<;>rfl
    refine xr Y (Po 1 Y Y Y Tryz.underlying275 Tryz.underlying9 (RL kz) Y Y ai Y ?_);refine i1 U λW U=>?_;refine Yr.DU (pm 8 0 63) Y (Yr.Jw (l:=[.map (some ab)]) 0 Y (Ar Y) ?_);have aj:((D4 X.Name O.2.loops).map (λ(y:Bool)=>(vB y:Value))).getD (vB false)=vB ((D4 X.Name O.2.loops).getD (default:Bool)):=by cases D4 X.Name O.2.loops<;>rfl
    refine xr Y (Ux 2 Y Y Y Tryz.underlying289 Tryz.underlying9 (RL kz) Y Y aj ?_);refine i1 U λW U=>?_;exact B4 U Y (λ_ U=>rt) λ_ U=>r4
   ·refine B4 U Y (λW U=>?_) λW U=>?_
    ·exact B4 U Y (λ_ U=>rt) λ_ U=>r4
    ·refine B4 U Y (λW U=>?_) λW U=>?_
     ·exact B4 U Y (λ_ U=>rt) λ_ U=>r4
     ·refine B4 U Y (λW U=>?_) λW U=>?_
      ·exact B4 U Y (λ_ U=>rt) λ_ U=>r4
      ·refine B4 U Y (λW U=>?_) λW U=>?_
       ·refine i1 U λW U=>?_;have⟨ad,ak,U⟩:=AO U;refine Yr.HT [0,1,2,3] Y (z (⟨O.2.Bg,O.2.loops,O.2.all⟩:Ag) X.CU ⟨Y,Yt⟩ tu ak) ?_;rintro _ _ _ ⟨rfl,_⟩;refine⟨_,Y,?_⟩;refine i1 U λ_ U=>?_;have⟨_,al,U⟩:=AO U;refine Yr.HT [0,1,2,3] Y (z (⟨ad.2.Bg,ad.2.loops,ad.2.all⟩:Ag) X.Js ⟨Y,Yt⟩ tu al) ?_;rintro _ _ _ ⟨rfl,_⟩;refine⟨_,Y,?_⟩;exact rt
       ·refine B4 U Y (λW U=>?_) λ_ U=>r4;refine i1 U λ_ U=>?_;have⟨ae,an,U⟩:=AO U;refine Yr.HT [0,1,2,3] Y (KT (⟨O.2.Bg,O.2.loops,O.2.all⟩:Ag) X.Name 1 ⟨Y,Yt⟩ an) ?_;rintro _ _ _ ⟨rfl,_⟩;refine⟨_,Y,?_⟩;refine Yr.DU (pm 7 0 63) Y (Yr.Jw (l:=[.map (some ab)]) 0 Y (Ar Y) (xr Y (Ma (v:=true) 2 Y Y Y Y Tryz.underlying289 Tryz.underlying9 Y Y Y Y Y ?_)));have⟨_,ao,U⟩:=AO U;refine Yr.HT [0,1,2,3] Y (z (⟨ae.2.Bg,(NQ X.Name true ae.2.loops),ae.2.all⟩:Ag) X.CU ⟨Y,Yt⟩ tu ao) ?_;rintro _ _ _ ⟨rfl,_⟩;refine⟨_,Y,?_⟩;refine Yr.E2 [] [1] (pm 7 0 63) Y ?_;refine Yr.Jw (l:=[.map (some aa)]) 0 Y (Ar Y) (xr Y (ABt 1 Y Y Y Y Tryz.underlying275 Tryz.underlying9 Y Y Y Y ?_));exact rt
mutual
def Dv:Nat->Ag->(List BR)->AA (Int×Ag)
 |0,_,_=>none|n+1,y,z=>JA (Dv n) (DV n) y z
def DV:Nat->Ag->BR->AA (Int×Ag)
 |0,_,_=>none|n+1,y,z=>JP (Dv n) (DV n) y z
end
theorem OT:∀n:Nat,Fq (Dv n)/\Ea (DV n):=by
 intro n
 induction n with
 |zero=>exact⟨by unfold Fq;intros;rename_i h;simp[Dv]at h,by unfold Ea;intros;rename_i h;simp[DV]at h⟩
 |succ n y=>exact⟨TO y.1 y.2,Q3 y.1 y.2⟩
theorem Tp:Fq (Dv n):=(OT n).1
theorem AB2:Ea (DV n):=(OT n).2
def Nc(y:List A9)(H:A9):AA (List A9):=
 (Az (Dk y H) λz=>cond z.2 (some y) (Ba (0<=z.1/\z.1<=(y.length:Int)) (Ba ((y.length+1)*16<=140737488355328) (some (y.take (z.1).toNat++[H]++y.drop (z.1).toNat)))))
theorem Vu(z:List A9)(H:A9){a2:AA Addr}(h2:AF Bf V z O){r:List A9}(U:Nc z H=some r):Sx 222 [vL a2 z y,vS H] [.row (vL a2 z y) O 9 1] V (X2 9 1 r.length (λV' cs=>AF Bf V' r cs)):=by
 refine sx Tryz.func222 ?_;have⟨W,K,U⟩:=AO U;refine xr Y (ZC (.tuple ⟨[vI (W.1),vB W.2]⟩) Y Y (λ_ hv hl=>NS z H (BV h2 hv (hl 0 _ _ _ _ _ _ Y).1 (hl 0 _ _ _ _ _ _ Y).2) K) ?_);refine i1 U λ_ U=>?_;refine Yr.RV Y (xr Y (Fh 1 (n:=1) (sz:=1) Y Y Y Y Y (λ_=>Y) (λ_=>Y) (λ_=>Y) (λb5=>?_)));have⟨X,U⟩:=AL U;have⟨Z,U⟩:=AL U;have N:AF Bf V [H] [vS H]:=⟨_,_,Y,Y,Y⟩;refine Le [0,1] Y Y Y (by rfl) Y Y (Pg z H h2 N X Z) ?_;rintro _ _ _ _ ⟨_,_,_,_,rfl,rfl,_⟩;refine⟨_,Y,?_⟩;exact rt
section
variable {S:Type}
def PM(fS:BR->Int->S->AA S)(fR:Ak->S->AA S)(y:Ce)(s:S):AA (Int×S):=
 Az (El fS fR 1099511627776 (⟨401,s⟩:Bn S) y.CU 1) λx=>some (AB (401-x.2.left),x.2.Tm)
theorem Wh{fS:BR->Int->S->AA S}{fR:Ak->S->AA S}{J:AM->S->Ext->Prop}(N:∀{V V':AM}{s:S}{E:Ext},DI V V'->J V s E->J V' s E)(hS:Q6 J f1 ca1 fS)(hR:Ry J f2 ca2 fR)(H:Ce)(s:S){E:Ext}{a2:AA Addr}{a3:AA Addr}(h2:AK Er V a2 y H.BH)(h3:AK CN V a3 z H.CU)(O:J V s E){r:Int×S}(U:PM fS fR H s=some r):Sx 225 [vA (gv4 H a2 y a3 z),.func (.func f1) #[] ⟨ca1⟩,.func (.func f2) #[] ⟨ca2⟩] [.ext E] V (λV' e M'=>(∃K,M'=[.ext K]/\J V' r.2 K)/\e=.returned (vI r.1)):=by
 refine sx Tryz.func225 ?_;have⟨x,W,U⟩:=AO U;refine xr Y (Fh 2 (n:=1) (sz:=3) Y Y Y Y Y (λ_=>Y) (λ_=>Y) (λ_=>Y) (λb=>?_));refine AD.HT [2,0] Y Y Y Y Y Y (Wg @N hS hR (⟨401,s⟩:Bn S) H.CU 1 ⟨E,Y,O⟩ h3 W) ?_;rintro _ _ _ ⟨_,rfl,_⟩;refine⟨_,Y,?_⟩;exact Yr.O5 (l:=[vI x.2.left]) 2 Y (Ar Y) Y rt
end
def IQ(O:AQ)(H:A9):AA ((Except Gk Ah)×AQ):=
 (Az (IN H) λW=>jn (λ(z:AQ)=>cond ((D4 H z.own).isSome) (some ((.ok ((D4 H z.own).getD (default:Ah))),z)) (Az (CG ((!z.DN.G7)==true) (CP z.DN.Am H)) λX=>jn (λ(y:AQ)=>Az (Nc y.AS.Am H) λZ=>Az (MP y.state H) λaa=>some ((.ok aa),(⟨y.state,⟨y.DN.G7,y.DN.Am,y.DN.AX⟩,y.vars,y.own,⟨⟨y.AS.Ad.DY,y.AS.Ad.Code,y.AS.Ad.Out⟩,Z,y.AS.DB,y.AS.AX,y.AS.NG,y.AS.Steps⟩⟩:AQ))) (λK=>cond ((!z.DN.G7)&&(!X)) (Az (Ki H) λab=>I9 ab (λad=>some ((.error ad),z)) λag=>K z) (K z)))) (λN=>cond (!W) (Az (CR 1004) λae=>I9 ae (λaf=>some ((.error af),O)) λah=>N O) (N O)))
theorem TF(x1:AQ)(H:A9)(aE:Dc V y z N x1 X){r:(Except Gk Ah)×AQ}(U:IQ x1 H=some r):Sx 241 [vP y,vS H] X V (λV' e M'=>Dc V' y z N r.2 M'/\e=Pv 246 (λ(aa:Ah)=>(vA (Te aa):Value)) r.1):=by
 obtain⟨_,_,_,_,_,_,_,_,_,_,_,_,_,_,_,_,_,_,rfl,_,_,_,_,_,_,_⟩:=aE;refine sx Tryz.func241 ?_;refine Yr.cb U Y (Mh H) λaH U=>?_;refine sm U (λax L' V' M'=>∃(K:AQ),∃aq Pt ak LI ar T3 ay O6 W az UP Z a1 XO ab a6 Rt ad,L'=[(0,sP y),(1,sS H),(4,.ptr 7 0)]/\M'=mR y z N K aq Pt ak LI ar T3 ay O6 W az UP Z a1 XO ab a6 Rt ad [.Bp [sI 0,sI 0,sS []] 60]/\mJ V' K aq Pt ak LI ar T3 W Z ab ad/\ax K=some r) Y ?_ λax U=>?_
 ·rintro L' _ M' ⟨K,aq,Pt,ak,LI,ar,T3,ay,O6,W,az,UP,Z,a1,XO,ab,a6,Rt,ad,rfl,rfl,⟨_,aF,_,_,_,_,_⟩,U⟩;refine Yr.O5 (l:=[.map (some N)]) 0 Y (Ar Y) Y ?_;have a7:((D4 H K.own).map (λ(aa:Ah)=>(vA (Te aa):Value))).getD (.agg ⟨[vI 0,vI 0,vS []]⟩)=vA (Te ((D4 H K.own).getD (default:Ah))):=by cases D4 H K.own<;>rfl
  refine xr Y (Po 2 Y Y Y Tryz.underlying241 Tryz.underlying9 (RL kz) Y Y a7 Y ?_);refine i1 U λhb U=>?_;refine Yr.O5 (l:=[vB K.DN.G7]) 0 Y (Ar Y) Y (Yr.O5 (l:=[vL ak K.DN.Am LI]) 0 Y (Ar Y) Y (Gj U Y (FQ K.DN.Am H aF) λaI U=>?_));refine sm U (λa8 L' V' M'=>∃(O:AQ),∃al WT au k26 av k27 aA k28 ae aw Yg af aB k30 ag aC k31 ah,L'=[(0,sP y),(1,sS H),(4,.ptr 7 0)]/\M'=mR y z N O al WT au k26 av k27 aA k28 ae aw Yg af aB k30 ag aC k31 ah [.Bp [sI 0,sI 0,sS []] 60]/\mJ V' O al WT au k26 av k27 ae af ag ah/\a8 O=some r) Y ?_ λa8 U=>?_
  ·rintro L' _ M' ⟨O,al,WT,au,k26,av,k27,aA,k28,ae,aw,Yg,af,aB,k30,ag,aC,k31,ah,rfl,rfl,⟨_,_,_,_,aG,_,_⟩,U⟩;refine Yr.O5 (l:=[vL aw O.AS.Am Yg]) 0 Y (Ar Y) Y ?_;have⟨_,aD,U⟩:=AO U;refine xr Y (Mb 4 Y Y Y Y (Vu O.AS.Am H aG aD) ?_);rintro _ _ _ _ _ _;refine⟨_,Y,?_⟩;refine Yr.P6 0 Y (Ae Y) ?_;refine Yr.O5 (l:=[vL al O.state WT]) 0 Y (Ar Y) Y ?_;refine Yr.cb U Y (AF3 O.state H tu) λaJ U=>?_;exact rt
  ·refine B4 U Y (λ_ U=>?_) λ_ U=>SO 8 Y;refine xr Y ?_;have⟨_,an,U⟩:=AO U;rcases EM U with⟨_,ai,U⟩|⟨_,ai,U⟩
   ·refine Y.GC [] Y (Mi H an) ai ?_;rintro _ _ _ rfl;cases U;exact tu
   refine Y.GB [] Y (Mi H an) ai ?_;rintro _ _ _ rfl;refine⟨_,Y,?_⟩;exact SO 8 Y
 ·refine i4 U λ_ U=>?_;refine xr Y ?_;have⟨_,ao,U⟩:=AO U;rcases EM U with⟨_,aj,U⟩|⟨_,aj,U⟩
  ·refine Y.GC [] Y (Co 1004 ao) aj ?_;rintro _ _ _ rfl;cases U;exact tu
  refine Y.GB [] Y (Co 1004 ao) aj ?_;rintro _ _ _ rfl;refine⟨_,Y,?_⟩;exact rd
def La(y:Ak):AA Int:=
 (Az (Jr 1099511627776 y 1) λz=>some z)
theorem Tj(z:Ak){a2:AA Addr}(h2:AK Br V a2 y z.Aw){r:Int}(U:La z=some r):Sp 254 [vA (Ws z a2 y)] V (λ_ v=>v=vI r):=by
 refine se Tryz.func254 ?_;refine Yr.cb U Y (AF7 z 1 h2) λH U=>?_;exact rt
def Nh(y:Ah)(z:Ah):AA Int:=
 (cond (y.BD !=z.BD) (Az (L6 y.BD z.BD) λH=>some H) (cond (y.N==z.N) (Az (MM (⟨y,z⟩:Ur)) λK=>some K) (Az (MN (⟨y,z⟩:Ur)) λO=>some O)))
theorem Zy(y:Ah)(z:Ah){r:Int}(U:Nh y z=some r):Sp 263 [vA (Te y),vA (Te z)] V (λ_ v=>v=vI r):=by
 refine se Tryz.func263 ?_;refine B4 U Y (λ_ U=>?_) λH U=>?_
 ·refine Yr.cb U Y (Xx y.BD z.BD) λK U=>?_;exact rt
 ·refine xr Y (Fe Y Y ?_);refine B4 U Y (λ_ U=>?_) λ_ U=>?_
  ·refine xr Y (Fe Y Y ?_);refine Yr.cb U Y (Uf (⟨y,z⟩:Ur)) λN U=>?_;exact rt
  ·refine Yr.cb U Y (Ug (⟨y,z⟩:Ur)) λO U=>?_;exact rt
def HX(K:List BA)(O:(List AR)->AA (List AR×Int)):Nat->(List AR)->Int->AA (List AR×Int)
 |0,_,_=>none|N+1,H,y=>cond (decide (y<(K.length:Int))) (Ba (0<=y/\y<(K.length:Int)) (Az (NZ H ((AN K y).BF)) λz=>cond (z.2 !=0) (some (([]:List AR),z.2)) (HX K O N z.1 (AB (y+1))))) (O H)
def Iq(z:List BA)(K:AA (List AR×Int)):Nat->Int->AA (List AR×Int)
 |0,_=>none|N+1,y=>cond (decide (y<(z.length:Int))) (Ba (0<=y/\y<(z.length:Int)) (Ba (((decide (0<y))==true)=true->0<=(AB (y-1))/\(AB (y-1))<(z.length:Int)) (Az (CG (((decide (0<y))&&(decide ((AN z y).Ab<=(cond ((decide (0<y))==true) (AN z (AB (y-1))) default).Ab)))==false) (Fa ((AN z y).BF))) λH=>cond (((decide (0<y))&&(decide ((AN z y).Ab<=(cond ((decide (0<y))==true) (AN z (AB (y-1))) default).Ab)))||(!H)) (some (([]:List AR),1)) (Iq z K N (AB (y+1)))))) K
def Ic(y:List BA):AA (List AR×Int):=
 (jn (jn (λ(z:List AR)=>some (z,0)) (λH=>HX y H ((y.length:Int).toNat+1) ([]:List AR) 0)) (λK=>Iq y K ((y.length:Int).toNat+1) 0))
theorem Rx(z:List BA){a2:AA Addr}(h2:AK DH V a2 y z){r:List AR×Int}(U:Ic z=some r):Sp 11 [vL a2 z y] V (λV' v=>∃af ag,v=.tuple ⟨[vL af r.1 ag,vI (r.2)]⟩/\AK Au V' af ag r.1):=by
 unfold Ic at U;refine se Tryz.func11 ?_;refine AD.run Aa 12 Y ?_;refine sn U (λJ3 L' V' M'=>L'=[(0,sL a2 z y)]/\M'=[]/\AK DH V' a2 y z/\J3=some r) Y ?_ λJ3 U=>?_
 ·rintro L' _ M' ⟨rfl,rfl,h5,U⟩;refine AD.run Aa 11 Y ?_;refine sn U (λJ8 L' V' M'=>∃(x6:List AR),∃a7 k7,L'=[(6,sL a7 x6 k7)]/\M'=[]/\AK Au V' a7 k7 x6/\J8 x6=some r) Y ?_ λJ8 U=>?_
  ·rintro L' _ M' ⟨x6,a7,k7,rfl,rfl,_,U⟩;exact rt
  ·refine lq (λah L' V' M'=>∃(K:List AR),∃aa Nf,∃(N:Int),L'=[(6,sL aa K Nf),(38,sL a2 z y),(39,sN z),(40,sI N)]/\M'=[]/\AK Au V' aa Nf K/\AK DH V' a2 y z/\HX z J8 ah K N=some r) Y ⟨_,_,_,_,Y,Y,AK.nil,h5,U⟩ ?_;rintro ah L' _ M' ⟨K,aa,Nf,N,rfl,rfl,aq,ar,U⟩;refine i4 U λhb U=>?_;have⟨ab,U⟩:=AL U;have⟨_,ai,W⟩:=AK.get ar ab;obtain⟨au,XO,rfl,av⟩:=ai;refine Yr.ia Y ⟨ab.1,ab.2,W.some⟩ (Yr.ld (x:=vA (XV (AN z N) au XO)) Y W Y ?_);have⟨_,aj,U⟩:=AO U;refine Yr.call Y (Vr K ((AN z N).BF) aq av aj) ?_;rintro _ _ _ ⟨_,_,rfl,_⟩;exact B4 U Y (λ_ U=>rt) λ_ U=>r0
 ·refine lq (λak L' V' M'=>∃(H:Int),L'=[(0,sL a2 z y),(11,sL a2 z y),(12,sN z),(13,sI H)]/\M'=[]/\AK DH V' a2 y z/\Iq z J3 ak H=some r) Y tu ?_;rintro ak L' _ M' ⟨H,rfl,rfl,al,U⟩;refine i4 U λhb U=>?_;have⟨ad,U⟩:=AL U;have⟨_,an,X⟩:=AK.get al ad;obtain⟨aw,ax,rfl,ay⟩:=an;refine Yr.ia Y ⟨ad.1,ad.2,X.some⟩ (Yr.ld (x:=vA (XV (AN z H) aw ax)) Y X Y (Yr.DU (pm 19 0 65535) Y ?_));have⟨ae,U⟩:=AL U;have⟨_,ao,Z⟩:=AK.OG ((decide (0<H))==true) al ae;obtain⟨_,_,rfl,_⟩:=ao;refine Yr.Qp Y (λO=>⟨(ae (Bv O)).1,(ae (Bv O)).2,(Z (Bv O)).some⟩) (Yr.P8 (x:=vI ((cond ((decide (0<H))==true) (AN z (AB (H-1))) default).Ab)) Y (λO=>(Bi.part (Z (Bv O)) 0 1 Y)) (Gj U Y (Hb ((AN z H).BF) ay) λaz U=>?_));exact B4 U Y (λ_ U=>rt) λ_ U=>r0
def JU(H:List AR)(W:AI)(X:Int)(Z:(List AR)->AA (List AR)):Nat->(List AR)->Int->AA (List AR)
 |0,_,_=>none|aa+1,z,y=>cond (decide (y<(H.length:Int))) (Ba (0<=y/\y<(H.length:Int)) (Az (Fm W ((AN H y).Key)) λN=>jn (λ(O:List AR)=>JU H W X Z aa O (AB (y+1))) (λK=>cond (N==X) (Ba ((z++[(AN H y)]).length*48<=140737488355328) (K (z++[(AN H y)]))) (K z)))) (Z z)
def K8(z:AI)(y:List AR)(H:Int):AA (List AR):=
 (jn (λ(K:List AR)=>some K) (λN=>JU y z H N ((y.length:Int).toNat+1) ([]:List AR) 0))
theorem TG(W:AI)(K:List AR)(x5:Int){a2:AA Addr}{a4:AA Addr}(h2:AK BS V a2 y W.AG)(h4:AK Au V a4 z K){r:List AR}(U:K8 W K x5=some r):Sp 24 [vA (S2 W a2 y),vL a4 K z,vI x5] V (λV' v=>∃ag ah,v=vL ag r ah/\AK Au V' ag ah r):=by
 unfold K8 at U;refine se Tryz.func24 ?_;refine AD.run Aa 16 Y (AD.Eh 62 4 Y ?_);have h6:AF Au V ([]:List AR) []:=AF.nil;refine sn U (λJ9 L' V' M'=>∃(x8:List AR),∃a7 k7 ab,L'=[(7,sL a7 x8 k7)]/\M'=[.Bp (Vk W a2 y) 25,.row (vL a7 x8 k7) ab 62 4]/\AF Au V' x8 ab/\AK BS V' a2 y W.AG/\J9 x8=some r) Y ?_ λJ9 U=>?_
 ·rintro L' _ M' ⟨x8,a7,k7,ab,rfl,rfl,h7,_,U⟩;refine Yr.QY 1 Y (λax ai aj ak=>?_);have aw:=BV h7 ai aj ak;exact ry
 ·refine lq (λal L' V' M'=>∃(N:List AR),∃ad LI O,∃(H:Int),L'=[(2,sI x5),(3,.ptr 0 0),(7,sL ad N LI),(10,sL a4 K z),(11,sN K),(12,sI H)]/\M'=[.Bp (Vk W a2 y) 25,.row (vL ad N LI) O 62 4]/\AF Au V' N O/\AK Au V' a4 z K/\AK BS V' a2 y W.AG/\JU K W x5 J9 al N H=some r) Y ⟨_,_,_,_,_,Y,Y,h6,h4,h2,U⟩ ?_;rintro al L' ao M' ⟨N,ad,LI,O,H,rfl,rfl,aq,ar,au,U⟩;refine i4 U λhb U=>?_;have⟨ae,U⟩:=AL U;obtain⟨_,rfl,aa⟩:=AK.get ar ae;refine Yr.ia Y ⟨ae.1,ae.2,aa.some⟩ (Yr.ld (x:=vA (Zv (AN K H))) Y aa Y (Yr.cb U Y (Lo W ((AN K H).Key) au) λay U=>?_));refine sm U (λan L' V' M'=>∃(X:List AR),∃af k24 Z,L'=[(2,sI x5),(3,.ptr 0 0),(7,sL af X k24),(10,sL a4 K z),(11,sN K),(12,sI H)]/\M'=[.Bp (Vk W a2 y) 25,.row (vL af X k24) Z 62 4]/\AF Au V' X Z/\AK Au V' a4 z K/\AK BS V' a2 y W.AG/\an X=some r) Y ?_ λan U=>?_
  ·rintro L' _ M' ⟨X,af,k24,Z,rfl,rfl,_,_,_,U⟩;exact rd
  ·refine B4 U Y (λ_ U=>?_) λ_ U=>r2;refine Yr.RV Y ?_;have⟨av,U⟩:=AL U;refine Yr.app (nm:=(N++[(AN K H)]).length) 1 3 Y zp (λ_ _=>Y) av (λaz k30=>?_);have a1:AF Au ao (N++[(AN K H)]) (O++(Zv (AN K H))):=AF.app aq ⟨_,_,Y,Y,Y⟩;exact r2
def Jg(z:AI)(H:AV):AA (List Int):=
 (Az (KE z H) λN=>cond (!N) (some ([]:List Int)) (Az (Od z H) λK=>cond (decide (0<(K.length:Int))) (some K) (Az (KF z H) λy=>cond (decide (0<(y.length:Int))) (Ba (0<=(0:Int)/\(0:Int)<=(1:Int)/\(1:Int)<=(1:Int)/\1<=(y.length:Int)) (some ((y.take (1:Int).toNat).drop (0:Int).toNat))) (Ba (0<=(0:Int)/\0<(z.AG.length:Int)) (some ([(AN z.AG 0).Ab]:List Int))))))
theorem Ra(H:AI)(O:AV){a2:AA Addr}{a4:AA Addr}{a5:AA Addr}(h2:AK BS V a2 y H.AG)(h4:AK Bf V a4 z O.Am)(h5:AK Bf V a5 N O.AX){r:List Int}(U:Jg H O=some r):Sp 55 [vA (S2 H a2 y),vA (gv8 O a4 z a5 N)] V (λV' v=>∃X k31,v=vL X r k31/\AK (CD .i64) V' X k31 r):=by
 refine se Tryz.func55 ?_;refine Yr.cb U Y (PT H O h2 h4 h5) λx6 U=>?_;refine i1 U λhb U=>?_;have⟨_,af,U⟩:=AO U;refine Yr.call Y (ABc H O h2 h4 h5 af) ?_;rintro _ _ ag ⟨_,_,rfl,_⟩;have Z:=AK.mono h2 ag;refine i1 U λhb U=>?_;have⟨_,aa,U⟩:=AO U;refine Yr.call Y (PU H O Z tu tu aa) ?_;rintro _ _ ab ⟨_,_,rfl,ah⟩;have ai:=AK.mono Z ab;refine B4 U Y (λ_ U=>?_) λ_ U=>?_
 ·have⟨aj,U⟩:=AL U;refine xr Y (AL2 Aa (c:=(CD .i64)) Y Y Y Y Y Y Y (lo':=0) Y ah Y aj (λan ZX ao=>?_));exact rt
 ·have⟨W,U⟩:=AL U;obtain⟨_,rfl,K⟩:=AK.get ai W;refine Yr.ia Y ⟨W.1,W.2,K.some⟩ (Yr.ld (x:=vI ((AN H.AG 0).Ab)) Y (Bi.part K 2 1 Y) Y (xr Y (X8 Aa Y Y Y Y Y (λad ak al ae=>?_))));have aq:AK (CD .i64) ad (some ak) 1 ([(AN H.AG 0).Ab]:List Int):=BV (c:=(CD .i64)) (V:=ad) (cs:=[vI ((AN H.AG 0).Ab)]) ⟨_,_,Y,Y,Y⟩ (DI.refl _) (λ_=>ae) zp;exact rt
structure Bu where
 Ac:BA
 table:BG
 C5:List B3
 C9:List Bool
 exec:List Bool
instance:Inhabited Bu:=⟨⟨default,default,[],[],[]⟩⟩
structure JL where
 Fl:List Ce
 p:AI
 Al:List L8
 Oq:List AV
 parts:List (List Int)
 Xa:List (List Int)
 AU:List Bu
 A6:List B3
 DP:List Bb
structure NA where
 ap:AA Addr
 kp:Nat
 ag:AA Addr
 kg:Nat
 aq:AA Addr
 kq:Nat
 ai:AA Addr
 ki:Nat
 sa:AA Addr
 ks:Nat
 ae:AA Addr
 ke:Nat
structure SA where
 a0:AA Addr
 k0:Nat
 a1:AA Addr
 k1:Nat
 a2:AA Addr
 k2:Nat
 a3:AA Addr
 k3:Nat
 a4:AA Addr
 k4:Nat
 a5:AA Addr
 k5:Nat
 a6:AA Addr
 k6:Nat
 a7:AA Addr
 k7:Nat
 a8:AA Addr
 k8:Nat
abbrev ndC(nd:Bu)(A:NA):List Value:=[.int .i64 nd.Ac.Ab,.slice A.ap nd.Ac.BF.length A.kp,.slice A.ag nd.table.BM.length A.kg,.slice A.aq nd.table.Af.length A.kq,.slice A.ai nd.C5.length A.ki,.slice A.sa nd.C9.length A.ks,.slice A.ae nd.exec.length A.ke]
abbrev syC(s:JL)(n:Nat)(A:SA):List Value:=[.slice A.a0 s.Fl.length A.k0,.int .i64 s.p.Ax,.slice A.a1 s.p.AG.length A.k1,.slice A.a2 s.Al.length A.k2,.slice A.a3 s.Oq.length A.k3,.slice A.a4 s.parts.length A.k4,.slice A.a5 s.Xa.length A.k5,.slice A.a6 n A.k6,.slice A.a7 s.A6.length A.k7,.slice A.a8 s.DP.length A.k8]
def ACJ:Cd Nat where
 sz:=1
 rep _ b cs:=cs=[.pointer (some ⟨b,0,none⟩)]
 len h:=by subst h;rfl
 mono _ h:=h
 one h:=by subst h;intro u hu;simp at hu;subst hu;rfl
 pos:=ox
 NB:=⟨_,λ_=>Y⟩
structure NdV(V:AM)(nd:Bu)(A:NA):Prop where
 p:AK Au V A.ap A.kp nd.Ac.BF
 g:AK BX V A.ag A.kg nd.table.BM
 q:AK Cy V A.aq A.kq nd.table.Af
theorem NdV.mono{nd:Bu}{A:NA}(h:NdV V nd A)(hv:DI V V'):NdV V' nd A:=⟨h.p.mono hv,h.g.mono hv,h.q.mono hv⟩
structure SyV(V:AM)(s:JL)(bs:List Nat)(A:SA):Prop where
 pr:AK Jz V A.a0 A.k0 s.Fl
 pp:AK BS V A.a1 A.k1 s.p.AG
 tx:AK Vo V A.a2 A.k2 s.Al
 fo:AK N1 V A.a3 A.k3 s.Oq
 pa:AK (cSl (CD .i64)) V A.a4 A.k4 s.parts
 ex:AK (cSl (CD .i64)) V A.a5 A.k5 s.Xa
 nd:AK ACJ V A.a6 A.k6 bs
 tab:Hz V
theorem SyV.mono{s:JL}{bs:List Nat}{A:SA}(h:SyV V s bs A)(hv:DI V V'):SyV V' s bs A:=⟨h.pr.mono hv,h.pp.mono hv,h.tx.mono hv,h.fo.mono hv,h.pa.mono hv,h.ex.mono hv,h.nd.mono hv,h.tab.mono hv⟩
def Jn(parts:List (List Int))(node t:Int):AA Bool:=Ba (0<=t/\t<(parts.length:Int)) (Eb (AN parts t) node)
theorem N2(parts:List (List Int))(node t:Int){b:Nat}{a:AA Addr}{k:Nat}(H:Bi V (some ⟨b,0,none⟩) 5 [vL a parts k])(hp:AK (cSl (CD .i64)) V a k parts)(K:Bi V (some ⟨y,0,none⟩) 0 [vI node])(U:Jn parts node t=some r):Sp 56 [vP b,vP y,vI t] V (λ_ v=>v=vB r):=by
 have⟨q,U⟩:=AL U;refine se Tryz.func56 ?_;refine Yr.DU (pm 14 0 4095) Y (Yr.P8 (x:=vL a parts k) Y (Bi.shift H) ?_);obtain⟨_,⟨a2,k2,rfl,h2⟩,z⟩:=AK.get hp q;exact Yr.Qp Y ⟨q.1,q.2,z.some⟩ (Yr.P8 (x:=vL a2 (AN parts t) k2) Y z (Yr.P8 (x:=vI node) Y K (Yr.OJ (vB r) Y (HB (AN parts t) node h2 U) (Yr.ret Y Y))))
theorem OS(parts:List (List Int))(node t:Int){b:Nat}{a:AA Addr}{k:Nat}(H:Bi V (some ⟨b,0,none⟩) 6 [vL a parts k])(hp:AK (cSl (CD .i64)) V a k parts)(K:Bi V (some ⟨y,0,none⟩) 0 [vI node])(U:Jn parts node t=some r):Sp 62 [vP b,vP y,vI t] V (λ_ v=>v=vB r):=by
 have⟨q,U⟩:=AL U;refine se Tryz.func62 ?_;refine Yr.DU (pm 14 0 4095) Y (Yr.P8 (x:=vL a parts k) Y (Bi.shift H) ?_);obtain⟨_,⟨a2,k2,rfl,h2⟩,z⟩:=AK.get hp q;exact Yr.Qp Y ⟨q.1,q.2,z.some⟩ (Yr.P8 (x:=vL a2 (AN parts t) k2) Y z (Yr.P8 (x:=vI node) Y K (Yr.OJ (vB r) Y (HB (AN parts t) node h2 U) (Yr.ret Y Y))))
def LQ(y:AI)(z:AV)(H:Int):AA AV:=
 (Az (KE y z) λW=>cond (!W) (some (⟨false,([]:List A9),([]:List A9)⟩:AV)) (cond z.G7 (Az (FD y) λX=>Az (Eb X H) λK=>some (⟨K,([]:List A9),([]:List A9)⟩:AV)) (Az (Ld y z.Am H) λN=>Az (Ld y z.AX H) λO=>some (⟨false,N,O⟩:AV))))
theorem Pz(H:AI)(K:AV)(O:Int){a2:AA Addr}{a4:AA Addr}{a5:AA Addr}(h2:AK BS V a2 y H.AG)(h4:AK Bf V a4 z K.Am)(h5:AK Bf V a5 N K.AX){r:AV}(U:LQ H K O=some r):Sp 58 [vA (S2 H a2 y),vA (gv8 K a4 z a5 N),vI O] V (λV' v=>∃W k28 X Yg,v=vA (gv8 r W k28 X Yg)/\AK Bf V' W k28 r.Am/\AK Bf V' X Yg r.AX):=by
 refine se Tryz.func58 ?_;refine Yr.cb U Y (PT H K h2 h4 h5) λx7 U=>?_;refine i1 U λhb U=>?_;refine B4 U Y (λ_ U=>?_) λ_ U=>?_
 ·have⟨x8,ab,U⟩:=AO U;refine Yr.call Y (Ja H h2 ab) ?_;rintro _ _ _ ⟨_,_,rfl,h9⟩;refine Yr.cb U Y (HB x8 O h9) λad U=>?_;exact rt
 ·refine Yr.DU [(0,true),(1,true),(2,true),(3,true),(5,true),(6,true),(7,true),(8,true),(4,false),(9,false),(10,false),(11,false)] Y ?_;have⟨_,Z,U⟩:=AO U;refine Yr.call Y (Vt H K.Am O h2 h4 Z) ?_;rintro _ _ _ ⟨_,_,rfl,_⟩;have⟨_,aa,U⟩:=AO U;refine Yr.call Y (Vt H K.AX O tu tu aa) ?_;rintro _ _ _ ⟨_,_,rfl,_⟩;exact rt
def Im(H:List AR)(X:D8)(Z:(List AR)->AA (List AR)):Nat->(List AR)->Int->AA (List AR)
 |0,_,_=>none|N+1,z,y=>cond (decide (y<(H.length:Int))) (Ba (0<=y/\y<(H.length:Int)) (Az (Ni X ((AN H y).Key)) λO=>jn (λ(W:List AR)=>Im H X Z N W (AB (y+1))) (λK=>cond O (Ba ((z++[(AN H y)]).length*48<=140737488355328) (K (z++[(AN H y)]))) (K z)))) (Z z)
def Na(y:List AR)(z:D8):AA (List AR):=
 (jn (λ(H:List AR)=>some H) (λK=>Im y z K ((y.length:Int).toNat+1) ([]:List AR) 0))
theorem ACT(H:List AR)(Z:D8){a2:AA Addr}(h2:AK Au V a2 y H){r:List AR}(U:Na H Z=some r):Sp 87 [vL a2 H y,vA (AMx Z)] V (λV' v=>∃af k26,v=vL af r k26/\AK Au V' af k26 r):=by
 unfold Na at U;refine se Tryz.func87 ?_;refine AD.run Aa 16 Y (AD.Eh 62 4 Y ?_);have h4:AF Au V ([]:List AR) []:=AF.nil;refine sn U (λJ7 L' V' M'=>∃(x6:List AR),∃a5 k5 aa,L'=[(5,sL a5 x6 k5)]/\M'=[.Bp (AMz Z) 124,.row (vL a5 x6 k5) aa 62 4]/\AF Au V' x6 aa/\J7 x6=some r) Y ?_ λJ7 U=>?_
 ·rintro L' _ M' ⟨x6,a5,k5,aa,rfl,rfl,h5,U⟩;refine Yr.QY 1 Y (λV9 ai aj ak=>?_);have ar:=BV h5 ai aj ak;exact ry
 ·refine lq (λag L' V' M'=>∃(K:List AR),∃ab RF N,∃(z:Int),L'=[(3,.ptr 0 0),(5,sL ab K RF),(8,sL a2 H y),(9,sN H),(10,sI z)]/\M'=[.Bp (AMz Z) 124,.row (vL ab K RF) N 62 4]/\AF Au V' K N/\AK Au V' a2 y H/\Im H Z J7 ag K z=some r) Y ⟨_,_,_,_,_,Y,Y,h4,h2,U⟩ ?_;rintro ag L' al M' ⟨K,ab,RF,N,z,rfl,rfl,an,ao,U⟩;refine i4 U λhb U=>?_;have⟨ad,U⟩:=AL U;obtain⟨_,rfl,X⟩:=AK.get ao ad;refine Yr.ia Y ⟨ad.1,ad.2,X.some⟩ (Yr.ld (x:=vA (Zv (AN H z))) Y X Y (Yr.cb U Y (Z5 Z ((AN H z).Key)) λau U=>?_));refine sm U (λah L' V' M'=>∃(O:List AR),∃ae Rt W,L'=[(3,.ptr 0 0),(5,sL ae O Rt),(8,sL a2 H y),(9,sN H),(10,sI z)]/\M'=[.Bp (AMz Z) 124,.row (vL ae O Rt) W 62 4]/\AF Au V' O W/\AK Au V' a2 y H/\ah O=some r) Y ?_ λah U=>?_
  ·rintro L' _ M' ⟨O,ae,Rt,W,rfl,rfl,_,_,U⟩;exact rd
  ·refine B4 U Y (λ_ U=>?_) λ_ U=>r2;refine Yr.RV Y ?_;have⟨aq,U⟩:=AL U;refine Yr.app (nm:=(K++[(AN H z)]).length) 1 3 Y zp (λ_ _=>Y) aq (λav k24=>?_);have aw:AF Au al (K++[(AN H z)]) (N++(Zv (AN H z))):=AF.app an ⟨_,_,Y,Y,Y⟩;exact r2
def GI(K:AV)(X:AI)(Z:BA)(N:(List A9)->AA (List B3)):Nat->(List A9)->Int->AA (List B3)
 |0,_,_=>none|aa+1,z,y=>cond (decide (y<(K.Am.length:Int))) (Ba (0<=y/\y<(K.Am.length:Int)) (Az (Fm X (AN K.Am y)) λO=>jn (λ(W:List A9)=>GI K X Z N aa W (AB (y+1))) (λH=>cond (O==Z.Ab) (Ba ((z++[(AN K.Am y)]).length*16<=140737488355328) (H (z++[(AN K.Am y)]))) (H z)))) (N z)
def HV(z:List Int)(Z:AI)(K:BA)(X:AV)(x5:Int)(N:(List B3)->AA (List B3)):Nat->(List B3)->Int->AA (List B3)
 |0,_,_=>none|aa+1,H,y=>cond (decide (y<(z.length:Int))) (Ba (0<=y/\y<(z.length:Int)) (Az (Mo Z K X) λO=>jn (λ(W:List A9)=>Ba ((H++[(⟨x5,K.Ab,(AN z y),W,O⟩:B3)]).length*72<=140737488355328) (HV z Z K X x5 N aa (H++[(⟨x5,K.Ab,(AN z y),W,O⟩:B3)]) (AB (y+1)))) (λab=>GI X Z K ab ((X.Am.length:Int).toNat+1) ([]:List A9) 0))) (N H)
def LV(z:AI)(K:BA)(x5:Int)(H:AV):AA (List B3):=
 (Az (Kk z K H) λN=>Az (CG ((!N)==false) (KF z H)) λO=>Az (CG ((!N)==false) (Eb O K.Ab)) λW=>cond ((!N)||(!W)) (some ([]:List B3)) (Az (Jg z H) λy=>jn (λ(X:List B3)=>some X) (λZ=>HV y z K H x5 Z ((y.length:Int).toNat+1) ([]:List B3) 0)))
theorem Z7(x1:AI)(x3:BA)(x5:Int)(X:AV){a2:AA Addr}{a4:AA Addr}{a7:AA Addr}{a8:AA Addr}(h2:AK BS V a2 y x1.AG)(h4:AK Au V a4 z x3.BF)(h7:AK Bf V a7 N X.Am)(h8:AK Bf V a8 W X.AX){r:List B3}(U:LV x1 x3 x5 X=some r):Sp 102 [vA (S2 x1 a2 y),vA (XV x3 a4 z),vI x5,vA (gv8 X a7 N a8 W)] V (λV' v=>∃aD aE,v=vL aD r aE/\AK DO V' aD aE r):=by
 refine se Tryz.func102 ?_;refine Yr.DU [(0,true),(1,true),(2,true),(3,false),(4,false),(5,false),(6,true),(7,true),(9,true),(10,true),(8,false),(11,false),(12,false),(13,false)] Y (Yr.cb U Y (SX x1 x3 X h2 h4 h7 h8) λx9 U=>?_);have⟨aA,aF,U⟩:=AO U;refine xr Y (ZD (λaa:AA Addr×Nat=>vL aa.1 aA (aa.2)) (none,0) (R:=λV' aa=>AK (CD .i64) V' aa.1 aa.2 aA) Y Y Y (λaK=>(PU x1 X h2 h7 h8 (Nq aF (Bv aK))).mono (λV' _ _ ⟨aL,Nf,e1,aM⟩=>⟨⟨aL,Nf⟩,e1,aM⟩)) ?_);rintro bp ⟨aL,Nf⟩ _ aR;have aM:AK (CD .i64) bp aL Nf aA:=AHC aF (λaK=>(aR aK));refine Gj U Y (HB aA x3.Ab aM) λbL U=>?_;refine i1 U λhb U=>?_;have⟨H,aS,U⟩:=AO U;refine Yr.call Y (Ra x1 X tu tu tu aS) ?_;rintro bq _ _ ⟨ag,Rt,rfl,br⟩;refine AD.run Aa 3 Y (AD.Eh 183 5 Y ?_);have bs:AF DO bq ([]:List B3) []:=AF.nil;refine sn U (λaN L' V' M'=>∃(aq:List B3),∃aO k26 ar,L'=[(9,sL aO aq k26)]/\M'=[.Bp (Vk x1 a2 y) 25,.Bp (ACD x3 a4 z) 66,.Bp (XY X a7 N a8 W) 130,.row (vL aO aq k26) ar 183 5]/\AF DO V' aq ar/\AK BS V' a2 y x1.AG/\AK Au V' a4 z x3.BF/\AK Bf V' a7 N X.Am/\AK Bf V' a8 W X.AX/\aN aq=some r) Y ?_ λaN U=>?_
 ·rintro L' _ M' ⟨aq,aO,k26,ar,rfl,rfl,bt,_,_,_,_,U⟩;refine Yr.QY 3 Y (λbM aT aU aV=>?_);have bD:=BV bt aT aU aV;exact ry
 ·refine lq (λaW L' V' M'=>∃(K:List B3),∃ad ae Z,∃(O:Int),L'=[(2,sI x5),(4,.ptr 0 0),(5,.ptr 1 0),(7,.ptr 2 0),(9,sL ad K ae),(31,sL ag H Rt),(32,sN H),(33,sI O)]/\M'=[.Bp (Vk x1 a2 y) 25,.Bp (ACD x3 a4 z) 66,.Bp (XY X a7 N a8 W) 130,.row (vL ad K ae) Z 183 5]/\AF DO V' K Z/\AK (CD .i64) V' ag Rt H/\AK BS V' a2 y x1.AG/\AK Au V' a4 z x3.BF/\AK Bf V' a7 N X.Am/\AK Bf V' a8 W X.AX/\HV H x1 x3 X x5 aN aW K O=some r) Y ⟨_,_,_,_,_,Y,Y,bs,br,tu,tu,tu,tu,U⟩ ?_;rintro aW L' _ M' ⟨K,ad,ae,Z,O,rfl,rfl,_,bu,aX,aY,aZ,ba,U⟩;refine i4 U λhb U=>?_;have⟨aP,U⟩:=AL U;obtain⟨_,rfl,aG⟩:=AK.get bu aP;refine Yr.ia Y ⟨aP.1,aP.2,aG.some⟩ (Yr.ld (x:=vI (AN H O)) Y aG Y (Yr.DU (pm 7 0 127) Y ?_));have⟨af,aH,U⟩:=AO U;refine xr Y (Nd 7 9 [(8,true),(9,false)] [(7,false),(8,true)] [(10,false)] (λlr' L' V' M'=>∃ai aj,lr'=[]/\L'=[(2,sI x5),(4,.ptr 0 0),(5,.ptr 1 0),(7,.ptr 2 0),(9,sL ad K ae),(12,.ptr 4 0),(31,sL ag H Rt),(32,sN H),(33,sI O),(45,.v (.agg ⟨[vI x5,vI x3.Ab,vI (AN H O),.slice none 0 0,vL ai af aj]⟩))]/\M'=[.Bp (Vk x1 a2 y) 25,.Bp (ACD x3 a4 z) 66,.Bp (XY X a7 N a8 W) 130,.row (vL ad K ae) Z 183 5,.Bp [sI 0,sI 0,sI 0,.v (.slice none 0 0),.v (.slice none 0 0)] 183]/\AK (CD .i64) V' ag Rt H/\AK Au V' ai aj af/\AK BS V' a2 y x1.AG/\AK Au V' a4 z x3.BF/\AK Bf V' a7 N X.Am/\AK Bf V' a8 W X.AX/\AF DO V' K Z) 1 [true,true,true,true,true,true,true,true,true,true,false] Y kz Y Y kz kz kz kz (λjoin=>?_) (λjoin=>?_) ?_)
  ·refine Yr.call Y (SY x1 x3 X aX aY aZ ba aH) ?_;rintro _ _ _ ⟨bw,bx,rfl,_⟩;exact xr Y (join [0,1,2,3,4] (lr':=[]) (L':=[(2,sI x5),(4,.ptr 0 0),(5,.ptr 1 0),(7,.ptr 2 0),(9,sL ad K ae),(12,.ptr 4 0),(31,sL ag H Rt),(32,sN H),(33,sI O),(45,.v (.agg ⟨[vI x5,vI x3.Ab,vI (AN H O),.slice none 0 0,vL bw af bx]⟩))]) Y Y Y Y sb Yt tu)
  ·refine Yr.call Y (SY x1 x3 X aX aY aZ ba aH) ?_;rintro _ _ _ ⟨bz,b0,rfl,_⟩;exact xr Y (join [0,1,2,3,4] (lr':=[]) (L':=[(2,sI x5),(4,.ptr 0 0),(5,.ptr 1 0),(7,.ptr 2 0),(9,sL ad K ae),(12,.ptr 4 0),(31,sL ag H Rt),(32,sN H),(33,sI O),(45,.v (.agg ⟨[vI x5,vI x3.Ab,vI (AN H O),.slice none 0 0,vL bz af b0]⟩))]) Y Y Y Y sb Yt tu)
  rintro lr' L' bb M' ⟨ai,aj,rfl,rfl,rfl,b1,b2,b3,b4,b5,b6,b7⟩;refine AD.run Aa 12 Y (AD.Eh 9 1 Y ?_);have b8:AF Bf bb ([]:List A9) []:=AF.nil;refine sn U (λaQ L' V' M'=>∃(al:List A9),∃aB aC au,L'=[(2,sI x5),(4,.ptr 0 0),(5,.ptr 1 0),(7,.ptr 2 0),(9,sL ad K ae),(12,.ptr 4 0),(31,sL ag H Rt),(32,sN H),(33,sI O)]/\M'=[.Bp (Vk x1 a2 y) 25,.Bp (ACD x3 a4 z) 66,.Bp (XY X a7 N a8 W) 130,.row (vL ad K ae) Z 183 5,.Bp [sI x5,sI x3.Ab,sI (AN H O),sL aB al aC,sL ai af aj] 183,.row (vL aB al aC) au 9 1]/\AF DO V' K Z/\AF Bf V' al au/\AK (CD .i64) V' ag Rt H/\AK BS V' a2 y x1.AG/\AK Au V' a4 z x3.BF/\AK Bf V' a7 N X.Am/\AK Bf V' a8 W X.AX/\AK Au V' ai aj af/\aQ al=some r) Y ?_ λaQ U=>?_
  ·rintro L' _ M' ⟨al,aB,aC,au,rfl,rfl,b9,bA,_,_,_,_,_,bB,U⟩;refine Yr.QY 5 Y (λbC av bc bd=>?_);have bf:=BV bA av bc bd;have bg:=AK.mono bB av;have bh:=AF.mono av b9;refine AD.RV Aa Y Y ?_;have⟨bj,U⟩:=AL U;refine Yr.app (nm:=(K++[(⟨x5,x3.Ab,(AN H O),al,af⟩:B3)]).length) 3 6 Y zp (λ_ _=>Y) bj (λbE bF=>?_);have bG:AF DO bC (K++[(⟨x5,x3.Ab,(AN H O),al,af⟩:B3)]) (Z++[vI x5,vI x3.Ab,vI (AN H O),vL aB al aC,vL ai af aj]):=AF.app bh ⟨_,_,Y,⟨_,_,_,_,Y,bf,bg⟩,Y⟩;exact r4
  ·refine lq (λaI L' V' M'=>∃(ah:List A9),∃aw ax ak,∃(ab:Int),L'=[(2,sI x5),(4,.ptr 0 0),(5,.ptr 1 0),(7,.ptr 2 0),(9,sL ad K ae),(12,.ptr 4 0),(31,sL ag H Rt),(32,sN H),(33,sI O),(47,sL a7 X.Am N),(48,sN X.Am),(49,sI ab)]/\M'=[.Bp (Vk x1 a2 y) 25,.Bp (ACD x3 a4 z) 66,.Bp (XY X a7 N a8 W) 130,.row (vL ad K ae) Z 183 5,.Bp [sI x5,sI x3.Ab,sI (AN H O),sL aw ah ax,sL ai af aj] 183,.row (vL aw ah ax) ak 9 1]/\AF DO V' K Z/\AF Bf V' ah ak/\AK (CD .i64) V' ag Rt H/\AK Bf V' a7 N X.Am/\AK BS V' a2 y x1.AG/\AK Au V' a4 z x3.BF/\AK Bf V' a8 W X.AX/\AK Au V' ai aj af/\GI X x1 x3 aQ aI ah ab=some r) Y ⟨_,_,_,_,_,Y,Y,b7,b8,b1,b5,b3,b4,b6,b2,U⟩ ?_;rintro aI L' bk M' ⟨ah,aw,ax,ak,ab,rfl,rfl,_,bl,_,bm,bn,_,_,_,U⟩;refine i4 U λhb U=>?_;have⟨ay,U⟩:=AL U;obtain⟨_,rfl,az⟩:=AK.get bm ay;refine Yr.ia Y ⟨ay.1,ay.2,az.some⟩ (Yr.ld (x:=vS (AN X.Am ab)) Y az Y (Yr.DU [(0,true),(1,true),(3,true),(4,true),(2,false),(5,false)] Y (Yr.cb U Y (Lo x1 (AN X.Am ab) bn) λbH U=>?_)));refine sm U (λaJ L' V' M'=>∃(an:List A9),∃a1 a6 ao,L'=[(2,sI x5),(4,.ptr 0 0),(5,.ptr 1 0),(7,.ptr 2 0),(9,sL ad K ae),(12,.ptr 4 0),(31,sL ag H Rt),(32,sN H),(33,sI O),(47,sL a7 X.Am N),(48,sN X.Am),(49,sI ab)]/\M'=[.Bp (Vk x1 a2 y) 25,.Bp (ACD x3 a4 z) 66,.Bp (XY X a7 N a8 W) 130,.row (vL ad K ae) Z 183 5,.Bp [sI x5,sI x3.Ab,sI (AN H O),sL a1 an a6,sL ai af aj] 183,.row (vL a1 an a6) ao 9 1]/\AF DO V' K Z/\AF Bf V' an ao/\AK (CD .i64) V' ag Rt H/\AK Bf V' a7 N X.Am/\AK BS V' a2 y x1.AG/\AK Au V' a4 z x3.BF/\AK Bf V' a8 W X.AX/\AK Au V' ai aj af/\aJ an=some r) Y ?_ λaJ U=>?_
   ·rintro L' _ M' ⟨an,a1,a6,ao,rfl,rfl,_,_,_,_,_,_,_,_,U⟩;exact rd
   ·refine i4 U λ_ U=>?_;refine Yr.RV Y ?_;have⟨bo,U⟩:=AL U;refine Yr.app (nm:=(ah++[(AN X.Am ab)]).length) 5 6 Y zp (λ_ _=>Y) bo (λbI bJ=>?_);have bK:AF Bf bk (ah++[(AN X.Am ab)]) (ak++[vS (AN X.Am ab)]):=AF.app bl ⟨_,_,Y,Y,Y⟩;exact SO 6 Y
def Hk(nd:Bu)(t:Int):AA Bu:=Az (G3 nd.table t) λz=>some (cond (z.2==0) {nd with table:=z.1} nd)
theorem Oy(nd:Bu)(t:Int){b:Nat}{A:NA}(K:NdV V nd A){r:Bu}(U:Hk nd t=some r):Sx 103 [vP y,vP b,vI t] [.row (vR b) (ndC nd A) 96 7] V (λV' e M'=>∃v,e=.returned v/\v=.tuple ⟨[]⟩/\∃ag kg aq kq,M'=[.row (vR b) (ndC r {A with ag:=ag,kg:=kg,aq:=aq,kq:=kq}) 96 7]/\NdV V' r {A with ag:=ag,kg:=kg,aq:=aq,kq:=kq}/\r={nd with table:=r.table}):=by
 have⟨z,N,U⟩:=AO U;cases U;refine sx Tryz.func103 ?_;refine Yr.O5 (l:=(gv9 nd.table A.ag A.kg A.aq A.kq)) 0 Y (BE.part (off:=0) (λj v O=>by simpa using O) 2 2 Y) Y (Yr.call Y (VP nd.table t K.g K.q N) ?_);rintro _ _ H ⟨a1,k1,a2,k2,rfl,h1,h2⟩;refine xr Y ?_;cases W:(z.2==0)with
 |true=>
  refine CT Y Y ?_;exact Yr.P6 0 Y (Ae Y) (Yr.SL Y ⟨Y,Y,_,Y,Y,a1,k1,a2,k2,Y,⟨K.p.mono H,h1,h2⟩,Y⟩)
 |false=>
  refine CY Y Y ?_;exact Yr.SL Y ⟨Y,Y,_,Y,Y,A.ag,A.kg,A.aq,A.kq,Y,K.mono H,Y⟩
def Dw(z:List B3)(H:(List AR)->AA (List AR×Int)):Nat->(List AR)->Int->AA (List AR×Int)
 |0,_,_=>none|O+1,K,y=>cond (decide (y<(z.length:Int))) (Ba (0<=y/\y<(z.length:Int)) (Ba (0<=(0:Int)/\0<=y/\y<=(z.length:Int)) (Az (CK ((z.take y.toNat).drop (0:Int).toNat) (λX=>Jm X (AN z y))) λW=>cond W (some (([]:List AR),8)) (Az (NZ K ((AN z y).BF)) λN=>cond (N.2 !=0) (some (([]:List AR),8)) (Dw z H O N.1 (AB (y+1))))))) (H K)
def EJ(H:List B3)(z:AA (List AR×Int)):Nat->Int->AA (List AR×Int)
 |0,_=>none|K+1,y=>cond (decide (y<(H.length:Int))) (Ba (0<=y/\y<(H.length:Int)) (Az (Fa ((AN H y).BF)) λN=>cond (!N) (some (([]:List AR),1)) (EJ H z K (AB (y+1))))) z
def Fv(H:List B3)(W:Int)(X:Int)(Z:(List B3)->AA (List AR×Int)):Nat->(List B3)->Int->AA (List AR×Int)
 |0,_,_=>none|aa+1,z,y=>cond (decide (y<(H.length:Int))) (Ba (0<=y/\y<(H.length:Int)) (Az (CG ((((AN H y).Is==W)&&((AN H y).To==X))==true) (CK z (λy0=>Hj y0 (AN H y)))) λN=>jn (λ(O:List B3)=>Fv H W X Z aa O (AB (y+1))) (λK=>cond ((((AN H y).Is==W)&&((AN H y).To==X))&&(!N)) (Ba ((z++[(AN H y)]).length*72<=140737488355328) (K (z++[(AN H y)]))) (K z)))) (Z z)
def HW(O:Int)(W:Int)(N:List B3):AA (List AR×Int):=
 (jn (λ(y:List B3)=>cond ((y.length:Int)==0) (some (([]:List AR),9)) (jn (jn (λ(z:List AR)=>some (z,0)) (λH=>Dw y H ((y.length:Int).toNat+1) ([]:List AR) 0)) (λK=>EJ y K ((y.length:Int).toNat+1) 0))) (λX=>Fv N O W X ((N.length:Int).toNat+1) ([]:List B3) 0))
theorem We(x1:Int)(x2:Int)(O:List B3){a4:AA Addr}(h4:AK DO V a4 y O){r:List AR×Int}(U:HW x1 x2 O=some r):Sp 107 [vI x1,vI x2,vL a4 O y] V (λV' v=>∃ar au,v=.tuple ⟨[vL ar r.1 au,vI (r.2)]⟩/\AK Au V' ar au r.1):=by
 unfold HW at U;refine se Tryz.func107 ?_;refine AD.run Aa 16 Y (AD.Eh 183 5 Y ?_);have h5:AF DO V ([]:List B3) []:=AF.nil;refine sn U (λJ8 L' V' M'=>∃(H:List B3),∃a6 k6 X,L'=[(8,sL a6 H k6)]/\M'=[.row (vL a6 H k6) X 183 5]/\AF DO V' H X/\J8 H=some r) Y ?_ λJ8 U=>?_
 ·rintro L' _ M' ⟨H,a6,k6,X,rfl,rfl,_,U⟩;refine i1 U λhb U=>?_;refine AD.run Aa 8 Y ?_;refine sn U (λaA L' V' M'=>L'=[(8,sL a6 H k6)]/\M'=[.row (vL a6 H k6) X 183 5]/\AF DO V' H X/\aA=some r) Y ?_ λaA U=>?_
  ·rintro L' _ M' ⟨rfl,rfl,bm,U⟩;refine AD.run Aa 11 Y ?_;refine sn U (λaB L' V' M'=>∃(aq:List AR),∃aC LI,L'=[(13,sL aC aq LI)]/\M'=[]/\AK Au V' aC LI aq/\aB aq=some r) Y ?_ λaB U=>?_
   ·rintro L' _ M' ⟨aq,aC,LI,rfl,rfl,_,U⟩;exact rt
   ·refine Yr.QY 0 Y (λb9 aM aN aO=>?_);have aP:=BV bm aM aN aO;refine Yr.cut 0 [8,13,59,60,61] Y ?_;refine lq (λaQ L' V' M'=>∃(ae:List AR),∃aD aE,∃(N:Int),L'=[(8,sL a6 H k6),(13,sL aD ae aE),(59,sL a6 H k6),(60,sN H),(61,sI N)]/\M'=[]/\AK Au V' aD aE ae/\AK DO V' a6 k6 H/\Dw H aB aQ ae N=some r) Y ⟨_,_,_,_,Y,Y,AK.nil,aP,U⟩ ?_;rintro aQ L' _ M' ⟨ae,aD,aE,N,rfl,rfl,_,aR,U⟩;refine i4 U λhb U=>?_;have⟨aF,U⟩:=AL U;have⟨_,aS,av⟩:=AK.get aR aF;obtain⟨bn,bo,aT,aU,rfl,bp,bq⟩:=aS;refine Yr.ia Y ⟨aF.1,aF.2,av.some⟩ (Yr.ld (x:=vA (XW (AN H N) bn bo aT aU)) Y av Y ?_);have⟨br,U⟩:=AL U;refine xr Y (AIt Aa (c:=DO) Y Y (lo:=0) (hi:=N) Y Y aR zp Y br (λbA bB bC=>?_));refine xr Y (HZ 0 Y Y Y Y (λ_=>Y) (λ_=>Y) (λbD bE aw ax=>?_));have bs:=AK.mono bp aw;have aV:=AK.mono bq aw;refine Fe Y Y ?_;refine Yr.cb U Y (FK ((H.take N.toNat).drop (0:Int).toNat) (λy0=>Jm y0 (AN H N)) tu (λV' hv y0 _ r aG hr=>by obtain⟨_,_,_,_,rfl,s0,s1⟩:=aG;exact Um y0 (AN H N) s0 s1 (AK.mono bs hv) (AK.mono aV hv) (Bi.mono ax hv) hr)) λbF U=>?_;refine i1 U λhb U=>?_;refine Yr.ld (x:=vL aT (AN H N).BF aU) Y (Bi.shift (Bi.part ax 4 1 Y)) Y ?_;have⟨_,aW,U⟩:=AO U;refine Yr.call Y (Vr ae ((AN H N).BF) tu aV aW) ?_;rintro _ _ _ ⟨_,_,rfl,_⟩;exact B4 U Y (λ_ U=>rt) λ_ U=>r0
  ·refine lq (λaX L' V' M'=>∃(Z:Int),L'=[(8,sL a6 H k6),(48,sL a6 H k6),(49,sN H),(50,sI Z)]/\M'=[.row (vL a6 H k6) X 183 5]/\AF DO V' H X/\EJ H aA aX Z=some r) Y tu ?_;rintro aX L' _ M' ⟨Z,rfl,rfl,bt,U⟩;refine i4 U λhb U=>?_;have⟨aY,U⟩:=AL U;refine xr Y (CX 0 Y (λb3 aZ b4=>?_));have⟨_,ba,bb⟩:=AF.get bt aY;obtain⟨bu,bw,bx,bz,rfl,_,b0⟩:=ba;have ay:0<=Z/\Z<(H.length:Int):=aY;have az:=aZ ox;refine AD.ia Aa Y Y ⟨ay.1,ay.2,az⟩ ?_;refine xr Y (KM Aa 0 (x:=vA (XW (AN H Z) bu bw bx bz)) Y Y Y ⟨bb,az⟩ Y Y ?_);refine Yr.cb U Y (Hb ((AN H Z).BF) b0) λbG U=>?_;exact B4 U Y (λ_ U=>rt) λ_ U=>r1
 ·refine lq (λa1 L' V' M'=>∃(K:List B3),∃aH aI ad,∃(z:Int),L'=[(0,sI x1),(1,sI x2),(8,sL aH K aI),(18,sL a4 O y),(19,sN O),(20,sI z)]/\M'=[.row (vL aH K aI) ad 183 5]/\AF DO V' K ad/\AK DO V' a4 y O/\Fv O x1 x2 J8 a1 K z=some r) Y ⟨_,_,_,_,_,Y,Y,h5,h4,U⟩ ?_;rintro a1 L' _ M' ⟨K,aH,aI,ad,z,rfl,rfl,b1,bc,U⟩;refine i4 U λhb U=>?_;have⟨af,U⟩:=AL U;have⟨_,aJ,ag⟩:=AK.get bc af;obtain⟨ah,ai,aj,ak,rfl,bd,bf⟩:=aJ;refine Yr.ia Y ⟨af.1,af.2,ag.some⟩ (Yr.ld (x:=vA (XW (AN O z) ah ai aj ak)) Y ag Y (xr Y (HZ 1 Y Y Y Y (λ_=>Y) (λ_=>Y) (λbg b5 aa al=>?_))));have bh:=AK.mono bd aa;have bj:=AK.mono bf aa;have a7:=AF.mono aa b1;refine Fe Y Y ?_;have⟨bk,aK,U⟩:=AO U;refine xr Y (ZC (vB bk) Y Y (λ_ hv hl=>λb2=>FK K (λy0=>Hj y0 (AN O z)) (BV a7 hv (hl 0 _ _ _ _ _ _ Y).1 (hl 0 _ _ _ _ _ _ Y).2) (λV' aL y0 _ r aG hr=>by obtain⟨_,_,_,_,rfl,s0,s1⟩:=aG;exact Un y0 (AN O z) s0 s1 (AK.mono bh (hv.trans aL)) (AK.mono bj (hv.trans aL)) (Bi.mono al (hv.trans aL)) hr) (Nq aK (Bv b2))) ?_);refine sm U (λa8 L' V' M'=>∃(W:List B3),∃an ao ab,L'=[(0,sI x1),(1,sI x2),(8,sL an W ao),(18,sL a4 O y),(19,sN O),(20,sI z)]/\M'=[.row (vL an W ao) ab 183 5]/\AF DO V' W ab/\AK DO V' a4 y O/\a8 W=some r) Y ?_ λa8 U=>?_
  ·rintro L' _ M' ⟨W,an,ao,ab,rfl,rfl,_,_,U⟩;exact rd
  ·refine B4 U Y (λ_ U=>?_) λ_ U=>r1;refine Yr.ld (x:=vA (XW (AN O z) ah ai aj ak)) Y al Y (Yr.RV Y ?_);have⟨bl,U⟩:=AL U;refine Yr.app (nm:=(K++[(AN O z)]).length) 0 2 Y zp (λ_ _=>Y) bl (λb6 b7=>?_);have b8:AF DO bg (K++[(AN O z)]) (ad++(XW (AN O z) ah ai aj ak)):=AF.app a7 ⟨_,_,Y,tu,Y⟩;exact r1
def Ek(O:AQ)(H:A9)(W:Ah):AA ((Except Gk Unit)×AQ):=
 (Az (IN H) λX=>jn (λ(z:AQ)=>Az (CG ((!z.DN.G7)==true) (CP z.DN.AX H)) λZ=>jn (λ(y:AQ)=>Az (Nc y.AS.DB H) λaa=>some ((.ok ()),(⟨y.state,⟨y.DN.G7,y.DN.Am,y.DN.AX⟩,y.vars,(NQ H W y.own),⟨⟨y.AS.Ad.DY,y.AS.Ad.Code,y.AS.Ad.Out⟩,y.AS.Am,aa,y.AS.AX,y.AS.NG,y.AS.Steps⟩⟩:AQ))) (λK=>cond ((!z.DN.G7)&&(!Z)) (Az (Ki H) λab=>I9 ab (λad=>some ((.error ad),z)) λag=>K z) (K z))) (λN=>cond (!X) (Az (CR 1004) λae=>I9 ae (λaf=>some ((.error af),O)) λah=>N O) (N O)))
theorem OQ(x1:AQ)(H:A9)(W:Ah)(aD:Dc V y z N x1 X){r:(Except Gk Unit)×AQ}(U:Ek x1 H W=some r):Sx 203 [vP y,vS H,vA (Te W)] X V (λV' e M'=>Dc V' y z N r.2 M'/\e=Pv 246 (λ(_:Unit)=>.tuple ⟨[]⟩) r.1):=by
 obtain⟨_,_,_,_,_,_,_,_,_,_,_,_,_,_,_,_,_,_,rfl,_,_,_,_,_,_,_⟩:=aD;refine sx Tryz.func203 ?_;refine Yr.cb U Y (Mh H) λaG U=>?_;refine sm U (λax L' V' M'=>∃(K:AQ),∃ao LI aq T3 ak O6 ay UP Z az XO aa a1 Rt ab a6 k20 ad,L'=[(0,sP y),(1,sS H),(5,.ptr 7 0)]/\M'=mR y z N K ao LI aq T3 ak O6 ay UP Z az XO aa a1 Rt ab a6 k20 ad [.Bp (Yl W) 60]/\mJ V' K ao LI aq T3 ak O6 Z aa ab ad/\ax K=some r) Y ?_ λax U=>?_
 ·rintro L' _ M' ⟨K,ao,LI,aq,T3,ak,O6,ay,UP,Z,az,XO,aa,a1,Rt,ab,a6,k20,ad,rfl,rfl,⟨_,_,aE,_,_,_,_⟩,U⟩;refine Yr.O5 (l:=[vB K.DN.G7]) 0 Y (Ar Y) Y (Yr.O5 (l:=[vL ak K.DN.AX O6]) 0 Y (Ar Y) Y (Gj U Y (FQ K.DN.AX H aE) λaH U=>?_));refine sm U (λa7 L' V' M'=>∃(O:AQ),∃ar WT au k26 av k27 a8 k28 ae aA Yg af aw k30 ag aB k31 ah,L'=[(0,sP y),(1,sS H),(5,.ptr 7 0)]/\M'=mR y z N O ar WT au k26 av k27 a8 k28 ae aA Yg af aw k30 ag aB k31 ah [.Bp (Yl W) 60]/\mJ V' O ar WT au k26 av k27 ae af ag ah/\a7 O=some r) Y ?_ λa7 U=>?_
  ·rintro L' _ M' ⟨O,ar,WT,au,k26,av,k27,a8,k28,ae,aA,Yg,af,aw,k30,ag,aB,k31,ah,rfl,rfl,⟨_,_,_,_,_,aF,_⟩,U⟩;refine Yr.O5 (l:=[vL aw O.AS.DB k30]) 0 Y (Ar Y) Y ?_;have⟨_,aC,U⟩:=AO U;refine xr Y (Mb 5 Y Y Y Y (Vu O.AS.DB H aF aC) ?_);rintro _ _ _ _ _ _;refine⟨_,Y,?_⟩;refine Yr.P6 0 Y (Ae Y) ?_;refine Yr.DU (pm 7 0 63) Y ?_;refine Yr.Jw (l:=[.map (some N)]) 0 Y (Ar Y) ?_;refine xr Y (Ma (v:=W) 2 Y Y Y Y Tryz.underlying241 Tryz.underlying9 Y Y Y Y Y ?_);exact rf
  ·refine i4 U λ_ U=>?_;refine xr Y ?_;have⟨_,al,U⟩:=AO U;rcases EM U with⟨_,ai,U⟩|⟨_,ai,U⟩
   ·refine Y.GC [] Y (Mi H al) ai ?_;rintro _ _ _ rfl;cases U;exact tu
   refine Y.GB [] Y (Mi H al) ai ?_;rintro _ _ _ rfl;refine⟨_,Y,?_⟩;exact rd
 ·refine i4 U λ_ U=>?_;refine xr Y ?_;have⟨_,an,U⟩:=AO U;rcases EM U with⟨_,aj,U⟩|⟨_,aj,U⟩
  ·refine Y.GC [] Y (Co 1004 an) aj ?_;rintro _ _ _ rfl;cases U;exact tu
  refine Y.GB [] Y (Co 1004 an) aj ?_;rintro _ _ _ rfl;refine⟨_,Y,?_⟩;exact rd
def IP(O:AQ)(H:Int)(K:Ah):AA ((Except Gk Ah)×AQ):=
 (cond (H==9) (Az (CI (K.BD==1)) λax=>I9 ax (λay=>some ((.error ay),O)) λaI=>Az (Qc K.N) λaa=>Az (F3 aa.1 aa.2) λaz=>I9 az (λa1=>some ((.error a1),O)) λa6=>some ((.ok a6),O)) (cond (H==18) (Az (CI (K.BD==3)) λa7=>I9 a7 (λa8=>some ((.error a8),O)) λaJ=>Az (Db (K.N==0)) λaA=>some ((.ok aA),O)) (cond (H==20) (Az (CI (K.BD==1)) λaB=>I9 aB (λaC=>some ((.error aC),O)) λaK=>Az (TU K.N) λaD=>Az (IZ aD) λaE=>I9 aE (λab=>some ((.error ab),O)) λad=>some ((.ok ad),O)) (cond (H==21) (Az (CI (K.BD==2)) λae=>I9 ae (λaf=>some ((.error af),O)) λaF=>Az (GY (K.S.length:Int)) λag=>some ((.ok ag),O)) (Az (CI (K.BD==2)) λah=>I9 ah (λai=>some ((.error ai),O)) λaG=>Az (IQ O K.S) λy=>I9 y.1 (λaj=>some ((.error aj),y.2)) λz=>cond (H==24) (Az (Db (z.BD !=0)) λak=>some ((.ok ak),y.2)) (cond ((H==22)&&(z.BD==0)) (Az (GY 0) λal=>some ((.ok al),y.2)) (cond ((H==23)&&(z.BD==0)) (Az (IZ ([]:A9)) λan=>I9 an (λao=>some ((.error ao),y.2)) λaq=>some ((.ok aq),y.2)) (jn (λ(ar:Bool)(W:AQ)=>jn (λ(au:AQ)=>some ((.ok z),au)) (λX=>cond ar (Az (CR 1003) λav=>I9 av (λaw=>some ((.error aw),W)) λaH=>X W) (X W))) (λZ=>cond ((H==22)&&(z.BD !=1)) (Z ((H==22)&&(z.BD !=1)) (y.2)) (Z ((H==23)&&(z.BD !=2)) (y.2)))))))))))
theorem TE(x1:AQ)(bl:Int)(H:Ah)(b7:Dc V y z N x1 X)(bm:Hz V){r:(Except Gk Ah)×AQ}(U:IP x1 bl H=some r):Sx 219 [vP y,vI bl,vA (Te H)] X V (λV' e M'=>Dc V' y z N r.2 M'/\e=Pv 246 (λ(aa:Ah)=>(vA (Te aa):Value)) r.1):=by
 obtain⟨_,_,_,_,_,_,_,_,_,_,_,_,_,_,_,_,_,_,rfl,_,_,_,_,_,_,_⟩:=b7;refine sx Tryz.func219 ?_;refine B4 U Y (λ_ U=>?_) λhb U=>?_
 ·refine xr Y ?_;have⟨_,aK,U⟩:=AO U;rcases EM U with⟨_,ao,U⟩|⟨_,ao,U⟩
  ·refine Y.GC [] Y (CB (H.BD==1) aK) ao ?_;rintro _ _ _ rfl;cases U;exact tu
  refine Y.GB [] Y (CB (H.BD==1) aK) ao ?_;rintro _ _ _ rfl;refine⟨_,Y,?_⟩;refine Yr.cb U Y (VI H.N) λaJ U=>?_;refine xr Y ?_;have⟨_,aL,U⟩:=AO U;rcases EM U with⟨_,aq,U⟩|⟨_,aq,U⟩
  ·refine Y.GC [] Y (Iw aJ.1 aJ.2 aL) aq ?_;rintro _ _ _ rfl;cases U;exact tu
  refine Y.GB [] Y (Iw aJ.1 aJ.2 aL) aq ?_;rintro _ _ _ rfl;refine⟨_,Y,?_⟩;exact rt
 ·refine B4 U Y (λ_ U=>?_) λhb U=>?_
  ·refine xr Y ?_;have⟨_,aM,U⟩:=AO U;rcases EM U with⟨_,ar,U⟩|⟨_,ar,U⟩
   ·refine Y.GC [] Y (CB (H.BD==3) aM) ar ?_;rintro _ _ _ rfl;cases U;exact tu
   refine Y.GB [] Y (CB (H.BD==3) aM) ar ?_;rintro _ _ _ rfl;refine⟨_,Y,?_⟩;refine Yr.cb U Y (Fy (H.N==0)) λbE U=>?_;exact rt
  ·refine B4 U Y (λ_ U=>?_) λhb U=>?_
   ·refine xr Y ?_;have⟨_,aN,U⟩:=AO U;rcases EM U with⟨_,au,U⟩|⟨_,au,U⟩
    ·refine Y.GC [] Y (CB (H.BD==1) aN) au ?_;rintro _ _ _ rfl;cases U;exact tu
    refine Y.GB [] Y (CB (H.BD==1) aN) au ?_;rintro _ _ bn rfl;have b8:=Hz.mono bm bn;refine⟨_,Y,?_⟩;refine Yr.cb U Y (AEO H.N b8) λbo U=>?_;refine xr Y ?_;have⟨_,aO,U⟩:=AO U;rcases EM U with⟨_,K,U⟩|⟨_,K,U⟩
    ·refine Y.GC [] Y (NT bo aO) K ?_;rintro _ _ _ rfl;cases U;exact tu
    refine Y.GB [] Y (NT bo aO) K ?_;rintro _ _ _ rfl;refine⟨_,Y,?_⟩;exact rt
   ·refine B4 U Y (λ_ U=>?_) λhb U=>?_
    ·refine xr Y ?_;have⟨_,av,U⟩:=AO U;rcases EM U with⟨_,O,U⟩|⟨_,O,U⟩
     ·refine Y.GC [] Y (CB (H.BD==2) av) O ?_;rintro _ _ _ rfl;cases U;exact tu
     refine Y.GB [] Y (CB (H.BD==2) av) O ?_;rintro _ _ _ rfl;refine⟨_,Y,?_⟩;refine Yr.cb U Y (Mj (H.S.length:Int)) λbA U=>?_;exact rt
    ·refine xr Y ?_;have⟨_,aw,U⟩:=AO U;rcases EM U with⟨_,W,U⟩|⟨_,W,U⟩
     ·refine Y.GC [] Y (CB (H.BD==2) aw) W ?_;rintro _ _ _ rfl;cases U;exact tu
     refine Y.GB [] Y (CB (H.BD==2) aw) W ?_;rintro _ _ bj rfl;have bB:=Hz.mono bm bj;refine yx ?_;have⟨_,bk,U⟩:=AO U;refine Y.cx U [0,1,2,3,4,5,6] Y (TF x1 H.S tu bk) (λax b9 U=>?_);rintro _ _ _ ⟨_,_,_,_,_,_,_,_,_,_,_,_,_,_,_,_,_,_,rfl,bp,bq,br,bs,bt,bu,bw⟩;refine⟨_,Y,?_⟩;refine B4 U Y (λ_ U=>?_) λhb U=>?_
     ·refine Yr.cb U Y (Fy (ax.BD !=0)) λbC U=>?_;exact rt
     ·refine B4 U Y (λ_ U=>?_) λhb U=>?_
      ·refine Yr.cb U Y (Mj 0) λbD U=>?_;exact rt
      ·refine B4 U Y (λ_ U=>?_) λhb U=>?_
       ·refine xr Y ?_;have⟨_,ay,U⟩:=AO U;rcases EM U with⟨_,Z,U⟩|⟨_,Z,U⟩
        ·refine Y.GC [] Y (NT ([]:A9) ay) Z ?_;rintro _ _ _ rfl;cases U;exact tu
        refine Y.GB [] Y (NT ([]:A9) ay) Z ?_;rintro _ _ _ rfl;refine⟨_,Y,?_⟩;exact rt
       ·refine sm U (λaP L' V' M'=>∃(az:Bool)(al:AQ),∃a1 a6 a7 a8 aA aB aQ aR ab aS aT ad aU aV ae aW aX af,L'=[(6,.ptr 8 0),(7,.ptr 9 0),(84,sB az)]/\M'=mR y z N al a1 a6 a7 a8 aA aB aQ aR ab aS aT ad aU aV ae aW aX af [.Bp (Yl H) 60,.Bp [sI 0,sI 0,sS []] 60,.Bp (Yl ax) 60]/\mJ V' al a1 a6 a7 a8 aA aB ab ad ae af/\Hz V'/\aP az al=some r) Y ?_ λaP U=>?_
        ·rintro L' _ M' ⟨az,al,a1,a6,a7,a8,aA,aB,aQ,aR,ab,aS,aT,ad,aU,aV,ae,aW,aX,af,rfl,rfl,⟨bx,bz,b0,b1,b3,b4,b5⟩,b6,U⟩;refine sm U (λaY L' V' M'=>∃(an:AQ),∃aC aD aE aF aG aH aZ ba ag bb bc ah bd bf ai bg bh aj,L'=[(6,.ptr 8 0),(7,.ptr 9 0)]/\M'=mR y z N an aC aD aE aF aG aH aZ ba ag bb bc ah bd bf ai bg bh aj [.Bp (Yl H) 60,.Bp [sI 0,sI 0,sS []] 60,.Bp (Yl ax) 60]/\mJ V' an aC aD aE aF aG aH ag ah ai aj/\Hz V'/\aY an=some r) Y ?_ λaY U=>?_
         ·rintro L' _ M' ⟨an,aC,aD,aE,aF,aG,aH,aZ,ba,ag,bb,bc,ah,bd,bf,ai,bg,bh,aj,rfl,rfl,⟨_,_,_,_,_,_,_⟩,_,U⟩;exact rt
         ·refine B4 U Y (λ_ U=>?_) λ_ U=>?_
          ·refine xr Y ?_;have⟨_,aI,U⟩:=AO U;rcases EM U with⟨_,ak,U⟩|⟨_,ak,U⟩
           ·refine Y.GC [] Y (Co 1003 aI) ak ?_;rintro _ _ _ rfl;cases U;exact tu
           refine Y.GB [] Y (Co 1003 aI) ak ?_;rintro _ _ _ rfl;refine⟨_,Y,?_⟩;exact rd
          ·exact Yr.rd Y ⟨_,_,_,_,_,_,_,_,_,_,_,_,_,_,_,_,_,_,_,Y,Y,⟨bx,bz,b0,b1,b3,b4,b5⟩,b6,U⟩
        ·refine i4 U λ_ U=>?_;exact Yr.rd Y ⟨_,_,_,_,_,_,_,_,_,_,_,_,_,_,_,_,_,_,_,_,Y,Y,⟨bp,bq,br,bs,bt,bu,bw⟩,tu,U⟩
end Go.Proofs.YthjnkknigpkldaaGreatDoor
