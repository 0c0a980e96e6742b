/-
  A part of the proof that the statement TopMigratesUptoCardSaid holds (Mb Mc Md Me Mf Mg Mh Mi Mj).
  Conditions: none.
-/
import Derived.Test.YthjnkknigpkldaaGreatDoorPa
import Derived.Laws.IdiomStrings
import Derived.Laws.MakeOwn
import Derived.Lib.BufferWrite
import Derived.Lib.UnsafeStr
import Derived.Sort.Grow
import Derived.Lib.SlicesCompact
import Derived.ProofKit
import Derived.OpenShut
import Derived.JoinedCond
import Derived.Lib.SmallJoins
import Derived.Deep.Slices
import Derived.Carry
import Derived.Lib.SliceRun
import Derived.Lib.Overlaps
import Derived.Lib.AppendZerosOnto
import Derived.Test.YthjnkknigpkldaaGreatDoorRows
import Derived.Shelf.SlIterI.Collect
import Derived.Lib.Builder
import Derived.Lib.AppendStr
import Derived.ChangeKeysEq
import Derived.RangeFuncLeaves
import Derived.Maps.OwnSet
import Derived.SizedLaws
set_option linter.all false
set_option maxRecDepth 100000
set_option maxHeartbeats 4000000
namespace Go.Proofs.YthjnkknigpkldaaGreatDoor
variable {C:Ctx} {all rest:List Oper} {listed:List Bool} {ends mask env env':List Nat} {n0 n n' i sz off c e b' t y m c2 nm z o' f nt g q m':Nat} {V1 V V0 V':AM} {lr:List B7} {k:List Kt} {L:Fr} {M M' X:List OB} {o:Oper} {G aG:List (Nat×Bool)} {ag:Je} {aa:G6} {cs zs O vs nv args ds:List Value} {x:Value} {P:Program} {w':World} {FR:KC} {bk:DFr} {T:List G6} {aJ:Op} {af aw:Operand} {au:Array Value} {ad:Addr} {ak:List SV} {kx aF aN:IntKind} {Z aK lo hi:Int} {fn:Func} {aL bl:Bool} {aj:Code} {aX:BinOp}
def Qm(nt:Nat)(all:List Oper)(lr:List B7)(i:Nat)(L:Fr):AA (Oper×List (Nat×Bool)×Nat):=
 match nth all i with
 |some o=>match CF nt all lr L o with
  |some (G,d)=>some (o,G,d)|none=>none
 |none=>none
theorem Ie{d:Nat}{p:List (Nat×Bool)}{x:SV}(y:Qm C.nt all lr i L=some (o,G,d))(hn:n'=n+1)(Z:∀env t w,Ng env M L t->N3 env M lr t->Holds V1 w->RdM env M (Sd mask 0 n0 M) w->Di t G->x.ok M/\(execOp (⟨t,[]⟩:Act).eval o).run C.P w=.ok (.value (den env x)) w)(h:AD C ⟨.draw ⟨all,Ha listed i,n,ends,n0,mask,V1,p,⟨d,G,x,d⟩::lr⟩::k,F9 G d x L,M⟩ V):AD C ⟨.draw ⟨all,listed,n',ends,n0,mask,V1,(i,true)::p,lr⟩::k,L,M⟩ V:=by
 subst hn;unfold Qm at y;split at y<;>try (simp at y;done)
 rename_i o' ho;split at y<;>try (simp at y;done)
 rename_i G' d' K;simp only[AE,BJ]at y;obtain⟨rfl,rfl,rfl⟩:=y;have⟨hg,H,N,hf,O⟩:=EG K;refine Sc (D:=⟨all,listed,n+1,ends,n0,mask,V1,(i,true)::p,lr⟩) (r:=none) (x:=x) Y Y ho hg H N hf (L':=F9 G' d' x L) ?_ (λenv t w g1 g2 g3 g4=>⟨λW=>(Z env t w g1 g2 g3 g4 W).1,λW=>(Z env t w g1 g2 g3 g4 W).2,λr0 hr=>by simp at hr⟩) h;rcases O with rfl|⟨X,z⟩
 ·exact .inl ⟨Y,Y⟩
 ·cases G' with
  |nil=>exact absurd Y X|cons g G=>exact .inr ⟨Y,z⟩
theorem G9{x:SV}{d:Nat}(H:CF C.nt all lr L o=some (G,d))(y:∀env t w,Ng env M L t->N3 env M lr t->Holds V w->Di t G->x.ok M/\(execOp (⟨t,[]⟩:Act).eval o).run C.P w=.ok (.value (den env x)) w)(h:AD C ⟨.ops rest all (⟨d,G,x,d⟩::lr)::k,F9 G d x L,M⟩ V):AD C ⟨.ops (o::rest) all lr::k,L,M⟩ V:=
 HY H (λFR env t w h2 h3 z hG=>⟨(y env t w h3 z h2.holds hG).1,λ_ _ K=>FT (y env t w h3 z h2.holds hG).2 (K w h2)⟩) h
section
variable {P:Program} {T:List G6} (hT:K2 P T)
include hT
theorem AMv{t:Array Value}(K:NU env M t ag)(hG:Di t G){l:List UInt8}{n:Int}(y:idxOf T ag G o.op=some (l,n))(N:0<=n/\n<l.length)(w:World):(execOp (⟨t,[]⟩:Act).eval o).run P w=.ok (.value (.int .u8 (B0 l n.toNat))) w:=by
 have⟨O,b2⟩:=N;unfold idxOf at y;split at y<;>try (simp at y;done)
 rename_i ty x i H;split at y<;>try (simp at y;done)
 rename_i dd W;split at y<;>try (simp at y;done)
 rename_i m X hu;split at y<;>try (simp at y;done)
 rename_i l' k' n' Z hi;simp only[AE,BJ]at y;obtain⟨rfl,rfl⟩:=y;have z:n'.toNat<l'.length:=ox
 have e1:((⟨⟨l'⟩⟩:ByteArray)[n'.toNat]? :AA UInt8)=some (l'[n'.toNat]'z):=by
  have:n'.toNat<(⟨⟨l'⟩⟩:ByteArray).size:=z;rw[getElem?_pos (⟨⟨l'⟩⟩:ByteArray) n'.toNat this];rfl
 unfold execOp;simp only[H,BN K hG Z,BN K hG hi,den,Instr.index,asIntOf,Sem.run_bind,Sem.run_pure,Result.andThen_ok,run_underlying (AEt hT W ox hu),if_pos O,e1];simp[B0,z]
theorem AOS{t:Array Value}(N:NU env M t ag)(hG:Di t G){a:AA Addr}{len:Nat}{n:Int}(y:AHA T ag G o.op=some (a,len,n,sz))(X:0<=n/\n<len/\∃b o,a=some ⟨b,o,none⟩)(w:World):(execOp (⟨t,[]⟩:Act).eval o).run P w=.ok (.value (den env (.el a (n.toNat*sz)))) w:=by
 obtain⟨Z,b2,b,o',rfl⟩:=X;unfold AHA at y;split at y<;>try (simp at y;done)
 rename_i ty x i H;split at y<;>try (simp at y;done)
 rename_i dd hd;split at y<;>try (simp at y;done)
 rename_i m e aa hu;split at y<;>try (simp at y;done)
 rename_i ed K;split at y<;>try (simp at y;done)
 rename_i ab z;split at y<;>try (simp at y;done)
 rename_i a' O W k' n' hx hi;simp only[AE,BJ]at y;obtain⟨rfl,rfl,rfl,rfl⟩:=y;unfold execOp;simp only[H,BN N hG hx,BN N hG hi,den,Instr.indexAt,asIntOf,Sem.run_bind,Sem.run_pure,Result.andThen_ok,run_underlying (RM hT hd ox hu)];rw[if_pos ⟨Z,b2⟩];simp only[Sem.run_bind,Lf hT w K ox,Result.andThen_ok,Sem.run_pure,z];simp[Addr.add_lit]
theorem AOQ{t:Array Value}(z:NU env M t ag)(hG:Di t G){a:AA Addr}(H:WS T ag G o.op=some (a,off,aa))(K:Bi V a off cs)(y:cs.length=aa.size)(N:KQ aa.RI.agg cs=x){w:World}(O:Holds V w):(execOp (⟨t,[]⟩:Act).eval o).run P w=.ok (.value x) w:=by
 have⟨b,o',W,X⟩:=K;exact U9 (C:=⟨P,T,default,0,V,λ_ _ _=>True,λ_ _ _=>False⟩) hT z hG H W (λj v hv=>O _ _ (X j v hv)) y N
end
def ACL(y:Je)(G:List (Nat×Bool)):AA Operand->AA (AA Int)
 |none=>some none|some x=>match ev y G x with
  |some (.v (.int _ n))=>some (some n)|_=>none
theorem TA{t:Array Value}(y:NU env M t ag)(hG:Di t G):∀{b:AA Operand}{r:AA Int},ACL ag G b=some r->∃v,b.map (⟨t,[]⟩:Act).eval=v/\((r=none/\v=none)\/∃n k,r=some n/\v=some (.int k n))
 |none,r,h=>by simp only[ACL,AE]at h;exact⟨none,Y,.inl ⟨h.symm,Y⟩⟩
 |some x,r,h=>by
  simp only[ACL]at h;split at h<;>try (simp at h;done)
  rename_i k n z;simp only[AE]at h;exact⟨some (.int k n),by rw[Bq,BN y hG z];rfl,.inr ⟨n,k,h.symm,Y⟩⟩
def AQH(T:List G6)(y:Je)(G:List (Nat×Bool))(op:Op):AA (List UInt8×AA Int×AA Int):=
 match op with
 |.slice t x lo hi none=>match nth T t with
  |some d=>match d.size,d.RI with
   |_+1,.str=>match ev y G x,ACL y G lo,ACL y G hi with
    |some (.v (.string ⟨⟨l⟩⟩)),some a,some b=>some (l,a,b)|_,_,_=>none
   |_,_=>none
  |none=>none
 |_=>none
def O4:AA Int->Int
 |none=>0|some n=>n
def hiN(len:Nat):AA Int->Int
 |none=>len|some n=>n
def ALe(z:Je)(G:List (Nat×Bool))(op:Op):AA (List UInt8×List UInt8):=
 match op with
 |.binOp .add _ x y _=>match ev z G x,ev z G y with
  |some (.v (.string ⟨⟨a⟩⟩)),some (.v (.string ⟨⟨b⟩⟩))=>some (a,b)|_,_=>none
 |_=>none
theorem ANH{t:Array Value}(K:NU env M t ag)(hG:Di t G){a b:List UInt8}(z:ALe ag G o.op=some (a,b))(Z:a.length+b.length<=9223372036854775807)(w:World):(execOp (⟨t,[]⟩:Act).eval o).run P w=.ok (.value (.string ⟨⟨a++b⟩⟩)) w:=by
 unfold ALe at z;split at z<;>try (simp at z;done)
 rename_i ty x y cc H;split at z<;>try (simp at z;done)
 rename_i a' b' N O;simp only[AE,BJ]at z;obtain⟨rfl,rfl⟩:=z;have W:(⟨⟨a'⟩⟩:ByteArray)++⟨⟨b'⟩⟩=⟨⟨a'++b'⟩⟩:=by
  apply ByteArray.ext;rw[ByteArray.data_append];apply AHr;simp
 have X:¬(((⟨⟨a'⟩⟩:ByteArray).size+(⟨⟨b'⟩⟩:ByteArray).size:Nat):Int)>IntKind.i64.max:=by
  have h1:(⟨⟨a'⟩⟩:ByteArray).size=a'.length:=Y;have h2:(⟨⟨b'⟩⟩:ByteArray).size=b'.length:=Y;have h3:IntKind.i64.max=9223372036854775807:=Y;rw[h1,h2,h3];omega
 unfold execOp;simp only[H,BN K hG N,BN K hG O,den,binOp,Op.stringOp,if_neg X,W];simp[eqGuard]
section
variable {C:Ctx} (hT:K2 C.P C.T) {listed:List Bool} {ends:List Nat} {n0:Nat} {mask:List Nat} {V1:AM} {m':Nat} {o:Oper} {rest all:List Oper} {lr:List B7} {k:List Kt} {L:Fr} {M:List OB} {V:AM} {G:List (Nat×Bool)} {d i m:Nat}
theorem AD.cat{a b:List UInt8}(z:CF C.nt all lr L o=some (G,d))(H:ALe (Et L lr) G o.op=some (a,b))(K:P3 lr G (a.length+b.length<=9223372036854775807))(h:AD C ⟨.ops rest all (⟨d,G,.v (.string ⟨⟨a++b⟩⟩),d⟩::lr)::k,F9 G d (.v (.string ⟨⟨a++b⟩⟩)) L,M⟩ V):AD C ⟨.ops (o::rest) all lr::k,L,M⟩ V:=
 G9 (x:=.v (.string ⟨⟨a++b⟩⟩)) z (λ_ _ w h3 y _ hG=>⟨Yt,ANH (A2 h3 y) hG H (K.out y hG) w⟩) h
include hT
theorem X7{p:List (Nat×Bool)}{l:List UInt8}{n:Int}(z:Qm C.nt all lr i L=some (o,G,d))(hm:m'=m+1)(H:idxOf C.T (Et L lr) G o.op=some (l,n))(K:P3 lr G (0<=n/\n<l.length))(h:AD C ⟨.draw ⟨all,Ha listed i,m,ends,n0,mask,V1,p,⟨d,G,.v (.int .u8 (B0 l n.toNat)),d⟩::lr⟩::k,F9 G d (.v (.int .u8 (B0 l n.toNat))) L,M⟩ V):AD C ⟨.draw ⟨all,listed,m',ends,n0,mask,V1,(i,true)::p,lr⟩::k,L,M⟩ V:=
 Ie (x:=.v (.int .u8 (B0 l n.toNat))) z hm (λ_ _ w h3 y _ _ hG=>⟨Yt,AMv hT (A2 h3 y) hG H (K.out y hG) w⟩) h
theorem AD.Qp{p:List (Nat×Bool)}{a:AA Addr}{len:Nat}{n:Int}(H:Qm C.nt all lr i L=some (o,G,d))(hm:m'=m+1)(K:AHA C.T (Et L lr) G o.op=some (a,len,n,sz))(z:P3 lr G (0<=n/\n<len/\∃b o,a=some ⟨b,o,none⟩))(h:AD C ⟨.draw ⟨all,Ha listed i,m,ends,n0,mask,V1,p,⟨d,G,.el a (n.toNat*sz),d⟩::lr⟩::k,F9 G d (.el a (n.toNat*sz)) L,M⟩ V):AD C ⟨.draw ⟨all,listed,m',ends,n0,mask,V1,(i,true)::p,lr⟩::k,L,M⟩ V:=
 Ie (x:=.el a (n.toNat*sz)) H hm (λ_ _ w h3 y _ _ hG=>⟨(z.out y hG).2.2,AOS hT (A2 h3 y) hG K (z.out y hG) w⟩) h
theorem AD.P8{p:List (Nat×Bool)}{a:AA Addr}(H:Qm C.nt all lr i L=some (o,G,d))(hm:m'=m+1)(K:WS C.T (Et L lr) G o.op=some (a,off,aa))(N:P3 lr G (Bi V1 a off cs))(y:cs.length=aa.size)(O:KQ aa.RI.agg cs=x)(h:AD C ⟨.draw ⟨all,Ha listed i,m,ends,n0,mask,V1,p,⟨d,G,.v x,d⟩::lr⟩::k,F9 G d (.v x) L,M⟩ V):AD C ⟨.draw ⟨all,listed,m',ends,n0,mask,V1,(i,true)::p,lr⟩::k,L,M⟩ V:=
 Ie (x:=.v x) H hm (λ_ _ w h3 z W _ hG=>⟨Yt,AOQ hT (A2 h3 z) hG K (N.out z hG) y O W⟩) h
theorem Hp(r:Nat){p:List (Nat×Bool)}{a:AA Addr}{l:List Value}(H:Qm C.nt all lr i L=some (o,G,d))(hm:m'=m+1)(K:WS C.T (Et L lr) G o.op=some (a,off,aa))(hi:nth (Sd mask 0 n0 M) r=some (.row (.slice a n c) cs e sz))(N:P3 lr G (BE cs off l/\∃b o,a=some ⟨b,o,none⟩))(y:l.length=aa.size)(O:KQ aa.RI.agg l=x)(h:AD C ⟨.draw ⟨all,Ha listed i,m,ends,n0,mask,V1,p,⟨d,G,.v x,d⟩::lr⟩::k,F9 G d (.v x) L,M⟩ V):AD C ⟨.draw ⟨all,listed,m',ends,n0,mask,V1,(i,true)::p,lr⟩::k,L,M⟩ V:=
 Ie (x:=.v x) H hm (λ_ _ w h3 z X W hG=>⟨Yt,by
  rw[Cc]at hi;obtain⟨hl,b,o',rfl⟩:=N.out z hG;exact U9 hT (A2 h3 z) hG K Y (Hf (W.2 r _ _ _ _ hi) Y hl) y O⟩) h
end
abbrev OB.Sk:OB:=.row (.slice none 0 0) [] 0 0
def ANI(T:List G6)(t:Nat):AA Nat:=
 match nth T t with
 |some d=>match d.size,d.RI with
  |_+1,.slice e=>match nth T e with
   |some ⟨1,1,.int .u8,[.int .u8 0],_⟩=>some e|_=>none
  |_,_=>none
 |none=>none
def AQL(T:List G6)(y:Je)(op:Op):AA (Int×Nat):=
 match op with
 |.makeSlice t a b=>match ANI T t,ev y [] a,ev y [] b with
  |some e,some (.v (.int _ n)),some (.v (.int _ m))=>if n=m then some (n,e)else none
  |_,_,_=>none
 |_=>none
section
variable {C:Ctx} (hT:K2 C.P C.T) {o:Oper} {rest all:List Oper} {lr:List B7} {k:List Kt} {L:Fr} {M M':List OB} {V:AM} {d:Nat}
include hT
end
theorem D9{b:Nat}{a a':Addr}(h:a'.block=a.block):∀{o:OB},o.own b a->o.own b a'
 |.gone,y=>y.elim|.Bp _ _,y=>h.trans y|.row x _ _ _,y=>by simp only[OB.own]at y⊢;rw[h];exact y
 |.ext E,y=>by simp only[OB.own]at y⊢;rw[h];exact y
theorem LN{w:World}{b:Nat}(H:b'=b)(y:∀x:SV,x.ok M->den env' x=den env x)(K:∀x:SV,x.ok M->x.ok M'):∀{o:OB},o.sat env M w b->(∀k,o.own b ⟨k,0,none⟩->w'.heap[k]? =w.heap[k]?)->o.sat env' M' w' b'
 |.gone,_,_=>trivial|.Bp cs ty,h,z=>by
  subst H;refine⟨?_,λx N=>K x (h.2 x N)⟩;rw[z _ Y,h.1]
  congr 3
  exact Cu λx N=>(y x (h.2 x N)).symm
 |.row x cs e sz,h,z=>Nu h λg O=>z g O|.ext E,h,z=>E.frame (λb H=>z b H) h
theorem FC.AMJ{w:World}(h:FC V0 FR env V M w){o o':OB}(hi:M[i]? =some o)(af:o'≠ .gone)(e1:w'.os=w.os)(e2:w'.tape=w.tape)(e3:w'.output=w.output)(N:∀k,k<w.heap.size->¬o.own (Bm env i) ⟨k,0,none⟩->w'.heap[k]? =w.heap[k]?)(ag:o'.sat env (M.set i o') w' (Bm env i))(Z:∀a,o'.own (Bm env i) a->o.own (Bm env i) a\/w.heap.size<=a.block)(hV:DI V V')(hH:Holds V' w')(ab:∀a x,V' a=some x->V a=some x\/w.heap.size<=a.block\/o.own (Bm env i) a)(ah:∀a,o'.own (Bm env i) a->V' a=none):FC V0 FR env V' (M.set i o') w':=by
 have hf:∀b o,FR.Bp b=some o->b<w.heap.size:=λb o ho=>(An.1 (h.frame b o ho)).1;have z:∀(j:Nat)(q:OB),(M.set i o')[j]? =some q->(j≠i/\M[j]? =some q)\/(j=i/\q=o'):=by grind
 have ai:∀a:Addr,w.heap.size<=a.block->FR.Bp a.block=none:=λa H=>by
  cases hv:FR.Bp a.block with
  |none=>rfl|some x=>have:=hf _ x hv;omega
 refine⟨e1.trans h.os,e2.trans h.tape,e3.trans h.output,?_,h.le.trans hV,hH,?_,by simp[h.len],?_,?_,?_,?_,h.tb⟩
 ·intro b q W;rw[N b (hf b q W) (λho=>by have:=h.C1 i o _ hi ho;simp only at this;rw[this]at W;simp at W)];exact h.frame b q W
 ·intro a x X;rcases ab a x X with X|X|X
  ·exact h.fresh a x X
  ·grind
  ·exact .inr (h.C1 i o a hi X)
 ·intro j q W;rcases z j q W with⟨hj,y⟩|⟨hj,he⟩
  ·refine LN Y (λ_ _=>Y) (λx=>DM λ_=>GO af) (h.sat j q y) λk hk=>?_;exact N k (Dt (h.sat j q y) hk) λho=>h.apart j i q o _ hj y hi hk ho
  ·grind
 ·intro j q a W H;rcases z j q W with⟨hj,y⟩|⟨hj,he⟩
  ·cases hv:V' a with
   |none=>rfl|some x=>
    rcases ab a x hv with X|X|X
    ·rw[h.DA j q a y H]at X;simp at X
    ·have:=Dt (h.sat j q y) H;omega
    ·exact absurd X (h.apart j i q o a hj y hi H)
  ·grind
 ·intro j q a W H;rcases z j q W with⟨hj,y⟩|⟨hj,he⟩
  ·exact h.C1 j q a y H
  ·subst he;subst hj;rcases Z a H with H|H
   ·exact h.C1 j o a hi H
   ·grind
 ·intro j k q q' a aa W ad H K;rcases z j q W with⟨hj,y⟩|⟨hj,he⟩
  ·rcases z k q' ad with⟨hk,O⟩|⟨hk,ae⟩
   ·exact h.apart j k q q' a aa y O H K
   ·subst ae;subst hk;rcases Z a K with K|K
    ·exact h.apart j k q o a aa y hi H K
    ·have:=Dt (h.sat j q y) H;omega
  ·subst he;subst hj;rcases z k q' ad with⟨hk,O⟩|⟨hk,ae⟩
   ·rcases Z a H with H|H
    ·exact h.apart j k o q' a aa hi O H K
    ·have:=Dt (h.sat k q' O) K;omega
   ·grind
theorem FC.upd{w:World}(h:FC V0 FR env V M w){o o':OB}(hi:M[i]? =some o)(O:o'≠ .gone)(e1:w'.os=w.os)(e2:w'.tape=w.tape)(e3:w'.output=w.output)(y:∀k,k<w.heap.size->¬o.own (Bm env i) ⟨k,0,none⟩->w'.heap[k]? =w.heap[k]?)(K:o'.sat env (M.set i o') w' (Bm env i))(z:∀a,o'.own (Bm env i) a->o.own (Bm env i) a\/w.heap.size<=a.block):FC V0 FR env V (M.set i o') w':=by
 have X:∀a x,V a=some x->a.block<w.heap.size:=λa x H=>World.block_lt_of_cell? w a (h.holds a x H);refine h.AMJ hi O e1 e2 e3 y K z (DI.refl V) ⟨?_,h.holds.t.same (y 1 h.holds.t.lt λW=>h.tb.ne (h.C1 i o _ hi W) Y)⟩ (λa x H=>.inl H) ?_
 ·intro a x H;have Z:=h.holds a x H;have:=y a.block (X a x H) (λW=>by have:=h.DA i o a hi (D9 (a:=⟨a.block,0,none⟩) (a':=a) Y W);rw[this]at H;simp at H);unfold World.cell? at Z⊢;rw[this];exact Z
 ·intro a N;rcases z a N with N|N
  ·exact h.DA i o a hi N
  ·cases hv:V a with
   |none=>rfl|some x=>have:=X a x hv;omega
theorem FC.add{w:World}(h:FC V0 FR env V M w){o':OB}(b:Nat)(e1:w'.os=w.os)(e2:w'.tape=w.tape)(e3:w'.output=w.output)(z:∀k,k<w.heap.size->w'.heap[k]? =w.heap[k]?)(ad:o'.sat (env++[b]) (M++[o']) w' b)(N:∀a,o'.own b a->w.heap.size<=a.block):FC V0 FR (env++[b]) V (M++[o']) w':=by
 have hb:∀a x,V a=some x->a.block<w.heap.size:=λa x hx=>World.block_lt_of_cell? w a (h.holds a x hx);have hf:∀b o,FR.Bp b=some o->b<w.heap.size:=λb o O=>(An.1 (h.frame b o O)).1;have hold:∀(i:Nat)(o:OB),M[i]? =some o->Bm (env++[b]) i=Bm env i:=λi o O=>Mg (by rw[h.len];exact(As.1 O).1);have W:Bm (env++[b]) M.length=b:=by rw[<- h.len];exact Lc env b
 have H:∀(i:Nat)(o:OB),(M++[o'])[i]? =some o->M[i]? =some o\/(i=M.length/\o=o'):=by grind
 refine⟨e1.trans h.os,e2.trans h.tape,e3.trans h.output,λb o O=>by rw[z b (hf b o O)];exact h.frame b o O,h.le,⟨?_,h.holds.t.same (z 1 h.holds.t.lt)⟩,h.fresh,by simp[h.len],?_,?_,?_,?_,h.tb⟩
 ·intro a x hx;have hc:=h.holds a x hx;unfold World.cell? at hc⊢;rw[z _ (hb a x hx)];exact hc
 ·intro i o O;rcases H i o O with y|⟨hi,he⟩
  ·exact LN (hold i o y) (λx hx=>Iv h.len hx) (λx=>DM λ_=>K1 _) (h.sat i o y) λk hk=>z k (Dt (h.sat i o y) hk)
  ·grind
 ·intro i o a O K;rcases H i o O with y|⟨hi,he⟩
  ·rw[hold i o y]at K;exact h.DA i o a y K
  ·subst he;subst hi;rw[W]at K;have:=N a K;cases hv:V a with
   |none=>rfl|some x=>have:=hb a x hv;omega
 ·intro i o a O K;rcases H i o O with y|⟨hi,he⟩
  ·rw[hold i o y]at K;exact h.C1 i o a y K
  ·subst he;subst hi;rw[W]at K;have:=N a K;cases hv:FR.Bp a.block with
   |none=>rfl|some x=>have:=hf _ x hv;omega
 ·intro i j o q a ab O hq K X;rcases H i o O with y|⟨hi,he⟩
  ·rw[hold i o y]at K;rcases H j q hq with Z|⟨hj,aa⟩
   ·rw[hold j q Z]at X;exact h.apart i j o q a ab y Z K X
   ·subst aa;subst hj;rw[W]at X;have:=N a X;have:=Dt (h.sat i o y) K;omega
  ·subst he;subst hi;rw[W]at K;have:=N a K;rcases H j q hq with Z|⟨hj,aa⟩
   ·rw[hold j q Z]at X;have:=Dt (h.sat j q Z) X;omega
   ·grind
theorem FC.freeze{w:World}(h:FC V0 FR env V M w){a:AA Addr}(hi:M[i]? =some (.row (.slice a n c) cs e sz)):∃V',DI V V'/\(cs≠[]->Bi V' a 0 cs)/\FC V0 FR env V' (M.set i .Sk) w:=by
 have⟨n',O⟩:=h.sat i _ hi;have ad:∀p:Addr,(Value.slice a n c).ownBlock=some p.block->p.spot=none->∀y,cs[p.off]? =some y->w.cell? p=some y:=by
  intro p hp hs y H;have:=O.cells hp p.off y H;rw[Addr.add_lit]at this;cases p;simp only at hs;subst hs;simpa using this
 refine⟨λp=>match V p with
  |some y=>some y|none=>if(Value.slice a n c).ownBlock=some p.block/\p.spot=none then cs[p.off]? else none,?_,?_,?_⟩
 ·intro p y H;simp only[H]
 ·intro ae;rcases O.2 with⟨hv,hn⟩|⟨g,cap,cur,hv,_⟩
  ·have:cs.length=0:=by rw[O.1,hn];simp
   exact absurd (Jt.1 this) ae
  ·simp only[Value.slice.injEq]at hv;obtain⟨rfl,_,_⟩:=hv;refine⟨g,0,Y,λj y H=>?_⟩;have:V ⟨g,0+0+j,none⟩=none:=h.DA i _ ⟨g,0+0+j,none⟩ hi Y;simp only[this,Value.ownBlock,CA,IW];simpa using H
 ·have W:∀(j:Nat)(q:OB),(M.set i .Sk)[j]? =some q->(j≠i/\M[j]? =some q)\/(j=i/\q=.Sk):=by
   intro j q K;rw[H2]at K;split at K
   ·grind
   ·grind
  have N:∀(j:Nat)(q:OB)p,(M.set i .Sk)[j]? =some q->q.own (Bm env j) p->j≠i/\M[j]? =some q:=by
   intro j q p K hp;rcases W j q K with⟨Z,aa⟩|⟨Z,he⟩
   ·grind
   ·subst he;simp[OB.own,Value.ownBlock]at hp
  refine⟨h.os,h.tape,h.output,h.frame,λp y H=>by simp only[h.le p y H],⟨?_,h.holds.t⟩,?_,by simp[h.len],?_,?_,?_,?_,h.tb⟩
  ·intro p y H
   try simp only at H
   split at H
   ·rename_i z hz;simp only[AE]at H;subst H;exact h.holds p _ hz
   ·grind
  ·intro p y H
   try simp only at H
   split at H
   ·rename_i z hz;simp only[AE]at H;subst H;exact h.fresh p _ hz
   ·split at H
    ·rename_i hp;exact .inr (h.C1 i _ p hi hp.1)
    ·simp at H
  ·intro j q K;rcases W j q K with⟨Z,aa⟩|⟨Z,he⟩
   ·exact LN Y (λ_ _=>Y) (λx=>DM λ_=>GO zp) (h.sat j q aa) λk hk=>Y
   ·subst he;exact⟨0,World.ownsRow_nil _ _ _ _⟩
  ·intro j q p K hp;have⟨Z,K⟩:=N j q p K hp;simp only[h.DA j q p K hp];rw[if_neg];rintro⟨h1,_⟩;exact h.apart j i q _ p Z K hi hp h1
  ·intro j q p K hp;have⟨Z,K⟩:=N j q p K hp;exact h.C1 j q p K hp
  ·intro j k q q' p af K X hp ab;have⟨_,K⟩:=N j q p K hp;have⟨_,X⟩:=N k q' p X ab;exact h.apart j k q q' p af K X hp ab
section
variable {C:Ctx}
theorem AD.Eh(e sz:Nat)(y:RO M (.row (.slice none 0 0) [] e sz) 0=some (M',i))(h:AD C ⟨k,L,M'⟩ V):AD C ⟨k,L,M⟩ V:=by
 obtain⟨rfl,_⟩:=He y;refine AD.of λFR z env t w h1 h2 h3 H K=>?_;have N:=h2.add (w':=w) (o':=.row (.slice none 0 0) [] e sz) 0 Y Y Y (λ_ _=>Y) ⟨0,World.ownsRow_nil _ _ _ _⟩ (λa O=>by simp[OB.own,Value.ownBlock]at O);exact h.to FR z (env++[0]) t w h1 N (h3.mono h2.len _ _) (H.mono h2.len _ _) (My.grow ⟨_,Y⟩ (DI.refl V) ⟨_,Y⟩ K)
def Rr:List Kt->Bool
 |.draw _::_=>false|.ops _ _ _:: .draw _::_=>false|_=>true
theorem XE(y:Rr k=true)(z:DFr)(env:List Nat)(V:AM)(M:List OB):My z env V M k:=by
 unfold Rr at y;split at y
 ·simp at y
 ·simp at y
 ·rename_i h1 h2;unfold My;split
  ·grind
  ·grind
  ·trivial
def ADC(i:Nat):List Kt->Bool
 |.ops _ _ _::k=>L9 i k|k=>Rr k
theorem AM1(y:ADC i k=true){b:OB}(hv:DI V V')(h:My bk env V M k):My bk env V' (M.set i b) k:=by
 unfold ADC at y;split at y
 ·exact My.grow (M:=M.set i b) ⟨[],by simp⟩ hv ⟨[],by simp⟩ (My.write y h)
 ·exact XE y _ _ _ _
theorem AD.QY(i:Nat){a:AA Addr}(z:ADC i k=true)(hi:nth M i=some (.row (.slice a n c) cs e sz))(H:It M i .Sk=some M')(h:∀V',DI V V'->(cs≠[]->Bi V' a 0 cs)->n<=c->AD C ⟨k,L,M'⟩ V'):AD C ⟨k,L,M⟩ V:=by
 obtain⟨_,rfl⟩:=Dg H;rw[Cc]at hi;refine AD.of λFR K env t w h1 h2 h3 N O=>?_;have⟨V',y,W,X⟩:=h2.freeze hi;exact(h V' y W (Fk (h2.sat i _ hi)).2.1).to FR K env t w h1 X (h3.set zp) (N.set zp) (AM1 z y O)
def ZQ(n:Nat):SV->Bool
 |.ptr i _=>Nat.blt i n|.TY i _ _ _=>Nat.blt i n|_=>true
def WE(n:Nat):Fr->Bool
 |[]=>true|(_,x)::r=>match ZQ n x with
  |true=>WE n r|false=>false
def ABU:List SV->Bool
 |[]=>true|.v _::r=>ABU r|_=>false
def GM:List OB->Bool
 |[]=>true|.row _ _ _ _::r=>GM r|.ext _::r=>GM r|.Bp cs _::r=>match ABU cs with
  |true=>GM r|false=>false
 |_=>false
theorem Ub:∀{cs:List SV},ABU cs=true->∀x∈cs,∃a,x=.v a
 |[],_,x,y=>by simp at y
 |.v a::r,h,x,y=>by
  simp only[Aj]at y;rcases y with rfl|y
  ·grind
  ·exact Ub (cs:=r) h x y
 |.ptr _ _::r,h,x,y=>by simp[ABU]at h
 |.TY _ _ _ _::r,h,x,y=>by simp[ABU]at h
 |.el _ _::r,h,x,y=>by simp[ABU]at h
theorem Xk{M:List OB}:∀{cs:List SV},ABU cs=true->∀x∈cs,x.ok M
 |[],_,x,y=>by simp at y
 |.v a::r,h,x,y=>by
  simp only[Aj]at y;rcases y with rfl|y
  ·trivial
  ·exact Xk (cs:=r) h x y
 |.ptr _ _::r,h,x,y=>by simp[ABU]at h
 |.TY _ _ _ _::r,h,x,y=>by simp[ABU]at h
 |.el _ _::r,h,x,y=>by simp[ABU]at h
theorem ABV(h:C6 M i)(y:i<n):C6 (M.take n) i:=by
 have⟨o,h1,h2⟩:=h;exact⟨o,by rw[Cs,if_pos y];exact h1,h2⟩
theorem AMd:∀{x:SV},x.ok M->ZQ n x=true->x.ok (M.take n)
 |.v _,_,_=>trivial|.ptr _ _,h,y=>ABV h (by simpa[ZQ,D1]using y)
 |.TY _ _ _ _,h,y=>ABV h (by simpa[ZQ,D1]using y)
 |.el _ _,h,_=>h
theorem ZP{n:Nat}:∀{L:Fr}{s:Nat}{x:SV},WE n L=true->EF L s=some x->ZQ n x=true
 |[],s,x,_,h=>by simp[EF]at h
 |(d,y)::L,s,x,z,h=>by
  simp only[WE]at z;split at z
  ·rename_i H;rw[MC]at h;split at h
   ·grind
   ·exact ZP z h
  ·simp at z
theorem Ky:∀{M:List OB}{i:Nat}{o:OB},GM M=true->M[i]? =some o->(∃x cs e sz,o=.row x cs e sz)\/(∃cs ty,o=.Bp cs ty/\ABU cs=true)\/∃E,o=.ext E
 |[],i,o,_,h=>by simp at h
 |.gone::M,i,o,y,h=>by simp[GM]at y
 |.ext E::M,0,o,y,h=>by
  simp at h;exact .inr (.inr ⟨E,h.symm⟩)
 |.ext E::M,i+1,o,y,h=>by
  simp at h;exact Ky (M:=M) y h
 |.row x cs e sz::M,0,o,y,h=>by
  simp at h;exact .inl ⟨x,cs,e,sz,h.symm⟩
 |.row x cs e sz::M,i+1,o,y,h=>by
  simp at h;exact Ky (M:=M) y h
 |.Bp cs ty::M,0,o,y,h=>by
  simp at h;simp only[GM]at y;split at y
  ·grind
  ·simp at y
 |.Bp cs ty::M,i+1,o,y,h=>by
  simp at h;simp only[GM]at y;split at y
  ·exact Ky (M:=M) y h
  ·simp at y
theorem AD.cut(n:Nat)(L':Fr)(hk:Kw k=true)(hs:Sub L' L)(hr:WE n L'=true)(hM:Ln n M=M')(X:GM M'=true)(h:AD C ⟨k,L',M'⟩ V):AD C ⟨k,L,M⟩ V:=by
 have ad:∀(n:Nat)(l:List OB),Ln n l=l.take n:=by
  intro n
  induction n with
  |zero=>intro l;simp[Ln]|succ n ih=>
   intro l;cases l with
   |nil=>simp[Ln]|cons a l=>simp[Ln,ih]
 rw[ad]at hM;subst hM;refine AD.of λFR DF env t w h1 h2 h3 h4 h5=>?_;have H:∀(i:Nat)(o:OB),(M.take n)[i]? =some o->M[i]? =some o/\i<n:=by grind
 have z:∀i,i<n->Bm (env.take n) i=Bm env i:=λi hi=>by simp[Bm,Cs,hi]
 have Z:∀x,ZQ n x=true->den (env.take n) x=den env x:=by
  intro x hx;cases x with
  |v _=>rfl|el _ _=>rfl|ptr i o=>simp only[den];rw[z i (by simpa[ZQ,D1]using hx)]
  |TY i o _ _=>simp only[den];rw[z i (by simpa[ZQ,D1]using hx)]
 have hW:FC C.V0 FR (env.take n) V (M.take n) w:=by
  refine⟨h2.os,h2.tape,h2.output,h2.frame,h2.le,h2.holds,h2.fresh,by simp[h2.len],?_,?_,?_,?_,h2.tb⟩
  ·intro i o K;have⟨O,W⟩:=H i o K;have:=h2.sat i o O;rw[z i W];rcases Ky X K with⟨x,cs,e,sz,rfl⟩|⟨cs,ty,rfl,hv⟩|⟨E,rfl⟩
   ·exact this
   rotate_left
   ·exact this
   ·refine⟨?_,Xk hv⟩;rw[this.1]
    congr 3
    refine Cu λy hy=>?_;cases y with
    |v _=>rfl|_=>exact absurd (Ub hv _ hy) zp
  ·intro i o a K N;have⟨O,W⟩:=H i o K;rw[z i W]at N;exact h2.DA i o a O N
  ·intro i o a K N;have⟨O,W⟩:=H i o K;rw[z i W]at N;exact h2.C1 i o a O N
  ·intro i j o q a ae K hq N aa;have⟨O,W⟩:=H i o K;have⟨g3,g4⟩:=H j q hq;rw[z i W]at N;rw[z j g4]at aa;exact h2.apart i j o q a ae O g3 N aa
 refine h.to0 hk h1 hW (λs x hx=>?_) DF;have⟨k1,k2⟩:=h3 s x (hs.look s x hx);have ab:=ZP hr hx;exact⟨by rw[Z x ab];exact k1,AMd k2 ab⟩
end
def KG(T:List G6)(t:Nat):AA (Nat×Nat×Nat×List Value):=
 match nth T t with
 |some d=>match d.size,d.RI with
  |_+1,.slice e=>match nth T e with
   |some y=>match y.size with
    |0=>none|sz+1=>match Nat.beq y.zero.length (sz+1),Nat.beq y.bytes 0 with
     |true,false=>some (e,sz+1,y.bytes,y.zero)|_,_=>none
   |none=>none
  |_,_=>none
 |none=>none
theorem Es(hT:K2 P T)(h:KG T t=some (e,sz,y,zs)):P.underlying t=some (.slice e)/\0<sz/\0<y/\zs.length=sz/\∃i z,P.info? e=some i/\i.zero=some z/\i.size=sz/\i.bytes=y/\z.cells.size=sz/\z.cells.toList=zs:=by
 unfold KG at h;split at h<;>try (simp at h;done)
 rename_i d W;split at h<;>try (simp at h;done)
 rename_i n e' hs hu;split at h<;>try (simp at h;done)
 rename_i ed N;split at h<;>try (simp at h;done)
 rename_i X K;split at h<;>try (simp at h;done)
 rename_i Z hb;simp only[AE,BJ]at h;obtain⟨rfl,rfl,rfl,rfl⟩:=h;have H:=F6 Z;have O:=J0 hb;have⟨i,dd,z,h1,h2,h3,h4⟩:=Qe (hT.1 _ _ N ox);subst h4;simp only at H O K⊢;exact⟨RM hT W ox hu,by omega,by omega,H,i,z,h1,h3,K,Y,by simpa using H,Y⟩
def Xj(T:List G6)(op:Op):AA (Operand×Operand×Nat×Nat×Nat×Nat):=
 match op with
 |.call ⟨.builtin .append,⟨[sa,sb]⟩,⟨[t,z]⟩⟩=>match Nat.beq t z,KG T t with
  |true,some (e,sz,y,_)=>some (sa,sb,t,e,sz,y)|_,_=>none
 |_=>none
theorem Xi(h:Xj T aJ=some (af,aw,t,e,sz,y)):aJ=.call ⟨.builtin .append,#[af,aw],#[t,t]⟩/\∃zs,KG T t=some (e,sz,y,zs):=by
 unfold Xj at h;split at h<;>try (simp at h;done)
 rename_i H K W X;split at h<;>try (simp at h;done)
 rename_i Z N z zs O ht;simp only[AE,BJ]at h;obtain⟨rfl,rfl,rfl,rfl,rfl,rfl⟩:=h;have:=F6 O;subst this;exact⟨Y,zs,ht⟩
theorem slice_form{w:World}{v:Value}{xs:List Value}(h:w.ownsRow y e sz v n xs)(_:m=n):∃a c,v=.slice a m c:=by
 rename_i hm;subst hm;rcases h.2 with⟨rfl,rfl⟩|⟨g,cap,cur,rfl,_⟩
 ·grind
 ·grind
theorem AMi{k:Nat}(h:¬(OB.row x cs e sz).own (Bm env i) ⟨k,0,none⟩):some k≠x.ownBlock:=λhe=>h he.symm
section
variable {C:Ctx} (hT:K2 C.P C.T) {o:Oper} {rest all:List Oper} {lr:List B7} {k:List Kt} {L:Fr} {M:List OB} {V:AM} {d:Nat}
include hT
theorem Xh{w:World}(h2:FC C.V0 FR env V M w)(h3:Ng env M L au)(h4:N3 env M lr au){a:AA Addr}(hc:Xj C.T o.op=some (af,aw,t,e,sz,y))(ha:ev (Et L lr) [] af=some (.v (.slice a n c)))(hi:M[i]? =some (.row (.slice a n c) cs e sz))(hb:(⟨au,[]⟩:Act).eval aw=x)(hx:(Builtin.append_ #[t,t] o.type #[.slice a n c,x]).run C.P w=(Builtin.append_ #[t,t] o.type #[.slice a n c,.slice (some ad) m c2]).run C.P w)(hl:O.length=m*sz)(H:∀j u,O[j]? =some u->w.cell? (ad.add j)=some u)(h1:∀u∈O,u.oneCell'=true)(K:(n+m)*y<=140737488355328):∃a' c' w',(execOp (⟨au,[]⟩:Act).eval o).run C.P w=.ok (.value (.slice a' (n+m) c')) w'/\FC C.V0 FR env V (M.set i (.row (.slice a' (n+m) c') (cs++O) e sz)) w':=by
 have⟨W,zs,X⟩:=Xi hc;have⟨u1,u2,u3,_,ti,z,i1,i2,i3,i4,i5,_⟩:=Es hT X;have N:=h2.sat i _ hi;have⟨r1,r2,r3,r4⟩:=Fk N;have hle:n+m<=maxLen:=by
  have:n+m<=(n+m)*y:=AAA _ u3;simp only[maxLen];omega
 have⟨v',w',q1,q2,q3,q4,Z⟩:=run_append_own_at (P:=C.P) w 0 t o.type e ti z sz y u1 i1 i2 i3 i4 i5 u2 _ n cs r4 ad m c2 O hl H h1 hle K (By _);obtain⟨a',c',rfl⟩:=slice_form q2 Y;refine⟨a',c',w',?_,h2.upd hi zp q3.os q3.tape q3.output (λkk hk hn=>q3.block kk hk (AMi hn)) ⟨_,q2⟩ (λp hp=>?_)⟩
 ·unfold execOp;have e1:=BN (A2 h3 h4) (G:=[]) Yt ha;simp only[den]at e1;simp only[W,resolve,Ks,B8,Ge,e1,hb,Sem.run_bind,Sem.run_pure,Result.andThen_ok,invoke,builtin,hx,q1]
 ·simp only[OB.own]at hp⊢;rcases Z with Z|Z
  ·grind
  ·grind
theorem AD.app(i j:Nat){a:AA Addr}{M':AA Addr->Nat->List OB}(hh:CF C.nt all lr L o=some ([],d))(hc:Xj C.T o.op=some (af,aw,t,e,sz,y))(ha:ev (Et L lr) [] af=some (.v (.slice a n c)))(hb:ev (Et L lr) [] aw=some (.TY j 0 m c2))(hi:nth M i=some (.row (.slice a n c) cs e sz))(hj:nth M j=some (.Bp ak z))(hv:Oo ak=some O)(h1:Rv ak=true)(hl:O.length=m*sz)(aa:n+m=nm)(hs:∀a' c',It M i (.row (.slice a' nm c') (cs++O) e sz)=some (M' a' c'))(hk:L9 i k=true)(K:nm*y<=140737488355328)(h:∀a' c',AD C ⟨.ops rest all (⟨d,[],.v (.slice a' nm c'),d⟩::lr)::k,(d,.v (.slice a' nm c'))::L,M' a' c'⟩ V):AD C ⟨.ops (o::rest) all lr::k,L,M⟩ V:=by
 subst aa;refine AD.of λFR DF env N w g1 h2 h3 h4 h5=>?_;rw[Cc]at hi hj;have W:=(h2.sat j _ hj).1;have X:=Gl (env:=env) hv;rw[X]at W;have ab:=BN (A2 h3 h4) (G:=[]) Yt hb;have⟨a',c',w',p1,p2⟩:=Xh hT h2 h3 h4 hc ha hi (by rw[ab];rfl) Y hl (λjj u hu=>by
  rw[Addr.add_lit,cell_of_row w _ _ _ _ _ W];simpa using hu) (λu hu=>OK (env:=env) h1 u (by rw[X];exact hu)) K
 have⟨_,H⟩:=Dg (hs a' c');rw[<- H]at p2;have ad:∀q,C6 M q->C6 (M' a' c') q:=λq hq=>by rw[H];exact GO zp hq
 have⟨hg,hd,hn,hf,_⟩:=EG hh;have Z:d<N.size:=by rw[g1];simpa[D1]using hn
 have hw:=Ch h4 hg;show wpList C.P ⟨all⟩ (post C FR DF k) (o::rest) ⟨N,[]⟩ w;refine Cn ?_;rw[if_pos (hw.2 Yt)];refine FT p1 ?_;simp only[Act.put,hd];have ae:Ng env (M' a' c') L N:=λs x hx=>⟨(h3 s x hx).1,DM ad (h3 s x hx).2⟩;have ag:N3 env (M' a' c') lr N:=by rw[H];exact h4.set zp
 refine(h a' c').to FR DF env (N.setIfInBounds d (.slice a' (n+m) c')) w' (by simpa using g1) p2 (ae.put (x:=.v _) Z Yt)
  (ag.put Z hf (λ_=>Y) (λhn=>absurd Yt hn) Y (.inl Y) (λ_=>Yt)) ?_
 show My DF env V (M' a' c') _;rw[H];exact My.write hk h5.same
def AOK(T:List G6)(op:Op):AA (Operand×Operand×Nat×Nat×Nat×Nat×List Value):=
 match op with
 |.makeSlice t x y=>match KG T t with
  |some (e,sz,z,zs)=>some (x,y,t,e,sz,z,zs)|none=>none
 |_=>none
omit hT in
theorem ADk(z:List Value):∀n:Nat,(List.replicate n z).flatten=(List.range (n*z.length)).map (λi=>z[i%z.length]?.getD default)
 |0=>by simp
 |n+1=>by
  rw[AGG,AJ5,ADk z n];apply TT
  ·grind
  ·intro i h1 h2;simp only[AT,Ap,DC]at h1;rw[List.getElem_append];split
   ·rename_i hi;simp[Nat.mod_eq_of_lt hi,hi]
   ·rename_i hi;simp only[AAB,AHk];rw[Nat.mod_eq_sub_mod (by omega:i≥z.length)]
theorem AL5{x:Operand}{ky:IntKind}{M':AA Addr->List OB}(hh:CF C.nt all lr L o=some ([],d))(N:AOK C.T o.op=some (x,af,t,e,sz,y,zs))(ha:ev (Et L lr) [] x=some (.v (.int kx (n:Int))))(hb:ev (Et L lr) [] af=some (.v (.int ky (z:Int))))(ag:n<=z)(W:y*z<=281474976710656)(hs:∀a,RO M (.row (.slice a n z) (List.replicate n zs).flatten e sz) 0=some (M' a,i))(h:∀a,AD C ⟨.ops rest all (⟨d,[],.v (.slice (some a) n z),d⟩::lr)::k,(d,.v (.slice (some a) n z))::L,M' (some a)⟩ V):AD C ⟨.ops (o::rest) all lr::k,L,M⟩ V:=by
 refine AD.of λFR DF env X w g1 h2 h3 h4 h5=>?_;have Z:o.op=.makeSlice t x af/\KG C.T t=some (e,sz,y,zs):=by
  unfold AOK at N;split at N<;>try (simp at N;done)
  split at N<;>try (simp at N;done)
  rename_i ht;simp only[AE,BJ]at N;obtain⟨rfl,rfl,rfl,rfl,rfl,rfl,rfl⟩:=N;exact⟨by assumption,ht⟩
 have⟨u1,u2,u3,u4,O,aa,i1,i2,i3,i4,i5,i6⟩:=Es hT Z.2;have aj:z<=y*z:=Nat.le_mul_of_pos_left _ u3;have hm:=run_make (P:=C.P) w t e O aa u1 i1 i2 kx ky (n:Int) (z:Int) ox ox (by rw[i4,<- Int.natCast_mul];exact Int.ofNat_le.2 W) ox;simp only[Int.toNat_natCast]at hm;have⟨H,_⟩:=He (hs (some ⟨w.heap.size,0,none⟩));have K:(madeCells aa.cells (z*O.size)).toList=(List.replicate z zs).flatten:=by
  rw[ADk,i3,u4];have hz:aa.cells=⟨zs⟩:=by grind
  simp only[madeCells,hz,TX,AHq];refine Cu λj _=>?_;simp only[On,u4,getElem!_def];have:(⟨zs⟩:Array Value)[j%sz]? =zs[j%sz]? :=by simp
  rw[this];cases zs[j%sz]? <;>rfl
 have hlen:(madeCells aa.cells (z*O.size)).size=z*sz:=by simp[madeCells,i3]
 have ab:∀q:Nat,(List.replicate q zs).flatten.length=q*sz:=λq=>by simp[P2,u4]
 have ad:EU (w.alloc (.cells (madeCells aa.cells (z*O.size)) e)) e sz (.slice (some ⟨w.heap.size,0,none⟩) n z) (List.replicate n zs).flatten:=by
  refine⟨n,ab n,.inr ⟨w.heap.size,z,_,Y,By _,heap_alloc_new w _,ag,by simp only[maxLen];omega,hlen,?_⟩⟩;rw[K];obtain⟨q,rfl⟩:∃q,z=n+q:=⟨z-n,by omega⟩;rw[<- ab n,<- List.replicate_append_replicate,AGH];exact List.take_left
 have hW:=h2.add (w':=w.alloc (.cells (madeCells aa.cells (z*O.size)) e)) (o':=.row (.slice (some ⟨w.heap.size,0,none⟩) n z) (List.replicate n zs).flatten e sz) 0 Y Y Y
  (λkk hk=>Go.RowKit.Below.heap_alloc w _ kk hk) ad (λp hp=>by simp only[OB.own,Value.ownBlock,AE]at hp;omega)
 rw[<- H]at hW;have⟨hg,hd,hn,hf,_⟩:=EG hh;have ae:d<X.size:=by rw[g1];simpa[D1]using hn
 have hw:=Ch h4 hg;show wpList C.P ⟨all⟩ (post C FR DF k) (o::rest) ⟨X,[]⟩ w;refine Cn ?_;rw[if_pos (hw.2 Yt)];refine FT (v:=.slice (some ⟨w.heap.size,0,none⟩) n z) (w':=w.alloc (.cells (madeCells aa.cells (z*O.size)) e)) ?_ ?_
 ·unfold execOp;simp only[Z.1,BN (A2 h3 h4) (G:=[]) Yt ha,BN (A2 h3 h4) (G:=[]) Yt hb,den,Sem.run_bind,hm,Result.andThen_ok,Sem.run_pure]
 simp only[Act.put,hd];have ah:Ng (env++[0]) (M' (some ⟨w.heap.size,0,none⟩)) L X:=by rw[H];exact h3.mono h2.len _ _
 have ai:N3 (env++[0]) (M' (some ⟨w.heap.size,0,none⟩)) lr X:=by rw[H];exact h4.mono h2.len _ _
 refine(h ⟨w.heap.size,0,none⟩).to FR DF (env++[0]) (X.setIfInBounds d (.slice (some ⟨w.heap.size,0,none⟩) n z)) _ (by simpa using g1) hW (ah.put (x:=.v _) ae Yt)
  (ai.put ae hf (λ_=>Y) (λhn=>absurd Yt hn) Y (.inl Y) (λ_=>Yt)) ?_
 show My DF (env++[0]) V (M' _) _;rw[H];exact My.grow ⟨_,Y⟩ (DI.refl V) ⟨_,Y⟩ h5.same
theorem LG{x:Operand}{ky:IntKind}{M':AA Addr->List OB}(N:CF C.nt all lr L o=some ([],d))(O:AOK C.T o.op=some (x,af,t,e,sz,y,zs))(W:ev (Et L lr) [] x=some (.v (.int kx Z)))(X:ev (Et L lr) [] af=some (.v (.int ky aK)))(H:Z.toNat=nm)(K:0<=Z/\Z<=aK)(z:y*aK.toNat<=281474976710656)(hs:∀a,RO M (.row (.slice a nm aK.toNat) (List.replicate nm zs).flatten e sz) 0=some (M' a,i))(h:∀a,AD C ⟨.ops rest all (⟨d,[],.v (.slice (some a) nm aK.toNat),d⟩::lr)::k,(d,.v (.slice (some a) nm aK.toNat))::L,M' (some a)⟩ V):AD C ⟨.ops (o::rest) all lr::k,L,M⟩ V:=by
 subst H;have h1:((Z.toNat:Nat):Int)=Z:=Mx K.1;have h2:((aK.toNat:Nat):Int)=aK:=Mx ox;exact AL5 hT (kx:=kx) (ky:=ky) N O (by rw[h1];exact W) (by rw[h2];exact X) ox z hs h
theorem AD.RV{x:SV}(Z:CF C.nt all lr L o=some ([],d))(hc:ABP C.T (Et L lr) M o.op=some (x,M',n0,ak,y))(h:AD C ⟨.ops rest all (⟨d,[],x,d⟩::lr)::k,(d,x)::L,M'⟩ V):AD C ⟨.ops (o::rest) all lr::k,L,M⟩ V:=by
 refine AD.of λFR O env H w W h2 h3 K h5=>?_;have⟨env',w',p1,p2,p3,p4,p5,X,p7⟩:=Zi hT h2 (A2 h3 K) hc;have⟨hg,hd,N,hf,_⟩:=EG Z;have z:d<H.size:=by rw[W];simpa[D1]using N
 have hw:=Ch K hg;show wpList C.P ⟨all⟩ (post C FR O k) (o::rest) ⟨H,[]⟩ w;refine Cn ?_;rw[if_pos (hw.2 Yt)];refine FT p7 ?_;simp only[Act.put,hd];exact h.to FR O env' (H.setIfInBounds d (den env' x)) w' (by simpa using W) p3 ((p4 _ h3).put z X)
  ((p5 _ K).put z hf (λ_=>Y) (λN=>absurd Yt N) Y (.inl Y) (λ_=>X)) (My.grow p1 (DI.refl V) p2 h5.same)
omit hT in
theorem FC.ADq{w:World}(h:FC V0 FR env V M w){cs:List SV}(hi:M[i]? =some (.Bp cs y))(hv:Oo cs=some vs):∃V',DI V V'/\Bi V' (some ⟨Bm env i,0,none⟩) 0 vs/\FC V0 FR env V' (M.set i .Sk) w:=by
 have z:=(h.sat i _ hi).1;rw[Gl (env:=env) hv]at z;have H:EU w y vs.length (.slice (some ⟨Bm env i,0,none⟩) 1 1) vs:=⟨1,by simp,.inr ⟨_,1,_,Y,By _,z,Nat.le_refl _,by simp[maxLen],by simp,by simp⟩⟩;have O:=h.upd (w':=w) (o':=.row (.slice (some ⟨Bm env i,0,none⟩) 1 1) vs y vs.length) hi zp Y Y Y (λ_ _ _=>Y) H (λa N=>.inl (by
  simp only[OB.own,Value.ownBlock,AE]at N⊢;exact N.symm))
 obtain⟨V',W,X,K⟩:=O.freeze (i:=i) (by rw[H2,if_pos Y,if_pos (As.1 hi).1]);rw[List.set_set]at K;refine⟨V',W,?_,K⟩;cases vs with
 |nil=>exact⟨_,_,Y,λj c Z=>by simp at Z⟩
 |cons x l=>exact X zp
theorem X8{len:Nat}(hh:CF C.nt all lr L o=some ([],d))(hc:ABP C.T (Et L lr) M o.op=some (.TY n0 0 len z,M',n0,ak,y))(hM:nth M' n0=some (.Bp ak y))(hv:Oo ak=some vs)(hs:It M' n0 .Sk=some X)(h:∀V' a,DI V V'->Bi V' (some a) 0 vs->AD C ⟨.ops rest all (⟨d,[],.v (.slice (some a) len z),d⟩::lr)::k,(d,.v (.slice (some a) len z))::L,X⟩ V'):AD C ⟨.ops (o::rest) all lr::k,L,M⟩ V:=by
 refine AD.of λFR DF env O w g1 h2 h3 W h5=>?_;have⟨env',w',p1,p2,p3,p4,p5,p6,p7⟩:=Zi hT h2 (A2 h3 W) hc;obtain⟨_,rfl⟩:=Dg hs;rw[Cc]at hM;have⟨V',v1,v2,Z⟩:=p3.ADq hM hv;have⟨hg,hd,hn,hf,_⟩:=EG hh;have H:d<O.size:=by rw[g1];simpa[D1]using hn
 have hw:=Ch W hg;show wpList C.P ⟨all⟩ (post C FR DF k) (o::rest) ⟨O,[]⟩ w;refine Cn ?_;rw[if_pos (hw.2 Yt)];refine FT p7 ?_;simp only[Act.put,hd];have⟨r,hr⟩:=p2;have ad:M.length<=n0:=by
  refine Nat.le_of_not_lt λhl=>?_;have K:ABP C.T (Et L lr) M o.op=some (.TY n0 0 len z,M',n0,ak,y):=hc;unfold ABP at K
  repeat' (split at K<;>try (simp at K;done))
  rename_i aa;simp only[AE,BJ]at K;have⟨ae,af,ab,_⟩:=K;have h9:n0=0+M.length:=by
   have:=(He aa).2;rw[ab]at this;exact this
  omega
 have N:∃r',M'.set n0 OB.Sk=M++r':=by grind
 exact(h V' ⟨Bm env' n0,0,none⟩ v1 v2).to FR DF env' (O.setIfInBounds d (.slice (some ⟨Bm env' n0,0,none⟩) len z)) w' (by simpa using g1) Z (((p4 _ h3).set zp).put (x:=.v _) H Yt)
  (((p5 _ W).set zp).put H hf (λ_=>Y) (λhn=>absurd Yt hn) Y (.inl Y) (λ_=>Yt)) (My.grow p1 v1 N h5.same)
def AI5(T:List G6)(z:Je)(op:Op):AA (AA Addr×Nat×List SV×Nat):=
 match op with
 |.store t x y=>match nth T t with
  |some H=>match H.size with
   |0=>none|sz+1=>match ev z [] x,ev z [] y with
    |some (.el a off),some v=>match WY v with
     |some vs=>match Nat.beq vs.length (sz+1),Rv vs with
      |true,true=>some (a,off,vs,sz+1)|_,_=>none
     |none=>none
    |some (.v (.pointer a)),some v=>match WY v with
     |some vs=>match Nat.beq vs.length (sz+1),Rv vs with
      |true,true=>some (a,0,vs,sz+1)|_,_=>none
     |none=>none
    |_,_=>none
  |none=>none
 |_=>none
omit hT in
theorem AAo(K:NU env M au ag){a:AA Addr}{vs:List SV}(h:AI5 C.T ag o.op=some (a,off,vs,sz)){b:Nat}(ha:a=some ⟨b,o',none⟩):vs.length=sz/\0<sz/\∃ty x y N,o.op=.store ty x y/\nth C.T ty=some N/\N.size=sz/\(⟨au,[]⟩:Act).eval x=.pointer (some ⟨b,o'+off,none⟩)/\((⟨au,[]⟩:Act).eval y).cells=⟨vs.map (den env)⟩/\Rv vs=true:=by
 subst ha;unfold AI5 at h;split at h<;>try (simp at h;done)
 rename_i ty x y O;split at h<;>try (simp at h;done)
 rename_i N hd;split at h<;>try (simp at h;done)
 rename_i ad W;split at h<;>try (simp at h;done)
 ·rename_i a' ab v Z X;split at h<;>try (simp at h;done)
  rename_i aa H;split at h<;>try (simp at h;done)
  rename_i hlen z;simp only[AE,BJ]at h;obtain⟨rfl,rfl,rfl,rfl⟩:=h;refine⟨F6 hlen,by omega,ty,x,y,N,O,hd,W,?_,?_,z⟩
  ·rw[BN K (G:=[]) Yt Z];rfl
  ·rw[BN K (G:=[]) Yt X];exact(OI (env:=env) (Vl K (G:=[]) Yt X) H).1
 ·rename_i a' v Z X;split at h<;>try (simp at h;done)
  rename_i aa H;split at h<;>try (simp at h;done)
  rename_i hlen z;simp only[AE,BJ]at h;obtain⟨rfl,rfl,rfl,rfl⟩:=h;refine⟨F6 hlen,by omega,ty,x,y,N,O,hd,W,?_,?_,z⟩
  ·rw[BN K (G:=[]) Yt Z];rfl
  ·rw[BN K (G:=[]) Yt X];exact(OI (env:=env) (Vl K (G:=[]) Yt X) H).1
theorem AD.Zr(i:Nat){a:AA Addr}{vs:List SV}(hg:IH all lr o.guard=some [])(hd:o.dst=none)(hc:AI5 C.T (Et L lr) o.op=some (a,off,vs,y))(hv:Oo vs=some nv)(hi:nth M i=some (.row (.slice a n c) cs e sz))(ha:∃b o,a=some ⟨b,o,none⟩)(ag:off+y<=cs.length)(ab:cs.take off++nv++cs.drop (off+y)=O)(hs:It M i (.row (.slice a n c) O e sz)=some M')(hk:L9 i k=true)(h:AD C ⟨.ops rest all lr::k,L,M'⟩ V):AD C ⟨.ops (o::rest) all lr::k,L,M⟩ V:=by
 obtain⟨b,o',rfl⟩:=ha;obtain⟨_,rfl⟩:=Dg hs;rw[Cc]at hi;refine AD.of λFR DF env t' w g1 h2 h3 h4 h5=>?_;have⟨q1,q2,ty,x,aa,dd,ad,ae,af,hx,hy,N⟩:=AAo (C:=C) (A2 h3 h4) hc Y;have W:=h2.sat i _ hi;have⟨r1,r2,r3,r4⟩:=Fk W;have ho:o'=0:=by grind
 subst ho;rcases r4.2 with⟨z,_⟩|⟨g,cap,cur,z,k1,k2,k3,k4,k5,k6⟩
 ·simp at z
 simp only[Value.slice.injEq,AE,Addr.mk.injEq,true_and,CO]at z;obtain⟨rfl,rfl⟩:=z;have K:nv.length=y:=by
  have:=B2 List.length (Gl (env:=env) hv);simp at this;omega
 have ah:cs.length<=cur.size:=by grind
 have X:=run_storeCells_at (P:=C.P) b off e nv 0 cur w k2 ox (by rw[<- Gl (env:=env) hv];exact OK N);simp only[JH]at X;have hw:=Ch h4 hg;show wpList C.P ⟨all⟩ (post C FR DF k) (o::rest) ⟨t',[]⟩ w;refine Cn ?_;rw[if_pos (hw.2 Yt)];refine T4 (w':=w.setRow b (cur.toList.take off++nv++cur.toList.drop (off+nv.length)).toArray) ?_ ?_
 ·unfold execOp;have H:((⟨t',[]⟩:Act).eval aa).cells=⟨nv⟩:=by rw[hy,Gl (env:=env) hv]
  simp only[ad,hx,Instr.storeAt,Instr.sureAddr,storeVar,Sem.run_bind,Sem.run_pure,Result.andThen_ok,Lf hT w ae ox,H,Bo];rw[if_neg (by simp[K,af])];simp only[Result.andThen_ok,X]
 ·simp only[Act.put,hd];have Z:EU (w.setRow b (cur.toList.take off++nv++cur.toList.drop (off+nv.length)).toArray) e sz (.slice (some ⟨b,0,none⟩) n c) O:=by
   refine⟨n,?_,.inr ⟨b,c,_,Y,By _,setRow_heap w b cur _ e _ k2,k3,k4,?_,?_⟩⟩
   ·grind
   ·grind
   ·rw[<- ab,<- k6,<- r1];simp only[K];rw[Pj,Pj,NH,NH];simp only[AT,Ao,P5,K];rw[Cq (by omega:off<=cs.length),Kq (by omega:off<=cs.length),List.drop_take,KY (by omega:nv.length<=_)]
    congr 2
    rw[Cq ox]
  have hW:=h2.upd (w':=w.setRow b (cur.toList.take off++nv++cur.toList.drop (off+nv.length)).toArray) (o':=.row (.slice (some ⟨b,0,none⟩) n c) O e sz) hi zp Y Y Y
   (λkk hk hn=>setRow_other w b kk _ (λhe=>hn (by simp[OB.own,Value.ownBlock,he]))) Z (λp hp=>.inl hp)
  exact h.to FR DF env t' _ g1 hW (h3.set zp) (h4.set zp) (My.write hk h5.same)
end
theorem CX(i:Nat){a:AA Addr}(hi:nth M i=some (.row (.slice a n c) cs e sz))(h:cs.length=n*sz->(0<n->∃b o,a=some ⟨b,o,none⟩)->n<=c->AD C ⟨k,L,M⟩ V):AD C ⟨k,L,M⟩ V:=by
 refine AD.of λFR z env H w K h2 h3 N O=>?_;have y:=hi;rw[Cc]at y;have⟨r1,r2,r3,r4⟩:=Fk (h2.sat i _ y);exact(h r1 (λh0=>by
  rcases r3 with⟨_,h,_⟩|⟨g,h⟩
  ·omega
  ·exact⟨g,0,h⟩) r2).to FR z env H w K h2 h3 N O
structure HH where
 x:Value
 cs:List Value
 e:Nat
 sz:Nat
def HH.ob(r:HH):OB:=.row r.x r.cs r.e r.sz
def MJ(P:Program)(f:Nat)(args:List Value)(r:HH)(V:AM)(R:AM->Value->HH->Prop):Prop:=
 AEa P f/\∀w,Holds V w->EU w r.e r.sz r.x r.cs->(∀a:Addr,r.x.ownBlock=some a.block->V a=none/\a.block≠1)->Calls P f ⟨args⟩ w λe w'=>∃v V' y,e=.returned v/\(w'.os=w.os/\w'.tape=w.tape/\w'.output=w.output/\∀k,k<w.heap.size->some k≠r.x.ownBlock->w'.heap[k]? =w.heap[k]?)/\DI V V'/\Holds V' w'/\
  (∀a x,V' a=some x->V a=some x\/w.heap.size<=a.block\/r.x.ownBlock=some a.block)/\EU w' y.e y.sz y.x y.cs/\(∀a:Addr,y.x.ownBlock=some a.block->V' a=none)/\
  (∀a:Addr,y.x.ownBlock=some a.block->r.x.ownBlock=some a.block\/w.heap.size<=a.block)/\R V' v y
def OV(R:AM->Value->HH->Prop)(V:AM)(v:Value)(M:List OB):Prop:=∃y,(y.x=.slice none 0 0/\y.cs=[]\/∃i,nth M i=some y.ob)/\R V v y
theorem OV.at{R:AM->Value->HH->Prop}{v:Value}(i:Nat)(hi:nth M i=some (.row x cs e sz))(h:R V v ⟨x,cs,e,sz⟩):OV R V v M:=⟨⟨x,cs,e,sz⟩,.inr ⟨i,hi⟩,h⟩
open Classical in
theorem MJ.enter{c:Code}{r:HH}{R:AM->Value->HH->Prop}(hf:P.funcs[f]? =some fn)(hb:fn.body=some c)(N:(fn.name== "runtime.NumGoroutine")=false)(af:fn.ntmps=nt)(hlen:Nat.ble args.length nt=true)(hL:Tf 0 args=L)(h:AD ⟨P,T,fn,nt,V,OV R,λ_ _ _=>False⟩ ⟨[.code c],L,[.row r.x r.cs r.e r.sz]⟩ V):MJ P f args r V R:=by
 refine⟨⟨fn,hf,by rw[hb];rfl,N⟩,λw hw W X=>?_⟩
 let FR:KC:=⟨w.os,w.tape,w.output,λb=>if r.x.ownBlock=some b then none else w.heap[b]?⟩
 have Z:FC V FR [0] V [.row r.x r.cs r.e r.sz] w:=by
  refine⟨Y,Y,Y,λb o ho=>?_,DI.refl V,hw,λ_ _ h=>.inl h,Y,λi o h=>?_,λi o a h z=>?_,λi o a h z=>?_,λi j o o' a ag h h'=>?_,Q5.of hw.t (if_neg λe=>(X ⟨1,0,none⟩ e).2 Y)⟩
  ·grind
  ·match i,h with
   |0,h=>simp at h;subst h;exact W
  ·match i,h with
   |0,h=>simp at h;subst h;exact(X a z).1
  ·match i,h with
   |0,h=>
    simp at h;subst h;have z:r.x.ownBlock=some a.block:=z;simp only[FR];rw[if_pos z]
  ·grind
 have hle:=Ae hlen;have O:=calls_of_wp (P:=P) (f:=f) (args:=⟨args⟩) (w:=w) (R:=ABH ⟨P,T,fn,nt,V,OV R,λ_ _ _=>False⟩ FR) hf hb (by
  refine h.to0 (k:=[.code c]) Y (FR:=FR) (env:=[0]) (t:=(⟨args⟩:Array Value)++Array.replicate (fn.ntmps-args.length) undef) ?_ Z ?_ .none
  ·grind
  ·intro s x H;rw[<- hL]at H;obtain⟨v,rfl,_,h2⟩:=PC args 0 s x H;refine⟨?_,Yt⟩;have hs:s<args.length:=(As.1 h2).1;rw[Om];simpa[hs,den]using h2)
 refine O.mono λe w' hp=>?_;rcases hp with⟨v,env',V',M',h1,y,r',ab,hR⟩|⟨_,_,_,_,_,_,hp⟩
 rotate_left
 ·exact hp.elim
 have aa:∀k,k<w.heap.size->some k≠r.x.ownBlock->w'.heap[k]? =w.heap[k]? :=λk hk ad=>by
  have h1:w.heap[k]? =some w.heap[k]:=by simp[hk]
  rw[h1];refine y.frame k _ ?_;simp only[FR];rw[if_neg (λe=>ad e.symm)];exact h1
 have K:∀a:Addr,FR.Bp a.block=none->r.x.ownBlock=some a.block\/w.heap.size<=a.block:=λa z=>by
  simp only[FR]at z;split at z
  ·grind
  ·grind
 refine⟨v,V',r',h1,⟨y.os,y.tape,y.output,aa⟩,y.le,y.holds,λa x H=>?_,?_,?_,?_,hR⟩
 ·rcases y.fresh a x H with h|h
  ·exact .inl h
  ·rcases K a h with h|h
   ·exact .inr (.inr h)
   ·exact .inr (.inl h)
 all_goals rcases ab with⟨H,ae⟩|⟨i,hi⟩
 ·rw[H,ae];exact⟨0,World.ownsRow_nil _ _ _ _⟩
 ·rw[Cc]at hi;exact y.sat i _ hi
 ·intro a z;rw[H]at z;simp[Value.ownBlock]at z
 ·intro a z;rw[Cc]at hi;exact y.DA i _ a hi z
 ·intro a z;rw[H]at z;simp[Value.ownBlock]at z
 ·intro a z;rw[Cc]at hi;exact K a (y.C1 i _ a hi z)
section
variable {C:Ctx}
theorem Ef(i:Nat){d:Nat}{R:AM->Value->HH->Prop}(hh:CF C.nt all lr L o=some ([],d))(hc:Gc (Et L lr) [] o.op=some (f,args))(hi:nth M i=some (.row x cs e sz))(N:L9 i k=true)(hs:MJ C.P f args ⟨x,cs,e,sz⟩ V R)(h:∀V' v z,DI V V'->R V' v z->∃M',It M i z.ob=some M'/\AD C ⟨.ops rest all (⟨d,[],.v v,d⟩::lr)::k,(d,.v v)::L,M'⟩ V'):AD C ⟨.ops (o::rest) all lr::k,L,M⟩ V:=by
 refine AD.of λFR DF env t w h1 h2 h3 O h5=>?_;rw[Cc]at hi;have⟨hg,hd,H,hf,_⟩:=EG hh;have K:d<t.size:=by rw[h1];simpa[D1]using H
 have hw:=Ch O hg;show wpList C.P ⟨all⟩ (post C FR DF k) (o::rest) ⟨t,[]⟩ w;refine Cn ?_;rw[if_pos (hw.2 Yt)];have⟨W,y⟩:=hs;unfold Oper.wp;rw[KR (A2 h3 O) (G:=[]) Yt hc W w];refine(y w h2.holds (h2.sat i _ hi) (λa ha=>⟨h2.DA i _ a hi ha,h2.tb.ne (h2.C1 i _ a hi ha)⟩)).mono λe' w' ⟨v,V',z,p1,⟨q1,q2,q3,q4⟩,X,p4,p5,p6,p7,p8,p9⟩=>?_;subst p1;have⟨M',Z,hE⟩:=h V' v z X p9;obtain⟨_,rfl⟩:=Dg Z;have aa:FC C.V0 FR env V' (M.set i z.ob) w':=h2.AMJ hi (by simp[HH.ob]) q1 q2 q3 (λkk N H=>q4 kk N (λhe=>H he.symm)) p6 p8 X p4 p5 p7;simp only[Act.put,hd];exact hE.to FR DF env (t.setIfInBounds d v) w' (by simpa using h1) aa ((h3.set (by simp[HH.ob])).put (x:=.v v) K Yt) ((O.set (by simp[HH.ob])).put K hf (λ_=>Y) (λH=>absurd Yt H) Y (.inl Y) (λ_=>Yt))
  (My.grow (M:=M.set i z.ob) ⟨[],by simp⟩ X ⟨[],by simp⟩ (My.write N h5.same))
end
theorem W9{w:World}{l2:List Int}{os:Array Obj}(y:w.heap[g]? =some (.cells au e (0,0)))(hl2:l2.length<=au.size):(Go.Sort.grow (Go.Sort.putRow (Value.int .i64) (Go.Sort.ahead w q) g 0 l2.toArray) os).os=w.os/\(Go.Sort.grow (Go.Sort.putRow (Value.int .i64) (Go.Sort.ahead w q) g 0 l2.toArray) os).tape=w.tape/\(Go.Sort.grow (Go.Sort.putRow (Value.int .i64) (Go.Sort.ahead w q) g 0 l2.toArray) os).output=w.output/\(∀k,k<w.heap.size->k≠g->(Go.Sort.grow (Go.Sort.putRow (Value.int .i64) (Go.Sort.ahead w q) g 0 l2.toArray) os).heap[k]? =w.heap[k]?)/\∃z,(Go.Sort.grow (Go.Sort.putRow (Value.int .i64) (Go.Sort.ahead w q) g 0 l2.toArray) os).heap[g]? =some (.cells z e (0,0))/\z.size=au.size/\z.toList.take l2.length=l2.map (Value.int .i64):=by
 have O:g<w.heap.size:=(An.1 y).1;refine⟨Y,Y,Y,λk W H=>?_,Go.Sort.putCells (Value.int .i64) 0 l2.toArray au,?_,?_,?_⟩
 ·show((w.heap.modify g _)++os)[k]? =_;rw[Wq (by simpa using W),ACe,if_neg (AJ1 H)]
 ·show((w.heap.modify g _)++os)[g]? =_;rw[Wq (by simpa using O),ACe,if_pos Y,y];rfl
 ·simp[Go.Sort.putCells]
 ·apply G2;intro j;rw[Cs];by_cases N:j<l2.length
  ·rw[if_pos N];have K:j<au.size:=ox
   simp[Go.Sort.putCells,N,K]
  ·grind
theorem ACp{w:World}{l:List Int}(y:w.heap[g]? =some (.cells au e (0,0)))(z:au.toList.take m=l.map (Value.int .i64))(hl:l.length=m):Go.Sort.Holds (Value.int .i64) w g 0 l.toArray:=by
 intro j K;have H:j<l.length:=by grind
 have h1:au.toList[j]? =some (Value.int .i64 l[j]):=by
  have:(au.toList.take m)[j]? =some (Value.int .i64 l[j]):=by grind
  rw[Cs,if_pos ox]at this;exact this
 constructor
 ·simp only[World.cell?,y,Bo];simp only[Option.isSome_none,GK,if_false];rw[Sg]at h1;rw[h1];simp[H]
 ·simp[World.frozen?,y]
theorem ADB{w:World}(z:Holds V w)(y:∀a:Addr,a.block=g->V a=none/\a.block≠1)(h:∀k,k<w.heap.size->k≠g->w'.heap[k]? =w.heap[k]?):Holds V w':=by
 refine⟨?_,z.t.same (h 1 z.t.lt λe=>(y ⟨1,0,none⟩ e).2 Y)⟩;intro a x H;have h1:=z a x H;have K:a.block≠g:=λe=>by rw[(y a e).1]at H;cases H
 have N:a.block<w.heap.size:=by
  rcases A7 a.block w.heap.size with O|O
  ·exact O
  ·simp only[World.cell?]at h1;rw[Array.getElem?_eq_none O]at h1;simp at h1
 simp only[World.cell?]at h1⊢;rw[h _ N K];exact h1
theorem T9(hf:AEa P f)(hS:∀(Bp off cap:Nat)(zs:List Int)(w:World),Go.Sort.Holds (Value.int .i64) w Bp off zs.toArray->Bp<w.heap.size->zs.length<4611686018427387904->Calls P f #[.slice (some ⟨Bp,off,none⟩) zs.length cap] w λe w'=>e=.returned (.tuple #[])/\∃n os,w'=Go.Sort.grow (Go.Sort.putRow (Value.int .i64) (Go.Sort.ahead w n) Bp off (zs.mergeSort λx y=>decide (x<=y)).toArray) os)(hN:∀(p:AA Addr)(cap:Nat)(w:World),Calls P f #[.slice p 0 cap] w λe w'=>e=.returned (.tuple #[])/\w'=w){a:AA Addr}{l:List Int}(ab:l.length<4611686018427387904):MJ P f [.slice a n c] ⟨.slice a n c,l.map (Value.int .i64),e,1⟩ V (λV' v r'=>v=.tuple #[]/\V'=V/\r'=⟨.slice a n c,(l.mergeSort λx y=>decide (x<=y)).map (Value.int .i64),e,1⟩):=by
 refine⟨hf,λw hV W X=>?_⟩;have⟨m,hlen,O⟩:=W;have K:l.length=m:=by grind
 rcases O with⟨Z,hm⟩|⟨g,cap,cur,Z,hb,z,ad,ae,af,H⟩
 ·simp only[Value.slice.injEq]at Z;obtain⟨rfl,rfl,rfl⟩:=Z;have ag:l=[]:=FO ox;subst ag;refine(hN none 0 w).mono ?_;rintro e' w' ⟨rfl,rfl⟩;exact⟨_,V,_,Y,⟨Y,Y,Y,λ_ _ _=>Y⟩,DI.refl V,hV,λa x h=>.inl h,⟨0,by simp,.inl ⟨Y,Y⟩⟩,λa N=>by simp[Value.ownBlock]at N,λa N=>by simp[Value.ownBlock]at N,Y,Y,Y⟩
 ·simp only[Value.slice.injEq]at Z;obtain⟨rfl,rfl,rfl⟩:=Z;rw[AEY]at H af;have hg:g<w.heap.size:=(An.1 z).1;have hc:=hS g 0 c l w (ACp z H K) hg ab;rw[K]at hc;refine hc.mono ?_;rintro e' w' ⟨rfl,q,os,rfl⟩;have ai:(l.mergeSort λx y=>decide (x<=y)).length=n:=by rw[List.length_mergeSort,K]
  have⟨p1,p2,p3,p4,aa,p5,p6,p7⟩:=W9 (q:=q) (os:=os) (l2:=l.mergeSort λx y=>decide (x<=y)) z ox;refine⟨_,V,⟨.slice (some ⟨g,0,none⟩) n c,(l.mergeSort λx y=>decide (x<=y)).map (Value.int .i64),e,1⟩,Y,⟨p1,p2,p3,λk hk ah=>p4 k hk (λe=>ah (by rw[e];rfl))⟩,DI.refl V,?_,λa x h=>.inl h,⟨n,by simp[K],.inr ⟨g,c,aa,Y,hb,p5,ad,ae,?_,?_⟩⟩,λa N=>(X a N).1,λa N=>.inl N,Y,Y,Y⟩
  ·exact ADB hV (λa N=>X a (by rw[N];rfl)) p4
  ·grind
  ·grind
theorem AHN(l:List Int):(Go.Lib.compact l).length<=l.length:=by
 simp only[Go.Lib.compact,Go.Lib.compactUpTo,Ap];exact Cf (C3 _ _) zp
theorem Qs(hf:AEa P f)(hC:∀(Bp off cap:Nat)(zs:List Int)(w:World),Go.Sort.Holds (Value.int .i64) w Bp off zs.toArray->zs.length<=9223372036854775807->zs.length<=cap->Calls P f #[.slice (some ⟨Bp,off,none⟩) zs.length cap] w λe w'=>e=.returned (.slice (some ⟨Bp,off,none⟩) (Go.Lib.compact zs).length cap)/\∃q,w'=Go.Sort.putRow (Value.int .i64) (Go.Sort.ahead w q) Bp off (Go.Lib.compact zs++List.replicate (zs.length-(Go.Lib.compact zs).length) 0).toArray)(hE:∀(a:AA Addr)(cap:Nat)(w:World),Calls P f #[.slice a 0 cap] w λe w'=>e=.returned (.slice a 0 cap)/\w'=w){a:AA Addr}{l:List Int}:MJ P f [.slice a n c] ⟨.slice a n c,l.map (Value.int .i64),e,1⟩ V (λV' v r'=>v=.slice a (Go.Lib.compact l).length c/\V'=V/\r'=⟨.slice a (Go.Lib.compact l).length c,(Go.Lib.compact l).map (Value.int .i64),e,1⟩):=by
 refine⟨hf,λw hV O W=>?_⟩;have⟨m,hlen,N⟩:=O;have X:l.length=m:=by grind
 rcases N with⟨Z,hm⟩|⟨g,cap,cur,Z,hb,z,ad,aa,ae,H⟩
 ·simp only[Value.slice.injEq]at Z;obtain⟨rfl,rfl,rfl⟩:=Z;have af:l=[]:=FO ox;subst af;refine(hE none 0 w).mono ?_;rintro e' w' ⟨rfl,rfl⟩;exact⟨_,V,⟨.slice none 0 0,[],e,1⟩,Y,⟨Y,Y,Y,λ_ _ _=>Y⟩,DI.refl V,hV,λa x h=>.inl h,⟨0,by simp,.inl ⟨Y,Y⟩⟩,λa K=>by simp[Value.ownBlock]at K,λa K=>by simp[Value.ownBlock]at K,Y,Y,Y⟩
 ·simp only[Value.slice.injEq]at Z;obtain⟨rfl,rfl,rfl⟩:=Z;rw[AEY]at H ae;have hle:=AHN l;have ab:n<=maxLen:=Cf ad aa;have hc:=hC g 0 c l w (ACp z H X) (by simp only[maxLen]at ab;omega) ox;rw[X]at hc;refine hc.mono ?_;rintro e' w' ⟨rfl,q,rfl⟩;have hl2:(Go.Lib.compact l++List.replicate (n-(Go.Lib.compact l).length) 0).length=n:=by simp;omega
  have⟨p1,p2,p3,p4,y,p5,p6,p7⟩:=W9 (q:=q) (os:= #[]) (l2:=Go.Lib.compact l++List.replicate (n-(Go.Lib.compact l).length) 0) z ox;rw[Go.Sort.grow_empty]at p1 p2 p3 p5;simp only[Go.Sort.grow_empty]at p4;refine⟨_,V,⟨.slice (some ⟨g,0,none⟩) (Go.Lib.compact l).length c,(Go.Lib.compact l).map (Value.int .i64),e,1⟩,Y,⟨p1,p2,p3,λk hk ag=>p4 k hk (λe=>ag (by rw[e];rfl))⟩,DI.refl V,?_,λa x h=>.inl h,⟨(Go.Lib.compact l).length,by simp,.inr ⟨g,c,y,Y,hb,p5,by omega,aa,?_,?_⟩⟩,λa K=>(W a K).1,λa K=>.inl K,Y,Y,Y⟩
  ·exact ADB hV (λa K=>W a (by rw[K];rfl)) p4
  ·grind
  ·show y.toList.take ((Go.Lib.compact l).length*1)=_;have:y.toList.take (Go.Lib.compact l).length=(y.toList.take (Go.Lib.compact l++List.replicate (n-(Go.Lib.compact l).length) 0).length).take (Go.Lib.compact l).length:=by grind
   rw[AEY,this,p7,E0,Ut zp]
abbrev A9:=List UInt8
def Ba{ρ:Type}(p:Prop)[Decidable p](k:AA ρ):AA ρ:=if p then k else none
theorem AL{ρ:Type}{p:Prop}[Decidable p]{k:AA ρ}{r:ρ}(h:Ba p k=some r):p/\k=some r:=by
 unfold Ba at h;split at h
 ·grind
 ·simp at h
theorem CV{ρ:Type}{b:Bool}{x y:AA ρ}{r:ρ}(h:cond b x y=some r):(b=true/\x=some r)\/(b=false/\y=some r):=by
 cases b
 ·grind
 ·grind
def Az{α ρ:Type}(x:AA α)(k:α->AA ρ):AA ρ:=match x with|some a=>k a|none=>none
theorem AO{α ρ:Type}{x:AA α}{k:α->AA ρ}{r:ρ}(h:Az x k=some r):∃a,x=some a/\k a=some r:=by
 unfold Az at h;split at h
 ·grind
 ·simp at h
def CG{α:Type}[Inhabited α](g:Bool)(x:AA α):AA α:=cond g x (some default)
theorem Nq{α:Type}[Inhabited α]{g:Bool}{x:AA α}{a:α}(h:CG g x=some a)(y:g=true):x=some a:=by subst y;exact h
@[reducible] def jn {κ ρ:Type} (j:κ) (f:κ->AA ρ):AA ρ:=f j
theorem APp{κ ρ:Type}{j:κ}{f:κ->AA ρ}{r:ρ}(h:jn j f=some r):∃J,J=j/\f J=some r:=⟨j,Y,h⟩
theorem Bt{ρ:Type}{a r:ρ}(h:some a=some r):a=r:=Lp h
theorem Bv{x b:Bool}(h:x=b):(x==b)=true:=by subst h;simp
theorem Dr{x b c:Bool}(h:x=b)(k:aL=c):((x==b)&&(aL==c))=true:=by subst h;subst k;simp
theorem AOU{x b c d:Bool}(h:x=b)(k:aL=c)(l:bl=d):((x==b)&&((aL==c)&&(bl==d)))=true:=by subst h;subst k;subst l;simp
def AN{α:Type}[Inhabited α](l:List α)(n:Int):α:=l.getD n.toNat default
structure Cd(α:Type)[Inhabited α]where
 sz:Nat
 rep:AM->α->List Value->Prop
 len:∀{V x cs},rep V x cs->cs.length=sz
 mono:∀{V V' x cs},DI V V'->rep V x cs->rep V' x cs
 one:∀{V x cs},rep V x cs->∀u∈cs,u.oneCell'=true
 pos:0<sz
 NB:∃cs,∀V,rep V default cs
def AK{α:Type}[Inhabited α](c:Cd α)(V:AM)(a:AA Addr)(k:Nat)(l:List α):Prop:=l.length<=k/\∀i x,l[i]? =some x->∃cs,c.rep V x cs/\Bi V a (i*c.sz) cs
section
variable {α:Type} [Inhabited α] {c:Cd α} {V V':AM} {a:AA Addr} {k:Nat} {l:List α}
theorem AK.nil:AK c V a k []:=⟨By _,λi x h=>by simp at h⟩
theorem AK.mono(h:AK c V a k l)(hv:DI V V'):AK c V' a k l:=⟨h.1,λi x y=>by
 have⟨cs,h1,h2⟩:=h.2 i x y;exact⟨cs,c.mono hv h1,h2.mono hv⟩⟩
theorem AK.get(h:AK c V a k l){n:Int}(z:0<=n/\n<l.length):∃cs,c.rep V (AN l n) cs/\Bi V a (n.toNat*c.sz) cs:=by
 have y:n.toNat<l.length:=ox
 refine h.2 n.toNat (AN l n) ?_;simp[AN,y]
theorem Bi.some(h:Bi V a off cs):∃b o,a=.some ⟨b,o,none⟩:=by
 have⟨b,o,h1,_⟩:=h;exact⟨b,o,h1⟩
theorem AK.OG(g:Bool)(h:AK c V a k l){n:Int}(z:g=true->0<=n/\n<l.length):∃cs,c.rep V (cond g (AN l n) default) cs/\(g=true->Bi V a (n.toNat*c.sz) cs):=by
 cases g with
 |false=>
  have⟨cs,y⟩:=c.NB;exact⟨cs,y V,λh=>by simp at h⟩
 |true=>
  have⟨cs,h1,h2⟩:=h.get (z Y);exact⟨cs,h1,λ_=>h2⟩
theorem Bi.part(h:Bi V a off cs)(j n:Nat){r:List Value}(y:takeN cs j n=.some r):Bi V a (off+j) r:=by
 have⟨b,o,h1,h2⟩:=h;refine⟨b,o,h1,λi x z=>?_⟩;rcases AAg cs j n r y with⟨e,_⟩|⟨_,e⟩
 ·grind
 ·grind
end
def AF{α:Type}[Inhabited α](c:Cd α)(V:AM):List α->List Value->Prop
 |[],cs=>cs=[]|x::l,cs=>∃e r,cs=e++r/\c.rep V x e/\AF c V l r
section
variable {α:Type} [Inhabited α] {c:Cd α} {V V':AM} {a:AA Addr}
theorem AF.nil:AF c V [] []:=rfl
theorem AF.len:∀{l:List α}{cs:List Value},AF c V l cs->cs.length=l.length*c.sz
 |[],cs,h=>by rw[show cs=[]from h];simp
 |x::l,cs,h=>by
  obtain⟨e,r,rfl,h1,h2⟩:=h;simp[c.len h1,h2.len,G1,AJ2]
theorem AF.mono(hv:DI V V'):∀{l:List α}{cs:List Value},AF c V l cs->AF c V' l cs
 |[],_,h=>h|_::_,_,⟨e,r,h0,h1,h2⟩=>⟨e,r,h0,c.mono hv h1,h2.mono hv⟩
theorem AF.app:∀{l l':List α}{cs y:List Value},AF c V l cs->AF c V l' y->AF c V (l++l') (cs++y)
 |[],_,cs,_,h,z=>by rw[show cs=[]from h];exact z
 |_::_,_,_,_,⟨e,r,h0,h1,h2⟩,z=>by
  subst h0;exact⟨e,_,by rw[CZ],h1,h2.app z⟩
theorem AF.at:∀{l:List α}{cs:List Value}{i:Nat}{x:α},AF c V l cs->l[i]? =some x->∃e,c.rep V x e/\BE cs (i*c.sz) e
 |[],_,i,x,_,h=>by simp at h
 |y::l,cs,0,x,⟨e,r,h0,h1,h2⟩,h=>by
  simp at h;subst h;subst h0;refine⟨e,h1,λj v hv=>?_⟩;have:=(As.1 hv).1;rw[Nat.zero_mul,Bo,DL,if_pos this];exact hv
 |y::l,cs,i+1,x,⟨e,r,h0,h1,h2⟩,h=>by
  simp at h;have⟨z,k1,k2⟩:=h2.at h;subst h0;refine⟨z,k1,λj v hv=>?_⟩;have hl:=c.len h1;rw[DL,if_neg (by rw[hl,G1];omega),hl];rw[show(i+1)*c.sz+j-c.sz=i*c.sz+j by rw[G1];omega];exact k2 j v hv
theorem AF.get{l:List α}(h:AF c V l cs){n:Int}(z:0<=n/\n<l.length):∃e,c.rep V (AN l n) e/\BE cs (n.toNat*c.sz) e:=by
 have y:n.toNat<l.length:=ox
 refine h.at ?_;simp[AN,y]
theorem AF.OG(g:Bool){l:List α}(h:AF c V l cs){n:Int}(z:g=true->0<=n/\n<l.length):∃e,c.rep V (cond g (AN l n) default) e/\(g=true->BE cs (n.toNat*c.sz) e):=by
 cases g with
 |false=>
  have⟨cs,y⟩:=c.NB;exact⟨cs,y V,λh=>by simp at h⟩
 |true=>
  have⟨cs,h1,h2⟩:=h.get (z Y);exact⟨cs,h1,λ_=>h2⟩
theorem AF.put:∀{l:List α}{cs:List Value}{i:Nat}{x:α}{e:List Value},AF c V l cs->i<l.length->c.rep V x e->AF c V (l.set i x) (cs.take (i*c.sz)++e++cs.drop (i*c.sz+c.sz))
 |[],_,i,x,e,_,h,_=>by simp at h
 |y::l,cs,0,x,e,⟨z,r,h0,h1,h2⟩,_,H=>by
  subst h0;have hl:=c.len h1;refine⟨e,r,?_,H,h2⟩;rw[Nat.zero_mul,Bo,<- hl];simp
 |y::l,cs,i+1,x,e,⟨z,r,h0,h1,h2⟩,hi,H=>by
  subst h0;have hl:=c.len h1;refine⟨z,_,?_,h1,h2.put (i:=i) (by simpa using hi) H⟩;have K:(i+1)*c.sz=z.length+i*c.sz:=by grind
  rw[K,List.take_length_add_append,Km,List.drop_length_add_append];simp
theorem AF.set{l:List α}(h:AF c V l cs){n:Int}(z:0<=n/\n<l.length){x:α}{e:List Value}(y:c.rep V x e):AF c V (l.set n.toNat x) (cs.take (n.toNat*c.sz)++e++cs.drop (n.toNat*c.sz+c.sz)):=h.put ox y
theorem Ns{z:List Value}(y:c.rep V default z):∀n:Nat,AF c V (List.replicate n default) (List.replicate n z).flatten
 |0=>rfl|n+1=>⟨z,_,by rw[AGG,AJ5],y,Ns y n⟩
theorem BE.part{e:List Value}(h:BE cs off e)(j n:Nat){r:List Value}(z:takeN e j n=some r):BE cs (off+j) r:=by
 intro i x y;rcases AAg e j n r z with⟨q,_⟩|⟨_,q⟩
 ·rw[q]at y;simp only[Cs,DT]at y;split at y
  ·have:=h (j+i) x y;rw[show off+j+i=off+(j+i) by omega];exact this
  ·simp at y
 ·grind
theorem BV{l:List α}{k:Nat}(h:AF c V l cs)(hv:DI V V')(y:cs≠[]->Bi V' a 0 cs)(H:l.length<=k):AK c V' a k l:=by
 refine⟨H,λi x K=>?_⟩;have⟨e,h1,h2⟩:=h.at K;have z:cs≠[]:=by
  rintro rfl;have hl:=c.len h1;have hp:=c.pos;obtain⟨u,hu⟩:∃u,e[0]? =some u:=⟨e[0]'ox,by simp⟩;have:=h2 0 u hu;simp at this
 obtain⟨b,o,rfl,N⟩:=y z;refine⟨e,c.mono hv h1,b,o,Y,λj v O=>?_⟩;have:=N (i*c.sz+j) v (h2 j v O);simpa[Km]using this
theorem AK.cells:∀{l:List α}(k:Nat),(∀i x,l[i]? =some x->∃cs,c.rep V x cs/\Bi V a ((k+i)*c.sz) cs)->∃cs,AF c V l cs/\(∀j v,cs[j]? =some v->∃b o,a=some ⟨b,o,none⟩/\V ⟨b,o+k*c.sz+j,none⟩=some v)
 |[],k,_=>⟨[],Y,λj v h=>by simp at h⟩
 |x::l,k,h=>by
  have⟨e,h1,b,o,h2,h3⟩:=h 0 x Y;have⟨cs,z,K⟩:=AK.cells (l:=l) (k+1) λi y H=>by
   have:=h (i+1) y (by simpa using H);rwa[show k+(i+1)=k+1+i by omega]at this
  have hl:=c.len h1;refine⟨e++cs,⟨e,cs,Y,h1,z⟩,λj v hv=>?_⟩;rw[DL]at hv;split at hv
  ·grind
  ·grind
end
instance:Inhabited A9:=⟨[]⟩
def CD(k:IntKind):Cd Int where
 sz:=1
 rep _ n cs:=cs=[.int k n]
 len h:=by subst h;rfl
 mono _ h:=h
 one h:=by subst h;intro u hu;simp at hu;subst hu;rfl
 pos:=ox
 NB:=⟨_,λ_=>Y⟩
def Ot:Cd Bool where
 sz:=1
 rep _ n cs:=cs=[.bool n]
 len h:=by subst h;rfl
 mono _ h:=h
 one h:=by subst h;intro u hu;simp at hu;subst hu;rfl
 pos:=ox
 NB:=⟨_,λ_=>Y⟩
def Bf:Cd A9 where
 sz:=1
 rep _ n cs:=cs=[.string ⟨⟨n⟩⟩]
 len h:=by subst h;rfl
 mono _ h:=h
 one h:=by subst h;intro u hu;simp at hu;subst hu;rfl
 pos:=ox
 NB:=⟨_,λ_=>Y⟩
def cSl{α:Type}[Inhabited α](c:Cd α):Cd (List α)where
 sz:=1
 rep V l cs:=∃a k,cs=[.slice a l.length k]/\AK c V a k l
 len h:=by obtain⟨a,k,rfl,_⟩:=h;rfl
 mono hv h:=by
  obtain⟨a,k,rfl,h⟩:=h;exact⟨a,k,Y,h.mono hv⟩
 one h:=by obtain⟨a,k,rfl,_⟩:=h;intro u hu;simp at hu;subst hu;rfl
 pos:=ox
 NB:=⟨[.slice none 0 0],λ_=>⟨none,0,Y,AK.nil⟩⟩
def Hq{α β:Type}(P:Program)(f:Nat)(z:List Value)(V:AM)(mk:α->Value)(res:β->Value)(g:α->AA β):Prop:=
 ∀V',DI V V'->∀y r,g y=some r->Spec P f ([mk y]++z) V' (λ_ v=>v=res r)
theorem Hq.mono{α β:Type}{mk:α->Value}{res:β->Value}{g:α->AA β}(h:Hq P f O V mk res g)(hv:DI V V'):Hq P f O V' mk res g:=
 λV1 h1=>h V1 (hv.trans h1)
theorem Hq.at{α β:Type}{mk:α->Value}{res:β->Value}{g:α->AA β}(h:Hq P f O V mk res g){y:α}{r:β}(z:g y=some r):Spec P f ([mk y]++O) V (λ_ v=>v=res r):=
 h V (DI.refl V) y r z
def Ob{α H β:Type}(P:Program)(f:Nat)(K:List Value)(V:AM)(mk:α->Value)(mk':H->Value)(res:β->Value)(g:α->H->AA β):Prop:=
 ∀V',DI V V'->∀y z r,g y z=some r->Spec P f ([mk y,mk' z]++K) V' (λ_ v=>v=res r)
theorem Ob.mono{α y β:Type}{mk:α->Value}{mk':y->Value}{res:β->Value}{g:α->y->AA β}(h:Ob P f O V mk mk' res g)(hv:DI V V'):Ob P f O V' mk mk' res g:=
 λV1 h1=>h V1 (hv.trans h1)
theorem Ob.at{α H β:Type}{mk:α->Value}{mk':H->Value}{res:β->Value}{g:α->H->AA β}(h:Ob P f O V mk mk' res g){y:α}{z:H}{r:β}(K:g y z=some r):Spec P f ([mk y,mk' z]++O) V (λ_ v=>v=res r):=
 h V (DI.refl V) y z r K
section
variable {C:Ctx}
theorem IE(I:Fr->AM->List OB->Prop)(z:Kw k=true)(h1:∀L V M,I L V M->AD C ⟨k,L,M⟩ V)(h2:AD C ⟨.code aj:: .inLoop I::k,L,M⟩ V):AD C ⟨.code aj::k,L,M⟩ V:=by
 refine AD.of λFR H env t w K N O W g5=>?_;have:=h2.to FR H env t w K N O W Yt;refine Go.wp_mono this λe a2 w2 hp=>?_;cases e with
 |normal=>
  have⟨k1,k2,y,X,Z,M2,k3,k4,k5⟩:=hp;cases a2;simp only at k1 k2 k4;subst k1;exact(h1 X Z M2 k5).to0 z k2 k3 k4 .none
 |exit id=>exact hp|goto l=>exact hp|ret=>exact hp|panic ch=>exact hp|outgrown=>exact hp
def AAK(lr:List B7):List (Nat×Bool)->Bool
 |[]=>true|(r,_)::G=>match H7 lr r with
  |some ⟨_,c,.v (.bool _),_⟩=>match ADa c G with
   |true=>AAK lr G|false=>false
  |_=>false
theorem Wn{lr:List B7}{p:Prop}(h:p):∀{G:List (Nat×Bool)},P3 lr G p
 |[]=>h|(r,b)::G=>by
  simp only[P3];split
  ·exactλ_=>Wn h
  ·exact Wn h
theorem Zp{env:List Nat}{M:List OB}{lr:List B7}{t:Array Value}(hR:N3 env M lr t){p:Prop}:∀{G:List (Nat×Bool)},AAK lr G=true->¬Di t G->P3 lr G p
 |[],_,h=>absurd Yt h|(r,b)::G,y,h=>by
  simp only[AAK]at y;split at y<;>try (simp at y;done)
  rename_i s c x N he;split at y<;>try (simp at y;done)
  rename_i z;simp only[P3,he];intro K;refine Zp hR y λH=>h ⟨?_,H⟩;have ht:=((hR r _ he).1 (Hx t G c z H)).1;rw[ht,<- K];rfl
theorem ZD{β:Type}(mk:β->Value)(y0:β){d:Nat}{R:AM->β->Prop}(hh:CF C.nt all lr L o=some (G,d))(hc:Gc (Et L lr) G o.op=some (f,args))(K:AAK lr G=true)(hs:P3 lr G (Spec C.P f args V λV' v=>∃y,v=mk y/\R V' y))(h:∀V' y,DI V V'->P3 lr G (R V' y)->AD C ⟨.ops rest all (⟨d,G,.v (mk y),d⟩::lr)::k,F9 G d (.v (mk y)) L,M⟩ V'):AD C ⟨.ops (o::rest) all lr::k,L,M⟩ V:=by
 refine AD.of λFR DF env t w h1 h2 h3 Z h5=>?_;have⟨hg,hd,hn,hf,ad⟩:=EG hh;have aa:d<t.size:=by rw[h1];simpa[D1]using hn
 have hw:=Ch Z hg;show wpList C.P ⟨all⟩ (post C FR DF k) (o::rest) ⟨t,[]⟩ w;refine Cn ?_;have fin:∀V' y w',DI V V'->P3 lr G (R V' y)->FC C.V0 FR env V' M w'->∀u,((Di t G->u=mk y)/\(¬Di t G->u=undef))->post C FR DF (.ops rest all (⟨d,G,.v (mk y),d⟩::lr)::k) .normal ⟨t.setIfInBounds d u,[]⟩ w':=by
  intro V' y w' hv hR O u hu;refine(h V' y hv hR).to FR DF env _ w' (by simpa using h1) O ?_ (Z.put aa hf hu.1 hu.2 (RS hg hf) (.inl Y) (λ_=>Yt)) (My.grow ⟨[],by simp⟩ hv ⟨[],by simp⟩ h5.same);rcases ad with rfl|⟨ae,W⟩
  ·rw[hu.1 Yt];exact h3.put (x:=.v (mk y)) aa Yt
  ·cases G with
   |nil=>exact absurd Y ae|cons g G=>exact h3.AAN W u
 by_cases z:Di t G
 ·rw[if_pos (hw.2 z)];have⟨af,X⟩:=hs.out Z z;unfold Oper.wp;rw[KR (A2 h3 Z) z hc af w];refine(X w h2.holds).mono λe w' ⟨v,V',p1,p2,p3,p4,p5,y,p6,p7⟩=>?_;subst p1;subst p6;have ab:∀b o,FR.Bp b=some o->b<w.heap.size:=λb o ho=>(An.1 (h2.frame b o ho)).1;have O:FC C.V0 FR env V' M w':=by
   refine⟨p2.os.trans h2.os,p2.tape.trans h2.tape,p2.output.trans h2.output,λb o ho=>by rw[p2.block b (ab b o ho)];exact h2.frame b o ho,h2.le.trans p3,p4,?_,h2.len,?_,?_,h2.C1,h2.apart,h2.tb⟩
   ·intro a y N;rcases p5 a y N with N|N
    ·exact h2.fresh a y N
    ·right;cases hb:FR.Bp a.block with
     |none=>rfl|some o=>have:=ab _ o hb;omega
   ·intro i ob H;exact LN Y (λ_ _=>Y) (λx hx=>hx) (h2.sat i ob H) λkk hk=>p2.block kk (Dt (h2.sat i ob H) hk)
   ·intro i ob a H ha;have:=Dt (h2.sat i ob H) ha;cases hv:V' a with
    |none=>rfl|some y=>
     rcases p5 a y hv with N|N
     ·rw[h2.DA i ob a H ha]at N;simp at N
     ·omega
  simp only[Act.put,hd];exact fin V' y w' p3 (Wn p7) O _ ⟨λ_=>Y,λhn=>absurd z hn⟩
 ·rw[if_neg (λe=>z (hw.1 e))];simp only[Act.put,hd];exact fin V y0 w (DI.refl V) (Zp Z K z) h2 undef ⟨λe=>absurd e z,λ_=>Y⟩
end
theorem ixA{α:Type}{l:List α}{i:Int}(y:0<=i/\i<(l.length:Int))(h1:cs.length=l.length*sz)(h2:cs.length=n*sz)(z:0<sz):0<=i/\i<(n:Int):=by
 have:l.length=n:=Nat.eq_of_mul_eq_mul_right z (h1.symm.trans h2);rw[<- this];exact y
theorem stB{α:Type}{l:List α}{i:Int}(y:0<=i/\i<(l.length:Int))(h1:cs.length=l.length*sz):i.toNat*sz+sz<=cs.length:=by
 rw[h1];have h:i.toNat+1<=l.length:=ox
 calc i.toNat*sz+sz=(i.toNat+1)*sz:=by rw[G1,RG]
  _<=l.length*sz:=Cm _ h
theorem AHC{α:Type}[Inhabited α]{c:Cd α}{a:AA Addr}{k:Nat}{x:Bool}{b:Bool}{F:AA (List α)}{r:List α}(y:CG (x==b) F=some r)(h:x=b->AK c V a k r):AK c V a k r:=by
 by_cases z:x=b
 ·exact h z
 ·have:(x==b)=false:=by simpa using z
  rw[this]at y;simp only[CG,AP,AE]at y;rw[<- y];exact AK.nil
def Rp(i b:Nat):Fr->Fr
 |[]=>[]|(s,.ptr j o)::L=>match Nat.beq j i with
  |true=>(s,.v (.pointer (some ⟨b,o,none⟩)))::Rp i b L|false=>(s,.ptr j o)::Rp i b L
 |(s,x)::L=>(s,x)::Rp i b L
theorem RN{i b:Nat}{env:List Nat}(K:Bm env i=b):∀{L:Fr}{s:Nat}{x:SV},EF (Rp i b L) s=some x->∃y,EF L s=some y/\den env y=den env x/\(∀M:List OB,y.ok M->x.ok M)
 |[],s,x,h=>by simp[Rp,EF]at h
 |(d,y)::L,s,x,h=>by
  have key:∀z,den env y=den env z->(∀M:List OB,y.ok M->z.ok M)->EF ((d,z)::Rp i b L) s=some x->∃H,EF ((d,y)::L) s=some H/\den env H=den env x/\(∀M:List OB,H.ok M->x.ok M):=by
   intro z h1 h2 h3;rw[MC]at h3⊢;split at h3
   ·grind
   ·rename_i N;rw[if_neg N];exact RN K h3
  cases y with
  |ptr j o=>
   simp only[Rp]at h;split at h
   ·rename_i O;have:=F6 O;subst this;exact key (.v (.pointer (some ⟨b,o,none⟩))) (by simp[den,K]) (λ_ _=>Yt) h
   ·grind
  |v z=>exact key _ Y (λ_ h=>h) h|TY _ _ _ _=>exact key _ Y (λ_ h=>h) h|el _ _=>exact key _ Y (λ_ h=>h) h
section
variable {C:Ctx} (hT:K2 C.P C.T)
theorem I6(i:Nat){M':Nat->List OB}{L':Nat->Fr}(X:Kw k=true)(hi:nth M i=some (.Bp ak y))(hv:Oo ak=some cs)(hl:Nat.beq cs.length (n*sz)=true)(N:Nat.ble n 1000000=true)(Z:∀b,It M i (.row (.slice (some ⟨b,0,none⟩) n n) cs y sz)=some (M' b))(hL:∀b,Rp i b L=L' b)(h:∀b,AD C ⟨k,L' b,M' b⟩ V):AD C ⟨k,L,M⟩ V:=by
 refine AD.of λFR DF env t w h1 h2 h3 h4 h5=>?_;rw[Cc]at hi;have z:=(h2.sat i _ hi).1;rw[Gl (env:=env) hv]at z;have hl:=F6 hl;have N:n<=maxLen:=Cf (Ae N) (by simp[maxLen]);have H:EU w y sz (.slice (some ⟨Bm env i,0,none⟩) n n) cs:=⟨n,hl,.inr ⟨_,n,_,Y,By _,z,Nat.le_refl _,N,by simp[hl],by simp[<- hl]⟩⟩;have hW:=h2.upd (w':=w) (o':=.row (.slice (some ⟨Bm env i,0,none⟩) n n) cs y sz) hi zp Y Y Y (λ_ _ _=>Y) H (λa O=>.inl (by
  simp only[OB.own,Value.ownBlock,AE]at O⊢;exact O.symm))
 have⟨_,K⟩:=Dg (Z (Bm env i));refine(h (Bm env i)).to0 X (env:=env) h1 (by rw[K];exact hW) (λs x W=>?_) DF;rw[<- hL]at W;have⟨aa,k1,k2,k3⟩:=RN (b:=Bm env i) Y W;have⟨k4,k5⟩:=h3 s aa k1;exact⟨by rw[k4,k2],DM (λj hj=>by rw[K];exact GO zp hj) (k3 M k5)⟩
def AIP(T:List G6)(y:Je)(G:List (Nat×Bool))(op:Op):AA (Nat×Nat×Int×Nat×Nat):=
 match op with
 |.indexAddr t x i=>match nth T t with
  |some d=>match d.size,d.RI with
   |_+1,.arr len e=>match nth T e with
    |some z=>match z.size with
     |0=>none|sz+1=>match ev y G x,ev y G i with
      |some (.v (.pointer (some ⟨b,o,none⟩))),some (.v (.int _ n))=>some (b,len,n,sz+1,o)|_,_=>none
    |none=>none
   |_,_=>none
  |none=>none
 |_=>none
include hT in
theorem AIO{t:Array Value}(N:NU env M t ag)(hG:Di t G){b len:Nat}{n:Int}(y:AIP C.T ag G o.op=some (b,len,n,sz,o'))(W:0<=n/\n<len)(w:World):(execOp (⟨t,[]⟩:Act).eval o).run C.P w=.ok (.value (den env (.el (some ⟨b,o',none⟩) (n.toNat*sz)))) w:=by
 unfold AIP at y;split at y<;>try (simp at y;done)
 rename_i ty x i H;split at y<;>try (simp at y;done)
 rename_i dd X;split at y<;>try (simp at y;done)
 rename_i m O e Z hu;split at y<;>try (simp at y;done)
 rename_i ed K;split at y<;>try (simp at y;done)
 rename_i aa z;split at y<;>try (simp at y;done)
 rename_i b' ab k' n' hx hi;simp only[AE,BJ]at y;obtain⟨rfl,rfl,rfl,rfl,rfl⟩:=y;unfold execOp;simp only[H,BN N hG hx,BN N hG hi,den,Instr.indexAt,asIntOf,Sem.run_bind,Sem.run_pure,Result.andThen_ok,run_underlying (ANY hT X ox hu),Instr.sureAddr];rw[if_pos W];simp only[Sem.run_bind,Lf hT w K ox,Result.andThen_ok,Sem.run_pure,z];simp[Addr.add_lit]
include hT in
theorem LH{d b len:Nat}{n:Int}(z:CF C.nt all lr L o=some (G,d))(H:AIP C.T (Et L lr) G o.op=some (b,len,n,sz,o'))(K:P3 lr G (0<=n/\n<len))(h:AD C ⟨.ops rest all (⟨d,G,.el (some ⟨b,o',none⟩) (n.toNat*sz),d⟩::lr)::k,F9 G d (.el (some ⟨b,o',none⟩) (n.toNat*sz)) L,M⟩ V):AD C ⟨.ops (o::rest) all lr::k,L,M⟩ V:=
 G9 (x:=.el (some ⟨b,o',none⟩) (n.toNat*sz)) z (λ_ _ w h3 y _ hG=>⟨⟨_,_,Y⟩,AIO hT (A2 h3 y) hG H (K.out y hG) w⟩) h
include hT in
theorem Lb{d b len:Nat}{n:Int}{p:List (Nat×Bool)}(z:Qm C.nt all lr i L=some (o,G,d))(hm:m'=m+1)(H:AIP C.T (Et L lr) G o.op=some (b,len,n,sz,o'))(K:P3 lr G (0<=n/\n<len))(h:AD C ⟨.draw ⟨all,Ha listed i,m,ends,n0,mask,V1,p,⟨d,G,.el (some ⟨b,o',none⟩) (n.toNat*sz),d⟩::lr⟩::k,F9 G d (.el (some ⟨b,o',none⟩) (n.toNat*sz)) L,M⟩ V):AD C ⟨.draw ⟨all,listed,m',ends,n0,mask,V1,(i,true)::p,lr⟩::k,L,M⟩ V:=
 Ie (x:=.el (some ⟨b,o',none⟩) (n.toNat*sz)) z hm (λ_ _ w h3 y _ _ hG=>⟨⟨_,_,Y⟩,AIO hT (A2 h3 y) hG H (K.out y hG) w⟩) h
def ACk(T:List G6)(y:Je)(G:List (Nat×Bool))(op:Op):AA (AA Addr×Nat×Nat×AA Int×AA Int×Nat):=
 match op with
 |.slice t x lo hi none=>match KG T t with
  |some (_,sz,_,_)=>match ev y G x,ACL y G lo,ACL y G hi with
   |some (.v (.slice a n c)),some p,some q=>some (a,n,c,p,q,sz)|_,_,_=>none
  |none=>none
 |_=>none
include hT in
theorem AAH{t:Array Value}(K:NU env M t ag)(hG:Di t G){a:AA Addr}{p q:AA Int}(H:ACk C.T ag G o.op=some (a,n,c,p,q,sz))(hb:0<=O4 p/\O4 p<=hiN n q/\hiN n q<=c)(w:World):(execOp (⟨t,[]⟩:Act).eval o).run C.P w=.ok (.value (.slice (if c=(O4 p).toNat then a else a.map (·.add ((O4 p).toNat*sz))) ((hiN n q).toNat-(O4 p).toNat) (c-(O4 p).toNat))) w:=by
 have⟨N,O,W⟩:=hb;unfold ACk at H;split at H<;>try (simp at H;done)
 rename_i ty x lo hi X;split at H<;>try (simp at H;done)
 rename_i e Z af zs aa;split at H<;>try (simp at H;done)
 rename_i a' n' c' p' q' hx ab ad;simp only[AE,BJ]at H;obtain⟨rfl,rfl,rfl,rfl,rfl,rfl⟩:=H;have⟨u1,u2,u3,u4,ti,z,i1,i2,i3,i4,i5,i6⟩:=Es hT aa;have⟨v1,g1,g2⟩:=TA K hG ab;have⟨v2,g3,g4⟩:=TA K hG ad;have y:(sizeOf e).run C.P w=.ok Z w:=by simp[sizeOf,typeInfo,i1,i3]
 have ae:C.P.elem ty=e:=by simp[Program.elem,u1]
 have ht:C.P.underlying ty=some (.slice (C.P.elem ty)):=by grind
 rw[<- ae]at y;unfold execOp;simp only[X,BN K hG hx,den,g1,g3,Option.map_none,Sem.run_bind];rw[run_sliceAt_slice (h:=ht)];rcases g2 with⟨rfl,rfl⟩|⟨i,k,rfl,rfl⟩<;>rcases g4 with⟨rfl,rfl⟩|⟨i',k',rfl,rfl⟩<;>simp only[O4,hiN]at N O W⊢
 ·rw[run_slice_all (ht:=ht)];simp[y,sliced]
 ·rw[run_slice_h (ht:=ht) (h0:=by omega) (h2:=W)];simp[y,sliced]
 ·rw[run_slice_l (ht:=ht) (h0:=N) (h1:=O)];by_cases hq:c'=i.toNat<;>simp[y,sliced,hq]
 ·rw[run_slice_lh (ht:=ht) (h0:=N) (h1:=O) (h2:=W)];by_cases hq:c'=i.toNat<;>simp[y,sliced,hq]
theorem AK.part{α:Type}[Inhabited α]{c:Cd α}{a:AA Addr}{l:List α}(h:AK c V a y l)(lo hi:Nat)(h1:lo<=hi)(h2:hi<=l.length):AK c V (if y=lo then a else a.map (·.add (lo*c.sz))) (y-lo) ((l.take hi).drop lo):=by
 have h3:=h.1;refine⟨by simp only[Bj,Ao];omega,?_⟩;intro i x z;have H:=(As.1 z).1;simp only[Bj,Ao]at H;simp only[DT,Cs]at z;rw[if_pos ox]at z;obtain⟨cs,k1,b,o,rfl,k2⟩:=h.2 _ _ z;refine⟨cs,k1,b,o+lo*c.sz,?_,λj v K=>?_⟩
 ·rw[if_neg ox];simp[Addr.add_lit]
 ·grind
include hT in
theorem AIt{α:Type}[Inhabited α]{c:Cd α}{l:List α}{d:Nat}{a:AA Addr}{p q:AA Int}(hh:CF C.nt all lr L o=some ([],d))(hc:ACk C.T (Et L lr) [] o.op=some (a,n,y,p,q,sz))(z:O4 p=lo)(H:hiN n q=hi)(O:AK c V a y l)(hn:n=l.length)(K:sz=c.sz)(W:0<=lo/\lo<=hi/\hi<=(l.length:Int))(h:∀a' N,AK c V a' N ((l.take hi.toNat).drop lo.toNat)->AD C ⟨.ops rest all (⟨d,[],.v (.slice a' ((l.take hi.toNat).drop lo.toNat).length N),d⟩::lr)::k,(d,.v (.slice a' ((l.take hi.toNat).drop lo.toNat).length N))::L,M⟩ V):AD C ⟨.ops (o::rest) all lr::k,L,M⟩ V:=by
 subst z;subst H;subst K;subst hn;have X:=O.1;have hlen:((l.take (hiN l.length q).toNat).drop (O4 p).toNat).length=(hiN l.length q).toNat-(O4 p).toNat:=by grind
 have Z:=h (if y=(O4 p).toNat then a else a.map (·.add ((O4 p).toNat*c.sz))) (y-(O4 p).toNat) (O.part _ _ ox ox);rw[hlen]at Z;exact G9 (G:=[]) (x:=.v (.slice (if y=(O4 p).toNat then a else a.map (·.add ((O4 p).toNat*c.sz))) ((hiN l.length q).toNat-(O4 p).toNat) (y-(O4 p).toNat))) hh (λ_ _ w h3 h4 _ hG=>⟨Yt,AAH hT (A2 h3 h4) hG hc ⟨W.1,W.2.1,by omega⟩ w⟩) Z
include hT in
theorem AKC{α:Type}[Inhabited α]{c:Cd α}{l:List α}{d:Nat}{ends n0 mask}{a:AA Addr}{p q:AA Int}{g:Bool}(Z:Qm C.nt all lr i L=some (o,G,d))(hm:m'=m+1)(hc:ACk C.T (Et L lr) G o.op=some (a,n,y,p,q,sz))(K:O4 p=lo)(N:hiN n q=hi)(hs:AK c V a y l)(hn:n=l.length)(O:sz=c.sz)(hg:P3 lr G (g=true))(hb:g=true->0<=lo/\lo<=hi/\hi<=(l.length:Int))(h:∀a' W,AK c V a' W (_root_.cond g ((l.take hi.toNat).drop lo.toNat) [])->AD C ⟨.draw ⟨all,Ha listed i,m,ends,n0,mask,V1,aG,⟨d,G,.v (.slice a' (_root_.cond g ((l.take hi.toNat).drop lo.toNat) []).length W),d⟩::lr⟩::k,F9 G d (.v (.slice a' (_root_.cond g ((l.take hi.toNat).drop lo.toNat) []).length W)) L,M⟩ V):AD C ⟨.draw ⟨all,listed,m',ends,n0,mask,V1,(i,true)::aG,lr⟩::k,L,M⟩ V:=by
 subst K;subst N;subst O;subst hn;cases g with
 |false=>
  exact Ie (x:=.v (.slice none 0 0)) Z hm (λ_ _ w h3 X _ _ hG=>absurd (hg.out X hG) zp) (h none 0 ⟨by simp,λi x z=>by simp at z⟩)
 |true=>
  have H:=hb Y;have aa:=hs.1;have hlen:((l.take (hiN l.length q).toNat).drop (O4 p).toNat).length=(hiN l.length q).toNat-(O4 p).toNat:=by grind
  have z:=h (if y=(O4 p).toNat then a else a.map (·.add ((O4 p).toNat*c.sz))) (y-(O4 p).toNat) (hs.part _ _ ox ox);simp only[_root_.cond_true]at z;rw[hlen]at z;exact Ie (G:=G) (x:=.v (.slice (if y=(O4 p).toNat then a else a.map (·.add ((O4 p).toNat*c.sz))) ((hiN l.length q).toNat-(O4 p).toNat) (y-(O4 p).toNat))) Z hm (λ_ _ w h3 X _ _ hG=>⟨Yt,AAH hT (A2 h3 X) hG hc ⟨H.1,H.2.1,by omega⟩ w⟩) z
theorem Bi.cat{a:AA Addr}(h:Bi V a off cs)(z:Bi V a (off+cs.length) ds):Bi V a off (cs++ds):=by
 obtain⟨b,o,rfl,h1⟩:=h;have⟨b',o',e,h2⟩:=z;simp only[AE,Addr.mk.injEq,CO]at e;obtain⟨rfl,rfl⟩:=e;refine⟨b,o,Y,λj u y=>?_⟩;rw[DL]at y;split at y
 ·grind
 ·grind
theorem Zo{α:Type}[Inhabited α]{c:Cd α}{V:AM}{a:AA Addr}:∀(l:List α)(off:Nat),(∀i x,l[i]? =some x->∃cs,c.rep V x cs/\Bi V a ((off+i)*c.sz) cs)->∃news,AF c V l news/\(l≠[]->Bi V a (off*c.sz) news)
 |[],_,_=>⟨[],Y,λh=>absurd Y h⟩|x::l,off,h=>by
  have⟨cs,r1,r2⟩:=h 0 x Y;obtain⟨news,r3,r4⟩:=Zo l (off+1) (λi y z=>by
   have⟨ds,q1,q2⟩:=h (i+1) y z;exact⟨ds,q1,by rw[show off+1+i=off+(i+1) by omega];exact q2⟩)
  refine⟨cs++news,⟨cs,news,Y,r1,r3⟩,λ_=>?_⟩;rw[JH]at r2;cases l with
  |nil=>rw[show news=[]from r3,Du];exact r2|cons y l=>
   refine Bi.cat r2 ?_;rw[c.len r1,show off*c.sz+c.sz=(off+1)*c.sz by rw[G1,RG]];exact r4 zp
theorem AK.AKg{α:Type}[Inhabited α]{c:Cd α}{a:AA Addr}{k:Nat}{l:List α}(h:AK c V a k l):∃news,AF c V l news/\(l≠[]->Bi V a 0 news):=by
 have:=Zo (c:=c) (V:=V) (a:=a) l 0 (λi x y=>by rw[Bo];exact h.2 i x y);rwa[Nat.zero_mul]at this
theorem AF.AA2{α:Type}[Inhabited α]{c:Cd α}{V:AM}:∀{l:List α}{cs:List Value},AF c V l cs->∀u∈cs,u.oneCell'=true
 |[],cs,h,u,hu=>by rw[show cs=[]from h]at hu;cases hu
 |x::l,cs,⟨e,r,h0,h1,h2⟩,u,hu=>by
  subst h0;rcases BW.1 hu with h|h
  ·exact c.one h1 u h
  ·exact AF.AA2 h2 u h
include hT in
theorem ABw{α:Type}[Inhabited α]{cd:Cd α}(i:Nat){d:Nat}{a a2:AA Addr}{l:List α}{M':List Value->AA Addr->Nat->List OB}(hh:CF C.nt all lr L o=some ([],d))(hc:Xj C.T o.op=some (af,aw,t,e,sz,y))(ha:ev (Et L lr) [] af=some (.v (.slice a n c)))(hb:ev (Et L lr) [] aw=some (.v (.slice a2 m c2)))(hi:nth M i=some (.row (.slice a n c) cs e sz))(ah:sz=cd.sz)(ai:AK cd V a2 z l)(hm:m=l.length)(aj:n+m=nm)(hs:∀news a' c',It M i (.row (.slice a' nm c') (cs++news) e sz)=some (M' news a' c'))(hk:L9 i k=true)(N:nm*y<=140737488355328)(h:∀news,AF cd V l news->∀a' c',AD C ⟨.ops rest all (⟨d,[],.v (.slice a' nm c'),d⟩::lr)::k,(d,.v (.slice a' nm c'))::L,M' news a' c'⟩ V):AD C ⟨.ops (o::rest) all lr::k,L,M⟩ V:=by
 subst aj;have⟨news,H,ak⟩:=ai.AKg;have hl:news.length=m*sz:=by rw[H.len,hm,ah]
 replace h:=h news H;replace hs:=hs news;refine AD.of λFR DF env W w g1 h2 h3 X h5=>?_;rw[Cc]at hi;have Z:=BN (A2 h3 X) (G:=[]) Yt hb;have core:∃a' c' w',(execOp (⟨W,[]⟩:Act).eval o).run C.P w=.ok (.value (.slice a' (n+m) c')) w'/\FC C.V0 FR env V (M.set i (.row (.slice a' (n+m) c') (cs++news) e sz)) w':=by
  by_cases ab:l=[]
  ·subst ab;obtain rfl:news=[]:=H;obtain rfl:m=0:=hm;have⟨ar,zs,al⟩:=Xi hc;have⟨u1,u2,u3,_,ti,aa,i1,i2,i3,i4,i5,_⟩:=Es hT al;have ae:n<=c:=by
    have⟨r1,r2,r3,r4⟩:=Fk (h2.sat i _ hi);rcases r4.2 with⟨h0,_⟩|⟨g,cap,cur,he,au,hg,ae,_⟩
    ·grind
    ·grind
   refine Xh hT h2 h3 X hc ha hi (ad:=⟨0,0,none⟩) (c2:=c2) Z ?_ hl (λj u hu=>by simp at hu) (λu hu=>by cases hu) N;cases a2<;>cases a<;>simp[den,Builtin.append_,run_underlying u1,sizeOf,typeInfo,i1,Builtin.lenOf,Builtin.firstCells,loadCells,loadCellsFrom,ae]
  ·obtain⟨b,o',rfl,O⟩:=ak ab;exact Xh hT h2 h3 X hc ha hi Z Y hl (λjj u hu=>by
    rw[Addr.add_lit];simpa using h2.holds _ _ (O jj u hu)) H.AA2 N
 have⟨a',c',w',p1,p2⟩:=core;have⟨_,K⟩:=Dg (hs a' c');rw[<- K]at p2;have an:∀q,C6 M q->C6 (M' news a' c') q:=λq hq=>by rw[K];exact GO zp hq
 have⟨hg,hd,hn,hf,_⟩:=EG hh;have ag:d<W.size:=by rw[g1];simpa[D1]using hn
 have hw:=Ch X hg;show wpList C.P ⟨all⟩ (post C FR DF k) (o::rest) ⟨W,[]⟩ w;refine Cn ?_;rw[if_pos (hw.2 Yt)];refine FT p1 ?_;simp only[Act.put,hd];have ao:Ng env (M' news a' c') L W:=λs x hx=>⟨(h3 s x hx).1,DM an (h3 s x hx).2⟩;have aq:N3 env (M' news a' c') lr W:=by rw[K];exact X.set zp
 refine(h a' c').to FR DF env (W.setIfInBounds d (.slice a' (n+m) c')) w' (by simpa using g1) p2 (ao.put (x:=.v _) ag Yt)
  (aq.put ag hf (λ_=>Y) (λhn=>absurd Yt hn) Y (.inl Y) (λ_=>Yt)) ?_
 show My DF env V (M' news a' c') _;rw[K];exact My.write hk h5.same
def ANl(op:BinOp)(y:Int):Prop:=
 match op with
 |.shl=>0<=y|.shr=>0<=y|_=>y≠0
def API(k:IntKind)(x y:Int):Int:=k.wrap (x*2^(min y.toNat k.bits))
def R7(k:IntKind)(x y:Int):Int:=x.fdiv (2^(min y.toNat k.bits))
def AKj(k:IntKind)(x y:Int):Int:=k.wrap (x.tdiv y)
def AAw(x y:Int):Int:=x.tmod y
def ALj(H:Je)(G:List (Nat×Bool))(op:Op):AA (BinOp×IntKind×IntKind×Int×Int×Int):=
 match op with
 |.binOp op _ x y _=>match ev H G x,ev H G y with
  |some (.v (.int k a)),some (.v (.int z b))=>match op with
   |.shl=>some (.shl,k,z,a,b,API k a b)|.shr=>some (.shr,k,z,a,b,R7 k a b)|.quo=>match kEq k z with
    |true=>some (.quo,k,z,a,b,AKj k a b)|false=>none
   |.rem=>match kEq k z with
    |true=>some (.rem,k,z,a,b,AAw a b)|false=>none
   |_=>none
  |_,_=>none
 |_=>none
omit hT in
theorem ANO{t:Array Value}(Z:NU env M t ag)(hG:Di t G){k:IntKind}{a b r:Int}(z:ALj ag G o.op=some (aX,k,aF,a,b,r))(H:ANl aX b)(w:World):(execOp (⟨t,[]⟩:Act).eval o).run P w=.ok (.value (.int k r)) w:=by
 unfold ALj at z;split at z<;>try (simp at z;done)
 rename_i aa ty x y ab K;split at z<;>try (simp at z;done)
 rename_i k1 a1 k2 W hx hy;have N:=BN Z hG hx;have O:=BN Z hG hy;simp only[den]at N O;split at z<;>try (simp at z;done)
 ·simp only[AE,BJ]at z;obtain⟨rfl,rfl,rfl,rfl,rfl,rfl⟩:=z;have H:0<=W:=H;unfold execOp;simp[K,N,O,eqGuard,binOp,Op.shift,API,Int.not_lt.2 H]
 ·simp only[AE,BJ]at z;obtain⟨rfl,rfl,rfl,rfl,rfl,rfl⟩:=z;have H:0<=W:=H;unfold execOp;simp[K,N,O,eqGuard,binOp,Op.shift,R7,Int.not_lt.2 H]
 ·split at z<;>try (simp at z;done)
  rename_i X;have:=Yf X;subst this;simp only[AE,BJ]at z;obtain⟨rfl,rfl,rfl,rfl,rfl,rfl⟩:=z;have H:W≠0:=H;unfold execOp;simp[K,N,O,eqGuard,binOp,Op.intDiv,AKj,H]
 ·split at z<;>try (simp at z;done)
  rename_i X;have:=Yf X;subst this;simp only[AE,BJ]at z;obtain⟨rfl,rfl,rfl,rfl,rfl,rfl⟩:=z;have H:W≠0:=H;unfold execOp;simp[K,N,O,eqGuard,binOp,Op.intDiv,AAw,H]
omit hT in
theorem TW{d:Nat}{a b r:Int}(z:CF C.nt all lr L o=some (G,d))(H:ALj (Et L lr) G o.op=some (aX,aF,aN,a,b,r))(K:P3 lr G (ANl aX b))(h:AD C ⟨.ops rest all (⟨d,G,.v (.int aF r),d⟩::lr)::k,F9 G d (.v (.int aF r)) L,M⟩ V):AD C ⟨.ops (o::rest) all lr::k,L,M⟩ V:=
 G9 (x:=.v (.int aF r)) z (λ_ _ w h3 y _ hG=>⟨Yt,ANO (A2 h3 y) hG H (K.out y hG) w⟩) h
theorem Bi.shift{b o:Nat}(h:Bi V (Option.some ⟨b,o,none⟩) off cs):Bi V (Option.some ⟨b,o+off,none⟩) 0 cs:=by
 have⟨b',o',h1,h2⟩:=h;simp only[AE,Addr.mk.injEq,CO]at h1;obtain⟨rfl,rfl⟩:=h1;exact⟨_,_,Y,λj c y=>by simpa using h2 j c y⟩
def T7(i b:Nat):List B7->List B7
 |[]=>[]|⟨s,c,.ptr j o,r⟩::L=>match Nat.beq j i with
  |true=>⟨s,c,.v (.pointer (some ⟨b,o,none⟩)),r⟩::T7 i b L|false=>⟨s,c,.ptr j o,r⟩::T7 i b L
 |e::L=>e::T7 i b L
theorem ZG{i b:Nat}{env:List Nat}(K:Bm env i=b):∀{lr:List B7}{s:Nat}{e:B7},H7 (T7 i b lr) s=some e->∃H,H7 lr s=some H/\H.c=e.c/\H.r=e.r/\den env H.x=den env e.x/\(∀M:List OB,H.x.ok M->e.x.ok M)
 |[],s,e,h=>by simp[T7,H7]at h
 |⟨d,c,y,r⟩::lr,s,e,h=>by
  have key:∀z,den env y=den env z->(∀M:List OB,y.ok M->z.ok M)->H7 (⟨d,c,z,r⟩::T7 i b lr) s=some e->∃H,H7 (⟨d,c,y,r⟩::lr) s=some H/\H.c=e.c/\H.r=e.r/\den env H.x=den env e.x/\(∀M:List OB,H.x.ok M->e.x.ok M):=by
   intro z h1 h2 h3;rw[O3]at h3⊢;split at h3
   ·grind
   ·rename_i N;rw[if_neg N];exact ZG K h3
  cases y with
  |ptr j o=>
   simp only[T7]at h;split at h
   ·rename_i O;have:=F6 O;subst this;exact key (.v (.pointer (some ⟨b,o,none⟩))) (by simp[den,K]) (λ_ _=>Yt) h
   ·grind
  |v z=>exact key _ Y (λ_ h=>h) h|TY _ _ _ _=>exact key _ Y (λ_ h=>h) h|el _ _=>exact key _ Y (λ_ h=>h) h
theorem AJG{r a:List Oper}{l l':List B7}(h:Rr (.ops r a l::k)=true):Rr (.ops r a l'::k)=true:=by
 cases k with
 |nil=>rfl|cons x k=>cases x<;>first|rfl|(simp[Rr]at h)
omit hT in
theorem HZ(i:Nat){L':Nat->Fr}{lr':Nat->List B7}(Z:Rr (.ops rest all lr::k)=true)(hi:nth M i=some (.Bp ak y))(hv:Oo ak=some vs)(hs:It M i .Sk=some M')(hL:∀b,Rp i b L=L' b)(hR:∀b,T7 i b lr=lr' b)(h:∀V' b,DI V V'->Bi V' (some ⟨b,0,none⟩) 0 vs->AD C ⟨.ops rest all (lr' b)::k,L' b,M'⟩ V'):AD C ⟨.ops rest all lr::k,L,M⟩ V:=by
 obtain⟨_,rfl⟩:=Dg hs;rw[Cc]at hi;refine AD.of λFR DF env t w h1 h2 h3 h4 h5=>?_;have⟨V',v1,v2,hW⟩:=h2.ADq hi hv;have z:∀q,C6 M q->C6 (M.set i .Sk) q:=λq hq=>GO zp hq;refine(h V' (Bm env i) v1 v2).to FR DF env t w h1 hW (λs x N=>?_) (λs e he=>?_) (XE (AJG Z) _ _ _ _)
 ·rw[<- hL]at N;have⟨aa,k1,k2,k3⟩:=RN (b:=Bm env i) Y N;have⟨k4,k5⟩:=h3 s aa k1;exact⟨by rw[k4,k2],DM z (k3 M k5)⟩
 ·have he:H7 (lr' (Bm env i)) s=some e:=he;rw[<- hR]at he;have⟨e',k1,k2,k3,k4,k5⟩:=ZG (b:=Bm env i) Y he;have H:N3 env M lr t:=h4;have⟨K,O,W⟩:=H s e' k1;rw[k2]at K O;rw[k3]at W;exact⟨λX=>⟨by rw[(K X).1,k4],DM z (k5 M (K X).2)⟩,O,W⟩
def ANd(y:Je)(G:List (Nat×Bool))(op:Op):AA (Fn×List Value×List Value):=
 match op with
 |.makeFunc fn ⟨z⟩ ⟨H⟩=>match evs y G z,evs y G H with
  |some a,some b=>some (fn,a,b)|_,_=>none
 |_=>none
omit hT in
theorem Fe{d:Nat}{fn:Fn}{a b:List Value}(K:CF C.nt all lr L o=some (G,d))(y:ANd (Et L lr) G o.op=some (fn,a,b))(h:AD C ⟨.ops rest all (⟨d,G,.v (.func fn ⟨a⟩ ⟨b⟩),d⟩::lr)::k,F9 G d (.v (.func fn ⟨a⟩ ⟨b⟩)) L,M⟩ V):AD C ⟨.ops (o::rest) all lr::k,L,M⟩ V:=by
 refine G9 (x:=.v (.func fn ⟨a⟩ ⟨b⟩)) K (λ_ _ w h3 H _ hG=>⟨Yt,?_⟩) h;unfold ANd at y;split at y<;>try (simp at y;done)
 rename_i N fi ca z;split at y<;>try (simp at y;done)
 rename_i a' b' O W;simp only[AE,BJ]at y;obtain⟨rfl,rfl,rfl⟩:=y;have X:=SM (A2 h3 H) hG O;have Z:=SM (A2 h3 H) hG W;unfold execOp;simp[z,Instr.makeFunc,den,X,Z]
end
section
open Go.ChangeShapes Go.WideShapes Go.ChangeAt Go.RowKit
def AGE{α:Type}[Inhabited α](P:Program)(t:Nat)(c:Cd α)(ok:α->Prop):Prop:=
 ∀(H:Type)(enc:TypeId×Value->H)(W:World)(fuel:Nat)(cs:List Value)(d:DataW H×List MemPlace),DataW.trod enc P W 0 (λ_=>true) true fuel t cs=some d->∃x,c.rep (λa=>W.cell? a) x cs/\ok x
def okI(k:IntKind)(n:Int):Prop:=k.min<=n/\n<=k.max
def okS(s:A9):Prop:=s.length<=9223372036854775807
theorem Fb{k:IntKind}(ht:P.underlying t=some (.int k)):AGE P t (CD k) (okI k):=by
 intro H enc W fuel cs d h;obtain⟨n,rfl,_,hw⟩:=DataW.trod_int ht h;simp only[Lit.wf,Aq,AZ]at hw;exact⟨n,Y,hw⟩
theorem AGy(ht:P.underlying t=some .bool):AGE P t Ot (λ_=>True):=by
 intro H enc W fuel cs d h;obtain⟨b,rfl,_⟩:=DataW.trod_bool ht h;exact⟨b,Y,Yt⟩
theorem JQ(ht:P.underlying t=some .string):AGE P t Bf okS:=by
 intro H enc W fuel cs d h;obtain⟨s,rfl,_,y⟩:=DataW.trod_string ht h;exact⟨s.data.toList,Y,by
  have:s.data.toList.length<=maxLen:=y;simpa[okS,maxLen]using this⟩
theorem Zc{α:Type}{Q:Nat->α->Prop}:∀{n:Nat},(∀i,i<n->∃x,Q i x)->∃l:List α,l.length=n/\∀(i:Nat)(x:α),l[i]? =some x->Q i x
 |0,_=>⟨[],Y,λi x h=>by simp at h⟩
 |n+1,h=>by
  have⟨l,h1,h2⟩:=Zc (n:=n) λi hi=>h i ox;have⟨x,H⟩:=h n ox;refine⟨l++[x],by simp[h1],λi y z=>?_⟩;rw[DL]at z;split at z
  ·grind
  ·grind
end
variable {j lo' c' N W ab ai aA aH l' ar:Nat} {oi aE:Oper} {bs:List OB} {av:List Value} {lr':List B7} {L':Fr} {aB aY:World} {aO:List MemPlace} {xs:List Int} {I:Fr->AM->Prop} {Q Q':Exit->Act->World->Prop} {bm:String} {next' aM:Act->World->Prop} {a':Act}
def Dh{α:Type}(M:List α):List Nat->AA (List α)
 |[]=>some []|i::p=>match nth M i,Dh M p with
  |some b,some r=>some (b::r)|_,_=>none
theorem IV{α:Type}{M:List α}:∀{p:List Nat}{r:List α},Dh M p=some r->r.length=p.length/\∀(j:Nat)(o:α),r[j]? =some o->∃i,p[j]? =some i/\M[i]? =some o
 |[],r,h=>by simp only[Dh,AE]at h;subst h;simp
 |i::p,r,h=>by
  simp only[Dh]at h;split at h
  ·rename_i b W z H;simp only[AE]at h;subst h;have⟨h1,h2⟩:=IV H;refine⟨by simp[h1],?_⟩;intro j o y;cases j with
   |zero=>simp at y;subst y;exact⟨i,Y,by rw[<- Cc];exact z⟩
   |succ j=>simp at y;have⟨K,N,O⟩:=h2 j o y;exact⟨K,by simpa using N,O⟩
  ·simp at h
def FU:List Nat->Bool
 |[]=>true|a::l=>match inL a l with
  |true=>false|false=>FU l
theorem No:∀{l:List Nat},FU l=true->∀{i j a:Nat},l[i]? =some a->l[j]? =some a->i=j
 |[],_,i,j,a,h,_=>by simp at h
 |b::l,H,i,j,a,h,y=>by
  simp only[FU]at H;split at H
  ·simp at H
  ·rename_i K;have z:b∉l:=λhm=>by rw[AD7.2 hm]at K;simp at K
   cases i with
   |zero=>
    cases j with
    |zero=>rfl|succ j=>
     simp at h y;subst h;exact absurd (BP y) z
   |succ i=>
    cases j with
    |zero=>
     simp at h y;subst y;exact absurd (BP h) z
    |succ j=>
     simp at h y;rw[No H h y]
def Qf(p:List Nat):SV->AA SV
 |.ptr j o=>match nth p j with
  |some i=>some (.ptr i o)|none=>none
 |.TY j o l c=>match nth p j with
  |some i=>some (.TY i o l c)|none=>none
 |x=>some x
def Y5(p:List Nat):Fr->Fr->Prop
 |[],_=>True|(s,x)::L',L=>(∃y,Qf p x=some y/\EF L s=some y)/\Y5 p L' L
theorem Y5.look{p:List Nat}{L:Fr}:∀{L':Fr},Y5 p L' L->∀s x,EF L' s=some x->∃y,Qf p x=some y/\EF L s=some y
 |[],_,s,x,h=>by simp[EF]at h
 |(n,y)::L',z,s,x,h=>by
  rw[MC]at h;split at h
  ·rename_i H;simp only[AE]at h;subst h;subst H;exact z.1
  ·exact Y5.look z.2 s x h
theorem AEc(p:List Nat)(L':Fr)(hk:Kw k=true)(hM:Dh M p=some M')(hd:FU p=true)(Z:GM M'=true)(hs:Y5 p L' L)(h:AD C ⟨k,L',M'⟩ V):AD C ⟨k,L,M⟩ V:=by
 refine AD.of λFR DF env t w h1 h2 h3 h4 h5=>?_;have⟨hlen,K⟩:=IV hM;have H:∀(j i:Nat),p[j]? =some i->Bm (p.map (Bm env)) j=Bm env i:=λj i hj=>by simp[Bm,hj]
 have hW:FC C.V0 FR (p.map (Bm env)) V M' w:=by
  refine⟨h2.os,h2.tape,h2.output,h2.frame,h2.le,h2.holds,h2.fresh,by simp[hlen],?_,?_,?_,?_,h2.tb⟩
  ·intro j o O;have⟨i,z,N⟩:=K j o O;have:=h2.sat i o N;rw[H j i z];rcases Ky Z O with⟨x,cs,e,sz,rfl⟩|⟨cs,ty,rfl,hv⟩|⟨E,rfl⟩
   ·exact this
   rotate_left
   ·exact this
   ·refine⟨?_,Xk hv⟩;rw[this.1]
    congr 3
    refine Cu λy hy=>?_;cases y with
    |v _=>rfl|_=>exact absurd (Ub hv _ hy) zp
  ·intro j o a O W;have⟨i,z,N⟩:=K j o O;rw[H j i z]at W;exact h2.DA i o a N W
  ·intro j o a O W;have⟨i,z,N⟩:=K j o O;rw[H j i z]at W;exact h2.C1 i o a N W
  ·intro j j' o q a ae O hq W aa;have⟨i,z,N⟩:=K j o O;have⟨i',X,g4⟩:=K j' q hq;rw[H j i z]at W;rw[H j' i' X]at aa;exact h2.apart i i' o q a (λe=>ae (No hd z (e▸X))) N g4 W aa
 have ab:∀(j i:Nat),p[j]? =some i->C6 M i->C6 M' j:=by
  intro j i hj ⟨o,z,N⟩;have ad:j<M'.length:=by grind
  have⟨i',X,g4⟩:=K j M'[j] (by simp[ad]);rw[hj]at X;simp only[AE]at X;subst X;rw[z]at g4;simp only[AE]at g4;exact⟨o,by rw[g4];simp[ad],N⟩
 refine h.to0 hk h1 hW (λs x hx=>?_) DF;have⟨y,z,N⟩:=hs.look s x hx;have⟨k1,k2⟩:=h3 s y N;cases x with
 |v _=>simp only[Qf,AE]at z;subst z;exact⟨k1,Yt⟩|el _ _=>simp only[Qf,AE]at z;subst z;exact⟨k1,k2⟩|ptr j o=>
  simp only[Qf]at z;split at z
  ·rename_i i hi;simp only[AE]at z;subst z;rw[Cc]at hi;exact⟨by rw[k1];simp only[den,H j i hi],ab j i hi k2⟩
  ·simp at z
 |TY j o l c=>
  simp only[Qf]at z;split at z
  ·rename_i i hi;simp only[AE]at z;subst z;rw[Cc]at hi;exact⟨by rw[k1];simp only[den,H j i hi],ab j i hi k2⟩
  ·simp at z
theorem N5(p q:List (Nat×Bool))(H:n'=n+1)(z:rdy listed 0 all=[i,j])(hi:nth all i=some oi)(O:nth all j=some aE)(K:RQ all listed=true)(hp:Hg all ends n (Ha listed i) p=true)(W:Hg all ends n (Ha listed j) q=true)(h1:AD C ⟨.ops [oi] all lr:: .draw ⟨all,Ha listed i,n,ends,n0,mask,V1,p,lr⟩::k,L,M⟩ V)(h2:AD C ⟨.ops [aE] all lr:: .draw ⟨all,Ha listed j,n,ends,n0,mask,V1,q,lr⟩::k,L,M⟩ V):AD C ⟨.draw ⟨all,listed,n',ends,n0,mask,V1,[],lr⟩::k,L,M⟩ V:=by
 subst H;refine AD.pick (D:=⟨all,listed,n+1,ends,n0,mask,V1,[],lr⟩) K Y (by simp only;rw[z];simp) λx y o N=>?_;simp only at y N⊢;rw[z]at y;simp only[Aj,BY,D3]at y;rcases y with rfl|rfl
 ·grind
 ·grind
def Q7(P:Program)(f:Nat)(args:List Value)(rs:List HH)(V:AM)(R:AM->Value->List HH->Prop):Prop:=
 AEa P f/\∀FR env w,FC V FR env V (rs.map HH.ob) w->Calls P f ⟨args⟩ w λe w'=>∃v V' env' y,e=.returned v/\y.length=rs.length/\FC V FR env' V' (y.map HH.ob) w'/\R V' v y
def AIq(n:Nat)(R:AM->Value->List HH->Prop)(V:AM)(v:Value)(M:List OB):Prop:=∃y:List HH,Ln n M=y.map HH.ob/\y.length=n/\R V v y
theorem AAh{α:Type}:∀(n:Nat)(l:List α),Ln n l=l.take n
 |0,l=>by simp[Ln]
 |n+1,[]=>by simp[Ln]
 |n+1,a::l=>by simp[Ln,AAh n l]
theorem LJ{rs:List HH}{o:OB}(h:(rs.map HH.ob)[i]? =some o):∃r,rs[i]? =some r/\o=.row r.x r.cs r.e r.sz:=by
 rw[EX]at h;cases y:rs[i]? with
 |none=>rw[y]at h;simp at h|some r=>rw[y]at h;simp at h;exact⟨r,Y,h.symm⟩
theorem FC.rows{w:World}(h:FC V0 FR env V M w){rs:List HH}(N:Ln n M=rs.map HH.ob):FC V0 FR (env.take n) V (rs.map HH.ob) w:=by
 rw[AAh]at N;have y:∀(i:Nat)(o:OB),(rs.map HH.ob)[i]? =some o->M[i]? =some o/\i<n/\∃r:HH,o=.row r.x r.cs r.e r.sz:=by
  intro i o z;have⟨r,_,hr⟩:=LJ z;rw[<- N,Cs]at z;split at z
  ·grind
  ·simp at z
 refine⟨h.os,h.tape,h.output,h.frame,h.le,h.holds,h.fresh,?_,?_,?_,?_,?_,h.tb⟩
 ·rw[<- N];simp[h.len]
 ·intro i o z;obtain⟨H,O,r,rfl⟩:=y i o z;exact h.sat i _ H
 ·intro i o a z K;obtain⟨H,O,r,rfl⟩:=y i o z;exact h.DA i _ a H K
 ·intro i o a z K;obtain⟨H,O,r,rfl⟩:=y i o z;exact h.C1 i _ a H K
 ·intro i j o q a W z Z K X;obtain⟨H,O,r,rfl⟩:=y i o z;obtain⟨g3,g4,r',rfl⟩:=y j q Z;exact h.apart i j _ _ a W H g3 K X
theorem Q7.enter{c:Code}{rs:List HH}{R:AM->Value->List HH->Prop}(W:P.funcs[f]? =some fn)(X:fn.body=some c)(y:(fn.name== "runtime.NumGoroutine")=false)(aa:fn.ntmps=nt)(hlen:Nat.ble args.length nt=true)(hL:Tf 0 args=L)(hM:rs.map HH.ob=M)(h:AD ⟨P,T,fn,nt,V,AIq rs.length R,λ_ _ _=>False⟩ ⟨[.code c],L,M⟩ V):Q7 P f args rs V R:=by
 subst hM;refine⟨⟨fn,W,by rw[X];rfl,y⟩,λFR env w hW=>?_⟩;have hle:=Ae hlen;have z:=calls_of_wp (P:=P) (f:=f) (args:=⟨args⟩) (w:=w) (R:=ABH ⟨P,T,fn,nt,V,AIq rs.length R,λ_ _ _=>False⟩ FR) W X (by
  refine h.to0 (k:=[.code c]) Y (FR:=FR) (env:=env) (t:=(⟨args⟩:Array Value)++Array.replicate (fn.ntmps-args.length) undef) ?_ hW ?_ .none
  ·grind
  ·intro s x Z;rw[<- hL]at Z;obtain⟨v,rfl,_,h2⟩:=PC args 0 s x Z;refine⟨?_,Yt⟩;have hs:s<args.length:=(As.1 h2).1;rw[Om];simpa[hs,den]using h2)
 refine z.mono λe w' hp=>?_;rcases hp with⟨v,env',V',M',h1,H,K,N,O,hR⟩|⟨_,_,_,_,_,_,hp⟩
 rotate_left
 ·exact hp.elim
 exact⟨v,V',env'.take rs.length,K,h1,O,H.rows N,hR⟩
def EV(M:List OB):List Nat->List OB->AA (List OB)
 |[],[]=>some M|i::is,b::bs=>match It M i b with
  |some y=>EV y is bs|none=>none
 |_,_=>none
def Mt(k:List Kt):List Nat->Bool
 |[]=>true|i::is=>match L9 i k with
  |true=>Mt k is|false=>false
theorem QC:∀{is:List Nat}{bs:List OB}{M M':List OB},EV M is bs=some M'->(∀b∈bs,b≠ .gone)->M'.length=M.length/\bs.length=is.length/\(∀(j:Nat)(q:OB),M'[j]? =some q->(∃p:Nat,is[p]? =some j/\bs[p]? =some q)\/(j∉is/\M[j]? =some q))/\(∀i,C6 M i->C6 M' i)
 |[],[],M,M',h,_=>by simp only[EV,AE]at h;subst h;simp
 |[],_::_,M,M',h,_=>by simp[EV]at h
 |_::_,[],M,M',h,_=>by simp[EV]at h
 |i::is,b::bs,M,M',h,K=>by
  simp only[EV]at h;split at h
  ·rename_i M1 h1;obtain⟨hi,rfl⟩:=Dg h1;have⟨O,W,X,Z⟩:=QC h (λb' z=>K b' (by simp[z]));refine⟨by rw[O];simp,by simp[W],?_,λj hj=>Z j (GO (K b zp) hj)⟩;intro j q hq;rcases X j q hq with⟨p,N,y⟩|⟨N,y⟩
   ·exact .inl ⟨p+1,by simpa using N,by simpa using y⟩
   ·rw[H2]at y;split at y
    ·rename_i H;subst H;simp[hi]at y;exact .inl ⟨0,Y,by simp[y]⟩
    ·grind
  ·simp at h
theorem Pq{K:DFr}{env:List Nat}{V:AM}{rest all:List Oper}{lr:List B7}{k:List Kt}:∀{is:List Nat}{bs:List OB}{M M':List OB},EV M is bs=some M'->Mt k is=true->My K env V M (.ops rest all lr::k)->My K env V M' (.ops rest all lr::k)
 |[],[],M,M',h,_,z=>by simp only[EV,AE]at h;subst h;exact z
 |[],_::_,M,M',h,_,_=>by simp[EV]at h
 |_::_,[],M,M',h,_,_=>by simp[EV]at h
 |i::is,b::bs,M,M',h,y,z=>by
  simp only[EV]at h;simp only[Mt]at y;split at y
  ·rename_i H;split at h
   ·rename_i N h1;obtain⟨hi,rfl⟩:=Dg h1;exact Pq h y (My.write H z)
   ·simp at h
  ·simp at y
theorem N3.C6{t:Array Value}(h:N3 env M lr t)(y:∀i,C6 M i->C6 M' i):N3 env M' lr t:=λs e he=>
 ⟨λz=>⟨((h s e he).1 z).1,DM y ((h s e he).1 z).2⟩,(h s e he).2⟩
theorem Ng.C6{t:Array Value}(h:Ng env M L t)(y:∀i,C6 M i->C6 M' i):Ng env M' L t:=λs x z=>⟨(h s x z).1,DM y (h s x z).2⟩
open Classical in
theorem Le(is:List Nat){d:Nat}{rs:List HH}{R:AM->Value->List HH->Prop}(hh:CF C.nt all lr L o=some ([],d))(hc:Gc (Et L lr) [] o.op=some (f,args))(hi:Dh M is=some bs)(al:bs=rs.map HH.ob)(an:FU is=true)(hk:Mt k is=true)(hs:Q7 C.P f args rs V R)(h:∀V' v ad,DI V V'->R V' v ad->∃M',EV M is (ad.map HH.ob)=some M'/\AD C ⟨.ops rest all (⟨d,[],.v v,d⟩::lr)::k,(d,.v v)::L,M'⟩ V'):AD C ⟨.ops (o::rest) all lr::k,L,M⟩ V:=by
 subst al;refine AD.of λFR DF env t w h1 h2 h3 h4 h5=>?_;have⟨hg,hd,hn,hf,_⟩:=EG hh;have ah:d<t.size:=by rw[h1];simpa[D1]using hn
 have hw:=Ch h4 hg;show wpList C.P ⟨all⟩ (post C FR DF k) (o::rest) ⟨t,[]⟩ w;refine Cn ?_;rw[if_pos (hw.2 Yt)];have⟨ao,ag⟩:=hs;unfold Oper.wp;rw[KR (A2 h3 h4) (G:=[]) Yt hc ao w];have⟨hlen,H⟩:=IV hi
 let Hd:Nat->Prop:=λb=>∃r∈rs,r.x.ownBlock=some b
 have ai:∀b,Hd b->∃(i:Nat)(r:HH),i∈is/\M[i]? =some (.row r.x r.cs r.e r.sz)/\r.x.ownBlock=some b:=by
  intro b ⟨r,hr,Z⟩;have⟨j,hj⟩:=CC.1 hr;have⟨i,K,y⟩:=H j r.ob (by rw[EX,hj];rfl);exact⟨i,r,BP K,y,Z⟩
 let FR':KC:=⟨w.os,w.tape,w.output,λb=>if Hd b then none else w.heap[b]?⟩
 have ab:∀b,FR'.Bp b=none->Hd b\/w.heap.size<=b:=by grind
 have au:∀b,w.heap.size<=b->FR.Bp b=none:=by
  intro b Z;cases hv:FR.Bp b with
  |none=>rfl|some x=>
   have:=h2.frame b x hv;have:=(An.1 this).1;omega
 have af:∀b,Hd b->FR.Bp b=none:=by
  intro b Z;have⟨i,r,_,y,g3⟩:=ai b Z;exact h2.C1 i _ ⟨b,0,none⟩ y g3
 have W:∀b,¬Hd b->FR'.Bp b=w.heap[b]? :=λb Z=>if_neg Z;have aq:FC V FR' (List.replicate rs.length 0) V (rs.map HH.ob) w:=by
  refine⟨Y,Y,Y,λb o X=>?_,DI.refl V,h2.holds,λ_ _ h=>.inl h,by simp,?_,?_,?_,?_,Q5.of h2.holds.t (W 1 λe=>h2.tb.ne (af 1 e) Y)⟩
  ·simp only[FR']at X;split at X
   ·simp at X
   ·exact X
  ·intro j o X;obtain⟨r,_,rfl⟩:=LJ X;have⟨i,_,y⟩:=H j _ X;exact h2.sat i _ y
  ·intro j o a X z;obtain⟨r,_,rfl⟩:=LJ X;have⟨i,_,y⟩:=H j _ X;exact h2.DA i _ a y z
  ·intro j o a X z;obtain⟨r,hr,rfl⟩:=LJ X;exact if_pos ⟨r,BP hr,z⟩
  ·intro j j' o q a ae X N z aa;obtain⟨r,_,rfl⟩:=LJ X;obtain⟨r',_,rfl⟩:=LJ N;have⟨i,K,y⟩:=H j _ X;have⟨i',g3,g4⟩:=H j' _ N;exact h2.apart i i' _ _ a (λe=>ae (No an K (e▸g3))) y g4 z aa
 refine(ag FR' _ w aq).mono λe' w' ⟨v,V',env',ad,p1,p2,O,p4⟩=>?_;subst p1;have⟨M',aj,hE⟩:=h V' v ad O.le p4;have⟨e1,e2,e3,e4⟩:=QC aj (λb Z=>by
  obtain⟨r,_,rfl⟩:=List.mem_map.1 Z;simp[HH.ob])
 have hold:∀(j:Nat)(q:OB),j∉is->M[j]? =some q->∀a:Addr,q.own (Bm env j) a->¬Hd a.block/\a.block<w.heap.size:=by
  intro j q hj N a z;refine⟨λhh=>?_,Dt (h2.sat j q N) z⟩;have⟨i,r,K,y,g3⟩:=ai _ hh;exact h2.apart j i q _ a (λe=>hj (e▸K)) N y z g3
 have ar:FC C.V0 FR env V' M' w':=by
  refine⟨O.os.trans h2.os,O.tape.trans h2.tape,O.output.trans h2.output,?_,h2.le.trans O.le,O.holds,?_,by rw[h2.len,e1],?_,?_,?_,?_,h2.tb⟩
  ·intro b q N;have Z:¬Hd b:=λZ=>by rw[af b Z]at N;simp at N
   exact O.frame b q (by rw[W b Z];exact h2.frame b q N)
  ·intro a x hx;rcases O.fresh a x hx with g|g
   ·exact h2.fresh a x g
   ·grind
  ·intro j q N;rcases e3 j q N with⟨p,K,y⟩|⟨K,y⟩
   ·obtain⟨r,_,rfl⟩:=LJ y;exact O.sat p _ y
   ·refine LN Y (λ_ _=>Y) (λx=>DM e4) (h2.sat j q y) λb Z=>?_;have⟨n1,n2⟩:=hold j q K y _ Z;have hex:w.heap[b]? =some w.heap[b]:=by simp[n2]
    rw[hex];exact O.frame b _ (by rw[W b n1];exact hex)
  ·intro j q a N z;rcases e3 j q N with⟨p,K,y⟩|⟨K,y⟩
   ·obtain⟨r,_,rfl⟩:=LJ y;exact O.DA p _ a y z
   ·have⟨n1,n2⟩:=hold j q K y _ z;cases hv:V' a with
    |none=>rfl|some x=>
     rcases O.fresh a x hv with g|g
     ·rw[h2.DA j q a y z]at g;simp at g
     ·grind
  ·intro j q a N z;rcases e3 j q N with⟨p,K,y⟩|⟨K,y⟩
   ·obtain⟨r,_,rfl⟩:=LJ y;rcases ab _ (O.C1 p _ a y z)with g|g
    ·grind
    ·grind
   ·exact h2.C1 j q a y z
  ·intro j j' q q' a ae N ak z aa;rcases e3 j q N with⟨p,K,y⟩|⟨K,y⟩
   ·obtain⟨r,_,rfl⟩:=LJ y;rcases e3 j' q' ak with⟨p',g3,g4⟩|⟨g3,g4⟩
    ·obtain⟨r',_,rfl⟩:=LJ g4;exact O.apart p p' _ _ a (λe=>ae (by subst e;rw[K]at g3;simpa using g3)) y g4 z aa
    ·have⟨n1,n2⟩:=hold j' q' g3 g4 _ aa;rcases ab _ (O.C1 p _ a y z)with g|g
     ·exact n1 g
     ·omega
   ·have⟨n1,n2⟩:=hold j q K y _ z;rcases e3 j' q' ak with⟨p',g3,g4⟩|⟨g3,g4⟩
    ·obtain⟨r',_,rfl⟩:=LJ g4;rcases ab _ (O.C1 p' _ a g4 aa)with g|g
     ·exact n1 g
     ·omega
    ·exact h2.apart j j' q q' a ae y g4 z aa
 simp only[Act.put,hd];exact hE.to FR DF env (t.setIfInBounds d v) w' (by simpa using h1) ar ((h3.C6 e4).put (x:=.v v) ah Yt) ((h4.C6 e4).put ah hf (λ_=>Y) (λhn=>absurd Yt hn) Y (.inl Y) (λ_=>Yt))
  (My.grow (M:=M') ⟨[],by simp⟩ O.le ⟨[],by simp⟩ (Pq aj hk h5.same))
def T8(i b:Nat):SV->SV
 |.ptr j o=>match Nat.beq j i with
  |true=>.v (.pointer (some ⟨b,o,none⟩))|false=>.ptr j o
 |.TY j o n c=>match Nat.beq j i with
  |true=>.v (.slice (some ⟨b,o,none⟩) n c)|false=>.TY j o n c
 |x=>x
def AAl(i b:Nat):Fr->Fr
 |[]=>[]|(s,x)::L=>(s,T8 i b x)::AAl i b L
def AAm(i b:Nat):List B7->List B7
 |[]=>[]|⟨s,c,x,r⟩::L=>⟨s,c,T8 i b x,r⟩::AAm i b L
theorem AAk{b:Nat}(z:Bm env i=b)(x:SV):den env (T8 i b x)=den env x/\∀M:List OB,x.ok M->(T8 i b x).ok M:=by
 cases x with
 |v _=>exact⟨Y,λ_ h=>h⟩|el _ _=>exact⟨Y,λ_ h=>h⟩|ptr j o=>
  simp only[T8];split
  ·rename_i y;have:=F6 y;subst this;exact⟨by simp[den,z],λ_ _=>Yt⟩
  ·grind
 |TY j o n c=>
  simp only[T8];split
  ·rename_i y;have:=F6 y;subst this;exact⟨by simp[den,z],λ_ _=>Yt⟩
  ·grind
theorem ZH{i b:Nat}:∀{L:Fr}{s:Nat}{x:SV},EF (AAl i b L) s=some x->∃y,EF L s=some y/\x=T8 i b y
 |[],s,x,h=>by simp[AAl,EF]at h
 |(d,y)::L,s,x,h=>by
  simp only[AAl,MC]at h⊢;split at h
  ·grind
  ·rename_i z;rw[if_neg z];exact ZH h
theorem ZI{i b:Nat}:∀{lr:List B7}{s:Nat}{e:B7},H7 (AAm i b lr) s=some e->∃z,H7 lr s=some z/\z.c=e.c/\z.r=e.r/\e.x=T8 i b z.x
 |[],s,e,h=>by simp[AAm,H7]at h
 |⟨d,c,y,r⟩::lr,s,e,h=>by
  simp only[AAm,O3]at h⊢;split at h
  ·grind
  ·rename_i H;rw[if_neg H];exact ZI h
theorem Fh(i:Nat){M':Nat->List OB}{L':Nat->Fr}{lr':Nat->List B7}(hk:L9 i k=true)(hi:nth M i=some (.Bp ak y))(hv:Oo ak=some cs)(hl:Nat.beq cs.length (n*sz)=true)(O:Nat.ble n 1000000=true)(hs:∀b,It M i (.row (.slice (some ⟨b,0,none⟩) n n) cs y sz)=some (M' b))(hL:∀b,AAl i b L=L' b)(hR:∀b,AAm i b lr=lr' b)(h:∀b,AD C ⟨.ops rest all (lr' b)::k,L' b,M' b⟩ V):AD C ⟨.ops rest all lr::k,L,M⟩ V:=by
 refine AD.of λFR Z env t w h1 h2 h3 h4 h5=>?_;rw[Cc]at hi;have z:=(h2.sat i _ hi).1;rw[Gl (env:=env) hv]at z;have hl:=F6 hl;have O:n<=maxLen:=Cf (Ae O) (by simp[maxLen]);have K:EU w y sz (.slice (some ⟨Bm env i,0,none⟩) n n) cs:=⟨n,hl,.inr ⟨_,n,_,Y,By _,z,Nat.le_refl _,O,by simp[hl],by simp[<- hl]⟩⟩;have hW:=h2.upd (w':=w) (o':=.row (.slice (some ⟨Bm env i,0,none⟩) n n) cs y sz) hi zp Y Y Y (λ_ _ _=>Y) K (λa ha=>.inl (by
  simp only[OB.own,Value.ownBlock,AE]at ha⊢;exact ha.symm))
 have⟨_,H⟩:=Dg (hs (Bm env i));have N:∀q,C6 M q->C6 (M' (Bm env i)) q:=λq hq=>by rw[H];exact GO zp hq
 refine(h (Bm env i)).to FR Z env t w h1 (by rw[H];exact hW) (λs x hx=>?_) (λs e he=>?_) (by
  show My Z env V (M' (Bm env i)) _;rw[H];exact My.write hk h5.same)
 ·rw[<- hL]at hx;obtain⟨aa,k1,rfl⟩:=ZH hx;have⟨k4,k5⟩:=h3 s aa k1;have⟨q1,q2⟩:=AAk (env:=env) (i:=i) Y aa;exact⟨by rw[k4,q1],DM N (q2 M k5)⟩
 ·have he:H7 (lr' (Bm env i)) s=some e:=he;rw[<- hR]at he;have⟨e',k1,k2,k3,k4⟩:=ZI he;have W:N3 env M lr t:=h4;have⟨X,g2,g3⟩:=W s e' k1;have⟨q1,q2⟩:=AAk (env:=env) (i:=i) Y e'.x;rw[k2]at X g2;rw[k3]at g3;exact⟨λhc=>⟨by rw[(X hc).1,k4,q1],by rw[k4];exact DM N (q2 M (X hc).2)⟩,g2,g3⟩
section
variable {C:Ctx}
theorem ABs{σ:Type}(x:σ->SV)(M':σ->List OB){d:Nat}(X:CF C.nt all lr L o=some ([],d))(Z:∀FR env t w,FC C.V0 FR env V M w->Ng env M L t->N3 env M lr t->∃q env' w',(∃r,env'=env++r)/\FC C.V0 FR env' V (M' q) w'/\(∀L,Ng env M L t->Ng env' (M' q) L t)/\(∀lr,N3 env M lr t->N3 env' (M' q) lr t)/\(x q).ok (M' q)/\(execOp (⟨t,[]⟩:Act).eval o).run C.P w=.ok (.value (den env' (x q))) w')(z:∀q,(∃r,M' q=M++r)\/∃i b,M' q=M.set i b/\L9 i k=true)(h:∀q,AD C ⟨.ops rest all (⟨d,[],x q,d⟩::lr)::k,(d,x q)::L,M' q⟩ V):AD C ⟨.ops (o::rest) all lr::k,L,M⟩ V:=by
 refine AD.of λFR H env t w h1 h2 h3 K O=>?_;have⟨hg,hd,N,hf,_⟩:=EG X;have y:d<t.size:=by rw[h1];simpa[D1]using N
 have⟨q,env',w',W,k1,k2,k3,k4,k5⟩:=Z FR env t w h2 h3 K;have hw:=Ch K hg;show wpList C.P ⟨all⟩ (post C FR H k) (o::rest) ⟨t,[]⟩ w;refine Cn ?_;rw[if_pos (hw.2 Yt)];refine FT k5 ?_;simp only[Act.put,hd];refine(h q).to FR H env' (t.setIfInBounds d (den env' (x q))) w' (by simpa using h1) k1 ((k2 _ h3).put y k4)
  ((k3 _ K).put y hf (λ_=>Y) (λN=>absurd Yt N) Y (.inl Y) (λ_=>k4)) ?_
 show My H env' V (M' q) _;rcases z q with z|⟨i,b,hm,hk⟩
 ·exact My.grow W (DI.refl V) z O.same
 ·rw[hm];exact My.grow (M:=M.set i b) W (DI.refl V) ⟨[],by simp⟩ (My.write (M:=M) hk O.same)
theorem X5{σ:Type}(i:Nat)(v:σ->Value)(b:σ->OB)(M':σ->List OB){d:Nat}(K:CF C.nt all lr L o=some ([],d))(N:∀q,b q≠ .gone)(H:∀q,It M i (b q)=some (M' q))(O:L9 i k=true)(W:∀FR env t w,FC C.V0 FR env V M w->Ng env M L t->N3 env M lr t->∃q w',FC C.V0 FR env V (M.set i (b q)) w'/\(execOp (⟨t,[]⟩:Act).eval o).run C.P w=.ok (.value (v q)) w')(h:∀q,AD C ⟨.ops rest all (⟨d,[],.v (v q),d⟩::lr)::k,(d,.v (v q))::L,M' q⟩ V):AD C ⟨.ops (o::rest) all lr::k,L,M⟩ V:=by
 refine ABs (λq=>.v (v q)) M' K (λFR env t w h2 h3 X=>?_) (λq=>.inr ⟨i,b q,(Dg (H q)).2,O⟩) h;have⟨q,w',Z,g2⟩:=W FR env t w h2 h3 X;have y:=(Dg (H q)).2;have z:∀j,C6 M j->C6 (M' q) j:=λj hj=>by rw[y];exact GO (N q) hj
 exact⟨q,env,w',⟨[],by simp⟩,by rw[y];exact Z,λL hL=>hL.C6 z,λlr hl=>hl.C6 z,Yt,g2⟩
theorem AL3(i:Nat){v:Value}{b:OB}(K:IH all lr o.guard=some [])(N:o.dst=none)(z:b≠ .gone)(O:It M i b=some M')(W:L9 i k=true)(X:∀FR env t w,FC C.V0 FR env V M w->Ng env M L t->N3 env M lr t->∃w',FC C.V0 FR env V (M.set i b) w'/\(execOp (⟨t,[]⟩:Act).eval o).run C.P w=.ok (.value v) w')(h:AD C ⟨.ops rest all lr::k,L,M'⟩ V):AD C ⟨.ops (o::rest) all lr::k,L,M⟩ V:=by
 obtain⟨_,rfl⟩:=Dg O;refine AD.of λFR H env t w h1 h2 h3 y Z=>?_;have⟨w',g1,g2⟩:=X FR env t w h2 h3 y;have hw:=Ch y K;show wpList C.P ⟨all⟩ (post C FR H k) (o::rest) ⟨t,[]⟩ w;refine Cn ?_;rw[if_pos (hw.2 Yt)];refine FT g2 ?_;simp only[Act.put,N];exact h.to FR H env t w' h1 g1 (h3.set z) (y.set z) (My.write W Z.same)
theorem MZ(i:Nat){a:AA Addr}(hi:nth M i=some (.row (.slice a n c) cs e sz))(h:cs.length=n*sz->n<=c->c<=maxLen->(a=none->n=0/\c=0)->(∀p,a=some p->∃g,p=⟨g,0,none⟩)->AD C ⟨k,L,M⟩ V):AD C ⟨k,L,M⟩ V:=by
 refine AD.of λFR H env t w h1 h2 h3 K N=>?_;have y:=hi;rw[Cc]at y;have z:=h2.sat i _ y;have⟨r1,r2,r3,r4⟩:=Fk z;refine(h r1 r2 ?_ ?_ ?_).to FR H env t w h1 h2 h3 K N
 ·rcases r4.2 with⟨hv,_⟩|⟨g,cap,cur,hv,_,_,_,k4,_⟩
  ·grind
  ·grind
 ·grind
 ·grind
theorem Ju{w:World}{b:Nat}(h:EU w e sz (.slice (some ⟨b,0,none⟩) n c) cs):∃cur,w.heap[b]? =some (.cells cur e (0,0))/\n<=c/\c<=maxLen/\cur.size=c*sz/\cs.length=n*sz/\cur.toList.take (n*sz)=cs:=by
 have⟨r1,r2,r3,r4⟩:=Fk h;rcases r4.2 with⟨hv,_⟩|⟨g,cap,cur,hv,k1,k2,k3,k4,k5,k6⟩
 ·simp at hv
 simp only[Value.slice.injEq,AE,Addr.mk.injEq,true_and,CO]at hv;obtain⟨rfl,rfl⟩:=hv;exact⟨cur,k2,k3,k4,k5,r1,k6⟩
theorem R8{w:World}{b:Nat}(h1:w.heap[b]? =some (.cells au e (0,0)))(h2:n<=c)(h3:c<=maxLen)(y:au.size=c*sz)(z:cs.length=n*sz)(H:au.toList.take (n*sz)=cs):EU w e sz (.slice (some ⟨b,0,none⟩) n c) cs:=⟨n,z,.inr ⟨b,c,au,Y,By _,h1,h2,h3,y,H⟩⟩
theorem AKm(z:O.take m=cs)(hm:cs.length=m)(y:off+nv.length<=m)(hl:m<=O.length):(O.take off++nv++O.drop (off+nv.length)).take m=cs.take off++nv++cs.drop (off+nv.length):=by
 subst z;rw[Pj,Pj,NH,NH];simp only[AT,Ao];rw[Cq (by omega:off<=m),Kq (by omega:off<=m),List.drop_take,KY (by omega:nv.length<=_)]
 congr 2
 rw[Cq ox]
theorem AAr{w:World}{b:Nat}(h:EU w e sz (.slice (some ⟨b,0,none⟩) n c) cs)(z:off+nv.length<=cs.length):∃cur,w.heap[b]? =some (.cells cur e (0,0))/\off+nv.length<=cur.size/\EU (w.setRow b (cur.toList.take off++nv++cur.toList.drop (off+nv.length)).toArray) e sz (.slice (some ⟨b,0,none⟩) n c) (cs.take off++nv++cs.drop (off+nv.length)):=by
 have⟨cur,k2,k3,k4,k5,r1,k6⟩:=Ju h;have y:cs.length<=cur.size:=by grind
 refine⟨cur,k2,by omega,R8 (setRow_heap w b cur _ e _ k2) k3 k4 ?_ ?_ ?_⟩
 ·grind
 ·grind
 ·simp only;exact AKm (m:=n*sz) k6 r1 ox (by rw[<- r1];simpa using y)
theorem AJB{w:World}{a:AA Addr}(h:EU w e sz (.slice a n c) cs)(y:n'<=n):EU w e sz (.slice a n' c) (cs.take (n'*sz)):=by
 have⟨r1,r2,r3,r4⟩:=Fk h;rcases r3 with⟨rfl,rfl,rfl⟩|⟨g,rfl⟩
 ·grind
 ·have⟨cur,k2,k3,k4,k5,k7,k6⟩:=Ju h;have hm:n'*sz<=n*sz:=Cm _ y;refine R8 k2 ox k4 k5 ?_ ?_
  ·grind
  ·grind
theorem Y8(i n':Nat){a:AA Addr}(hi:nth M i=some (.row (.slice a n c) cs e sz))(y:n'<=n)(z:It M i (.row (.slice a n' c) (cs.take (n'*sz)) e sz)=some M')(H:Rr k=true)(h:AD C ⟨k,L,M'⟩ V):AD C ⟨k,L,M⟩ V:=by
 obtain⟨_,rfl⟩:=Dg z;rw[Cc]at hi;refine AD.of λFR K env t w h1 h2 h3 N W=>?_;have O:=h2.upd (w':=w) (o':=.row (.slice a n' c) (cs.take (n'*sz)) e sz) hi zp Y Y Y (λ_ _ _=>Y) (AJB (h2.sat i _ hi) y) (λp hp=>.inl (by cases a<;>exact hp));exact h.to FR K env t w h1 O (h3.set zp) (N.set zp) (XE H _ _ _ _)
theorem Y9(i m:Nat){M':List Value->List OB}{a:AA Addr}(hi:nth M i=some (.row (.slice a n c) cs e sz))(hm:n+m<=c)(K:∀js,It M i (.row (.slice a (n+m) c) (cs++js) e sz)=some (M' js))(N:Rr k=true)(h:∀js,js.length=m*sz->AD C ⟨k,L,M' js⟩ V):AD C ⟨k,L,M⟩ V:=by
 rw[Cc]at hi;refine AD.of λFR O env t w h1 h2 h3 W h5=>?_;have y:EU w e sz (.slice a n c) cs:=h2.sat i _ hi;have hex:∃js,js.length=m*sz/\EU w e sz (.slice a (n+m) c) (cs++js):=by
  have⟨r1,r2,r3,r4⟩:=Fk y;rcases r3 with⟨rfl,rfl,rfl⟩|⟨g,rfl⟩
  ·grind
  ·have⟨cur,k2,k3,k4,k5,k7,k6⟩:=Ju y;have hle:n*sz+m*sz<=c*sz:=by rw[<- G1];exact Cm _ hm
   refine⟨(cur.toList.drop (n*sz)).take (m*sz),by simp;omega,R8 k2 hm k4 k5 ?_ ?_⟩
   ·grind
   ·rw[<- k6,G1];exact List.take_add
 have⟨js,X,Z⟩:=hex;have⟨_,z⟩:=Dg (K js);have H:=h2.upd (w':=w) (o':=.row (.slice a (n+m) c) (cs++js) e sz) hi zp Y Y Y (λ_ _ _=>Y) Z (λp hp=>.inl (by cases a<;>exact hp));rw[<- z]at H;refine(h js X).to FR O env t w h1 H ?_ ?_ (XE N _ _ _ _)
 ·rw[z];exact h3.set zp
 ·rw[z];exact W.set zp
end
inductive Src(M:List OB)(V:AM):AA Addr->List Value->Prop where
 |nil (a:AA Addr):Src M V a []
 |open_ {a:AA Addr} {l:List Value} (h:Bi V a 0 l):Src M V a l
 |row {g off:Nat} {l:List Value} (j:Nat) {n c:Nat} {cs:List Value} {e sz:Nat} (h:nth M j=some (.row (.slice (some ⟨g,0,none⟩) n c) cs e sz)) (hl:BE cs off l):Src M V (some ⟨g,off,none⟩) l
theorem Src.cells{w:World}(h2:FC V0 FR env V M w){a:AA Addr}{l:List Value}(h:Src M V a l):l=[]\/∃ad,a=some ad/\∀j u,l[j]? =some u->w.cell? (ad.add j)=some u:=by
 cases h with
 |nil a=>exact .inl Y|open_ h=>
  obtain⟨b,o,rfl,y⟩:=h;exact .inr ⟨_,Y,λj u hu=>by rw[Addr.add_lit];simpa using h2.holds _ _ (y j u hu)⟩
 |row j h hl=>
  rw[Cc]at h;exact .inr ⟨_,Y,λj u hu=>by rw[Addr.add_lit];simpa using Hf (h2.sat _ _ h) Y hl j u hu⟩
theorem AJA(w:World)(X sT ty elem sz:Nat)(g o z K:Nat)(a:AA Addr)(y H:Nat)(cur:Array Value)(t:TypeId)(cs:List Value)(hu:P.underlying X=some (.slice elem))(hs:∃i,P.info? elem=some i/\i.size=sz)(hg:w.heap[g]? =some (.cells cur t (0,0)))(Z:cs.length=Nat.min y z*sz)(N:cs=[]\/∃ad,a=some ad/\∀j u,cs[j]? =some u->w.cell? (ad.add j)=some u)(O:o+cs.length<=cur.size)(h1:∀v∈cs,v.oneCell'=true):(Builtin.copy_ #[X,sT] ty #[.slice (some ⟨g,o,none⟩) z K,.slice a y H]).run P w=.ok (goInt (Nat.min y z)) (w.setRow g (cur.toList.take o++cs++cur.toList.drop (o+cs.length)).toArray):=by
 have W:=run_storeCells_at P g o t cs 0 cur w hg (by simpa using O) h1;have⟨i,hq,hi⟩:=hs;have hf:(Builtin.firstCells sz (Nat.min y z) (.slice a y H)).run P w=.ok cs.toArray w:=by
  rcases N with h0|⟨ad,rfl,hc⟩
  ·have hz:Nat.min y z*sz=0:=by rw[<- Z,h0];rfl
   subst h0;cases a with
   |none=>exact run_firstCells_none w sz _ y H|some ad=>exact run_firstCells_some w sz _ ad y H [] (by simpa using hz.symm) zp
  ·exact run_firstCells_some w sz _ ad y H cs Z hc
 simp only[JH]at W;simp[Builtin.copy_,run_underlying hu,Builtin.lenOf,sizeOf,typeInfo,hq,hi,hf,W]
theorem AGo(w:World)(t e ty:TypeId)(z:Value)(ht:P.underlying t=some (.slice e)){i:TypeInfo}(hi:P.info? e=some i)(Z:i.zero=some z)(g o n c:Nat)(cur:Array Value)(O:TypeId)(X:w.heap[g]? =some (.cells cur O (0,0)))(H:o+n*z.cells.size<=cur.size)(h1:∀v∈z.cells.toList,v.oneCell'=true):∃y,(Builtin.clear_ #[t] ty #[.slice (some ⟨g,o,none⟩) n c]).run P w=.ok (.tuple #[]) (w.setRow g y)/\y.size=cur.size/\y.toList.take o=cur.toList.take o:=by
 have hlen:(Builtin.zeroCells z.cells n).toList.length=n*z.cells.size:=by simp[Builtin.zeroCells]
 have K:∀v∈(Builtin.zeroCells z.cells n).toList,v.oneCell'=true:=by
  intro v hv;simp only[Builtin.zeroCells,TX,AHq,List.mem_map,Dz]at hv;obtain⟨j,hj,rfl⟩:=hv;have h0:0<z.cells.size:=by grind
  have W:=Nat.mod_lt j h0;rw[getElem!_pos z.cells (j%z.cells.size) W];exact h1 _ zp
 have N:=run_storeCells_at P g o O (Builtin.zeroCells z.cells n).toList 0 cur w X (by rw[hlen];simpa using H) K;simp only[JH]at N;cases n with
 |zero=>
  refine⟨cur,?_,Y,Y⟩;rw[setRow_self w g cur O (0,0) X];simp[Builtin.clear_,run_underlying ht]
 |succ n=>
  refine⟨(cur.toList.take o++(Builtin.zeroCells z.cells (n+1)).toList++cur.toList.drop (o+(Builtin.zeroCells z.cells (n+1)).toList.length)).toArray,?_,?_,?_⟩
  ·simp[Builtin.clear_,run_underlying ht,zeroValue,typeInfo,hi,Z,N]
  ·grind
  ·grind
section
variable {C:Ctx} (hT:K2 C.P C.T) {o:Oper} {rest all:List Oper} {lr:List B7} {k:List Kt} {L:Fr} {M:List OB} {V:AM} {d:Nat}
def AK2(T:List G6)(y:Je)(G:List (Nat×Bool))(op:Op):AA (Bool×AA Addr):=
 match op with
 |.binOp .eql t x (.const (.slice none _ _)) _=>match KG T t,ev y G x with
  |some _,some (.v (.slice a _ _))=>some (true,a)|_,_=>none
 |.binOp .neq t x (.const (.slice none _ _)) _=>match KG T t,ev y G x with
  |some _,some (.v (.slice a _ _))=>some (false,a)|_,_=>none
 |_=>none
include hT in
theorem AMk(W:NU env M au ag)(hG:Di au G){b:Bool}{a:AA Addr}(y:AK2 C.T ag G o.op=some (b,a))(w:World):(execOp (⟨au,[]⟩:Act).eval o).run C.P w=.ok (.value (.bool (if b=true then a.isNone else !a.isNone))) w:=by
 unfold AK2 at y;split at y<;>try (simp at y;done)
 ·rename_i t x n' c' ty z;split at y<;>try (simp at y;done)
  rename_i q a' n c K N;simp only[AE,BJ]at y;obtain⟨rfl,rfl⟩:=y;have⟨O,_⟩:=Es hT K;unfold execOp;have:=Lib.run_eql_slice_nil (P:=C.P) w t _ a' n c n' c' O;have H:=BN W hG N;simp only[den]at H;simp only[z,H,show(⟨au,[]⟩:Act).eval (.const (.slice none n' c'))=.slice none n' c' from rfl,Sem.run_bind,IW];simp[eqGuard,this]
 ·rename_i t x n' c' ty z;split at y<;>try (simp at y;done)
  rename_i q a' n c K N;simp only[AE,BJ]at y;obtain⟨rfl,rfl⟩:=y;have⟨O,_⟩:=Es hT K;unfold execOp;have:=run_neq_slice_nil_any (P:=C.P) w t _ a' n c n' c' O;have H:=BN W hG N;simp only[den]at H;simp only[z,H,show(⟨au,[]⟩:Act).eval (.const (.slice none n' c'))=.slice none n' c' from rfl,Sem.run_bind];simp[eqGuard,this]
include hT in
theorem AGK{b:Bool}{a:AA Addr}(y:CF C.nt all lr L o=some (G,d))(z:AK2 C.T (Et L lr) G o.op=some (b,a))(h:AD C ⟨.ops rest all (⟨d,G,.v (.bool (if b=true then a.isNone else !a.isNone)),d⟩::lr)::k,F9 G d (.v (.bool (if b=true then a.isNone else !a.isNone))) L,M⟩ V):AD C ⟨.ops (o::rest) all lr::k,L,M⟩ V:=
 G9 (x:=.v (.bool (if b=true then a.isNone else !a.isNone))) y (λ_ _ w h3 H _ hG=>⟨Yt,AMk hT (A2 h3 H) hG z w⟩) h
def Em(a:AA Addr)(c lo sz:Nat):AA Addr:=if c=lo then a else a.map (·.add (lo*sz))
include hT in
theorem HD{a:AA Addr}{p q:AA Int}(K:CF C.nt all lr L o=some ([],d))(N:ACk C.T (Et L lr) [] o.op=some (a,n,y,p,q,sz))(z:O4 p=lo)(H:hiN n q=hi)(O:0<=lo/\lo<=hi/\hi<=y)(W:lo.toNat=lo')(X:hi.toNat-lo'=n')(Z:y-lo'=c')(h:AD C ⟨.ops rest all (⟨d,[],.v (.slice (Em a y lo' sz) n' c'),d⟩::lr)::k,(d,.v (.slice (Em a y lo' sz) n' c'))::L,M⟩ V):AD C ⟨.ops (o::rest) all lr::k,L,M⟩ V:=by
 subst z;subst H;subst W;subst X;subst Z;exact G9 (G:=[]) (x:=.v (.slice (Em a y (O4 p).toNat sz) ((hiN n q).toNat-(O4 p).toNat) (y-(O4 p).toNat))) K (λ_ _ w h3 h4 _ hG=>⟨Yt,AAH hT (A2 h3 h4) hG N O w⟩) h
include hT in
theorem IF{a:AA Addr}{p q:AA Int}{ends n0 mask}(K:Qm C.nt all lr i L=some (o,[],d))(hm:m'=m+1)(N:ACk C.T (Et L lr) [] o.op=some (a,n,y,p,q,sz))(z:O4 p=lo)(H:hiN n q=hi)(O:0<=lo/\lo<=hi/\hi<=y)(W:lo.toNat=lo')(X:hi.toNat-lo'=n')(Z:y-lo'=c')(h:AD C ⟨.draw ⟨all,Ha listed i,m,ends,n0,mask,V1,aG,⟨d,[],.v (.slice (Em a y lo' sz) n' c'),d⟩::lr⟩::k,(d,.v (.slice (Em a y lo' sz) n' c'))::L,M⟩ V):AD C ⟨.draw ⟨all,listed,m',ends,n0,mask,V1,(i,true)::aG,lr⟩::k,L,M⟩ V:=by
 subst z;subst H;subst W;subst X;subst Z;exact Ie (G:=[]) (x:=.v (.slice (Em a y (O4 p).toNat sz) ((hiN n q).toNat-(O4 p).toNat) (y-(O4 p).toNat))) K hm (λ_ _ w h3 h4 _ _ hG=>⟨Yt,AAH hT (A2 h3 h4) hG N O w⟩) h
end
def ANA(T:List G6)(op:Op):AA (Operand×Operand×Nat×Nat×Nat×Nat):=
 match op with
 |.call ⟨.builtin .copy,⟨[sa,sb]⟩,⟨[t,y]⟩⟩=>match KG T t with
  |some (e,sz,_,_)=>some (sa,sb,t,y,e,sz)|none=>none
 |_=>none
theorem AM9(h:ANA T aJ=some (af,aw,t,y,e,sz)):aJ=.call ⟨.builtin .copy,#[af,aw],#[t,y]⟩/\∃z zs,KG T t=some (e,sz,z,zs):=by
 unfold ANA at h;split at h<;>try (simp at h;done)
 split at h<;>try (simp at h;done)
 rename_i K H z zs ht;simp only[AE,BJ]at h;obtain⟨rfl,rfl,rfl,rfl,rfl,rfl⟩:=h;exact⟨Y,z,zs,ht⟩
section
variable {C:Ctx} (hT:K2 C.P C.T) {o:Oper} {rest all:List Oper} {lr:List B7} {k:List Kt} {L:Fr} {M:List OB} {V:AM} {d:Nat}
include hT
theorem Ms(i:Nat){ad a2:AA Addr}(hh:CF C.nt all lr L o=some ([],d))(hc:ANA C.T o.op=some (af,aw,t,y,e,sz))(ha:ev (Et L lr) [] af=some (.v (.slice ad N W)))(ae:ad=some ⟨g,z,none⟩)(hb:ev (Et L lr) [] aw=some (.v (.slice a2 ab ai)))(hi:nth M i=some (.row (.slice (some ⟨g,0,none⟩) n c) cs e sz))(H:Src M V a2 O)(hm:Nat.min ab N=m)(hl:O.length=m*sz)(K:z+O.length<=cs.length)(h1:∀u∈O,u.oneCell'=true)(ag:cs.take z++O++cs.drop (z+O.length)=av)(hs:It M i (.row (.slice (some ⟨g,0,none⟩) n c) av e sz)=some M')(hk:L9 i k=true)(h:AD C ⟨.ops rest all (⟨d,[],.v (.int .i64 m),d⟩::lr)::k,(d,.v (.int .i64 m))::L,M'⟩ V):AD C ⟨.ops (o::rest) all lr::k,L,M⟩ V:=by
 refine X5 (σ:=Unit) i (λ_=>.int .i64 m) (λ_=>.row (.slice (some ⟨g,0,none⟩) n c) av e sz) (λ_=>M') hh (λ_=>by simp) (λ_=>hs) hk (λFR env t0 w h2 h3 h4=>?_) (λ_=>h);rw[Cc]at hi;have⟨ah,ak,zs,aj⟩:=AM9 hc;have⟨u1,u2,u3,_,ti,aa,i1,i2,i3,i4,i5,_⟩:=Es hT aj;have X:EU w e sz (.slice (some ⟨g,0,none⟩) n c) cs:=h2.sat i _ hi;have⟨cur,k1,k2,k3⟩:=AAr (nv:=O) X K;rw[ag]at k3;subst ae;have Z:=AJA (P:=C.P) w t y o.type e sz g z N W a2 ab ai cur e O u1 ⟨ti,i1,i3⟩ k1 (by rw[hm];exact hl) (H.cells h2) k2 h1;refine⟨(),w.setRow g (cur.toList.take z++O++cur.toList.drop (z+O.length)).toArray,h2.upd hi zp Y Y Y (λkk _ hn=>setRow_other w g kk _ (λhe=>hn (by simp[OB.own,Value.ownBlock,he]))) k3 (λp hp=>.inl hp),?_⟩;have e1:=BN (A2 h3 h4) (G:=[]) Yt ha;have e2:=BN (A2 h3 h4) (G:=[]) Yt hb;simp only[den]at e1 e2;unfold execOp;simp only[ah,resolve,Ks,B8,Ge,e1,e2,Sem.run_bind,Sem.run_pure,Result.andThen_ok,invoke,builtin,Z,hm];rfl
theorem ABv(i:Nat){ad:AA Addr}(hg:IH all lr o.guard=some [])(hd:o.dst=none)(N:o.op=.call ⟨.builtin .clear,#[af],#[t]⟩)(ht:KG C.T t=some (e,sz,y,zs))(O:∀u∈zs,u.oneCell'=true)(ha:ev (Et L lr) [] af=some (.v (.slice ad m c2)))(W:ad=some ⟨g,z,none⟩)(hi:nth M i=some (.row (.slice (some ⟨g,0,none⟩) n c) cs e sz))(X:n*sz<=z)(Z:z+m*sz<=c*sz)(hs:It M i (.row (.slice (some ⟨g,0,none⟩) n c) cs e sz)=some M)(hk:L9 i k=true)(h:AD C ⟨.ops rest all lr::k,L,M⟩ V):AD C ⟨.ops (o::rest) all lr::k,L,M⟩ V:=by
 refine AL3 (v:=.tuple #[]) i hg hd (b:=.row (.slice (some ⟨g,0,none⟩) n c) cs e sz) zp hs hk (λFR env t0 w h2 h3 h4=>?_) h;rw[Cc]at hi;have⟨u1,u2,u3,u4,ti,aa,i1,i2,i3,i4,i5,i6⟩:=Es hT ht;have H:EU w e sz (.slice (some ⟨g,0,none⟩) n c) cs:=h2.sat i _ hi;have⟨cur,k2,k3,k4,k5,r1,k6⟩:=Ju H;subst W;have⟨K,c1,ab,c3⟩:=AGo (P:=C.P) w t e o.type aa u1 i1 i2 g z m c2 cur e k2 (by rw[i5,k5];exact Z) (by rw[i6];exact O);refine⟨w.setRow g K,h2.upd hi zp Y Y Y (λkk _ hn=>setRow_other w g kk _ (λhe=>hn (by simp[OB.own,Value.ownBlock,he]))) (R8 (setRow_heap w g cur _ e _ k2) k3 k4 (by rw[ab,k5]) r1 ?_) (λp hp=>.inl hp),?_⟩
 ·rw[<- k6,<- Cq X,<- NH,c3,NH]
 ·have e1:=BN (A2 h3 h4) (G:=[]) Yt ha;simp only[den]at e1;unfold execOp;simp only[N,resolve,Ks,B8,Ge,e1,Sem.run_bind,Sem.run_pure,Result.andThen_ok,invoke,builtin,c1]
theorem AGP(i:Nat){a1 a2:AA Addr}(hh:CF C.nt all lr L o=some ([],d))(hc:Xj C.T o.op=some (af,aw,t,e,sz,y))(ha:ev (Et L lr) [] af=some (.v (.slice a1 n' c)))(aa:a1=some ⟨g,0,none⟩)(hb:ev (Et L lr) [] aw=some (.v (.slice a2 m c2)))(ab:a2=some ad)(hi:nth M i=some (.row (.slice (some ⟨g,0,none⟩) n c) cs e sz))(X:Src M V a2 O)(hl:O.length=m*sz)(N:n'+m<=n)(h1:∀u∈O,u.oneCell'=true)(ai:∀u∈cs,u.oneCell'=true)(ae:cs.take (n'*sz)++O++cs.drop (n'*sz+O.length)=av)(hs:It M i (.row (.slice (some ⟨g,0,none⟩) n c) av e sz)=some M')(hk:L9 i k=true)(h:AD C ⟨.ops rest all (⟨d,[],.v (.slice (some ⟨g,0,none⟩) (n'+m) c),d⟩::lr)::k,(d,.v (.slice (some ⟨g,0,none⟩) (n'+m) c))::L,M'⟩ V):AD C ⟨.ops (o::rest) all lr::k,L,M⟩ V:=by
 refine X5 (σ:=Unit) i (λ_=>.slice (some ⟨g,0,none⟩) (n'+m) c) (λ_=>.row (.slice (some ⟨g,0,none⟩) n c) av e sz) (λ_=>M') hh (λ_=>by simp) (λ_=>hs) hk (λFR env t0 w h2 h3 h4=>?_) (λ_=>h);rw[Cc]at hi;have⟨ag,zs,ah⟩:=Xi hc;have⟨u1,u2,u3,_,ti,z,i1,i2,i3,i4,i5,_⟩:=Es hT ah;have H:EU w e sz (.slice (some ⟨g,0,none⟩) n c) cs:=h2.sat i _ hi;have⟨aj,_,ak,_,_,r1,_⟩:=Ju H;have Z:n'*sz+O.length<=cs.length:=by rw[hl,<- G1,r1];exact Cm _ N
 have⟨cur,k1,k2,k3⟩:=AAr (nv:=O) H Z;rw[ae]at k3;subst aa;subst ab;have W:∀j u,O[j]? =some u->w.cell? (ad.add j)=some u:=by
  rcases X.cells h2 with h0|⟨al,he,an⟩
  ·grind
  ·grind
 have K:=run_append_room (P:=C.P) w t o.type e ti u1 i1 g n' c cur k1 ad m c2 O (by rw[i3];exact hl) W h1 ox (by rw[i3];exact k2);rw[i3]at K;refine⟨(),w.setRow g (cur.toList.take (n'*sz)++O++cur.toList.drop (n'*sz+O.length)).toArray,h2.upd hi zp Y Y Y (λkk _ hn=>setRow_other w g kk _ (λhe=>hn (by simp[OB.own,Value.ownBlock,he]))) k3 (λp hp=>.inl hp),?_⟩;have e1:=BN (A2 h3 h4) (G:=[]) Yt ha;have e2:=BN (A2 h3 h4) (G:=[]) Yt hb;simp only[den]at e1 e2;unfold execOp;simp only[ag,resolve,Ks,B8,Ge,e1,e2,Sem.run_bind,Sem.run_pure,Result.andThen_ok,invoke,builtin,K]
theorem ABx(i:Nat){a a2:AA Addr}{M':AA Addr×Nat->List OB}(hh:CF C.nt all lr L o=some ([],d))(hc:Xj C.T o.op=some (af,aw,t,e,sz,y))(ha:ev (Et L lr) [] af=some (.v (.slice a n c)))(hb:ev (Et L lr) [] aw=some (.v (.slice a2 m c2)))(N:a2=some ad)(hi:nth M i=some (.row (.slice a n c) cs e sz))(H:Src M V a2 O)(h1:∀u∈O,u.oneCell'=true)(hl:O.length=m*sz)(W:n+m=nm)(hs:∀q:AA Addr×Nat,It M i (.row (.slice q.1 nm q.2) (cs++O) e sz)=some (M' q))(hk:L9 i k=true)(K:nm*y<=140737488355328)(h:∀a' c',AD C ⟨.ops rest all (⟨d,[],.v (.slice a' nm c'),d⟩::lr)::k,(d,.v (.slice a' nm c'))::L,M' (a',c')⟩ V):AD C ⟨.ops (o::rest) all lr::k,L,M⟩ V:=by
 subst W;refine X5 i (λq:AA Addr×Nat=>.slice q.1 (n+m) q.2) (λq=>.row (.slice q.1 (n+m) q.2) (cs++O) e sz) M' hh (λ_=>by simp) hs hk (λFR env t' w h2 h3 Z=>?_) (λq=>h q.1 q.2);rw[Cc]at hi;subst N;have z:∀j u,O[j]? =some u->w.cell? (ad.add j)=some u:=by
  rcases H.cells h2 with h0|⟨aa,he,ab⟩
  ·grind
  ·grind
 have X:=BN (A2 h3 Z) (G:=[]) Yt hb;have⟨a',c',w',p1,p2⟩:=Xh hT h2 h3 Z hc ha hi (by rw[X];rfl) Y hl z h1 K;exact⟨(a',c'),w',p2,p1⟩
theorem AEe(i:Nat){a1:AA Addr}{M':Addr×Nat->List OB}(hh:CF C.nt all lr L o=some ([],d))(ai:o.op=.call ⟨.builtin .append,#[af,aw],#[t,y]⟩)(ht:KG C.T t=some (e,sz,z,zs))(aj:nth C.T y=some aa)(ak:aa.RI=.int aF)(al:Nat.blt 0 aa.size=true)(ha:ev (Et L lr) [] af=some (.v (.slice a1 n' c)))(an:a1=some ⟨g,0,none⟩){x:Int}(hb:ev (Et L lr) [] aw=some (.v (.int aN x)))(hx:x=(q:Int))(hq:0<q)(hi:nth M i=some (.row (.slice (some ⟨g,0,none⟩) n c) cs e sz))(hn:n'<=n)(N:c<n'+q)(Z:(n'+q)*z<=140737488355328){nq:Nat}(ao:n'+q=nq)(hs:∀p:Addr×Nat,RO M (.row (.slice (some p.1) nq p.2) (cs.take (n'*sz)++(List.replicate q zs).flatten) e sz) 0=some (M' p,j))(h:∀b c',AD C ⟨.ops rest all (⟨d,[],.v (.slice (some ⟨b,0,none⟩) nq c'),d⟩::lr)::k,(d,.v (.slice (some ⟨b,0,none⟩) nq c'))::L,M' (⟨b,0,none⟩,c')⟩ V):AD C ⟨.ops (o::rest) all lr::k,L,M⟩ V:=by
 subst ao;refine ABs (σ:=Nat×Nat) (λp=>.v (.slice (some ⟨p.1,0,none⟩) (n'+q) p.2)) (λp=>M' (⟨p.1,0,none⟩,p.2)) hh (λFR env t0 w h2 h3 h4=>?_) (λp=>.inl ⟨_,(He (hs (⟨p.1,0,none⟩,p.2))).1⟩) (λp=>h p.1 p.2);rw[Cc]at hi;have⟨u1,u2,u3,u4,ti,ab,i1,i2,i3,i4,i5,i6⟩:=Es hT ht;have K:EU w e sz (.slice (some ⟨g,0,none⟩) n c) cs:=h2.sat i _ hi;have⟨cur,k2,k3,k4,k5,r1,k6⟩:=Ju K;subst an;subst hx;have hle:n'+q<=maxLen:=by
  have:n'+q<=(n'+q)*z:=AAA _ u3;simp only[maxLen];omega
 have aq:(cs.take (n'*sz)).length=n'*sz:=by
  have:=Cm sz hn;simp only[Ao];omega
 have hold:(Builtin.firstCells ti.size n' (.slice (some ⟨g,0,none⟩) n' c)).run C.P w.drew=.ok (cs.take (n'*sz)).toArray w.drew:=by
  refine run_firstCells_some w.drew ti.size n' ⟨g,0,none⟩ n' c _ (by rw[i3];exact aq) (λX u hu=>?_);rw[Addr.add_lit];have ar:cs[X]? =some u:=by grind
  have:=Hf (off:=0) (l:=cs) K Y (λj v hv=>by simpa using hv) X u ar;simpa using this
 have ad:q*ti.bytes<=281474976710656:=by grind
 have ae:=Lib.run_append_grow_zeros (P:=C.P) w t y o.type e ti ab aN aF u1 (AKW hT aj (by simpa[D1,Nat.pos_iff_ne_zero]using al) ak) i1 i2 (some ⟨g,0,none⟩) n' c (cs.take (n'*sz)) hold q hq ox N
  (by simp only[maxLen]at hle;omega) ad (growslice_fits ox (by rw[i4];exact Z))
 have hz:ab.cells=⟨zs⟩:=by grind
 have ay:∀m:Nat,(Builtin.zeroCells ab.cells m).toList=(List.replicate m zs).flatten:=by
  intro m;rw[ADk];simp only[Builtin.zeroCells,hz,TX,AHq,On];refine Cu λX _=>?_;rw[getElem!_def];have:(⟨zs⟩:Array Value)[X%zs.length]? =zs[X%zs.length]? :=by simp
  rw[this];cases zs[X%zs.length]? <;>rfl
 have au:∀m:Nat,(List.replicate m zs).flatten.length=m*sz:=λm=>by simp[P2,u4]
 have ag:n'+q<=grownCap w (n'+q) c e:=grownCap_ge w _ _ _;have O:=grownCap_le_maxLen w (n'+q) c e hle;have W:=(He (hs (⟨w.heap.size,0,none⟩,grownCap w (n'+q) c e))).1;have ax:w.drew.heap.size=w.heap.size:=Y
 let cells:Array Value:=(cs.take (n'*sz)).toArray++Builtin.zeroCells ab.cells q++Builtin.zeroCells ab.cells (grownCap w (n'+q) c e-(n'+q))
 have av:cells.toList=cs.take (n'*sz)++(List.replicate q zs).flatten++(List.replicate (grownCap w (n'+q) c e-(n'+q)) zs).flatten:=by grind
 have H:(cs.take (n'*sz)++(List.replicate q zs).flatten).length=(n'+q)*sz:=by grind
 have ah:EU (w.drew.alloc (.cells cells e)) e sz (.slice (some ⟨w.heap.size,0,none⟩) (n'+q) (grownCap w (n'+q) c e)) (cs.take (n'*sz)++(List.replicate q zs).flatten):=by
  refine R8 (heap_alloc_new w.drew _) ag O ?_ H ?_
  ·rw[<- P5,av,AT,H,au,<- G1];congr 1;omega
  ·grind
 have hW:=h2.add (w':=w.drew.alloc (.cells cells e)) (o':=.row (.slice (some ⟨w.heap.size,0,none⟩) (n'+q) (grownCap w (n'+q) c e)) (cs.take (n'*sz)++(List.replicate q zs).flatten) e sz) 0 Y Y Y
  (λkk hk=>Go.RowKit.Below.heap_alloc w.drew _ kk hk) ah (λp hp=>by simp only[OB.own,Value.ownBlock,AE]at hp;omega)
 rw[<- W]at hW;refine⟨(w.heap.size,grownCap w (n'+q) c e),env++[0],_,⟨_,Y⟩,hW,λL hL=>by rw[W];exact hL.mono h2.len _ _,λlr hl=>by rw[W];exact hl.mono h2.len _ _,Yt,?_⟩;have e1:=BN (A2 h3 h4) (G:=[]) Yt ha;have e2:=BN (A2 h3 h4) (G:=[]) Yt hb;simp only[den]at e1 e2;unfold execOp;simp only[ai,resolve,Ks,B8,Ge,e1,e2,Sem.run_bind,Sem.run_pure,Result.andThen_ok,invoke,builtin,ae];rfl
omit hT in
theorem AJo{t:Array Value}(Z:NU env M t ag)(h:Gc ag [] o.op=some (f,args)){e:Array Value->Sem Value}(hf:P.funcs[f]? =some fn)(y:(fn.name== "runtime.NumGoroutine")=false)(hb:fn.body.isNone=true)(hn:Extern.findNext fn=none)(he:Extern.find fn=some e){w:World}{v:Value}(hr:(e ⟨args⟩).run P w=.ok v w'):(execOp (⟨t,[]⟩:Act).eval o).run P w=.ok (.value v) w':=by
 unfold Gc at h;split at h<;>try (simp at h;done)
 rename_i fx az aa K;split at h<;>try (simp at h;done)
 rename_i f' fi ca N;split at h<;>try (simp at h;done)
 rename_i O has;split at h<;>try (simp at h;done)
 rename_i a1 W;split at h<;>try (simp at h;done)
 rename_i full z;simp only[AE,BJ]at h;obtain⟨rfl,rfl⟩:=h;have e1:=BN Z (G:=[]) Yt N;have e2:=SM Z (G:=[]) Yt has;have e3:=Qt W;have e4:=Qt z;have X:=run_callFunc_extern hf y hb hn he ⟨full⟩ w;rw[hr]at X;simp only[Result.andThen_ok]at X;unfold execOp;have H:(⟨fi⟩:Array Value)++(⟨az⟩:Array Operand).map (⟨t,[]⟩:Act).eval++(⟨ca⟩:Array Value)=⟨full⟩:=by grind
 simp only[K,resolve,e1,den,Deferred.ofValue,Sem.run_bind,Sem.run_pure,Result.andThen_ok,invoke,H,X]
omit hT in
theorem AEd(i j:Nat){tb ez:Nat}{a b:AA Addr}(hh:CF C.nt all lr L o=some ([],d))(hc:Gc (Et L lr) [] o.op=some (f,args))(H:args=[.slice a z N,.slice b ab ai])(hf:C.P.funcs[f]? =some fn)(O:(fn.name== "runtime.NumGoroutine")=false)(hb:fn.body.isNone=true)(hn:Extern.findNext fn=none)(he:Extern.find fn=some (Extern.SlicesOverlaps.overlaps #[t,t] #[tb]))(hu:C.P.underlying t=some (.slice e))(hz:∀w,(Go.sizeOf e).run C.P w=.ok ez w)(ha:a=some ⟨aA,0,none⟩)(Z:b=some ⟨g,aH,none⟩)(aa:i≠j)(ag:0<c*y)(hi:nth M i=some (.row (.slice (some ⟨g,0,none⟩) n c) cs e y))(hj:nth M j=some (.row (.slice (some ⟨aA,0,none⟩) W c2) ds e y))(h:AD C ⟨.ops rest all (⟨d,[],.v (.bool false),d⟩::lr)::k,(d,.v (.bool false))::L,M⟩ V):AD C ⟨.ops (o::rest) all lr::k,L,M⟩ V:=by
 refine HY (G:=[]) (x:=.v (.bool false)) hh (λFR env t0 w h2 h3 h4 _=>⟨Yt,λK Q hK=>FT (AJo (A2 h3 h4) hc hf O hb hn he (v:=.bool false) (w':=w) ?_) (hK w h2)⟩) h;rw[Cc]at hi hj;have ad:EU w e y (.slice (some ⟨g,0,none⟩) n c) cs:=h2.sat i _ hi;have ae:EU w e y (.slice (some ⟨aA,0,none⟩) W c2) ds:=h2.sat j _ hj;have⟨cur,k2,k3,k4,k5,r1,k6⟩:=Ju ad;have⟨X,l2,l3,l4,l5,l1,l6⟩:=Ju ae;have af:aA≠g:=λhg=>h2.apart i j _ _ ⟨g,0,none⟩ aa hi hj Y (by simp[OB.own,Value.ownBlock,hg]);subst H;subst ha;subst Z;exact Lib.run_overlaps_apart w t tb e hu ez hz ⟨aA,0,none⟩ ⟨g,aH,none⟩ z N ab ai af e e X.size cur.size (by simp[World.shape?,l2]) (by simp[World.shape?,k2]) (by rw[k5];omega) (by simp[World.frozen?,l2]) (by simp[World.frozen?,l2])
theorem ABq{x:Operand}{lo:AA Operand}{hi:Operand}{a:AA Addr}{p:AA Int}{m:Int}(hh:CF C.nt all lr L o=some ([],d))(O:o.op=.slice t x lo (some hi) (some af))(ht:KG C.T t=some (e,sz,y,zs))(hx:ev (Et L lr) [] x=some (.v (.slice a n z)))(hl:ACL (Et L lr) [] lo=some p)(W:ev (Et L lr) [] hi=some (.v (.int aF Z)))(hm:ev (Et L lr) [] af=some (.v (.int aN m)))(hb:0<=O4 p/\O4 p<=Z/\Z<=m/\m<=z)(e1:(O4 p).toNat=l')(e2:Z.toNat-l'=n')(e3:m.toNat-l'=c')(h:AD C ⟨.ops rest all (⟨d,[],.v (.slice (Em a m.toNat l' sz) n' c'),d⟩::lr)::k,(d,.v (.slice (Em a m.toNat l' sz) n' c'))::L,M⟩ V):AD C ⟨.ops (o::rest) all lr::k,L,M⟩ V:=by
 subst e1;subst e2;subst e3;refine G9 (G:=[]) (x:=.v (.slice (Em a m.toNat (O4 p).toNat sz) (Z.toNat-(O4 p).toNat) (m.toNat-(O4 p).toNat))) hh (λenv t0 w h3 N _ hG=>⟨Yt,?_⟩) h;have⟨u1,u2,u3,u4,ti,aa,i1,i2,i3,i4,i5,i6⟩:=Es hT ht;have g0:=BN (A2 h3 N) (G:=[]) Yt hx;have g3:=BN (A2 h3 N) (G:=[]) Yt W;have g4:=BN (A2 h3 N) (G:=[]) Yt hm;have⟨v1,g1,g2⟩:=TA (A2 h3 N) (G:=[]) Yt hl;simp only[den]at g0 g3 g4;have H:(sizeOf e).run C.P w=.ok sz w:=by simp[sizeOf,typeInfo,i1,i3]
 have X:C.P.elem t=e:=by simp[Program.elem,u1]
 have K:C.P.underlying t=some (.slice (C.P.elem t)):=by grind
 rw[<- X]at H;unfold execOp;simp only[O,g0,den,g1,Bq,g3,g4,Sem.run_bind];rw[run_sliceAt_slice (h:=K)];have⟨b1,b2,b3,b4⟩:=hb;rcases g2 with⟨rfl,rfl⟩|⟨i,kk,rfl,rfl⟩<;>simp only[O4]at b1 b2 b3 b4⊢
 ·rw[run_slice_hm (ht:=K) (h0:=by omega) (h2:=b3) (h3:=b4)];simp[H,sliced,Em]
 ·rw[run_slice_lhm (ht:=K) (h0:=b1) (h1:=b2) (h2:=b3) (h3:=b4)];simp[H,sliced,Em]
omit hT in
theorem AK.APL{α:Type}[Inhabited α]{c:Cd α}{a:AA Addr}{l:List α}(h:AK c V a y l)(lo hi m:Nat)(h1:lo<=hi)(h2:hi<=m)(h3:m<=l.length):AK c V (Em a m lo c.sz) (m-lo) ((l.take hi).drop lo):=by
 by_cases hm:m=lo
 ·have:(l.take hi).drop lo=[]:=by simp;omega
  rw[this];exact AK.nil
 ·have hp:=h.part lo hi h1 ox;have z:=h.1;rw[if_neg ox]at hp;simp only[Em,if_neg hm];exact⟨by simp only[Bj,Ao];omega,hp.2⟩
theorem AL2{α:Type}[Inhabited α]{c:Cd α}{l:List α}{x:Operand}{lo:AA Operand}{hi:Operand}{a:AA Addr}{p:AA Int}{lo' m:Int}(hh:CF C.nt all lr L o=some ([],d))(K:o.op=.slice t x lo (some hi) (some af))(ht:KG C.T t=some (e,sz,y,zs))(hx:ev (Et L lr) [] x=some (.v (.slice a n z)))(hl:ACL (Et L lr) [] lo=some p)(N:ev (Et L lr) [] hi=some (.v (.int aF Z)))(hm:ev (Et L lr) [] af=some (.v (.int aN m)))(O:O4 p=lo')(hs:AK c V a z l)(W:sz=c.sz)(X:0<=lo'/\lo'<=Z/\Z<=m/\m<=(l.length:Int))(h:∀a' k',AK c V a' k' ((l.take Z.toNat).drop lo'.toNat)->AD C ⟨.ops rest all (⟨d,[],.v (.slice a' ((l.take Z.toNat).drop lo'.toNat).length k'),d⟩::lr)::k,(d,.v (.slice a' ((l.take Z.toNat).drop lo'.toNat).length k'))::L,M⟩ V):AD C ⟨.ops (o::rest) all lr::k,L,M⟩ V:=by
 subst O;subst W;have aa:=hs.1;have hlen:((l.take Z.toNat).drop (O4 p).toNat).length=Z.toNat-(O4 p).toNat:=by grind
 have H:=h _ _ (hs.APL (O4 p).toNat Z.toNat m.toNat ox ox ox);rw[hlen]at H;exact ABq hT hh K ht hx hl N hm ⟨X.1,X.2.1,X.2.2.1,by omega⟩ Y Y Y H
end
theorem AF.take{α:Type}[Inhabited α]{c:Cd α}{V:AM}:∀{l:List α}{cs:List Value}(i:Nat),AF c V l cs->AF c V (l.take i) (cs.take (i*c.sz))
 |[],cs,i,h=>by rw[show cs=[]from h];simp;exact Y
 |x::l,cs,0,h=>by simp;exact Y
 |x::l,cs,i+1,⟨e,r,h0,h1,h2⟩=>by
  have he:=c.len h1;refine⟨e,r.take (i*c.sz),?_,h1,AF.take i h2⟩;rw[h0,G1,RG,AJ2,<- he];exact List.take_length_add_append _
theorem AF.drop{α:Type}[Inhabited α]{c:Cd α}{V:AM}:∀{l:List α}{cs:List Value}(i:Nat),AF c V l cs->AF c V (l.drop i) (cs.drop (i*c.sz))
 |[],cs,i,h=>by rw[show cs=[]from h];simp;exact Y
 |x::l,cs,0,h=>by simpa using h
 |x::l,cs,i+1,⟨e,r,h0,h1,h2⟩=>by
  have he:=c.len h1;rw[h0,G1,RG,AJ2 (i*c.sz),<- he,List.drop_length_add_append,he];exact AF.drop i h2
theorem Yh{js:List Value}(z:cs.length=n*sz)(y:ds.length=sz)(H:js.length=sz)(hi:i<n):(((cs++js).take ((i+1)*sz)++cs.drop (i*sz)++(cs++js).drop ((i+1)*sz+(cs.drop (i*sz)).length)).take (i*sz)++ds++((cs++js).take ((i+1)*sz)++cs.drop (i*sz)++(cs++js).drop ((i+1)*sz+(cs.drop (i*sz)).length)).drop (i*sz+ds.length))=cs.take (i*sz)++ds++cs.drop (i*sz):=by
 have h1:(i+1)*sz<=n*sz:=Cm _ hi;rw[G1,RG]at h1⊢;have h2:(cs++js).drop (i*sz+sz+(cs.drop (i*sz)).length)=[]:=by
  rw[T1];simp only[AT,Bj];omega
 rw[h2,Du];have h3:(cs++js).take (i*sz+sz)=cs.take (i*sz+sz):=List.take_append_of_le_length ox;rw[h3,y];have K:(cs.take (i*sz+sz)).length=i*sz+sz:=by simp;omega
 congr 1
 ·grind
 ·grind
theorem WU(W:cs.length=n*sz)(y:ds.length=sz)(z:zs.length=(n+1-i)*sz)(hi:i<n):(((cs.take (i*sz)++zs).take (i*sz)++ds++(cs.take (i*sz)++zs).drop (i*sz+ds.length)).take ((i+1)*sz)++cs.drop (i*sz)++((cs.take (i*sz)++zs).take (i*sz)++ds++(cs.take (i*sz)++zs).drop (i*sz+ds.length)).drop ((i+1)*sz+(cs.drop (i*sz)).length))=cs.take (i*sz)++ds++cs.drop (i*sz):=by
 have h1:(i+1)*sz<=n*sz:=Cm _ hi;have H:(n+1-i)*sz=n*sz+sz-i*sz:=by grind
 rw[G1,RG]at h1⊢;rw[H]at z;have K:(cs.take (i*sz)).length=i*sz:=by simp;omega
 rw[Ut K,y];have N:(cs.take (i*sz)++ds).length=i*sz+sz:=by simp;omega
 rw[Ut N];have O:(cs.take (i*sz)++ds++(cs.take (i*sz)++zs).drop (i*sz+sz)).drop (i*sz+sz+(cs.drop (i*sz)).length)=[]:=by
  rw[T1];simp only[AT,Bj,Ao];omega
 rw[O,Du]
def idN:Nat->Nat->List Nat->Bool
 |_,0,_=>true|_,_+1,[]=>false|i,n+1,a::l=>match Nat.beq a i with
  |true=>idN (i+1) n l|false=>false
theorem Yk:∀{n i:Nat}{l:List Nat},idN i n l=true->n<=l.length/\∀j,j<n->l[j]? =some (i+j)
 |0,i,l,_=>⟨By _,λj h=>by omega⟩
 |n+1,i,[],h=>by simp[idN]at h
 |n+1,i,a::l,h=>by
  simp only[idN]at h;split at h
  ·rename_i y;have⟨h1,h2⟩:=Yk h;refine⟨by simp;omega,λj z=>?_⟩;cases j with
   |zero=>simp[F6 y]|succ j=>simp only[RH,h2 j ox];congr 1;omega
  ·simp at h
def AHe(p:List Nat):List B7->List B7->Prop
 |[],_=>True|e::l',l=>(e.c=[]/\e.r=e.s/\∃y r,Qf p e.x=some y/\H7 l e.s=some ⟨e.s,[],y,r⟩)/\AHe p l' l
theorem AHe.look{p:List Nat}{l:List B7}:∀{l':List B7},AHe p l' l->∀s e,H7 l' s=some e->e.s=s/\e.c=[]/\e.r=s/\∃y r,Qf p e.x=some y/\H7 l s=some ⟨s,[],y,r⟩
 |[],_,s,e,h=>by simp[H7]at h
 |a::l',z,s,e,h=>by
  rw[O3]at h;split at h
  ·rename_i H;simp only[AE]at h;subst h;subst H;have⟨⟨h1,h2,y,r,h3,K⟩,_⟩:=z;exact⟨Y,h1,h2,y,r,h3,K⟩
  ·exact AHe.look z.2 s e h
theorem AAJ{p:List Nat}(H:∀(j i:Nat),p[j]? =some i->Bm (p.map (Bm env)) j=Bm env i)(K:∀(j i:Nat),p[j]? =some i->C6 M i->C6 M' j):∀{x y:SV},Qf p x=some y->den env y=den (p.map (Bm env)) x/\(y.ok M->x.ok M'):=by
 intro x y z;cases x with
 |v _=>simp only[Qf,AE]at z;subst z;exact⟨Y,λ_=>Yt⟩|el _ _=>simp only[Qf,AE]at z;subst z;exact⟨Y,λh=>h⟩|ptr j o=>
  simp only[Qf]at z;split at z
  ·rename_i i hi;simp only[AE]at z;subst z;rw[Cc]at hi;exact⟨by simp only[den,H j i hi],K j i hi⟩
  ·simp at z
 |TY j o l c=>
  simp only[Qf]at z;split at z
  ·rename_i i hi;simp only[AE]at z;subst z;rw[Cc]at hi;exact⟨by simp only[den,H j i hi],K j i hi⟩
  ·simp at z
theorem AGJ(p:List Nat){q:List (Nat×Bool)}(hq:Hg all ends n listed q=true)(hM:Dh M p=some M')(hd:FU p=true)(hid:idN 0 n0 p=true)(aa:GM M'=true)(hs:Y5 p L' L)(he:AHe p lr' lr)(h:AD C ⟨.draw ⟨all,listed,n,ends,n0,mask,V1,q,lr'⟩::k,L',M'⟩ V):AD C ⟨.draw ⟨all,listed,n,ends,n0,mask,V1,[],lr⟩::k,L,M⟩ V:=by
 refine AD.of λFR DF env t w h1 h2 h3 h4 O=>?_;have h4:N3 env M lr t:=h4;have O:Pp DF ⟨all,listed,n,ends,n0,mask,V1,[],lr⟩ env V M:=O;have⟨hlen,H⟩:=IV hM;have⟨ak,ab⟩:=Yk hid;have z:∀(j i:Nat),p[j]? =some i->Bm (p.map (Bm env)) j=Bm env i:=λj i hj=>by simp[Bm,hj]
 have hW:FC C.V0 FR (p.map (Bm env)) V M' w:=by
  refine⟨h2.os,h2.tape,h2.output,h2.frame,h2.le,h2.holds,h2.fresh,by simp[hlen],?_,?_,?_,?_,h2.tb⟩
  ·intro j o W;have⟨i,K,N⟩:=H j o W;have:=h2.sat i o N;rw[z j i K];rcases Ky aa W with⟨x,cs,e,sz,rfl⟩|⟨cs,ty,rfl,hv⟩|⟨E,rfl⟩
   ·exact this
   rotate_left
   ·exact this
   ·refine⟨?_,Xk hv⟩;rw[this.1]
    congr 3
    refine Cu λy hy=>?_;cases y with
    |v _=>rfl|_=>exact absurd (Ub hv _ hy) zp
  ·intro j o a W X;have⟨i,K,N⟩:=H j o W;rw[z j i K]at X;exact h2.DA i o a N X
  ·intro j o a W X;have⟨i,K,N⟩:=H j o W;rw[z j i K]at X;exact h2.C1 i o a N X
  ·intro j j' o q a ai W hq X ad;have⟨i,K,N⟩:=H j o W;have⟨i',Z,g4⟩:=H j' q hq;rw[z j i K]at X;rw[z j' i' Z]at ad;exact h2.apart i i' o q a (λe=>ai (No hd K (e▸Z))) N g4 X ad
 have ae:∀(j i:Nat),p[j]? =some i->C6 M i->C6 M' j:=by
  intro j i hj ⟨o,K,N⟩;have af:j<M'.length:=by grind
  have⟨i',Z,g4⟩:=H j M'[j] (by simp[af]);rw[hj]at Z;simp only[AE]at Z;subst Z;rw[K]at g4;simp only[AE]at g4;exact⟨o,by rw[g4];simp[af],N⟩
 have ag:M'.take n0=M.take n0:=by
  apply G2;intro j;rw[Cs,Cs];split
  ·grind
  ·rfl
 have al:n0<=M.length:=O.AFO;have ah:n0<=M'.length:=by grind
 have aj:Sd mask 0 n0 M'=Sd mask 0 n0 M:=by
  have e1:M'=M'.take n0++M'.drop n0:=(Dq _ _).symm;have e2:M=M.take n0++M.drop n0:=(Dq _ _).symm;rw[e1,e2,U6 _ _ _ _ _ (by simp;omega),U6 _ _ _ _ _ (by simp;omega),ag]
 have hD:Pp DF ⟨all,listed,n,ends,n0,mask,V1,q,lr'⟩ (p.map (Bm env)) V M':=by
  have⟨r,hr⟩:=O.pre;have hl:DF.env.length=n0:=O.len;refine⟨⟨(p.map (Bm env)).drop n0,?_⟩,O.len,ah,O.v,O.vle,O.ok,λhn=>?_,hq⟩
  ·have:DF.env=(p.map (Bm env)).take n0:=by
    apply G2;intro j;rw[Cs];split
    ·rename_i hj;have hp:=ab j hj;rw[Bo]at hp;rw[EX,hp,Bq,Bm,hr,DL,if_pos ox];rw[List.getElem?_eq_getElem ox];rfl
    ·grind
   rw[this];exact(Dq _ _).symm
  ·show DF.M=Sd mask 0 n0 M';rw[aj];exact O.mem hn
 refine h.to FR DF (p.map (Bm env)) t w h1 hW (λs x hx=>?_) (λs e hx=>?_) hD
 ·have⟨y,K,N⟩:=hs.look s x hx;have⟨k1,k2⟩:=h3 s y N;have⟨q1,q2⟩:=AAJ (M:=M) (M':=M') z ae K;exact⟨by rw[k1,q1],q2 k2⟩
 ·have hx:H7 lr' s=some e:=hx;have⟨g0,K,N,y,r,Z,g4⟩:=he.look s e hx;have⟨k1,_,_⟩:=h4 s _ g4;have⟨k2,k3⟩:=k1 Yt;have⟨q1,q2⟩:=AAJ (M:=M) (M':=M') z ae Z;simp only at k2 k3;refine⟨λ_=>⟨by rw[k2,q1],q2 k3⟩,λhc=>absurd (by rw[K];trivial) hc,by rw[N]⟩
theorem Nd(i j:Nat)(N O q:List (Nat×Bool))(I:List B7->Fr->AM->List OB->Prop)(m:Nat)(K:List Bool)(hn:n'=n+1)(hr:rdy listed 0 all=[i,j])(hi:nth all i=some oi)(hj:nth all j=some aE)(hs:RQ all listed=true)(h1:Hg all ends n (Ha listed i) N=true)(h2:Hg all ends n (Ha listed j) O=true)(hq:Hg all ends m K q=true)(hA:(∀(p:List Nat){y lr':List B7}{z L':Fr}{H M':List OB}{V':AM},Dh H p=some M'->FU p=true->idN 0 n0 p=true->GM M'=true->Y5 p L' z->AHe p lr' y->I lr' L' V' M'->AD C ⟨.draw ⟨all,K,m,ends,n0,mask,V1,[],y⟩::k,z,H⟩ V')->AD C ⟨.ops [oi] all lr:: .draw ⟨all,Ha listed i,n,ends,n0,mask,V1,N,lr⟩::k,L,M⟩ V)(hB:(∀(p:List Nat){y lr':List B7}{z L':Fr}{H M':List OB}{V':AM},Dh H p=some M'->FU p=true->idN 0 n0 p=true->GM M'=true->Y5 p L' z->AHe p lr' y->I lr' L' V' M'->AD C ⟨.draw ⟨all,K,m,ends,n0,mask,V1,[],y⟩::k,z,H⟩ V')->AD C ⟨.ops [aE] all lr:: .draw ⟨all,Ha listed j,n,ends,n0,mask,V1,O,lr⟩::k,L,M⟩ V)(h:∀lr' L' V' M',I lr' L' V' M'->AD C ⟨.draw ⟨all,K,m,ends,n0,mask,V1,q,lr'⟩::k,L',M'⟩ V'):AD C ⟨.draw ⟨all,listed,n',ends,n0,mask,V1,[],lr⟩::k,L,M⟩ V:=
 N5 (i:=i) (j:=j) N O hn hr hi hj hs h1 h2
  (hA λp _ _ _ _ _ _ _ W X Z g4 g5 g6 g7=>AGJ p hq W X Z g4 g5 g6 (h _ _ _ _ g7))
  (hB λp _ _ _ _ _ _ _ W X Z g4 g5 g6 g7=>AGJ p hq W X Z g4 g5 g6 (h _ _ _ _ g7))
theorem AF.ints{k:IntKind}{V:AM}:∀{l:List Int}{cs:List Value},AF (CD k) V l cs->cs=l.map (Value.int k)
 |[],cs,h=>h|x::l,cs,⟨e,r,h0,h1,h2⟩=>by
  subst h0;rw[show e=[.int k x]from h1,AF.ints h2];rfl
theorem CH{k:IntKind}{V:AM}:∀(l:List Int),AF (CD k) V l (l.map (Value.int k))
 |[]=>rfl|x::l=>⟨[.int k x],_,Y,Y,CH l⟩
def Fx(l:List Int):List Int:=l.mergeSort λx y=>decide (x<=y)
def EN(l:List Int):List Int:=Go.Lib.compact l
theorem YG{a:AA Addr}{l:List Int}(H:AF (CD .i64) V l cs)(K:∀y,y=l.map (Value.int .i64)->MJ P f [.slice a n c] ⟨.slice a n c,y,e,1⟩ V (λV' v z=>v=.tuple #[]/\V'=V/\z=⟨.slice a n c,(Fx l).map (Value.int .i64),e,1⟩)):MJ P f [.slice a n c] ⟨.slice a n c,cs,e,1⟩ V (λV' v z=>v=.tuple #[]/\V'=V/\z=⟨.slice a n c,(Fx l).map (Value.int .i64),e,1⟩):=K cs H.ints
theorem S8{a:AA Addr}{l:List Int}(H:AF (CD .i64) V l cs)(K:∀y,y=l.map (Value.int .i64)->MJ P f [.slice a n c] ⟨.slice a n c,y,e,1⟩ V (λV' v z=>v=.slice a (EN l).length c/\V'=V/\z=⟨.slice a (EN l).length c,(EN l).map (Value.int .i64),e,1⟩)):MJ P f [.slice a n c] ⟨.slice a n c,cs,e,1⟩ V (λV' v z=>v=.slice a (EN l).length c/\V'=V/\z=⟨.slice a (EN l).length c,(EN l).map (Value.int .i64),e,1⟩):=K cs H.ints
section
open Go.ChangeShapes Go.WideShapes Go.ChangeAt Go.RowKit
theorem own:ownKnob Tryz.prog.godebug=none:=kz
theorem laidOut:laidOutB Tryz.prog=true:=kz
theorem Vh{H:Type}{enc:TypeId×Value->H}{W O:World}(X:Below W.heap.size W O){sp:Nat->Bool}:∀{ts:List TypeId}{vs:List Value}{ds:List (DataW H)}{ps:List MemPlace},(∀t∈ts,Tryz.prog.readableRec t=true/\t<Tryz.prog.types.size)->DataW.TrodAll enc Tryz.prog W 0 (λ_=>true) true ts vs ds ps->(∀x∈ps,x.block<W.heap.size)->(∀x∈ps,sp x.block=true)->DataW.TrodAll enc Tryz.prog O 0 sp true ts vs ds ps
 |[],_,_,_,_,h,_,_=>by
  obtain⟨rfl,rfl,rfl⟩:=trodAll_nil h;exact Y
 |t::ts,_,_,_,z,h,K,N=>by
  obtain⟨v,Z,d,aa,a,b,rfl,rfl,rfl,h1,h2⟩:=trodAll_cons h;have⟨r1,r2⟩:=z t zp;exact⟨a,b,WideElems.Trod_stays laidOut r1 r2 h1 (λx y=>X.same (K x (by simp[y]))) (λx y=>N x (by simp[y])),
   Vh X (λt ht=>z t (by simp[ht])) h2 (λx y=>K x (by simp[y])) (λx y=>N x (by simp[y])),Y⟩
set_option maxRecDepth 20000 in
theorem ALC{H:Type}{enc:TypeId×Value->H}{f:Func}{s:ChangeSpec}{args:Array Value}{ds gs:List (DataW H)}(y:s.vars=[])(K:f.resultTypes= #[4])(aa:∀t∈f.params.toList,Tryz.prog.readableRec t=true/\t<Tryz.prog.types.size)(hW:DataW.Whole enc Tryz.prog f.params.toList s.vars false aB args.toList ds gs aO)(z:s.fn H (ds++gs)={results:=[.lit (.bool true)],args:=ds})(hb:Below aB.heap.size aB aY):s.post enc Tryz.prog f false true false false aB args (.bool true) aY:=by
 have N:=hW.lt;have ab:=hW;have⟨p,q,hA,hV,O,hz,hn⟩:=hW;rw[y]at hV;obtain⟨rfl,rfl⟩:=trodVars_none hV;rw[Du]at O;subst O;have hr:∀(b:Nat)(sp:Nat->Bool)(hd:Bool),DataW.TrodAll enc Tryz.prog aY b sp hd f.resultTypes.toList ((Value.bool true).resultList f.resultTypes.size) (s.fn H (ds++[])).results []:=by
  intro b sp hd;rw[K,z];exact trodAll_cons_mk (shut_bool Tryz.underlying4 _) trodAll_mk0
 have ha:∀sp:Nat->Bool,(∀x∈aO,sp x.block=true)->DataW.TrodAll enc Tryz.prog aY 0 sp true f.params.toList args.toList (s.fn H (ds++[])).args aO:=by
  intro sp ad;rw[z];exact Vh hb aa hA N ad
 have X:∀sp:Nat->Bool,DataW.TrodVars enc Tryz.prog aY sp s.vars (s.fn H (ds++[])).vars []:=by
  intro sp;rw[y,z];rfl
 have hold:∀x∈aO,(λb=>decide (b<aB.heap.size)) x.block=true:=λx Z=>by simpa using N x Z
 refine⟨ds,[],aO,[],aO,[],ab,hr _ _ _,ha _ hold,X _,World.keptBut_mono (λx Z=>⟨Z,.inr (by simpa using Z)⟩) (hb.frame (·∈aO)),λ_=>?_⟩;refine⟨?_,_,_,([]++aO)++[],⟨[]++aO,[],trodAll_append (ha _ (λ_ _=>Y)) (hr _ _ _),X _,Y,?_,?_⟩,?_⟩
 ·grind
 ·grind
 ·grind
 ·grind
end
section
open Go.RowKit Go.Maps Go.Sort Go.Shelf Go.Proofs
def AOu(P:Program)(g:Nat)(H:Array Value)(xs:List Int)(w:World):Prop:=
 ∀(l:Nat)(J:List Int->World->Prop)(W:World),Below w.heap.size w W->AbidesFrom W.heap.size J->
  (∀pre x rest z,xs=pre++x::rest->J pre z->Below w.heap.size w z->YieldAt Fence.wide 0 P l #[encZ x] z λe y=>e=.returned (.bool true)/\J (pre++[x]) y/\Below w.heap.size w y)->
  J [] W->
  Calls P g (#[.func (.yield l) #[] #[]]++H) W λe y=>(∃v,e=.returned v)/\J xs y
def ADL(P:Program)(V:AM)(v:Value)(xs:List Int):Prop:=
 ∃g y,v=.func (.func g) #[] y/\(∀args w,(callFunc g args).run P w=.ok (.enter g args) w)/\∀w,Holds V w->AOu P g y xs w
variable {P:Program} {ρ:Ren}
set_option maxRecDepth 100000 in
set_option maxHeartbeats 2000000 in
theorem AHV(L:SlLaysZI.n11 P ρ)(g:Nat)(X:Array Value)(eg:∀args w,(callFunc g args).run P w=.ok (.enter g args) w)(xs:List Int)(an:xs.length*8<=140737488355328)(w:World)(af:AOu P g X xs w):Calls P (ρ.f 11) #[.slice none 0 0,.func (.func g) #[] X] w λe w'=>∃v:Value,e=.returned v/\w'.ownsRow w.heap.size (ρ.t 26) 1 v xs.length (xs.map encZ)/\Below w.heap.size w w':=by
 have h1:(1:Nat)<=1:=Nat.le_refl _;have hN:xs.length<=maxLen:=by simp only[maxLen];omega
 have ao:Fence.wide.fn (ρ.f 11):=Yt;have aq:Fence.wide.fn g:=Yt;have ag:Fence.wide.round=none:=Y;have mixed:=L.mixed;have t0:=L.t0;have a0:=L.a0;have z0:=L.z0;have v0:=L.v0;have a1:=L.t24;have a6:=L.a24;have a7:=L.z24;have a8:=L.v24;have aA:=L.t26;have aB:=L.a26;have aC:=L.z26;have aD:=L.v26;have aE:=L.t28;have aF:=L.a28;have aG:=L.z28;have aH:=L.v28;have ah:ρ.t 24≠ρ.t 26:=λe=>by have h:=L.t24;rw[e,L.t26]at h;cases h
 have u0:=run_underlying L.t0;have aI:=run_underlying L.t24;have aJ:=run_underlying L.t26;have aK:=run_underlying L.t28;have⟨_,_,FG⟩:=L.f11;refine(callsIn_wide (n:=1)).1 ?_;refine callsIn_of_wp_marks FG Y ao ?_ ag;simp only[SlBodyZ.n11_ntmps ρ,On,Bz,HI,Nat.reduceAdd,Nat.reduceSub,Array.replicate_succ,Array.replicate_zero,List.push_toArray,List.append_toArray,KA,NK]
 gi_wp2
 refine wpIn_rangeFunc ?_;intro fn ar;rw[ag];obtain⟨y,Z⟩:∃y,w.alloc (.cells #[.slice none 0 0] (ρ.t 24))=y:=⟨_,Y⟩;have au:y.heap.size=w.heap.size+1:=by rw[<- Z];simp
 have av:y.heap[w.heap.size]? =some (.cells #[.slice none 0 0] (ρ.t 24) (0,0)):=by rw[<- Z];exact World.alloc_heap_new w _
 have ad:Below w.heap.size w y:=by rw[<- Z];exact(Below.refl _ w).alloc (Nat.le_refl _) _
 rw[Z];obtain⟨O,z⟩:∃O,(y.alloc (.deferred (some []))).alloc (.loop (AnyZI.apRec ρ fn (.func (.func g) #[] X) w.heap.size y.heap.size .ready none))=O:=⟨_,Y⟩;have hold:∀k,k<y.heap.size->O.heap[k]? =y.heap[k]? :=λk hk=>by
  rw[<- z];exact(Below.heap_alloc _ _ k (by simp;omega)).trans (Below.heap_alloc _ _ k hk)
 have ae:Below w.heap.size w O:=by rw[<- z];exact(ad.alloc ad.size _).alloc (by have:=ad.size;simp;omega) _
 have aL:O.heap.size=y.heap.size+2:=by rw[<- z];simp
 have hM:AnyZI.ApAt ρ w fn (.func (.func g) #[] X) w.heap.size (y.heap.size+1) y.heap.size [] O:=
  ⟨⟨_,(hold w.heap.size ox).trans av,⟨Y,.inl ⟨Y,Y⟩⟩,by simp⟩,
   by rw[<- z];have:=World.alloc_heap_new (y.alloc (.deferred (some []))) (.loop (AnyZI.apRec ρ fn (.func (.func g) #[] X) w.heap.size y.heap.size .ready none));rwa[World.size_alloc]at this,
   by rw[<- z];exact(Below.heap_alloc _ _ _ zp).trans (World.alloc_heap_new y _),ae⟩
 refine⟨y.heap.size+1,[{target:=.collected y.heap.size,args:= #[]}],O,{target:=.fn (.func g) X,args:= #[.func (.yield (y.heap.size+1)) #[] #[]]},O,g,
  #[.func (.yield (y.heap.size+1)) #[] #[]]++X,O,?_,?_,?_,?_,λ_=>h1,?_⟩
 ·rw[<- z];exact run_enterLoop_outer _ _ _ _ _
 ·simp[resolve,go_sem]
 ·intro f' ai;simp[Target.leads]at ai;subst ai;exact aq
 ·simp[invoke,go_sem,eg]
 ·refine callsIn_wide.2 ((af (y.heap.size+1) (AnyZI.ApAt ρ w fn (.func (.func g) #[] X) w.heap.size (y.heap.size+1) y.heap.size) O ae (AnyZI.ap_abides ρ _ _ _ _ _ _ _ ae.size)
   (λpre x rest W aw hJ _=>?_) hM).mono ?_)
  ·have ax:pre.length<xs.length:=by rw[aw];simp
   have⟨f1,f2,f3,f4,hy,hR⟩:=AnyZI.apYield {L with} Fence.wide 0 w fn ar _ w.heap.size (y.heap.size+1) y.heap.size ox ox ox (Nat.le_refl _) ox xs.length hN an pre x W hJ ax;exact⟨f1,f2,f3,f4,hy,hR.mono λe W' h=>⟨h.1,h.2.1,h.2.1.below⟩⟩
  rintro e W2 ⟨⟨v0,rfl⟩,h2⟩;have⟨v,hv,aa,az⟩:=h2.box;have ab:=run_endLoop (P:=P) h2.L (by simp[AnyZI.apRec]);obtain⟨W3,H⟩:∃W3,W2.putObj (y.heap.size+1) (.loop {AnyZI.apRec ρ fn (.func (.func g) #[] X) w.heap.size y.heap.size .ready none with state:=.exhausted})=W3:=⟨_,Y⟩;rw[H]at ab;have aj:W2.grownBy W3 (some (y.heap.size+1)):=by rw[<- H];exact grownBy_putObj_a _ _ _
  have ay:W3.heap[w.heap.size]? =some (.cells #[v] (ρ.t 24) (0,0)):=by rw[<- H];exact(World.putObj_heap_other ox).trans hv
  have ak:W3.heap[y.heap.size]? =some (.deferred (some [])):=by rw[<- H];exact(World.putObj_heap_other ox).trans h2.K
  have N:=aa.kept aj (ownsRow_ne_a aa h2.L (λcur e=>by first|cases e|exact ah (Obj.cells.inj e).2.1));have al:Below w.heap.size w W3:=h2.below.grown aj h2.below.size (λk e=>by cases e;omega);have⟨aM,aN⟩:=cell_of_box_a ay;clear H;refine⟨none,W3,ab,?_⟩
  gi_wp2
  rw[<- au];refine⟨by simp,.inl ⟨_,_,Y,run_takeDeferred ak,?_⟩⟩;exact⟨_,results_tmp Y _ _ _,v,Y,N.kept (grownBy_putObj_a _ _ _) (ownsRow_ne_a N ak (λcur e=>by first|cases e|exact ah (Obj.cells.inj e).2.1)),al.grown (grownBy_putObj_a _ _ _) al.size (λk e=>by cases e;omega)⟩
theorem AHu{w:World}(hw:Holds V w){a:Addr}(y:V a=some x):a.block<w.heap.size:=by
 have h1:=hw a x y;refine Nat.lt_of_not_le λz=>?_;have:w.heap[a.block]? =none:=by simp;omega
 simp[World.cell?,this]at h1
theorem Zx(L:SlLaysZI.n11 P ρ)(Z:AEa P (ρ.f 11)){v:Value}(O:ADL P V v xs)(W:xs.length*8<=140737488355328):MJ P (ρ.f 11) [.slice none 0 0,v] ⟨.slice none 0 0,[],ρ.t 26,1⟩ V (λV' r r'=>V'=V/\∃a k,r=.slice a xs.length k/\r'=⟨.slice a xs.length k,xs.map (Value.int .i64),ρ.t 26,1⟩):=by
 obtain⟨g,lb,rfl,eg,O⟩:=O;refine⟨Z,λw hw _ _=>(AHV L g lb eg xs W w (O w hw)).mono ?_⟩;rintro e w' ⟨v,rfl,y,H⟩;have hv:∃a k,v=.slice a xs.length k:=by
  rcases y.2 with⟨h1,h2⟩|⟨g,cap,cur,h1,_⟩
  ·grind
  ·grind
 obtain⟨a,k,rfl⟩:=hv;have K:=y.lt;refine⟨_,V,⟨.slice a xs.length k,xs.map (Value.int .i64),ρ.t 26,1⟩,Y,⟨H.os,H.tape,H.output,λj hj _=>H.block j hj⟩,DI.refl V,⟨λb x N=>?_,hw.t.same (H.block _ hw.t.lt)⟩,λb x N=>.inl N,?_,λb z=>?_,λb z=>.inr (K _ z).1,Y,a,k,Y,Y⟩
 ·rw[World.cell?_of_block (H.block _ (AHu hw N))];exact hw b x N
 ·refine⟨xs.length,y.1,?_⟩;rcases y.2 with h|⟨g,cap,cur,h1,h2,h3⟩
  ·exact .inl h
  ·grind
 ·have h1:=(K _ z).1;cases X:V b with
  |none=>rfl|some x=>have:=AHu hw X;omega
end
section
open Go.RowKit Go.Proofs
theorem AFp{w:World}(h:Below w.heap.size w w'):w.grownBy w' none:=⟨h.os,h.tape,h.output,h.size,λk y _=>h.block k y⟩
def JZ(w:World):KC:=⟨w.os,w.tape,w.output,λb=>w.heap[b]?⟩
theorem Si{w:World}(hw:Holds V w):FC V (JZ w) [] V [] w:=
 ⟨Y,Y,Y,λ_ _ h=>h,DI.refl V,hw,λ_ _ h=>.inl h,Y,λi o h=>by simp at h,λi o a h=>by simp at h,λi o a h=>by simp at h,λi j o o' a _ h=>by simp at h,hw.t⟩
theorem YD{w:World}(h:FC V (JZ w) env V' M w'):Below w.heap.size w w':=by
 have y:∀k,k<w.heap.size->w'.heap[k]? =w.heap[k]? :=λk z=>by
  have:w.heap[k]? =some w.heap[k]:=by simp[z]
  rw[this];exact h.frame k _ this
 refine⟨h.os,h.tape,h.output,?_,y⟩;rcases Nat.eq_zero_or_pos w.heap.size with h0|h0
 ·omega
 ·grind
def AEg(nt:Nat)(V:AM)(w:World)(I:Fr->AM->Prop)(a:Act)(w':World):Prop:=
 a.defers=[]/\a.tmps.size=nt/\∃L' V',Ng [] [] L' a.tmps/\DI V V'/\Holds V' w'/\Below w.heap.size w w'/\I L' V'
abbrev JX(P:Program)(T:List G6)(fn:Func)(nt:Nat)(V:AM):Ctx:=⟨P,T,fn,nt,V,λ_ _ _=>False,λ_ _ _=>False⟩
abbrev Tn(I:Fr->AM->Prop):Kt:=.inLoop (λL V M=>M=[]/\I L V)
theorem RT{e:Ending}{w:World}(h:ABH (JX P T fn nt V) FR e w):False:=by
 rcases h with⟨v,env,V',M,_,_,h⟩|⟨v,env,V',M,_,_,h⟩<;>exact h
theorem XB{e:Exit}{a:Act}{w:World}(h:post (JX P T fn nt V) (JZ w) .none [Tn I] e a w'):e=.normal/\AEg nt V w I a w':=by
 have y:∀(e:Exit),post (JX P T fn nt V) (JZ w) .none [] e a w'->False:=λe h=>by
  have h:bodyPost P fn (ABH (JX P T fn nt V) (JZ w)) e a w':=h;cases e with
  |normal=>have⟨_,v,_,h⟩:=h;exact RT h|ret=>have⟨_,v,_,h⟩:=h;exact RT h|panic c=>exact RT h.2|outgrown=>exact RT h|exit id=>exact h|goto t=>exact h
 cases e with
 |normal=>
  have h:a.defers=[]/\a.tmps.size=nt/\∃env L V' M,FC V (JZ w) env V' M w'/\Ng env M L a.tmps/\(M=[]/\I L V'):=h;obtain⟨h1,h2,env,L,V',M,h3,z,rfl,H⟩:=h;have he:env=[]:=FO (by simpa using h3.len);subst he;exact⟨Y,h1,h2,L,V',z,h3.le,h3.holds,YD h3,H⟩
 |ret=>exact(y .ret h).elim|panic c=>exact(y (.panic c) h).elim|outgrown=>exact(y .outgrown h).elim|exit id=>exact(y (.exit id) h).elim|goto t=>exact(y (.goto t) h).elim
theorem AD.IG{c:Code}(h:AD (JX P T fn nt V) ⟨[.code c,Tn I],L,[]⟩ V){t:Array Value}{w:World}(ht:t.size=nt)(hw:Holds V w)(H:Ng [] [] L t)(K:∀a w',AEg nt V w I a w'->Q .normal a w'):c.wpIn Fence.wide n P Q ⟨t,[]⟩ w:=by
 have:=h.to0 (k:=[.code c,Tn I]) Y (FR:=JZ w) (env:=[]) (t:=t) (by exact ht) (Si hw) H .none;have h2:c.wp P (post (JX P T fn nt V) (JZ w) .none [Tn I]) ⟨t,[]⟩ w:=this;exact Code.wpIn_mono (λe a w' hp=>by have y:=XB hp;obtain⟨rfl,z⟩:=y;exact K a w' z) (wpIn_wide.2 h2)
theorem ADj{args:Array Value}{w:World}{R:Value->World->Prop}(h:Rows P bm args w R):RowsIn Fence.wide n P bm args w R:=
 λc cs _=>let⟨v,w',r,s⟩:=h c cs;⟨v,w',r,stepsIn_wide.2 s⟩
theorem AMb{a:Act}{w:World}(h:o.wp P a w aM Q)(z:∀a w,aM a w->next' a w)(H:∀e a w,Q e a w->e=.normal):o.wpIn Fence.wide n P a w next' Q':=by
 refine⟨λ_ _=>Yt,?_⟩;have O:(o.semAt Fence.wide.round a.eval)=execOp a.eval o:=Oper.semAt_none _ _;rw[O];unfold Oper.wp at h
 revert h
 generalize(execOp a.eval o).run P w=r;intro h
 match r,h with
 |.ok (.value v) w',h=>exact z _ _ h|.ok .skip w',h=>exact z _ _ h|.ok (.defer d) w',h=>exact z _ _ h|.ok (.enter f args) w',h=>
  refine⟨λK=>by simp[Fence.wide]at K,callsIn_wide.2 (Calls.mono h λe N y=>?_)⟩
  match e,y with
  |.returned v,y=>exact z _ _ y|.panicked c,y=>exact absurd (H _ _ _ y) zp|.outgrown,y=>have⟨a0,w0,y⟩:=y;exact absurd (H _ _ _ y) zp
 |.ok (.row row args) w',h=>exact⟨λK=>by simp[Fence.wide]at K,(ADj h).mono λv N y=>z _ _ y⟩
 |.halt (.panic v) w',h=>exact absurd (H _ _ _ h) zp
theorem Mc{P:Program}{ops:Array Oper}{n:Nat}{Q Q':Exit->Act->World->Prop}{rest:List Oper}(y:∀e a w,Q e a w->e=.normal)(z:∀a w,Q .normal a w->wpListIn Fence.wide n P ops Q' rest a w):∀(pre:List Oper)(a:Act)(w:World),wpList P ops Q pre a w->wpListIn Fence.wide n P ops Q' (pre++rest) a w
 |[],a,w,h=>z a w h|o::pre,a,w,h=>by
  simp only[NK,wpListIn];simp only[wpList]at h;split at h
  ·rename_i hw;rw[if_pos hw];rcases h with h|⟨_,a0,w0,h⟩
   ·exact AMb h (λa w h=>Mc y z pre a w h) y
   ·grind
  ·rename_i hw;rw[if_neg hw];exact⟨λ_ _=>Yt,Mc y z pre _ w h⟩
theorem AD.head{pre:List Oper}{id:Nat}(h:AD (JX P T fn nt V) ⟨[.ops pre all [],Tn I],L,[]⟩ V){t:Array Value}{w:World}(ht:t.size=nt)(hw:Holds V w)(y:Ng [] [] L t)(z:all=pre++rest)(H:∀a w',AEg nt V w I a w'->wpListIn Fence.wide n P ⟨all⟩ Q rest a w'):(Code.region id ⟨all⟩ false).wpIn Fence.wide n P Q ⟨t,[]⟩ w:=by
 have:=h.to (JZ w) .none [] t w ht (Si hw) y (N3.nil [] _ t) Yt;have h2:wpList P ⟨all⟩ (post (JX P T fn nt V) (JZ w) .none [Tn I]) pre ⟨t,[]⟩ w:=this;refine wpIn_region_list ?_;show wpListIn Fence.wide n P ⟨all⟩ Q all ⟨t,[]⟩ w;have:=Mc (n:=n) (rest:=rest) (Q':=Q) (λe a w h=>(XB h).1) (λa w' h=>H a w' (XB h).2) pre _ _ h2;rwa[<- z]at this
theorem UM(args:List Value)(k:Nat):Ng [] [] (Tf 0 args) (⟨args⟩++Array.replicate k undef):=by
 intro s x y;obtain⟨v,rfl,_,h2⟩:=PC args 0 s x y;refine⟨?_,Yt⟩;have z:s<args.length:=(As.1 h2).1;rw[Om];simpa[z,den]using h2
theorem UR{w:World}(h:Holds V w)(z:Below w.heap.size w w'):Holds V w':=⟨λa x H=>by
 have h1:=h a x H;have y:a.block<w.heap.size:=by
  refine Nat.lt_of_not_le λK=>?_;have:w.heap[a.block]? =none:=by simp;omega
  simp[World.cell?,this]at h1
 rw[World.cell?_of_block (z.block _ y)];exact h1,h.t.same (z.block _ h.t.lt)⟩
structure RJ(V:AM)(w0:World)(J:List Int->World->Prop)(nt:Nat)(L:Fr)(pre:List Int)(a:Act)(w:World):Prop where
 df:a.defers=[]
 sz:a.tmps.size=nt
 lk:Ng [] [] L a.tmps
 hv:Holds V w
 bl:Below w0.heap.size w0 w
 j:J pre w
section
variable {P:Program} {T:List G6} {fn:Func} {V:AM} {w0:World} {J:List Int->World->Prop} {nt B n:Nat} {L:Fr} {pre:List Int} {a:Act} {w:World} {I:Fr->AM->Prop} {Q:Exit->Act->World->Prop}
theorem RJ.behind(h:RJ V w0 J nt L pre a w)(K:AbidesFrom B J)(N:AEg nt V w I a' w'):∃L' V',I L' V'/\DI V V'/\RJ V w0 J nt L' pre a' w':=by
 have⟨h1,h2,L',V',h3,y,z,H,O⟩:=N;exact⟨L',V',O,y,h1,h2,h3,⟨λa x W=>z a x (y a x W),z.t⟩,h.bl.trans (H.mono h.bl.size),K pre w w' none h.j (AFp H) (λ_ e=>by cases e)⟩
theorem RJ.IG(h:RJ V w0 J nt L pre a w)(y:AbidesFrom B J)(I:Fr->AM->Prop){c:Code}(z:AD (JX P T fn nt V) ⟨[.code c,Tn I],L,[]⟩ V)(H:∀L' V' a' w',I L' V'->DI V V'->RJ V w0 J nt L' pre a' w'->Q .normal a' w'):c.wpIn Fence.wide n P Q a w:=by
 have⟨t,d⟩:=a;have K:d=[]:=h.df;subst K;exact AD.IG z h.sz h.hv h.lk (λa' w' N=>by have⟨L',V',h1,h2,h3⟩:=h.behind y N;exact H L' V' a' w' h1 h2 h3)
theorem RJ.head(h:RJ V w0 J nt L pre a w)(y:AbidesFrom B J)(I:Fr->AM->Prop){ops:List Oper}{id:Nat}(z:AD (JX P T fn nt V) ⟨[.ops ops all [],Tn I],L,[]⟩ V)(H:all=ops++rest)(K:∀L' V' a' w',I L' V'->DI V V'->RJ V w0 J nt L' pre a' w'->wpListIn Fence.wide n P ⟨all⟩ Q rest a' w'):(Code.region id ⟨all⟩ false).wpIn Fence.wide n P Q a w:=by
 have⟨t,d⟩:=a;have N:d=[]:=h.df;subst N;exact AD.head z h.sz h.hv h.lk H (λa' w' O=>by have⟨L',V',h1,h2,h3⟩:=h.behind y O;exact K L' V' a' w' h1 h2 h3)
theorem RJ.ops(h:RJ V w0 J nt L pre a w)(y:AbidesFrom B J)(I:Fr->AM->Prop){ops:List Oper}(z:AD (JX P T fn nt V) ⟨[.ops ops all [],Tn I],L,[]⟩ V)(H:∀L' V' a' w',I L' V'->DI V V'->RJ V w0 J nt L' pre a' w'->Q .normal a' w'):wpListIn Fence.wide n P ⟨all⟩ Q ops a w:=by
 have⟨t,d⟩:=a;have K:d=[]:=h.df;subst K;have:=z.to (JZ w) .none [] t w h.sz (Si h.hv) h.lk (N3.nil [] _ t) Yt;have h2:wpList P ⟨all⟩ (post (JX P T fn nt V) (JZ w) .none [Tn I]) ops ⟨t,[]⟩ w:=this;have:=Mc (n:=n) (rest:=[]) (Q':=Q) (λe a w h=>(XB h).1) (λa w' hp=>by
  have⟨L',V',h1,h2,h3⟩:=h.behind y (XB hp).2;exact wpListIn_nil (H L' V' a w' h1 h2 h3)) ops _ _ h2
 rwa[Du]at this
theorem RJ.eval(h:RJ V w0 J nt L pre a w){s:Nat}(y:EF L s=some (.v x)):a.eval (.tmp s)=x:=by
 have h1:=(h.lk s (.v x) y).1;have h1:a.tmps[s]? =some x:=h1;simp[Act.eval,Fp,h1]
theorem RJ.yield(h:RJ V w0 J nt L pre a w){l:Nat}{x:Int}{d:Nat}{all:Array Oper}{ts:Array TypeId}(ho:o.op=.call ⟨.value (.tmp g),#[.tmp ar],ts⟩)(z:o.dst=some d)(hg:o.guard=none)(H:d<nt)(h1:EF L g=some (.v (.func (.yield l) #[] #[])))(h2:EF L ar=some (.v (.int .i64 x)))(hY:YieldAt Fence.wide 0 P l #[encZ x] w λe N=>e=.returned (.bool true)/\J (pre++[x]) N/\Below w0.heap.size w0 N)(O:Holds V w0)(hQ:∀a' w',RJ V w0 J nt ((d,.v (.bool true))::L) (pre++[x]) a' w'->wpListIn Fence.wide 0 P all Q rest a' w'):wpListIn Fence.wide 0 P all Q (o::rest) a w:=by
 have⟨f1,f2,f3,f4,hy,hR⟩:=hY;refine wpListIn_plain hg (λK hK=>?_);refine⟨λ_ _=>Yt,?_⟩;have hs:(o.semAt Fence.wide.round a.eval)=execOp a.eval o:=Oper.semAt_none _ _;rw[hs];have W:a.tmps[g]? =some (.func (.yield l) #[] #[]):=(h.lk g _ h1).1;have X:a.tmps[ar]? =some (.int .i64 x):=(h.lk ar _ h2).1;have y:(execOp a.eval o).run P w=.ok (.round l f1 f2 f3 f4) w:=by
  simp only[execOp,ho];simp[go_sem,W,X,resolve,invoke];exact hy
 rw[y,Oper.uponIn_round];refine⟨λhh=>by simp[Fence.wide]at hh,hR.mono ?_⟩;rintro e N ⟨rfl,hj,Z⟩;refine hK _ _ (hQ _ _ ⟨?_,?_,?_,UR O Z,Z,hj⟩)
 ·simp[Act.put,z,h.df]
 ·simp[Act.put,z,h.sz]
 ·have:=h.lk.put (x:=.v (.bool true)) (d:=d) (by rw[h.sz];exact H) Yt;simpa[Act.put,z,den]using this
end
end
def Tk{σ α:Type}(P:Program)(f:Nat)(N:List Value)(V:AM)(mk:α->Value)(rel:AM->σ->HH->HH->HH->Prop)(g:σ->α->AA σ):Prop:=
 ∀V',DI V V'->∀s r0 r1 r2 y K,rel V' s r0 r1 r2->g s y=some K->Q7 P f (mk y::N) [r0,r1,r2] V' (λz v H=>v=.tuple ⟨[]⟩/\∃q0 q1 q2,H=[q0,q1,q2]/\rel z K q0 q1 q2)
def Zq{σ α K:Type}(P:Program)(f:Nat)(W:List Value)(V:AM)(mk:α->Value)(mk':K->Value)(rel:AM->σ->HH->HH->HH->Prop)(g:σ->α->K->AA σ):Prop:=
 ∀V',DI V V'->∀s r0 r1 r2 y N O,rel V' s r0 r1 r2->g s y N=some O->Q7 P f (mk y::mk' N::W) [r0,r1,r2] V' (λz v H=>v=.tuple ⟨[]⟩/\∃q0 q1 q2,H=[q0,q1,q2]/\rel z O q0 q1 q2)
theorem Tk.mono{σ α:Type}{mk:α->Value}{rel:AM->σ->HH->HH->HH->Prop}{g:σ->α->AA σ}(h:Tk P f O V mk rel g)(hv:DI V V'):Tk P f O V' mk rel g:=
 λy h2=>h y (hv.trans h2)
theorem Zq.mono{σ α y:Type}{mk:α->Value}{mk':y->Value}{rel:AM->σ->HH->HH->HH->Prop}{g:σ->α->y->AA σ}(h:Zq P f O V mk mk' rel g)(hv:DI V V'):Zq P f O V' mk mk' rel g:=
 λz h2=>h z (hv.trans h2)
theorem Spec.pure(z:AEa P f)(h:∀w,Calls P f ⟨args⟩ w λe w'=>e=.returned x/\w'=w):Spec P f args V (λ_ v=>v=x):=
 ⟨z,λw hw=>(h w).mono λe w' ⟨h1,h2⟩=>by
  subst h1;subst h2;exact⟨x,V,Y,Go.RowKit.Below.refl _ _,DI.refl V,hw,λa y h=>.inl h,Y⟩⟩
def APk(M:List OB)(V1:AM):Prop:=∀(i:Nat)(a:AA Addr)(n c:Nat)(cs:List Value)(e sz:Nat),nth M i=some (.row (.slice a n c) cs e sz)->(cs≠[]->Bi V1 a 0 cs)/\n<=c
theorem ZC{d:Nat}(x:Value)(hh:CF C.nt all lr L o=some (G,d))(hc:Gc (Et L lr) G o.op=some (f,args))(z:∀V1,DI V V1->APk M V1->P3 lr G (Spec C.P f args V1 λ_ v=>v=x))(h:AD C ⟨.ops rest all (⟨d,G,.v x,d⟩::lr)::k,F9 G d (.v x) L,M⟩ V):AD C ⟨.ops (o::rest) all lr::k,L,M⟩ V:=by
 refine HY (x:=.v x) hh (λFR env t w h2 h3 h4 hG=>⟨Yt,λK Q hK=>?_⟩) h;have N:APk M (λa=>w.cell? a):=by
  intro i a n c cs e sz hi;rw[Cc]at hi;have H:EU w e sz (.slice a n c) cs:=h2.sat i _ hi;have⟨r1,r2,r3,r4⟩:=Fk H;refine⟨λae=>?_,r2⟩;rcases r3 with⟨rfl,rfl,rfl⟩|⟨g,rfl⟩
  ·grind
  ·refine⟨g,0,Y,λj v hv=>?_⟩;have:=Hf (off:=0) (l:=cs) H Y (λj v hv=>by simpa using hv) j v hv;simpa using this
 have⟨aa,O⟩:=(z (λa=>w.cell? a) (λa y X=>h2.holds a y X) N).out h4 hG;unfold Oper.wp;rw[KR (A2 h3 h4) hG hc aa w];refine(O w ⟨λa y X=>X,h2.holds.t⟩).mono λe w' ⟨v,V',p1,W,p3,p4,p5,p6⟩=>?_;subst p1;subst p6;refine hK w' ?_;have ab:∀b o,FR.Bp b=some o->b<w.heap.size:=λb o Z=>(An.1 (h2.frame b o Z)).1;refine⟨W.os.trans h2.os,W.tape.trans h2.tape,W.output.trans h2.output,λb o Z=>by rw[W.block b (ab b o Z)];exact h2.frame b o Z,h2.le,⟨λa y X=>p4 a y (p3 a y (h2.holds a y X)),p4.t⟩,h2.fresh,h2.len,?_,h2.DA,h2.C1,h2.apart,h2.tb⟩;intro i ob ad;have z:=h2.sat i ob ad;cases ob with
 |gone=>trivial|Bp cs ty=>exact⟨by rw[W.block _ (An.1 z.1).1];exact z.1,z.2⟩
 |row y cs e sz=>exact Nu z λg hg=>W.block _ (Dt (env:=env) (M:=M) (b:=0) (o:=.row y cs e sz) z (a:=⟨g,0,none⟩) hg)|ext E=>exact E.frame (λb hb=>W.block _ (E.lt z hb)) z
section
open Go.RowKit
def RB{α β:Type}[Inhabited α](P:Program)(f:Nat)(z:List Value)(V:AM)(c:Cd α)(res:β->Value)(g:α->AA β):Prop:=
 ∀V',DI V V'->∀y cs r,c.rep V' y cs->g y=some r->Spec P f ([.agg ⟨cs⟩]++z) V' (λ_ v=>v=res r)
theorem RB.at{α β:Type}[Inhabited α]{c:Cd α}{res:β->Value}{g:α->AA β}(h:RB P f O V c res g){y:α}{r:β}(z:c.rep V y cs)(H:g y=some r):Spec P f ([.agg ⟨cs⟩]++O) V (λ_ v=>v=res r):=
 h V (DI.refl V) y cs r z H
theorem AAq(w:World)(t ty e:TypeId)(i:TypeInfo)(z:Value)(size bytes:Nat)(ht:P.underlying t=some (.slice e))(hi:P.info? e=some i)(hz:i.zero=some z)(O:i.size=size)(ad:i.bytes=bytes)(ae:z.cells.size=size)(a0:AA Addr)(n Z:Nat)(xs:List Value)(W:xs.length=n*size)(X:(a0=none/\n=0/\Z=0)\/∃b,a0=some b/\∀j v,xs[j]? =some v->w.cell? (b.add j)=some v)(a:Addr)(m c:Nat)(news:List Value)(hl:news.length=m*size)(N:∀j u,news[j]? =some u->w.cell? (a.add j)=some u)(hm:0<m)(af:Z<n+m)(aa:n+m<=maxLen)(H:(n+m)*bytes<=140737488355328):∃cap w',(Builtin.append_ #[t,t] ty #[.slice a0 n Z,.slice (some a) m c]).run P w=.ok (.slice (some ⟨w.heap.size,0,none⟩) (n+m) cap) w'/\w'.ownsRow w.heap.size e size (.slice (some ⟨w.heap.size,0,none⟩) (n+m) cap) (n+m) (xs++news)/\w.grownBy w' none:=by
 subst O;subst ad;have ab:n+m<=9223372036854775807:=by simp only[maxLen]at aa;omega
 have hlen:(xs++news).length=(n+m)*i.size:=by grind
 have grown:∀(y:Nat),y<n+m->
  (w.drew.alloc (.cells (xs.toArray++news.toArray++Builtin.zeroCells z.cells (grownCap w (n+m) y e-(n+m))) e)).ownsRow w.heap.size e i.size
   (.slice (some ⟨w.heap.size,0,none⟩) (n+m) (grownCap w (n+m) y e)) (n+m) (xs++news)/\
  w.grownBy (w.drew.alloc (.cells (xs.toArray++news.toArray++Builtin.zeroCells z.cells (grownCap w (n+m) y e-(n+m))) e)) none:=by
  intro y ho;have ag:=grownCap_ge w (n+m) y e;have ah:grownCap w (n+m) y e<=maxLen:=grownCap_le_maxLen w (n+m) y e aa;refine⟨⟨hlen,.inr ⟨w.heap.size,_,_,Y,Nat.le_refl _,heap_alloc_new w.drew _,ag,ah,?_,?_⟩⟩,⟨Y,Y,Y,by simp,λk hk _=>Below.heap_alloc w.drew _ k hk⟩⟩
  ·simp only[R4,On,size_zeroCells,ae,W,hl,<- G1]
   congr 1
   omega
  ·grind
 rcases X with⟨rfl,rfl,rfl⟩|⟨b,rfl,holds⟩
 ·have hx:xs=[]:=FO (by simpa using W);subst hx;have hr:=run_append_nil (P:=P) w t ty e i z ht hi hz a m c news hl N ox ox (by have hb:=H;simp only[Bo]at hb;omega);have K:=grown 0 ox;simp only[Bo,KA,Array.empty_append]at K⊢;exact⟨_,_,hr,K.1,K.2⟩
 ·have hr:=run_append_grow (P:=P) w t ty e i z ht hi hz b n Z xs W holds a m c news hl N ox ox (growslice_fits ox H);have K:=grown Z ox;exact⟨_,_,hr,K.1,K.2⟩
section
variable {C:Ctx} (hT:K2 C.P C.T) {o:Oper} {rest all:List Oper} {lr:List B7} {k:List Kt} {L:Fr} {M:List OB} {V:AM} {d:Nat}
include hT
theorem AL8(i j:Nat){a a0:AA Addr}{M':AA Addr->Nat->List OB}(hh:CF C.nt all lr L o=some ([],d))(hc:Xj C.T o.op=some (af,aw,t,e,sz,y))(ha:ev (Et L lr) [] af=some (.v (.slice a0 n z)))(hb:ev (Et L lr) [] aw=some (.TY j 0 m c2))(hi:nth M i=some (.row (.slice a n c) cs e sz))(hj:nth M j=some (.Bp ak N))(hv:Oo ak=some O)(h1:Rv ak=true)(hl:O.length=m*sz)(ae:n+m=nm)(hs:∀a' c',It M i (.row (.slice a' nm c') (cs++O) e sz)=some (M' a' c'))(hk:L9 i k=true)(Z:nm*y<=140737488355328)(ag:a0=Em a n 0 sz)(ah:n=z)(hm:0<m)(h:∀a' c',AD C ⟨.ops rest all (⟨d,[],.v (.slice a' nm c'),d⟩::lr)::k,(d,.v (.slice a' nm c'))::L,M' a' c'⟩ V):AD C ⟨.ops (o::rest) all lr::k,L,M⟩ V:=by
 subst ae;subst ah;subst ag;refine X5 (σ:=AA Addr×Nat) i (λq=>.slice q.1 (n+m) q.2) (λq=>.row (.slice q.1 (n+m) q.2) (cs++O) e sz) (λq=>M' q.1 q.2) hh (λq=>by simp) (λq=>hs q.1 q.2) hk (λFR env t' w h2 h3 h4=>?_) (λq=>h q.1 q.2);have⟨ai,zs,aj⟩:=Xi hc;have⟨u1,u2,u3,_,ti,aa,i1,i2,i3,i4,i5,_⟩:=Es hT aj;have K:=hi;rw[Cc]at K;have H:EU w e sz (.slice a n c) cs:=h2.sat i _ K;have⟨r1,r2,r3,r4⟩:=Fk H;rw[Cc]at hj;have⟨ab,ao⟩:=h2.sat j _ hj;have hle:n+m<=maxLen:=by
  have:n+m<=(n+m)*y:=AAA _ u3;simp only[maxLen];omega
 have ad:ak.map (den env)=O:=Gl (env:=env) hv;rw[ad]at ab;have W:∀q u,O[q]? =some u->w.cell? ((⟨Bm env j,0,none⟩:Addr).add q)=some u:=λq u hu=>by
  rw[Addr.add_lit,Bo];simp[World.cell?,ab,hu]
 have X:(Em a n 0 sz=none/\n=0/\n=0)\/∃b,Em a n 0 sz=some b/\∀q u,cs[q]? =some u->w.cell? (b.add q)=some u:=by
  rcases r3 with⟨rfl,rfl,rfl⟩|⟨g,rfl⟩
  ·left;simp[Em]
  ·right;refine⟨⟨g,0,none⟩,by simp[Em,Addr.add_lit],λq u hu=>?_⟩;rw[Addr.add_lit,Bo];have:=Hf (off:=0) (l:=cs) H Y (λq v hv=>by simpa using hv) q u hu;simpa using this
 have⟨cap,w',q1,q2,q3⟩:=AAq (P:=C.P) w t o.type e ti aa sz y u1 i1 i2 i3 i4 i5 (Em a n 0 sz) n n cs r1 X ⟨Bm env j,0,none⟩ m c2 O hl W hm ox hle Z;refine⟨(some ⟨w.heap.size,0,none⟩,cap),w',?_,?_⟩
 ·refine h2.upd K zp q3.os q3.tape q3.output (λkk al hn=>q3.block kk al zp) ⟨n+m,q2.1,?_⟩ (λp hp=>?_)
  ·rcases q2.2 with h|⟨g,an,cur,p1,p2,p3⟩
   ·exact .inl h
   ·grind
  ·right;simp only[OB.own,Value.ownBlock,Bq,AE]at hp;omega
 ·unfold execOp;have e1:=BN (A2 h3 h4) (G:=[]) Yt ha;have e2:=BN (A2 h3 h4) (G:=[]) Yt hb;simp only[den]at e1 e2;simp only[ai,resolve,Ks,B8,Ge,e1,e2,Sem.run_bind,Sem.run_pure,Result.andThen_ok,invoke,builtin,q1]
theorem AJ9{x:Operand}{lo:AA Operand}{hi:Operand}{a:AA Addr}{p:AA Int}{m:Int}{ends n0 mask}(hh:Qm C.nt all lr i L=some (o,[],d))(X:W=N+1)(ab:o.op=.slice t x lo (some hi) (some af))(ht:KG C.T t=some (e,sz,y,zs))(hx:ev (Et L lr) [] x=some (.v (.slice a n z)))(hl:ACL (Et L lr) [] lo=some p)(ad:ev (Et L lr) [] hi=some (.v (.int aF Z)))(hm:ev (Et L lr) [] af=some (.v (.int aN m)))(hb:0<=O4 p/\O4 p<=Z/\Z<=m/\m<=z){q0:Nat}(e0:m.toNat=q0)(e1:(O4 p).toNat=l')(e2:Z.toNat-l'=n')(e3:m.toNat-l'=c')(h:AD C ⟨.draw ⟨all,Ha listed i,N,ends,n0,mask,V1,aG,⟨d,[],.v (.slice (Em a q0 l' sz) n' c'),d⟩::lr⟩::k,(d,.v (.slice (Em a q0 l' sz) n' c'))::L,M⟩ V):AD C ⟨.draw ⟨all,listed,W,ends,n0,mask,V1,(i,true)::aG,lr⟩::k,L,M⟩ V:=by
 subst e0;subst e1;subst e2;subst e3;refine Ie (G:=[]) (x:=.v (.slice (Em a m.toNat (O4 p).toNat sz) (Z.toNat-(O4 p).toNat) (m.toNat-(O4 p).toNat))) hh X (λ_ _ w h3 O _ _ hG=>⟨Yt,?_⟩) h;have⟨u1,u2,u3,u4,ti,aa,i1,i2,i3,i4,i5,i6⟩:=Es hT ht;have g0:=BN (A2 h3 O) (G:=[]) Yt hx;have g3:=BN (A2 h3 O) (G:=[]) Yt ad;have g4:=BN (A2 h3 O) (G:=[]) Yt hm;have⟨v1,g1,g2⟩:=TA (A2 h3 O) (G:=[]) Yt hl;simp only[den]at g0 g3 g4;have H:(sizeOf e).run C.P w=.ok sz w:=by simp[sizeOf,typeInfo,i1,i3]
 have ae:C.P.elem t=e:=by simp[Program.elem,u1]
 have K:C.P.underlying t=some (.slice (C.P.elem t)):=by grind
 rw[<- ae]at H;unfold execOp;simp only[ab,g0,den,g1,Bq,g3,g4,Sem.run_bind];rw[run_sliceAt_slice (h:=K)];have⟨b1,b2,b3,b4⟩:=hb;rcases g2 with⟨rfl,rfl⟩|⟨ii,kk,rfl,rfl⟩<;>simp only[O4]at b1 b2 b3 b4⊢
 ·rw[run_slice_hm (ht:=K) (h0:=by omega) (h2:=b3) (h3:=b4)];simp[H,sliced,Em]
 ·rw[run_slice_lhm (ht:=K) (h0:=b1) (h1:=b2) (h2:=b3) (h3:=b4)];simp[H,sliced,Em]
end
end
variable {aZ:Oper}
def cpL{α:Type}(y x:List α):List α:=y.take x.length++x.drop y.length
@[simp] theorem APu {α:Type} (y x:List α):(cpL y x).length=x.length:=by simp only[cpL,AT,Ao,Bj];omega
section
variable {C:Ctx} (hT:K2 C.P C.T) {o:Oper} {rest all:List Oper} {lr:List B7} {k:List Kt} {L:Fr} {M:List OB} {V:AM} {d:Nat}
include hT
theorem AAZ{α:Type}[Inhabited α]{cd:Cd α}(i:Nat){p:Addr}{a2:AA Addr}{x aa:List α}{M':List Value->List OB}(hh:CF C.nt all lr L o=some ([],d))(hc:ANA C.T o.op=some (af,aw,t,y,e,sz))(ha:ev (Et L lr) [] af=some (.v (.slice (some p) n c)))(hb:ev (Et L lr) [] aw=some (.v (.slice a2 m z)))(hi:nth M i=some (.row (.slice (some p) n c) cs e sz))(W:sz=cd.sz)(hx:AF cd V x cs)(hn:n=x.length)(hy:AK cd V a2 z aa)(hm:m=aa.length)(hs:∀H,It M i (.row (.slice (some p) n c) H e sz)=some (M' H))(hk:L9 i k=true)(h:∀H,AF cd V (cpL aa x) H->AD C ⟨.ops rest all (⟨d,[],.v (.int .i64 ((min m n:Nat):Int)),d⟩::lr)::k,(d,.v (.int .i64 ((min m n:Nat):Int)))::L,M' H⟩ V):AD C ⟨.ops (o::rest) all lr::k,L,M⟩ V:=by
 subst hn;subst hm;subst W;have⟨X,K,Z⟩:=hy.AKg;refine MZ i hi (λr1 r2 r3 r4 r5=>?_);obtain⟨g,rfl⟩:=r5 p Y;have N:=K.len;have hq:min aa.length x.length<=aa.length:=Nat.min_le_left _ _;have ab:min aa.length x.length<=x.length:=Nat.min_le_right _ _;have hlen:(X.take (min aa.length x.length*cd.sz)).length=min aa.length x.length*cd.sz:=by
  rw[Ao,N];exact Cq (Cm _ hq)
 have O:Src M V a2 (X.take (min aa.length x.length*cd.sz)):=by
  by_cases h0:aa=[]
  ·have:X.take (min aa.length x.length*cd.sz)=[]:=by
    apply FO;rw[hlen,h0];simp
   rw[this];exact .nil _
  ·refine .open_ ?_;have⟨b,o',e1,e2⟩:=Z h0;exact⟨b,o',e1,λj v hv=>e2 j v (by
    rw[Cs]at hv;split at hv
    ·exact hv
    ·simp at hv)⟩
 refine Ms hT i hh hc ha Y hb hi O Y hlen ?_ (λu hu=>K.AA2 u (JM hu)) Y (hs _) hk (h _ ?_)
 ·rw[hlen,r1,Bo];exact Cm _ ab
 ·rw[hlen,Bo,List.take_zero,KA];have e1:aa.take x.length=aa.take (min aa.length x.length):=by
   rcases Nat.le_total aa.length x.length with h|h
   ·rw[Cq h,KY h,KY (Nat.le_refl _)]
   ·rw[Kq h]
  have e2:x.drop aa.length=x.drop (min aa.length x.length):=by
   rcases Nat.le_total aa.length x.length with h|h
   ·rw[Cq h]
   ·rw[Kq h,ABn h,ABn (Nat.le_refl _)]
  rw[cpL,e1,e2];exact(K.take _).app (hx.drop _)
end
def ANt:Fr->Nat->SV->AA Fr
 |[],_,_=>none|(s,y)::l,d,v=>match Nat.beq s d with
  |true=>some ((s,v)::l)|false=>match ANt l d v with
   |some r=>some ((s,y)::r)|none=>none
def ANu:List B7->Nat->SV->AA (List B7)
 |[],_,_=>none|⟨s,c,y,q⟩::l,d,v=>match Nat.beq s d with
  |true=>some (⟨s,c,v,q⟩::l)|false=>match ANu l d v with
   |some r=>some (⟨s,c,y,q⟩::r)|none=>none
theorem AJ8{e x:Bool}(y:e=x)(d:Nat)(h1:ANt L d (.v (.bool x))=some L')(h2:ANt L d (.v (.bool e))=some L)(h3:ANu lr d (.v (.bool x))=some lr')(z:ANu lr d (.v (.bool e))=some lr)(h:AD C ⟨.ops rest all lr'::k,L',M⟩ V):AD C ⟨.ops rest all lr::k,L,M⟩ V:=by
 subst y;rw[h2]at h1;rw[z]at h3;cases h1;cases h3;exact h
def X1(p:List Nat):List B7->List B7->Prop
 |[],_=>True|e::l',l=>(∃y,Qf p e.x=some y/\H7 l e.s=some ⟨e.s,e.c,y,e.r⟩)/\X1 p l' l
theorem X1.look{p:List Nat}{l:List B7}:∀{l':List B7},X1 p l' l->∀s e,H7 l' s=some e->e.s=s/\∃y,Qf p e.x=some y/\H7 l s=some ⟨s,e.c,y,e.r⟩
 |[],_,s,e,h=>by simp[H7]at h
 |a::l',z,s,e,h=>by
  rw[O3]at h;split at h
  ·rename_i H;simp only[AE]at h;subst h;subst H;have⟨⟨y,h3,K⟩,_⟩:=z;exact⟨Y,y,h3,K⟩
  ·exact X1.look z.2 s e h
theorem VK(p:List Nat){q:List (Nat×Bool)}(hq:Hg all ends n listed q=true)(hM:Dh M p=some M')(hd:FU p=true)(hid:idN 0 n0 p=true)(aa:GM M'=true)(hs:Y5 p L' L)(he:X1 p lr' lr)(h:AD C ⟨.draw ⟨all,listed,n,ends,n0,mask,V1,q,lr'⟩::k,L',M'⟩ V):AD C ⟨.draw ⟨all,listed,n,ends,n0,mask,V1,[],lr⟩::k,L,M⟩ V:=by
 refine AD.of λFR DF env t w h1 h2 h3 h4 W=>?_;have h4:N3 env M lr t:=h4;have W:Pp DF ⟨all,listed,n,ends,n0,mask,V1,[],lr⟩ env V M:=W;have⟨hlen,z⟩:=IV hM;have⟨ab,Z⟩:=Yk hid;have H:∀(j i:Nat),p[j]? =some i->Bm (p.map (Bm env)) j=Bm env i:=λj i X=>by simp[Bm,X]
 have hW:FC C.V0 FR (p.map (Bm env)) V M' w:=by
  refine⟨h2.os,h2.tape,h2.output,h2.frame,h2.le,h2.holds,h2.fresh,by simp[hlen],?_,?_,?_,?_,h2.tb⟩
  ·intro j o ho;have⟨i,K,N⟩:=z j o ho;have:=h2.sat i o N;rw[H j i K];rcases Ky aa ho with⟨x,cs,e,sz,rfl⟩|⟨cs,ty,rfl,hv⟩|⟨E,rfl⟩
   ·exact this
   rotate_left
   ·exact this
   ·refine⟨?_,Xk hv⟩;rw[this.1]
    congr 3
    refine Cu λy hy=>?_;cases y with
    |v _=>rfl|_=>exact absurd (Ub hv _ hy) zp
  ·intro j o a ho ha;have⟨i,K,N⟩:=z j o ho;rw[H j i K]at ha;exact h2.DA i o a N ha
  ·intro j o a ho ha;have⟨i,K,N⟩:=z j o ho;rw[H j i K]at ha;exact h2.C1 i o a N ha
  ·intro j j' o q a ah ho hq ha ad;have⟨i,K,N⟩:=z j o ho;have⟨i',g3,g4⟩:=z j' q hq;rw[H j i K]at ha;rw[H j' i' g3]at ad;exact h2.apart i i' o q a (λe=>ah (No hd K (e▸g3))) N g4 ha ad
 have ae:∀(j i:Nat),p[j]? =some i->C6 M i->C6 M' j:=by
  intro j i X ⟨o,K,N⟩;have O:j<M'.length:=by rw[hlen];exact(As.1 X).1
  have⟨i',g3,g4⟩:=z j M'[j] (by simp[O]);rw[X]at g3;simp only[AE]at g3;subst g3;rw[K]at g4;simp only[AE]at g4;exact⟨o,by rw[g4];simp[O],N⟩
 have af:M'.take n0=M.take n0:=by
  apply G2;intro j;rw[Cs,Cs];split
  ·rename_i X;have hp:=Z j X;rw[Bo]at hp;have O:j<M'.length:=by rw[hlen];omega
   have⟨i,K,N⟩:=z j M'[j] (by simp[O]);rw[hp]at K;simp only[AE]at K;subst K;rw[N];simp[O]
  ·rfl
 have aj:n0<=M.length:=W.AFO;have ag:n0<=M'.length:=by rw[hlen];exact ab
 have ai:Sd mask 0 n0 M'=Sd mask 0 n0 M:=by
  have e1:M'=M'.take n0++M'.drop n0:=(Dq _ _).symm;have e2:M=M.take n0++M.drop n0:=(Dq _ _).symm;rw[e1,e2,U6 _ _ _ _ _ (by simp;omega),U6 _ _ _ _ _ (by simp;omega),af]
 have hD:Pp DF ⟨all,listed,n,ends,n0,mask,V1,q,lr'⟩ (p.map (Bm env)) V M':=by
  have⟨r,hr⟩:=W.pre;have hl:DF.env.length=n0:=W.len;refine⟨⟨(p.map (Bm env)).drop n0,?_⟩,W.len,ag,W.v,W.vle,W.ok,λhn=>?_,hq⟩
  ·have:DF.env=(p.map (Bm env)).take n0:=by
    apply G2;intro j;rw[Cs];split
    ·rename_i X;have hp:=Z j X;rw[Bo]at hp;rw[EX,hp,Bq,Bm,hr,DL,if_pos ox];rw[List.getElem?_eq_getElem ox];rfl
    ·rename_i X;rw[G8 ox]
   rw[this];exact(Dq _ _).symm
  ·show DF.M=Sd mask 0 n0 M';rw[ai];exact W.mem hn
 refine h.to FR DF (p.map (Bm env)) t w h1 hW (λs x hx=>?_) (λs e hx=>?_) hD
 ·have⟨y,K,N⟩:=hs.look s x hx;have⟨k1,k2⟩:=h3 s y N;have⟨q1,q2⟩:=AAJ (M:=M) (M':=M') H ae K;exact⟨by rw[k1,q1],q2 k2⟩
 ·have hx:H7 lr' s=some e:=hx;have⟨g0,y,g3,g4⟩:=he.look s e hx;have⟨k1,kk,k5⟩:=h4 s _ g4;have⟨q1,q2⟩:=AAJ (M:=M) (M':=M') H ae g3;refine⟨λhc=>?_,λhc=>kk hc,k5⟩;have⟨k2,k3⟩:=k1 hc;simp only at k2 k3;exact⟨by rw[k2,q1],q2 k3⟩
theorem AJ7{l:Nat}(p q r:List (Nat×Bool))(N:n'=n+1)(K:rdy listed 0 all=[i,j,l])(hi:nth all i=some oi)(O:nth all j=some aE)(hl:nth all l=some aZ)(W:RQ all listed=true)(hp:Hg all ends n (Ha listed i) p=true)(X:Hg all ends n (Ha listed j) q=true)(H:Hg all ends n (Ha listed l) r=true)(h1:AD C ⟨.ops [oi] all lr:: .draw ⟨all,Ha listed i,n,ends,n0,mask,V1,p,lr⟩::k,L,M⟩ V)(h2:AD C ⟨.ops [aE] all lr:: .draw ⟨all,Ha listed j,n,ends,n0,mask,V1,q,lr⟩::k,L,M⟩ V)(h3:AD C ⟨.ops [aZ] all lr:: .draw ⟨all,Ha listed l,n,ends,n0,mask,V1,r,lr⟩::k,L,M⟩ V):AD C ⟨.draw ⟨all,listed,n',ends,n0,mask,V1,[],lr⟩::k,L,M⟩ V:=by
 subst N;refine AD.pick (D:=⟨all,listed,n+1,ends,n0,mask,V1,[],lr⟩) W Y (by simp only;rw[K];simp) λx z o y=>?_;simp only at z y⊢;rw[K]at z;simp only[Aj,BY,D3]at z;rcases z with rfl|rfl|rfl
 ·rw[hi]at y;simp only[AE]at y;subst y;exact⟨p,hp,h1⟩
 ·rw[O]at y;simp only[AE]at y;subst y;exact⟨q,X,h2⟩
 ·rw[hl]at y;simp only[AE]at y;subst y;exact⟨r,H,h3⟩
theorem AKB(i j l:Nat)(pA pB pC q:List (Nat×Bool))(I:List B7->Fr->AM->List OB->Prop)(m:Nat)(K:List Bool)(hn:n'=n+1)(hr:rdy listed 0 all=[i,j,l])(hi:nth all i=some oi)(hj:nth all j=some aE)(hl:nth all l=some aZ)(hs:RQ all listed=true)(h1:Hg all ends n (Ha listed i) pA=true)(h2:Hg all ends n (Ha listed j) pB=true)(h3:Hg all ends n (Ha listed l) pC=true)(hq:Hg all ends m K q=true)(hA:(∀(p:List Nat){y lr':List B7}{z L':Fr}{H M':List OB}{V':AM},Dh H p=some M'->FU p=true->idN 0 n0 p=true->GM M'=true->Y5 p L' z->X1 p lr' y->I lr' L' V' M'->AD C ⟨.draw ⟨all,K,m,ends,n0,mask,V1,[],y⟩::k,z,H⟩ V')->AD C ⟨.ops [oi] all lr:: .draw ⟨all,Ha listed i,n,ends,n0,mask,V1,pA,lr⟩::k,L,M⟩ V)(hB:(∀(p:List Nat){y lr':List B7}{z L':Fr}{H M':List OB}{V':AM},Dh H p=some M'->FU p=true->idN 0 n0 p=true->GM M'=true->Y5 p L' z->X1 p lr' y->I lr' L' V' M'->AD C ⟨.draw ⟨all,K,m,ends,n0,mask,V1,[],y⟩::k,z,H⟩ V')->AD C ⟨.ops [aE] all lr:: .draw ⟨all,Ha listed j,n,ends,n0,mask,V1,pB,lr⟩::k,L,M⟩ V)(hC:(∀(p:List Nat){y lr':List B7}{z L':Fr}{H M':List OB}{V':AM},Dh H p=some M'->FU p=true->idN 0 n0 p=true->GM M'=true->Y5 p L' z->X1 p lr' y->I lr' L' V' M'->AD C ⟨.draw ⟨all,K,m,ends,n0,mask,V1,[],y⟩::k,z,H⟩ V')->AD C ⟨.ops [aZ] all lr:: .draw ⟨all,Ha listed l,n,ends,n0,mask,V1,pC,lr⟩::k,L,M⟩ V)(h:∀lr' L' V' M',I lr' L' V' M'->AD C ⟨.draw ⟨all,K,m,ends,n0,mask,V1,q,lr'⟩::k,L',M'⟩ V'):AD C ⟨.draw ⟨all,listed,n',ends,n0,mask,V1,[],lr⟩::k,L,M⟩ V:=
 AJ7 (i:=i) (j:=j) (l:=l) pA pB pC hn hr hi hj hl hs h1 h2 h3
  (hA λp _ _ _ _ _ _ _ N O W X Z g6 g7=>VK p hq N O W X Z g6 (h _ _ _ _ g7))
  (hB λp _ _ _ _ _ _ _ N O W X Z g6 g7=>VK p hq N O W X Z g6 (h _ _ _ _ g7))
  (hC λp _ _ _ _ _ _ _ N O W X Z g6 g7=>VK p hq N O W X Z g6 (h _ _ _ _ g7))
section
variable {C:Ctx} (hT:K2 C.P C.T) {o:Oper} {rest all:List Oper} {lr:List B7} {k:List Kt} {L:Fr} {M:List OB} {V:AM} {d:Nat}
include hT
theorem AD.O5(i:Nat){l:List Value}(z:CF C.nt all lr L o=some (G,d))(H:WS C.T (Et L lr) G o.op=some (some ⟨g,q,none⟩,off,aa))(hi:nth M i=some (.row (.slice (some ⟨g,0,none⟩) n c) cs e sz))(hl:BE cs (q+off) l)(y:l.length=aa.size)(N:KQ aa.RI.agg l=x)(h:AD C ⟨.ops rest all (⟨d,G,.v x,d⟩::lr)::k,F9 G d (.v x) L,M⟩ V):AD C ⟨.ops (o::rest) all lr::k,L,M⟩ V:=by
 refine HY (x:=.v x) z (λFR env t w h2 h3 O hG=>⟨Yt,λK Q W=>?_⟩) h;rw[Cc]at hi;have:=Hf (h2.sat i _ hi) Y hl;exact FT (U9 hT (A2 h3 O) hG H Y (λj v hv=>by have:=this j v hv;simpa[Km]using this) y N) (W w h2)
theorem AD.Jw(r:Nat){ends n0 mask}{p:List (Nat×Bool)}{l:List Value}(z:Qm C.nt all lr i L=some (o,G,d))(hm:m'=m+1)(H:WS C.T (Et L lr) G o.op=some (some ⟨g,q,none⟩,off,aa))(hi:nth (Sd mask 0 n0 M) r=some (.row (.slice (some ⟨g,0,none⟩) n c) cs e sz))(hl:BE cs (q+off) l)(y:l.length=aa.size)(K:KQ aa.RI.agg l=x)(h:AD C ⟨.draw ⟨all,Ha listed i,m,ends,n0,mask,V1,p,⟨d,G,.v x,d⟩::lr⟩::k,F9 G d (.v x) L,M⟩ V):AD C ⟨.draw ⟨all,listed,m',ends,n0,mask,V1,(i,true)::p,lr⟩::k,L,M⟩ V:=
 Ie (x:=.v x) z hm (λ_ _ w h3 N W O hG=>⟨Yt,by
  rw[Cc]at hi;have:=Hf (O.2 r _ _ _ _ hi) Y hl;exact U9 hT (A2 h3 N) hG H Y (λj v hv=>by have:=this j v hv;simpa[Km]using this) y K⟩) h
theorem AD.P6(i:Nat){vs:List SV}(hg:IH all lr o.guard=some [])(hd:o.dst=none)(hc:AI5 C.T (Et L lr) o.op=some (some ⟨g,q,none⟩,off,vs,y))(hv:Oo vs=some nv)(hi:nth M i=some (.row (.slice (some ⟨g,0,none⟩) n c) cs e sz))(Z:q+off+y<=cs.length)(X:cs.take (q+off)++nv++cs.drop (q+off+y)=O)(hs:It M i (.row (.slice (some ⟨g,0,none⟩) n c) O e sz)=some M')(hk:L9 i k=true)(h:AD C ⟨.ops rest all lr::k,L,M'⟩ V):AD C ⟨.ops (o::rest) all lr::k,L,M⟩ V:=by
 obtain⟨H,ab⟩:∃z,z=q+off:=⟨_,Y⟩;obtain⟨_,rfl⟩:=Dg hs;rw[Cc]at hi;refine AD.of λFR DF env t' w g1 h2 h3 h4 h5=>?_;have⟨q1,q2,ty,x,aa,dd,ah,ai,aj,hx,hy,ad⟩:=AAo (C:=C) (A2 h3 h4) hc Y;have ae:=h2.sat i _ hi;have⟨r1,r2,r3,r4⟩:=Fk ae;rw[<- ab]at Z X;rcases r4.2 with⟨N,_⟩|⟨b,cap,cur,N,k1,k2,k3,k4,k5,k6⟩
 ·simp at N
 simp only[Value.slice.injEq,AE,Addr.mk.injEq,true_and,CO]at N;obtain⟨rfl,rfl⟩:=N;have K:nv.length=y:=by
  have:=B2 List.length (Gl (env:=env) hv);simp at this;omega
 have ak:cs.length<=cur.size:=by rw[r1,k5];exact Cm _ k3
 have af:=run_storeCells_at (P:=C.P) g H e nv 0 cur w k2 ox (by rw[<- Gl (env:=env) hv];exact OK ad);simp only[JH]at af;have hw:=Ch h4 hg;show wpList C.P ⟨all⟩ (post C FR DF k) (o::rest) ⟨t',[]⟩ w;refine Cn ?_;rw[if_pos (hw.2 Yt)];refine T4 (w':=w.setRow g (cur.toList.take H++nv++cur.toList.drop (H+nv.length)).toArray) ?_ ?_
 ·unfold execOp;have W:((⟨t',[]⟩:Act).eval aa).cells=⟨nv⟩:=by rw[hy,Gl (env:=env) hv]
  simp only[ah,hx,<- ab,Instr.storeAt,Instr.sureAddr,storeVar,Sem.run_bind,Sem.run_pure,Result.andThen_ok,Lf hT w ai ox,W,Bo];rw[if_neg (by simp[K,aj])];simp only[Result.andThen_ok,af]
 ·simp only[Act.put,hd];have ag:EU (w.setRow g (cur.toList.take H++nv++cur.toList.drop (H+nv.length)).toArray) e sz (.slice (some ⟨g,0,none⟩) n c) O:=by
   refine⟨n,?_,.inr ⟨g,c,_,Y,By _,setRow_heap w g cur _ e _ k2,k3,k4,?_,?_⟩⟩
   ·rw[<- X,<- r1];simp only[AT,Ao,Bj,K];omega
   ·simp only[On,AT,Ao,Bj,P5,K];omega
   ·rw[<- X,<- k6,<- r1];simp only[K];rw[Pj,Pj,NH,NH];simp only[AT,Ao,P5,K];rw[Cq (by omega:H<=cs.length),Kq (by omega:H<=cs.length),List.drop_take,KY (by omega:nv.length<=_)]
    congr 2
    rw[Cq ox]
  have hW:=h2.upd (w':=w.setRow g (cur.toList.take H++nv++cur.toList.drop (H+nv.length)).toArray) (o':=.row (.slice (some ⟨g,0,none⟩) n c) O e sz) hi zp Y Y Y
   (λkk hk hn=>setRow_other w g kk _ (λhe=>hn (by simp[OB.own,Value.ownBlock,he]))) ag (λp hp=>.inl hp)
  exact h.to FR DF env t' _ g1 hW (h3.set zp) (h4.set zp) (My.write hk h5.same)
end
section
open Go.RowKit
section
variable {C:Ctx} {o:Oper} {rest all:List Oper} {lr:List B7} {k:List Kt} {L:Fr} {M:List OB} {V:AM} {d:Nat}
end
section
variable {C:Ctx} (hT:K2 C.P C.T) {o:Oper} {rest all:List Oper} {lr:List B7} {k:List Kt} {L:Fr} {M:List OB} {V:AM} {d:Nat}
include hT
end
def Xc(y:Je):List (Nat×Operand)->AA (List (Nat×Value))
 |[]=>some []|(i,x)::l=>match ev y [] x with
  |some (.v a)=>match Xc y l with
   |some r=>some ((i,a)::r)|none=>none
  |_=>none
theorem Vm{env:List Nat}{M:List OB}{t:Array Value}{y:Je}(z:NU env M t y):∀{xs:List (Nat×Operand)}{vs:List (Nat×Value)},Xc y xs=some vs->xs.map (λp=>(p.1,(⟨t,[]⟩:Act).eval p.2))=vs
 |[],vs,h=>by simp only[Xc,AE]at h;subst h;rfl
 |(i,x)::xs,vs,h=>by
  unfold Xc at h;split at h<;>try (simp at h;done)
  rename_i a K;split at h<;>try (simp at h;done)
  rename_i r N;simp only[AE]at h;subst h;have H:=BN z (G:=[]) Yt K;simp only[den]at H;simp only[B8,H,Vm z N]
section
variable {C:Ctx} {o:Oper} {rest all:List Oper} {lr:List B7} {k:List Kt} {L:Fr} {M:List OB} {V:AM} {d:Nat}
theorem AL7{t:TypeId}{xs:List (Nat×Operand)}{vs:List (Nat×Value)}{r:Value}(y:CF C.nt all lr L o=some ([],d))(z:o.op=.build t ⟨xs⟩)(hv:Xc (Et L lr) xs=some vs)(H:∀w,(Instr.build t ⟨vs⟩).run C.P w=.ok r w)(h:AD C ⟨.ops rest all (⟨d,[],.v r,d⟩::lr)::k,(d,.v r)::L,M⟩ V):AD C ⟨.ops (o::rest) all lr::k,L,M⟩ V:=by
 refine G9 (G:=[]) (x:=.v r) y (λenv t0 w h3 K _ _=>⟨Yt,?_⟩) h;have N:=Vm (A2 h3 K) hv;unfold execOp;simp only[z,Ks,N,Sem.run_bind,H,Result.andThen_ok,Sem.run_pure,den]
end
end
variable {kd:IntKind}
section
open Go.Sort Go.RowKit
end
def AIe(T:List G6)(t:Nat):AA (Nat×Nat):=
 match nth T t with
 |some d=>match d.size,d.RI with
  |s+1,.arr n e=>match nth T e with
   |some y=>match Nat.beq y.size 1,Nat.beq (s+1) n with
    |true,true=>some (n,e)|_,_=>none
   |none=>none
  |_,_=>none
 |none=>none
theorem Zj(hT:K2 P T)(h:AIe T t=some (n,e)):P.underlying t=some (.array n e)/\0<n/\(∀w,(sizeOf t).run P w=.ok n w)/\(∀w,(sizeOf e).run P w=.ok 1 w)/\(∀w,(isAgg t).run P w=.ok true w)/\∃d,nth T t=some d/\d.size=n/\d.RI=.arr n e:=by
 unfold AIe at h;split at h<;>try (simp at h;done)
 rename_i d y;split at h<;>try (simp at h;done)
 rename_i s n' K H hu;split at h<;>try (simp at h;done)
 rename_i N z;split at h<;>try (simp at h;done)
 rename_i h1 h2;simp only[AE,BJ]at h;obtain⟨rfl,rfl⟩:=h;have h1:=F6 h1;have h2:=F6 h2;refine⟨ANY hT y ox hu,by omega,λw=>?_,λw=>?_,λw=>?_,d,y,by omega,hu⟩
 ·rw[Lf hT w y ox,H];exact B2 (λq=>Result.ok q w) h2
 ·rw[Lf hT w z ox,h1]
 ·rw[AAj hT w y ox,hu];rfl
section
variable {C:Ctx} (hT:K2 C.P C.T) {o:Oper} {rest all:List Oper} {lr:List B7} {k:List Kt} {L:Fr} {M:List OB} {V:AM} {d:Nat}
include hT
theorem X6(i:Nat){l:List Int}(K:CF C.nt all lr L o=some (G,d))(N:WS C.T (Et L lr) G o.op=some (some ⟨g,0,none⟩,0,aa))(hi:nth M i=some (.row (.slice (some ⟨g,0,none⟩) n c) cs e 1))(O:AF (CD kd) V l cs)(z:aa.size=n)(H:aa.RI.agg=true)(h:l.length=n->AD C ⟨.ops rest all (⟨d,G,.v (.agg ⟨l.map (.int kd)⟩),d⟩::lr)::k,F9 G d (.v (.agg ⟨l.map (.int kd)⟩)) L,M⟩ V):AD C ⟨.ops (o::rest) all lr::k,L,M⟩ V:=by
 have y:=O.ints;refine CX i hi (λra _ _=>?_);have hl:l.length=n:=by rw[y]at ra;simpa using ra
 refine AD.O5 hT i (l:=cs) (x:=.agg ⟨l.map (.int kd)⟩) K N hi (λj v W=>by simpa using W) (by rw[ra,z,AEY]) (by rw[H,y];rfl) (h hl)
theorem QS(i:Nat){x:Operand}{q:Nat×Nat}(hg:IH all lr o.guard=some [])(hd:o.dst=none)(ho:o.op=.store t x af)(ht:AIe C.T t=some q)(hx:ev (Et L lr) [] x=some (.v (.pointer (some ⟨g,0,none⟩))))(hy:ev (Et L lr) [] af=some (.v (.agg ⟨nv⟩)))(hi:nth M i=some (.row (.slice (some ⟨g,0,none⟩) n c) cs e 1))(Z:n=q.1)(H:nv.length=n)(K:∀u∈nv,u.oneCell'=true)(hs:It M i (.row (.slice (some ⟨g,0,none⟩) n c) nv e 1)=some M')(hk:L9 i k=true)(h:AD C ⟨.ops rest all lr::k,L,M'⟩ V):AD C ⟨.ops (o::rest) all lr::k,L,M⟩ V:=by
 obtain⟨_,rfl⟩:=Dg hs;rw[Cc]at hi;have⟨u1,u2,u3,_⟩:=Zj hT (n:=q.1) (e:=q.2) ht;refine AD.of λFR DF env t' w g1 h2 h3 X h5=>?_;have N:EU w e 1 (.slice (some ⟨g,0,none⟩) n c) cs:=h2.sat i _ hi;have⟨cur,k2,k3,k4,k5,r1,k6⟩:=Ju N;have e1:=BN (A2 h3 X) (G:=[]) Yt hx;have e2:=BN (A2 h3 X) (G:=[]) Yt hy;simp only[den]at e1 e2;have aa:nv.length<=cur.size:=by rw[k5,H];omega
 have O:=run_storeCells_at (P:=C.P) g 0 e nv 0 cur w k2 ox K;simp only[JH]at O;have hw:=Ch X hg;show wpList C.P ⟨all⟩ (post C FR DF k) (o::rest) ⟨t',[]⟩ w;refine Cn ?_;rw[if_pos (hw.2 Yt)];refine T4 (w':=w.setRow g (cur.toList.take 0++nv++cur.toList.drop (0+nv.length)).toArray) ?_ ?_
 ·unfold execOp;have z:(Value.agg ⟨nv⟩).cells=⟨nv⟩:=Y;simp only[ho,e1,e2,Instr.storeAt,Instr.sureAddr,storeVar,Sem.run_bind,Sem.run_pure,Result.andThen_ok,u3,z,Bo];rw[if_neg (by simp[H,Z])];simp only[Result.andThen_ok,O,Bo]
 ·simp only[Act.put,hd];have W:EU (w.setRow g (cur.toList.take 0++nv++cur.toList.drop (0+nv.length)).toArray) e 1 (.slice (some ⟨g,0,none⟩) n c) nv:=by
   refine⟨n,by omega,.inr ⟨g,c,_,Y,By _,setRow_heap w g cur _ e _ k2,k3,k4,?_,?_⟩⟩
   ·simp only[On,AT,Ao,Bj,P5];omega
   ·simp[<- H]
  have hW:=h2.upd (w':=w.setRow g (cur.toList.take 0++nv++cur.toList.drop (0+nv.length)).toArray) (o':=.row (.slice (some ⟨g,0,none⟩) n c) nv e 1) hi zp Y Y Y
   (λkk hk hn=>setRow_other w g kk _ (λhe=>hn (by simp[OB.own,Value.ownBlock,he]))) W (λp hp=>.inl hp)
  exact h.to FR DF env t' _ g1 hW (h3.set zp) (X.set zp) (My.write hk h5.same)
theorem Uz{x:Operand}{M':Nat->List OB}(N:CF C.nt all lr L o=some ([],d))(O:o.op=.box t x)(ht:AIe C.T t=some (n,e))(W:ev (Et L lr) [] x=some (.v (.agg ⟨cs⟩)))(H:cs.length=n)(hm:Nat.ble n 1000000=true)(X:∀b,RO M (.row (.slice (some ⟨b,0,none⟩) n n) cs t 1) 0=some (M' b,i))(h:∀b,AD C ⟨.ops rest all (⟨d,[],.v (.pointer (some ⟨b,0,none⟩)),d⟩::lr)::k,(d,.v (.pointer (some ⟨b,0,none⟩)))::L,M' b⟩ V):AD C ⟨.ops (o::rest) all lr::k,L,M⟩ V:=by
 have y:∀b,M' b=M++[.row (.slice (some ⟨b,0,none⟩) n n) cs t 1]:=λb=>(He (X b)).1.symm▸Y;refine ABs (σ:=Nat) (λb=>.v (.pointer (some ⟨b,0,none⟩))) M' N (λFR env t' w h2 h3 Z=>?_) (λb=>.inl ⟨_,y b⟩) h;have K:=BN (A2 h3 Z) (G:=[]) Yt W;simp only[den]at K;have hle:n<=maxLen:=Cf (Ae hm) (by simp[maxLen]);have⟨_,n0,_⟩:=Zj hT ht;refine⟨w.heap.size,env++[0],w.alloc (.cells ⟨cs⟩ t),⟨_,Y⟩,?_,λL hL=>?_,λlr hl=>?_,Yt,?_⟩
 ·rw[y];refine h2.add 0 Y Y Y (λkk hk=>Go.RowKit.Below.heap_alloc w _ kk hk) ?_ (λp hp=>by
   simp only[OB.own,Value.ownBlock,Bq,AE]at hp;omega)
  exact⟨n,by omega,.inr ⟨w.heap.size,n,⟨cs⟩,Y,By _,World.alloc_heap_new w _,Nat.le_refl _,hle,by simp[H],by simp[<- H]⟩⟩
 ·rw[y];exact hL.mono h2.len _ _
 ·rw[y];exact hl.mono h2.len _ _
 ·unfold execOp;have z:(Value.agg ⟨cs⟩).cells=⟨cs⟩:=Y;simp only[O,K,Instr.box,newVar,newRow,Sem.run_bind,Sem.run_pure,Result.andThen_ok,run_newObj,z];rfl
end
section
variable {C:Ctx} {o:Oper} {rest all:List Oper} {lr:List B7} {k:List Kt} {L:Fr} {M:List OB} {V:AM} {d:Nat}
end
theorem AKA(q:List (Nat×Bool))(I:List B7->Fr->AM->List OB->Prop)(m:Nat)(z:List Bool)(N:Hg all ends m z q=true)(O:(∀(p:List Nat){y lr':List B7}{H L':Fr}{K M':List OB}{V':AM},Dh K p=some M'->FU p=true->idN 0 n0 p=true->GM M'=true->Y5 p L' H->X1 p lr' y->I lr' L' V' M'->AD C ⟨.draw ⟨all,z,m,ends,n0,mask,V1,[],y⟩::k,H,K⟩ V')->AD C ⟨.draw ⟨all,listed,n',ends,n0,mask,V1,aG,lr⟩::k,L,M⟩ V)(h:∀lr' L' V' M',I lr' L' V' M'->AD C ⟨.draw ⟨all,z,m,ends,n0,mask,V1,q,lr'⟩::k,L',M'⟩ V'):AD C ⟨.draw ⟨all,listed,n',ends,n0,mask,V1,aG,lr⟩::k,L,M⟩ V:=
 O λp _ _ _ _ _ _ _ W X Z g4 g5 g6 g7=>VK p N W X Z g4 g5 g6 (h _ _ _ _ g7)
section
open Go.RowKit Go.Proofs
def Pw:Obj->Bool
 |.cells ..=>true|_=>false
abbrev FW(ro:AA Nat):Fence:={Fence.wide with round:=ro}
def PE(ds:List Deferred)(a:Act):Act:=⟨a.tmps,a.defers++ds⟩
theorem LL(ds:List Deferred)(a:Act)(d:AA Nat)(v:Value):PE ds (a.put d v)=(PE ds a).put d v:=by
 cases d<;>rfl
theorem AE9{ro:AA Nat}{ds:List Deferred}{a:Act}{w:World}(O:∀c,o.op≠ .defer c)(h:o.wp P a w aM Q)(z:∀a w,aM a w->next' (PE ds a) w)(H:∀e a w,Q e a w->e=.normal):o.wpIn (FW ro) n P (PE ds a) w next' Q':=by
 refine⟨λ_ _=>Yt,?_⟩;have W:(o.semAt (FW ro).round (PE ds a).eval)=execOp a.eval o:=Oper.semAt_eq _ _ _ O;rw[W];unfold Oper.wp at h
 revert h
 generalize(execOp a.eval o).run P w=r;intro h
 match r,h with
 |.ok (.value v) w',h=>have:=z _ _ h;rw[LL]at this;exact this|.ok .skip w',h=>have:=z _ _ h;rw[LL]at this;exact this|.ok (.defer d) w',h=>have:=z _ _ h;rw[LL]at this;exact this|.ok (.enter f args) w',h=>
  refine⟨λK=>by simp[Fence.wide]at K,?_⟩;refine callsIn_wide.2 (Calls.mono h λe N y=>?_)
  match e,y with
  |.returned v,y=>have:=z _ _ y;rw[LL]at this;exact this|.panicked c,y=>exact absurd (H _ _ _ y) zp|.outgrown,y=>have⟨a0,w0,y⟩:=y;exact absurd (H _ _ _ y) zp
 |.ok (.row row args) w',h=>exact⟨λK=>by simp[Fence.wide]at K,(ADj h).mono λv N y=>by have:=z _ _ y;rw[LL]at this;exact this⟩
 |.halt (.panic v) w',h=>exact absurd (H _ _ _ h) zp
def YW:List Oper->Bool
 |[]=>true|o::l=>match o.op with
  |.defer _=>false|_=>YW l
theorem QE:∀{l:List Oper},YW l=true->∀o∈l,∀c,o.op≠ .defer c
 |[],_,o,y,_=>by simp at y
 |x::l,h,o,y,c=>by
  unfold YW at h;split at h
  ·simp at h
  ·rename_i z;rcases Aj.1 y with rfl|y
   ·exactλe=>z c e
   ·exact QE h o y c
theorem PO{P:Program}{ops:Array Oper}{ro:AA Nat}{ds:List Deferred}{n:Nat}{Q Q':Exit->Act->World->Prop}{rest:List Oper}(z:∀e a w,Q e a w->e=.normal)(H:∀a w,Q .normal a w->wpListIn (FW ro) n P ops Q' rest (PE ds a) w):∀(pre:List Oper)(a:Act)(w:World),(∀o∈pre,∀c,o.op≠ .defer c)->wpList P ops Q pre a w->wpListIn (FW ro) n P ops Q' (pre++rest) (PE ds a) w
 |[],a,w,_,h=>H a w h|o::pre,a,w,K,h=>by
  have y:∀x∈pre,∀c,x.op≠ .defer c:=λx N=>K x (List.mem_cons_of_mem _ N);simp only[NK,wpListIn];simp only[wpList]at h;have ht:(PE ds a).tmps=a.tmps:=Y;rw[ht];split at h
  ·rename_i hw;rw[if_pos hw];rcases h with h|⟨_,a0,w0,h⟩
   ·exact AE9 (K o zp) h (λa w h=>PO z H pre a w y h) z
   ·exact absurd (z _ _ _ h) zp
  ·rename_i hw;rw[if_neg hw];refine⟨λ_ _=>Yt,?_⟩;have:=PO z H pre _ w y h;rw[LL]at this;exact this
structure QJ(nt:Nat)(V0:AM)(FR:KC)(ds:List Deferred)(L:Fr)(V:AM)(M:List OB)(a:Act)(w:World):Prop where
 df:a.defers=ds
 sz:a.tmps.size=nt
 st:∃env,FC V0 FR env V M w/\Ng env M L a.tmps
theorem Pb{I:Fr->AM->List OB->Prop}{e:Exit}{a:Act}{w:World}(h:post (JX P T fn nt V0) FR .none [.inLoop I] e a w):e=.normal/\∃L V M,QJ nt V0 FR [] L V M a w/\I L V M:=by
 have y:∀(e:Exit),post (JX P T fn nt V0) FR .none [] e a w->False:=λe h=>by
  have h:bodyPost P fn (ABH (JX P T fn nt V0) FR) e a w:=h;cases e with
  |normal=>have⟨_,v,_,h⟩:=h;exact RT h|ret=>have⟨_,v,_,h⟩:=h;exact RT h|panic c=>exact RT h.2|outgrown=>exact RT h|exit id=>exact h|goto t=>exact h
 cases e with
 |normal=>
  have h:a.defers=[]/\a.tmps.size=nt/\∃env L V' M,FC V0 FR env V' M w/\Ng env M L a.tmps/\I L V' M:=h;have⟨h1,h2,env,L,V',M,h3,z,H⟩:=h;exact⟨Y,L,V',M,⟨h1,h2,env,h3,z⟩,H⟩
 |ret=>exact(y .ret h).elim|panic c=>exact(y (.panic c) h).elim|outgrown=>exact(y .outgrown h).elim|exit id=>exact(y (.exit id) h).elim|goto t=>exact(y (.goto t) h).elim
section
variable {P:Program} {T:List G6} {fn:Func} {nt:Nat} {V0:AM} {FR:KC} {ds:List Deferred} {L:Fr} {V:AM} {M:List OB} {a:Act} {w:World} {Q:Exit->Act->World->Prop}
theorem QJ.region(h:QJ nt V0 FR ds L V M a w)(I:Fr->AM->List OB->Prop){id:Nat}{ro:AA Nat}(z:AD (JX P T fn nt V0) ⟨[.ops all all [],.inLoop I],L,M⟩ V)(H:YW all=true)(K:∀L' V' M' a' w',I L' V' M'->QJ nt V0 FR ds L' V' M' a' w'->Q .normal a' w'):(Code.region id ⟨all⟩ false).wpIn (FW ro) n P Q a w:=by
 have⟨t,d⟩:=a;have⟨env,h3,N⟩:=h.st;have y:d=ds:=h.df;subst y;have:=z.to FR .none env t w h.sz h3 N (N3.nil env _ t) Yt;have h2:wpList P ⟨all⟩ (post (JX P T fn nt V0) FR .none [.inLoop I]) all ⟨t,[]⟩ w:=this;refine wpIn_region_list ?_;show wpListIn (FW ro) n P ⟨all⟩ Q all ⟨t,d⟩ w;have:=PO (ro:=ro) (ds:=d) (n:=n) (rest:=[]) (Q':=Q) (λe a w h=>(Pb h).1) (λa w' hp=>by
  have⟨L',V',M',k1,k2⟩:=(Pb hp).2;refine wpListIn_nil (K L' V' M' _ w' k2 ⟨?_,k1.sz,k1.st⟩);simp[PE,k1.df]) all ⟨t,[]⟩ w (QE H) h2
 rw[Du]at this;exact this
theorem QJ.eval(h:QJ nt V0 FR ds L V M a w){s:Nat}(y:EF L s=some (.v x)):a.eval (.tmp s)=x:=by
 have⟨env,_,z⟩:=h.st;have h1:=(z s (.v x) y).1;have h1:a.tmps[s]? =some x:=h1;simp[Act.eval,Fp,h1]
theorem QJ.weaken(h:QJ nt V0 FR ds L V M a w)(y:Sub L' L):QJ nt V0 FR ds L' V M a w:=
 ⟨h.df,h.sz,by
  have⟨env,h3,z⟩:=h.st;exact⟨env,h3,λs x H=>z s x (Sub.look y s x H)⟩⟩
end
section
variable {V0 V V':AM} {FR FR':KC} {env:List Nat} {M:List OB} {w w':World}
theorem FC.grow(h:FC V0 FR env V M w)(hb:Below w.heap.size w w')(hv:DI V V')(hh:Holds V' w')(hn:∀a x,V' a=some x->V a=some x\/w.heap.size<=a.block):FC V0 FR env V' M w' where
 os:=hb.os.trans h.os
 tape:=hb.tape.trans h.tape
 output:=hb.output.trans h.output
 frame b o ho:=by
  have h1:=h.frame b o ho;rw[hb.block b (An.1 h1).1];exact h1
 le:=h.le.trans hv
 holds:=hh
 fresh a x hx:=by
  rcases hn a x hx with h1|h1
  ·exact h.fresh a x h1
  ·right;cases hf:FR.Bp a.block with
   |none=>rfl|some o=>
    have:=(An.1 (h.frame _ o hf)).1;omega
 len:=h.len
 sat i o ho:=LN Y (λ_ _=>Y) (λ_ hx=>hx) (h.sat i o ho) λk hk=>hb.block k (Dt (h.sat i o ho) hk)
 DA i o a ho ha:=by
  cases hx:V' a with
  |none=>rfl|some x=>
   rcases hn a x hx with h1|h1
   ·have:=h.DA i o a ho ha;rw[this]at h1;cases h1
   ·have:=Dt (h.sat i o ho) ha;omega
 C1:=h.C1
 apart:=h.apart
 tb:=h.tb
theorem ACz{l:Nat}{o:Obj}(hl:w.heap[l]? =some o)(z:Pw o=false):∀(a:Addr)(x:Value),w.cell? a=some x->a.block≠l:=by
 rintro a x y rfl;simp only[World.cell?,hl]at y;cases o<;>simp_all [Pw]
theorem AGF{l b:Nat}{o:Obj}(hl:w.heap[l]? =some o)(z:Pw o=false):∀{ob:OB}{a:Addr},(∀E,ob=.ext E->¬E.own l)->ob.sat env M w b->ob.own b a->a.block≠l
 |.gone,a,_,_,h=>h.elim|.ext E,a,H,_,y=>λe=>H E Y (e▸y)|.Bp cs ty,a,_,h,y=>by
  have:a.block=b:=y;rintro rfl;rw[this]at hl;rw[h.1]at hl;cases hl;simp[Pw]at z
 |.row x cs e sz,a,_,h,y=>by
  rintro rfl;have⟨n,_,h2⟩:=h;rcases h2 with⟨h2,_⟩|⟨g,cap,cur,rfl,_,k2,_⟩
  ·subst h2;simp[OB.own,Value.ownBlock]at y
  ·simp only[OB.own,Value.ownBlock,AE]at y;rw[<- y,k2]at hl;cases hl;simp[Pw]at z
theorem FC.ANw(h:FC V0 FR env V M w){l:Nat}{o o':Obj}(hlF:FR.Bp l=some o)(hc:Pw o=false)(e1:FR'.os=FR.os)(e2:FR'.tape=FR.tape)(e3:FR'.output=FR.output)(hb:∀b x,FR'.Bp b=some x->if b=l then x=o' else FR.Bp b=some x)(hs:∀b,FR.Bp b=none->FR'.Bp b=none)(ht:Q5 FR'):FC V0 FR' env V M (w.putObj l o')where
 os:=by rw[e1];exact h.os
 tape:=by rw[e2];exact h.tape
 output:=by rw[e3];exact h.output
 frame b x hx:=by
  have:=hb b x hx;split at this
  ·rename_i e;subst e;subst this;exact World.putObj_heap_same (An.1 (h.frame _ _ hlF)).1
  ·rename_i e;rw[World.putObj_heap_other e];exact h.frame b x this
 le:=h.le
 holds:=⟨λa x hx=>by
  have h1:=h.holds a x hx;have hne:=ACz (h.frame _ _ hlF) hc a x h1;simp only[World.cell?]at h1⊢;rw[World.putObj_heap_other hne];exact h1,h.holds.t.same (World.putObj_heap_other λe=>by
  have⟨t,f,h1⟩:=h.tb;rw[e,hlF]at h1;cases h1;simp[Pw]at hc)⟩
 fresh a x hx:=by
  rcases h.fresh a x hx with h1|h1
  ·exact .inl h1
  ·exact .inr (hs _ h1)
 len:=h.len
 sat i ob ho:=LN Y (λ_ _=>Y) (λ_ hx=>hx) (h.sat i ob ho) λk hk=>World.putObj_heap_other (AGF (h.frame _ _ hlF) hc (λE e ho2=>by
  subst e;have:=h.C1 i _ ⟨l,0,none⟩ ho ho2;rw[hlF]at this;cases this) (h.sat i ob ho) hk)
 DA:=h.DA
 C1 i ob a ho ha:=hs _ (h.C1 i ob a ho ha)
 apart:=h.apart
 tb:=ht
theorem FC.AN0(h:FC V0 FR env V M w)(e1:FR'.os=FR.os)(e2:FR'.tape=FR.tape)(e3:FR'.output=FR.output)(hb:∀b x,FR'.Bp b=some x->FR.Bp b=some x\/(w.heap[b]? =some x/\Pw x=false))(hX:∀(i:Nat)(E:Ext)(b:Nat)(x:Obj),M[i]? =some (OB.ext E)->FR'.Bp b=some x->FR.Bp b=some x\/¬E.own b)(ht:Q5 FR'):FC V0 FR' env V M w where
 os:=by rw[e1];exact h.os
 tape:=by rw[e2];exact h.tape
 output:=by rw[e3];exact h.output
 frame b x hx:=by
  rcases hb b x hx with h1|h1
  ·exact h.frame b x h1
  ·exact h1.1
 le:=h.le
 holds:=h.holds
 fresh a x hx:=by
  rcases h.fresh a x hx with h1|h1
  ·exact .inl h1
  ·right;cases hf:FR'.Bp a.block with
   |none=>rfl|some o=>
    rcases hb _ o hf with h2|h2
    ·rw[h1]at h2;cases h2
    ·exact absurd Y (ACz h2.1 h2.2 a x (h.holds a x hx))
 len:=h.len
 sat:=h.sat
 DA:=h.DA
 C1 i ob a ho ha:=by
  have h1:=h.C1 i ob a ho ha;cases hf:FR'.Bp a.block with
  |none=>rfl|some o=>
   rcases hb _ o hf with h2|h2
   ·rw[h1]at h2;cases h2
   ·refine absurd Y (AGF h2.1 h2.2 (λE e ho2=>?_) (h.sat i ob ho) ha);subst e;rcases hX i E _ o ho hf with h3|h3
    ·rw[h1]at h3;cases h3
    ·exact h3 ho2
 apart:=h.apart
 tb:=ht
end
structure JOk{α:Type}(J:α->AM->World->Prop):Prop where
 holds:∀s V W,J s V W->Holds V W
 grow:∀s V W V' W',J s V W->Below W.heap.size W W'->DI V V'->Holds V' W'->(∀a x,V' a=some x->V a=some x\/W.heap.size<=a.block)->J s V' W'
def AIw(nt:Nat)(V:AM)(w:World)(I:Fr->AM->Prop)(a:Act)(w':World):Prop:=
 a.defers=[]/\a.tmps.size=nt/\∃L' V',Ng [] [] L' a.tmps/\DI V V'/\Holds V' w'/\Below w.heap.size w w'/\(∀a x,V' a=some x->V a=some x\/w.heap.size<=a.block)/\I L' V'
theorem UE{e:Exit}{a:Act}{w:World}(h:post (JX P T fn nt V) (JZ w) .none [Tn I] e a w'):e=.normal/\AIw nt V w I a w':=by
 obtain⟨h1,L,V',M,⟨h2,h3,env,y,z⟩,rfl,H⟩:=Pb h;have he:env=[]:=FO (by simpa using y.len);subst he;refine⟨h1,h2,h3,L,V',z,y.le,y.holds,YD y,λb x K=>?_,H⟩;rcases y.fresh b x K with k|k
 ·exact .inl k
 ·right;have k:w.heap[b.block]? =none:=k;simpa using k
structure PJ{α:Type}(J:α->AM->World->Prop)(nt:Nat)(L:Fr)(V:AM)(pre:α)(a:Act)(w:World):Prop where
 df:a.defers=[]
 sz:a.tmps.size=nt
 lk:Ng [] [] L a.tmps
 j:J pre V w
section
variable {P:Program} {T:List G6} {fn:Func} {V:AM} {α:Type} {J:α->AM->World->Prop} {nt n:Nat} {L:Fr} {pre:α} {a:Act} {w:World} {I:Fr->AM->Prop} {Q:Exit->Act->World->Prop}
theorem PJ.behind(h:PJ J nt L V pre a w)(z:JOk J)(H:AIw nt V w I a' w'):∃L' V',I L' V'/\DI V V'/\PJ J nt L' V' pre a' w':=by
 have⟨h1,h2,L',V',h3,y,K,N,O,W⟩:=H;exact⟨L',V',W,y,h1,h2,h3,z.grow _ _ _ _ _ h.j N y K O⟩
theorem PJ.IG(h:PJ J nt L V pre a w)(H:JOk J)(I:Fr->AM->Prop){c:Code}(K:AD (JX P T fn nt V) ⟨[.code c,Tn I],L,[]⟩ V)(N:∀L' V' a' w',I L' V'->DI V V'->PJ J nt L' V' pre a' w'->Q .normal a' w'):c.wpIn Fence.wide n P Q a w:=by
 have⟨t,d⟩:=a;have O:d=[]:=h.df;subst O;have:=K.to0 (k:=[.code c,Tn I]) Y (FR:=JZ w) (env:=[]) (t:=t) h.sz (Si (H.holds _ _ _ h.j)) h.lk .none;have h2:c.wp P (post (JX P T fn nt V) (JZ w) .none [Tn I]) ⟨t,[]⟩ w:=this;exact Code.wpIn_mono (λe a w' hp=>by
  have y:=UE hp;obtain⟨rfl,z⟩:=y;have⟨L',V',h1,h2,h3⟩:=h.behind H z;exact N L' V' a w' h1 h2 h3) (wpIn_wide.2 h2)
theorem PJ.head(h:PJ J nt L V pre a w)(y:JOk J)(I:Fr->AM->Prop){ops:List Oper}{id:Nat}(z:AD (JX P T fn nt V) ⟨[.ops ops all [],Tn I],L,[]⟩ V)(H:all=ops++rest)(K:∀L' V' a' w',I L' V'->DI V V'->PJ J nt L' V' pre a' w'->wpListIn Fence.wide n P ⟨all⟩ Q rest a' w'):(Code.region id ⟨all⟩ false).wpIn Fence.wide n P Q a w:=by
 have⟨t,d⟩:=a;have N:d=[]:=h.df;subst N;have:=z.to (JZ w) .none [] t w h.sz (Si (y.holds _ _ _ h.j)) h.lk (N3.nil [] _ t) Yt;have h2:wpList P ⟨all⟩ (post (JX P T fn nt V) (JZ w) .none [Tn I]) ops ⟨t,[]⟩ w:=this;refine wpIn_region_list ?_;show wpListIn Fence.wide n P ⟨all⟩ Q all ⟨t,[]⟩ w;have:=Mc (n:=n) (rest:=rest) (Q':=Q) (λe a w h=>(UE h).1) (λa w' hp=>by
  have⟨L',V',h1,h2,h3⟩:=h.behind y (UE hp).2;exact K L' V' a w' h1 h2 h3) ops _ _ h2
 rwa[<- H]at this
theorem PJ.ops(h:PJ J nt L V pre a w)(y:JOk J)(I:Fr->AM->Prop){ops:List Oper}(z:AD (JX P T fn nt V) ⟨[.ops ops all [],Tn I],L,[]⟩ V)(H:∀L' V' a' w',I L' V'->DI V V'->PJ J nt L' V' pre a' w'->Q .normal a' w'):wpListIn Fence.wide n P ⟨all⟩ Q ops a w:=by
 have⟨t,d⟩:=a;have K:d=[]:=h.df;subst K;have:=z.to (JZ w) .none [] t w h.sz (Si (y.holds _ _ _ h.j)) h.lk (N3.nil [] _ t) Yt;have h2:wpList P ⟨all⟩ (post (JX P T fn nt V) (JZ w) .none [Tn I]) ops ⟨t,[]⟩ w:=this;have:=Mc (n:=n) (rest:=[]) (Q':=Q) (λe a w h=>(UE h).1) (λa w' hp=>by
  have⟨L',V',h1,h2,h3⟩:=h.behind y (UE hp).2;exact wpListIn_nil (H L' V' a w' h1 h2 h3)) ops _ _ h2
 rwa[Du]at this
theorem PJ.eval(h:PJ J nt L V pre a w){s:Nat}(y:EF L s=some (.v x)):a.eval (.tmp s)=x:=by
 have h1:=(h.lk s (.v x) y).1;have h1:a.tmps[s]? =some x:=h1;simp[Act.eval,Fp,h1]
theorem PJ.ANp(h:PJ J nt L V pre a w){l:Nat}{d:Nat}{all:Array Oper}{ts:Array TypeId}(ho:o.op=.call ⟨.value (.tmp g),#[.tmp ar],ts⟩)(O:o.dst=some d)(hg:o.guard=none)(W:d<nt)(h1:EF L g=some (.v (.func (.yield l) #[] #[])))(y:a.eval (.tmp ar)=x)(hY:YieldAt Fence.wide 0 P l #[x] w λe H=>∃b N X,e=.returned (.bool b)/\DI V N/\J X N H/\∀a',PJ J nt ((d,.v (.bool b))::L) N X a' H->wpListIn Fence.wide 0 P all Q rest a' H):wpListIn Fence.wide 0 P all Q (o::rest) a w:=by
 have⟨f1,f2,f3,f4,hy,hR⟩:=hY;refine wpListIn_plain hg (λK hK=>?_);refine⟨λ_ _=>Yt,?_⟩;have hs:(o.semAt Fence.wide.round a.eval)=execOp a.eval o:=Oper.semAt_none _ _;rw[hs];have Z:a.tmps[g]? =some (.func (.yield l) #[] #[]):=(h.lk g _ h1).1;have z:(execOp a.eval o).run P w=.ok (.round l f1 f2 f3 f4) w:=by
  simp only[execOp,ho];simp only[Act.eval,Fp]at y;simp[go_sem,Z,y,resolve,invoke];exact hy
 rw[z,Oper.uponIn_round];refine⟨λhh=>by simp[Fence.wide]at hh,hR.mono ?_⟩;rintro e H ⟨b,N,X,rfl,hv,hj,hk⟩;refine hK _ _ (hk _ ⟨?_,?_,?_,hj⟩)
 ·simp[Act.put,O,h.df]
 ·simp[Act.put,O,h.sz]
 ·have:=h.lk.put (x:=.v (.bool b)) (d:=d) (by rw[h.sz];exact W) Yt;simpa[Act.put,O,den]using this
end
section
variable {P:Program} {V:AM} {J:List Int->AM->World->Prop} {nt:Nat} {L:Fr} {pre:List Int} {a:Act} {w:World} {Q:Exit->Act->World->Prop}
end
def WH:Fr->Bool
 |[]=>true|(_,.v _)::l=>WH l|_=>false
theorem ZT:∀{L:Fr}{s:Nat}{x:SV},WH L=true->EF L s=some x->∃y,x=.v y
 |[],s,x,_,h=>by simp[EF]at h
 |(d,.v y)::L,s,x,hp,h=>by
  rw[MC]at h;split at h
  ·simp only[AE]at h;exact⟨y,h.symm⟩
  ·exact ZT (L:=L) hp h
 |(d,.ptr _ _)::L,s,x,hp,h=>by simp[WH]at hp
 |(d,.TY _ _ _ _)::L,s,x,hp,h=>by simp[WH]at hp
 |(d,.el _ _)::L,s,x,hp,h=>by simp[WH]at hp
theorem Ng.plain{t:Array Value}(h:Ng env M L t)(hp:WH L=true):Ng env' M' L t:=λs x z=>by
 obtain⟨y,rfl⟩:=ZT hp z;exact⟨(h s _ z).1,Yt⟩
def KC.add(FR:KC)(b:Nat)(o:Obj):KC:={FR with Bp:=λk=>if k=b then some o else FR.Bp k}
theorem H3(FR:KC)(b:Nat)(o:Obj)(k:Nat):(FR.add b o).Bp k=if k=b then some o else FR.Bp k:=rfl
theorem Q5.add(h:Q5 FR){b:Nat}{o:Obj}(y:1<b):Q5 (FR.add b o):=by
 have⟨t,f,h⟩:=h;exact⟨t,f,by rw[H3,if_neg ox];exact h⟩
theorem Q5.APA{b:Nat}{o:Obj}(h:Q5 (FR.add b o))(y:Pw o=false):Q5 FR:=by
 have⟨t,f,h⟩:=h;rw[H3]at h;split at h
 ·cases h;simp[Pw]at y
 ·exact⟨t,f,h⟩
theorem Q5.re{b:Nat}{o o':Obj}(h:Q5 (FR.add b o))(y:Pw o=false):Q5 (FR.add b o'):=by
 have⟨t,f,h⟩:=h;rw[H3]at h;split at h
 ·cases h;simp[Pw]at y
 ·rename_i e;exact⟨t,f,by rw[H3,if_neg e];exact h⟩
section
variable {P:Program} {nt:Nat} {V0 V:AM} {FR:KC} {L:Fr} {M:List OB} {a:Act} {w:World} {Q:Exit->Act->World->Prop}
end
theorem AHf{c:Code}{R:AM->Value->Prop}(K:P.funcs[f]? =some fn)(N:fn.body=some c)(y:(fn.name== "runtime.NumGoroutine")=false)(H:fn.ntmps=nt)(hlen:Nat.ble args.length nt=true)(O:Tf 0 args=L)(h:∀(w:World)(a:Act),QJ nt V (JZ w) [] L V [] a w->c.wpIn Fence.wide 1 P (bodyPostM Fence.wide 1 P fn λe w'=>∃v env V' M',e=.returned v/\FC V (JZ w) env V' M' w'/\R V' v) a w):Spec P f args V R:=by
 refine⟨⟨fn,K,by rw[N];rfl,y⟩,λw hw=>?_⟩;have hle:=Ae hlen;have W:=callsIn_of_wp_marks (F:=Fence.wide) (n:=1) (args:=⟨args⟩) (w:=w) K N Yt (h w {tmps:=(⟨args⟩:Array Value)++Array.replicate (fn.ntmps-args.length) undef,defers:=[]} ⟨Y,by simp[H];omega,[],Si hw,by rw[<- O];exact UM args _⟩) Y;refine(callsIn_wide.1 W).mono ?_;rintro e w' ⟨v,env,V',M',rfl,z,hR⟩;refine⟨v,V',Y,YD z,z.le,z.holds,λb x X=>?_,hR⟩;rcases z.fresh b x X with k|k
 ·exact .inl k
 ·right;have k:w.heap[b.block]? =none:=k;simpa using k
end
section
open Go.RowKit Go.Maps Go.WideElems
section
variable {P:Program} {T:List G6} {fn:Func} {nt:Nat} {V0:AM} {FR:KC} {ds:List Deferred} {L:Fr} {V:AM} {M:List OB} {a:Act} {w:World} {Q:Exit->Act->World->Prop}
end
end
section
open Go.ChangeShapes Go.WideShapes Go.ChangeAt Go.RowKit
end
end Go.Proofs.YthjnkknigpkldaaGreatDoor
