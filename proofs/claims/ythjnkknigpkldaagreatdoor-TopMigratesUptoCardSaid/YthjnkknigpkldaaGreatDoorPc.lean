/-
  A part of the proof that the statement TopMigratesUptoCardSaid holds (Sh Mk Ml Mm Mn Mo Mp Ha).
  Conditions: none.
-/
import Derived.Shelf.Small.Bits
import Derived.Shelf.Small.Strs
import Derived.Shelf.Small.Wraps
import Derived.Shelf.Strconv.Itoa0
import Derived.Shelf.Strconv.Itoa1
import Derived.Shelf.LaysM
import Derived.Shelf.Strconv.Itoa2
import Derived.Shelf.Strconv.Itoa3
import Derived.Shelf.Strconv.Itoa4
import Derived.Shelf.Sort.Plain
import Derived.Ground.Names2Prog
import Derived.Shelf.Slices.ReverseS
import Derived.Shelf.Slices.CompactI
import Derived.Shelf.Slices.SearchI
import Derived.Shelf.Slices.Cells
import Derived.Shelf.Slices.In.SortNone
import Derived.Test.YthjnkknigpkldaaGreatDoorProg
import Derived.Test.YthjnkknigpkldaaGreatDoorPb
import Derived.MapKept
import Derived.Lib.OthersKept
import Derived.RangeFuncLeaves
import Derived.OrdersIn
import Derived.Test.YthjnkknigpkldaaGreatDoorPa
set_option linter.all false
set_option maxRecDepth 100000
set_option maxHeartbeats 4000000
namespace Go.Proofs
open Go.Shelf
def Tryz.AFQ:Go.Shelf.Ren:=⟨λ|106=>111|213=>163|265=>186|n=>n,λ|9=>9|3=>3|n=>n,λ|n=>n⟩
theorem Tryz.AMq:Go.Proofs.Lays.n106 Tryz.prog Tryz.AFQ:={
 mixed:=by kernel_rfl
 f106:=Tryz.func111.trans (congrArg some (by kernel_rfl))
 f213:=Tryz.func163.trans (congrArg some (by kernel_rfl))
 f265:=Tryz.func186.trans (congrArg some (by kernel_rfl))
 t3:=Tryz.underlying3
 a3:=Tryz.isAgg3
 z3:=Tryz.sizeOf3
 v3:=Tryz.zeroValue3
 t9:=Tryz.underlying9
 a9:=Tryz.isAgg9
 z9:=Tryz.sizeOf9
 v9:=Tryz.zeroValue9}
open Go.RowKit in
theorem Tryz.strings_Compare(a b:ByteArray)(w:World):Calls Tryz.prog 111 #[.string a,.string b] w λe w'=>e=.returned (.int .i64 (Lib.compareBytes a.data.toList b.data.toList))/\w'=w:=Any.strings_Compare Tryz.AMq a b w
def Tryz.AD2:Go.Shelf.Ren:=⟨λ|173=>256|246=>273|283=>283|284=>284|285=>285|286=>286|129=>125|317=>291|318=>292|319=>293|320=>294|337=>296|338=>297|n=>n,λ|2=>2|3=>3|9=>9|4=>4|171=>356|0=>0|53=>210|37=>358|5=>5|173=>359|212=>365|51=>208|20=>20|213=>366|46=>151|232=>368|233=>369|n=>n,λ|17=>1|18=>2|19=>3|n=>n⟩
theorem Tryz.ALB:Go.Proofs.LaysM.n173 Tryz.prog Tryz.AD2:={
 mixed:=by kernel_rfl
 f129:=Tryz.func125.trans (congrArg some (by kernel_rfl))
 f173:=Tryz.func256.trans (congrArg some (by kernel_rfl))
 f246:=Tryz.func273.trans (congrArg some (by kernel_rfl))
 f283:=Tryz.func283.trans (congrArg some (by kernel_rfl))
 f284:=Tryz.func284.trans (congrArg some (by kernel_rfl))
 f285:=Tryz.func285.trans (congrArg some (by kernel_rfl))
 f286:=Tryz.func286.trans (congrArg some (by kernel_rfl))
 f317:=Tryz.func291.trans (congrArg some (by kernel_rfl))
 f318:=Tryz.func292.trans (congrArg some (by kernel_rfl))
 f319:=Tryz.func293.trans (congrArg some (by kernel_rfl))
 f320:=Tryz.func294.trans (congrArg some (by kernel_rfl))
 f337:=Tryz.func296.trans (congrArg some (by kernel_rfl))
 f338:=Tryz.func297.trans (congrArg some (by kernel_rfl))
 t0:=Tryz.underlying0
 a0:=Tryz.isAgg0
 z0:=Tryz.sizeOf0
 v0:=Tryz.zeroValue0
 t2:=Tryz.underlying2
 a2:=Tryz.isAgg2
 z2:=Tryz.sizeOf2
 v2:=Tryz.zeroValue2
 t3:=Tryz.underlying3
 a3:=Tryz.isAgg3
 z3:=Tryz.sizeOf3
 v3:=Tryz.zeroValue3
 t4:=Tryz.underlying4
 a4:=Tryz.isAgg4
 z4:=Tryz.sizeOf4
 v4:=Tryz.zeroValue4
 t5:=Tryz.underlying5
 a5:=Tryz.isAgg5
 z5:=Tryz.sizeOf5
 v5:=Tryz.zeroValue5
 t9:=Tryz.underlying9
 a9:=Tryz.isAgg9
 z9:=Tryz.sizeOf9
 v9:=Tryz.zeroValue9
 t20:=Tryz.underlying20
 a20:=Tryz.isAgg20
 z20:=Tryz.sizeOf20
 v20:=Tryz.zeroValue20
 t37:=Tryz.underlying358
 a37:=Tryz.isAgg358
 z37:=Tryz.sizeOf358
 v37:=Tryz.zeroValue358
 t46:=Tryz.underlying151
 a46:=Tryz.isAgg151
 z46:=Tryz.sizeOf151
 v46:=Tryz.zeroValue151
 t51:=Tryz.underlying208
 a51:=Tryz.isAgg208
 z51:=Tryz.sizeOf208
 v51:=Tryz.zeroValue208
 t53:=Tryz.underlying210
 a53:=Tryz.isAgg210
 z53:=Tryz.sizeOf210
 v53:=Tryz.zeroValue210
 t171:=Tryz.underlying356
 a171:=Tryz.isAgg356
 z171:=Tryz.sizeOf356
 v171:=Tryz.zeroValue356
 t173:=Tryz.underlying359
 a173:=Tryz.isAgg359
 z173:=Tryz.sizeOf359
 v173:=Tryz.zeroValue359
 t212:=Tryz.underlying365
 a212:=Tryz.isAgg365
 z212:=Tryz.sizeOf365
 v212:=Tryz.zeroValue365
 t213:=Tryz.underlying366
 a213:=Tryz.isAgg366
 z213:=Tryz.sizeOf366
 t232:=Tryz.underlying368
 a232:=Tryz.isAgg368
 z232:=Tryz.sizeOf368
 v232:=Tryz.zeroValue368
 t233:=Tryz.underlying369
 a233:=Tryz.isAgg369
 z233:=Tryz.sizeOf369
 v233:=Tryz.zeroValue369
 g17:=by kernel_rfl
 g18:=by kernel_rfl
 g19:=by kernel_rfl
 i0:=by kernel_rfl
 i2:=by kernel_rfl
 i3:=by kernel_rfl
 i4:=by kernel_rfl
 i5:=by kernel_rfl
 i9:=by kernel_rfl
 i20:=by kernel_rfl
 i37:=by kernel_rfl
 i46:=by kernel_rfl
 i51:=by kernel_rfl
 i53:=by kernel_rfl
 i171:=by kernel_rfl
 i173:=by kernel_rfl
 i212:=by kernel_rfl
 i232:=by kernel_rfl
 i233:=by kernel_rfl
 m17:=by kernel_rfl
 m18:=by kernel_rfl
 m19:=by kernel_rfl}
open Go.RowKit Go.Sort Go.Lib in
theorem Tryz.strconv_FormatInt_10(n:Int)(h0: -9223372036854775808<=n)(h1:n<=9223372036854775807)(w:World)(y:Lib.TabIs Tryz.prog w "internal/strconv.uint64pow10" .u64 Lib.pow10Tab):Calls Tryz.prog 256 #[.int .i64 n,.int .i64 10] w λe w'=>e=.returned (.string ⟨(Lib.itoa n).toArray⟩)/\∃k os,w'=grow (w.drewN k) os:=Any.strconv_FormatInt_10 Tryz.ALB n h0 h1 w y
def Tryz.AFP:Go.Shelf.Ren:=⟨λ|189=>45|125=>78|257=>77|128=>124|129=>125|294=>115|295=>116|296=>117|297=>118|298=>119|299=>120|216=>121|300=>122|301=>123|328=>164|329=>165|330=>166|331=>167|332=>168|215=>169|343=>187|n=>n,λ|28=>39|3=>3|46=>151|0=>0|51=>208|53=>210|4=>4|183=>200|182=>199|131=>205|5=>5|9=>9|218=>250|222=>254|228=>269|229=>270|n=>n,λ|n=>n⟩
theorem Tryz.AIM:Go.Proofs.Lays.n189 Tryz.prog Tryz.AFP:={
 mixed:=by kernel_rfl
 f125:=Tryz.func78.trans (congrArg some (by kernel_rfl))
 f128:=Tryz.func124.trans (congrArg some (by kernel_rfl))
 f129:=Tryz.func125.trans (congrArg some (by kernel_rfl))
 f189:=Tryz.func45.trans (congrArg some (by kernel_rfl))
 f215:=Tryz.func169.trans (congrArg some (by kernel_rfl))
 f216:=Tryz.func121.trans (congrArg some (by kernel_rfl))
 f257:=Tryz.func77.trans (congrArg some (by kernel_rfl))
 f294:=Tryz.func115.trans (congrArg some (by kernel_rfl))
 f295:=Tryz.func116.trans (congrArg some (by kernel_rfl))
 f296:=Tryz.func117.trans (congrArg some (by kernel_rfl))
 f297:=Tryz.func118.trans (congrArg some (by kernel_rfl))
 f298:=Tryz.func119.trans (congrArg some (by kernel_rfl))
 f299:=Tryz.func120.trans (congrArg some (by kernel_rfl))
 f300:=Tryz.func122.trans (congrArg some (by kernel_rfl))
 f301:=Tryz.func123.trans (congrArg some (by kernel_rfl))
 f328:=Tryz.func164.trans (congrArg some (by kernel_rfl))
 f329:=Tryz.func165.trans (congrArg some (by kernel_rfl))
 f330:=Tryz.func166.trans (congrArg some (by kernel_rfl))
 f331:=Tryz.func167.trans (congrArg some (by kernel_rfl))
 f332:=Tryz.func168.trans (congrArg some (by kernel_rfl))
 f343:=Tryz.func187.trans (congrArg some (by kernel_rfl))
 t0:=Tryz.underlying0
 a0:=Tryz.isAgg0
 z0:=Tryz.sizeOf0
 v0:=Tryz.zeroValue0
 t3:=Tryz.underlying3
 a3:=Tryz.isAgg3
 z3:=Tryz.sizeOf3
 v3:=Tryz.zeroValue3
 t4:=Tryz.underlying4
 a4:=Tryz.isAgg4
 z4:=Tryz.sizeOf4
 v4:=Tryz.zeroValue4
 t5:=Tryz.underlying5
 a5:=Tryz.isAgg5
 z5:=Tryz.sizeOf5
 v5:=Tryz.zeroValue5
 t9:=Tryz.underlying9
 a9:=Tryz.isAgg9
 z9:=Tryz.sizeOf9
 v9:=Tryz.zeroValue9
 t28:=Tryz.underlying39
 a28:=Tryz.isAgg39
 z28:=Tryz.sizeOf39
 v28:=Tryz.zeroValue39
 t46:=Tryz.underlying151
 a46:=Tryz.isAgg151
 z46:=Tryz.sizeOf151
 v46:=Tryz.zeroValue151
 t51:=Tryz.underlying208
 a51:=Tryz.isAgg208
 z51:=Tryz.sizeOf208
 v51:=Tryz.zeroValue208
 t53:=Tryz.underlying210
 a53:=Tryz.isAgg210
 z53:=Tryz.sizeOf210
 v53:=Tryz.zeroValue210
 t131:=Tryz.underlying205
 a131:=Tryz.isAgg205
 z131:=Tryz.sizeOf205
 v131:=Tryz.zeroValue205
 t182:=Tryz.underlying199
 a182:=Tryz.isAgg199
 z182:=Tryz.sizeOf199
 v182:=Tryz.zeroValue199
 t183:=Tryz.underlying200
 a183:=Tryz.isAgg200
 z183:=Tryz.sizeOf200
 v183:=Tryz.zeroValue200
 t218:=Tryz.underlying250
 a218:=Tryz.isAgg250
 z218:=Tryz.sizeOf250
 v218:=Tryz.zeroValue250
 t222:=Tryz.underlying254
 a222:=Tryz.isAgg254
 z222:=Tryz.sizeOf254
 v222:=Tryz.zeroValue254
 t228:=Tryz.underlying269
 a228:=Tryz.isAgg269
 z228:=Tryz.sizeOf269
 v228:=Tryz.zeroValue269
 t229:=Tryz.underlying270
 a229:=Tryz.isAgg270
 z229:=Tryz.sizeOf270
 v229:=Tryz.zeroValue270}
open Go.Sort Go.RowKit in
theorem Tryz.slices_Sort_int(Bp off cap:Nat)(zs:List Int)(w:World)(K:Holds (Value.int .i64) w Bp off zs.toArray)(z:Bp<w.heap.size)(H:zs.length<4611686018427387904):Calls Tryz.prog 45 #[.slice (some ⟨Bp,off,none⟩) zs.length cap] w λe w'=>
  e=.returned (.tuple #[])/\∃n os,w'=grow (putRow (Value.int .i64) (Sort.ahead w n) Bp off (zs.mergeSort λx y=>decide (x<=y)).toArray) os:=Any.slices_Sort_int Tryz.AIM Bp off cap zs w K z H
def Tryz.AB8:Go.Shelf.Ren:=⟨λ|20=>46|n=>n,λ|22=>39|3=>3|4=>4|0=>0|n=>n,λ|n=>n⟩
theorem Tryz.AC7:Go.Proofs.Lays2.n20 Tryz.prog Tryz.AB8:={
 mixed:=by kernel_rfl
 f20:=Tryz.func46.trans (congrArg some (by kernel_rfl))
 t0:=Tryz.underlying0
 a0:=Tryz.isAgg0
 z0:=Tryz.sizeOf0
 v0:=Tryz.zeroValue0
 t3:=Tryz.underlying3
 a3:=Tryz.isAgg3
 z3:=Tryz.sizeOf3
 v3:=Tryz.zeroValue3
 t4:=Tryz.underlying4
 a4:=Tryz.isAgg4
 z4:=Tryz.sizeOf4
 v4:=Tryz.zeroValue4
 t22:=Tryz.underlying39
 a22:=Tryz.isAgg39
 z22:=Tryz.sizeOf39
 v22:=Tryz.zeroValue39
 i3:=by kernel_rfl}
open Go.RowKit Go.Lib Go.Sort in
theorem Tryz.slices_Compact_int(Bp off cap:Nat)(zs:List Int)(w:World)(H:Holds (Value.int .i64) w Bp off zs.toArray)(z:zs.length<=9223372036854775807)(y:zs.length<=cap):Calls Tryz.prog 46 #[.slice (some ⟨Bp,off,none⟩) zs.length cap] w λe w'=>e=.returned (.slice (some ⟨Bp,off,none⟩) (Lib.compact zs).length cap)/\∃q,w'=putRow (Value.int .i64) (Sort.ahead w q) Bp off (Lib.compact zs++List.replicate (zs.length-(Lib.compact zs).length) 0).toArray:=Any.slices_Compact_int Tryz.AC7 Bp off cap zs w H z y
open Go.RowKit Go.Lib Go.Sort in
theorem Tryz.slices_Compact_int_empty(a:Option Addr)(cap:Nat)(w:World):Calls Tryz.prog 46 #[.slice a 0 cap] w λe w'=>e=.returned (.slice a 0 cap)/\w'=w:=Any.slices_Compact_int_empty Tryz.AC7 a cap w
open Go.RowKit Go.Sort in
theorem Tryz.slices_Sort_int_none(p:Option Addr)(cap:Nat)(w:World):Calls Tryz.prog 45 #[.slice p 0 cap] w λe w'=>e=.returned (.tuple #[])/\w'=w:=Any.slices_Sort_int_none Tryz.AIM p cap w
end Go.Proofs
namespace Go.Proofs.YthjnkknigpkldaaGreatDoor
variable {b' f n nt y t0 t z i sz:Nat} {env env' az:List Nat} {M M' bs:List OB} {P:Program} {args cs O:List Value} {V V0 V':AM} {R bn:AM->Ending->List OB->Prop} {FR:KC} {T:List G6} {fn:Func} {L:Fr} {C:Ctx} {o:Oper} {rest all:List Oper} {lr:List B7} {k:List Kt} {an:Value} {s:A9} {af:Operand} {bo:AM->List Value->Prop}
section
open Go.RowKit
def GA:OB->Bool
 |.row _ _ _ _=>true|.ext _=>true|_=>false
def Cx:List OB->Bool
 |[]=>true|o::l=>match GA o with
  |true=>Cx l|false=>false
theorem CQ:∀{l:List OB}{i:Nat}{o:OB},Cx l=true->l[i]? =some o->GA o=true
 |[],i,o,_,h=>by simp at h
 |x::l,i,o,hp,h=>by
  simp only[Cx]at hp;split at hp
  ·rename_i y;cases i with
   |zero=>simp at h;subst h;exact y|succ i=>simp at h;exact CQ hp h
  ·simp at hp
theorem B5{o:OB}(h:GA o=true){b:Nat}{a:Addr}:o.own b a↔o.own b' a:=by
 cases o<;>simp_all [GA,OB.own]
theorem Iu{o:OB}(h:GA o=true){w:World}{b:Nat}(y:o.sat env M w b):o.sat env' M' w b':=by
 cases o<;>simp_all [GA,OB.sat]
theorem ZS{o:OB}(h:GA o=true):o≠ .gone:=by
 rintro rfl;simp[GA]at h
def GP(P:Program)(f:Nat)(args:List Value)(M:List OB)(V:AM)(R:AM->Ending->List OB->Prop):Prop:=
 AEa P f/\∀FR env w,FC V FR env V M w->Calls P f ⟨args⟩ w λe w'=>∃V' env' M',e≠ .outgrown/\Cx M'=true/\M'.length=M.length/\FC V FR env' V' M' w'/\R V' e M'
theorem GP.mono(h:GP P f args M V R)(z:∀V' e M',DI V V'->R V' e M'->bn V' e M'):GP P f args M V bn:=
 ⟨h.1,λFR env w h1=>(h.2 FR env w h1).mono λ_ _ ⟨V',env',M',H,K,N,y,O⟩=>⟨V',env',M',H,K,N,y,z V' _ M' y.le O⟩⟩
def AOr(n:Nat)(R:AM->Ending->List OB->Prop)(V:AM)(v:Value)(M:List OB):Prop:=Cx (Ln n M)=true/\(Ln n M).length=n/\R V (.returned v) (Ln n M)
def AOq(n:Nat)(R:AM->Ending->List OB->Prop)(V:AM)(p:List PanicEntry)(M:List OB):Prop:=Cx (Ln n M)=true/\(Ln n M).length=n/\R V (.panicked p) (Ln n M)
theorem FC.ADn{w:World}(h:FC V0 FR env V M w)(O:Ln n M=M')(hp:Cx M'=true):FC V0 FR (env.take n) V M' w:=by
 rw[AAh]at O;have y:∀(i:Nat)(o:OB),M'[i]? =some o->M[i]? =some o/\GA o=true:=by
  intro i o z;have:=CQ hp z;rw[<- O,Cs]at z;split at z
  ·grind
  ·simp at z
 refine⟨h.os,h.tape,h.output,h.frame,h.le,h.holds,h.fresh,?_,?_,?_,?_,?_,h.tb⟩
 ·rw[<- O];simp[h.len]
 ·intro i o z;have⟨H,K⟩:=y i o z;exact Iu K (h.sat i _ H)
 ·intro i o a z N;have⟨H,K⟩:=y i o z;exact h.DA i _ a H ((B5 K).1 N)
 ·intro i o a z N;have⟨H,K⟩:=y i o z;exact h.C1 i _ a H ((B5 K).1 N)
 ·intro i j o q a W z Z N X;have⟨H,K⟩:=y i o z;have⟨g3,g4⟩:=y j q Z;exact h.apart i j _ _ a W H g3 ((B5 K).1 N) ((B5 g4).1 X)
theorem GP.enter{c:Code}(K:P.funcs[f]? =some fn)(N:fn.body=some c)(y:(fn.name== "runtime.NumGoroutine")=false)(W:fn.ntmps=nt)(hlen:Nat.ble args.length nt=true)(X:Tf 0 args=L)(Z:M.length=n)(h:AD ⟨P,T,fn,nt,V,AOr n R,AOq n R⟩ ⟨[.code c],L,M⟩ V):GP P f args M V R:=by
 subst Z;refine⟨⟨fn,K,by rw[N];rfl,y⟩,λFR env w hW=>?_⟩;have hle:=Ae hlen;have z:=calls_of_wp (P:=P) (f:=f) (args:=⟨args⟩) (w:=w) (R:=ABH ⟨P,T,fn,nt,V,AOr M.length R,AOq M.length R⟩ FR) K N (by
  refine h.to0 (k:=[.code c]) Y (FR:=FR) (env:=env) (t:=(⟨args⟩:Array Value)++Array.replicate (fn.ntmps-args.length) undef) ?_ hW ?_ .none
  ·grind
  ·intro s x O;rw[<- X]at O;obtain⟨v,rfl,_,h2⟩:=PC args 0 s x O;refine⟨?_,Yt⟩;have hs:s<args.length:=(As.1 h2).1;rw[Om];simpa[hs,den]using h2)
 refine z.mono λe w' hp=>?_;rcases hp with⟨v,env',V',M',rfl,H,h1,h2,h3⟩|⟨p,env',V',M',rfl,H,h1,h2,h3⟩
 ·exact⟨V',_,_,by simp,h1,h2,H.ADn Y h1,h3⟩
 ·exact⟨V',_,_,by simp,h1,h2,H.ADn Y h1,h3⟩
open Classical in
theorem FC.AOP{w:World}(h2:FC V0 FR env V M w)(hi:Dh M az=some bs)(aa:Cx bs=true)(aj:FU az=true):∃FR',FC V FR' (List.replicate bs.length 0) V bs w/\∀(V':AM)(env':List Nat)(M1:List OB)(w':World),Cx M1=true->FC V FR' env' V' M1 w'->∀M',EV M az M1=some M'->FC V0 FR env V' M' w'/\(∀i,C6 M i->C6 M' i):=by
 have⟨hlen,K⟩:=IV hi
 let Hd:Nat->Prop:=λb=>∃q∈bs,q.own 0 ⟨b,0,none⟩
 have ag:∀b,Hd b->∃(i:Nat)(q:OB),i∈az/\M[i]? =some q/\q.own (Bm env i) ⟨b,0,none⟩:=by
  intro b ⟨q,H,Z⟩;have⟨j,hj⟩:=CC.1 H;have⟨i,N,y⟩:=K j q hj;exact⟨i,q,BP N,y,(B5 (CQ aa hj)).1 Z⟩
 let FR':KC:=⟨w.os,w.tape,w.output,λb=>if Hd b then none else w.heap[b]?⟩
 have ad:∀b,FR'.Bp b=none->Hd b\/w.heap.size<=b:=by grind
 have an:∀b,w.heap.size<=b->FR.Bp b=none:=by
  intro b Z;cases hv:FR.Bp b with
  |none=>rfl|some x=>
   have:=h2.frame b x hv;have:=(An.1 this).1;omega
 have af:∀b,Hd b->FR.Bp b=none:=by
  intro b Z;have⟨i,q,_,y,g3⟩:=ag b Z;exact h2.C1 i _ ⟨b,0,none⟩ y g3
 have W:∀b,¬Hd b->FR'.Bp b=w.heap[b]? :=λb Z=>if_neg Z;have ak:FC V FR' (List.replicate bs.length 0) V bs w:=by
  refine⟨Y,Y,Y,λb o O=>?_,DI.refl V,h2.holds,λ_ _ h=>.inl h,by simp,?_,?_,?_,?_,Q5.of h2.holds.t (W 1 λe=>h2.tb.ne (af 1 e) Y)⟩
  ·simp only[FR']at O;split at O
   ·simp at O
   ·exact O
  ·intro j q O;have⟨i,_,y⟩:=K j _ O;exact Iu (CQ aa O) (h2.sat i _ y)
  ·intro j q a O z;have⟨i,_,y⟩:=K j _ O;exact h2.DA i _ a y ((B5 (CQ aa O)).1 z)
  ·intro j q a O z;exact if_pos ⟨q,BP O,D9 (a:=a) (a':=⟨a.block,0,none⟩) Y ((B5 (CQ aa O)).1 z)⟩
  ·intro j j' q q' a ae O H z ab;have⟨i,N,y⟩:=K j _ O;have⟨i',g3,g4⟩:=K j' _ H;exact h2.apart i i' _ _ a (λe=>ae (No aj N (e▸g3))) y g4 ((B5 (CQ aa O)).1 z) ((B5 (CQ aa H)).1 ab)
 refine⟨FR',ak,λV' env' M1 w' pp X=>?_⟩;have hold:∀(j:Nat)(q:OB),j∉az->M[j]? =some q->∀a:Addr,q.own (Bm env j) a->¬Hd a.block/\a.block<w.heap.size:=by
  intro j q hj H a z;refine⟨λhh=>?_,Dt (h2.sat j q H) z⟩;have⟨i,r,N,y,g3⟩:=ag _ hh;exact h2.apart j i q _ a (λe=>hj (e▸N)) H y z (D9 (a:=⟨a.block,0,none⟩) (a':=a) Y g3)
 intro M' al;have ah:FC V0 FR env V' M' w'/\(∀i,C6 M i->C6 M' i):=by
  have⟨e1,e2,e3,e4⟩:=QC al (λb Z=>by
   have⟨j,hj⟩:=CC.1 Z;exact ZS (CQ pp hj))
  refine⟨⟨X.os.trans h2.os,X.tape.trans h2.tape,X.output.trans h2.output,?_,h2.le.trans X.le,X.holds,?_,by rw[h2.len,e1],?_,?_,?_,?_,h2.tb⟩,e4⟩
  ·intro b q H;have Z:¬Hd b:=λZ=>by rw[af b Z]at H;simp at H
   exact X.frame b q (by rw[W b Z];exact h2.frame b q H)
  ·intro a x hx;rcases X.fresh a x hx with g|g
   ·exact h2.fresh a x g
   ·grind
  ·intro j q H;rcases e3 j q H with⟨p,N,y⟩|⟨N,y⟩
   ·exact Iu (CQ pp y) (X.sat p _ y)
   ·refine LN Y (λ_ _=>Y) (λx=>DM e4) (h2.sat j q y) λb Z=>?_;have⟨n1,n2⟩:=hold j q N y _ Z;have hex:w.heap[b]? =some w.heap[b]:=by simp[n2]
    rw[hex];exact X.frame b _ (by rw[W b n1];exact hex)
  ·intro j q a H z;rcases e3 j q H with⟨p,N,y⟩|⟨N,y⟩
   ·exact X.DA p _ a y ((B5 (CQ pp y)).1 z)
   ·have⟨n1,n2⟩:=hold j q N y _ z;cases hv:V' a with
    |none=>rfl|some x=>
     rcases X.fresh a x hv with g|g
     ·rw[h2.DA j q a y z]at g;simp at g
     ·grind
  ·intro j q a H z;rcases e3 j q H with⟨p,N,y⟩|⟨N,y⟩
   ·rcases ad _ (X.C1 p _ a y ((B5 (CQ pp y)).1 z))with g|g
    ·grind
    ·grind
   ·exact h2.C1 j q a y z
  ·intro j j' q q' a ae H ai z ab;rcases e3 j q H with⟨p,N,y⟩|⟨N,y⟩
   ·rcases e3 j' q' ai with⟨p',g3,g4⟩|⟨g3,g4⟩
    ·exact X.apart p p' _ _ a (λe=>ae (by subst e;rw[N]at g3;simpa using g3)) y g4 ((B5 (CQ pp y)).1 z) ((B5 (CQ pp g4)).1 ab)
    ·have⟨n1,n2⟩:=hold j' q' g3 g4 _ ab;rcases ad _ (X.C1 p _ a y ((B5 (CQ pp y)).1 z))with g|g
     ·exact n1 g
     ·omega
   ·have⟨n1,n2⟩:=hold j q N y _ z;rcases e3 j' q' ai with⟨p',g3,g4⟩|⟨g3,g4⟩
    ·rcases ad _ (X.C1 p' _ a g4 ((B5 (CQ pp g4)).1 ab))with g|g
     ·exact n1 g
     ·omega
    ·exact h2.apart j j' q q' a ae y g4 z ab
 exact ah
theorem AD.ABM(is:List Nat){d:Nat}(hh:CF C.nt all lr L o=some ([],d))(hc:Gc (Et L lr) [] o.op=some (f,args))(hi:Dh M is=some bs)(Z:Cx bs=true)(aa:FU is=true)(hk:Mt k is=true)(hs:GP C.P f args bs V R)(h:∀V' v z,DI V V'->R V' (.returned v) z->∃M',EV M is z=some M'/\AD C ⟨.ops rest all (⟨d,[],.v v,d⟩::lr)::k,(d,.v v)::L,M'⟩ V')(O:∀V' p z,DI V V'->R V' (.panicked p) z->∃M',EV M is z=some M'/\C.PR V' p M'):AD C ⟨.ops (o::rest) all lr::k,L,M⟩ V:=by
 refine AD.of λFR DF env t w h1 h2 h3 h4 h5=>?_;have⟨hg,hd,hn,hf,_⟩:=EG hh;have W:d<t.size:=by rw[h1];simpa[D1]using hn
 have hw:=Ch h4 hg;show wpList C.P ⟨all⟩ (post C FR DF k) (o::rest) ⟨t,[]⟩ w;refine Cn ?_;rw[if_pos (hw.2 Yt)];have⟨ab,K⟩:=hs;unfold Oper.wp;rw[KR (A2 h3 h4) (G:=[]) Yt hc ab w];have⟨FR',ad,y⟩:=h2.AOP hi Z aa;refine(K FR' _ w ad).mono λe' w' ⟨V',env',z,p0,pp,pl,X,p4⟩=>?_;cases e' with
 |outgrown=>exact absurd Y p0|panicked p=>
  have⟨M',H,hP⟩:=O V' p z X.le p4;have⟨N,_⟩:=y V' env' z w' pp X M' H;exact MB ⟨Y,.inr ⟨p,env,V',M',Y,N,hP⟩⟩ k _
 |returned v=>
  have⟨M',H,hE⟩:=h V' v z X.le p4;have⟨N,e4⟩:=y V' env' z w' pp X M' H;simp only[Act.put,hd];exact hE.to FR DF env (t.setIfInBounds d v) w' (by simpa using h1) N ((h3.C6 e4).put (x:=.v v) W Yt) ((h4.C6 e4).put W hf (λ_=>Y) (λhn=>absurd Yt hn) Y (.inl Y) (λ_=>Yt))
   (My.grow (M:=M') ⟨[],by simp⟩ X.le ⟨[],by simp⟩ (Pq H hk h5.same))
theorem AIu{x:Operand}{v:Value}(K:IH all lr o.guard=some [])(N:o.op=.panic x)(O:ev (Et L lr) [] x=some (.v (.iface y v)))(h:C.PR V [{v:=.iface y v,recovered:=false}] M):AD C ⟨.ops (o::rest) all lr::k,L,M⟩ V:=by
 refine AD.of λFR W env t w h1 h2 h3 z Z=>?_;have hw:=Ch z K;show wpList C.P ⟨all⟩ (post C FR W k) (o::rest) ⟨t,[]⟩ w;refine Cn ?_;rw[if_pos (hw.2 Yt)];have H:=BN (A2 h3 z) (G:=[]) Yt O;simp only[den]at H;have X:(execOp (⟨t,[]⟩:Act).eval o).run C.P w=.halt (.panic (.iface y v)) w:=by
  unfold execOp;simp only[N,H,Sem.run_bind,run_panic_iface];rfl
 unfold Oper.wp;rw[X,Oper.upon_panic];exact MB ⟨Y,.inr ⟨_,env,V,M,Y,h2,h⟩⟩ k _
theorem AIv{d:Nat}{x:Operand}{v:Value}(H:CF C.nt all lr L o=some ([],d))(K:o.op=.makeInterface t0 x)(ht:∃y,C.P.underlying t0=some y/\∀m,y≠ .interface m)(N:ev (Et L lr) [] x=some (.v v))(h:AD C ⟨.ops rest all (⟨d,[],.v (.iface t0 v),d⟩::lr)::k,F9 [] d (.v (.iface t0 v)) L,M⟩ V):AD C ⟨.ops (o::rest) all lr::k,L,M⟩ V:=by
 refine G9 (x:=.v (.iface t0 v)) H (λenv t w h3 O _ hG=>⟨Yt,?_⟩) h;have z:=BN (A2 h3 O) hG N;simp only[den]at z;have⟨y,ht,W⟩:=ht;unfold execOp;cases y<;>first
  |exact absurd Y (W _)|simp[K,z,Instr.makeInterface,run_underlying ht,Result.andThen,den]
section
variable {α:Type}
def D4(k:A9):List (A9×α)->AA α
 |[]=>none|p::l=>if p.1=k then some p.2 else D4 k l
def NQ(k:A9)(v:α):List (A9×α)->List (A9×α)
 |[]=>[(k,v)]|p::l=>if p.1=k then(p.1,v)::l else p::NQ k v l
def AA7(k:A9):List (A9×α)->List (A9×α)
 |[]=>[]|p::l=>if p.1=k then l else p::AA7 k l
def AHi(enc:α->Value)(l:List (A9×α))(o:Obj):Prop:=
 ∃es clock,o=.map es clock/\es.toList.map (λe=>(e.key,e.val))=l.map λp=>(Value.string ⟨⟨p.1⟩⟩,enc p.2)
def FN(enc:α->Value)(b:Nat)(l:List (A9×α)):Ext where
 own n:=n=b
 sat w:=∃o,w.heap[b]? =some o/\AHi enc l o
 lt h hb:=by
  have⟨o,h,_⟩:=h;subst hb;exact(An.1 h).1
 frame hk h:=by
  have⟨o,h,h2⟩:=h;exact⟨o,by rw[hk b Y];exact h,h2⟩
theorem ADb(a b:A9):((⟨⟨a⟩⟩:ByteArray)==⟨⟨b⟩⟩)=decide (a=b):=by
 by_cases h:a=b
 ·subst h;rw[Bw Y];exact(MapKept.bytes_beq _ _).2 Y
 ·rw[Bd h];cases y:((⟨⟨a⟩⟩:ByteArray)==⟨⟨b⟩⟩)with
  |false=>rfl|true=>exact absurd (by have:=(MapKept.bytes_beq _ _).1 y;injection this with this;injection this) h
theorem XL(enc:α->Value)(k:A9):∀(es:List MapEntry)(l:List (A9×α))(i:Nat),es.map (λe=>(e.key,e.val))=l.map (λp=>(Value.string ⟨⟨p.1⟩⟩,enc p.2))->(D4 k l=none/\Instr.findNow .string (.string ⟨⟨k⟩⟩) es i=some none/\(∀v,NQ k v l=l++[(k,v)])/\AA7 k l=l)\/∃j x,D4 k l=some x/\Instr.findNow .string (.string ⟨⟨k⟩⟩) es i=some (some (i+j,enc x))/\l[j]? =some (k,x)/\(∀v,NQ k v l=l.set j (k,v))/\AA7 k l=l.eraseIdx j
 |[],[],i,_=>.inl ⟨Y,Y,λ_=>Y,Y⟩|[],_::_,_,h=>by simp at h
 |_::_,[],_,h=>by simp at h
 |e::es,p::l,i,h=>by
  simp only[B8,A8,BJ]at h;have⟨⟨h1,h2⟩,h3⟩:=h;by_cases y:p.1=k
  ·right;refine⟨0,p.2,by simp[D4,y],?_,by simp[<- y],λv=>by simp[NQ,y],by simp[AA7,y]⟩;simp[Instr.findNow,Instr.sameNow,h1,ADb,y,h2]
  ·have z:Instr.sameNow .string (.string ⟨⟨k⟩⟩) e.key=some false:=by
    have H:¬k=p.1:=λe=>y e.symm;simp[Instr.sameNow,h1,ADb,H]
   rcases XL enc k es l (i+1) h3 with⟨K,N,O,W⟩|⟨j,x,K,N,O,W,X⟩
   ·left;refine⟨by simp[D4,y,K],?_,λv=>by simp[NQ,y,O],by simp[AA7,y,W]⟩;simp[Instr.findNow,z,N]
   ·right;refine⟨j+1,x,by simp[D4,y,K],?_,by simpa using O,λv=>by simp[NQ,y,W],by simp[AA7,y,X]⟩;simp[Instr.findNow,z,N];omega
variable {P:Program} {w:World}
theorem Ig{y:TypeId}(z:P.underlying y=some .string)(b:Bool)(s:ByteArray):(Instr.checkKey b 10000 y (.string s)).run P w=.ok () w:=by
 exact MapKept.run_checkKey z (by simp[MapKept.IsKey]) b 9999
theorem AGm{enc:α->Value}{l:List (A9×α)}{b:Nat}(h:∃o,w.heap[b]? =some o/\AHi enc l o)(ht:P.underlying t=some (.map y z))(H:P.underlying y=some .string)(W:(zeroValue z).run P w=.ok an w)(k:A9)(c:Bool):(Instr.lookup t (.map (some b)) (.string ⟨⟨k⟩⟩) c).run P w=.ok (match c with|true=>.tuple #[((D4 k l).map enc).getD an,.bool (D4 k l).isSome]|false=>((D4 k l).map enc).getD an) w:=by
 obtain⟨o,O,es,clock,rfl,he⟩:=h;rcases XL enc k es.toList l 0 he with⟨K,N,_,_⟩|⟨j,x,K,N,_,_,_⟩
 ·cases c<;>simp[Instr.lookup,run_underlying ht,MapKept.run_getObj_map O,Ig H,MapKept.run_findKey H N,W,K,Result.andThen]
 ·cases c<;>simp[Instr.lookup,run_underlying ht,MapKept.run_getObj_map O,Ig H,MapKept.run_findKey H N,K,Result.andThen]
theorem AGl{enc:α->Value}{l:List (A9×α)}{b:Nat}(h:∃o,w.heap[b]? =some o/\AHi enc l o)(ht:P.underlying t=some (.map y z))(K:P.underlying y=some .string)(k:A9)(v:α):∃es clock o',w.heap[b]? =some (.map es clock)/\(Instr.mapUpdate t (.map (some b)) (.string ⟨⟨k⟩⟩) (enc v)).run P w=.ok () (w.putObj b o')/\AHi enc (NQ k v l) o':=by
 obtain⟨o,H,es,clock,rfl,he⟩:=h;rcases XL enc k es.toList l 0 he with⟨g1,O,N,_⟩|⟨j,x,g1,O,N,g4,_⟩
 ·refine⟨es,clock,.map (es.push {key:=.string ⟨⟨k⟩⟩,val:=enc v,born:=clock}) (clock+1),H,?_,_,_,Y,?_⟩
  ·simp[Instr.mapUpdate,run_underlying ht,MapKept.run_getObj_map H,Ig K,MapKept.run_findKey K O,MapKept.run_setObj_map _ H,Result.andThen,World.putObj]
  ·simp[N,he]
 ·have hj:j<es.size:=by
   have h1:=B2 List.length he;have h2:=(As.1 N).1;simp at h1;omega
  have W:es[j].key=.string ⟨⟨k⟩⟩:=by
   have h1:=B2 (λl=>l[j]?) he;simp only[EX,N,Bq]at h1;rw[Sg,Array.getElem?_eq_getElem hj]at h1;simp at h1;exact h1.1
  refine⟨es,clock,.map (es.modify j λe=>{e with key:=.string ⟨⟨k⟩⟩,val:=enc v}) clock,H,?_,_,_,Y,?_⟩
  ·have X:(Instr.keyThatStays (.string ⟨⟨k⟩⟩) (.string ⟨⟨k⟩⟩)).run P w=.ok (.string ⟨⟨k⟩⟩) w:=by
    have Z:((⟨⟨k⟩⟩:ByteArray)==⟨⟨k⟩⟩)=true:=by rw[ADb];simp
    simp[Instr.keyThatStays,Instr.sameBits,Z]
   simp[Instr.mapUpdate,run_underlying ht,MapKept.run_getObj_map H,Ig K,MapKept.run_findKey K O,hj,W,X,MapKept.run_setObj_map _ H,Result.andThen,World.putObj]
  ·rw[g4];apply G2;intro n;have h1:=B2 (λl=>l[n]?) he;simp only[EX,Sg]at h1⊢;rw[ACe,H2];by_cases hn:j=n
   ·grind
   ·grind
theorem AGn{enc:α->Value}{l:List (A9×α)}{b:Nat}(h:∃o,w.heap[b]? =some o/\AHi enc l o)(ht:P.underlying t=some (.map y z))(N:P.underlying y=some .string)(k:A9)(ty:TypeId):∃es clock o',w.heap[b]? =some (.map es clock)/\(Builtin.delete_ #[t,y] ty #[.map (some b),.string ⟨⟨k⟩⟩]).run P w=.ok (.tuple #[]) (w.putObj b o')/\AHi enc (AA7 k l) o':=by
 obtain⟨o,H,es,clock,rfl,he⟩:=h;rcases XL enc k es.toList l 0 he with⟨X,O,_,W⟩|⟨j,x,X,O,W,_,Z⟩
 ·refine⟨es,clock,.map es clock,H,?_,_,_,Y,by rw[W];exact he⟩;simp[Builtin.delete_,run_underlying ht,MapKept.run_getObj_map H,Ig N,MapKept.run_findKey N O,MapKept.run_setObj_map _ H,Result.andThen,World.putObj]
 ·refine⟨es,clock,.map (es.eraseIdxIfInBounds j) clock,H,?_,_,_,Y,?_⟩
  ·simp[Builtin.delete_,run_underlying ht,MapKept.run_getObj_map H,Ig N,MapKept.run_findKey N O,MapKept.run_setObj_map _ H,Result.andThen,World.putObj]
  ·rw[Z];have K:∀{β γ:Type}(f:β->γ)(m:List β)(j:Nat),(m.eraseIdx j).map f=(m.map f).eraseIdx j:=by
    intro β γ f m
    induction m with
    |nil=>intro j;rfl|cons a m ih=>intro j;cases j with
     |zero=>rfl|succ j=>simp[ih]
   simp[K,he]
end
theorem XS{w:World}(h:Holds V w){b:Nat}{o':Obj}(z:∀a x,V a=some x->a.block≠b)(h1:1≠b):Holds V (w.putObj b o'):=by
 refine⟨?_,h.t.same (World.putObj_heap_other h1)⟩;intro a x y;have h1:=h a x y;simp only[World.cell?]at h1⊢;rw[World.putObj_heap_other (z a x y)];exact h1
theorem FC.AIJ{α:Type}{w:World}(h:FC V0 FR env V M w){b:Nat}{enc:α->Value}{l l':List (A9×α)}{o':Obj}(hi:M[i]? =some (.ext (FN enc b l)))(K:AHi enc l' o'):FC V0 FR env V (M.set i (.ext (FN enc b l'))) (w.putObj b o'):=by
 have⟨o,N,_⟩:=h.sat i _ hi;have y:=(An.1 N).1;refine h.AMJ hi zp Y Y Y (λk _ O=>World.putObj_heap_other O) ⟨o',World.putObj_heap_same y,K⟩ (λa z=>.inl z) (DI.refl V) (XS h.holds (λa x H e=>?_) λe=>h.tb.ne (h.C1 i _ ⟨1,0,none⟩ hi e) Y) (λa x H=>.inl H) (λa z=>h.DA i _ a hi z);have:=h.DA i _ a hi e;rw[H]at this;cases this
theorem FC.AOL{α:Type}{w:World}(h:FC V0 FR env V M w)(enc:α->Value):FC V0 FR (env++[0]) V (M++[.ext (FN enc w.heap.size [])]) (w.alloc (.map #[] 0)):=by
 have K:∀k,k<w.heap.size->(w.alloc (.map #[] 0)).heap[k]? =w.heap[k]? :=λk Z=>Below.heap_alloc w _ k Z;have hf:∀b o,FR.Bp b=some o->b<w.heap.size:=λb o y=>(An.1 (h.frame b o y)).1;have hold:∀(i:Nat)(o:OB),M[i]? =some o->Bm (env++[0]) i=Bm env i:=λi o y=>Mg (by rw[h.len];exact(As.1 y).1);have z:∀(i:Nat)(o:OB),(M++[OB.ext (FN enc w.heap.size [])])[i]? =some o->M[i]? =some o\/(i=M.length/\o=.ext (FN enc w.heap.size [])):=by grind
 have X:∀a x,V a=some x->a.block<w.heap.size:=λa x W=>World.block_lt_of_cell? w a (h.holds a x W);refine⟨h.os,h.tape,h.output,λb o y=>by rw[K b (hf b o y)];exact h.frame b o y,h.le,⟨λa x W=>by rw[World.cell?_alloc_lt w _ a (X a x W)];exact h.holds a x W,h.holds.t.same (K 1 h.holds.t.lt)⟩,h.fresh,by simp[h.len],?_,?_,?_,?_,h.tb⟩
 ·intro i o y;rcases z i o y with y|⟨hi,rfl⟩
  ·rw[hold i o y];refine LN Y (λx W=>Iv h.len W) (λx W=>DM (λ_=>K1 _) W) (h.sat i o y) λk Z=>K k (Dt (h.sat i o y) Z)
  ·exact⟨_,heap_alloc_new w _,#[],0,Y,Y⟩
 ·intro i o a y N;rcases z i o y with y|⟨hi,rfl⟩
  ·rw[hold i o y]at N;exact h.DA i o a y N
  ·have N:a.block=w.heap.size:=N;cases hv:V a with
   |none=>rfl|some x=>have:=X a x hv;omega
 ·intro i o a y N;rcases z i o y with y|⟨hi,rfl⟩
  ·rw[hold i o y]at N;exact h.C1 i o a y N
  ·have N:a.block=w.heap.size:=N;cases hv:FR.Bp a.block with
   |none=>rfl|some x=>have:=hf _ x hv;omega
 ·intro i j o o' a aa y H N O;rcases z i o y with y|⟨hi,rfl⟩
  ·rw[hold i o y]at N;rcases z j o' H with H|⟨hj,rfl⟩
   ·rw[hold j o' H]at O;exact h.apart i j o o' a aa y H N O
   ·have O:a.block=w.heap.size:=O;have:=Dt (h.sat i o y) N;omega
  ·have N:a.block=w.heap.size:=N;rcases z j o' H with H|⟨hj,rfl⟩
   ·rw[hold j o' H]at O;have:=Dt (h.sat j o' H) O;omega
   ·omega
section
variable {α:Type} {C:Ctx} {o:Oper} {rest all:List Oper} {lr:List B7} {k:List Kt} {L:Fr} {M:List OB} {V:AM} {d:Nat} {enc:α->Value} {l:List (A9×α)}
theorem Qd(enc:α->Value){t:TypeId}(W:CF C.nt all lr L o=some ([],d))(X:o.op=.makeMap t none)(h:∀b,AD C ⟨.ops rest all (⟨d,[],.v (.map (some b)),d⟩::lr)::k,(d,.v (.map (some b)))::L,M++[.ext (FN enc b [])]⟩ V):AD C ⟨.ops (o::rest) all lr::k,L,M⟩ V:=by
 refine AD.of λFR K env t0 w h1 h2 h3 N Z=>?_;have⟨hg,hd,z,hf,_⟩:=EG W;have y:d<t0.size:=by rw[h1];simpa[D1]using z
 have hw:=Ch N hg;show wpList C.P ⟨all⟩ (post C FR K k) (o::rest) ⟨t0,[]⟩ w;refine Cn ?_;rw[if_pos (hw.2 Yt)];refine FT (v:=.map (some w.heap.size)) (w':=w.alloc (.map #[] 0)) (by unfold execOp;simp[X,run_makeMap,Result.andThen]) ?_;have hW:=h2.AOL enc;have O:∀i,C6 M i->C6 (M++[.ext (FN enc w.heap.size [])]) i:=λ_=>K1 _;simp only[Act.put,hd];refine(h w.heap.size).to FR K (env++[0]) (t0.setIfInBounds d (.map (some w.heap.size))) _ (by simpa using h1) hW ?_ ?_ (My.grow ⟨_,Y⟩ (DI.refl V) ⟨_,Y⟩ Z.same)
 ·exact Ng.put (x:=.v (.map (some w.heap.size))) (λs x hx=>by
   have⟨k1,k2⟩:=h3 s x hx;exact⟨by rw[Iv h2.len k2];exact k1,DM O k2⟩) y Yt
 ·refine N3.put (x:=.v (.map (some w.heap.size))) (u:=.map (some w.heap.size)) (λs e he=>?_) y hf (λ_=>Y) (λz=>absurd Yt z) Y (.inl Y) (λ_=>Yt);have⟨k1,k2,k3⟩:=N s e he;exact⟨λH=>⟨by rw[Iv h2.len (k1 H).2];exact(k1 H).1,DM O (k1 H).2⟩,k2,k3⟩
theorem AA8{b:Nat}{x:Operand}{m:Operand}{c:Bool}{t0:Array Value}{w:World}(i:Nat)(h2:FC V0 FR env V M w)(h3:Ng env M L t0)(H:N3 env M lr t0)(hG:Di t0 [])(O:o.op=.lookup t m x c)(hi:nth M i=some (.ext (FN enc b l)))(ht:C.P.underlying t=some (.map y z))(W:C.P.underlying y=some .string)(X:∀w,(zeroValue z).run C.P w=.ok an w)(hm:ev (Et L lr) [] m=some (.v (.map (some b))))(Z:ev (Et L lr) [] x=some (.v (.string ⟨⟨s⟩⟩))):(execOp (⟨t0,[]⟩:Act).eval o).run C.P w=.ok (.value (match c with|true=>.tuple #[((D4 s l).map enc).getD an,.bool (D4 s l).isSome]|false=>((D4 s l).map enc).getD an)) w:=by
 rw[Cc]at hi;have K:=BN (A2 h3 H) hG hm;have N:=BN (A2 h3 H) hG Z;simp only[den]at K N;have:=AGm (P:=C.P) (h2.sat i _ hi) ht W (X w) s c;unfold execOp;simp only[O,K,N,Sem.run_bind,this,Result.andThen_ok];cases c<;>rfl
theorem Po{b:Nat}{x:Operand}{m:Operand}{v:Value}{q:Bool}(i:Nat)(H:CF C.nt all lr L o=some ([],d))(N:o.op=.lookup t m x true)(hi:nth M i=some (.ext (FN enc b l)))(ht:C.P.underlying t=some (.map y z))(O:C.P.underlying y=some .string)(W:∀w,(zeroValue z).run C.P w=.ok an w)(hm:ev (Et L lr) [] m=some (.v (.map (some b))))(X:ev (Et L lr) [] x=some (.v (.string ⟨⟨s⟩⟩)))(hv:((D4 s l).map enc).getD an=v)(Z:(D4 s l).isSome=q)(h:AD C ⟨.ops rest all (⟨d,[],.v (.tuple ⟨[v,.bool q]⟩),d⟩::lr)::k,F9 [] d (.v (.tuple ⟨[v,.bool q]⟩)) L,M⟩ V):AD C ⟨.ops (o::rest) all lr::k,L,M⟩ V:=by
 subst hv;subst Z;exact HY (x:=.v (.tuple ⟨[_,.bool _]⟩)) H (λFR env t0 w h2 h3 h4 hG=>⟨Yt,λK Q hK=>FT (AA8 (c:=true) i h2 h3 h4 hG N hi ht O W hm X) (hK w h2)⟩) h
theorem Ux{b:Nat}{x:Operand}{m:Operand}{v:Value}(i:Nat)(H:CF C.nt all lr L o=some ([],d))(N:o.op=.lookup t m x false)(hi:nth M i=some (.ext (FN enc b l)))(ht:C.P.underlying t=some (.map y z))(O:C.P.underlying y=some .string)(W:∀w,(zeroValue z).run C.P w=.ok an w)(hm:ev (Et L lr) [] m=some (.v (.map (some b))))(X:ev (Et L lr) [] x=some (.v (.string ⟨⟨s⟩⟩)))(hv:((D4 s l).map enc).getD an=v)(h:AD C ⟨.ops rest all (⟨d,[],.v v,d⟩::lr)::k,F9 [] d (.v v) L,M⟩ V):AD C ⟨.ops (o::rest) all lr::k,L,M⟩ V:=by
 subst hv;exact HY (x:=.v _) H (λFR env t0 w h2 h3 Z hG=>⟨Yt,λK Q hK=>FT (AA8 (c:=false) i h2 h3 Z hG N hi ht O W hm X) (hK w h2)⟩) h
theorem Ma{b:Nat}{x m:Operand}{v:α}(i:Nat)(hg:IH all lr o.guard=some [])(hd:o.dst=none)(ho:o.op=.mapUpdate t m x af)(hi:nth M i=some (.ext (FN enc b l)))(ht:C.P.underlying t=some (.map y z))(hk:C.P.underlying y=some .string)(hm:ev (Et L lr) [] m=some (.v (.map (some b))))(hx:ev (Et L lr) [] x=some (.v (.string ⟨⟨s⟩⟩)))(hy:ev (Et L lr) [] af=some (.v (enc v)))(hs:It M i (.ext (FN enc b (NQ s v l)))=some M')(hw:L9 i k=true)(h:AD C ⟨.ops rest all lr::k,L,M'⟩ V):AD C ⟨.ops (o::rest) all lr::k,L,M⟩ V:=by
 obtain⟨_,rfl⟩:=Dg hs;rw[Cc]at hi;refine AD.of λFR O env t0 w h1 h2 h3 H h5=>?_;have N:=Ch H hg;show wpList C.P ⟨all⟩ (post C FR O k) (o::rest) ⟨t0,[]⟩ w;refine Cn ?_;rw[if_pos (N.2 Yt)];have W:=BN (A2 h3 H) (G:=[]) Yt hm;have X:=BN (A2 h3 H) (G:=[]) Yt hx;have Z:=BN (A2 h3 H) (G:=[]) Yt hy;simp only[den]at W X Z;have⟨es,clock,o',_,hr,hO⟩:=AGl (P:=C.P) (h2.sat i _ hi) ht hk s v;refine T4 (w':=w.putObj b o') ?_ ?_
 ·unfold execOp;simp only[ho,W,X,Z,Sem.run_bind,hr,Result.andThen_ok];rfl
 ·simp only[Act.put,hd];have K:∀j,C6 M j->C6 (M.set i (.ext (FN enc b (NQ s v l)))) j:=λj hj=>GO zp hj;exact h.to FR O env t0 _ h1 (h2.AIJ hi hO) (h3.C6 K) (H.C6 K) (My.write hw h5.same)
theorem ABt{b:Nat}{x m:Operand}(i:Nat)(Z:IH all lr o.guard=some [])(hd:o.dst=none)(ho:o.op=.call {callee:=.builtin .delete,args:= #[m,x],argTypes:= #[t,y]})(hi:nth M i=some (.ext (FN enc b l)))(ht:C.P.underlying t=some (.map y z))(hk:C.P.underlying y=some .string)(hm:ev (Et L lr) [] m=some (.v (.map (some b))))(hx:ev (Et L lr) [] x=some (.v (.string ⟨⟨s⟩⟩)))(hs:It M i (.ext (FN enc b (AA7 s l)))=some M')(hw:L9 i k=true)(h:AD C ⟨.ops rest all lr::k,L,M'⟩ V):AD C ⟨.ops (o::rest) all lr::k,L,M⟩ V:=by
 obtain⟨_,rfl⟩:=Dg hs;rw[Cc]at hi;refine AD.of λFR O env t0 w h1 h2 h3 K h5=>?_;have N:=Ch K Z;show wpList C.P ⟨all⟩ (post C FR O k) (o::rest) ⟨t0,[]⟩ w;refine Cn ?_;rw[if_pos (N.2 Yt)];have W:=BN (A2 h3 K) (G:=[]) Yt hm;have X:=BN (A2 h3 K) (G:=[]) Yt hx;simp only[den]at W X;have⟨es,clock,o',_,hr,hO⟩:=AGn (P:=C.P) (h2.sat i _ hi) ht hk s o.type;refine FT (v:=.tuple ⟨[]⟩) (w':=w.putObj b o') ?_ ?_
 ·unfold execOp;simp only[ho,resolve,Ks,B8,Ge,W,X,Sem.run_bind,Sem.run_pure,Result.andThen_ok,invoke,builtin,hr]
 ·simp only[Act.put,hd];have H:∀j,C6 M j->C6 (M.set i (.ext (FN enc b (AA7 s l)))) j:=λj hj=>GO zp hj;exact h.to FR O env t0 _ h1 (h2.AIJ hi hO) (h3.C6 H) (K.C6 H) (My.write hw h5.same)
end
theorem RL{t:TypeId}(h:(P.info? t).bind (λi=>i.zero)=some an)(w:World):(zeroValue t).run P w=.ok an w:=by
 cases hi:P.info? t with
 |none=>rw[hi]at h;cases h|some i=>
  rw[hi]at h;have y:i.zero=some an:=h;simp[zeroValue,typeInfo,hi,y]
theorem Ar{o:Nat}{v:Value}(h:cs[o]? =some v):BE cs o [v]:=by
 intro j u hu;cases j with
 |zero=>simp at hu;subst hu;simpa using h|succ j=>simp at hu
def AJM(b:Nat)(Q:Obj->Prop):Ext where
 own n:=n=b
 sat w:=∃o,w.heap[b]? =some o/\Q o
 lt h hb:=by
  have⟨o,h,_⟩:=h;subst hb;exact(An.1 h).1
 frame hk h:=by
  have⟨o,h,h2⟩:=h;exact⟨o,by rw[hk b Y];exact h,h2⟩
theorem FC.AMg{w:World}(h:FC V0 FR env V M w){b:Nat}{Q Q':Obj->Prop}{o':Obj}(hi:M[i]? =some (.ext (AJM b Q)))(K:Q' o'):FC V0 FR env V (M.set i (.ext (AJM b Q'))) (w.putObj b o'):=by
 have⟨o,N,_⟩:=h.sat i _ hi;have y:=(An.1 N).1;refine h.AMJ hi zp Y Y Y (λk _ O=>World.putObj_heap_other O) ⟨o',World.putObj_heap_same y,K⟩ (λa z=>.inl z) (DI.refl V) (XS h.holds (λa x H e=>?_) λe=>h.tb.ne (h.C1 i _ ⟨1,0,none⟩ hi e) Y) (λa x H=>.inl H) (λa z=>h.DA i _ a hi z);have:=h.DA i _ a hi e;rw[H]at this;cases this
theorem FC.AOF{w:World}(h:FC V0 FR env V M w){Q:Obj->Prop}{o0:Obj}(hq:Q o0):FC V0 FR (env++[0]) V (M++[.ext (AJM w.heap.size Q)]) (w.alloc o0):=by
 have K:∀k,k<w.heap.size->(w.alloc o0).heap[k]? =w.heap[k]? :=λk Z=>Below.heap_alloc w _ k Z;have hf:∀b o,FR.Bp b=some o->b<w.heap.size:=λb o y=>(An.1 (h.frame b o y)).1;have hold:∀(i:Nat)(o:OB),M[i]? =some o->Bm (env++[0]) i=Bm env i:=λi o y=>Mg (by rw[h.len];exact(As.1 y).1);have z:∀(i:Nat)(o:OB),(M++[OB.ext (AJM w.heap.size Q)])[i]? =some o->M[i]? =some o\/(i=M.length/\o=.ext (AJM w.heap.size Q)):=by grind
 have X:∀a x,V a=some x->a.block<w.heap.size:=λa x W=>World.block_lt_of_cell? w a (h.holds a x W);refine⟨h.os,h.tape,h.output,λb o y=>by rw[K b (hf b o y)];exact h.frame b o y,h.le,⟨λa x W=>by rw[World.cell?_alloc_lt w _ a (X a x W)];exact h.holds a x W,h.holds.t.same (K 1 h.holds.t.lt)⟩,h.fresh,by simp[h.len],?_,?_,?_,?_,h.tb⟩
 ·intro i o y;rcases z i o y with y|⟨hi,rfl⟩
  ·rw[hold i o y];refine LN Y (λx W=>Iv h.len W) (λx W=>DM (λ_=>K1 _) W) (h.sat i o y) λk Z=>K k (Dt (h.sat i o y) Z)
  ·exact⟨_,heap_alloc_new w _,hq⟩
 ·intro i o a y N;rcases z i o y with y|⟨hi,rfl⟩
  ·rw[hold i o y]at N;exact h.DA i o a y N
  ·have N:a.block=w.heap.size:=N;cases hv:V a with
   |none=>rfl|some x=>have:=X a x hv;omega
 ·intro i o a y N;rcases z i o y with y|⟨hi,rfl⟩
  ·rw[hold i o y]at N;exact h.C1 i o a y N
  ·have N:a.block=w.heap.size:=N;cases hv:FR.Bp a.block with
   |none=>rfl|some x=>have:=hf _ x hv;omega
 ·intro i j o o' a aa y H N O;rcases z i o y with y|⟨hi,rfl⟩
  ·rw[hold i o y]at N;rcases z j o' H with H|⟨hj,rfl⟩
   ·rw[hold j o' H]at O;exact h.apart i j o o' a aa y H N O
   ·have O:a.block=w.heap.size:=O;have:=Dt (h.sat i o y) N;omega
  ·have N:a.block=w.heap.size:=N;rcases z j o' H with H|⟨hj,rfl⟩
   ·rw[hold j o' H]at O;have:=Dt (h.sat j o' H) O;omega
   ·omega
def ABC(b:Nat)(s:A9)(pos:Nat):Ext:=AJM b λo=>o=.stringIter ⟨⟨s⟩⟩ pos
section
variable {C:Ctx} {o:Oper} {rest all:List Oper} {lr:List B7} {k:List Kt} {L:Fr} {M:List OB} {V:AM} {d:Nat}
theorem AL4{t:TypeId}{x:Operand}(Z:CF C.nt all lr L o=some ([],d))(ho:o.op=.range t x)(ht:C.P.underlying t=some .string)(z:ev (Et L lr) [] x=some (.v (.string ⟨⟨s⟩⟩)))(h:∀b,AD C ⟨.ops rest all (⟨d,[],.v (.pointer (some ⟨b,0,none⟩)),d⟩::lr)::k,(d,.v (.pointer (some ⟨b,0,none⟩)))::L,M++[.ext (ABC b s 0)]⟩ V):AD C ⟨.ops (o::rest) all lr::k,L,M⟩ V:=by
 refine AD.of λFR O env t0 w h1 h2 h3 H h5=>?_;have⟨hg,hd,K,hf,_⟩:=EG Z;have y:d<t0.size:=by rw[h1];simpa[D1]using K
 have hw:=Ch H hg;show wpList C.P ⟨all⟩ (post C FR O k) (o::rest) ⟨t0,[]⟩ w;refine Cn ?_;rw[if_pos (hw.2 Yt)];have W:=BN (A2 h3 H) (G:=[]) Yt z;simp only[den]at W;refine FT (v:=.pointer (some ⟨w.heap.size,0,none⟩)) (w':=w.alloc (.stringIter ⟨⟨s⟩⟩ 0)) (by
  unfold execOp;simp[ho,W,Instr.range,run_underlying ht,Result.andThen]) ?_
 have hW:=h2.AOF (Q:=λo=>o=.stringIter ⟨⟨s⟩⟩ 0) (o0:=.stringIter ⟨⟨s⟩⟩ 0) Y;have X:∀i,C6 M i->C6 (M++[.ext (ABC w.heap.size s 0)]) i:=λ_=>K1 _;simp only[Act.put,hd];refine(h w.heap.size).to FR O (env++[0]) (t0.setIfInBounds d (.pointer (some ⟨w.heap.size,0,none⟩))) _ (by simpa using h1) hW ?_ ?_ (My.grow ⟨_,Y⟩ (DI.refl V) ⟨_,Y⟩ h5.same)
 ·exact Ng.put (x:=.v (.pointer (some ⟨w.heap.size,0,none⟩))) (λs x z=>by
   have⟨k1,k2⟩:=h3 s x z;exact⟨by rw[Iv h2.len k2];exact k1,DM X k2⟩) y Yt
 ·refine N3.put (x:=.v (.pointer (some ⟨w.heap.size,0,none⟩))) (u:=.pointer (some ⟨w.heap.size,0,none⟩)) (λs e he=>?_) y hf (λ_=>Y) (λK=>absurd Yt K) Y (.inl Y) (λ_=>Yt);have⟨k1,k2,k3⟩:=H s e he;exact⟨λN=>⟨by rw[Iv h2.len (k1 N).2];exact(k1 N).1,DM X (k1 N).2⟩,k2,k3⟩
theorem AHm(i:Nat){x:Operand}{b:Nat}(hh:CF C.nt all lr L o=some ([],d))(ho:o.op=.next x true)(hx:ev (Et L lr) [] x=some (.v (.pointer (some ⟨b,0,none⟩))))(hi:nth M i=some (.ext (ABC b s y)))(hp:y<s.length)(hs:It M i (.ext (ABC b s (y+(Utf8.decode ⟨⟨s⟩⟩ y).2)))=some M')(K:L9 i k=true)(h:AD C ⟨.ops rest all (⟨d,[],.v (.tuple ⟨[.bool true,.int .i64 (y:Nat),.int .i32 (Utf8.decode ⟨⟨s⟩⟩ y).1]⟩),d⟩::lr)::k,(d,.v (.tuple ⟨[.bool true,.int .i64 (y:Nat),.int .i32 (Utf8.decode ⟨⟨s⟩⟩ y).1]⟩))::L,M'⟩ V):AD C ⟨.ops (o::rest) all lr::k,L,M⟩ V:=by
 obtain⟨_,rfl⟩:=Dg hs;rw[Cc]at hi;refine AD.of λFR X env t0 w h1 h2 h3 N h5=>?_;have⟨hg,hd,O,hf,_⟩:=EG hh;have z:d<t0.size:=by rw[h1];simpa[D1]using O
 have hw:=Ch N hg;show wpList C.P ⟨all⟩ (post C FR X k) (o::rest) ⟨t0,[]⟩ w;refine Cn ?_;rw[if_pos (hw.2 Yt)];have Z:=BN (A2 h3 N) (G:=[]) Yt hx;simp only[den]at Z;obtain⟨o',hb,rfl⟩:=h2.sat i _ hi;have W:y<(⟨⟨s⟩⟩:ByteArray).size:=hp;refine FT (v:=.tuple ⟨[.bool true,.int .i64 (y:Nat),.int .i32 (Utf8.decode ⟨⟨s⟩⟩ y).1]⟩) (w':=w.putObj b (.stringIter ⟨⟨s⟩⟩ (y+(Utf8.decode ⟨⟨s⟩⟩ y).2))) (by
  have:=Go.Lib.run_next_any_at (P:=C.P) w b ⟨⟨s⟩⟩ y o.type hb W;unfold execOp;simp only[ho,Z,Sem.run_bind,this,Result.andThen_ok];rfl) ?_
 simp only[Act.put,hd];have H:∀j,C6 M j->C6 (M.set i (.ext (ABC b s (y+(Utf8.decode ⟨⟨s⟩⟩ y).2)))) j:=λj hj=>GO zp hj;exact h.to FR X env (t0.setIfInBounds d _) _ (by simpa using h1) (h2.AMg hi Y) ((h3.C6 H).put (x:=.v (.tuple ⟨[.bool true,.int .i64 (y:Nat),.int .i32 (Utf8.decode ⟨⟨s⟩⟩ y).1]⟩)) z Yt) ((N.C6 H).put z hf (λ_=>Y) (λO=>absurd Yt O) Y (.inl Y) (λ_=>Yt)) (My.write K h5.same)
theorem AHn(i:Nat){x:Operand}{b:Nat}(H:CF C.nt all lr L o=some ([],d))(N:o.op=.next x true)(O:ev (Et L lr) [] x=some (.v (.pointer (some ⟨b,0,none⟩))))(hi:nth M i=some (.ext (ABC b s y)))(hp:¬y<s.length)(h:AD C ⟨.ops rest all (⟨d,[],.v (.tuple ⟨[.bool false]⟩),d⟩::lr)::k,F9 [] d (.v (.tuple ⟨[.bool false]⟩)) L,M⟩ V):AD C ⟨.ops (o::rest) all lr::k,L,M⟩ V:=by
 rw[Cc]at hi;refine HY (x:=.v (.tuple ⟨[.bool false]⟩)) H (λFR env t0 w h2 h3 W hG=>⟨Yt,λK Q X=>FT ?_ (X w h2)⟩) h;have z:=BN (A2 h3 W) hG O;simp only[den]at z;obtain⟨o',Z,rfl⟩:=h2.sat i _ hi;have:=Go.Lib.run_next_end_at (P:=C.P) w b ⟨⟨s⟩⟩ y o.type Z hp;unfold execOp;simp only[N,z,Sem.run_bind,this,Result.andThen_ok];rfl
end
def Hz(_:AM):Prop:=True
theorem Hz.mono(_:Hz V)(_:DI V V'):Hz V':=trivial
theorem AHz:(Go.Lib.pow10Tab.map λz=>Value.int .u64 z).toArray=ANS:=by
 unfold Go.Lib.pow10Tab ANS;rw[JI];rfl
theorem Y3.is{w:World}(h:Y3 w):Go.Lib.TabIs Tryz.prog w "internal/strconv.uint64pow10" .u64 Go.Lib.pow10Tab:=by
 have⟨t,f,h⟩:=h;unfold Go.Lib.TabIs World.var?;rw[show Tryz.prog.globalNamed "internal/strconv.uint64pow10"=some 1 by kernel_rfl];simp only[Option.bind_some,h,AHz]
theorem Y3.of{w:World}(h:Go.Lib.TabIs Tryz.prog w "internal/strconv.uint64pow10" .u64 Go.Lib.pow10Tab):Y3 w:=by
 unfold Go.Lib.TabIs World.var? at h;rw[show Tryz.prog.globalNamed "internal/strconv.uint64pow10"=some 1 by kernel_rfl]at h;simp only[Option.bind_some,AHz]at h;split at h
 ·rename_i cs t f e;cases h;exact⟨_,_,e⟩
 ·cases h
structure Gk where
 st:Int
 code:Int
 ADw:A9
def AI4(s:Gk):Value:=.agg ⟨[.int .i64 s.st,.int .i64 s.code,.slice none 0 0,.string ⟨⟨s.ADw⟩⟩]⟩
def AEu(t:Nat)(s:Gk):List PanicEntry:=[{v:=.iface t (AI4 s),recovered:=false}]
def Pv{α:Type}(t:Nat)(f:α->Value):Except Gk α->Ending
 |.ok v=>.returned (f v)|.error s=>.panicked (AEu t s)
def I9{α ρ:Type}(x:Except Gk α)(k1:Gk->AA ρ)(k2:α->AA ρ):AA ρ:=match x with
 |.error s=>k1 s|.ok v=>k2 v
theorem EM{α ρ:Type}{x:Except Gk α}{k1:Gk->AA ρ}{k2:α->AA ρ}{r:ρ}(h:I9 x k1 k2=some r):(∃s,x=.error s/\k1 s=some r)\/∃v,x=.ok v/\k2 v=some r:=by
 cases x with
 |error s=>exact .inl ⟨s,Y,h⟩|ok v=>exact .inr ⟨v,Y,h⟩
section
variable {C:Ctx} {o:Oper} {rest all:List Oper} {lr:List B7} {k:List Kt} {L:Fr} {M:List OB} {V:AM} {d f:Nat} {args:List Value} {bs:List OB} {α:Type} {g:α->Value} {t0:Nat}
theorem AD.GC(is:List Nat){Q:AM->List OB->Prop}{x:Except Gk α}{s:Gk}(N:CF C.nt all lr L o=some ([],d))(O:Gc (Et L lr) [] o.op=some (f,args))(hi:Dh M is=some bs)(z:Cx bs=true)(H:FU is=true)(W:Mt k is=true)(X:GP C.P f args bs V (λV' e M'=>Q V' M'/\e=Pv t0 g x))(Z:x=.error s)(h:∀V' y,DI V V'->Q V' y->∃M',EV M is y=some M'/\C.PR V' (AEu t0 s) M'):AD C ⟨.ops (o::rest) all lr::k,L,M⟩ V:=by
 subst Z;exact AD.ABM is N O hi z H W X (λV' v y hv K=>by cases K.2) λV' p y hv K=>by
  have⟨h1,h2⟩:=K;cases h2;exact h V' y hv h1
theorem AD.GB(is:List Nat){Q:AM->List OB->Prop}{x:Except Gk α}{y:α}(O:CF C.nt all lr L o=some ([],d))(W:Gc (Et L lr) [] o.op=some (f,args))(hi:Dh M is=some bs)(H:Cx bs=true)(K:FU is=true)(X:Mt k is=true)(Z:GP C.P f args bs V (λV' e M'=>Q V' M'/\e=Pv t0 g x))(hx:x=.ok y)(h:∀V' z,DI V V'->Q V' z->∃M',EV M is z=some M'/\AD C ⟨.ops rest all (⟨d,[],.v (g y),d⟩::lr)::k,(d,.v (g y))::L,M'⟩ V'):AD C ⟨.ops (o::rest) all lr::k,L,M⟩ V:=by
 subst hx;exact AD.ABM is O W hi H K X Z (λV' v z hv N=>by
  have⟨h1,h2⟩:=N;cases h2;exact h V' z hv h1) λV' p z hv N=>by cases N.2
theorem AD.HT(is:List Nat){Q:AM->List OB->Prop}{v:Value}(N:CF C.nt all lr L o=some ([],d))(O:Gc (Et L lr) [] o.op=some (f,args))(hi:Dh M is=some bs)(z:Cx bs=true)(H:FU is=true)(W:Mt k is=true)(X:GP C.P f args bs V (λV' e M'=>Q V' M'/\e=.returned v))(h:∀V' y,DI V V'->Q V' y->∃M',EV M is y=some M'/\AD C ⟨.ops rest all (⟨d,[],.v v,d⟩::lr)::k,(d,.v v)::L,M'⟩ V'):AD C ⟨.ops (o::rest) all lr::k,L,M⟩ V:=
 AD.ABM is N O hi z H W X (λV' v y hv K=>by
  have⟨h1,h2⟩:=K;cases h2;exact h V' y hv h1) λV' p y hv K=>by cases K.2
end
section
variable {C:Ctx} {o:Oper} {rest all:List Oper} {lr:List B7} {k:List Kt} {L:Fr} {M:List OB} {V:AM} {d f:Nat} {args:List Value}
def X2(el sz n:Nat)(y:AM->List Value->Prop)(V:AM)(e:Ending)(M:List OB):Prop:=∃a k cs,M=[.row (.slice a n k) cs el sz]/\y V cs/\e=.returned (.slice a n k)
theorem Mb(i:Nat){s0:Nat}(K:CF C.nt all lr L o=some ([],d))(N:Gc (Et L lr) [] o.op=some (f,args))(hi:nth M i=some (.row an O y s0))(W:L9 i k=true)(X:GP C.P f args [.row an O y s0] V (X2 z sz n bo))(h:∀V' a c cs,DI V V'->bo V' cs->∃M',It M i (.row (.slice a n c) cs z sz)=some M'/\AD C ⟨.ops rest all (⟨d,[],.v (.slice a n c),d⟩::lr)::k,(d,.v (.slice a n c))::L,M'⟩ V'):AD C ⟨.ops (o::rest) all lr::k,L,M⟩ V:=
 AD.ABM [i] K N (by simp[Dh,hi]) Y Y (by simp[Mt,W]) X (λV' v Z hv H=>by
  obtain⟨a,c,cs,rfl,h1,h2⟩:=H;cases h2;have⟨M',g1,g2⟩:=h V' a c cs hv h1;exact⟨M',by simp[EV,g1],g2⟩) λV' p Z hv H=>by
  have⟨a,c,cs,_,_,h2⟩:=H;cases h2
end
def MK{α:Type}(R:α->List Value->Prop)(sz:Nat)(V:AM)(a:AA Addr)(k:Nat)(l:List α):Prop:=l.length<=k/\∀(i:Nat)(x:α),l[i]? =some x->∃cs,R x cs/\Bi V a (i*sz) cs
theorem MK.nil{α:Type}{R:α->List Value->Prop}{a:AA Addr}{k:Nat}:MK R sz V a k []:=⟨By _,λi x h=>by simp at h⟩
theorem MK.imp{α:Type}{R y:α->List Value->Prop}{a:AA Addr}{k:Nat}{l:List α}(h:MK R sz V a k l)(hv:DI V V')(hR:∀x cs,R x cs->y x cs):MK y sz V' a k l:=
 ⟨h.1,λi x z=>by
  have⟨cs,h1,h2⟩:=h.2 i x z;exact⟨cs,hR x cs h1,h2.mono hv⟩⟩
theorem Y6{α:Type}{R:Nat->α->List Value->Prop}(hm:∀n m x cs,n<=m->R n x cs->R m x cs){a:AA Addr}{k:Nat}{l:List α}(h:MK (λx cs=>∃n,R n x cs) sz V a k l):∃N,MK (R N) sz V a k l:=by
 have⟨h0,h⟩:=h;have:∀m,m<=l.length->∃N,∀i x,i<m->l[i]? =some x->∃cs,R N x cs/\Bi V a (i*sz) cs:=by
  intro m
  induction m with
  |zero=>intro _;exact⟨0,λi x hi=>by omega⟩
  |succ m H=>
   intro K;have⟨N,z⟩:=H ox;have⟨cs,⟨n,W⟩,X⟩:=h m l[m] zp;refine⟨max N n,λi x hi y=>?_⟩;by_cases O:i=m
   ·grind
   ·grind
 have⟨N,z⟩:=this l.length (Nat.le_refl _);exact⟨N,h0,λi x y=>z i x (As.1 y).1 y⟩
end
variable {bs' X:List OB} {aR aS:OB} {g c e j m m' n0:Nat} {aa:G6} {kd:IntKind} {listed:List Bool} {ends mask:List Nat} {V1:AM} {G:List (Nat×Bool)}
section
open Go.RowKit
def C2(bs:List OB):Ext where
 own b:=∃o∈bs,GA o=true/\o.own 0 ⟨b,0,none⟩
 sat w:=(∀o∈bs,GA o=true/\o.sat [] [] w 0)/\∀(i j:Nat)(o q:OB)(b:Nat),i≠j->bs[i]? =some o->bs[j]? =some q->o.own 0 ⟨b,0,none⟩->¬q.own 0 ⟨b,0,none⟩
 lt h hb:=by
  have⟨o,ho,_,hb⟩:=hb;exact Dt (h.1 o ho).2 hb
 frame hk h:=⟨λo ho=>⟨(h.1 o ho).1,LN Y (λ_ _=>Y) (λ_ hx=>hx) (h.1 o ho).2 λk hb=>hk k ⟨o,ho,(h.1 o ho).1,hb⟩⟩,h.2⟩
theorem FC.ZR{w:World}(h:FC V0 FR env V M w)(hi:Dh M az=some bs)(hp:Cx bs=true)(O:Cx bs'=true)(hn:FU az=true)(hM:EV M az bs'=some M')(hs:(∀o∈bs,o.sat [] [] w 0)->(∀(i j:Nat)(o q:OB)(b:Nat),i≠j->bs[i]? =some o->bs[j]? =some q->o.own 0 ⟨b,0,none⟩->¬q.own 0 ⟨b,0,none⟩)->(∀o∈bs',o.sat [] [] w 0)/\(∀o∈bs',∀b,o.own 0 ⟨b,0,none⟩->∃q∈bs,q.own 0 ⟨b,0,none⟩)/\∀(i j:Nat)(o q:OB)(b:Nat),i≠j->bs'[i]? =some o->bs'[j]? =some q->o.own 0 ⟨b,0,none⟩->¬q.own 0 ⟨b,0,none⟩):FC V0 FR env V M' w/\(∀i,C6 M i->C6 M' i):=by
 have⟨hlen,aa⟩:=IV hi;have⟨e1,e2,e3,e4⟩:=QC hM (λb hb=>by
  have⟨j,hj⟩:=CC.1 hb;exact ZS (CQ O hj))
 have hold:∀(j:Nat)(o:OB),bs[j]? =some o->∃i,az[j]? =some i/\M[i]? =some o:=aa;have⟨k1,k2,k3⟩:=hs (λo ho=>by
  have⟨j,hj⟩:=CC.1 ho;have⟨i,_,y⟩:=hold j o hj;exact Iu (CQ hp hj) (h.sat i o y)) (λi j o q b W ho K z hb=>by
  have⟨i1,N,y⟩:=hold i o ho;have⟨j1,g3,H⟩:=hold j q K;exact h.apart i1 j1 o q _ (λe=>W (No hn N (e▸g3))) y H ((B5 (CQ hp ho)).1 z) ((B5 (CQ hp K)).1 hb))
 have X:∀(p:Nat)(q:OB)(b:Nat)(a:Addr),bs'[p]? =some q->q.own b a->∃(i:Nat)(o:OB),i∈az/\M[i]? =some o/\o.own (Bm env i) a:=by
  intro p q b a K z;have ad:=CQ O K;have⟨o,ho,hb⟩:=k2 q (BP K) a.block (D9 (a:=a) (a':=⟨a.block,0,none⟩) Y ((B5 ad).1 z));have⟨j,hj⟩:=CC.1 ho;have⟨i,N,y⟩:=hold j o hj;exact⟨i,o,BP N,y,D9 (a:=⟨a.block,0,none⟩) (a':=a) Y ((B5 (CQ hp hj)).1 hb)⟩
 refine⟨⟨h.os,h.tape,h.output,h.frame,h.le,h.holds,h.fresh,by rw[h.len,e1],?_,?_,?_,?_,h.tb⟩,e4⟩
 ·intro j q K;rcases e3 j q K with⟨p,N,y⟩|⟨N,y⟩
  ·exact Iu (CQ O y) (k1 q (BP y))
  ·exact LN Y (λ_ _=>Y) (λx=>DM e4) (h.sat j q y) λ_ _=>Y
 ·intro j q a K z;rcases e3 j q K with⟨p,N,y⟩|⟨N,y⟩
  ·have⟨i,o,_,H,g5⟩:=X p q _ a y z;exact h.DA i o a H g5
  ·exact h.DA j q a y z
 ·intro j q a K z;rcases e3 j q K with⟨p,N,y⟩|⟨N,y⟩
  ·have⟨i,o,_,H,g5⟩:=X p q _ a y z;exact h.C1 i o a H g5
  ·exact h.C1 j q a y z
 ·intro j j' q q' a W K ab z Z;rcases e3 j q K with⟨p,N,y⟩|⟨N,y⟩
  ·rcases e3 j' q' ab with⟨p',g3,H⟩|⟨g3,H⟩
   ·exact k3 p p' q q' a.block (λe=>W (by subst e;rw[N]at g3;simpa using g3)) y H (D9 (a:=a) (a':=⟨a.block,0,none⟩) Y ((B5 (CQ O y)).1 z)) (D9 (a:=a) (a':=⟨a.block,0,none⟩) Y ((B5 (CQ O H)).1 Z))
   ·have⟨i,o,k4,k5,k6⟩:=X p q _ a y z;exact h.apart i j' o q' a (λe=>g3 (e▸k4)) k5 H k6 Z
  ·rcases e3 j' q' ab with⟨p',g3,H⟩|⟨g3,H⟩
   ·have⟨i,o,k4,k5,k6⟩:=X p' q' _ a H Z;exact h.apart j i q o a (λe=>N (e▸k4)) y k5 z k6
   ·exact h.apart j j' q q' a W y H z Z
theorem AD.ZR(is:List Nat)(hi:Dh M is=some bs)(hp:Cx bs=true)(z:Cx bs'=true)(K:FU is=true)(N:Mt k is=true)(H:EV M is bs'=some M')(O:∀w:World,(∀o∈bs,o.sat [] [] w 0)->(∀(i j:Nat)(o q:OB)(b:Nat),i≠j->bs[i]? =some o->bs[j]? =some q->o.own 0 ⟨b,0,none⟩->¬q.own 0 ⟨b,0,none⟩)->(∀o∈bs',o.sat [] [] w 0)/\(∀o∈bs',∀b,o.own 0 ⟨b,0,none⟩->∃q∈bs,q.own 0 ⟨b,0,none⟩)/\∀(i j:Nat)(o q:OB)(b:Nat),i≠j->bs'[i]? =some o->bs'[j]? =some q->o.own 0 ⟨b,0,none⟩->¬q.own 0 ⟨b,0,none⟩)(h:AD C ⟨.ops rest all lr::k,L,M'⟩ V):AD C ⟨.ops rest all lr::k,L,M⟩ V:=by
 refine AD.of λFR W env t w h1 h2 h3 X Z=>?_;have⟨hW,y⟩:=h2.ZR hi hp z K H (O w);exact h.to FR W env t w h1 hW (h3.C6 y) (X.C6 y) (Pq H N Z.same)
theorem U1{b:Nat}:¬OB.Sk.own b ⟨b',0,none⟩:=by simp[OB.own,Value.ownBlock]
theorem ADX{w:World}{b:Nat}:OB.Sk.sat env M w b:=⟨0,World.ownsRow_nil _ _ _ _⟩
theorem ZA(i:Nat){o:OB}(hi:nth M i=some o)(hp:GA o=true)(H:L9 i k=true)(K:It M i (.ext (C2 [o]))=some M')(h:AD C ⟨.ops rest all lr::k,L,M'⟩ V):AD C ⟨.ops rest all lr::k,L,M⟩ V:=by
 refine AD.ZR [i] (bs:=[o]) (bs':=[.ext (C2 [o])]) (by simp[Dh,hi]) (by simp[Cx,hp]) Y Y (by simp[Mt,H]) (by simp[EV,K]) (λw h1 h2=>⟨?_,?_,?_⟩) h
 ·intro q y;simp only[List.mem_singleton]at y;subst y;exact⟨λq y=>by simp only[List.mem_singleton]at y;subst y;exact⟨hp,h1 _ zp⟩,h2⟩
 ·intro q y b z;simp only[List.mem_singleton]at y;subst y;have⟨x,N,_,z⟩:=z;exact⟨x,N,z⟩
 ·intro i j q X b O y W;rcases i with _|i<;>rcases j with _|j<;>simp_all
theorem Uw(i:Nat){o:OB}(hi:nth M i=some (.ext (C2 [o])))(hp:GA o=true)(z:L9 i k=true)(H:It M i o=some M')(h:AD C ⟨.ops rest all lr::k,L,M'⟩ V):AD C ⟨.ops rest all lr::k,L,M⟩ V:=by
 refine AD.ZR [i] (bs:=[.ext (C2 [o])]) (bs':=[o]) (by simp[Dh,hi]) Y (by simp[Cx,hp]) Y (by simp[Mt,z]) (by simp[EV,H]) (λw h1 h2=>⟨?_,?_,?_⟩) h
 ·intro q y;exact((h1 _ (List.mem_singleton.2 Y)).1 q y).2
 ·intro q y b K;exact⟨_,List.mem_singleton.2 Y,q,y,by simp only[List.mem_singleton]at y;subst y;exact hp,K⟩
 ·intro i j q W b N y O;rcases i with _|i<;>rcases j with _|j<;>simp_all
theorem AD.AE7(i j:Nat)(N:FU [i,j]=true){o q:OB}(hi:nth M i=some o)(hj:nth M j=some q)(hp:GA o=true)(hq:GA q=true)(hk:L9 i k=true)(O:L9 j k=true)(W:It M i (.ext (C2 [o,q]))=some X)(hM:It X j .Sk=some M')(h:AD C ⟨.ops rest all lr::k,L,M'⟩ V):AD C ⟨.ops rest all lr::k,L,M⟩ V:=by
 refine AD.ZR [i,j] (bs:=[o,q]) (bs':=[.ext (C2 [o,q]),.Sk]) (by simp[Dh,hi,hj]) (by simp[Cx,hp,hq]) Y N (by simp[Mt,hk,O]) (by simp[EV,W,hM]) (λw h1 h2=>⟨?_,?_,?_⟩) h
 ·intro x z;simp only[Aj,BY,D3]at z;rcases z with rfl|rfl
  ·exact⟨λx z=>⟨by simp only[Aj,BY,D3]at z;rcases z with rfl|rfl;exact hp;exact hq,h1 x z⟩,h2⟩
  ·exact ADX
 ·intro x z b H;simp only[Aj,BY,D3]at z;rcases z with rfl|rfl
  ·have⟨y,K,_,H⟩:=H;exact⟨y,K,H⟩
  ·exact absurd H U1
 ·intro i j x y b Z z K ha H;rcases i with _|_|i<;>rcases j with _|_|j<;>simp at z K Z
  ·subst z;subst K;exact U1 H
  ·subst z;subst K;exact U1 ha
theorem Uv(i j:Nat)(H:FU [i,j]=true){o q:OB}(hi:nth M i=some (.ext (C2 [o,q])))(Z:nth M j=some .Sk)(hp:GA o=true)(hq:GA q=true)(hk:L9 i k=true)(K:L9 j k=true)(N:It M i o=some X)(hM:It X j q=some M')(h:AD C ⟨.ops rest all lr::k,L,M'⟩ V):AD C ⟨.ops rest all lr::k,L,M⟩ V:=by
 refine AD.ZR [i,j] (bs:=[.ext (C2 [o,q]),.Sk]) (bs':=[o,q]) (by simp[Dh,hi,Z]) Y (by simp[Cx,hp,hq]) H (by simp[Mt,hk,K]) (by simp[EV,N,hM]) (λw h1 h2=>⟨?_,?_,?_⟩) h
 ·intro x z;exact((h1 (.ext (C2 [o,q])) zp).1 x z).2
 ·intro x z b O;exact⟨.ext (C2 [o,q]),by simp,x,z,((h1 (.ext (C2 [o,q])) zp).1 x z).1,O⟩
 ·intro i j x y b W z hy ha O;exact(h1 (.ext (C2 [o,q])) zp).2 i j x y b W z hy ha O
theorem GP.AE7(h:GP P f args [aR,aS] V R)(ad:GA aR=true)(ae:GA aS=true):GP P f args [.ext (C2 [aR,aS])] V (λV' e M'=>∃q1 q2,M'=[.ext (C2 [q1,q2])]/\R V' e [q1,q2]):=by
 refine⟨h.1,λFR env w K=>?_⟩;have hs:(C2 [aR,aS]).sat w:=K.sat 0 _ Y;have W:∀(i:Nat)(o:OB)(b:Nat)(a:Addr),[aR,aS][i]? =some o->o.own b a->(OB.ext (C2 [aR,aS])).own (Bm env 0) a:=by
  intro i o b a y z;have hm:=BP y;have hp:=(hs.1 o hm).1;exact⟨o,hm,hp,D9 (a:=a) (a':=⟨a.block,0,none⟩) Y ((B5 hp).1 z)⟩
 have ab:FC V FR [0,0] V [aR,aS] w:=by
  refine⟨K.os,K.tape,K.output,K.frame,K.le,K.holds,K.fresh,Y,?_,?_,?_,?_,K.tb⟩
  ·intro i o y;have hm:=BP y;exact Iu (hs.1 o hm).1 (hs.1 o hm).2
  ·intro i o a y z;exact K.DA 0 _ a Y (W i o _ a y z)
  ·intro i o a y z;exact K.C1 0 _ a Y (W i o _ a y z)
  ·intro i j o q a N y X z aa;exact hs.2 i j o q a.block N y X (D9 (a:=a) (a':=⟨a.block,0,none⟩) Y ((B5 (hs.1 o (BP y)).1).1 z)) (D9 (a:=a) (a':=⟨a.block,0,none⟩) Y ((B5 (hs.1 q (BP X)).1).1 aa))
 refine(h.2 FR [0,0] w ab).mono λe w' ⟨V',env',M',p0,p1,p2,H,p4⟩=>?_;obtain⟨q1,q2,rfl⟩:∃q1 q2,M'=[q1,q2]:=by
  match M',p2 with
  |[q1,q2],_=>exact⟨q1,q2,Y⟩
 refine⟨V',[0],[.ext (C2 [q1,q2])],p0,Y,Y,?_,q1,q2,Y,p4⟩;have O:∀o∈[q1,q2],GA o=true:=λo y=>by
  have⟨j,Z⟩:=CC.1 y;exact CQ p1 Z
 refine⟨H.os,H.tape,H.output,H.frame,H.le,H.holds,H.fresh,Y,?_,?_,?_,?_,H.tb⟩
 ·intro i o y;cases i with
  |zero=>
   simp at y;subst y;refine⟨λo y=>⟨O o y,?_⟩,λi j o q b N y X z hb=>?_⟩
   ·have⟨j,Z⟩:=CC.1 y;exact Iu (O o y) (H.sat j o Z)
   ·exact H.apart i j o q _ N y X ((B5 (O o (BP y))).1 z) ((B5 (O q (BP X))).1 hb)
  |succ i=>simp at y
 ·intro i o a y z;cases i with
  |zero=>
   simp at y;subst y;have⟨o,y,hp,hb⟩:=z;have⟨j,Z⟩:=CC.1 y;exact H.DA j o a Z (D9 (a:=⟨a.block,0,none⟩) (a':=a) Y ((B5 hp).1 hb))
  |succ i=>simp at y
 ·intro i o a y z;cases i with
  |zero=>
   simp at y;subst y;have⟨o,y,hp,hb⟩:=z;have⟨j,Z⟩:=CC.1 y;exact H.C1 j o a Z (D9 (a:=⟨a.block,0,none⟩) (a':=a) Y ((B5 hp).1 hb))
  |succ i=>simp at y
 ·intro i j o q a N y X z aa;cases i with
  |zero=>
   cases j with
   |zero=>exact absurd Y N|succ j=>simp at X
  |succ i=>simp at y
theorem PN(hT:K2 C.P C.T)(i:Nat){s:Nat}{l:List Int}(H:C.fn.results=⟨[.cell s t]⟩)(Z:EF L s=some (.v (.pointer (some ⟨g,0,none⟩))))(hi:nth M i=some (.row (.slice (some ⟨g,0,none⟩) n c) cs e 1))(ht:nth C.T t=some aa)(K:aa.size=n)(h0:Nat.blt 0 n=true)(N:aa.RI.agg=true)(hr:AF (CD kd) V l cs)(hR:C.R V (.agg ⟨l.map (Value.int kd)⟩) M):AD C ⟨.code .ret::k,L,M⟩ V:=by
 refine AD.of λFR DF env t0 w h1 h2 h3 _ _=>wp_ret ?_;refine O0 ⟨Y,.agg ⟨l.map (Value.int kd)⟩,?_,.inl ⟨_,env,V,M,Y,h2,hR⟩⟩ k _;rw[Cc]at hi;have z:EU w e 1 (.slice (some ⟨g,0,none⟩) n c) cs:=h2.sat i _ hi;have h0:0<n:=by simpa[D1]using h0
 have⟨cur,k2,k3,k4,k5,r1,k6⟩:=Ju z;have⟨a1,_⟩:=h3 s _ Z;simp only[den]at a1;have b1:t0.getD s undef=.pointer (some ⟨g,0,none⟩):=by simp[a1]
 have y:=run_loadCells_list (P:=C.P) w ⟨g,0,none⟩ cs (λj v hv=>by
  have:=Hf (off:=0) (l:=cs) z Y (λj v hv=>by simpa using hv) j v hv;rw[Addr.add_lit];simpa using this)
 have O:cs.length=n:=ox
 rw[O]at y;have W:(loadVar t ⟨g,0,none⟩).run C.P w=.ok (.agg ⟨cs⟩) w:=by
  simp only[loadVar,Sem.run_bind,AAj hT w ht ox,Result.andThen_ok,N,IW,Lf hT w ht ox,K,y,Sem.run_pure]
 have has:(asAddr (Value.pointer (some ⟨g,0,none⟩))).run C.P w=.ok ⟨g,0,none⟩ w:=Y;have X:results C.fn t0=(⟨[.cell s t]⟩:Array ResultVar).mapM (AAu t0)>>=λvs=>(pure (if h:vs.size=1 then vs[0]else .tuple vs):Sem Value):=by
  unfold results;rw[H];rfl
 rw[X,YA];simp only[R1,List.mapM_nil,AAu,b1,Sem.run_bind,Sem.run_map,has,W,Sem.run_pure,Result.andThen_ok,hr.ints];rfl
theorem ABu{d:Nat}(hT:K2 C.P C.T)(i:Nat){p:List (Nat×Bool)}{l:List Int}(N:Qm C.nt all lr j L=some (o,G,d))(hm:m'=m+1)(O:WS C.T (Et L lr) G o.op=some (some ⟨g,0,none⟩,0,aa))(z:nth M i=some (.row (.slice (some ⟨g,0,none⟩) n c) cs e 1))(hi:nth (Sd mask 0 n0 M) i=some (.row (.slice (some ⟨g,0,none⟩) n c) cs e 1))(W:AF (CD kd) V l cs)(H:aa.size=n)(K:aa.RI.agg=true)(h:l.length=n->AD C ⟨.draw ⟨all,Ha listed j,m,ends,n0,mask,V1,p,⟨d,G,.v (.agg ⟨l.map (.int kd)⟩),d⟩::lr⟩::k,F9 G d (.v (.agg ⟨l.map (.int kd)⟩)) L,M⟩ V):AD C ⟨.draw ⟨all,listed,m',ends,n0,mask,V1,(j,true)::p,lr⟩::k,L,M⟩ V:=by
 have y:=W.ints;refine CX i z (λra _ _=>?_);have hl:l.length=n:=by rw[y]at ra;simpa using ra
 exact AD.Jw hT i (l:=cs) (x:=.agg ⟨l.map (.int kd)⟩) N hm O hi (λj v X=>by simpa using X) (by rw[ra,H,AEY]) (by rw[K,y];rfl) (h hl)
end
variable {Q Q':Exit->Act->World->Prop} {K aM next':Act->World->Prop} {ak:List SV} {vs:List Value} {x b1:Value} {au:Array Value} {rs:List ResultVar} {bg:Fn} {ρ:Operand->Value}
section
open Go.RowKit Go.Proofs
theorem AEj{ops:Array Oper}{ro:AA Nat}{ds:List Deferred}(y:∀e a w,Q e a w->e=.normal)(z:∀a w,K a w->aM (PE ds a) w)(H:∀o∈ops.toList,∀c,o.op≠ .defer c){a:Act}{w:World}(h:wpOp P ops Q i K a w):wpOpIn (FW ro) n P ops Q' i aM (PE ds a) w:=by
 unfold wpOp at h;unfold wpOpIn;split at h
 ·grind
 ·rename_i o hi;rw[hi];have ht:(PE ds a).tmps=a.tmps:=Y;simp only[ht];split at h
  ·rename_i hw;rw[if_pos hw];rcases h with h|⟨_,a0,w0,h⟩
   ·exact AE9 (H o (by rw[<- Sg]at hi;exact BP hi)) h z y
   ·exact absurd (y _ _ _ h) zp
  ·rename_i hw;rw[if_neg hw];refine⟨λ_ _=>Yt,?_⟩;have:=z _ _ h;rwa[LL]at this
theorem Wv{P:Program}{ops:Array Oper}{md:Region.Mode}{ro:AA Nat}{ds:List Deferred}{n:Nat}{Q Q':Exit->Act->World->Prop}(z:∀e a w,Q e a w->e=.normal)(y:∀a w,Q .normal a w->Q' .normal (PE ds a) w)(H:∀o∈ops.toList,∀c,o.op≠ .defer c):∀(fuel:Nat)(listed:Array Bool)(a:Act)(w:World),wpAny P md ops Q fuel listed a w->wpAnyIn (FW ro) n P md ops Q' fuel listed (PE ds a) w
 |0,listed,a,w,h=>⟨h.1,y a w h.2⟩|fuel+1,listed,a,w,h=>⟨λe=>y a w (h.1 e),λi hi=>AEj z (λa w h=>Wv z y H fuel _ a w h) H (h.2 i hi)⟩
theorem QJ.drawn{ds:List Deferred}{a:Act}{w:World}(h:QJ nt V0 FR ds L V M a w)(hT:K2 P T)(I:Fr->AM->List OB->Prop)(es ms:List Nat)(Ih:List (Nat×Bool)){ops:List Oper}{id:Nat}{ro:AA Nat}(hp:Hg ops es (N6 ops) (UY ops) Ih=true)(H:AD (JX P T fn nt V0) ⟨[.draw ⟨ops,UY ops,N6 ops,es,N6 M,ms,V,Ih,[]⟩,.inLoop I],L,M⟩ V)(K:YW ops=true)(N:∀L' V' M' a' w',I L' V' M'->QJ nt V0 FR ds L' V' M' a' w'->Q .normal a' w'):(Code.region id ⟨ops⟩ true).wpIn (FW ro) n P Q a w:=by
 have⟨t,d⟩:=a;have⟨env,h2,h3⟩:=h.st;have y:d=ds:=h.df;subst y;have O:FC V0 FR env V M {w with drawn:=w.drawn+1}:=⟨h2.os,h2.tape,h2.output,h2.frame,h2.le,⟨h2.holds.c,h2.holds.t⟩,h2.fresh,h2.len,λi o W=>Wk (w:=w) (w':={w with drawn:=w.drawn+1}) (M:=M) (show({w with drawn:=w.drawn+1}:World).heap=w.heap from rfl) (h2.sat i o W),h2.DA,h2.C1,h2.apart,h2.tb⟩;have:=H.to FR ⟨env,V,Sd ms 0 (N6 M) M⟩ env t {w with drawn:=w.drawn+1} h.sz O h3 (N3.nil env _ t)
  (⟨⟨[],by simp⟩,h2.len.trans (Mf M).symm,Vf (Mf M),Y,DI.refl V,⟨M,(Mf M).symm,λi cs ty hi=>(h2.sat i _ ((Sr _ _ _ _ _ _ hi).2 zp)).2⟩,λ_=>Y,hp⟩:Pp ⟨env,V,Sd ms 0 (N6 M) M⟩ ⟨ops,UY ops,N6 ops,es,N6 M,ms,V,Ih,[]⟩ env V M)
 refine wpIn_region_any hT.2 ?_;have z:=Sh _ _ _ _ this.2;rw[Mf,AEA]at z;have X:=Wv (ro:=ro) (ds:=d) (n:=n) (Q':=Q) (λe a w h=>(Pb h).1) (λa w' hp=>by
  have⟨L',V',M',k1,k2⟩:=(Pb hp).2;refine N L' V' M' _ w' k2 ⟨?_,k1.sz,k1.st⟩;simp[PE,k1.df]) (QE K) _ _ _ _ z
 exact X
def muS(s:Nat)(n:Nat)(a:Act):Nat:=match a.tmps[s]? with
 |some (.int _ i)=>((n:Int)-i).toNat|_=>0
theorem PJ.muS{α:Type}{J:α->AM->World->Prop}{pre:α}{a:Act}{w:World}(h:PJ J nt L V pre a w){s:Nat}{i:Int}(n:Nat)(y:EF L s=some (.v (.int .i64 i))):muS s n a=((n:Int)-i).toNat:=by
 have h1:a.tmps[s]? =some (.int .i64 i):=(h.lk s _ y).1;simp[Go.Proofs.YthjnkknigpkldaaGreatDoor.muS,h1]
theorem QJ.muS{ds:List Deferred}{a:Act}{w:World}(h:QJ nt V0 FR ds L V M a w){s:Nat}{i:Int}(n:Nat)(y:EF L s=some (.v (.int .i64 i))):muS s n a=((n:Int)-i).toNat:=by
 have⟨env,_,z⟩:=h.st;have h1:a.tmps[s]? =some (.int .i64 i):=(z s _ y).1;simp[Go.Proofs.YthjnkknigpkldaaGreatDoor.muS,h1]
theorem ZB(i:Nat){L':Nat->Fr}(K:Kw k=true)(hi:nth M i=some (.Bp ak y))(hv:Oo ak=some vs)(N:It M i .Sk=some M')(O:∀b,Rp i b L=L' b)(h:∀V' b,DI V V'->Bi V' (some ⟨b,0,none⟩) 0 vs->AD C ⟨k,L' b,M'⟩ V'):AD C ⟨k,L,M⟩ V:=by
 obtain⟨_,rfl⟩:=Dg N;rw[Cc]at hi;refine AD.of λFR W env t w h1 h2 h3 h4 h5=>?_;have⟨V',X,Z,hW⟩:=h2.ADq hi hv;have z:∀q,C6 M q->C6 (M.set i .Sk) q:=λq hq=>GO zp hq;refine(h V' (Bm env i) X Z).to0 K (env:=env) h1 hW (λs x H=>?_) W;rw[<- O]at H;have⟨aa,k1,k2,k3⟩:=RN (b:=Bm env i) Y H;have⟨k4,k5⟩:=h3 s aa k1;exact⟨by rw[k4,k2],DM z (k3 M k5)⟩
def ANT(P:Program)(g:Nat)(al K:Array Value)(xs:List Value)(V0:AM)(r1 r2:Value):Prop:=
 ∀(l:Nat)(J:AA (List Value)->AM->World->Prop)(V:AM)(W:World),DI V0 V->JOk J->
  (∀pre x rest V1 z,xs=pre++x::rest->J (some pre) V1 z->YieldAt Fence.wide 0 P l #[x] z λe y=>∃b H,e=.returned (.bool b)/\DI V1 H/\J (if b then some (pre++[x])else none) H y)->
  J (some []) V W->Calls P g (al++ #[.func (.yield l) #[] #[]]++K) W λe y=>∃V',DI V V'/\((e=.returned r1/\J (some xs) V' y)\/(e=.returned r2/\J none V' y))
theorem PJ.ANj{α:Type}{J:α->AM->World->Prop}{s:α}{a:Act}{w:World}(h:PJ J nt L V s a w){d:Nat}{args:Array Operand}{vs:Array Value}{all:Array Oper}{ts:Array TypeId}(Z:o.op=.call ⟨.value (.func f),args,ts⟩)(H:o.dst=some d)(hg:o.guard=none)(N:d<nt)(O:args.map a.eval=vs)(eg:∀args w,(callFunc f args).run P w=.ok (.enter f args) w){R:Ending->World->Prop}(hC:Calls P f vs w R)(hR:∀e y,R e y->∃x W X,e=.returned x/\J X W y/\∀a',PJ J nt ((d,.v x)::L) W X a' y->wpListIn Fence.wide 0 P all Q rest a' y):wpListIn Fence.wide 0 P all Q (o::rest) a w:=by
 refine wpListIn_plain hg (λK hK=>?_);refine⟨λ_ _=>Yt,?_⟩;have hs:(o.semAt Fence.wide.round a.eval)=execOp a.eval o:=Oper.semAt_none _ _;rw[hs];have z:(execOp a.eval o).run P w=.ok (.enter f vs) w:=by
  simp only[execOp,Z];simp[go_sem,resolve,invoke,O,eg]
 rw[z];refine⟨λhh=>by simp[Fence.wide]at hh,?_⟩;refine callsIn_wide.2 (hC.mono λe y hr=>?_);obtain⟨x,W,X,rfl,hj,hk⟩:=hR e y hr;refine hK _ _ (hk _ ⟨?_,?_,?_,hj⟩)
 ·simp[Act.put,H,h.df]
 ·simp[Act.put,H,h.sz]
 ·have:=h.lk.put (x:=.v x) (d:=d) (by rw[h.sz];exact N) Yt;simpa[Act.put,H,den]using this
theorem PJ.AN8{α:Type}{J:α->AM->World->Prop}{s:α}{a:Act}{w:World}(h:PJ J nt L V s a w){R:Ending->World->Prop}(y:fn.results=⟨[.tmp t]⟩)(hl:EF L t=some (.v x))(hR:R (.returned x) w):a.defers=[]/\∃v,(results fn a.tmps).run P w=.ok v w/\R (.returned v) w:=by
 refine⟨h.df,x,?_,hR⟩;have⟨a1,_⟩:=h.lk t _ hl;simp only[den]at a1;have H:a.tmps.getD t undef=x:=by simp[a1]
 have z:results fn a.tmps=(⟨[.tmp t]⟩:Array ResultVar).mapM (AAu a.tmps)>>=λvs=>(pure (if h:vs.size=1 then vs[0]else .tuple vs):Sem Value):=by
  unfold results;rw[y];rfl
 rw[z,YA];simp only[R1,List.mapM_nil,AAu,H,Sem.run_bind,Sem.run_map,Sem.run_pure,Result.andThen_ok];rfl
def marks:List Nat->List Deferred
 |[]=>[]|D::Ds=>{target:=.collected D,args:= #[]}::marks Ds
def KC.Wc(FR:KC):List Nat->KC
 |[]=>FR|D::Ds=>(FR.Wc Ds).add D (.deferred (some []))
def MOk(FR:KC):List Nat->Prop
 |[]=>True|D::Ds=>(FR.Wc Ds).Bp D=none/\MOk FR Ds
section
variable {P:Program} {nt:Nat} {V0 V:AM} {FR:KC} {L:Fr} {M:List OB} {a:Act} {w:World} {Q:Exit->Act->World->Prop}
theorem QJ.AN9{Ds:List Nat}(h:QJ nt V0 (FR.Wc Ds) (marks Ds) L V M a w){g:Operand}{p:Tmp}{assign body:Code}{xs:List Value}(hg:a.eval g=.func (.func y) #[] au)(eg:∀args w,(callFunc y args).run P w=.ok (.enter y args) w)(aA:ANT P y #[] au xs V an b1)(hL:WH L=true)(aJ:p<nt)(I:List Value->AM->List OB->Prop)(hI:∀s V V' M,DI V V'->I s V M->I s V' M)(h0:I [] V M)(R:AM->List OB->Prop)(hR:∀V V' M,DI V V'->R V M->R V' M)(I2:List Value->Value->Fr->AM->List OB->Prop)(ae:∀(l:Nat)(ad:KC)(pre:List Value)(x:Value)(rest:List Value)(V1:AM)(M1:List OB)(a1:Act)(Z:World)(K:Act->World->Prop),xs=pre++x::rest->DI V V1->I pre V1 M1->QJ nt V0 ad [] ((p,.v x)::L) V1 M1 a1 Z->(∀L2 V2 M2 a2 W2,DI V1 V2->I2 pre x L2 V2 M2->QJ nt V0 ad [] L2 V2 M2 a2 W2->K a2 W2)->assign.wpIn (FW (some l)) 0 P (Exit.then K (λ_ _ _=>False)) a1 Z)(ar:∀(l:Nat)(ad:KC)(pre:List Value)(x:Value)(rest:List Value)(L2:Fr)(V1:AM)(M1:List OB)(a1:Act)(Z:World)(Q1:Exit->Act->World->Prop),xs=pre++x::rest->DI V V1->I2 pre x L2 V1 M1->QJ nt V0 ad [] L2 V1 M1 a1 Z->(∀L3 V3 M3 a3 W3,DI V1 V3->I (pre++[x]) V3 M3->QJ nt V0 ad [] L3 V3 M3 a3 W3->Q1 .normal a3 W3)->(∀L3 V3 M3 a3 W3,DI V1 V3->R V3 M3->QJ nt V0 ad [] L3 V3 M3 a3 W3->Q1 .ret a3 W3)->body.wpIn (FW (some l)) 0 P Q1 a1 Z)(af:∀(D:Nat)(V':AM)(M':List OB)(a':Act)(W':World),(FR.Wc Ds).Bp D=none->DI V V'->I xs V' M'->QJ nt V0 (FR.Wc (D::Ds)) (marks (D::Ds)) L V' M' a' W'->Q .normal a' W')(ag:∀(D:Nat)(V':AM)(M':List OB)(a':Act)(W':World),(FR.Wc Ds).Bp D=none->DI V V'->R V' M'->QJ nt V0 (FR.Wc (D::Ds)) (marks (D::Ds)) L V' M' a' W'->Q .ret a' W'):(Code.rangeFunc g #[p] assign body).wpIn Fence.wide n P Q a w:=by
 obtain⟨FS,av⟩:∃FS,FS=FR.Wc Ds:=⟨_,Y⟩;have aB:∀D,FR.Wc (D::Ds)=FS.add D (.deferred (some [])):=λD=>by rw[av];rfl
 have aC:∀D,marks (D::Ds)={target:=.collected D,args:= #[]}::marks Ds:=λD=>Y;simp only[aB,aC]at af ag;rw[<- av]at h af ag;clear aB aC av;have⟨env,hW,aD⟩:=h.st;have aK:Fence.wide.round=none:=Y;refine wpIn_rangeFunc ?_;intro fn aL;rw[aK];obtain⟨rec,N⟩:∃rec:LoopState->AA Code->Loop,rec=λst pe=>{state:=st,pending:=pe,fn,tmps:=a.tmps,params:= #[p],assign,body,defers:=w.heap.size}:=⟨_,Y⟩;obtain⟨Z,al⟩:∃Z,(w.alloc (.deferred (some []))).alloc (.loop (rec .ready none))=Z:=⟨_,Y⟩;have aE:Below w.heap.size w Z:=by
  rw[<- al];exact((Below.refl _ w).alloc (Nat.le_refl _) _).alloc zp _
 have aM:Z.heap[w.heap.size+1]? =some (.loop (rec .ready none)):=by
  rw[<- al];have:=World.alloc_heap_new (w.alloc (.deferred (some []))) (.loop (rec .ready none));rwa[World.size_alloc]at this
 have aN:Z.heap[w.heap.size]? =some (.deferred (some [])):=by
  rw[<- al];exact(Below.heap_alloc _ _ _ zp).trans (World.alloc_heap_new w _)
 have aw:∀k,w.heap.size<=k->FS.Bp k=none:=λk hk=>by
  cases hf:FS.Bp k with
  |none=>rfl|some o=>have:=(An.1 (hW.frame k o hf)).1;omega
 obtain⟨W,H⟩:∃W:LoopState->AA Code->KC,W=λst pe=>(FS.add w.heap.size (.deferred (some []))).add (w.heap.size+1) (.loop (rec st pe)):=⟨_,Y⟩;have X:∀st pe,(W st pe).Bp (w.heap.size+1)=some (.loop (rec st pe)):=λst pe=>by rw[H];simp[H3]
 have aa:∀{st st':LoopState}{pe pe':AA Code}{env':List Nat}{V':AM}{M':List OB}{W':World},FC V0 (W st pe) env' V' M' W'->FC V0 (W st' pe') env' V' M' (W'.putObj (w.heap.size+1) (.loop (rec st' pe'))):=λ{st st' pe pe' env' V' M' W'}hw=>by
  refine hw.ANw (X st pe) Y (by rw[H];rfl) (by rw[H];rfl) (by rw[H];rfl) (λb x O=>?_) (λb hb=>?_) (by have:=hw.tb;rw[H]at this⊢;exact this.re Y)
  ·by_cases e:b=w.heap.size+1
   ·grind
   ·rw[if_neg e];rw[H]at O⊢;simpa[H3,e]using O
  ·rw[H]at hb⊢;simp only[H3]at hb⊢;split at hb
   ·cases hb
   ·rename_i e;rw[if_neg e];exact hb
 have aO:FC V0 (W .ready none) env V M Z:=by
  refine(hW.grow aE (DI.refl V) (UR hW.holds aE) (λa x h=>.inl h)).AN0 (by rw[H];rfl) (by rw[H];rfl) (by rw[H];rfl) (λb x O=>?_) (λi E b x hi O=>by
   have aP:E.own b->b<w.heap.size:=E.lt (hW.sat i _ hi);rw[H]at O;simp only[H3]at O;split at O
   ·grind
   ·split at O
    ·exact .inr (λh=>by have:=aP h;omega)
    ·exact .inl O) (by rw[H];exact(hW.tb.add hW.holds.t.lt).add (by have:=hW.holds.t.lt;omega))
  rw[H]at O;simp only[H3]at O;split at O
  ·rename_i e;subst e;cases O;exact .inr ⟨aM,Y⟩
  ·split at O
   ·rename_i e;subst e;cases O;exact .inr ⟨aN,Y⟩
   ·exact .inl O
 obtain⟨J,ab⟩:∃J:AA (List Value)->AM->World->Prop,J=λs V' W'=>DI V V'/\∃env' M',(match s with|some s=>FC V0 (W .ready none) env' V' M' W'/\I s V' M'|none=>FC V0 (W .done (some .ret)) env' V' M' W'/\R V' M'):=⟨_,Y⟩;have hJ:JOk J:=by
  subst ab;refine⟨λs V' W' ⟨_,env',M',k⟩=>?_,λs V' W' V2 W2 ⟨k0,env',M',k⟩ hb hv hh hn=>⟨k0.trans hv,env',M',?_⟩⟩
  ·cases s with
   |none=>exact k.1.holds|some s=>exact k.1.holds
  ·cases s with
   |none=>exact⟨k.1.grow hb hv hh hn,hR V' V2 M' hv k.2⟩|some s=>exact⟨k.1.grow hb hv hh hn,hI s V' V2 M' hv k.2⟩
 refine⟨w.heap.size+1,[{target:=.collected w.heap.size,args:= #[]}],Z,{target:=.fn (.func y) au,args:= #[.func (.yield (w.heap.size+1)) #[] #[]]},Z,y,
  #[]++ #[.func (.yield (w.heap.size+1)) #[] #[]]++au,Z,?_,?_,?_,?_,λhh=>by simp[Fence.wide]at hh,?_⟩
 ·rw[<- al,N];exact run_enterLoop_outer _ _ _ _ _
 ·simp only[resolve,hg];simp[go_sem]
 ·intro f' aU;trivial
 ·simp[invoke,go_sem,eg]
 ·refine callsIn_wide.2 ((aA (w.heap.size+1) J V Z (DI.refl V) hJ (λpre x rest V1 W2 O hj=>?_) (by rw[ab];exact⟨DI.refl V,env,M,aO,h0⟩)).mono ?_)
  ·rw[ab]at hj;have⟨ao,ah,M1,aF,aQ⟩:=hj;have hl:=aF.frame _ _ (X .ready none);refine⟨fn,a.tmps.setIfInBounds p x,assign,body,?_,roundIn_of_wpIn aL ?_⟩
   ·have:=run_yield (P:=P) (args:= #[x]) hl (by rw[N];rfl);rw[this,N];simp
   ·have aG:Ng ah M1 ((p,.v x)::L) (a.tmps.setIfInBounds p x):=by
     have:=(aD.plain (env':=ah) (M':=M1) hL).put (x:=.v x) (d:=p) (by rw[h.sz];exact aJ) Yt;simpa[den]using this
    refine ae (w.heap.size+1) (W .ready none) pre x rest V1 M1 _ W2 _ O ao aQ ⟨Y,by simp[h.sz],ah,aF,aG⟩ (λL2 V2 M2 a2 W3 ai aR ax=>?_);have⟨aH,aI,aS⟩:=ax.st;have hl2:=aI.frame _ _ (X .ready none);have aT:(.loop {rec .ready none with state:=.busy}:Obj)=.loop (rec .busy none):=by rw[N]
    refine⟨_,run_beginRound hl2 (by rw[N]),?_⟩;rw[aT];refine ar (w.heap.size+1) (W .busy none) pre x rest L2 V2 M2 a2 _ _ O (ao.trans ai) aR ⟨ax.df,ax.sz,aH,aa aI,aS⟩ (λL3 V3 M3 a3 W4 aj ay az=>?_) (λL3 V3 M3 a3 W4 aj ay az=>?_)
    ·have⟨ak,hWd,_⟩:=az.st;have a6:=hWd.frame _ _ (X .busy none);have a7:(.loop {rec .busy none with state:=.ready,pending:=none}:Obj)=.loop (rec .ready none):=by rw[N]
     refine⟨_,_,run_endRound none a6,true,V3,Y,ai.trans aj,?_⟩;rw[ab];refine⟨ao.trans (ai.trans aj),ak,M3,?_,ay⟩;have:=aa (st':=.ready) (pe':=none) hWd;rw[<- a7]at this;simpa using this
    ·have⟨ak,hWd,_⟩:=az.st;have a6:=hWd.frame _ _ (X .busy none);have a7:(.loop {rec .busy none with state:=.done,pending:=some .ret}:Obj)=.loop (rec .done (some .ret)):=by rw[N]
     refine⟨_,_,run_endRound (some .ret) a6,false,V3,Y,ai.trans aj,?_⟩;rw[ab];refine⟨ao.trans (ai.trans aj),ak,M3,?_,ay⟩;have:=aa (st':=.done) (pe':=some .ret) hWd;rw[<- a7]at this;simpa using this
  ·have fin:∀{st:LoopState}{pe:AA Code}{env5:List Nat}{V5:AM}{M5:List OB}{W5:World},FC V0 (W st pe) env5 V5 M5 W5->QJ nt V0 (FS.add w.heap.size (.deferred (some []))) ({target:=.collected w.heap.size,args:= #[]}::marks Ds) L V5 M5 {a with defers:=[{target:=.collected w.heap.size,args:= #[]}]++a.defers} (W5.putObj (w.heap.size+1) (.loop {rec st pe with state:=.exhausted})):=by
    intro st pe env5 V5 M5 W5 hW5;refine⟨?_,h.sz,env5,?_,aD.plain hL⟩
    ·show[_]++a.defers=_;rw[h.df];rfl
    ·refine hW5.ANw (X st pe) Y (by rw[H];rfl) (by rw[H];rfl) (by rw[H];rfl) (λb x O=>?_) (λb hb=>?_) (by have:=hW5.tb;rw[H]at this;exact this.APA Y)
     ·by_cases e:b=w.heap.size+1
      ·subst e;simp only[H3]at O;rw[if_neg ox,aw _ ox]at O;cases O
      ·rw[if_neg e,H];simpa[H3,e]using O
     ·rw[H]at hb;simp only[H3]at hb⊢;split at hb
      ·cases hb
      ·exact hb
   rintro e W5 ⟨V5,aq,(⟨rfl,hj⟩|⟨rfl,hj⟩)⟩
   ·rw[ab]at hj;have⟨aq,env5,M5,hW5,a8⟩:=hj;have hE:=run_endLoop (P:=P) (hW5.frame _ _ (X .ready none)) (by rw[N];simp);have hE:=hE.trans (B2 (λz=>Result.ok z _) (show(rec .ready none).pending=none by rw[N]));exact⟨none,_,hE,af w.heap.size V5 M5 _ _ (aw _ (Nat.le_refl _)) aq a8 (fin hW5)⟩
   ·rw[ab]at hj;have⟨aq,env5,M5,hW5,a8⟩:=hj;have hE:=run_endLoop (P:=P) (hW5.frame _ _ (X .done (some .ret))) (by rw[N];simp);have hE:=hE.trans (B2 (λz=>Result.ok z _) (show(rec .done (some .ret)).pending=(some .ret) by rw[N]));exact⟨some .ret,_,hE,wpIn_ret (ag w.heap.size V5 M5 _ _ (aw _ (Nat.le_refl _)) aq a8 (fin hW5))⟩
def AKh(T:List G6)(L:Fr)(M:List OB):List ResultVar->List Value->Prop
 |[],[]=>True|.cell s t::r,x::l=>(∃g i c e sz cs d,EF L s=some (.v (.pointer (some ⟨g,0,none⟩)))/\nth M i=some (.row (.slice (some ⟨g,0,none⟩) 1 c) cs e sz)/\nth T t=some d/\((d.RI.agg=false/\d.size=1/\cs=[x])\/(d.RI.agg=true/\d.size=cs.length/\cs≠[]/\x=.agg ⟨cs⟩)))/\AKh T L M r l|_,_=>False
theorem AAs{T:List G6}(hT:K2 P T){env:List Nat}{t:Array Value}(X:FC V0 FR env V M w)(Z:Ng env M L t):∀(rs:List ResultVar)(vs:List Value),AKh T L M rs vs->(rs.mapM (AAu t)).run P w=.ok vs w
 |[],[],h=>by simp
 |[],_::_,h=>h.elim|.tmp _::_,_,h=>by simp[AKh]at h
 |.cell _ _::_,[],h=>h.elim|.cell s ty::r,x::l,h=>by
  have⟨⟨g,i,c,e,sz,cs,d,hs,hi,ht,hx⟩,h⟩:=h;have ih:=AAs hT X Z r l h;rw[Cc]at hi;have N:EU w e sz (.slice (some ⟨g,0,none⟩) 1 c) cs:=X.sat i _ hi;have⟨a1,_⟩:=Z s _ hs;simp only[den]at a1;have b1:t.getD s undef=.pointer (some ⟨g,0,none⟩):=by simp[a1]
  have y:=Hf (off:=0) (l:=cs) N Y (λj v hv=>by simpa using hv);have z:=run_loadCells_list (P:=P) w ⟨g,0,none⟩ cs (λj v hv=>by
   have:=y j v hv;rw[Addr.add_lit];simpa using this)
  have O:(loadVar ty ⟨g,0,none⟩).run P w=.ok x w:=by
   rcases hx with⟨H,K,rfl⟩|⟨H,K,W,rfl⟩
   ·simp only[loadVar,Sem.run_bind,AAj hT w ht ox,Result.andThen_ok,H,Lf hT w ht ox,K,z,Sem.run_pure];have hc:w.cell? ⟨g,0,none⟩=some x:=by
     have:=y 0 x Y;simpa using this
    simp[hc,go_sem]
   ·have aa:cs.length≠0:=by simpa using W
    simp only[loadVar,Sem.run_bind,AAj hT w ht ox,Result.andThen_ok,H,IW,Lf hT w ht ox,K,z,Sem.run_pure]
  have has:(asAddr (Value.pointer (some ⟨g,0,none⟩))).run P w=.ok ⟨g,0,none⟩ w:=Y;simp only[R1,AAu,b1,Sem.run_bind,has,O,Sem.run_pure,Result.andThen_ok,ih]
theorem AAt(hT:K2 P T){t:Array Value}(y:fn.results=⟨rs⟩)(z:FC V0 FR env V M w)(H:Ng env M L t)(hv:AKh T L M rs vs):(results fn t).run P w=.ok (UC vs) w:=by
 have:=AAs hT z H rs vs hv;have K:results fn t=(⟨rs⟩:Array ResultVar).mapM (AAu t)>>=λvs=>(pure (if h:vs.size=1 then vs[0]else .tuple vs):Sem Value):=by
  unfold results;rw[y];rfl
 rw[K,YA];simp only[Sem.run_bind,Sem.run_map,this,Result.andThen_ok,Sem.run_pure]
 congr 1
 cases vs with
 |nil=>rfl|cons x l=>cases l<;>rfl
theorem TS{T:List G6}(hT:K2 P T){n:Nat}{fn:Func}{rs:List ResultVar}{vs:List Value}{R:Ending->World->Prop}(y:fn.results=⟨rs⟩):∀{Ds:List Nat}{a:Act}{w:World},MOk FR Ds->QJ nt V0 (FR.Wc Ds) (marks Ds) L V M a w->AKh T L M rs vs->(∀env w',FC V0 FR env V M w'->R (.returned (UC vs)) w')->LeavesInM Fence.wide n P fn a.tmps R (marks Ds) .returning w
 |[],a,w,_,h,hv,hR=>by
  have⟨env,H,z⟩:=h.st;exact⟨_,AAt hT y H z hv,hR env w H⟩
 |D::Ds,a,w,hm,h,hv,hR=>by
  have⟨env,H,z⟩:=h.st;have K:∀b,(FR.Wc (D::Ds)).Bp b=if b=D then some (.deferred (some []))else(FR.Wc Ds).Bp b:=λb=>Y
  have X:=H.frame D (.deferred (some [])) (by rw[K,if_pos Y]);have O:FC V0 (FR.Wc Ds) env V M (w.putObj D (.deferred none)):=H.ANw (o:=.deferred (some [])) (by rw[K,if_pos Y]) Y Y Y Y (λb x W=>by
   by_cases e:b=D
   ·subst e;rw[hm.1]at W;cases W
   ·rw[if_neg e,K,if_neg e];exact W) (λb N=>by
   rw[K]at N;split at N
   ·cases N
   ·exact N) (Q5.APA (show Q5 ((FR.Wc Ds).add D (.deferred (some [])))from H.tb) Y)
  exact⟨by simp,.inl ⟨D,_,Y,run_takeDeferred X,TS hT y (a:=⟨a.tmps,marks Ds⟩) hm.2 ⟨Y,h.sz,env,O,z⟩ hv hR⟩⟩
end
theorem AGw(h:∀o∈bs,GA o=true):Cx bs=true:=by
 induction bs with
 |nil=>rfl|cons o bs y=>
  simp only[Cx,h o zp];exact y λo z=>h o (by simp[z])
theorem FC.AH8{w:World}(h:FC V0 FR env V bs w)(hp:Cx bs=true):FC V0 FR [0] V [.ext (C2 bs)] w:=by
 have z:∀o∈bs,GA o=true:=λo y=>by
  have⟨j,H⟩:=CC.1 y;exact CQ hp H
 refine⟨h.os,h.tape,h.output,h.frame,h.le,h.holds,h.fresh,Y,?_,?_,?_,?_,h.tb⟩
 ·intro i o y;cases i with
  |zero=>
   simp at y;subst y;refine⟨λo y=>⟨z o y,?_⟩,λi j o q b O y W K N=>?_⟩
   ·have⟨j,H⟩:=CC.1 y;exact Iu (z o y) (h.sat j o H)
   ·exact h.apart i j o q _ O y W ((B5 (z o (BP y))).1 K) ((B5 (z q (BP W))).1 N)
  |succ i=>simp at y
 ·intro i o a y K;cases i with
  |zero=>
   simp at y;subst y;have⟨o,y,hp,N⟩:=K;have⟨j,H⟩:=CC.1 y;exact h.DA j o a H (D9 (a:=⟨a.block,0,none⟩) (a':=a) Y ((B5 hp).1 N))
  |succ i=>simp at y
 ·intro i o a y K;cases i with
  |zero=>
   simp at y;subst y;have⟨o,y,hp,N⟩:=K;have⟨j,H⟩:=CC.1 y;exact h.C1 j o a H (D9 (a:=⟨a.block,0,none⟩) (a':=a) Y ((B5 hp).1 N))
  |succ i=>simp at y
 ·grind
theorem FC.Ww{w:World}(z:FC V0 FR env V [.ext (C2 bs)] w):Cx bs=true/\FC V0 FR (List.replicate bs.length 0) V bs w:=by
 have K:(C2 bs).sat w:=z.sat 0 _ Y;have H:∀(i:Nat)(o:OB)(b:Nat)(a:Addr),bs[i]? =some o->o.own b a->(OB.ext (C2 bs)).own (Bm env 0) a:=by
  intro i o b a y N;have hm:=BP y;have hp:=(K.1 o hm).1;exact⟨o,hm,hp,D9 (a:=a) (a':=⟨a.block,0,none⟩) Y ((B5 hp).1 N)⟩
 refine⟨AGw λo y=>(K.1 o y).1,z.os,z.tape,z.output,z.frame,z.le,z.holds,z.fresh,by simp,?_,?_,?_,?_,z.tb⟩
 ·intro i o y;have hm:=BP y;exact Iu (K.1 o hm).1 (K.1 o hm).2
 ·intro i o a y N;exact z.DA 0 _ a Y (H i o _ a y N)
 ·intro i o a y N;exact z.C1 0 _ a Y (H i o _ a y N)
 ·intro i j o q a O y X N W;exact K.2 i j o q a.block O y X (D9 (a:=a) (a':=⟨a.block,0,none⟩) Y ((B5 (K.1 o (BP y)).1).1 N)) (D9 (a:=a) (a':=⟨a.block,0,none⟩) Y ((B5 (K.1 q (BP X)).1).1 W))
theorem GP.AH8(h:GP P f args bs V R):GP P f args [.ext (C2 bs)] V (λV' e M'=>∃bs',M'=[.ext (C2 bs')]/\bs'.length=bs.length/\R V' e bs'):=by
 refine⟨h.1,λFR env w y=>?_⟩;refine(h.2 FR _ w y.Ww.2).mono λe w' ⟨V',env',M',z,H,K,N,O⟩=>?_;exact⟨V',[0],[.ext (C2 M')],z,Y,Y,N.AH8 H,M',Y,K,O⟩
theorem GP.Ww(hp:Cx bs=true)(h:GP P f args [.ext (C2 bs)] V (λV' e M'=>∃bs',M'=[.ext (C2 bs')]/\bs'.length=bs.length/\R V' e bs')):GP P f args bs V R:=by
 refine⟨h.1,λFR env w z=>?_⟩;refine(h.2 FR _ w (z.AH8 hp)).mono ?_;rintro e w' ⟨V',env',M',H,O,W,y,bs',rfl,K,N⟩;exact⟨V',_,bs',H,y.Ww.1,K,y.Ww.2,N⟩
theorem AKw{ro:AA Nat}{ds:List Deferred}{a:Act}{w:World}(O:∀c,o.op≠ .defer c)(h:o.wp P a w aM Q)(z:∀a w,aM a w->next' (PE ds a) w)(H:∀e a w,Q e a w->(∃c,e=.panic c)/\Q' e (PE ds a) w):o.wpIn (FW ro) n P (PE ds a) w next' Q':=by
 refine⟨λ_ _=>Yt,?_⟩;have W:(o.semAt (FW ro).round (PE ds a).eval)=execOp a.eval o:=Oper.semAt_eq _ _ _ O;rw[W];unfold Oper.wp at h
 revert h
 generalize(execOp a.eval o).run P w=r;intro h
 match r,h with
 |.ok (.value v) w',h=>have:=z _ _ h;rw[LL]at this;exact this|.ok .skip w',h=>have:=z _ _ h;rw[LL]at this;exact this|.ok (.defer d) w',h=>have:=z _ _ h;rw[LL]at this;exact this|.ok (.enter f args) w',h=>
  refine⟨λK=>by simp[Fence.wide]at K,?_⟩;refine callsIn_wide.2 (Calls.mono h λe N y=>?_)
  match e,y with
  |.returned v,y=>have:=z _ _ y;rw[LL]at this;exact this|.panicked c,y=>exact(H _ _ _ y).2|.outgrown,y=>have⟨a0,w0,y⟩:=y;have⟨⟨c,X⟩,_⟩:=H _ _ _ y;cases X
 |.ok (.row row args) w',h=>exact⟨λK=>by simp[Fence.wide]at K,(ADj h).mono λv N y=>by have:=z _ _ y;rw[LL]at this;exact this⟩
 |.halt (.panic v) w',h=>exact(H _ _ _ h).2
section
variable {P:Program} {T:List G6} {fn:Func} {nt:Nat} {V0:AM} {FR:KC} {ds:List Deferred} {L:Fr} {V:AM} {M:List OB} {a:Act} {w:World} {Q:Exit->Act->World->Prop}
theorem QJ.code(h:QJ nt V0 FR [] L V M a w)(I:Fr->AM->List OB->Prop){c:Code}(y:AD (JX P T fn nt V0) ⟨[.code c,.inLoop I],L,M⟩ V)(z:∀L' V' M' a' w',I L' V' M'->QJ nt V0 FR [] L' V' M' a' w'->Q .normal a' w'):c.wp P Q a w:=by
 have⟨t,d⟩:=a;have H:d=[]:=h.df;subst H;have⟨env,h3,K⟩:=h.st;have h2:c.wp P (post (JX P T fn nt V0) FR .none [.inLoop I]) ⟨t,[]⟩ w:=y.to0 (k:=[.code c,.inLoop I]) Y (FR:=FR) (env:=env) (t:=t) h.sz h3 K .none;refine Code.wp_mono (λe a w' hp=>?_) h2;obtain⟨rfl,L',V',M',k1,k2⟩:=Pb hp;exact z L' V' M' a w' k2 k1
theorem QJ.head(h:QJ nt V0 FR ds L V M a w)(I:Fr->AM->List OB->Prop){ops:List Oper}{ro:AA Nat}(z:AD (JX P T fn nt V0) ⟨[.ops ops all [],.inLoop I],L,M⟩ V)(H:all=ops++rest)(K:YW ops=true)(N:∀L' V' M' a' w',I L' V' M'->QJ nt V0 FR ds L' V' M' a' w'->wpListIn (FW ro) n P ⟨all⟩ Q rest a' w'):wpListIn (FW ro) n P ⟨all⟩ Q all a w:=by
 have⟨t,d⟩:=a;have⟨env,h3,O⟩:=h.st;have y:d=ds:=h.df;subst y;have:=z.to FR .none env t w h.sz h3 O (N3.nil env _ t) Yt;have h2:wpList P ⟨all⟩ (post (JX P T fn nt V0) FR .none [.inLoop I]) ops ⟨t,[]⟩ w:=this;have:=PO (ro:=ro) (ds:=d) (n:=n) (rest:=rest) (Q':=Q) (λe a w h=>(Pb h).1) (λa w' hp=>by
  have⟨L',V',M',k1,k2⟩:=(Pb hp).2;refine N L' V' M' _ w' k2 ⟨?_,k1.sz,k1.st⟩;simp[PE,k1.df]) ops ⟨t,[]⟩ w (QE K) h2
 rwa[<- H]at this
theorem QJ.AOc(h:QJ nt V0 FR ds L V M a w){all:Array Oper}{ts:Array TypeId}(H:o.op=.defer ⟨.value (.tmp g),#[],ts⟩)(z:o.dst=none)(N:o.guard=none)(hl:EF L g=some (.v (.func bg #[] au)))(O:∀a',QJ nt V0 FR ({target:=.fn bg au,args:= #[]}::ds) L V M a' w->wpListIn Fence.wide n P all Q rest a' w):wpListIn Fence.wide n P all Q (o::rest) a w:=by
 refine wpListIn_plain N (λK W=>?_);refine⟨λ_ _=>Yt,?_⟩;have X:(o.semAt Fence.wide.round a.eval)=execOp a.eval o:=Oper.semAt_none _ _;rw[X];have he:=h.eval hl;simp only[Act.eval]at he;have y:(execOp a.eval o).run P w=.ok (.defer {target:=.fn bg au,args:= #[]}) w:=by
  simp only[execOp,H];simp[go_sem,resolve,Act.eval,he]
 rw[y];refine W _ _ (O _ ⟨?_,?_,?_⟩)
 ·simp[Act.put,z,h.df]
 ·simp[Act.put,z,h.sz]
 ·simpa[Act.put,z]using h.st
theorem QJ.ABM(h:QJ nt V0 FR ds L V M a w)(is:List Nat){all:Array Oper}{d:Nat}{ro:AA Nat}(aa:∀c,o.op≠ .defer c)(hd:o.dst=some d)(hg:o.guard=none)(ab:d<nt)(hc:Gc (Et L []) [] o.op=some (f,args))(hi:Dh M is=some bs)(ad:Cx bs=true)(hn:FU is=true)(hs:GP P f args bs V R)(hQ:∀V' v z,DI V V'->R V' (.returned v) z->∃M',EV M is z=some M'/\∀a' w',QJ nt V0 FR ds ((d,.v v)::L) V' M' a' w'->wpListIn (FW ro) n P all Q rest a' w')(hP:∀V' p z,DI V V'->R V' (.panicked p) z->∃M',EV M is z=some M'/\∀a' w',QJ nt V0 FR ds L V' M' a' w'->Q (.panic p) a' w'):wpListIn (FW ro) n P all Q (o::rest) a w:=by
 refine wpListIn_plain hg (λK hK=>?_);have⟨t,X⟩:=a;have⟨env,h2,h3⟩:=h.st;have ae:X=ds:=h.df;subst ae;have⟨af,H⟩:=hs;have⟨FR',ag,y⟩:=h2.AOP hi ad hn;have W:d<t.size:=by rw[h.sz];exact ab
 have ah:o.wp P ⟨t,[]⟩ w (λa' w'=>wpListIn (FW ro) n P all Q rest (PE X a') w') (λe a' w'=>(∃c,e=.panic c)/\Q e (PE X a') w'):=by
  unfold Oper.wp;rw[KR (A2 h3 (N3.nil env _ t)) (G:=[]) Yt hc af w];refine(H FR' _ w ag).mono λe' w' ⟨V',env',z,p0,pp,pl,Z,p4⟩=>?_;cases e' with
  |outgrown=>exact absurd Y p0|panicked p=>
   have⟨M',N,hP⟩:=hP V' p z Z.le p4;have⟨O,e4⟩:=y V' env' z w' pp Z M' N;refine⟨⟨p,Y⟩,hP _ _ ⟨?_,h.sz,env,O,h3.C6 e4⟩⟩;simp[PE]
  |returned v=>
   have⟨M',N,hE⟩:=hQ V' v z Z.le p4;have⟨O,e4⟩:=y V' env' z w' pp Z M' N;refine hE _ _ ⟨?_,?_,env,O,?_⟩
   ·simp[PE,Act.put,hd]
   ·simp[PE,Act.put,hd];exact h.sz
   ·have:=(h3.C6 e4).put (x:=.v v) W Yt;simpa[PE,Act.put,hd,den]using this
 have:=AKw (ro:=ro) (ds:=X) (n:=n) (next':=K) (Q':=Q) aa ah (λa w h=>hK _ w h) (λe a w h=>h);simpa[PE]using this
end
theorem AL1{d:Nat}{x:Operand}{v:Value}(K:CF C.nt all lr L o=some ([],d))(N:o.op=.typeAssert x y t0 true)(ht:∃z,C.P.underlying t0=some z/\∀m,z≠ .interface m)(O:ev (Et L lr) [] x=some (.v (.iface t0 v)))(h:AD C ⟨.ops rest all (⟨d,[],.v (.tuple ⟨[v,.bool true]⟩),d⟩::lr)::k,F9 [] d (.v (.tuple ⟨[v,.bool true]⟩)) L,M⟩ V):AD C ⟨.ops (o::rest) all lr::k,L,M⟩ V:=by
 refine G9 (x:=.v (.tuple ⟨[v,.bool true]⟩)) K (λenv t w h3 W _ hG=>⟨Yt,?_⟩) h;have H:=BN (A2 h3 W) hG O;simp only[den]at H;have⟨z,ht,X⟩:=ht;unfold execOp;cases z<;>first
  |exact absurd Y (X _)|simp[N,H,Instr.typeAssert,run_underlying ht,Result.andThen,den]
theorem AMu{x:Operand}{b:Bool}{ms:Array (String×TypeId)}(H:o.op=.binOp .eql t0 x (.const .nilIface) y)(ht:P.underlying t0=some (.interface ms))(K:ρ x=an)(N:ρ (.const .nilIface)=.nilIface)(O:(∃u z,an=.iface u z/\b=false)\/(an=.nilIface/\b=true))(w:World):(execOp ρ o).run P w=.ok (.value (.bool b)) w:=by
 have h1:∀(d:Nat)(u:TypeId)(z:Value),(Op.equalIn (d+1) t0 (.iface u z) .nilIface).run P w=.ok false w:=λd u z=>by simp[Op.equalIn,run_underlying ht]
 have h2:∀d:Nat,(Op.equalIn (d+1) t0 .nilIface .nilIface).run P w=.ok true w:=λd=>by simp[Op.equalIn,run_underlying ht]
 unfold execOp;rcases O with⟨u,z,rfl,rfl⟩|⟨rfl,rfl⟩
 ·have:=h1 9999 u z;simp[H,K,N,eqGuard,binOp,Op.equal,Op.maxDepth,this,Result.andThen]
 ·have:=h2 9999;simp[H,K,N,eqGuard,binOp,Op.equal,Op.maxDepth,this,Result.andThen]
theorem AGL{d:Nat}{x:Operand}(b:Bool){ms:Array (String×TypeId)}(K:CF C.nt all lr L o=some ([],d))(N:o.op=.binOp .eql t0 x (.const .nilIface) y)(ht:C.P.underlying t0=some (.interface ms))(O:ev (Et L lr) [] x=some (.v an))(W:(∃u z,an=.iface u z/\b=false)\/(an=.nilIface/\b=true))(h:AD C ⟨.ops rest all (⟨d,[],.v (.bool b),d⟩::lr)::k,F9 [] d (.v (.bool b)) L,M⟩ V):AD C ⟨.ops (o::rest) all lr::k,L,M⟩ V:=by
 refine G9 (x:=.v (.bool b)) K (λenv t w h3 X _ hG=>⟨Yt,?_⟩) h;have H:=BN (A2 h3 X) hG O;simp only[den]at H;exact AMu N ht H Y W w
theorem ABr(is:List Nat)(H:Kw k=true)(hi:Dh M is=some bs)(hp:Cx bs=true)(y:Cx bs'=true)(K:FU is=true)(N:EV M is bs'=some M')(O:∀w:World,(∀o∈bs,o.sat [] [] w 0)->(∀(i j:Nat)(o q:OB)(b:Nat),i≠j->bs[i]? =some o->bs[j]? =some q->o.own 0 ⟨b,0,none⟩->¬q.own 0 ⟨b,0,none⟩)->(∀o∈bs',o.sat [] [] w 0)/\(∀o∈bs',∀b,o.own 0 ⟨b,0,none⟩->∃q∈bs,q.own 0 ⟨b,0,none⟩)/\∀(i j:Nat)(o q:OB)(b:Nat),i≠j->bs'[i]? =some o->bs'[j]? =some q->o.own 0 ⟨b,0,none⟩->¬q.own 0 ⟨b,0,none⟩)(h:AD C ⟨k,L,M'⟩ V):AD C ⟨k,L,M⟩ V:=by
 refine AD.of λFR W env t w h1 h2 h3 Z h5=>?_;have⟨X,z⟩:=h2.ZR hi hp y K N (O w);exact h.to0 H (env:=env) h1 X (h3.C6 z) W
theorem Sb(i j:Nat){o q:OB}(hk:Kw k=true)(z:FU [i,j]=true)(hi:nth M i=some o)(hj:nth M j=some q)(hp:GA o=true)(W:GA q=true)(H:It M i q=some X)(hM:It X j o=some M')(h:AD C ⟨k,L,M'⟩ V):AD C ⟨k,L,M⟩ V:=by
 refine ABr [i,j] (bs:=[o,q]) (bs':=[q,o]) hk (by simp[Dh,hi,hj]) (by simp[Cx,hp,W]) (by simp[Cx,hp,W]) z (by simp[EV,H,hM]) (λw h1 h2=>⟨?_,?_,?_⟩) h
 ·grind
 ·grind
 ·intro i j x y b K N O Z hb;rcases i with _|_|i<;>rcases j with _|_|j<;>simp at N O K
  ·subst N;subst O;exact h2 1 0 _ _ b zp Y Y Z hb
  ·subst N;subst O;exact h2 0 1 _ _ b zp Y Y Z hb
theorem FC.AP1{w:World}(h:FC V0 FR env V M w):FC V0 FR env V (M.map λ_=>.Sk) w:=by
 have hu:∀(i:Nat)(o:OB),(M.map λ_=>OB.Sk)[i]? =some o->o=.Sk:=λi o y=>by
  simp only[EX,Option.map_eq_some_iff]at y;obtain⟨_,_,rfl⟩:=y;rfl
 have H:∀(b:Nat)(a:Addr),¬OB.Sk.own b a:=λb a z=>by simp[OB.own,Value.ownBlock]at z
 refine⟨h.os,h.tape,h.output,h.frame,h.le,h.holds,h.fresh,by simp[h.len],?_,?_,?_,?_,h.tb⟩
 ·intro i o y;rw[hu i o y];exact ADX
 ·grind
 ·grind
 ·grind
theorem XD:∀{M:List OB},Cx (M.map λ_=>OB.Sk)=true
 |[]=>rfl|_::M=>XD (M:=M)
theorem GP.APD(h:GP P f args bs V R):GP P f args bs V (λV' e M'=>M'=bs.map (λ_=>.Sk)/\∃z,R V' e z):=by
 refine⟨h.1,λFR env w H=>?_⟩;refine(h.2 FR _ w H).mono λe w' ⟨V',env',M',K,W,y,N,O⟩=>?_;refine⟨V',env',_,K,XD,by simp[y],N.AP1,?_,M',O⟩;rw[List.map_const',List.map_const',y]
section
variable {C:Ctx} {o:Oper} {rest all:List Oper} {lr:List B7} {k:List Kt} {L:Fr} {M:List OB} {V:AM} {d f:Nat} {args:List Value} {bs:List OB}
theorem I7(is:List Nat){Q:AM->Value->List OB->Prop}(N:CF C.nt all lr L o=some ([],d))(O:Gc (Et L lr) [] o.op=some (f,args))(hi:Dh M is=some bs)(z:Cx bs=true)(H:FU is=true)(W:Mt k is=true)(X:GP C.P f args bs V (λV' e M'=>∃v,e=.returned v/\Q V' v M'))(h:∀V' v y,DI V V'->Q V' v y->∃M',EV M is y=some M'/\AD C ⟨.ops rest all (⟨d,[],.v v,d⟩::lr)::k,(d,.v v)::L,M'⟩ V'):AD C ⟨.ops (o::rest) all lr::k,L,M⟩ V:=
 AD.ABM is N O hi z H W X (λV' v y hv ⟨x,K,Z⟩=>by cases K;exact h V' v y hv Z) λV' p y hv ⟨x,K,_⟩=>by cases K
theorem AHo(is:List Nat){R:AM->Ending->Prop}{Q:AM->Value->Prop}(K:CF C.nt all lr L o=some ([],d))(N:Gc (Et L lr) [] o.op=some (f,args))(hi:Dh M is=some bs)(y:Cx bs=true)(z:FU is=true)(O:Mt k is=true)(W:GP C.P f args bs V (λV' e _=>R V' e))(hR:∀V' e,R V' e->∃v,e=.returned v/\Q V' v)(X:EV M is (bs.map λ_=>.Sk)=some M')(h:∀V' v,DI V V'->Q V' v->AD C ⟨.ops rest all (⟨d,[],.v v,d⟩::lr)::k,(d,.v v)::L,M'⟩ V'):AD C ⟨.ops (o::rest) all lr::k,L,M⟩ V:=
 I7 is (Q:=λV' v H=>H=(bs.map λ_=>.Sk)/\Q V' v) K N hi y z O (W.APD.mono λV' e M' _ ⟨h1,_,h2⟩=>by
  have⟨v,h3,Z⟩:=hR V' e h2;exact⟨v,h3,h1,Z⟩) λV' v H hv ⟨h1,h2⟩=>⟨M',by rw[h1];exact X,h V' v hv h2⟩
end
end
variable {pre B:List OB}
section
open Go.RowKit Go.Proofs
abbrev ABS(o q:OB):Prop:=∀b,o.own 0 ⟨b,0,none⟩->¬q.own 0 ⟨b,0,none⟩
def Dj(bs:List OB):Prop:=bs.Pairwise ABS
theorem ABS.symm{o q:OB}(h:ABS o q):ABS q o:=λb h1 h2=>h b h2 h1
theorem ABK:Dj bs↔∀(i j:Nat)(o q:OB)(b:Nat),i≠j->bs[i]? =some o->bs[j]? =some q->o.own 0 ⟨b,0,none⟩->¬q.own 0 ⟨b,0,none⟩:=by
 unfold Dj;rw[A3];constructor
 ·intro h i j o q b y hi z H;obtain⟨ki,rfl⟩:=As.1 hi;obtain⟨K,rfl⟩:=As.1 z;rcases Nat.lt_or_gt_of_ne y with h1|h1
  ·exact h i j ki K h1 b H
  ·exactλN=>h j i K ki h1 b N H
 ·intro h i j hi z y b;exact h i j _ _ b ox (List.getElem?_eq_getElem hi) (List.getElem?_eq_getElem z)
def AMC(bs bs':List OB):Prop:=∀w:World,(∀o∈bs,o.sat [] [] w 0)->Dj bs->(∀o∈bs',o.sat [] [] w 0)/\(∀o∈bs',∀b,o.own 0 ⟨b,0,none⟩->∃q∈bs,q.own 0 ⟨b,0,none⟩)/\Dj bs'
theorem QW{w:World}:(C2 bs).sat w↔(∀o∈bs,GA o=true/\o.sat [] [] w 0)/\Dj bs:=by
 rw[ABK];exact Iff.rfl
theorem YO{b:Nat}:(OB.ext (C2 bs)).own 0 ⟨b,0,none⟩->∃o∈bs,o.own 0 ⟨b,0,none⟩:=λ⟨o,h,_,h2⟩=>⟨o,h,h2⟩
theorem AM8{α:Type}(l:List α):Dj (l.map λ_=>OB.Sk):=by
 unfold Dj;rw[FI]
 induction l with
 |nil=>exact .nil|cons x l y=>exact .cons (λ_ _ b h=>absurd h U1) y
theorem O9{post:List OB}:AMC (.ext (C2 (pre++B++post))::B.map λ_=>.Sk) (.ext (C2 (pre++post))::B):=by
 intro w h1 _;have⟨O,W⟩:=QW.1 (h1 (.ext (C2 (pre++B++post))) zp);have z:(pre++post).Sublist (pre++B++post):=by
  rw[CZ];exact(List.Sublist.refl pre).append (List.sublist_append_right B post)
 have K:∀o,o∈pre++B++post->∀b,o.own 0 ⟨b,0,none⟩->(OB.ext (C2 (pre++B++post))).own 0 ⟨b,0,none⟩:=λo y b H=>⟨o,y,(O o y).1,H⟩;refine⟨?_,?_,?_⟩
 ·intro o y;rcases Aj.1 y with rfl|y
  ·exact QW.2 ⟨λo y=>O o (z.subset y),W.sublist z⟩
  ·exact(O o (by simp[y])).2
 ·intro o y b H;refine⟨_,AHj,?_⟩;rcases Aj.1 y with rfl|y
  ·have⟨q,N,H⟩:=YO H;exact K q (z.subset N) b H
  ·exact K o (by simp[y]) b H
 ·unfold Dj at*;rw[EW,EW]at W;have⟨⟨p3,Z,p5⟩,p6,p7⟩:=W;refine B6.2 ⟨λq N b H=>?_,Z⟩;have⟨o,y,H⟩:=YO H;rcases BW.1 y with y|y
  ·exact p5 o y q N b H
  ·exactλX=>p7 q (List.mem_append_right _ N) o y b X H
theorem ME{post:List OB}(hp:Cx B=true):AMC (.ext (C2 (pre++post))::B) (.ext (C2 (pre++B++post))::B.map λ_=>.Sk):=by
 intro w h1 hd;have⟨K,p2⟩:=QW.1 (h1 (.ext (C2 (pre++post))) zp);have O:∀o∈B,GA o=true:=λo y=>by
  have⟨j,hj⟩:=CC.1 y;exact CQ hp hj
 have⟨W,X⟩:=B6.1 hd;have hx:∀o∈pre++post,∀q∈B,ABS o q:=λo y q z b H=>W q z b ⟨o,y,(K o y).1,H⟩;have N:∀o∈pre++B++post,GA o=true/\o.sat [] [] w 0:=by
  intro o y;simp only[CZ,BW]at y;rcases y with y|y|y
  ·exact K o (by simp[y])
  ·exact⟨O o y,h1 o (by simp[y])⟩
  ·exact K o (by simp[y])
 have Z:Dj (pre++B++post):=by
  unfold Dj at*;rw[EW]at p2;have⟨p3,p4,p5⟩:=p2;rw[EW,EW];refine⟨⟨p3,X,λo y q z=>hx o (by simp[y]) q z⟩,p4,λo y q z=>?_⟩;rcases BW.1 y with y|y
  ·exact p5 o y q z
  ·exact(hx q (by simp[z]) o y).symm
 refine⟨?_,?_,?_⟩
 ·intro o y;rcases Aj.1 y with rfl|y
  ·exact QW.2 ⟨N,Z⟩
  ·simp only[List.mem_map]at y;obtain⟨_,_,rfl⟩:=y;exact ADX
 ·intro o y b H;rcases Aj.1 y with rfl|y
  ·have⟨q,z,H⟩:=YO H;simp only[CZ,BW]at z;rcases z with z|z|z
   ·exact⟨_,AHj,q,by simp[z],(K q (by simp[z])).1,H⟩
   ·exact⟨q,by simp[z],H⟩
   ·exact⟨_,AHj,q,by simp[z],(K q (by simp[z])).1,H⟩
  ·simp only[List.mem_map]at y;obtain⟨_,_,rfl⟩:=y;exact absurd H U1
 ·unfold Dj;refine B6.2 ⟨λq z b _=>?_,AM8 B⟩;simp only[List.mem_map]at z;obtain⟨_,_,rfl⟩:=z;exact U1
section
variable {C:Ctx} {k:List Kt} {L:Fr} {M M':List OB} {V:AM} {bs bs':List OB}
theorem Ir(is:List Nat)(z:AMC bs bs')(H:Kw k=true)(hi:Dh M is=some bs)(hp:Cx bs=true)(y:Cx bs'=true)(K:FU is=true)(N:EV M is bs'=some M')(h:AD C ⟨k,L,M'⟩ V):AD C ⟨k,L,M⟩ V:=
 ABr is H hi hp y K N (λw h1 h2=>by have⟨O,W,X⟩:=z w h1 (ABK.2 h2);exact⟨O,W,ABK.1 X⟩) h
theorem Uy(is:List Nat)(z:AMC bs bs')(hi:Dh M is=some bs)(hp:Cx bs=true)(y:Cx bs'=true)(H:FU is=true)(K:Mt k is=true)(N:EV M is bs'=some M')(h:AD C ⟨.ops rest all lr::k,L,M'⟩ V):AD C ⟨.ops rest all lr::k,L,M⟩ V:=
 AD.ZR is hi hp y H K N (λw h1 h2=>by have⟨O,W,X⟩:=z w h1 (ABK.2 h2);exact⟨O,W,ABK.1 X⟩) h
end
theorem AJm{o:OB}(hp:GA o=true):AMC [.ext (C2 bs),o] [.ext (C2 (bs++[o])),.Sk]:=by
 have:=ME (pre:=bs) (B:=[o]) (post:=[]) (by simp[Cx,hp]);simpa using this
theorem AGN(z:RO M (.ext (C2 [])) 0=some (M',i))(h:AD C ⟨k,L,M'⟩ V):AD C ⟨k,L,M⟩ V:=by
 obtain⟨rfl,_⟩:=He z;refine AD.of λFR H env t w h1 h2 h3 K N=>?_;have O:=h2.add (w':=w) (o':=.ext (C2 [])) 0 Y Y Y (λ_ _=>Y) (QW.2 ⟨λo y=>by simp at y,List.Pairwise.nil⟩) (λa W=>by have⟨o,y,_⟩:=W;simp at y);exact h.to FR H (env++[0]) t w h1 O (h3.mono h2.len _ _) (K.mono h2.len _ _) (My.grow ⟨_,Y⟩ (DI.refl V) ⟨_,Y⟩ N)
theorem AAI{α:Type}:∀{l:List α}{i:Nat}{x:α},i<l.length->It l i x=some (l.set i x)
 |[],i,x,h=>by simp at h
 |a::l,0,x,h=>rfl|a::l,i+1,x,h=>by simp[It,AAI (l:=l) (i:=i) (x:=x) (by simpa using h)]
theorem AGM{C:Ctx}{k:List Kt}{L:Fr}(i j:Nat)(z:i≠j)(H:FU [i,j]=true)(hk:Kw k=true):∀(bs:List OB){M:List OB}{V:AM},M[i]? =some (.ext (C2 bs))->M[j]? =some .Sk->(∀o∈bs,∃a n c cs e sz,o=.row (.slice a n c) cs e sz)->(∀V',DI V V'->(∀a n c cs e sz,OB.row (.slice a n c) cs e sz∈bs->(cs≠[]->Bi V' a 0 cs)/\n<=c)->AD C ⟨k,L,M.set i (.ext (C2 []))⟩ V')->AD C ⟨k,L,M⟩ V
 |[],M,V,hi,K,W,h=>by
  have:=h V (DI.refl V) zp;have e:M.set i (.ext (C2 []))=M:=by
   have⟨hl,he⟩:=As.1 hi;rw[<- he];simp
  rwa[e]at this
 |o::bs,M,V,hi,K,W,h=>by
  obtain⟨a,n,c,cs,e,sz,rfl⟩:=W o zp;have N:=(As.1 hi).1;have y:=(As.1 K).1;have hc:=O9 (pre:=[]) (B:=[OB.row (.slice a n c) cs e sz]) (post:=bs);simp only[KA,B8,Ge,Ik]at hc;refine Ir [i,j] hc hk (by simp[Dh,Cc,hi,K]) Y Y H (M':=(M.set i (.ext (C2 bs))).set j (.row (.slice a n c) cs e sz)) (by simp[EV,AAI N,AAI (l:=M.set i (.ext (C2 bs))) (i:=j) (by simpa using y)]) ?_;have X:ADC j k=true:=by
   cases k with
   |nil=>rfl|cons x k=>cases x<;>simp_all [Kw,ADC,Rr]
  refine AD.QY j X (n:=n) (c:=c) (a:=a) (cs:=cs) (e:=e) (sz:=sz) (by simp[Cc,y]) (AAI (by simpa using y)) (λV1 Z aa ab=>?_);have e2:((M.set i (.ext (C2 bs))).set j (.row (.slice a n c) cs e sz)).set j OB.Sk=M.set i (.ext (C2 bs)):=by
   rw[List.set_set];apply G2;intro q;rw[H2];split
   ·rename_i hq;subst hq;simp only[Cr,y,IW];rw[JO z,K]
   ·rfl
  rw[e2];refine AGM i j z H hk bs (M:=M.set i (.ext (C2 bs))) (by simp[N]) (by rw[JO z];exact K) (λo ho=>W o (by simp[ho])) (λV2 O ad=>?_);rw[List.set_set];refine h V2 (Z.trans O) (λa' n' c' ae e' af hm=>?_);rcases Aj.1 hm with hm|hm
  ·cases hm;exact⟨λag=>(aa ag).mono O,ab⟩
  ·exact ad a' n' c' ae e' af hm
end
section
open Go.RowKit Go.Proofs
def AIs(M:List OB)(V1:AM):Prop:=∃w:World,(∀(i:Nat)(o:OB),nth M i=some o->GA o=true->o.sat [] [] w 0)/\∀a x,w.cell? a=some x->V1 a=some x
theorem W7{w:World}{a:AA Addr}(h:EU w e sz (.slice a n c) cs)(hv:∀a x,w.cell? a=some x->V1 a=some x):(cs≠[]->Bi V1 a 0 cs)/\n<=c:=by
 have⟨r1,r2,r3,r4⟩:=Fk h;refine⟨λy=>?_,r2⟩;rcases r3 with⟨rfl,rfl,rfl⟩|⟨g,rfl⟩
 ·exact absurd (FO (by simpa using r1)) y
 ·refine⟨g,0,Y,λj v z=>hv _ _ ?_⟩;have:=Hf (off:=0) (l:=cs) h Y (λj v z=>by simpa using z) j v z;simpa using this
theorem AIs.row(h:AIs M V1)(i:Nat){a:AA Addr}(hi:nth M i=some (.row (.slice a n c) cs e sz)):(cs≠[]->Bi V1 a 0 cs)/\n<=c:=by
 have⟨w,h1,h2⟩:=h;exact W7 (h1 i _ hi Y) h2
theorem FC.APP{w:World}(h:FC V0 FR env V M w):AIs M (λa=>w.cell? a):=
 ⟨w,λi o hi hp=>Iu hp (h.sat i o (by rw[Cc]at hi;exact hi)),λ_ _ h=>h⟩
theorem Wp{d:Nat}(x:Value)(hh:CF C.nt all lr L o=some (G,d))(hc:Gc (Et L lr) G o.op=some (f,args))(z:∀V1,DI V V1->AIs M V1->P3 lr G (Spec C.P f args V1 λ_ v=>v=x))(h:AD C ⟨.ops rest all (⟨d,G,.v x,d⟩::lr)::k,F9 G d (.v x) L,M⟩ V):AD C ⟨.ops (o::rest) all lr::k,L,M⟩ V:=by
 refine HY (x:=.v x) hh (λFR env t w h2 h3 h4 hG=>⟨Yt,λK Q hK=>?_⟩) h;have⟨X,H⟩:=(z (λa=>w.cell? a) (λa y O=>h2.holds a y O) h2.APP).out h4 hG;unfold Oper.wp;rw[KR (A2 h3 h4) hG hc X w];refine(H w ⟨λa y O=>O,h2.holds.t⟩).mono λe w' ⟨v,V',p1,N,p3,p4,p5,p6⟩=>?_;subst p1;subst p6;refine hK w' ?_;have Z:∀b o,FR.Bp b=some o->b<w.heap.size:=λb o W=>(An.1 (h2.frame b o W)).1;refine⟨N.os.trans h2.os,N.tape.trans h2.tape,N.output.trans h2.output,λb o W=>by rw[N.block b (Z b o W)];exact h2.frame b o W,h2.le,⟨λa y O=>p4 a y (p3 a y (h2.holds a y O)),p4.t⟩,h2.fresh,h2.len,?_,h2.DA,h2.C1,h2.apart,h2.tb⟩;intro i ob aa;have z:=h2.sat i ob aa;cases ob with
 |gone=>trivial|Bp cs ty=>exact⟨by rw[N.block _ (An.1 z.1).1];exact z.1,z.2⟩
 |row y cs e sz=>exact Nu z λg hg=>N.block _ (Dt (env:=env) (M:=M) (b:=0) (o:=.row y cs e sz) z (a:=⟨g,0,none⟩) hg)|ext E=>exact E.frame (λb hb=>N.block _ (E.lt z hb)) z
theorem FC.down{w:World}(h:FC V1 FR env V' M w)(hv:DI V V1):FC V FR env V M w:=
 ⟨h.os,h.tape,h.output,h.frame,DI.refl V,⟨λa x y=>h.holds a x (h.le a x (hv a x y)),h.holds.t⟩,λa x y=>.inl y,h.len,h.sat,
  λi o a z H=>by
   cases y:V a with
   |none=>rfl|some x=>have:=h.DA i o a z H;rw[h.le a x (hv a x y)]at this;simp at this,
  h.C1,h.apart,h.tb⟩
def ADN(M:List OB)(is:List Nat)(V1:AM):Prop:=∃w:World,(∀(i:Nat)(o:OB),nth M i=some o->GA o=true->o.sat [] [] w 0)/\∀(i:Nat)(o:OB),nth M i=some o->GA o=true->i∉is->∀a x,o.own 0 ⟨a.block,0,none⟩->w.cell? a=some x->V1 a=some x
theorem ADN.row(h:ADN M az V1)(i:Nat){a:AA Addr}(hi:nth M i=some (.row (.slice a n c) cs e sz))(H:i∉az):(cs≠[]->Bi V1 a 0 cs)/\n<=c:=by
 have⟨w,h1,h2⟩:=h;have y:EU w e sz (.slice a n c) cs:=h1 i _ hi Y;have⟨h3,K⟩:=W7 (V1:=λa=>w.cell? a) y (λ_ _ h=>h);refine⟨λz=>?_,K⟩;obtain⟨b,o,rfl,N⟩:=h3 z;refine⟨b,o,Y,λj x O=>h2 i _ hi Y H _ _ ?_ (N j x O)⟩;simp[OB.own,Value.ownBlock]
theorem ADN.pack(h:ADN M az V1)(i:Nat)(hi:nth M i=some (.ext (C2 bs)))(H:i∉az){a:AA Addr}(hm:OB.row (.slice a n c) cs e sz∈bs):(cs≠[]->Bi V1 a 0 cs)/\n<=c:=by
 have⟨w,h1,h2⟩:=h;have y:EU w e sz (.slice a n c) cs:=((QW.1 (h1 i _ hi Y)).1 _ hm).2;have⟨h3,K⟩:=W7 (V1:=λa=>w.cell? a) y (λ_ _ h=>h);refine⟨λz=>?_,K⟩;obtain⟨b,o,rfl,N⟩:=h3 z;refine⟨b,o,Y,λj x O=>h2 i _ hi Y H _ _ ⟨_,hm,Y,?_⟩ (N j x O)⟩;simp[OB.own,Value.ownBlock]
open Classical in
theorem AGO(is:List Nat){d:Nat}{Q:Value->List OB->Prop}(hh:CF C.nt all lr L o=some ([],d))(hc:Gc (Et L lr) [] o.op=some (f,args))(hi:Dh M is=some bs)(H:Cx bs=true)(ab:FU is=true)(hk:Mt k is=true)(hs:∀V1,DI V V1->ADN M is V1->GP C.P f args bs V1 (λ_ e M'=>∃v,e=.returned v/\Q v M'))(h:∀v O,Q v O->∃M',EV M is O=some M'/\AD C ⟨.ops rest all (⟨d,[],.v v,d⟩::lr)::k,(d,.v v)::L,M'⟩ V):AD C ⟨.ops (o::rest) all lr::k,L,M⟩ V:=by
 refine AD.of λFR DF env t w h1 h2 h3 h4 h5=>?_;have⟨hg,hd,hn,hf,_⟩:=EG hh;have W:d<t.size:=by rw[h1];simpa[D1]using hn
 have hw:=Ch h4 hg;show wpList C.P ⟨all⟩ (post C FR DF k) (o::rest) ⟨t,[]⟩ w;refine Cn ?_;rw[if_pos (hw.2 Yt)];have⟨FR',y,K⟩:=h2.AOP hi H ab;have⟨hlen,X⟩:=IV hi
 let Hd:Nat->Prop:=λb=>∃q∈bs,q.own 0 ⟨b,0,none⟩
 let V1:AM:=λa=>if Hd a.block then none else w.cell? a
 have hV:∀a x,V1 a=some x->¬Hd a.block/\w.cell? a=some x:=λa x z=>by
  simp only[V1]at z;split at z
  ·simp at z
  ·exact⟨by assumption,z⟩
 have Z:∀a x,¬Hd a.block->w.cell? a=some x->V1 a=some x:=λa x h1 h2=>by simp only[V1];rw[if_neg h1];exact h2
 have hle:DI V V1:=λa x z=>Z a x (λ⟨q,hq,hb⟩=>by
  have⟨j,hj⟩:=CC.1 hq;have:=y.DA j q a hj (D9 (a:=⟨a.block,0,none⟩) (a':=a) Y ((B5 (CQ H hj)).1 hb));rw[z]at this;simp at this) (h2.holds a x z)
 have hL:ADN M is V1:=by
  refine⟨w,λi o hi hp=>Iu hp (h2.sat i o (by rw[Cc]at hi;exact hi)),λi o hi hp ad a x ha z=>Z a x (λ⟨q,hq,hb⟩=>?_) z⟩;rw[Cc]at hi;have⟨j,hj⟩:=CC.1 hq;have⟨i',g1,g2⟩:=X j q hj;exact h2.apart i i' o q ⟨a.block,0,none⟩ (λe=>ad (e▸BP g1)) hi g2 ((B5 hp).1 ha) ((B5 (CQ H hj)).1 hb)
 have ae:FC V1 FR' (List.replicate bs.length 0) V1 bs w:=by
  refine⟨y.os,y.tape,y.output,y.frame,DI.refl _,⟨λa x z=>(hV a x z).2,y.holds.t⟩,λa x z=>.inl z,y.len,y.sat,λi o a ho ha=>?_,y.C1,y.apart,y.tb⟩;simp only[V1];rw[if_pos ⟨o,BP ho,D9 (a:=a) (a':=⟨a.block,0,none⟩) Y ((B5 (CQ H ho)).1 ha)⟩]
 have⟨af,N⟩:=hs V1 hle hL;unfold Oper.wp;rw[KR (A2 h3 h4) (G:=[]) Yt hc af w];refine(N FR' _ w ae).mono λe' w' ⟨V',env',O,p0,pp,pl,p3,v,p4,p5⟩=>?_;subst p4;have⟨M',aa,hE⟩:=h v O p5;have⟨ag,e4⟩:=K V env' O w' pp (p3.down hle) M' aa;simp only[Act.put,hd];exact hE.to FR DF env (t.setIfInBounds d v) w' (by simpa using h1) ag ((h3.C6 e4).put (x:=.v v) W Yt) ((h4.C6 e4).put W hf (λ_=>Y) (λhn=>absurd Yt hn) Y (.inl Y) (λ_=>Yt))
  (My.grow (M:=M') ⟨[],by simp⟩ (DI.refl V) ⟨[],by simp⟩ (Pq aa hk h5.same))
open Classical in
theorem AKD(i:Nat){d:Nat}{a:AA Addr}{R Q:AM->Value->Prop}(hh:CF C.nt all lr L o=some ([],d))(hc:Gc (Et L lr) [] o.op=some (f,args))(hi:nth M i=some (.row (.slice a n c) cs e sz))(X:∀V1,DI V V1->(cs≠[]->Bi V1 a 0 cs)->n<=c->Spec C.P f args V1 R)(hq:∀V' K v,DI V K->(∀b:Addr,¬(∃g,a=some g/\b.block=g.block)->K b=V' b)->(∀b x,(∃g,a=some g/\b.block=g.block)->V' b=some x->x∈cs)->R V' v->Q K v)(h:∀K v,DI V K->Q K v->AD C ⟨.ops rest all (⟨d,[],.v v,d⟩::lr)::k,(d,.v v)::L,M⟩ K):AD C ⟨.ops (o::rest) all lr::k,L,M⟩ V:=by
 refine AD.of λFR DF env t w h1 h2 h3 h4 h5=>?_;have⟨hg,hd,hn,hf,_⟩:=EG hh;have ai:d<t.size:=by rw[h1];simpa[D1]using hn
 have hw:=Ch h4 hg;show wpList C.P ⟨all⟩ (post C FR DF k) (o::rest) ⟨t,[]⟩ w;refine Cn ?_;rw[if_pos (hw.2 Yt)];have W:=hi;rw[Cc]at W;have aa:EU w e sz (.slice a n c) cs:=h2.sat i _ W;have N:∀b:Addr,(∃g,a=some g/\b.block=g.block)->(OB.row (.slice a n c) cs e sz).own (Bm env i) b:=by
  rintro b ⟨g,rfl,H⟩;simp[OB.own,Value.ownBlock,H]
 let B:Addr->Prop:=λb=>∃g,a=some g/\b.block=g.block
 let In:Addr->Prop:=λb=>∃g j x,a=some ⟨g,0,none⟩/\cs[j]? =some x/\b=⟨g,j,none⟩
 have ab:∀b,In b->B b:=by rintro b ⟨g,j,x,ha,_,rfl⟩;exact⟨_,ha,Y⟩
 let V1:AM:=λb=>if In b then w.cell? b else V b
 have⟨r3,r4⟩:=W7 (V1:=λa=>w.cell? a) aa (λ_ _ h=>h);have r5:=(Fk aa).2.2.1;have ae:∀g j x,a=some ⟨g,0,none⟩->cs[j]? =some x->w.cell? ⟨g,j,none⟩=some x:=by
  intro g j x ha hj;have af:cs≠[]:=by rintro rfl;simp at hj
  have⟨b,o',h6,h7⟩:=r3 af;rw[ha]at h6;simp only[AE,Addr.mk.injEq,CO]at h6;obtain⟨rfl,rfl⟩:=h6;have:=h7 j x hj;simpa using this
 have hle:DI V V1:=λb x z=>by
  have:¬In b:=λH=>by have:=h2.DA i _ b W (N b (ab b H));rw[z]at this;simp at this
  simp only[V1];rw[if_neg this];exact z
 have hH:Holds V1 w:=⟨λb x z=>by
  simp only[V1]at z;split at z
  ·exact z
  ·exact h2.holds b x z,h2.holds.t⟩
 have an:∀b x,B b->V1 b=some x->x∈cs:=by
  intro b x H z;simp only[V1]at z;split at z
  ·rename_i ag;obtain⟨g,j,y,ha,hj,rfl⟩:=ag;rw[ae g j y ha hj]at z;simp only[AE]at z;subst z;exact BP hj
  ·have:=h2.DA i _ b W (N b H);rw[z]at this;simp at this
 have aj:∀b,B b->b.block<w.heap.size:=λb H=>Dt (h2.sat i _ W) (N b H);have⟨ao,ah⟩:=X V1 hle (λaf=>by
  have⟨b,o',h6,h7⟩:=r3 af;rcases r5 with⟨h8,_⟩|⟨g,h8⟩
  ·rw[h6]at h8;simp at h8
  ·rw[h6]at h8;simp only[AE,Addr.mk.injEq,CO]at h8;obtain⟨rfl,rfl⟩:=h8;refine⟨b,0,h6,λj x hj=>?_⟩;simp only[V1];rw[if_pos ⟨b,j,x,h6,hj,by simp⟩];exact h7 j x hj) r4
 unfold Oper.wp;rw[KR (A2 h3 h4) (G:=[]) Yt hc ao w];refine(ah w hH).mono λe' w' ⟨v,V',p1,p2,p3,p4,p5,p6⟩=>?_;subst p1
 let K:AM:=λb=>if B b then none else V' b
 have ak:∀b x,K b=some x->¬B b/\V' b=some x:=λb x z=>by
  simp only[K]at z;split at z
  ·simp at z
  ·exact⟨by assumption,z⟩
 have O:DI V K:=λb x z=>by
  have:¬B b:=λH=>by have:=h2.DA i _ b W (N b H);rw[z]at this;simp at this
  simp only[K];rw[if_neg this];exact p3 b x (hle b x z)
 have ad:∀b x,K b=some x->V b=some x\/w.heap.size<=b.block:=λb x z=>by
  have⟨g1,g2⟩:=ak b x z;rcases p5 b x g2 with g3|g3
  ·simp only[V1]at g3;rw[if_neg (λag=>g1 (ab b ag))]at g3;exact .inl g3
  ·exact .inr g3
 have al:∀b o,FR.Bp b=some o->b<w.heap.size:=λb o ho=>(An.1 (h2.frame b o ho)).1;have hW:FC C.V0 FR env K M w':=by
  refine⟨p2.os.trans h2.os,p2.tape.trans h2.tape,p2.output.trans h2.output,λb o ho=>by rw[p2.block b (al b o ho)];exact h2.frame b o ho,h2.le.trans O,⟨λb x z=>p4 b x (ak b x z).2,p4.t⟩,?_,h2.len,?_,?_,h2.C1,h2.apart,h2.tb⟩
  ·intro b x z;rcases ad b x z with g|g
   ·exact h2.fresh b x g
   ·right;cases H:FR.Bp b.block with
    |none=>rfl|some o=>have:=al _ _ H;omega
  ·intro j ob Z;have X:=h2.sat j ob Z;cases ob with
   |gone=>trivial|Bp cs ty=>exact⟨by rw[p2.block _ (An.1 X.1).1];exact X.1,X.2⟩
   |row y cs e sz=>exact Nu X λg hg=>p2.block _ (Dt (env:=env) (M:=M) (b:=0) (o:=.row y cs e sz) X (a:=⟨g,0,none⟩) hg)|ext E=>exact E.frame (λb H=>p2.block _ (E.lt X H)) X
  ·intro j ob b Z H;cases z:K b with
   |none=>rfl|some x=>
    rcases ad b x z with g|g
    ·have:=h2.DA j ob b Z H;rw[g]at this;simp at this
    ·have:=Dt (h2.sat j ob Z) H;omega
 have hE:=h K v O (hq V' K v O (λb H=>by simp only[K];rw[if_neg H]) (λb x H z=>by
  rcases p5 b x z with g|g
  ·exact an b x H g
  ·have:=aj b H;omega) p6)
 simp only[Act.put,hd];exact hE.to FR DF env (t.setIfInBounds d v) w' (by simpa using h1) hW (h3.put (x:=.v v) ai Yt) (h4.put ai hf (λ_=>Y) (λhn=>absurd Yt hn) Y (.inl Y) (λ_=>Yt))
  (My.grow (M:=M) ⟨[],by simp⟩ O ⟨[],by simp⟩ h5.same)
theorem Fj{I:Fr->AM->List OB->Prop}(h:I L V M):AD C ⟨.inLoop I::k,L,M⟩ V:=
 AD.of λ_ _ env _ _ h1 h2 h3 _ _=>⟨Y,h1,env,L,V,M,h2,h3,h⟩
end
variable {aj aC:Code} {s0:St} {off q c2 nm:Nat} {aP:List Nat} {aw:Operand} {nv:List Value} {aL:Bool}
section
open Go Go.ChangeShapes Go.WideShapes Go.ChangeAt Go.RowKit
abbrev vI(x:Int):Value:=.int .i64 x
abbrev vB(x:Bool):Value:=.bool x
abbrev vS(x:A9):Value:=.string ⟨⟨x⟩⟩
abbrev vP(b:Nat):Value:=.pointer (some ⟨b,0,none⟩)
abbrev vL{α:Type}(a:AA Addr)(l:List α)(k:Nat):Value:=.slice a l.length k
abbrev sI(x:Int):SV:=.v (.int .i64 x)
abbrev sB(x:Bool):SV:=.v (.bool x)
abbrev sS(x:A9):SV:=.v (.string ⟨⟨x⟩⟩)
abbrev sP(b:Nat):SV:=.v (.pointer (some ⟨b,0,none⟩))
abbrev sL{α:Type}(a:AA Addr)(l:List α)(k:Nat):SV:=.v (.slice a l.length k)
abbrev sN{α:Type}(l:List α):SV:=.v (.int .i64 (l.length:Int))
abbrev vA(l:List Value):Value:=.agg ⟨l⟩
def pm:Nat->Nat->Nat->List (Nat×Bool)
 |0,_,_=>[]|n+1,i,m=>(i,m%2==1)::pm n (i+1) (m/2)
abbrev Sp:=@Spec Tryz.prog
abbrev Sx:=@GP Tryz.prog
abbrev SR:=@Q7 Tryz.prog
abbrev vR(b:Nat):Value:=.slice (some ⟨b,0,none⟩) 1 1
theorem sb{p:Prop}(h:p:=by repeat (first|exact Yt|refine⟨⟨_,Y,Y⟩,?_⟩)):p:=h
section
variable {C:Ctx} {s0:St} {k:List Kt} {L L':Fr} {M M':List OB} {V:AM} {I:Fr->AM->List OB->Prop}
theorem xr(y:run C.T C.nt V 400 s0=⟨k,L,M⟩)(h:AD C ⟨k,L,M⟩ V)(hT:K2 C.P C.T:=by exact Aa):AD C s0 V:=AD.run hT 400 y h
theorem Yr.rd(y:run C.T C.nt V 400 s0=⟨.inLoop I::k,L,M⟩)(h:I L' V M)(z:Sub L' L:=by repeat (first|exact Yt|refine⟨Y,?_⟩))(hT:K2 C.P C.T:=by exact Aa):AD C s0 V:=AD.run hT 400 y (AD.round L' z h)
theorem ADJ(n:Nat)(z:run C.T C.nt V 400 s0=⟨.inLoop I::k,L,M⟩)(h:I L' V M')(H:Ln n M=M':=by exact Y)(K:Sub L' L:=by repeat (first|exact Yt|refine⟨Y,?_⟩))(y:Sub L' L':=by repeat (first|exact Yt|refine⟨Y,?_⟩))(N:WE n L'=true:=by exact Y)(O:GM M'=true:=by exact Y)(W:Kw (.inLoop I::k)=true:=by exact Y)(hT:K2 C.P C.T:=by exact Aa):AD C s0 V:=
 AD.run hT 400 z (AD.cut n L' W K N H O (AD.round L' y h))
theorem SO(n:Nat)(z:run C.T C.nt V 400 s0=⟨.inLoop I::k,L,M⟩)(H:Ln n M=M':=by exact Y)(h:I L' V M':=by repeat' (first|exact CE _|assumption|exact Y|exact AK.nil|exact Yt|refine AK.mono ?_ ‹DI _ _›|refine AF.mono ‹DI _ _› ?_|refine Bi.mono ?_ ‹DI _ _›|apply And.intro|apply Exists.intro))(K:Sub L' L:=by repeat (first|exact Yt|refine⟨Y,?_⟩))(y:Sub L' L':=by repeat (first|exact Yt|refine⟨Y,?_⟩))(N:WE n L'=true:=by exact Y)(O:GM M'=true:=by exact Y)(W:Kw (.inLoop I::k)=true:=by exact Y)(hT:K2 C.P C.T:=by exact Aa):AD C s0 V:=
 ADJ n z h H K y N O W hT
def AFS:List Nat->Fr->Fr
 |[],_=>[]|s::r,L=>match EF L s with
  |some x=>(s,x)::AFS r L|none=>AFS r L
theorem Ye{L:Fr}:∀ks:List Nat,Sub (AFS ks L) L
 |[]=>trivial|s::r=>by
  unfold AFS;cases h:EF L s with
  |none=>exact Ye r|some x=>exact⟨h,Ye r⟩
theorem Yr.cut(n:Nat)(ks:List Nat)(y:(run C.T C.nt V 400 s0,Kw k,AFS ks L,Ln n M)=(⟨k,L,M⟩,true,L',M'))(h:AD C ⟨k,L',M'⟩ V)(z:WE n L'=true:=by exact Y)(H:GM M'=true:=by exact Y)(hT:K2 C.P C.T:=by exact Aa):AD C s0 V:=by
 have h1:=(AJ (AJ y).2).2;have h2:=(AJ h1).1;subst h2;exact AD.run hT 400 (AJ y).1 (AD.cut n _ (AJ (AJ y).2).1 (Ye ks) z (AJ h1).2 H h)
theorem AOn{c:Code}(I:Nat->Fr->AM->List OB->Prop)(y:run C.T C.nt V 400 s0=⟨.code (.loop c)::k,L,M⟩)(h0:I n L' V M)(z:∀n L V M,I n L V M->AD C ⟨.code c:: .inLoop (λL V M=>∃m,m<n/\I m L V M)::k,L,M⟩ V)(H:Sub L' L:=by repeat (first|exact Yt|refine⟨Y,?_⟩))(hT:K2 C.P C.T:=by exact Aa):AD C s0 V:=
 AD.run hT 400 y (AD.loop I ⟨n,L',H,h0⟩ z)
theorem APh(I:Fr->AM->List OB->Prop)(y:(run C.T C.nt V 400 s0,Kw k)=(⟨.code aj::k,L,M⟩,true))(h1:∀L V M,I L V M->AD C ⟨k,L,M⟩ V)(h2:AD C ⟨.code aj:: .inLoop I::k,L,M⟩ V)(hT:K2 C.P C.T:=by exact Aa):AD C s0 V:=
 AD.run hT 400 (AJ y).1 (IE I (AJ y).2 h1 h2)
theorem B4{α:Type}{c:Operand}{b:Bool}{x y:AA α}{r:α}(U:cond b x y=some r)(z:(run C.T C.nt V 400 s0,ev (Et L []) [] c)=(⟨.code (.cond c aj aC)::k,L,M⟩,some (.v (.bool b))))(h1:b=true->x=some r->AD C ⟨.code aj::k,L,M⟩ V)(h2:b=false->y=some r->AD C ⟨.code aC::k,L,M⟩ V)(hT:K2 C.P C.T:=by exact Aa):AD C s0 V:=by
 refine AD.run hT 400 (AJ z).1 (AD.cond (AJ z).2 (λh=>h1 h ?_) λh=>h2 h ?_)
 ·subst h;exact U
 ·subst h;exact U
end
theorem se{c:Code}{R:AM->Value->Prop}(z:Tryz.prog.funcs[f]? =some fn)(h:AD ⟨Tryz.prog,NP,fn,nt,V,λV v _=>R V v,λ_ _ _=>False⟩ ⟨[.code c],L,[]⟩ V)(H:fn.body=some c:=by exact Y)(K:(fn.name== "runtime.NumGoroutine")=false:=by kernel_rfl)(y:fn.ntmps=nt:=by exact Y)(hl:Nat.ble args.length nt=true:=by exact Y)(N:Tf 0 args=L:=by exact Y):Spec Tryz.prog f args V R:=Spec.enter (T:=NP) z H K y hl N h
theorem Yr.ret(y:(run (Ctx.T C) (Ctx.nt C) V 400 s0,Func.results (Ctx.fn C),Zs (Ctx.T C) L M rs)=({k:=Kt.code Code.ret::k,L:=L,M:=M},{toList:=rs},some vs))(z:Ctx.R C V (UC vs) M)(hT:K2 (Ctx.P C) (Ctx.T C):=by exact Aa):AD C s0 V:=
 AD.run hT 400 ((AJ y).1) (AD.ret hT ((AJ (AJ y).2).1) ((AJ (AJ y).2).2) z)
theorem Yr.OJ{d:Nat}(x:Value)(y:(run (Ctx.T C) (Ctx.nt C) V 400 s0,CF (Ctx.nt C) all lr L o,Gc (Et L lr) G (Oper.op o))=({k:=Kt.ops (o::rest) all lr::k,L:=L,M:=M},some (G,d),some (f,args)))(z:P3 lr G (Spec (Ctx.P C) f args V λ(H:AM)(v:Value)=>v=x))(K:AD C {k:=Kt.ops rest all ({s:=d,c:=G,x:=SV.v x,r:=d}::lr)::k,L:=F9 G d (SV.v x) L,M:=M} V)(hT:K2 (Ctx.P C) (Ctx.T C):=by exact Aa):AD C s0 V:=
 AD.run hT 400 ((AJ y).1) (AD.OJ x ((AJ (AJ y).2).1) ((AJ (AJ y).2).2) z K)
theorem Yr.ld{d:Nat}{a:AA Addr}(y:(run (Ctx.T C) (Ctx.nt C) V 400 s0,CF (Ctx.nt C) all lr L o,WS (Ctx.T C) (Et L lr) G (Oper.op o))=({k:=Kt.ops (o::rest) all lr::k,L:=L,M:=M},some (G,d),some (a,off,aa)))(z:P3 lr G (Bi V a off cs))(H:KQ (UD.agg (G6.RI aa)) cs=x)(K:AD C {k:=Kt.ops rest all ({s:=d,c:=G,x:=SV.v x,r:=d}::lr)::k,L:=F9 G d (SV.v x) L,M:=M} V)(N:List.length cs=G6.size aa:=by exact Y)(hT:K2 (Ctx.P C) (Ctx.T C):=by exact Aa):AD C s0 V:=
 AD.run hT 400 ((AJ y).1) (AD.ld hT ((AJ (AJ y).2).1) ((AJ (AJ y).2).2) z N H K)
theorem Yr.ia{d:Nat}{a:AA Addr}{len:Nat}{n:Int}(y:(run (Ctx.T C) (Ctx.nt C) V 400 s0,CF (Ctx.nt C) all lr L o,AHA (Ctx.T C) (Et L lr) G (Oper.op o))=({k:=Kt.ops (o::rest) all lr::k,L:=L,M:=M},some (G,d),some (a,len,n,sz)))(z:P3 lr G (0<=n/\n< ↑len/\∃(b:Nat),∃(o:Nat),a=some {block:=b,off:=o}))(H:AD C {k:=Kt.ops rest all ({s:=d,c:=G,x:=SV.el a (Int.toNat n*sz),r:=d}::lr)::k,L:=F9 G d (SV.el a (Int.toNat n*sz)) L,M:=M} V)(hT:K2 (Ctx.P C) (Ctx.T C):=by exact Aa):AD C s0 V:=
 AD.run hT 400 ((AJ y).1) (AD.ia hT ((AJ (AJ y).2).1) ((AJ (AJ y).2).2) z H)
theorem Yr.call{d:Nat}{R:AM->Value->Prop}(y:(run (Ctx.T C) (Ctx.nt C) V 400 s0,CF (Ctx.nt C) all lr L o,Gc (Et L lr) [] (Oper.op o))=({k:=Kt.ops (o::rest) all lr::k,L:=L,M:=M},some ([],d),some (f,args)))(z:Spec (Ctx.P C) f args V R)(H:(∀(V':AM)(v:Value),DI V V'->R V' v->AD C {k:=Kt.ops rest all ({s:=d,c:=[],x:=SV.v v,r:=d}::lr)::k,L:=(d,SV.v v)::L,M:=M} V'))(hT:K2 (Ctx.P C) (Ctx.T C):=by exact Aa):AD C s0 V:=
 AD.run hT 400 ((AJ y).1) (AD.call ((AJ (AJ y).2).1) ((AJ (AJ y).2).2) z H)
theorem Yr.DU{id:Nat}{ops:List Oper}(Ih:List (Nat×Bool))(y:(run (Ctx.T C) (Ctx.nt C) V 400 s0,AHK L ops 0 ops)=({k:=Kt.code (Code.region id {toList:=ops} true)::k,L:=L,M:=M},(az,aP)))(z:AD C {k:=Kt.draw {all:=ops,listed:=UY ops,n:=N6 ops,ends:=az,n0:=N6 M,mask:=aP,V:=V,Ih:=Ih,lr:=[]}::k,L:=L,M:=M} V)(H:Hg ops az (N6 ops) (UY ops) Ih=true:=by kernel_rfl)(hT:K2 (Ctx.P C) (Ctx.T C):=by exact Aa):AD C s0 V:=
 AD.run hT 400 ((AJ y).1) (AD.DU hT Ih ((AJ y).2) H z)
theorem Yr.P8{d:Nat}{p:List (Nat×Bool)}{a:AA Addr}(y:(run (Ctx.T C) (Ctx.nt C) V 400 s0,Qm (Ctx.nt C) all lr i L,m',WS (Ctx.T C) (Et L lr) G (Oper.op o))=({k:=Kt.draw {all:=all,listed:=listed,n:=m',ends:=ends,n0:=n0,mask:=mask,V:=V1,Ih:=(i,true)::p,lr:=lr}::k,L:=L,M:=M},some (o,G,d),m+1,some (a,off,aa)))(z:P3 lr G (Bi V1 a off cs))(H:AD C {k:=Kt.draw {all:=all,listed:=Ha listed i,n:=m,ends:=ends,n0:=n0,mask:=mask,V:=V1,Ih:=p,lr:={s:=d,c:=G,x:=SV.v x,r:=d}::lr}::k,L:=F9 G d (SV.v x) L,M:=M} V)(K:List.length cs=G6.size aa:=by exact Y)(N:KQ (UD.agg (G6.RI aa)) cs=x:=by exact Y)(hT:K2 (Ctx.P C) (Ctx.T C):=by exact Aa):AD C s0 V:=
 AD.run hT 400 ((AJ y).1) (AD.P8 hT ((AJ (AJ y).2).1) ((AJ (AJ (AJ y).2).2).1) ((AJ (AJ (AJ y).2).2).2) z K N H)
theorem Yr.O5{d:Nat}{l:List Value}(i:Nat)(y:(run (Ctx.T C) (Ctx.nt C) V 400 s0,CF (Ctx.nt C) all lr L o,WS (Ctx.T C) (Et L lr) G (Oper.op o),nth M i)=({k:=Kt.ops (o::rest) all lr::k,L:=L,M:=M},some (G,d),some (some {block:=g,off:=q},off,aa),some (OB.row (Value.slice (some {block:=g,off:=0}) n c) cs e sz)))(z:BE cs (q+off) l)(H:KQ (UD.agg (G6.RI aa)) l=x)(K:AD C {k:=Kt.ops rest all ({s:=d,c:=G,x:=SV.v x,r:=d}::lr)::k,L:=F9 G d (SV.v x) L,M:=M} V)(N:List.length l=G6.size aa:=by exact Y)(hT:K2 (Ctx.P C) (Ctx.T C):=by exact Aa):AD C s0 V:=
 AD.run hT 400 ((AJ y).1) (AD.O5 hT i ((AJ (AJ y).2).1) ((AJ (AJ (AJ y).2).2).1) ((AJ (AJ (AJ y).2).2).2) z N H K)
theorem Yr.SL(y:(run (Ctx.T C) (Ctx.nt C) V 400 s0,Func.results (Ctx.fn C),Zs (Ctx.T C) L M rs)=({k:=[],L:=L,M:=M},{toList:=rs},some vs))(z:Ctx.R C V (UC vs) M)(hT:K2 (Ctx.P C) (Ctx.T C):=by exact Aa):AD C s0 V:=
 AD.run hT 400 ((AJ y).1) (AD.SL hT ((AJ (AJ y).2).1) ((AJ (AJ y).2).2) z)
theorem Yr.RV{d:Nat}{x:SV}(z:(run (Ctx.T C) (Ctx.nt C) V 400 s0,CF (Ctx.nt C) all lr L o,ABP (Ctx.T C) (Et L lr) M (Oper.op o))=({k:=Kt.ops (o::rest) all lr::k,L:=L,M:=M},some ([],d),some (x,M',n0,ak,y)))(H:AD C {k:=Kt.ops rest all ({s:=d,c:=[],x:=x,r:=d}::lr)::k,L:=(d,x)::L,M:=M'} V)(hT:K2 (Ctx.P C) (Ctx.T C):=by exact Aa):AD C s0 V:=
 AD.run hT 400 ((AJ z).1) (AD.RV hT ((AJ (AJ z).2).1) ((AJ (AJ z).2).2) H)
theorem Yr.Jw{d:Nat}{p:List (Nat×Bool)}{l:List Value}(r:Nat)(y:(run (Ctx.T C) (Ctx.nt C) V 400 s0,Qm (Ctx.nt C) all lr i L,m',WS (Ctx.T C) (Et L lr) G (Oper.op o),nth (Sd mask 0 n0 M) r)=({k:=Kt.draw {all:=all,listed:=listed,n:=m',ends:=ends,n0:=n0,mask:=mask,V:=V1,Ih:=(i,true)::p,lr:=lr}::k,L:=L,M:=M},some (o,G,d),m+1,some (some {block:=g,off:=q},off,aa),some (OB.row (Value.slice (some {block:=g,off:=0}) n c) cs e sz)))(z:BE cs (q+off) l)(H:AD C {k:=Kt.draw {all:=all,listed:=Ha listed i,n:=m,ends:=ends,n0:=n0,mask:=mask,V:=V1,Ih:=p,lr:={s:=d,c:=G,x:=SV.v x,r:=d}::lr}::k,L:=F9 G d (SV.v x) L,M:=M} V)(K:List.length l=G6.size aa:=by exact Y)(N:KQ (UD.agg (G6.RI aa)) l=x:=by exact Y)(hT:K2 (Ctx.P C) (Ctx.T C):=by exact Aa):AD C s0 V:=
 AD.run hT 400 ((AJ y).1) (AD.Jw hT r ((AJ (AJ y).2).1) ((AJ (AJ (AJ y).2).2).1) ((AJ (AJ (AJ (AJ y).2).2).2).1) ((AJ (AJ (AJ (AJ y).2).2).2).2) z K N H)
theorem Yr.Qp{d:Nat}{p:List (Nat×Bool)}{a:AA Addr}{len:Nat}{n:Int}(y:(run (Ctx.T C) (Ctx.nt C) V 400 s0,Qm (Ctx.nt C) all lr i L,m',AHA (Ctx.T C) (Et L lr) G (Oper.op o))=({k:=Kt.draw {all:=all,listed:=listed,n:=m',ends:=ends,n0:=n0,mask:=mask,V:=V1,Ih:=(i,true)::p,lr:=lr}::k,L:=L,M:=M},some (o,G,d),m+1,some (a,len,n,sz)))(z:P3 lr G (0<=n/\n< ↑len/\∃(b:Nat),∃(o:Nat),a=some {block:=b,off:=o}))(H:AD C {k:=Kt.draw {all:=all,listed:=Ha listed i,n:=m,ends:=ends,n0:=n0,mask:=mask,V:=V1,Ih:=p,lr:={s:=d,c:=G,x:=SV.el a (Int.toNat n*sz),r:=d}::lr}::k,L:=F9 G d (SV.el a (Int.toNat n*sz)) L,M:=M} V)(hT:K2 (Ctx.P C) (Ctx.T C):=by exact Aa):AD C s0 V:=
 AD.run hT 400 ((AJ y).1) (AD.Qp hT ((AJ (AJ y).2).1) ((AJ (AJ (AJ y).2).2).1) ((AJ (AJ (AJ y).2).2).2) z H)
theorem Yr.QY{a:AA Addr}(i:Nat)(y:(run (Ctx.T C) (Ctx.nt C) V 400 s0,ADC i k,nth M i,It M i OB.Sk)=({k:=k,L:=L,M:=M},true,some (OB.row (Value.slice a n c) cs e sz),some M'))(z:(∀(V':AM),DI V V'->(cs≠[]->Bi V' a 0 cs)->n<=c->AD C {k:=k,L:=L,M:=M'} V'))(hT:K2 (Ctx.P C) (Ctx.T C):=by exact Aa):AD C s0 V:=
 AD.run hT 400 ((AJ y).1) (AD.QY i ((AJ (AJ y).2).1) ((AJ (AJ (AJ y).2).2).1) ((AJ (AJ (AJ y).2).2).2) z)
theorem Yr.app{d:Nat}{a:AA Addr}{M':AA Addr->Nat->List OB}(i:Nat)(j:Nat)(H:(run (Ctx.T C) (Ctx.nt C) V 400 s0,CF (Ctx.nt C) all lr L o,Xj (Ctx.T C) (Oper.op o),ev (Et L lr) [] af,ev (Et L lr) [] aw,nth M i,nth M j,Oo ak,Rv ak,List.length O)=({k:=Kt.ops (o::rest) all lr::k,L:=L,M:=M},some ([],d),some (af,aw,t,e,sz,y),some (SV.v (Value.slice a n c)),some (SV.TY j 0 m c2),some (OB.row (Value.slice a n c) cs e sz),some (OB.Bp ak z),some O,true,m*sz))(K:n+m=nm)(N:(∀(a':AA Addr)(c':Nat),It M i (OB.row (Value.slice a' nm c') (cs++O) e sz)=some (M' a' c')))(W:nm*y<=140737488355328)(X:(∀(a':AA Addr)(c':Nat),AD C {k:=Kt.ops rest all ({s:=d,c:=[],x:=SV.v (Value.slice a' nm c'),r:=d}::lr)::k,L:=(d,SV.v (Value.slice a' nm c'))::L,M:=M' a' c'} V))(Z:L9 i k=true:=by exact Y)(hT:K2 (Ctx.P C) (Ctx.T C):=by exact Aa):AD C s0 V:=
 AD.run hT 400 ((AJ H).1) (AD.app hT i j ((AJ (AJ H).2).1) ((AJ (AJ (AJ H).2).2).1) ((AJ (AJ (AJ (AJ H).2).2).2).1) ((AJ (AJ (AJ (AJ (AJ H).2).2).2).2).1) ((AJ (AJ (AJ (AJ (AJ (AJ H).2).2).2).2).2).1) ((AJ (AJ (AJ (AJ (AJ (AJ (AJ H).2).2).2).2).2).2).1) ((AJ (AJ (AJ (AJ (AJ (AJ (AJ (AJ H).2).2).2).2).2).2).2).1) ((AJ (AJ (AJ (AJ (AJ (AJ (AJ (AJ (AJ H).2).2).2).2).2).2).2).2).1) ((AJ (AJ (AJ (AJ (AJ (AJ (AJ (AJ (AJ H).2).2).2).2).2).2).2).2).2) K N Z W X)
theorem Yr.P6{vs:List SV}(i:Nat)(z:(run (Ctx.T C) (Ctx.nt C) V 400 s0,IH all lr (Oper.guard o),Oper.dst o,AI5 (Ctx.T C) (Et L lr) (Oper.op o),Oo vs,nth M i)=({k:=Kt.ops (o::rest) all lr::k,L:=L,M:=M},some [],none,some (some {block:=g,off:=q},off,vs,y),some nv,some (OB.row (Value.slice (some {block:=g,off:=0}) n c) cs e sz)))(N:q+off+y<=List.length cs)(H:AD C {k:=Kt.ops rest all lr::k,L:=L,M:=M'} V)(W:List.take (q+off) cs++nv++List.drop (q+off+y) cs=O:=by exact Y)(X:It M i (OB.row (Value.slice (some {block:=g,off:=0}) n c) O e sz)=some M':=by exact Y)(K:L9 i k=true:=by exact Y)(hT:K2 (Ctx.P C) (Ctx.T C):=by exact Aa):AD C s0 V:=
 AD.run hT 400 ((AJ z).1) (AD.P6 hT i ((AJ (AJ z).2).1) ((AJ (AJ (AJ z).2).2).1) ((AJ (AJ (AJ (AJ z).2).2).2).1) ((AJ (AJ (AJ (AJ (AJ z).2).2).2).2).1) ((AJ (AJ (AJ (AJ (AJ z).2).2).2).2).2) N W X K H)
theorem Yr.E2{id:Nat}{ops:List Oper}(es:List Nat)(ms:List Nat)(Ih:List (Nat×Bool))(y:run (Ctx.T C) (Ctx.nt C) V 400 s0={k:=Kt.code (Code.region id {toList:=ops} true)::k,L:=L,M:=M})(z:AD C {k:=Kt.draw {all:=ops,listed:=UY ops,n:=N6 ops,ends:=es,n0:=N6 M,mask:=ms,V:=V,Ih:=Ih,lr:=[]}::k,L:=L,M:=M} V)(H:Hg ops es (N6 ops) (UY ops) Ih=true:=by kernel_rfl)(hT:K2 (Ctx.P C) (Ctx.T C):=by exact Aa):AD C s0 V:=
 AD.run hT 400 y (AD.E2 hT es ms Ih H z)
theorem Yr.Zr{a:AA Addr}{vs:List SV}(i:Nat)(z:(run (Ctx.T C) (Ctx.nt C) V 400 s0,IH all lr (Oper.guard o),Oper.dst o,AI5 (Ctx.T C) (Et L lr) (Oper.op o),Oo vs,nth M i)=({k:=Kt.ops (o::rest) all lr::k,L:=L,M:=M},some [],none,some (a,off,vs,y),some nv,some (OB.row (Value.slice a n c) cs e sz)))(W:(∃(b:Nat),∃(o:Nat),a=some {block:=b,off:=o}))(X:off+y<=List.length cs)(Z:List.take off cs++nv++List.drop (off+y) cs=O)(H:AD C {k:=Kt.ops rest all lr::k,L:=L,M:=M'} V)(K:It M i (OB.row (Value.slice a n c) O e sz)=some M':=by exact Y)(N:L9 i k=true:=by exact Y)(hT:K2 (Ctx.P C) (Ctx.T C):=by exact Aa):AD C s0 V:=
 AD.run hT 400 ((AJ z).1) (AD.Zr hT i ((AJ (AJ z).2).1) ((AJ (AJ (AJ z).2).2).1) ((AJ (AJ (AJ (AJ z).2).2).2).1) ((AJ (AJ (AJ (AJ (AJ z).2).2).2).2).1) ((AJ (AJ (AJ (AJ (AJ z).2).2).2).2).2) W X Z K N H)
theorem Yr.HT{d:Nat}{Q:AM->List OB->Prop}{v:Value}(is:List Nat)(y:(run (Ctx.T C) (Ctx.nt C) V 400 s0,CF (Ctx.nt C) all lr L o,Gc (Et L lr) [] (Oper.op o),Dh M is,Cx bs,FU is,Mt k is)=({k:=Kt.ops (o::rest) all lr::k,L:=L,M:=M},some ([],d),some (f,args),some bs,true,true,true))(H:(GP (Ctx.P C) f args bs V λ(V':AM)(e:Ending)(M':List OB)=>Q V' M'/\e=Ending.returned v))(K:(∀(V':AM)(z:List OB),DI V V'->Q V' z->∃(M':List OB),EV M is z=some M'/\AD C {k:=Kt.ops rest all ({s:=d,c:=[],x:=SV.v v,r:=d}::lr)::k,L:=(d,SV.v v)::L,M:=M'} V'))(hT:K2 (Ctx.P C) (Ctx.T C):=by exact Aa):AD C s0 V:=
 AD.run hT 400 ((AJ y).1) (AD.HT is ((AJ (AJ y).2).1) ((AJ (AJ (AJ y).2).2).1) ((AJ (AJ (AJ (AJ y).2).2).2).1) ((AJ (AJ (AJ (AJ (AJ y).2).2).2).2).1) ((AJ (AJ (AJ (AJ (AJ (AJ y).2).2).2).2).2).1) ((AJ (AJ (AJ (AJ (AJ (AJ y).2).2).2).2).2).2) H K)
theorem Yr.Eh(e:Nat)(sz:Nat)(y:(run (Ctx.T C) (Ctx.nt C) V 400 s0,RO M (OB.row (Value.slice none 0 0) [] e sz) 0)=({k:=k,L:=L,M:=M},some (M',i)))(z:AD C {k:=k,L:=L,M:=M'} V)(hT:K2 (Ctx.P C) (Ctx.T C):=by exact Aa):AD C s0 V:=
 AD.run hT 400 ((AJ y).1) (AD.Eh e sz ((AJ y).2) z)
theorem Y.GC{d:Nat}{α:Type}{g:α->Value}{Q:AM->List OB->Prop}{x:Except Gk α}{s:Gk}(is:List Nat)(y:(CF (Ctx.nt C) all lr L o,Gc (Et L lr) [] (Oper.op o),Dh M is,Cx bs,FU is,Mt k is)=(some ([],d),some (f,args),some bs,true,true,true))(H:(GP (Ctx.P C) f args bs V λ(V':AM)(e:Ending)(M':List OB)=>Q V' M'/\e=Pv t0 g x))(K:x=Except.error s)(N:(∀(V':AM)(z:List OB),DI V V'->Q V' z->∃(M':List OB),EV M is z=some M'/\Ctx.PR C V' (AEu t0 s) M')):AD C {k:=Kt.ops (o::rest) all lr::k,L:=L,M:=M} V:=
 AD.GC is ((AJ y).1) ((AJ (AJ y).2).1) ((AJ (AJ (AJ y).2).2).1) ((AJ (AJ (AJ (AJ y).2).2).2).1) ((AJ (AJ (AJ (AJ (AJ y).2).2).2).2).1) ((AJ (AJ (AJ (AJ (AJ y).2).2).2).2).2) H K N
theorem Y.GB{d:Nat}{α:Type}{g:α->Value}{Q:AM->List OB->Prop}{x:Except Gk α}{y:α}(is:List Nat)(z:(CF (Ctx.nt C) all lr L o,Gc (Et L lr) [] (Oper.op o),Dh M is,Cx bs,FU is,Mt k is)=(some ([],d),some (f,args),some bs,true,true,true))(K:(GP (Ctx.P C) f args bs V λ(V':AM)(e:Ending)(M':List OB)=>Q V' M'/\e=Pv t0 g x))(N:x=Except.ok y)(O:(∀(V':AM)(H:List OB),DI V V'->Q V' H->∃(M':List OB),EV M is H=some M'/\AD C {k:=Kt.ops rest all ({s:=d,c:=[],x:=SV.v (g y),r:=d}::lr)::k,L:=(d,SV.v (g y))::L,M:=M'} V')):AD C {k:=Kt.ops (o::rest) all lr::k,L:=L,M:=M} V:=
 AD.GB is ((AJ z).1) ((AJ (AJ z).2).1) ((AJ (AJ (AJ z).2).2).1) ((AJ (AJ (AJ (AJ z).2).2).2).1) ((AJ (AJ (AJ (AJ (AJ z).2).2).2).2).1) ((AJ (AJ (AJ (AJ (AJ z).2).2).2).2).2) K N O
theorem Y.ret(y:(Func.results (Ctx.fn C),Zs (Ctx.T C) L M rs)=({toList:=rs},some vs))(z:Ctx.R C V (UC vs) M)(hT:K2 (Ctx.P C) (Ctx.T C):=by exact Aa):AD C {k:=Kt.code Code.ret::k,L:=L,M:=M} V:=
 AD.ret hT ((AJ y).1) ((AJ y).2) z
theorem tu{p:Prop}(h:p:=by repeat' (first|exact CE _|assumption|exact Y|exact AK.nil|exact Yt|refine AK.mono ?_ ‹DI _ _›|refine AF.mono ‹DI _ _› ?_|refine Bi.mono ?_ ‹DI _ _›|apply And.intro|apply Exists.intro)):p:=h
theorem rt{p:Prop}(h:p:=by cases U;exact Yr.ret Y tu):p:=h
theorem rf{p:Prop}(h:p:=by cases U;exact Yr.SL Y tu):p:=h
theorem ry{p:Prop}(h:p:=by cases U;exact Y.ret Y tu):p:=h
theorem qE{p:Prop}(h:p:=by rintro V _ hv ⟨a1,k1,a2,k2,a3,k3,a4,k4,y,a5,k5,z,a6,k6,H,a7,k7,K,rfl,h1,h2,h3,N,O,W,X⟩;cases U;exact⟨_,Y,⟨Y,Y,⟨a1,k1,a2,k2,a3,k3,a4,k4,y,a5,k5,z,a6,k6,H,a7,k7,K,Y,h1,h2,h3,N,O,W,X⟩,Y⟩⟩):p:=h
theorem rd{p:Prop}(h:p:=by exact Yr.rd Y tu):p:=h
theorem r0{p:Prop}(h:p:=by exact SO 0 Y):p:=h
theorem r1{p:Prop}(h:p:=by exact SO 1 Y):p:=h
theorem r2{p:Prop}(h:p:=by exact SO 2 Y):p:=h
theorem r4{p:Prop}(h:p:=by exact SO 4 Y):p:=h
theorem r5{p:Prop}(h:p:=by exact SO 5 Y):p:=h
theorem rE{p:Prop}(h:p:=by exact Yr.ret Y tu):p:=h
theorem rA{p:Prop}(h:p:=by exact Yr.SL Y tu):p:=h
theorem rY{p:Prop}(h:p:=by exact Y.ret Y tu):p:=h
theorem qf{p:Prop}(h:p:=by rintro V _ hv rfl;cases U;exact tu):p:=h
theorem qg{p:Prop}(h:p:=by first|exact qE|exact qf):p:=h
section
variable {C:Ctx} {s0:St} {k:List Kt} {L:Fr} {M:List OB} {V:AM} {α β:Type}
theorem i1{c:Operand}{b:Bool}{x y:AA α}{r:α}(U:cond b x y=some r)(h2:b=false->y=some r->AD C ⟨.code aC::k,L,M⟩ V)(z:(run C.T C.nt V 400 s0,ev (Et L []) [] c)=(⟨.code (.cond c aj aC)::k,L,M⟩,some (.v (.bool b))):=by exact Y)(h1:b=true->x=some r->AD C ⟨.code aj::k,L,M⟩ V:=by intro _ U;exact rt)(hT:K2 C.P C.T:=by exact Aa):AD C s0 V:=B4 U z h1 h2 hT
theorem i2{c:Operand}{b:Bool}{x y:AA α}{r:α}(U:cond b x y=some r)(h1:b=true->x=some r->AD C ⟨.code aj::k,L,M⟩ V)(z:(run C.T C.nt V 400 s0,ev (Et L []) [] c)=(⟨.code (.cond c aj aC)::k,L,M⟩,some (.v (.bool b))):=by exact Y)(h2:b=false->y=some r->AD C ⟨.code aC::k,L,M⟩ V:=by intro _ U;exact rt)(hT:K2 C.P C.T:=by exact Aa):AD C s0 V:=B4 U z h1 h2 hT
theorem i3{c:Operand}{b:Bool}{x y:AA α}{r:α}(U:cond b x y=some r)(z:(run C.T C.nt V 400 s0,ev (Et L []) [] c)=(⟨.code (.cond c aj aC)::k,L,M⟩,some (.v (.bool b))):=by exact Y)(h1:b=true->x=some r->AD C ⟨.code aj::k,L,M⟩ V:=by intro _ U;exact rt)(h2:b=false->y=some r->AD C ⟨.code aC::k,L,M⟩ V:=by intro _ U;exact rt)(hT:K2 C.P C.T:=by exact Aa):AD C s0 V:=B4 U z h1 h2 hT
theorem P3.mp{lr:List B7}{p q:Prop}:∀{G:List (Nat×Bool)},P3 lr G p->(p->q)->P3 lr G q
 |[],h,f=>f h|(r,b)::G,h,f=>by
  unfold P3 at h⊢;split
  ·rename_i e;simp only[e]at h;exactλy=>P3.mp (h y) f
  ·rename_i e;split at h
   ·rename_i z;exact absurd z (e _ _ _ _)
   ·exact P3.mp h f
theorem Yr.cb{d fn:Nat}{f:AA α}{g:α->AA β}{r:β}{y:α->Value}(U:Az f g=some r)(z:(run C.T C.nt V 400 s0,CF C.nt all lr L o,Gc (Et L lr) G (Oper.op o))=({k:=Kt.ops (o::rest) all lr::k,L:=L,M:=M},some (G,d),some (fn,args)))(H:∀{x},f=some x->P3 lr G (Spec C.P fn args V λ_ v=>v=y x))(K:∀x,g x=some r->AD C {k:=Kt.ops rest all ({s:=d,c:=G,x:=SV.v (y x),r:=d}::lr)::k,L:=F9 G d (SV.v (y x)) L,M:=M} V)(hT:K2 C.P C.T:=by exact Aa):AD C s0 V:=by
 have⟨x,N,U⟩:=AO U;exact Yr.OJ _ z (H N) (K x U) hT
theorem Gj[Inhabited α]{d fn:Nat}{f:AA α}{g:α->AA β}{r:β}{y:α->Value}(U:Az (CG aL f) g=some r)(z:(run C.T C.nt V 400 s0,CF C.nt all lr L o,Gc (Et L lr) G (Oper.op o))=({k:=Kt.ops (o::rest) all lr::k,L:=L,M:=M},some (G,d),some (fn,args)))(H:∀{x},f=some x->Spec C.P fn args V λ_ v=>v=y x)(K:∀x,g x=some r->AD C {k:=Kt.ops rest all ({s:=d,c:=G,x:=SV.v (y x),r:=d}::lr)::k,L:=F9 G d (SV.v (y x)) L,M:=M} V)(N:P3 lr G (aL=true):=by first|exactλa=>Bv a|exactλa b=>Dr a b|exactλa b c=>AOU a b c)(hT:K2 C.P C.T:=by exact Aa):AD C s0 V:=by
 have⟨x,O,U⟩:=AO U;exact Yr.OJ _ z (P3.mp N λW=>H (Nq O W)) (K x U) hT
theorem Y.cx{d:Nat}{g:α->Value}{Q:AM->List OB->Prop}{x:Except Gk α}{r:β}{k1:Gk->AA β}{k2:α->AA β}(U:I9 x k1 k2=some r)(is:List Nat)(H:(CF (Ctx.nt C) all lr L o,Gc (Et L lr) [] (Oper.op o),Dh M is,Cx bs,FU is,Mt k is)=(some ([],d),some (f,args),some bs,true,true,true))(K:(GP (Ctx.P C) f args bs V λ(V':AM)(e:Ending)(M':List OB)=>Q V' M'/\e=Pv t0 g x))(N:∀y,x=Except.ok y->k2 y=some r->∀(V':AM)(z:List OB),DI V V'->Q V' z->∃(M':List OB),EV M is z=some M'/\AD C {k:=Kt.ops rest all ({s:=d,c:=[],x:=SV.v (g y),r:=d}::lr)::k,L:=(d,SV.v (g y))::L,M:=M'} V')(O:∀s,x=Except.error s->k1 s=some r->∀(V':AM)(z:List OB),DI V V'->Q V' z->∃(M':List OB),EV M is z=some M'/\Ctx.PR C V' (AEu t0 s) M':=by intro s es U;exact qg):AD C {k:=Kt.ops (o::rest) all lr::k,L:=L,M:=M} V:=by
 rcases EM U with⟨s,es,U⟩|⟨y,es,U⟩
 ·exact Y.GC is H K es (O s es U)
 ·exact Y.GB is H K es (N y es U)
end
section
variable {C:Ctx} {s0:St} {k:List Kt} {L L':Fr} {M M':List OB} {V:AM} {α β:Type}
theorem lq{c:Code}(I:Nat->Fr->AM->List OB->Prop)(z:run C.T C.nt V 400 s0=⟨.code (.loop c)::k,L,M⟩)(h0:I n L' V M)(H:∀n L V M,I (n+1) L V M->AD C ⟨.code c:: .inLoop (λL V M=>∃m,m<n+1/\I m L V M)::k,L,M⟩ V)(K:Sub L' L:=by repeat (first|exact Yt|refine⟨Y,?_⟩))(hT:K2 C.P C.T:=by exact Aa)(y:∀L V M,I 0 L V M->False:=by intro _ _ _ h;repeat (first|(cases h;done)|have⟨_,h⟩:=h)):AD C s0 V:=
 AOn I z h0 (λn L V M h=>by
  cases n with
  |zero=>exact(y _ _ _ h).elim|succ n=>exact H n L V M h) K hT
theorem sj(n:Nat){ρ:Type}{j:AA ρ}{f:AA ρ->AA ρ}{r:ρ}(U:jn j f=some r)(y:(run C.T C.nt V n s0,Kw k)=(⟨.code aj::k,L,M⟩,true))(h2:∀J,f J=some r->AD C ⟨.code aj:: .inLoop (λL' _ M'=>L'=[]/\M'=[]/\J=some r)::k,L,M⟩ V)(h1:∀V,j=some r->AD C ⟨k,[],[]⟩ V:=by intro _ U;exact rt)(hT:K2 C.P C.T:=by exact Aa):AD C s0 V:=
 AD.run hT n (AJ y).1 (IE _ (AJ y).2 (λL V M h=>by obtain⟨rfl,rfl,h⟩:=h;exact h1 V h) (h2 j U))
theorem i4{c:Operand}{b:Bool}{x y:AA α}{r:α}(U:cond b x y=some r)(h1:b=true->x=some r->AD C ⟨.code aj::k,L,M⟩ V)(z:(run C.T C.nt V 400 s0,ev (Et L []) [] c)=(⟨.code (.cond c aj aC)::k,L,M⟩,some (.v (.bool b))):=by exact Y)(h2:b=false->y=some r->AD C ⟨.code aC::k,L,M⟩ V:=by intro _ U;exact rd)(hT:K2 C.P C.T:=by exact Aa):AD C s0 V:=B4 U z h1 h2 hT
theorem i5{c:Operand}{b:Bool}{x y:AA α}{r:α}(U:cond b x y=some r)(h2:b=false->y=some r->AD C ⟨.code aC::k,L,M⟩ V)(z:(run C.T C.nt V 400 s0,ev (Et L []) [] c)=(⟨.code (.cond c aj aC)::k,L,M⟩,some (.v (.bool b))):=by exact Y)(h1:b=true->x=some r->AD C ⟨.code aj::k,L,M⟩ V:=by intro _ U;exact rd)(hT:K2 C.P C.T:=by exact Aa):AD C s0 V:=B4 U z h1 h2 hT
theorem i6{c:Operand}{b:Bool}{x y:AA α}{r:α}(U:cond b x y=some r)(h1:b=true->x=some r->AD C ⟨.code aj::k,L,M⟩ V)(z:(run C.T C.nt V 400 s0,ev (Et L []) [] c)=(⟨.code (.cond c aj aC)::k,L,M⟩,some (.v (.bool b))):=by exact Y)(h2:b=false->y=some r->AD C ⟨.code aC::k,L,M⟩ V:=by intro _ U;exact r0)(hT:K2 C.P C.T:=by exact Aa):AD C s0 V:=B4 U z h1 h2 hT
theorem i7{c:Operand}{b:Bool}{x y:AA α}{r:α}(U:cond b x y=some r)(h2:b=false->y=some r->AD C ⟨.code aC::k,L,M⟩ V)(z:(run C.T C.nt V 400 s0,ev (Et L []) [] c)=(⟨.code (.cond c aj aC)::k,L,M⟩,some (.v (.bool b))):=by exact Y)(h1:b=true->x=some r->AD C ⟨.code aj::k,L,M⟩ V:=by intro _ U;exact r0)(hT:K2 C.P C.T:=by exact Aa):AD C s0 V:=B4 U z h1 h2 hT
theorem sx{c:Code}(z:Tryz.prog.funcs[f]? =some fn)(h:AD ⟨Tryz.prog,NP,fn,nt,V,AOr n R,AOq n R⟩ ⟨[.code c],L,M⟩ V)(H:fn.body=some c:=by exact Y)(hm:(fn.name== "runtime.NumGoroutine")=false:=by kernel_rfl)(y:fn.ntmps=nt:=by exact Y)(hl:Nat.ble args.length nt=true:=by exact Y)(K:Tf 0 args=L:=by exact Y)(N:M.length=n:=by exact Y):GP Tryz.prog f args M V R:=GP.enter z H hm y hl K N h
theorem yx{P:List OB->St}{o:AA (List OB)}(y:AD C ⟨k,L,M⟩ V)(h:o=some M':=by exact Y)(z:run C.T C.nt V 400 (P M')=⟨k,L,M⟩:=by exact Y)(hT:K2 C.P C.T:=by exact Aa):∃M',o=some M'/\AD C (P M') V:=⟨M',h,AD.run hT 400 z y⟩
theorem yz{P:List OB->St}{o:AA (List OB)}(y:(o.map λm=>(m,run C.T C.nt V 400 (P m)))=some (M',⟨k,L,M⟩))(z:AD C ⟨k,L,M⟩ V)(hT:K2 C.P C.T:=by exact Aa):∃M',o=some M'/\AD C (P M') V:=by
 cases o with
 |none=>cases y|some m=>
  have h:=AJ (Lp y);exact⟨m,Y,AD.run hT 400 h.2 z⟩
end
section
variable {C:Ctx} {s0:St} {k:List Kt} {L:Fr} {M:List OB} {V:AM} {κ ρ:Type}
theorem sn{j:κ}{f:κ->AA ρ}{r:ρ}(U:jn j f=some r)(I:κ->Fr->AM->List OB->Prop)(y:Kw k=true)(h1:∀L V M,I j L V M->AD C ⟨k,L,M⟩ V)(h2:∀J,f J=some r->AD C ⟨.code aj:: .inLoop (I J)::k,L,M⟩ V):AD C ⟨.code aj::k,L,M⟩ V:=IE _ y h1 (h2 j U)
theorem sm{j:κ}{f:κ->AA ρ}{r:ρ}(U:jn j f=some r)(I:κ->Fr->AM->List OB->Prop)(y:(run C.T C.nt V 400 s0,Kw k)=(⟨.code aj::k,L,M⟩,true))(h1:∀L V M,I j L V M->AD C ⟨k,L,M⟩ V)(h2:∀J,f J=some r->AD C ⟨.code aj:: .inLoop (I J)::k,L,M⟩ V)(hT:K2 C.P C.T:=by exact Aa):AD C s0 V:=AD.run hT 400 (AJ y).1 (sn U I (AJ y).2 h1 h2)
end
end
variable {r:Bool} {o0 N W ab ai:Nat} {av a1 aV ds:List Value} {a6 a7 a8:HH}
structure Gd where
 Name:A9
 Rf:Int
abbrev AFY(x:Gd):List Value:=[vS x.Name,vI x.Rf]
instance:Inhabited Gd:=⟨⟨default,default⟩⟩
def Er:Cd Gd where
 sz:=2
 rep _ s cs:=cs=[.string ⟨⟨s.Name⟩⟩,.int .i64 s.Rf]
 len h:=by subst h;rfl
 mono _ h:=h
 one h:=by subst h;intro u hu;simp only[Aj,BY,D3]at hu;rcases hu with rfl|rfl<;>rfl
 pos:=ox
 NB:=⟨_,λ_=>Y⟩
structure Ak where
 Op:Int
 N:Int
 S:A9
 Aw:List Ak
abbrev AHD(x:Ak)(a0:AA Addr)(k0:Nat):List SV:=[sI x.Op,sI x.N,sS x.S,sL a0 x.Aw k0]
abbrev Ws(x:Ak)(a0:AA Addr)(k0:Nat):List Value:=[vI x.Op,vI x.N,vS x.S,vL a0 x.Aw k0]
instance:Inhabited Ak:=⟨⟨0,0,[],[]⟩⟩
def Y4:Nat->AM->Ak->List Value->Prop
 |0,_,_,_=>False|n+1,V,s,cs=>∃(a1:AA Addr)(k1:Nat),cs=[.int .i64 s.Op,.int .i64 s.N,.string ⟨⟨s.S⟩⟩,.slice a1 s.Aw.length k1]/\MK (Y4 n V) 4 V a1 k1 s.Aw
theorem ABj:∀{n:Nat}{V:AM}{s:Ak}{cs:List Value},Y4 n V s cs->cs.length=4/\∀u∈cs,u.oneCell'=true
 |0,_,_,_,h=>h.elim|n+1,V,s,cs,h=>by
  obtain⟨a1,k1,rfl,_⟩:=h;exact⟨Y,by intro u hu;simp only[Aj,BY,D3]at hu;rcases hu with rfl|rfl|rfl|rfl<;>rfl⟩
theorem Rg:∀{n m:Nat}{V V':AM}{s:Ak}{cs:List Value},n<=m->DI V V'->Y4 n V s cs->Y4 m V' s cs
 |0,_,_,_,_,_,_,_,h=>h.elim|n+1,0,_,_,_,_,y,_,_=>absurd y ox|n+1,m+1,V,V',s,cs,y,hv,h=>by
  obtain⟨a1,k1,rfl,h1⟩:=h;exact⟨a1,k1,Y,MK.imp h1 hv (λx cs h=>Rg ox hv h)⟩
def Br:Cd Ak where
 sz:=4
 rep V s cs:=∃n,Y4 n V s cs
 len h:=by have⟨n,h⟩:=h;exact(ABj h).1
 mono hv h:=by have⟨n,h⟩:=h;exact⟨n,Rg (Nat.le_refl _) hv h⟩
 one h:=by have⟨n,h⟩:=h;exact(ABj h).2
 pos:=ox
 NB:=⟨[.int .i64 0,.int .i64 0,.string ⟨⟨[]⟩⟩,.slice none 0 0],λ_=>⟨1,none,0,Y,MK.nil⟩⟩
theorem DS{s:Ak}:Br.rep V s cs↔∃a1 k1,cs=(Ws s a1 k1)/\AK Br V a1 k1 s.Aw:=by
 constructor
 ·rintro⟨n,h⟩;cases n with
  |zero=>exact h.elim|succ n=>
   obtain⟨a1,k1,rfl,h1⟩:=h;exact⟨a1,k1,Y,⟨h1.1,λi x H=>by have⟨cs,h1,h2⟩:=h1.2 i x H;exact⟨cs,⟨n,h1⟩,h2⟩⟩⟩
 ·rintro⟨a1,k1,rfl,h1⟩;have⟨y,z⟩:=Y6 (R:=λn=>Y4 n V) (λn m x cs K h=>Rg K (DI.refl V) h) (sz:=4) (V:=V) (a:=a1) (k:=k1) (l:=s.Aw) ⟨h1.1,h1.2⟩;exact⟨y+1,a1,k1,Y,MK.imp z (DI.refl V) (λx cs h=>Rg ox (DI.refl V) h)⟩
structure BR where
 Op:Int
 Name:A9
 Max:Int
 A:Ak
 B:Ak
 CU:List BR
 Js:List BR
abbrev AJY(x:BR)(a0:AA Addr)(k0:Nat)(a1:AA Addr)(k1:Nat)(a2:AA Addr)(k2:Nat)(a3:AA Addr)(k3:Nat):List SV:=[sI x.Op,sS x.Name,sI x.Max,sI x.A.Op,sI x.A.N,sS x.A.S,sL a0 x.A.Aw k0,sI x.B.Op,sI x.B.N,sS x.B.S,sL a1 x.B.Aw k1,sL a2 x.CU k2,sL a3 x.Js k3]
abbrev gv5(x:BR)(a0:AA Addr)(k0:Nat)(a1:AA Addr)(k1:Nat)(a2:AA Addr)(k2:Nat)(a3:AA Addr)(k3:Nat):List Value:=[vI x.Op,vS x.Name,vI x.Max,vI x.A.Op,vI x.A.N,vS x.A.S,vL a0 x.A.Aw k0,vI x.B.Op,vI x.B.N,vS x.B.S,vL a1 x.B.Aw k1,vL a2 x.CU k2,vL a3 x.Js k3]
instance:Inhabited BR:=⟨⟨0,[],0,default,default,[],[]⟩⟩
def Us:Nat->AM->BR->List Value->Prop
 |0,_,_,_=>False|n+1,V,s,cs=>∃(a1:AA Addr)(k1:Nat)(a2:AA Addr)(k2:Nat)(a3:AA Addr)(k3:Nat)(a4:AA Addr)(k4:Nat),cs=[.int .i64 s.Op,.string ⟨⟨s.Name⟩⟩,.int .i64 s.Max,.int .i64 s.A.Op,.int .i64 s.A.N,.string ⟨⟨s.A.S⟩⟩,.slice a1 s.A.Aw.length k1,.int .i64 s.B.Op,.int .i64 s.B.N,.string ⟨⟨s.B.S⟩⟩,.slice a2 s.B.Aw.length k2,.slice a3 s.CU.length k3,.slice a4 s.Js.length k4]/\AK Br V a1 k1 s.A.Aw/\AK Br V a2 k2 s.B.Aw/\MK (Us n V) 13 V a3 k3 s.CU/\MK (Us n V) 13 V a4 k4 s.Js
theorem ABi:∀{n:Nat}{V:AM}{s:BR}{cs:List Value},Us n V s cs->cs.length=13/\∀u∈cs,u.oneCell'=true
 |0,_,_,_,h=>h.elim|n+1,V,s,cs,h=>by
  obtain⟨a1,k1,a2,k2,a3,k3,a4,k4,rfl,_,_,_,_⟩:=h;exact⟨Y,by intro u hu;simp only[Aj,BY,D3]at hu;rcases hu with rfl|rfl|rfl|rfl|rfl|rfl|rfl|rfl|rfl|rfl|rfl|rfl|rfl<;>rfl⟩
theorem MH:∀{n m:Nat}{V V':AM}{s:BR}{cs:List Value},n<=m->DI V V'->Us n V s cs->Us m V' s cs
 |0,_,_,_,_,_,_,_,h=>h.elim|n+1,0,_,_,_,_,y,_,_=>absurd y ox|n+1,m+1,V,V',s,cs,y,hv,h=>by
  obtain⟨a1,k1,a2,k2,a3,k3,a4,k4,rfl,h1,h2,h3,z⟩:=h;exact⟨a1,k1,a2,k2,a3,k3,a4,k4,Y,h1.mono hv,h2.mono hv,MK.imp h3 hv (λx cs h=>MH ox hv h),MK.imp z hv (λx cs h=>MH ox hv h)⟩
def CN:Cd BR where
 sz:=13
 rep V s cs:=∃n,Us n V s cs
 len h:=by have⟨n,h⟩:=h;exact(ABi h).1
 mono hv h:=by have⟨n,h⟩:=h;exact⟨n,MH (Nat.le_refl _) hv h⟩
 one h:=by have⟨n,h⟩:=h;exact(ABi h).2
 pos:=ox
 NB:=⟨[.int .i64 0,.string ⟨⟨[]⟩⟩,.int .i64 0,.int .i64 0,.int .i64 0,.string ⟨⟨[]⟩⟩,.slice none 0 0,.int .i64 0,.int .i64 0,.string ⟨⟨[]⟩⟩,.slice none 0 0,.slice none 0 0,.slice none 0 0],λ_=>⟨1,none,0,none,0,none,0,none,0,Y,AK.nil,AK.nil,MK.nil,MK.nil⟩⟩
theorem Jx{s:BR}:CN.rep V s cs↔∃a1 k1 a2 k2 a3 k3 a4 k4,cs=(gv5 s a1 k1 a2 k2 a3 k3 a4 k4)/\AK Br V a1 k1 s.A.Aw/\AK Br V a2 k2 s.B.Aw/\AK CN V a3 k3 s.CU/\AK CN V a4 k4 s.Js:=by
 constructor
 ·rintro⟨n,h⟩;cases n with
  |zero=>exact h.elim|succ n=>
   obtain⟨a1,k1,a2,k2,a3,k3,a4,k4,rfl,h1,h2,h3,y⟩:=h;exact⟨a1,k1,a2,k2,a3,k3,a4,k4,Y,h1,h2,⟨h3.1,λi x z=>by have⟨cs,h1,h2⟩:=h3.2 i x z;exact⟨cs,⟨n,h1⟩,h2⟩⟩,⟨y.1,λi x z=>by have⟨cs,h1,h2⟩:=y.2 i x z;exact⟨cs,⟨n,h1⟩,h2⟩⟩⟩
 ·rintro⟨a1,k1,a2,k2,a3,k3,a4,k4,rfl,h1,h2,h3,y⟩;have⟨H,K⟩:=Y6 (R:=λn=>Us n V) (λn m x cs N h=>MH N (DI.refl V) h) (sz:=13) (V:=V) (a:=a3) (k:=k3) (l:=s.CU) ⟨h3.1,h3.2⟩;have⟨O,W⟩:=Y6 (R:=λn=>Us n V) (λn m x cs N h=>MH N (DI.refl V) h) (sz:=13) (V:=V) (a:=a4) (k:=k4) (l:=s.Js) ⟨y.1,y.2⟩;exact⟨(max H O)+1,a1,k1,a2,k2,a3,k3,a4,k4,Y,h1,h2,MK.imp K (DI.refl V) (λx cs h=>MH ox (DI.refl V) h),MK.imp W (DI.refl V) (λx cs h=>MH ox (DI.refl V) h)⟩
structure Ce where
 Name:A9
 BH:List Gd
 CU:List BR
abbrev AM0(x:Ce)(a0:AA Addr)(k0:Nat)(a1:AA Addr)(k1:Nat):List SV:=[sS x.Name,sL a0 x.BH k0,sL a1 x.CU k1]
abbrev gv4(x:Ce)(a0:AA Addr)(k0:Nat)(a1:AA Addr)(k1:Nat):List Value:=[vS x.Name,vL a0 x.BH k0,vL a1 x.CU k1]
instance:Inhabited Ce:=⟨⟨default,default,default⟩⟩
def Jz:Cd Ce where
 sz:=3
 rep V s cs:=∃(a1:AA Addr)(k1:Nat)(a2:AA Addr)(k2:Nat),cs=[.string ⟨⟨s.Name⟩⟩,.slice a1 s.BH.length k1,.slice a2 s.CU.length k2]/\AK Er V a1 k1 s.BH/\AK CN V a2 k2 s.CU
 len h:=by obtain⟨a1,k1,a2,k2,rfl,_,_⟩:=h;rfl
 mono hv h:=by
  obtain⟨a1,k1,a2,k2,rfl,h1,h2⟩:=h;exact⟨a1,k1,a2,k2,Y,h1.mono hv,h2.mono hv⟩
 one h:=by obtain⟨a1,k1,a2,k2,rfl,_,_⟩:=h;intro u hu;simp only[Aj,BY,D3]at hu;rcases hu with rfl|rfl|rfl<;>rfl
 pos:=ox
 NB:=⟨[.string ⟨⟨[]⟩⟩,.slice none 0 0,.slice none 0 0],λ_=>⟨none,0,none,0,Y,AK.nil,AK.nil⟩⟩
structure Bc where
 Id:Int
 BU:A9
 Ab:Int
 C0:Int
 Gh:A9
abbrev AQA(x:Bc):List SV:=[sI x.Id,sS x.BU,sI x.Ab,sI x.C0,sS x.Gh]
abbrev gv7(x:Bc):List Value:=[vI x.Id,vS x.BU,vI x.Ab,vI x.C0,vS x.Gh]
instance:Inhabited Bc:=⟨⟨default,default,default,default,default⟩⟩
def BS:Cd Bc where
 sz:=5
 rep _ s cs:=cs=[.int .i64 s.Id,.string ⟨⟨s.BU⟩⟩,.int .i64 s.Ab,.int .i64 s.C0,.string ⟨⟨s.Gh⟩⟩]
 len h:=by subst h;rfl
 mono _ h:=h
 one h:=by subst h;intro u hu;simp only[Aj,BY,D3]at hu;rcases hu with rfl|rfl|rfl|rfl|rfl<;>rfl
 pos:=ox
 NB:=⟨_,λ_=>Y⟩
structure AI where
 Ax:Int
 AG:List Bc
abbrev Vk(x:AI)(a0:AA Addr)(k0:Nat):List SV:=[sI x.Ax,sL a0 x.AG k0]
abbrev S2(x:AI)(a0:AA Addr)(k0:Nat):List Value:=[vI x.Ax,vL a0 x.AG k0]
instance:Inhabited AI:=⟨⟨default,default⟩⟩
def AFm:Cd AI where
 sz:=2
 rep V s cs:=∃(a1:AA Addr)(k1:Nat),cs=[.int .i64 s.Ax,.slice a1 s.AG.length k1]/\AK BS V a1 k1 s.AG
 len h:=by obtain⟨a1,k1,rfl,_⟩:=h;rfl
 mono hv h:=by
  obtain⟨a1,k1,rfl,h1⟩:=h;exact⟨a1,k1,Y,h1.mono hv⟩
 one h:=by obtain⟨a1,k1,rfl,_⟩:=h;intro u hu;simp only[Aj,BY,D3]at hu;rcases hu with rfl|rfl<;>rfl
 pos:=ox
 NB:=⟨[.int .i64 0,.slice none 0 0],λ_=>⟨none,0,Y,AK.nil⟩⟩
structure Ah where
 BD:Int
 N:Int
 S:A9
abbrev Yl(x:Ah):List SV:=[sI x.BD,sI x.N,sS x.S]
abbrev Te(x:Ah):List Value:=[vI x.BD,vI x.N,vS x.S]
instance:Inhabited Ah:=⟨⟨default,default,default⟩⟩
def DQ:Cd Ah where
 sz:=3
 rep _ s cs:=cs=[.int .i64 s.BD,.int .i64 s.N,.string ⟨⟨s.S⟩⟩]
 len h:=by subst h;rfl
 mono _ h:=h
 one h:=by subst h;intro u hu;simp only[Aj,BY,D3]at hu;rcases hu with rfl|rfl|rfl<;>rfl
 pos:=ox
 NB:=⟨_,λ_=>Y⟩
structure AR where
 Key:A9
 JK:Ah
abbrev Zv(x:AR):List Value:=[vS x.Key,vI x.JK.BD,vI x.JK.N,vS x.JK.S]
instance:Inhabited AR:=⟨⟨default,default⟩⟩
def Au:Cd AR where
 sz:=4
 rep _ s cs:=cs=[.string ⟨⟨s.Key⟩⟩,.int .i64 s.JK.BD,.int .i64 s.JK.N,.string ⟨⟨s.JK.S⟩⟩]
 len h:=by subst h;rfl
 mono _ h:=h
 one h:=by subst h;intro u hu;simp only[Aj,BY,D3]at hu;rcases hu with rfl|rfl|rfl|rfl<;>rfl
 pos:=ox
 NB:=⟨_,λ_=>Y⟩
structure HC where
 BD:Int
 Part:Int
 New:Int
 Ab:Int
 N:Int
 Key:A9
abbrev AOT(x:HC):List Value:=[vI x.BD,vI x.Part,vI x.New,vI x.Ab,vI x.N,vS x.Key]
instance:Inhabited HC:=⟨⟨default,default,default,default,default,default⟩⟩
def ALf:Cd HC where
 sz:=6
 rep _ s cs:=cs=[.int .i64 s.BD,.int .i64 s.Part,.int .i64 s.New,.int .i64 s.Ab,.int .i64 s.N,.string ⟨⟨s.Key⟩⟩]
 len h:=by subst h;rfl
 mono _ h:=h
 one h:=by subst h;intro u hu;simp only[Aj,BY,D3]at hu;rcases hu with rfl|rfl|rfl|rfl|rfl|rfl<;>rfl
 pos:=ox
 NB:=⟨_,λ_=>Y⟩
structure AV where
 G7:Bool
 Am:List A9
 AX:List A9
abbrev XY(x:AV)(a0:AA Addr)(k0:Nat)(a1:AA Addr)(k1:Nat):List SV:=[sB x.G7,sL a0 x.Am k0,sL a1 x.AX k1]
abbrev gv8(x:AV)(a0:AA Addr)(k0:Nat)(a1:AA Addr)(k1:Nat):List Value:=[vB x.G7,vL a0 x.Am k0,vL a1 x.AX k1]
instance:Inhabited AV:=⟨⟨default,default,default⟩⟩
def N1:Cd AV where
 sz:=3
 rep V s cs:=∃(a1:AA Addr)(k1:Nat)(a2:AA Addr)(k2:Nat),cs=[.bool s.G7,.slice a1 s.Am.length k1,.slice a2 s.AX.length k2]/\AK Bf V a1 k1 s.Am/\AK Bf V a2 k2 s.AX
 len h:=by obtain⟨a1,k1,a2,k2,rfl,_,_⟩:=h;rfl
 mono hv h:=by
  obtain⟨a1,k1,a2,k2,rfl,h1,h2⟩:=h;exact⟨a1,k1,a2,k2,Y,h1.mono hv,h2.mono hv⟩
 one h:=by obtain⟨a1,k1,a2,k2,rfl,_,_⟩:=h;intro u hu;simp only[Aj,BY,D3]at hu;rcases hu with rfl|rfl|rfl<;>rfl
 pos:=ox
 NB:=⟨[.bool (false),.slice none 0 0,.slice none 0 0],λ_=>⟨none,0,none,0,Y,AK.nil,AK.nil⟩⟩
structure L8 where
 Id:Int
 AHh:A9
 Aw:List Ah
 HK:AV
 X9:Int
abbrev AMy(x:L8)(a0:AA Addr)(k0:Nat)(a1:AA Addr)(k1:Nat)(a2:AA Addr)(k2:Nat):List SV:=[sI x.Id,sS x.AHh,sL a0 x.Aw k0,sB x.HK.G7,sL a1 x.HK.Am k1,sL a2 x.HK.AX k2,sI x.X9]
abbrev AJX(x:L8)(a0:AA Addr)(k0:Nat)(a1:AA Addr)(k1:Nat)(a2:AA Addr)(k2:Nat):List Value:=[vI x.Id,vS x.AHh,vL a0 x.Aw k0,vB x.HK.G7,vL a1 x.HK.Am k1,vL a2 x.HK.AX k2,vI x.X9]
instance:Inhabited L8:=⟨⟨default,default,default,default,default⟩⟩
def Vo:Cd L8 where
 sz:=7
 rep V s cs:=∃(a1:AA Addr)(k1:Nat)(a2:AA Addr)(k2:Nat)(a3:AA Addr)(k3:Nat),cs=[.int .i64 s.Id,.string ⟨⟨s.AHh⟩⟩,.slice a1 s.Aw.length k1,.bool s.HK.G7,.slice a2 s.HK.Am.length k2,.slice a3 s.HK.AX.length k3,.int .i64 s.X9]/\AK DQ V a1 k1 s.Aw/\AK Bf V a2 k2 s.HK.Am/\AK Bf V a3 k3 s.HK.AX
 len h:=by obtain⟨a1,k1,a2,k2,a3,k3,rfl,_,_,_⟩:=h;rfl
 mono hv h:=by
  obtain⟨a1,k1,a2,k2,a3,k3,rfl,h1,h2,h3⟩:=h;exact⟨a1,k1,a2,k2,a3,k3,Y,h1.mono hv,h2.mono hv,h3.mono hv⟩
 one h:=by obtain⟨a1,k1,a2,k2,a3,k3,rfl,_,_,_⟩:=h;intro u hu;simp only[Aj,BY,D3]at hu;rcases hu with rfl|rfl|rfl|rfl|rfl|rfl|rfl<;>rfl
 pos:=ox
 NB:=⟨[.int .i64 0,.string ⟨⟨[]⟩⟩,.slice none 0 0,.bool (false),.slice none 0 0,.slice none 0 0,.int .i64 0],λ_=>⟨none,0,none,0,none,0,Y,AK.nil,AK.nil,AK.nil⟩⟩
structure Vw where
 Marker:HC
 PH:List L8
 Rn:List Int
instance:Inhabited Vw:=⟨⟨default,default,default⟩⟩
def ABN:Cd Vw where
 sz:=8
 rep V s cs:=∃(a1:AA Addr)(k1:Nat)(a2:AA Addr)(k2:Nat),cs=[.int .i64 s.Marker.BD,.int .i64 s.Marker.Part,.int .i64 s.Marker.New,.int .i64 s.Marker.Ab,.int .i64 s.Marker.N,.string ⟨⟨s.Marker.Key⟩⟩,.slice a1 s.PH.length k1,.slice a2 s.Rn.length k2]/\AK Vo V a1 k1 s.PH/\AK (CD .i64) V a2 k2 s.Rn
 len h:=by obtain⟨a1,k1,a2,k2,rfl,_,_⟩:=h;rfl
 mono hv h:=by
  obtain⟨a1,k1,a2,k2,rfl,h1,h2⟩:=h;exact⟨a1,k1,a2,k2,Y,h1.mono hv,h2.mono hv⟩
 one h:=by obtain⟨a1,k1,a2,k2,rfl,_,_⟩:=h;intro u hu;simp only[Aj,BY,D3]at hu;rcases hu with rfl|rfl|rfl|rfl|rfl|rfl|rfl|rfl<;>rfl
 pos:=ox
 NB:=⟨[.int .i64 0,.int .i64 0,.int .i64 0,.int .i64 0,.int .i64 0,.string ⟨⟨[]⟩⟩,.slice none 0 0,.slice none 0 0],λ_=>⟨none,0,none,0,Y,AK.nil,AK.nil⟩⟩
structure BA where
 Ab:Int
 BF:List AR
abbrev ACD(x:BA)(a0:AA Addr)(k0:Nat):List SV:=[sI x.Ab,sL a0 x.BF k0]
abbrev XV(x:BA)(a0:AA Addr)(k0:Nat):List Value:=[vI x.Ab,vL a0 x.BF k0]
instance:Inhabited BA:=⟨⟨default,default⟩⟩
def DH:Cd BA where
 sz:=2
 rep V s cs:=∃(a1:AA Addr)(k1:Nat),cs=[.int .i64 s.Ab,.slice a1 s.BF.length k1]/\AK Au V a1 k1 s.BF
 len h:=by obtain⟨a1,k1,rfl,_⟩:=h;rfl
 mono hv h:=by
  obtain⟨a1,k1,rfl,h1⟩:=h;exact⟨a1,k1,Y,h1.mono hv⟩
 one h:=by obtain⟨a1,k1,rfl,_⟩:=h;intro u hu;simp only[Aj,BY,D3]at hu;rcases hu with rfl|rfl<;>rfl
 pos:=ox
 NB:=⟨[.int .i64 0,.slice none 0 0],λ_=>⟨none,0,Y,AK.nil⟩⟩
structure OU where
 DY:Int
 Code:Int
 Out:List Ah
abbrev APY(x:OU)(a0:AA Addr)(k0:Nat):List SV:=[sI x.DY,sI x.Code,sL a0 x.Out k0]
abbrev AJW(x:OU)(a0:AA Addr)(k0:Nat):List Value:=[vI x.DY,vI x.Code,vL a0 x.Out k0]
instance:Inhabited OU:=⟨⟨default,default,default⟩⟩
def AO6:Cd OU where
 sz:=3
 rep V s cs:=∃(a1:AA Addr)(k1:Nat),cs=[.int .i64 s.DY,.int .i64 s.Code,.slice a1 s.Out.length k1]/\AK DQ V a1 k1 s.Out
 len h:=by obtain⟨a1,k1,rfl,_⟩:=h;rfl
 mono hv h:=by
  obtain⟨a1,k1,rfl,h1⟩:=h;exact⟨a1,k1,Y,h1.mono hv⟩
 one h:=by obtain⟨a1,k1,rfl,_⟩:=h;intro u hu;simp only[Aj,BY,D3]at hu;rcases hu with rfl|rfl|rfl<;>rfl
 pos:=ox
 NB:=⟨[.int .i64 0,.int .i64 0,.slice none 0 0],λ_=>⟨none,0,Y,AK.nil⟩⟩
structure Bb where
 Ad:OU
 Am:List A9
 DB:List A9
 AX:List AR
 NG:A9
 Steps:Int
abbrev AFZ(x:Bb)(a0:AA Addr)(k0:Nat)(a1:AA Addr)(k1:Nat)(a2:AA Addr)(k2:Nat)(a3:AA Addr)(k3:Nat):List SV:=[sI x.Ad.DY,sI x.Ad.Code,sL a0 x.Ad.Out k0,sL a1 x.Am k1,sL a2 x.DB k2,sL a3 x.AX k3,sS x.NG,sI x.Steps]
abbrev Zw(x:Bb)(a0:AA Addr)(k0:Nat)(a1:AA Addr)(k1:Nat)(a2:AA Addr)(k2:Nat)(a3:AA Addr)(k3:Nat):List Value:=[vI x.Ad.DY,vI x.Ad.Code,vL a0 x.Ad.Out k0,vL a1 x.Am k1,vL a2 x.DB k2,vL a3 x.AX k3,vS x.NG,vI x.Steps]
instance:Inhabited Bb:=⟨⟨default,default,default,default,default,default⟩⟩
def Eo:Cd Bb where
 sz:=8
 rep V s cs:=∃(a1:AA Addr)(k1:Nat)(a2:AA Addr)(k2:Nat)(a3:AA Addr)(k3:Nat)(a4:AA Addr)(k4:Nat),cs=[.int .i64 s.Ad.DY,.int .i64 s.Ad.Code,.slice a1 s.Ad.Out.length k1,.slice a2 s.Am.length k2,.slice a3 s.DB.length k3,.slice a4 s.AX.length k4,.string ⟨⟨s.NG⟩⟩,.int .i64 s.Steps]/\AK DQ V a1 k1 s.Ad.Out/\AK Bf V a2 k2 s.Am/\AK Bf V a3 k3 s.DB/\AK Au V a4 k4 s.AX
 len h:=by obtain⟨a1,k1,a2,k2,a3,k3,a4,k4,rfl,_,_,_,_⟩:=h;rfl
 mono hv h:=by
  obtain⟨a1,k1,a2,k2,a3,k3,a4,k4,rfl,h1,h2,h3,h4⟩:=h;exact⟨a1,k1,a2,k2,a3,k3,a4,k4,Y,h1.mono hv,h2.mono hv,h3.mono hv,h4.mono hv⟩
 one h:=by obtain⟨a1,k1,a2,k2,a3,k3,a4,k4,rfl,_,_,_,_⟩:=h;intro u hu;simp only[Aj,BY,D3]at hu;rcases hu with rfl|rfl|rfl|rfl|rfl|rfl|rfl|rfl<;>rfl
 pos:=ox
 NB:=⟨[.int .i64 0,.int .i64 0,.slice none 0 0,.slice none 0 0,.slice none 0 0,.slice none 0 0,.string ⟨⟨[]⟩⟩,.int .i64 0],λ_=>⟨none,0,none,0,none,0,none,0,Y,AK.nil,AK.nil,AK.nil,AK.nil⟩⟩
structure MG where
 p:AI
 l:List BA
 m:HC
abbrev AP9(x:MG)(a0:AA Addr)(k0:Nat)(a1:AA Addr)(k1:Nat):List Value:=[vI x.p.Ax,vL a0 x.p.AG k0,vL a1 x.l k1,vI x.m.BD,vI x.m.Part,vI x.m.New,vI x.m.Ab,vI x.m.N,vS x.m.Key]
instance:Inhabited MG:=⟨⟨default,default,default⟩⟩
def APw:Cd MG where
 sz:=9
 rep V s cs:=∃(a1:AA Addr)(k1:Nat)(a2:AA Addr)(k2:Nat),cs=[.int .i64 s.p.Ax,.slice a1 s.p.AG.length k1,.slice a2 s.l.length k2,.int .i64 s.m.BD,.int .i64 s.m.Part,.int .i64 s.m.New,.int .i64 s.m.Ab,.int .i64 s.m.N,.string ⟨⟨s.m.Key⟩⟩]/\AK BS V a1 k1 s.p.AG/\AK DH V a2 k2 s.l
 len h:=by obtain⟨a1,k1,a2,k2,rfl,_,_⟩:=h;rfl
 mono hv h:=by
  obtain⟨a1,k1,a2,k2,rfl,h1,h2⟩:=h;exact⟨a1,k1,a2,k2,Y,h1.mono hv,h2.mono hv⟩
 one h:=by obtain⟨a1,k1,a2,k2,rfl,_,_⟩:=h;intro u hu;simp only[Aj,BY,D3]at hu;rcases hu with rfl|rfl|rfl|rfl|rfl|rfl|rfl|rfl|rfl<;>rfl
 pos:=ox
 NB:=⟨[.int .i64 0,.slice none 0 0,.slice none 0 0,.int .i64 0,.int .i64 0,.int .i64 0,.int .i64 0,.int .i64 0,.string ⟨⟨[]⟩⟩],λ_=>⟨none,0,none,0,Y,AK.nil,AK.nil⟩⟩
structure D8 where
 BU:A9
 To:A9
abbrev AMz(x:D8):List SV:=[sS x.BU,sS x.To]
abbrev AMx(x:D8):List Value:=[vS x.BU,vS x.To]
instance:Inhabited D8:=⟨⟨default,default⟩⟩
def APx:Cd D8 where
 sz:=2
 rep _ s cs:=cs=[.string ⟨⟨s.BU⟩⟩,.string ⟨⟨s.To⟩⟩]
 len h:=by subst h;rfl
 mono _ h:=h
 one h:=by subst h;intro u hu;simp only[Aj,BY,D3]at hu;rcases hu with rfl|rfl<;>rfl
 pos:=ox
 NB:=⟨_,λ_=>Y⟩
structure Lj where
 Part:Int
 BU:Int
 To:Int
 Keys:D8
 BF:List AR
 AOy:Bool
instance:Inhabited Lj:=⟨⟨default,default,default,default,default,default⟩⟩
def APy:Cd Lj where
 sz:=7
 rep V s cs:=∃(a1:AA Addr)(k1:Nat),cs=[.int .i64 s.Part,.int .i64 s.BU,.int .i64 s.To,.string ⟨⟨s.Keys.BU⟩⟩,.string ⟨⟨s.Keys.To⟩⟩,.slice a1 s.BF.length k1,.bool s.AOy]/\AK Au V a1 k1 s.BF
 len h:=by obtain⟨a1,k1,rfl,_⟩:=h;rfl
 mono hv h:=by
  obtain⟨a1,k1,rfl,h1⟩:=h;exact⟨a1,k1,Y,h1.mono hv⟩
 one h:=by obtain⟨a1,k1,rfl,_⟩:=h;intro u hu;simp only[Aj,BY,D3]at hu;rcases hu with rfl|rfl|rfl|rfl|rfl|rfl|rfl<;>rfl
 pos:=ox
 NB:=⟨[.int .i64 0,.int .i64 0,.int .i64 0,.string ⟨⟨[]⟩⟩,.string ⟨⟨[]⟩⟩,.slice none 0 0,.bool (false)],λ_=>⟨none,0,Y,AK.nil⟩⟩
structure A1 where
 Is:Int
 Mv:Bool
abbrev XU(x:A1):List Value:=[vI x.Is,vB x.Mv]
instance:Inhabited A1:=⟨⟨default,default⟩⟩
def BX:Cd A1 where
 sz:=2
 rep _ s cs:=cs=[.int .i64 s.Is,.bool s.Mv]
 len h:=by subst h;rfl
 mono _ h:=h
 one h:=by subst h;intro u hu;simp only[Aj,BY,D3]at hu;rcases hu with rfl|rfl<;>rfl
 pos:=ox
 NB:=⟨_,λ_=>Y⟩
structure Be where
 Key:A9
 DR:List A1
abbrev AMw(x:Be)(a0:AA Addr)(k0:Nat):List Value:=[vS x.Key,vL a0 x.DR k0]
instance:Inhabited Be:=⟨⟨default,default⟩⟩
def Cy:Cd Be where
 sz:=2
 rep V s cs:=∃(a1:AA Addr)(k1:Nat),cs=[.string ⟨⟨s.Key⟩⟩,.slice a1 s.DR.length k1]/\AK BX V a1 k1 s.DR
 len h:=by obtain⟨a1,k1,rfl,_⟩:=h;rfl
 mono hv h:=by
  obtain⟨a1,k1,rfl,h1⟩:=h;exact⟨a1,k1,Y,h1.mono hv⟩
 one h:=by obtain⟨a1,k1,rfl,_⟩:=h;intro u hu;simp only[Aj,BY,D3]at hu;rcases hu with rfl|rfl<;>rfl
 pos:=ox
 NB:=⟨[.string ⟨⟨[]⟩⟩,.slice none 0 0],λ_=>⟨none,0,Y,AK.nil⟩⟩
structure BG where
 BM:List A1
 Af:List Be
abbrev ACE(x:BG)(a0:AA Addr)(k0:Nat)(a1:AA Addr)(k1:Nat):List SV:=[sL a0 x.BM k0,sL a1 x.Af k1]
abbrev gv9(x:BG)(a0:AA Addr)(k0:Nat)(a1:AA Addr)(k1:Nat):List Value:=[vL a0 x.BM k0,vL a1 x.Af k1]
instance:Inhabited BG:=⟨⟨default,default⟩⟩
def ANk:Cd BG where
 sz:=2
 rep V s cs:=∃(a1:AA Addr)(k1:Nat)(a2:AA Addr)(k2:Nat),cs=[.slice a1 s.BM.length k1,.slice a2 s.Af.length k2]/\AK BX V a1 k1 s.BM/\AK Cy V a2 k2 s.Af
 len h:=by obtain⟨a1,k1,a2,k2,rfl,_,_⟩:=h;rfl
 mono hv h:=by
  obtain⟨a1,k1,a2,k2,rfl,h1,h2⟩:=h;exact⟨a1,k1,a2,k2,Y,h1.mono hv,h2.mono hv⟩
 one h:=by obtain⟨a1,k1,a2,k2,rfl,_,_⟩:=h;intro u hu;simp only[Aj,BY,D3]at hu;rcases hu with rfl|rfl<;>rfl
 pos:=ox
 NB:=⟨[.slice none 0 0,.slice none 0 0],λ_=>⟨none,0,none,0,Y,AK.nil,AK.nil⟩⟩
structure B3 where
 Is:Int
 BU:Int
 To:Int
 Keys:List A9
 BF:List AR
abbrev XW(x:B3)(a0:AA Addr)(k0:Nat)(a1:AA Addr)(k1:Nat):List Value:=[vI x.Is,vI x.BU,vI x.To,vL a0 x.Keys k0,vL a1 x.BF k1]
instance:Inhabited B3:=⟨⟨default,default,default,default,default⟩⟩
def DO:Cd B3 where
 sz:=5
 rep V s cs:=∃(a1:AA Addr)(k1:Nat)(a2:AA Addr)(k2:Nat),cs=[.int .i64 s.Is,.int .i64 s.BU,.int .i64 s.To,.slice a1 s.Keys.length k1,.slice a2 s.BF.length k2]/\AK Bf V a1 k1 s.Keys/\AK Au V a2 k2 s.BF
 len h:=by obtain⟨a1,k1,a2,k2,rfl,_,_⟩:=h;rfl
 mono hv h:=by
  obtain⟨a1,k1,a2,k2,rfl,h1,h2⟩:=h;exact⟨a1,k1,a2,k2,Y,h1.mono hv,h2.mono hv⟩
 one h:=by obtain⟨a1,k1,a2,k2,rfl,_,_⟩:=h;intro u hu;simp only[Aj,BY,D3]at hu;rcases hu with rfl|rfl|rfl|rfl|rfl<;>rfl
 pos:=ox
 NB:=⟨[.int .i64 0,.int .i64 0,.int .i64 0,.slice none 0 0,.slice none 0 0],λ_=>⟨none,0,none,0,Y,AK.nil,AK.nil⟩⟩
structure Hdr where
 a:AA Addr
 n:Nat
 k:Nat
instance:Inhabited Hdr:=⟨⟨none,0,0⟩⟩
structure HG where
 Key:A9
 DR:Hdr
instance:Inhabited HG:=⟨⟨[],default⟩⟩
def Jy:Cd HG where
 sz:=2
 rep _ s cs:=cs=[.string ⟨⟨s.Key⟩⟩,.slice s.DR.a s.DR.n s.DR.k]
 len h:=by subst h;rfl
 mono _ h:=h
 one h:=by subst h;intro u hu;simp only[Aj,BY,D3]at hu;rcases hu with rfl|rfl<;>rfl
 pos:=ox
 NB:=⟨_,λ_=>Y⟩
structure AQ where
 state:List AR
 DN:AV
 vars:List (A9×Ah)
 own:List (A9×Ah)
 AS:Bb
instance:Inhabited AQ:=⟨⟨default,default,default,default,default⟩⟩
def Dc(V:AM)(b m0 W:Nat)(s:AQ)(M:List OB):Prop:=
 ∃(a1:AA Addr)(k1:Nat)(a2:AA Addr)(k2:Nat)(a3:AA Addr)(k3:Nat)(a4:AA Addr)(k4:Nat)(z:List Value)(a5:AA Addr)(k5:Nat)(H:List Value)(a6:AA Addr)(k6:Nat)(K:List Value)(a7:AA Addr)(k7:Nat)(O:List Value),M=[.row (.slice (some ⟨b,0,none⟩) 1 1) [.slice a1 s.state.length k1,.bool s.DN.G7,.slice a2 s.DN.Am.length k2,.slice a3 s.DN.AX.length k3,.map (some m0),.map (some W),.int .i64 s.AS.Ad.DY,.int .i64 s.AS.Ad.Code,.slice a4 s.AS.Ad.Out.length k4,.slice a5 s.AS.Am.length k5,.slice a6 s.AS.DB.length k6,.slice a7 s.AS.AX.length k7,.string ⟨⟨s.AS.NG⟩⟩,.int .i64 s.AS.Steps] 243 14,.ext (FN (λ(y:Ah)=>(.agg ⟨[.int .i64 y.BD,.int .i64 y.N,.string ⟨⟨y.S⟩⟩]⟩:Value)) m0 s.vars),.ext (FN (λ(y:Ah)=>(.agg ⟨[.int .i64 y.BD,.int .i64 y.N,.string ⟨⟨y.S⟩⟩]⟩:Value)) W s.own),.row (.slice a4 s.AS.Ad.Out.length k4) z 60 3,.row (.slice a5 s.AS.Am.length k5) H 9 1,.row (.slice a6 s.AS.DB.length k6) K 9 1,.row (.slice a7 s.AS.AX.length k7) O 62 4]/\AK Au V a1 k1 s.state/\AK Bf V a2 k2 s.DN.Am/\AK Bf V a3 k3 s.DN.AX/\AF DQ V s.AS.Ad.Out z/\AF Bf V s.AS.Am H/\AF Bf V s.AS.DB K/\AF Au V s.AS.AX O
abbrev mR(b m n:Nat)(s:AQ)(a1:AA Addr)(k1:Nat)(a2:AA Addr)(k2:Nat)(a3:AA Addr)(k3:Nat)(a4:AA Addr)(k4:Nat)(z:List Value)(a5:AA Addr)(k5:Nat)(H:List Value)(a6:AA Addr)(k6:Nat)(K:List Value)(a7:AA Addr)(k7:Nat)(N:List Value)(t:List OB):List OB:=
 .row (vR b) [vL a1 s.state k1,vB s.DN.G7,vL a2 s.DN.Am k2,vL a3 s.DN.AX k3,.map (some m),.map (some n),vI s.AS.Ad.DY,vI s.AS.Ad.Code,vL a4 s.AS.Ad.Out k4,vL a5 s.AS.Am k5,vL a6 s.AS.DB k6,vL a7 s.AS.AX k7,vS s.AS.NG,vI s.AS.Steps] 243 14:: .ext (FN (λ(y:Ah)=>(vA (Te y):Value)) m s.vars):: .ext (FN (λ(y:Ah)=>(vA (Te y):Value)) n s.own):: .row (vL a4 s.AS.Ad.Out k4) z 60 3:: .row (vL a5 s.AS.Am k5) H 9 1:: .row (vL a6 s.AS.DB k6) K 9 1:: .row (vL a7 s.AS.AX k7) N 62 4::t
abbrev mJ(V:AM)(s:AQ)(a1:AA Addr)(k1:Nat)(a2:AA Addr)(k2:Nat)(a3:AA Addr)(k3:Nat)(y z H K:List Value):Prop:=AK Au V a1 k1 s.state/\AK Bf V a2 k2 s.DN.Am/\AK Bf V a3 k3 s.DN.AX/\AF DQ V s.AS.Ad.Out y/\AF Bf V s.AS.Am z/\AF Bf V s.AS.DB H/\AF Au V s.AS.AX K
structure Ag where
 Bg:List (A9×Int)
 loops:List (A9×Bool)
 all:List (A9×Int)
instance:Inhabited Ag:=⟨⟨default,default,default⟩⟩
def Nx(V:AM)(b m0 z H:Nat)(s:Ag)(M:List OB):Prop:=
 M=[.row (.slice (some ⟨b,0,none⟩) 1 1) [.map (some m0),.map (some z),.map (some H)] 291 3,.ext (FN (λ(y:Int)=>(.int .i64 y:Value)) m0 s.Bg),.ext (FN (λ(y:Bool)=>(.bool y:Value)) z s.loops),.ext (FN (λ(y:Int)=>(.int .i64 y:Value)) H s.all)]/\True
def ANb(V:AM)(b:Nat)(s:List Ak)(M:List OB):Prop:=
 ∃(a:AA Addr)(k:Nat)(cs:List Value),M=[.row (.slice (some ⟨b,0,none⟩) 1 1) [.slice a s.length k] 263 1,.row (.slice a s.length k) cs 265 4]/\AF Br V s cs
structure Bn(S:Type)where
 left:Int
 Tm:S
def Q6{S:Type}(J:AM->S->Ext->Prop)(f:Nat)(z:List Value)(g:BR->Int->S->AA S):Prop:=
 ∀{V:AM}(x:BR)(cs:List Value)(d:Int)(s:S){E:Ext}{r:S},CN.rep V x cs->J V s E->g x d s=some r->GP Tryz.prog f ([.agg ⟨cs⟩,.int .i64 d]++z) [.ext E] V (λV' e M'=>(∃y,M'=[.ext y]/\J V' r y)/\e=.returned (.tuple ⟨[]⟩))
def Ry{S:Type}(J:AM->S->Ext->Prop)(f:Nat)(z:List Value)(g:Ak->S->AA S):Prop:=
 ∀{V:AM}(x:Ak)(cs:List Value)(s:S){E:Ext}{r:S},Br.rep V x cs->J V s E->g x s=some r->GP Tryz.prog f ([.agg ⟨cs⟩]++z) [.ext E] V (λV' e M'=>(∃y,M'=[.ext y]/\J V' r y)/\e=.returned (.tuple ⟨[]⟩))
def HE{S:Type}(J:AM->S->Ext->Prop)(f1:Nat)(ca1:List Value)(f2:Nat)(ca2:List Value)(V:AM)(b:Nat)(s:Bn S)(M:List OB):Prop:=
 ∃(E:Ext),M=[.row (.slice (some ⟨b,0,none⟩) 1 1) [.int .i64 s.left,.func (.func f1) #[] ⟨ca1⟩,.func (.func f2) #[] ⟨ca2⟩] 331 3,.ext E]/\J V s.Tm E
structure KW where
 name:Bool
 a:Bool
 b:Bool
 max:Bool
 body:Bool
 other:Bool
abbrev APX(x:KW):List Value:=[vB x.name,vB x.a,vB x.b,vB x.max,vB x.body,vB x.other]
instance:Inhabited KW:=⟨⟨default,default,default,default,default,default⟩⟩
def AQD:Cd KW where
 sz:=6
 rep _ s cs:=cs=[.bool s.name,.bool s.a,.bool s.b,.bool s.max,.bool s.body,.bool s.other]
 len h:=by subst h;rfl
 mono _ h:=h
 one h:=by subst h;intro u hu;simp only[Aj,BY,D3]at hu;rcases hu with rfl|rfl|rfl|rfl|rfl|rfl<;>rfl
 pos:=ox
 NB:=⟨_,λ_=>Y⟩
structure Ur where
 a:Ah
 b:Ah
abbrev APW(x:Ur):List Value:=[vI x.a.BD,vI x.a.N,vS x.a.S,vI x.b.BD,vI x.b.N,vS x.b.S]
instance:Inhabited Ur:=⟨⟨default,default⟩⟩
def AQE:Cd Ur where
 sz:=6
 rep _ s cs:=cs=[.int .i64 s.a.BD,.int .i64 s.a.N,.string ⟨⟨s.a.S⟩⟩,.int .i64 s.b.BD,.int .i64 s.b.N,.string ⟨⟨s.b.S⟩⟩]
 len h:=by subst h;rfl
 mono _ h:=h
 one h:=by subst h;intro u hu;simp only[Aj,BY,D3]at hu;rcases hu with rfl|rfl|rfl|rfl|rfl|rfl<;>rfl
 pos:=ox
 NB:=⟨_,λ_=>Y⟩
def AFF(s:List AR)(f:AV):AQ:=⟨s,f,[],[],⟨⟨0,0,[]⟩,[],[],[],[],0⟩⟩
def Ez(z:List AR)(H:List AR)(K:AA Bool):Nat->Int->AA Bool
 |0,_=>none|O+1,y=>cond (decide (y<(z.length:Int))) (Ba (0<=y/\y<(z.length:Int)) (Ba (0<=y/\y<(H.length:Int)) (cond (!(((AN z y).Key==(AN H y).Key)&&((((AN z y).JK.BD==(AN H y).JK.BD)&&(((AN z y).JK.N==(AN H y).JK.N)&&(((AN z y).JK.S==(AN H y).JK.S)&&true)))&&true))) (some false) (Ez z H K O (AB (y+1)))))) K
def Fw(y:List AR)(z:List AR):AA Bool:=
 (cond ((y.length:Int) !=(z.length:Int)) (some false) (jn (some true) (λH=>Ez y z H ((y.length:Int).toNat+1) 0)))
theorem Oz(N:List AR)(O:List AR){a2:AA Addr}{a4:AA Addr}(h2:AK Au V a2 y N)(h4:AK Au V a4 z O)(U:Fw N O=some r):Sp 12 [vL a2 N y,vL a4 O z] V (λ_ v=>v=vB r):=by
 refine se Tryz.func12 ?_;refine i1 U λhb U=>?_;refine sj 6 U Y λJ5 U=>?_;refine lq (λn8 L' V' M'=>∃(Z:Int),L'=[(0,sL a2 N y),(1,sL a4 O z),(5,sI Z)]/\M'=[]/\AK Au V' a2 y N/\AK Au V' a4 z O/\Ez N O J5 n8 Z=some r) Y tu ?_;rintro n8 L' _ M' ⟨Z,rfl,rfl,aa,ab,U⟩;refine i4 U λhb U=>?_;refine Yr.DU (pm 9 0 511) Y ?_;have⟨W,U⟩:=AL U;obtain⟨_,rfl,H⟩:=AK.get aa W;refine Yr.Qp Y ⟨W.1,W.2,H.some⟩ (Yr.P8 (x:=vA (Zv (AN N Z))) Y H ?_);have⟨X,U⟩:=AL U;obtain⟨_,rfl,K⟩:=AK.get ab X;exact Yr.Qp Y ⟨X.1,X.2,K.some⟩ (Yr.P8 (x:=vA (Zv (AN O Z))) Y K (B4 U Y (λ_ U=>rt) λ_ U=>rd))
def GR(z:A9)(H:AA Bool):Nat->Int->AA Bool
 |0,_=>none|K+1,y=>cond (decide (y<(z.length:Int))) (Ba (0<=y/\y<(z.length:Int)) (Ba (((decide ((B0 z y.toNat)<33))==false)=true->0<=y/\y<(z.length:Int)) (cond ((decide ((B0 z y.toNat)<33))||(decide (126<(B0 z y.toNat)))) (some false) (GR z H K (AB (y+1)))))) H
def Gt(y:A9):AA Bool:=
 (jn (some (decide ((y.length:Int)<=(24:Int)))) (λz=>GR y z ((y.length:Int).toNat+1) 0))
theorem ON(y:A9)(U:Gt y=some r):Sp 15 [vS y] V (λ_ v=>v=vB r):=by
 unfold Gt at U;refine se Tryz.func15 ?_;refine AD.run Aa 9 Y ?_;refine sn U (λz L' V' M'=>L'=[(0,sS y)]/\M'=[]/\z=some r) Y ?_ λz U=>?_
 ·rintro L' _ M' ⟨rfl,rfl,U⟩;exact rt
 ·refine lq (λN L' V' M'=>∃(H:Int),L'=[(0,sS y),(3,sI H)]/\M'=[]/\GR y z N H=some r) Y tu ?_;rintro N L' _ M' ⟨H,rfl,rfl,U⟩;refine i4 U λX U=>?_;have⟨O,U⟩:=AL U;refine xr Y (Mq Aa Y Y O ?_);have⟨W,U⟩:=AL U;refine xr Y (Mq Aa Y Y (λK=>W (Bv K)) ?_);exact B4 U Y (λ_ U=>rt) λ_ U=>rd
def Iy(y:Int):AA Bool:=
 (some ((decide (1<=y))&&(decide (y<=1099511627776))))
theorem Qu(y:Int)(U:Iy y=some r):Sp 16 [vI y] V (λ_ v=>v=vB r):=by
 refine se Tryz.func16 ?_;exact rt
def Ip(y:Int):AA Bool:=
 (some ((decide (1<=y))&&(decide (y<=16))))
theorem PF(y:Int)(U:Ip y=some r):Sp 17 [vI y] V (λ_ v=>v=vB r):=by
 refine se Tryz.func17 ?_;exact rt
def HM(z:List Bc)(y:Int):AA Bool:=
 (Ba (0<=y/\y<(z.length:Int)) (cond ((AN z y).C0==0) (some ((AN z y).Gh==([]:A9))) (Az (Ip ((AN z y).C0)) λH=>Az (CG ((H&&((AN z y).C0 !=(AN z y).Ab))==true) (Gt ((AN z y).Gh))) λK=>Ba (((((AB (y+1))==(z.length:Int))==false)&&((((H&&((AN z y).C0 !=(AN z y).Ab))&&K)&&(!Dy (AN z y).Gh (AN z y).BU))==true))=true->0<=(AB (y+1))/\(AB (y+1))<(z.length:Int)) (some ((((H&&((AN z y).C0 !=(AN z y).Ab))&&K)&&(!Dy (AN z y).Gh (AN z y).BU))&&(((AB (y+1))==(z.length:Int))||(Dy (AN z y).Gh (cond ((((AB (y+1))==(z.length:Int))==false)&&((((H&&((AN z y).C0 !=(AN z y).Ab))&&K)&&(!Dy (AN z y).Gh (AN z y).BU))==true)) (AN z (AB (y+1))) default).BU)))))))
theorem Tr(z:List Bc)(H:Int){a2:AA Addr}(h2:AK BS V a2 y z)(U:HM z H=some r):Sp 18 [vL a2 z y,vI H] V (λ_ v=>v=vB r):=by
 refine se Tryz.func18 ?_;have⟨q4,U⟩:=AL U;obtain⟨_,rfl,O⟩:=AK.get h2 q4;refine Yr.ia Y ⟨q4.1,q4.2,O.some⟩ (Yr.ld (x:=vA (gv7 (AN z H))) Y O Y (i1 U λ_ U=>?_));refine Yr.DU (pm 41 0 3783458867) Y (Yr.cb U Y (PF ((AN z H).C0)) λZ U=>?_);refine Gj U Y (ON ((AN z H).Gh)) λx7 U=>?_;have⟨X,U⟩:=AL U;obtain⟨_,rfl,W⟩:=AK.OG ((((AB (H+1))==(z.length:Int))==false)&&((((Z&&((AN z H).C0 !=(AN z H).Ab))&&x7)&&(!Dy (AN z H).Gh (AN z H).BU))==true)) h2 X;exact Yr.ia Y (λK N=>⟨(X (Dr K N)).1,(X (Dr K N)).2,(W (Dr K N)).some⟩) (Yr.ld (x:=vS (cond ((((AB (H+1))==(z.length:Int))==false)&&((((Z&&((AN z H).C0 !=(AN z H).Ab))&&x7)&&(!Dy (AN z H).Gh (AN z H).BU))==true)) (AN z (AB (H+1))) default).BU) Y (λK N=>(Bi.part (W (Dr K N)) 1 1 Y)) Y rt)
def Tl(y:Int):AA (AI×Int):=
 (Az (Ip y) λz=>cond (!z) (some ((⟨0,([]:List Bc)⟩:AI),1)) (some ((⟨0,([(⟨1,[],y,0,[]⟩:Bc)]:List Bc)⟩:AI),0)))
theorem Z1(y:Int){r:AI×Int}(U:Tl y=some r):Sp 21 [vI y] V (λV' v=>∃a4 k4,v=.tuple ⟨[vA (S2 r.1 a4 k4),vI (r.2)]⟩/\AK BS V' a4 k4 r.1.AG):=by
 refine se Tryz.func21 ?_;refine Yr.cb U Y (PF y) λN U=>?_;refine i1 U λ_ U=>?_;refine xr Y (X8 Aa Y Y Y Y Y (λH a3 K z=>?_));have h3:AK BS H (some a3) 1 ([(⟨1,[],y,0,[]⟩:Bc)]:List Bc):=BV (c:=BS) (V:=H) (cs:=[vI 1,vS [],vI y,vI 0,vS []]) ⟨_,_,Y,Y,Y⟩ (DI.refl _) (λ_=>z) zp;exact rt
def Lu(y:HC):AA Bool:=
 (cond (y.BD==1) (some ((y.Ab==0)&&(y.N==0))) (cond (y.BD==2) (some ((((y.New==0)&&(y.Ab==0))&&(y.N==0))&&(y.Key==([]:A9)))) (cond (y.BD==3) (some (((y.New==0)&&(y.N==0))&&(y.Key==([]:A9)))) (cond (y.BD==4) (some (((y.New==0)&&(y.Ab==0))&&(y.Key==([]:A9)))) (some false)))))
theorem Xn(y:HC)(U:Lu y=some r):Sp 25 [vA (AOT y)] V (λ_ v=>v=vB r):=by
 refine se Tryz.func25 ?_;refine i1 U λz U=>?_;refine i1 U λz U=>?_;refine i1 U λz U=>?_;exact i3 U
def PY(z:List Int)(y:Int)(H:Int):AA Int:=
 (Ba (((decide ((z.length:Int)<=y))==false)=true->0<=y/\y<(z.length:Int)) (cond ((decide ((z.length:Int)<=y))||(decide ((cond ((decide ((z.length:Int)<=y))==false) (AN z y) default)<0))) (some 0) (Ba (0<=y/\y<(z.length:Int)) (Ba (H≠0) (some (AAw (AN z y) H))))))
theorem ACW(H:List Int)(K:Int)(Z:Int){a2:AA Addr}(h2:AK (CD .i64) V a2 y H){r:Int}(U:PY H K Z=some r):Sp 32 [vL a2 H y,vI K,vI Z] V (λ_ v=>v=vI r):=by
 refine se Tryz.func32 ?_;have⟨W,U⟩:=AL U;obtain⟨_,rfl,N⟩:=AK.OG ((decide ((H.length:Int)<=K))==false) h2 W;refine Yr.ia Y (λz=>⟨(W (Bv z)).1,(W (Bv z)).2,(N (Bv z)).some⟩) (Yr.ld (x:=vI (cond ((decide ((H.length:Int)<=K))==false) (AN H K) default)) Y (λz=>(N (Bv z))) Y (i1 U λ_ U=>?_));have⟨X,U⟩:=AL U;obtain⟨_,rfl,O⟩:=AK.get h2 X;refine Yr.ia Y ⟨X.1,X.2,O.some⟩ (Yr.ld (x:=vI (AN H K)) Y O Y ?_);have⟨q9,U⟩:=AL U;refine xr Y (TW Y Y q9 ?_);exact rt
theorem CW(x:List AR){a:AA Addr}{k:Nat}(h:AK Au V a k x)(N:x.length*48<=140737488355328):MJ Tryz.prog 35 [vL a x k] ⟨.slice none 0 0,[],62,4⟩ V (λV' v O=>∃a' H z,v=vL a' x H/\O=⟨vL a' x H,z,62,4⟩/\AF Au V' x z):=by
 refine MJ.enter (T:=NP) Tryz.func35 Y kz Y Y Y ?_;refine xr Y (AGK Aa Y Y ?_);refine xr Y ?_;rcases K:a.isNone with _|_
 ·refine CY Y (by simp[K]) ?_;refine Yr.RV Y (Fh 1 (n:=0) (sz:=4) Y Y Y Y Y (λ_=>Y) (λ_=>Y) (λ_=>Y) (λb=>?_));refine xr Y (ABw Aa (cd:=Au) 1 (nm:=x.length) Y Y Y Y Y Y h Y zp (λ_ _ _=>Y) Y N (λcs W a' H=>?_));refine Yr.ret Y ?_;dsimp only;exact OV.at 1 Y ⟨a',H,_,Y,Y,W⟩
 ·refine CT Y (by simp[K]) ?_;have X:a=none:=by cases a<;>simp at K⊢
  have Z:x=[]:=by
   cases x with
   |nil=>rfl|cons y l=>
    have⟨cs,_,b,_,h2,_⟩:=h.2 0 y Y;rw[X]at h2;simp at h2
  subst Z;refine Yr.ret Y ?_;dsimp only;exact OV.at 0 Y ⟨none,0,[],Y,Y,Y⟩
def CJ(z:List Bc)(K:Bc->AA Bool)(N:AA Int):Nat->Int->AA Int
 |0,_=>none|O+1,y=>cond (decide (y<(z.length:Int))) (Ba (0<=y/\y<(z.length:Int)) (Az (K (AN z y)) λH=>cond H (some y) (CJ z K N O (AB (y+1))))) N
def Da(y:List Bc)(z:Bc->AA Bool):AA Int:=
 (jn (some (-1:Int)) (λH=>CJ y z H ((y.length:Int).toNat+1) 0))
theorem H8(H:List Bc)(W:Bc->AA Bool){a2:AA Addr}(h2:AK BS V a2 z H)(ad:Hq Tryz.prog y O V (λ(aa:Bc)=>vA (gv7 aa)) (λ(r:Bool)=>vB r) W){r:Int}(U:Da H W=some r):Sp 38 [vL a2 H z,.func (.func y) #[] ⟨O⟩] V (λ_ v=>v=vI r):=by
 unfold Da at U;refine se Tryz.func38 ?_;refine sj 11 U Y λJ5 U=>?_;refine lq (λn8 L' V' M'=>∃(X:Int),L'=[(0,sL a2 H z),(1,.v (.func (.func y) #[] ⟨O⟩)),(7,sN H),(8,sI X)]/\M'=[]/\AK BS V' a2 z H/\Hq Tryz.prog y O V' (λ(aa:Bc)=>vA (gv7 aa)) (λ(r:Bool)=>vB r) W/\CJ H W J5 n8 X=some r) Y tu ?_;rintro n8 L' _ M' ⟨X,rfl,rfl,Z,ab,U⟩;refine i4 U λhb U=>?_;have⟨N,U⟩:=AL U;obtain⟨_,rfl,K⟩:=AK.get Z N;refine Yr.ia Y ⟨N.1,N.2,K.some⟩ (Yr.ld (x:=vA (gv7 (AN H X))) Y K Y (Yr.cb U Y ab.at λae U=>?_));exact B4 U Y (λ_ U=>rt) λ_ U=>rd
def GD(y:Bc)(z:Int):AA Bool:=
 (some (y.Id==z))
theorem Wd(K:Bc)(z:Int)(H:Bi V (some ⟨y,o0,none⟩) 0 [vI z])(U:GD K z=some r):Sp 39 [vA (gv7 K),.pointer (some ⟨y,o0,none⟩)] V (λ_ v=>v=vB r):=by
 refine se Tryz.func39 ?_;exact Yr.ld (x:=vI z) Y H Y rt
def Ix(y:AR):AA Bool:=
 (some (y.JK.BD==0))
theorem Ui(y:AR)(U:Ix y=some r):Sp 44 [vA (Zv y)] V (λ_ v=>v=vB r):=by
 refine se Tryz.func44 ?_;exact rt
abbrev Hy:AR->Value:=λ(y:AR)=>.agg ⟨[.string ⟨⟨y.Key⟩⟩,.int .i64 y.JK.BD,.int .i64 y.JK.N,.string ⟨⟨y.JK.S⟩⟩]⟩
def KP{σ:Type}(H:List AR)(K:List AR)(g8:σ->AR->AA σ)(N:σ->AR->AA σ)(O:σ->AR->AR->AA σ)(g6:AR->AR->AA Int):Nat->σ->Int->Int->AA σ
 |0,_,_,_=>none|Z+1,s,y,z=>cond ((decide (y<(H.length:Int)))||(decide (z<(K.length:Int)))) (jn (λ(X:Int)=>cond (decide (X<0)) (Ba (0<=y/\y<(H.length:Int)) (Az (g8 s (AN H y)) λaa=>KP H K g8 N O g6 Z aa (AB (y+1)) z)) (cond (decide (0<X)) (Ba (0<=z/\z<(K.length:Int)) (Az (N s (AN K z)) λab=>KP H K g8 N O g6 Z ab y (AB (z+1)))) (Ba (0<=y/\y<(H.length:Int)) (Ba (0<=z/\z<(K.length:Int)) (Az (O s (AN H y) (AN K z)) λad=>KP H K g8 N O g6 Z ad (AB (y+1)) (AB (z+1))))))) (λW=>cond (y==(H.length:Int)) (W 1) (cond (z==(K.length:Int)) (W (-1:Int)) (Ba (0<=y/\y<(H.length:Int)) (Ba (0<=z/\z<(K.length:Int)) (Az (g6 (AN H y) (AN K z)) λae=>W ae)))))) (some s)
def YY{σ:Type}(H:List AR)(K:List AR)(N:AR->AR->AA Int)(O:σ->AR->AA σ)(y:σ->AR->AA σ)(z:σ->AR->AR->AA σ)(s:σ):AA σ:=
 (KP H K O y z N (1099511627776:Nat) s 0 0)
theorem AIo{σ:Type}{rel:AM->σ->HH->HH->HH->Prop}(x1:List AR)(x3:List AR)(g6:AR->AR->AA Int)(g8:σ->AR->AA σ)(ad:σ->AR->AA σ)(ae:σ->AR->AR->AA σ){a2:AA Addr}{a4:AA Addr}(h2:AK Au V a2 ab x1)(h4:AK Au V a4 ai x3)(aQ:Ob Tryz.prog y O V Hy Hy (λ(r:Int)=>vI r) g6)(aR:Tk Tryz.prog z av V Hy rel g8)(aO:Tk Tryz.prog N a1 V Hy rel ad)(aP:Zq Tryz.prog W aV V Hy Hy rel ae){s r:σ}(K:rel V s a6 a7 a8)(U:YY x1 x3 g6 g8 ad ae s=some r):SR 68 [vL a2 x1 ab,vL a4 x3 ai,.func (.func y) #[] ⟨O⟩,.func (.func z) #[] ⟨av⟩,.func (.func N) #[] ⟨a1⟩,.func (.func W) #[] ⟨aV⟩] [a6,a7,a8] V (λV' v aK=>v=.tuple ⟨[]⟩/\∃q0 q1 q2,aK=[q0,q1,q2]/\rel V' r q0 q1 q2):=by
 unfold YY at U;refine Q7.enter (T:=NP) Tryz.func68 Y kz Y Y Y (M:=[.row a6.x a6.cs a6.e a6.sz,.row a7.x a7.cs a7.e a7.sz,.row a8.x a8.cs a8.e a8.sz]) Y ?_;refine AOn (λaw L' V' M'=>∃(s:σ)(a6 a7 a8:HH)(Z:Int)(aa:Int),L'=[(0,sL a2 x1 ab),(1,sL a4 x3 ai),(2,.v (.func (.func y) #[] ⟨O⟩)),(3,.v (.func (.func z) #[] ⟨av⟩)),(4,.v (.func (.func N) #[] ⟨a1⟩)),(5,.v (.func (.func W) #[] ⟨aV⟩)),(12,sI Z),(13,sI aa)]/\M'=[.row a6.x a6.cs a6.e a6.sz,.row a7.x a7.cs a7.e a7.sz,.row a8.x a8.cs a8.e a8.sz]/\AK Au V' a2 ab x1/\AK Au V' a4 ai x3/\Ob Tryz.prog y O V' Hy Hy (λ(r:Int)=>vI r) g6/\Tk Tryz.prog z av V' Hy rel g8/\Tk Tryz.prog N a1 V' Hy rel ad/\Zq Tryz.prog W aV V' Hy Hy rel ae/\rel V' s a6 a7 a8/\KP x1 x3 g8 ad ae g6 aw s Z aa=some r) Y tu ?_;clear K;rintro aw L' _ M' ⟨s,a6,a7,a8,Z,aa,rfl,rfl,aL,aM,aN,_,_,_,K,U⟩;rcases aw with _|aw
 ·exact absurd U (by simp[KP])
 rw[KP]at U;refine B4 U Y (λhb U=>?_) λ_ U=>?_
 ·refine sm U (λaF L' V' M'=>∃(ax:Int),L'=[(0,sL a2 x1 ab),(1,sL a4 x3 ai),(2,.v (.func (.func y) #[] ⟨O⟩)),(3,.v (.func (.func z) #[] ⟨av⟩)),(4,.v (.func (.func N) #[] ⟨a1⟩)),(5,.v (.func (.func W) #[] ⟨aV⟩)),(12,sI Z),(13,sI aa),(14,sI ax)]/\M'=[.row a6.x a6.cs a6.e a6.sz,.row a7.x a7.cs a7.e a7.sz,.row a8.x a8.cs a8.e a8.sz]/\AK Au V' a2 ab x1/\AK Au V' a4 ai x3/\Ob Tryz.prog y O V' Hy Hy (λ(r:Int)=>vI r) g6/\Tk Tryz.prog z av V' Hy rel g8/\Tk Tryz.prog N a1 V' Hy rel ad/\Zq Tryz.prog W aV V' Hy Hy rel ae/\rel V' s a6 a7 a8/\aF ax=some r) Y ?_ λaF U=>?_
  ·rintro L' _ M' ⟨ax,rfl,rfl,af,ag,ay,ah,aj,ak,K,U⟩;refine B4 U Y (λ_ U=>?_) λhb U=>?_
   ·have⟨az,U⟩:=AL U;obtain⟨_,rfl,al⟩:=AK.get af az;refine Yr.ia Y ⟨az.1,az.2,al.some⟩ (Yr.ld (x:=vA (Zv (AN x1 Z))) Y al Y ?_);have⟨_,aG,U⟩:=AO U;refine xr Y (Le [0,1,2] (rs:=[a6,a7,a8]) Y Y Y Y Y Y (ah _ (DI.refl _) s a6 a7 a8 _ _ K aG) ?_);rintro aH _ _ H ⟨rfl,q0,q1,q2,rfl,X⟩;refine⟨_,Y,?_⟩;exact Yr.rd Y ⟨_,CE _,_,_,_,_,_,_,Y,Y,AK.mono af H,AK.mono ag H,ay.mono H,ah.mono H,aj.mono H,ak.mono H,X,U⟩
   ·refine B4 U Y (λ_ U=>?_) λ_ U=>?_
    ·have⟨aA,U⟩:=AL U;obtain⟨_,rfl,an⟩:=AK.get ag aA;refine Yr.ia Y ⟨aA.1,aA.2,an.some⟩ (Yr.ld (x:=vA (Zv (AN x3 aa))) Y an Y ?_);have⟨_,aI,U⟩:=AO U;refine xr Y (Le [0,1,2] (rs:=[a6,a7,a8]) Y Y Y Y Y Y (aj _ (DI.refl _) s a6 a7 a8 _ _ K aI) ?_);rintro aH _ _ H ⟨rfl,q0,q1,q2,rfl,X⟩;refine⟨_,Y,?_⟩;exact Yr.rd Y ⟨_,CE _,_,_,_,_,_,_,Y,Y,AK.mono af H,AK.mono ag H,ay.mono H,ah.mono H,aj.mono H,ak.mono H,X,U⟩
    ·refine Yr.E2 [] [0,1,2] (pm 10 0 511) Y ?_;have⟨aB,U⟩:=AL U;obtain⟨_,rfl,ao⟩:=AK.get af aB;refine Yr.Qp Y ⟨aB.1,aB.2,ao.some⟩ (Yr.P8 (x:=vA (Zv (AN x1 Z))) Y ao ?_);have⟨aC,U⟩:=AL U;obtain⟨_,rfl,aq⟩:=AK.get ag aC;refine Yr.Qp Y ⟨aC.1,aC.2,aq.some⟩ (Yr.P8 (x:=vA (Zv (AN x3 aa))) Y aq ?_);have⟨_,aJ,U⟩:=AO U;refine xr Y (Le [0,1,2] (rs:=[a6,a7,a8]) Y Y Y Y Y Y (ak _ (DI.refl _) s a6 a7 a8 _ _ _ K aJ) ?_);rintro aH _ _ H ⟨rfl,q0,q1,q2,rfl,X⟩;refine⟨_,Y,?_⟩;exact Yr.rd Y ⟨_,CE _,_,_,_,_,_,_,Y,Y,AK.mono af H,AK.mono ag H,ay.mono H,ah.mono H,aj.mono H,ak.mono H,X,U⟩
  ·refine i5 U λhb U=>?_;refine i5 U λ_ U=>?_;refine Yr.DU (pm 11 0 511) Y ?_;have⟨aD,U⟩:=AL U;obtain⟨_,rfl,ar⟩:=AK.get aL aD;refine Yr.Qp Y ⟨aD.1,aD.2,ar.some⟩ (Yr.P8 (x:=vA (Zv (AN x1 Z))) Y ar ?_);have⟨aE,U⟩:=AL U;obtain⟨_,rfl,au⟩:=AK.get aM aE;refine Yr.Qp Y ⟨aE.1,aE.2,au.some⟩ (Yr.P8 (x:=vA (Zv (AN x3 aa))) Y au (Yr.cb U Y aN.at λaS U=>?_));exact rd
 ·obtain rfl:=Bt U;exact Yr.SL Y ⟨[a6,a7,a8],Y,Y,Y,a6,a7,a8,Y,K⟩
def D7(z:List A9)(H:List A9)(K:AA Bool):Nat->Int->AA Bool
 |0,_=>none|N+1,y=>cond (decide (y<(z.length:Int))) (Ba (0<=y/\y<(z.length:Int)) (Ba (0<=y/\y<(H.length:Int)) (cond ((AN z y) !=(AN H y)) (some false) (D7 z H K N (AB (y+1)))))) K
def Fg(y:List A9)(z:List A9):AA Bool:=
 (cond ((y.length:Int) !=(z.length:Int)) (some false) (jn (some true) (λH=>D7 y z H ((y.length:Int).toNat+1) 0)))
theorem Mw(N:List A9)(O:List A9){a2:AA Addr}{a4:AA Addr}(h2:AK Bf V a2 y N)(h4:AK Bf V a4 z O)(U:Fg N O=some r):Sp 71 [vL a2 N y,vL a4 O z] V (λ_ v=>v=vB r):=by
 refine se Tryz.func71 ?_;refine i1 U λhb U=>?_;refine sj 6 U Y λJ5 U=>?_;refine lq (λn8 L' V' M'=>∃(Z:Int),L'=[(0,sL a2 N y),(1,sL a4 O z),(5,sI Z)]/\M'=[]/\AK Bf V' a2 y N/\AK Bf V' a4 z O/\D7 N O J5 n8 Z=some r) Y tu ?_;rintro n8 L' _ M' ⟨Z,rfl,rfl,aa,ab,U⟩;refine i4 U λhb U=>?_;refine Yr.DU (pm 9 0 511) Y ?_;have⟨W,U⟩:=AL U;obtain⟨_,rfl,H⟩:=AK.get aa W;refine Yr.Qp Y ⟨W.1,W.2,H.some⟩ (Yr.P8 (x:=vS (AN N Z)) Y H ?_);have⟨X,U⟩:=AL U;obtain⟨_,rfl,K⟩:=AK.get ab X;exact Yr.Qp Y ⟨X.1,X.2,K.some⟩ (Yr.P8 (x:=vS (AN O Z)) Y K (B4 U Y (λ_ U=>rt) λ_ U=>rd))
def Ed(z:A9)(H:AA Bool):Nat->Int->AA Bool
 |0,_=>none|K+1,y=>cond (decide (y<(z.length:Int))) (Ba (0<=y/\y<(z.length:Int)) (Ba (((decide ((B0 z y.toNat)<32))==false)=true->0<=y/\y<(z.length:Int)) (cond ((decide ((B0 z y.toNat)<32))||(decide (126<(B0 z y.toNat)))) (some false) (Ed z H K (AB (y+1)))))) H
def IT(y:A9):AA Bool:=
 (cond (decide (64<(y.length:Int))) (some false) (jn (some true) (λz=>Ed y z ((y.length:Int).toNat+1) 0)))
theorem TK(y:A9)(U:IT y=some r):Sp 72 [vS y] V (λ_ v=>v=vB r):=by
 refine se Tryz.func72 ?_;refine i1 U λN U=>?_;refine sj 6 U Y λO U=>?_;refine lq (λK L' V' M'=>∃(z:Int),L'=[(0,sS y),(3,sI z)]/\M'=[]/\Ed y O K z=some r) Y tu ?_;rintro K L' _ M' ⟨z,rfl,rfl,U⟩;refine i4 U λN U=>?_;have⟨W,U⟩:=AL U;refine xr Y (Mq Aa Y Y W ?_);have⟨X,U⟩:=AL U;refine xr Y (Mq Aa Y Y (λH=>X (Bv H)) ?_);exact B4 U Y (λ_ U=>rt) λ_ U=>rd
def Ee(z:A9)(H:AA Bool):Nat->Int->AA Bool
 |0,_=>none|K+1,y=>cond (decide (y<(z.length:Int))) (Ba (0<=y/\y<(z.length:Int)) (cond (((((((decide ((B0 z y.toNat)<97))||(decide (122<(B0 z y.toNat))))&&((decide ((B0 z y.toNat)<48))||(decide (57<(B0 z y.toNat)))))&&((B0 z y.toNat) !=47))&&((B0 z y.toNat) !=46))&&((B0 z y.toNat) !=95))&&((B0 z y.toNat) !=45)) (some false) (Ee z H K (AB (y+1))))) H
def Gy(y:A9):AA Bool:=
 (jn (some ((decide (1<=(y.length:Int)))&&(decide ((y.length:Int)<=(24:Int))))) (λz=>Ee y z ((y.length:Int).toNat+1) 0))
theorem TL(y:A9)(U:Gy y=some r):Sp 73 [vS y] V (λ_ v=>v=vB r):=by
 unfold Gy at U;refine se Tryz.func73 ?_;refine AD.run Aa 9 Y ?_;refine sn U (λz L' V' M'=>L'=[(0,sS y)]/\M'=[]/\z=some r) Y ?_ λz U=>?_
 ·rintro L' _ M' ⟨rfl,rfl,U⟩;exact rt
 ·refine lq (λK L' V' M'=>∃(H:Int),L'=[(0,sS y),(3,sI H)]/\M'=[]/\Ee y z K H=some r) Y tu ?_;rintro K L' _ M' ⟨H,rfl,rfl,U⟩;refine i4 U λO U=>?_;have⟨N,U⟩:=AL U;refine xr Y (Mq Aa Y Y N ?_);exact B4 U Y (λ_ U=>rt) λ_ U=>rd
def Ci(z:List AR)(K:AR->AA Bool)(N:AA Int):Nat->Int->AA Int
 |0,_=>none|O+1,y=>cond (decide (y<(z.length:Int))) (Ba (0<=y/\y<(z.length:Int)) (Az (K (AN z y)) λH=>cond H (some y) (Ci z K N O (AB (y+1))))) N
def EK(y:List AR)(z:AR->AA Bool):AA Int:=
 (jn (some (-1:Int)) (λH=>Ci y z H ((y.length:Int).toNat+1) 0))
theorem ND(H:List AR)(W:AR->AA Bool){a2:AA Addr}(h2:AK Au V a2 z H)(ad:Hq Tryz.prog y O V (λ(aa:AR)=>vA (Zv aa)) (λ(r:Bool)=>vB r) W){r:Int}(U:EK H W=some r):Sp 76 [vL a2 H z,.func (.func y) #[] ⟨O⟩] V (λ_ v=>v=vI r):=by
 unfold EK at U;refine se Tryz.func76 ?_;refine sj 11 U Y λJ5 U=>?_;refine lq (λn8 L' V' M'=>∃(X:Int),L'=[(0,sL a2 H z),(1,.v (.func (.func y) #[] ⟨O⟩)),(7,sN H),(8,sI X)]/\M'=[]/\AK Au V' a2 z H/\Hq Tryz.prog y O V' (λ(aa:AR)=>vA (Zv aa)) (λ(r:Bool)=>vB r) W/\Ci H W J5 n8 X=some r) Y tu ?_;rintro n8 L' _ M' ⟨X,rfl,rfl,Z,ab,U⟩;refine i4 U λhb U=>?_;have⟨N,U⟩:=AL U;obtain⟨_,rfl,K⟩:=AK.get Z N;refine Yr.ia Y ⟨N.1,N.2,K.some⟩ (Yr.ld (x:=vA (Zv (AN H X))) Y K Y (Yr.cb U Y ab.at λae U=>?_));exact B4 U Y (λ_ U=>rt) λ_ U=>rd
theorem N8(x:List Bc)(y:Bc){a:AA Addr}{b:Nat}(hr:AF BS V x cs)(hy:AF BS V [y] ds){i:Int}(hi:0<=i/\i<=(x.length:Int))(hb:(x.length+1)*56<=140737488355328):SR 80 [.slice a x.length c,.int .i64 i,vR b] [⟨.slice a x.length c,cs,54,5⟩,⟨vR b,ds,54,5⟩] V (λV' v ag=>∃a' k' aa r2,v=.slice a' (x.take i.toNat++[y]++x.drop i.toNat).length k'/\ag=[⟨.slice a' (x.take i.toNat++[y]++x.drop i.toNat).length k',aa,54,5⟩,r2]/\AF BS V' (x.take i.toNat++[y]++x.drop i.toNat) aa):=by
 have hlen:(x.take i.toNat++[y]++x.drop i.toNat).length=x.length+1:=by simp;omega
 rw[hlen];have O:=hr.AA2;have H:=hy.AA2;have ah:BS.sz=5:=Y;have z:ds.length=5:=by simpa[ah]using hy.len
 have ab:cs.length=x.length*5:=hr.len;have hW:∀n:Int,0<=n->n<=9223372036854775807->AB n=n:=λn h h'=>Vg ox h';refine Q7.enter (T:=NP) Tryz.func80 Y kz Y Y Y Y ?_;refine MZ 0 Y (λr1 r2 r3 r4 r5=>?_);have aj:c<=9223372036854775807:=r3;refine xr Y (HD Aa Y Y (lo:=i) (hi:=(x.length:Int)) Y Y ⟨by omega,by omega,by omega⟩ (lo':=i.toNat) Y Y Y ?_);refine xr Y (CY Y Y ?_);refine xr Y ?_;cases ad:(i==(x.length:Int))
 case true=>
  have he:i=(x.length:Int):=by simpa using ad
  refine CT Y Y ?_;refine xr Y (ABx Aa 0 Y Y Y Y Y Y (.row 1 (off:=0) Y (l:=ds) (λj v hv=>by simpa using hv)) H (by simpa using z) (nm:=x.length+1) Y (λ_=>Y) Y hb (λa' c'=>?_));refine Yr.ret Y ?_;dsimp only;refine⟨[⟨.slice a' (x.length+1) c',cs++ds,54,5⟩,_],Y,Y,a',c',cs++ds,_,Y,Y,?_⟩;have:x.take i.toNat++[y]++x.drop i.toNat=x++[y]:=by rw[he];simp
  rw[this];exact hr.app hy
 case false=>
  have ak:i<(x.length:Int):=by simp at ad;omega
  obtain⟨g,rfl⟩:∃g,a=some ⟨g,0,none⟩:=by
   cases a with
   |none=>have:=(r4 Y).1;omega|some p=>obtain⟨g,rfl⟩:=r5 p Y;exact⟨g,Y⟩
  have ae:i.toNat<x.length:=ox
  have ei:((i.toNat:Nat):Int)=i:=Mx hi.1;have K:AF BS V (x.take i.toNat++[y]++x.drop i.toNat) (cs.take (i.toNat*5)++ds++cs.drop (i.toNat*5)):=((hr.take i.toNat).app hy).app (hr.drop i.toNat);have e0:Em (some ⟨g,0,none⟩) c 0 5=some ⟨g,0,none⟩:=by simp[Em,Addr.add_lit]
  refine CY Y Y ?_;refine xr Y ?_;have ew:AB ((x.length:Int)+((1:Nat):Int))=((x.length+1:Nat):Int):=by rw[hW _ ox ox];omega
  cases N:decide ((c:Int)<AB ((x.length:Int)+((1:Nat):Int)))
  case true=>
   have hc:c<x.length+1:=by rw[ew]at N;simp at N;omega
   refine CT Y Y ?_;refine xr Y (HD Aa Y Y (lo:=0) (hi:=i) Y Y ⟨by omega,by omega,by omega⟩ (lo':=0) Y (n':=i.toNat) ox (c':=c) ox ?_);have eq:AB (AB ((x.length:Int)+((1:Nat):Int))-i)=((x.length+1-i.toNat:Nat):Int):=by
    rw[ew,hW _ ox ox];omega
   have e5:i.toNat+(x.length+1-i.toNat)=x.length+1:=ox
   refine xr Y (AEe Aa 0 Y Y Y Y Y Y Y e0 Y eq ox Y ox ox (by rw[e5];exact hb) (nq:=x.length+1) e5 (λ_=>Y) (λb2 c2=>?_));have W:(AH (x.length+1-i.toNat) ([.int .i64 0,.string ⟨⟨[]⟩⟩,.int .i64 0,.int .i64 0,.string ⟨⟨[]⟩⟩]:List Value)).flatten.length=(x.length+1-i.toNat)*5:=by simp[P2]
   refine xr Y (MZ 2 Y (λs1 s2 s3 s4 s5=>?_));refine HD Aa Y Y (lo:=i) (hi:=((x.length+1:Nat):Int)) Y Y ⟨by omega,by omega,by omega⟩ (lo':=i.toNat) Y (n':=x.length+1-i.toNat) ox Y ?_;have a1:Em (some ⟨b2,0,none⟩) c2 i.toNat 5=some ⟨b2,i.toNat*5,none⟩:=by simp only[Em];rw[if_neg ox];simp only[Bq,Addr.add_lit,Bo]
   refine xr Y (Ms Aa 2 Y Y Y a1 Y Y (.row 1 (off:=0) Y (l:=ds) (λj v hv=>by simpa using hv)) (m:=1) (Cq ox) (by simpa using z) ?_ H Y Y Y ?_)
   ·simp only[AT,Ao,z];rw[W];show i.toNat*5+5<=min (i.toNat*5) cs.length+(x.length+1-i.toNat)*5;omega
   refine Yr.E2 [] [2] (pm 9 0 255) Y ?_;have ai:AB (i+((1:Nat):Int))=((i.toNat+1:Nat):Int):=by rw[hW _ ox ox];omega
   refine xr Y (IF Aa Y Y Y (lo:=AB (i+((1:Nat):Int))) (hi:=((x.length+1:Nat):Int)) Y Y ⟨by omega,by omega,by omega⟩ (lo':=i.toNat+1) ox (n':=x.length-i.toNat) ox Y ?_);refine xr Y (IF Aa Y Y Y (lo:=i) (hi:=(x.length:Int)) Y Y ⟨by omega,by omega,by omega⟩ (lo':=i.toNat) Y (n':=x.length-i.toNat) ox Y ?_);have a3:Em (some ⟨g,0,none⟩) c i.toNat 5=some ⟨g,i.toNat*5,none⟩:=by simp only[Em];rw[if_neg ox];simp only[Bq,Addr.add_lit,Bo]
   have a2:∃o2,(o2=(i.toNat+1)*5\/(x.length-i.toNat=0))/\Em (some ⟨b2,0,none⟩) c2 (i.toNat+1) 5=some ⟨b2,o2,none⟩:=by
    refine⟨(i.toNat+1)*5,.inl Y,?_⟩;simp only[Em];rw[if_neg ox];simp only[Bq,Addr.add_lit,Bo]
   have⟨o2,af,a2⟩:=a2;have af:o2=(i.toNat+1)*5:=ox
   subst af;refine xr Y (Ms Aa 2 Y Y Y a2 Y Y (by rw[a3];exact .row 0 (off:=i.toNat*5) Y (l:=cs.drop (i.toNat*5)) (λj v hv=>by rwa[DT]at hv)) (m:=x.length-i.toNat) (Nat.min_self _) (by show(cs.drop (i.toNat*5)).length=(x.length-i.toNat)*5;simp;omega) ?_ (λu hu=>O u (DK hu)) Y Y Y ?_)
   ·simp only[AT,Ao,Bj,z];rw[W];show(i.toNat+1)*5+(cs.length-i.toNat*5)<=_;omega
   have X:=WU (cs:=cs) (ds:=ds) (n:=x.length) (i:=i.toNat) (sz:=5) ab z W ae;refine xr Y (AEc [2,1] [(6,.v (.slice (some ⟨b2,0,none⟩) (x.length+1) c2))] Y Y Y Y sb ?_);refine Y.ret Y ?_;dsimp only;refine⟨[⟨.slice (some ⟨b2,0,none⟩) (x.length+1) c2,_,54,5⟩,_],Y,Y,_,c2,_,_,Y,Y,?_⟩;rw[<- X]at K;exact K
  case false=>
   have hc:x.length+1<=c:=by rw[ew]at N;simp at N;omega
   refine CY Y Y ?_;refine xr Y (HD Aa Y Y (lo:=0) (hi:=AB ((x.length:Int)+((1:Nat):Int))) Y Y ⟨by omega,by omega,by omega⟩ (lo':=0) Y (n':=x.length+1) ox (c':=c) ox ?_);refine xr Y (Y9 0 1 Y hc (λ_=>Y) Y (λjs Z=>?_));have Z:js.length=5:=by simpa using Z
   have ai:AB (i+((1:Nat):Int))=((i.toNat+1:Nat):Int):=by rw[hW _ ox ox];omega
   refine HD Aa Y Y (lo:=AB (i+((1:Nat):Int))) (hi:=((x.length+1:Nat):Int)) Y Y ⟨by omega,by omega,by omega⟩ (lo':=i.toNat+1) ox (n':=x.length-i.toNat) ox Y (xr Y ?_);have a2:Em (some ⟨g,0,none⟩) c (i.toNat+1) 5=some ⟨g,(i.toNat+1)*5,none⟩:=by
    simp only[Em];rw[if_neg ox];simp only[Bq,Addr.add_lit,Bo]
   have a3:Em (some ⟨g,0,none⟩) c i.toNat 5=some ⟨g,i.toNat*5,none⟩:=by simp only[Em];rw[if_neg ox];simp only[Bq,Addr.add_lit,Bo]
   rw[e0];refine AEd 0 1 (t:=23) (tb:=4) (e:=54) (ez:=5) Y Y Y Tryz.func126 kz kz kz kz Tryz.underlying23 Tryz.sizeOf54 Y a2 (by decide) ?_ Y Y ?_
   ·show 0<c*5;omega
   refine xr Y (CT Y Y ?_);refine Yr.E2 [] [0] (pm 9 0 255) Y ?_;refine xr Y (IF Aa Y Y Y (lo:=AB (i+((1:Nat):Int))) (hi:=((x.length+1:Nat):Int)) Y Y ⟨by omega,by omega,by omega⟩ (lo':=i.toNat+1) ox (n':=x.length-i.toNat) ox Y ?_);refine xr Y (IF Aa Y Y Y (lo:=i) (hi:=((x.length+1:Nat):Int)) Y Y ⟨by omega,by omega,by omega⟩ (lo':=i.toNat) Y (n':=x.length+1-i.toNat) ox Y ?_);refine xr Y ?_;refine Ms Aa 0 Y Y Y a2 Y Y (by rw[a3];exact .row 0 (off:=i.toNat*5) Y (l:=cs.drop (i.toNat*5)) (λj v hv=>by
    rw[DT]at hv;rw[DL,if_pos (As.1 hv).1];exact hv)) (m:=x.length-i.toNat) (Kq ox) (by show(cs.drop (i.toNat*5)).length=(x.length-i.toNat)*5;simp;omega) ?_ (λu hu=>O u (DK hu)) Y Y Y ?_
   ·simp only[AT,Bj];omega
   refine xr Y (HD Aa Y Y (lo:=i) (hi:=((x.length+1:Nat):Int)) Y Y ⟨by omega,by omega,by omega⟩ (lo':=i.toNat) Y (n':=x.length+1-i.toNat) ox Y ?_);refine xr Y (Ms Aa 0 Y Y Y a3 Y Y (.row 1 (off:=0) Y (l:=ds) (λj v hv=>by simpa using hv)) (m:=1) (Cq ox) (by simpa using z) ?_ H Y Y Y ?_)
   ·simp only[AT,Ao,Bj,z];omega
   refine Yr.ret Y ?_;dsimp only;refine⟨[⟨.slice (some ⟨g,0,none⟩) (x.length+1) c,_,54,5⟩,_],Y,Y,_,c,_,_,Y,Y,?_⟩;have X:=Yh (cs:=cs) (ds:=ds) (js:=js) (n:=x.length) (i:=i.toNat) (sz:=5) ab z Z ae;rw[<- X]at K;exact K
theorem Gq(x:List Bc){a:AA Addr}{k:Nat}(h:AK BS V a k x)(N:x.length*56<=140737488355328):MJ Tryz.prog 81 [vL a x k] ⟨.slice none 0 0,[],54,5⟩ V (λV' v O=>∃a' H z,v=vL a' x H/\O=⟨vL a' x H,z,54,5⟩/\AF BS V' x z):=by
 refine MJ.enter (T:=NP) Tryz.func81 Y kz Y Y Y ?_;refine xr Y (AGK Aa Y Y ?_);refine xr Y ?_;rcases K:a.isNone with _|_
 ·refine CY Y (by simp[K]) ?_;refine Yr.RV Y (Fh 1 (n:=0) (sz:=5) Y Y Y Y Y (λ_=>Y) (λ_=>Y) (λ_=>Y) (λb=>?_));refine xr Y (ABw Aa (cd:=BS) 1 (nm:=x.length) Y Y Y Y Y Y h Y zp (λ_ _ _=>Y) Y N (λcs W a' H=>?_));refine Yr.ret Y ?_;dsimp only;exact OV.at 1 Y ⟨a',H,_,Y,Y,W⟩
 ·refine CT Y (by simp[K]) ?_;have X:a=none:=by cases a<;>simp at K⊢
  have Z:x=[]:=by
   cases x with
   |nil=>rfl|cons y l=>
    have⟨cs,_,b,_,h2,_⟩:=h.2 0 y Y;rw[X]at h2;simp at h2
  subst Z;refine Yr.ret Y ?_;dsimp only;exact OV.at 0 Y ⟨none,0,[],Y,Y,Y⟩
theorem N9(x:List Bc){a:AA Addr}(O:AF BS V x cs){i j:Int}(y:0<=i/\i<=j/\j<=(x.length:Int))(hx:x.length<9223372036854775808):MJ Tryz.prog 82 [.slice a x.length c,.int .i64 i,.int .i64 j] ⟨.slice a x.length c,cs,54,5⟩ V (λV' v r'=>∃N,v=.slice a (x.take i.toNat++x.drop j.toNat).length c/\r'=⟨.slice a (x.take i.toNat++x.drop j.toNat).length c,N,54,5⟩/\AF BS V' (x.take i.toNat++x.drop j.toNat) N):=by
 have K:=O.AA2;have aa:BS.sz=5:=Y;refine MJ.enter (T:=NP) Tryz.func82 Y kz Y Y Y ?_;refine MZ 0 Y (λr1 r2 r3 r4 r5=>?_);have r1:cs.length=x.length*5:=r1;refine xr Y (ABq Aa Y Y Y Y Y Y Y ⟨y.1,y.2.1,y.2.2,by omega⟩ Y Y Y ?_);refine xr Y ?_;cases X:(i==j)
 ·have ab:i<j:=by simp at X;omega
  refine CY Y Y ?_;refine xr Y ?_;obtain⟨g,rfl⟩:∃g,a=some ⟨g,0,none⟩:=by
   cases a with
   |none=>have:=(r4 Y).1;omega|some p=>obtain⟨g,rfl⟩:=r5 p Y;exact⟨g,Y⟩
  refine AD.E2 Aa [] [0] (pm 8 0 63) kz ?_;refine xr Y (IF Aa Y Y Y (lo:=0) (hi:=i) Y Y ⟨by decide,y.1,by omega⟩ (lo':=0) Y (n':=i.toNat) ox (c':=c) ox ?_);refine xr Y (IF Aa Y Y Y (lo:=j) (hi:=(x.length:Int)) Y Y ⟨by omega,y.2.2,by omega⟩ Y (n':=x.length-j.toNat) ox Y ?_);have e0:Em (some ⟨g,0,none⟩) c 0 5=some ⟨g,0,none⟩:=by simp[Em,Addr.add_lit]
  have z:∃ad,Em (some ⟨g,0,none⟩) c j.toNat 5=some ad/\Src [.row (.slice (some ⟨g,0,none⟩) x.length c) cs 54 5] V (Em (some ⟨g,0,none⟩) c j.toNat 5) (cs.drop (j.toNat*5)):=by
   by_cases Z:c=j.toNat
   ·have:cs.drop (j.toNat*5)=[]:=by rw[T1];omega
    rw[this];simp only[Em,if_pos Z];exact⟨_,Y,.nil _⟩
   ·simp only[Em,if_neg Z,Bq,Addr.add_lit,Bo];exact⟨_,Y,.row 0 Y (λjj v hv=>by rwa[DT]at hv)⟩
  have⟨ad,W,z⟩:=z;refine xr Y (AGP Aa 0 Y Y Y e0 Y W Y z (by simp;omega) ox (λu hu=>K u (DK hu)) K Y Y Y ?_);refine xr Y (Y8 0 (i.toNat+(x.length-j.toNat)) Y ox Y Y ?_);refine HD Aa Y Y (lo:=((i.toNat+(x.length-j.toNat):Nat):Int)) (hi:=(x.length:Int)) Y Y ⟨by omega,by omega,by omega⟩ (lo':=i.toNat+(x.length-j.toNat)) ox Y Y (xr Y (ABv Aa 0 Y Y Y Y ?_ Y ?_ Y (Nat.le_refl _) ?_ Y Y ?_))
  ·decide
  ·simp only[Em];rw[if_neg ox];simp only[Bq,Addr.add_lit,Bo]
  ·show(i.toNat+(x.length-j.toNat))*5+((x.length:Int).toNat-(i.toNat+(x.length-j.toNat)))*5<=c*5;omega
  refine xr Y ?_;have hlen:(x.take i.toNat++x.drop j.toNat).length=i.toNat+(x.length-j.toNat):=by simp;omega
  rw[hlen];refine Y.ret Y ?_;dsimp only;refine OV.at 0 Y ⟨_,Y,Y,?_⟩;have H:(cs.take (i.toNat*5)++cs.drop (j.toNat*5)++cs.drop (i.toNat*5+(cs.drop (j.toNat*5)).length)).take ((i.toNat+(x.length-j.toNat))*5)=cs.take (i.toNat*5)++cs.drop (j.toNat*5):=by
   rw[Ut];simp only[AT,Ao,Bj];omega
  rw[H];exact(O.take i.toNat).app (O.drop j.toNat)
 ·have he:i=j:=by simpa using X
  refine CT Y Y ?_;refine xr Y ?_;subst he;rw[Dq];refine Y.ret Y ?_;dsimp only;exact OV.at 0 Y ⟨cs,Y,Y,O⟩
end Go.Proofs.YthjnkknigpkldaaGreatDoor
