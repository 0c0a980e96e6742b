/-
  A part of the proof that the statement TopMigratesUptoCardSaid holds (Fa Ty Ma).
  Conditions: none.
-/
import Derived.WalkKit
import Derived.WalkSpells
import Derived.WalkLawsBesides
import Derived.Test.YthjnkknigpkldaaGreatDoorProg
import Derived.Lib.Strings
import Derived.OrdersHeld
import Derived.Maps.AppendAt
import Derived.Scope
set_option linter.all false
set_option maxRecDepth 100000
set_option maxHeartbeats 4000000
namespace Go.Proofs.YthjnkknigpkldaaGreatDoor
abbrev AA:=@Option
abbrev AB:=@IntKind.i64.wrap
abbrev AE:=@Option.some.injEq
abbrev AH:=@List.replicate
abbrev AJ:=@Prod.mk.inj
abbrev AP:=@cond_false
abbrev AT:=@List.length_append
abbrev AW:=@List.getElem_mem
abbrev AZ:=@decide_eq_true_eq
abbrev Ae:=@Nat.le_of_ble_eq_true
abbrev Ai:=@decide_eq_false_iff_not
abbrev Aj:=@List.mem_cons
abbrev An:=@Array.getElem?_eq_some_iff
abbrev Ao:=@List.length_take
abbrev Ap:=@List.length_map
abbrev Aq:=@Bool.and_eq_true
abbrev As:=@List.getElem?_eq_some_iff
abbrev Ay:=@decide_true
abbrev A3:=@List.pairwise_iff_getElem
abbrev A4:=@List.drop_eq_getElem_cons
abbrev A7:=@Nat.lt_or_ge
abbrev A8:=@List.cons.injEq
abbrev BC:=@Bool.not_true
abbrev BJ:=@Prod.mk.injEq
abbrev BK:=@List.mem_filter
abbrev BL:=@List.getElem_of_mem
abbrev BO:=@List.length_singleton
abbrev BP:=@List.mem_of_getElem?
abbrev BQ:=@Bool.or_eq_false_iff
abbrev BW:=@List.mem_append
abbrev BY:=@List.not_mem_nil
abbrev Bd:=@decide_eq_false
abbrev Bh:=@beq_eq_false_iff_ne
abbrev Bj:=@List.length_drop
abbrev Bk:=@List.take_succ_eq_append_getElem
abbrev Bo:=@Nat.zero_add
abbrev Bq:=@Option.map_some
abbrev Bw:=@decide_eq_true
abbrev By:=@Nat.zero_le
abbrev Bz:=@List.length_cons
abbrev B1:=@beq_iff_eq
abbrev B2:=@congrArg
abbrev B6:=@List.pairwise_cons
abbrev B8:=@List.map_cons
abbrev CA:=@and_self
abbrev CC:=@List.mem_iff_getElem?
abbrev CE:=@Nat.lt_succ_self
abbrev CO:=@and_true
abbrev CZ:=@List.append_assoc
abbrev Ca:=@List.any_eq_false
abbrev Cb:=@Bool.not_eq_true'
abbrev Cf:=@Nat.le_trans
abbrev Ck:=@Bool.false_or
abbrev Cm:=@Nat.mul_le_mul_right
abbrev Cq:=@Nat.min_eq_left
abbrev Cr:=@List.length_set
abbrev Cs:=@List.getElem?_take
abbrev Cu:=@List.map_congr_left
abbrev Cw:=@Bool.true_and
abbrev C3:=@List.length_filter_le
abbrev DC:=@List.length_range
abbrev DD:=@List.getD_eq_getElem?_getD
abbrev DE:=@BEq.rfl
abbrev DK:=@List.mem_of_mem_drop
abbrev DL:=@List.getElem?_append
abbrev DT:=@List.getElem?_drop
abbrev Dp:=@decide_false
abbrev Dq:=@List.take_append_drop
abbrev Du:=@List.append_nil
abbrev Dz:=@List.mem_range
abbrev D1:=@Nat.blt_eq
abbrev D3:=@or_false
abbrev D5:=@List.Pairwise.filter
abbrev D6:=@Int.le_refl
abbrev ED:=@Bool.not_eq_false'
abbrev EE:=@Bool.and_eq_false_iff
abbrev ES:=@Bool.or_eq_true
abbrev ET:=@Bool.eq_iff_iff
abbrev EW:=@List.pairwise_append
abbrev EX:=@List.getElem?_map
abbrev E0:=@List.map_append
abbrev E4:=@List.getElem?_append_right
abbrev FB:=@Bool.not_eq_true
abbrev FI:=@List.pairwise_map
abbrev FJ:=@Bool.and_self
abbrev FO:=@List.eq_nil_of_length_eq_zero
abbrev Fi:=@List.length_replicate
abbrev Fo:=@bne_self_eq_false
abbrev Fp:=@Array.getD_eq_getD_getElem?
abbrev GJ:=@Bool.not_false
abbrev GK:=@Bool.false_eq_true
abbrev Ge:=@List.map_nil
abbrev Gf:=@List.drop_length
abbrev Gg:=@List.any_eq_true
abbrev Gi:=@Bool.or_self
abbrev Gn:=@bne_eq_false_iff_eq
abbrev G1:=@Nat.add_mul
abbrev G2:=@List.ext_getElem?
abbrev G8:=@List.getElem?_eq_none
abbrev HF:=@implies_true
abbrev HI:=@List.length_nil
abbrev H0:=@Nat.lt_trichotomy
abbrev H2:=@List.getElem?_set
abbrev IW:=@if_true
abbrev IX:=@List.mem_of_find?_eq_some
abbrev Ij:=@Nat.eq_of_beq_eq_true
abbrev Ik:=@List.singleton_append
abbrev JH:=@Nat.add_zero
abbrev JI:=@List.map_map
abbrev JM:=@List.mem_of_mem_take
abbrev JN:=@List.mem_iff_getElem
abbrev JO:=@List.getElem?_set_ne
abbrev Jt:=@List.length_eq_zero_iff
abbrev KA:=@List.nil_append
abbrev KB:=@List.find?_cons
abbrev KX:=@Nat.ne_of_beq_eq_false
abbrev KY:=@List.take_of_length_le
abbrev KZ:=@List.length_pos_of_mem
abbrev Ka:=@List.getElem?_set_self
abbrev Km:=@Nat.add_assoc
abbrev Kp:=@Option.getD_some
abbrev Kq:=@Nat.min_eq_right
abbrev Kr:=@List.take_length
abbrev Ks:=@List.map_toArray
abbrev Ku:=@Int.natCast_zero
abbrev K3:=@List.mem_filterMap
abbrev K4:=@List.map_replicate
abbrev K5:=@List.filter_append
abbrev Lp:=@Option.some.inj
abbrev Lq:=@List.foldl_cons
abbrev Mx:=@Int.toNat_of_nonneg
abbrev NH:=@List.take_take
abbrev NJ:=@List.getElem_set
abbrev NK:=@List.cons_append
abbrev NN:=@Bool.false_and
abbrev OW:=@List.getElem?_toArray
abbrev Om:=@Array.getElem?_append
abbrev On:=@List.size_toArray
abbrev PI:=@List.drop_zero
abbrev Pj:=@List.take_append
abbrev Pk:=@List.filter_cons
abbrev Pr:=@List.getElem?_append_left
abbrev P2:=@List.length_flatten
abbrev P5:=@Array.length_toList
abbrev QK:=@List.sum_cons
abbrev QL:=@List.any_cons
abbrev Qb:=@List.nodup_cons
abbrev Q8:=@List.find?_eq_none
abbrev RG:=@Nat.one_mul
abbrev RH:=@List.getElem?_cons_succ
abbrev R0:=@List.nodup_append
abbrev R1:=@List.mapM_cons
abbrev R4:=@Array.size_append
abbrev Sf:=@List.Pairwise.sublist
abbrev Sg:=@Array.getElem?_toList
abbrev TT:=@List.ext_getElem
abbrev TX:=@Array.toList_map
abbrev T1:=@List.drop_eq_nil_iff
abbrev T2:=@Array.size_replicate
abbrev Ut:=@List.take_left'
abbrev Uu:=@List.find?_some
abbrev VJ:=@List.length_pos_iff
abbrev Vc:=@Nat.succ_mul
abbrev Vd:=@Nat.sub_self
abbrev Ve:=@Nat.le_of_lt
abbrev Vf:=@Nat.le_of_eq
abbrev Wl:=@List.set_cons_zero
abbrev Wm:=@List.set_cons_succ
abbrev Wq:=@Array.getElem?_append_left
abbrev X3:=@List.mem_or_eq_of_mem_set
abbrev YA:=@List.mapM_toArray
abbrev YB:=@List.getElem_take
abbrev YC:=@List.getElem_drop
abbrev Y7:=@List.length_filterMap_le
abbrev AAA:=@Nat.le_mul_of_pos_right
abbrev AAB:=@List.getElem_map
abbrev AAC:=@List.getElem?_cons_zero
abbrev AAD:=@List.all_eq_true
abbrev ABk:=@Nat.sub_zero
abbrev ABm:=@List.range_succ_eq_map
abbrev ABn:=@List.drop_of_length_le
abbrev ABo:=@List.append_eq_nil_iff
abbrev AB4:=@List.range_succ
abbrev ACe:=@Array.getElem?_modify
abbrev AEY:=@Nat.mul_one
abbrev AEZ:=@List.count_le_length
abbrev AGG:=@List.replicate_succ
abbrev AGH:=@List.flatten_append
abbrev AGI:=@List.filter_eq_self
abbrev AHj:=@List.mem_cons_self
abbrev AHk:=@List.getElem_range
abbrev AHq:=@Array.toList_range
abbrev AHr:=@Array.ext'
abbrev AJ1:=@Ne.symm
abbrev AJ2:=@Nat.add_comm
abbrev AJ4:=@List.take_sublist
abbrev AJ5:=@List.flatten_cons
abbrev AJ6:=@List.filter_congr
abbrev AKE:=@Bool.true_or
theorem ox{p:Prop}(h:p:=by omega):p:=h
theorem kz{p:Prop}(h:p:=by kernel_rfl):p:=h
theorem zp{p:Prop}(h:p:=by simp):p:=h
theorem Y{α:Sort _}{a:α}:a=a:=rfl
theorem Yt:True:=⟨⟩
def nth{α:Type}:List α->Nat->AA α
 |[],_=>none|a::_,0=>some a|_::l,n+1=>nth l n
theorem Cc{α:Type}:∀(l:List α)(n:Nat),nth l n=l[n]?
 |[],n=>by simp[nth]
 |a::l,0=>rfl|a::l,n+1=>by simp[nth,Cc l n]
inductive UD where
 |other
 |bool
 |str
 |int (k:IntKind)
 |ptr (e:Nat)
 |slice (e:Nat)
 |arr (n e:Nat)
 |struct (fs:List (Nat×Nat))
structure G6 where
 size:Nat
 bytes:Nat
 RI:UD
 zero:List Value
 AOZ:Bool
def UD.agg:UD->Bool
 |.arr _ _=>true|.struct _=>true|_=>false
def AB5:TypeDesc->UD
 |.bool=>.bool|.string=>.str|.int k=>.int k|.pointer e=>.ptr e|.slice e=>.slice e|.array n e=>.arr n e|.struct fs=>.struct (fs.toList.map λf=>(f.offset,f.type))|_=>.other
def AJg(P:Program)(t:Nat):TypeDesc->Bool
 |.struct fs=> !P.stoodInHeld t&& !P.eqGuardType P.depth t&&fs.toList.all λf=>f.name != "_"|_=>true
def tyD(P:Program)(t:Nat):AA G6:=
 match P.info? t,P.underlying t with
 |some i,some d=>
  match i.zero with
  |some z=>some ⟨i.size,i.bytes,AB5 d,z.cells.toList,AJg P t d⟩|none=>none
 |_,_=>none
def ANv(P:Program):List G6:=(List.range P.types.size).map λt=>(tyD P t).getD ⟨0,0,.other,[],false⟩
def K2(P:Program)(T:List G6):Prop:=(∀t d,nth T t=some d->d.size≠0->tyD P t=some d)/\P.follows .mixedOrders=true
theorem ANy(P:Program)(T:List G6)(h:ANv P=T)(hm:P.follows .mixedOrders=true):K2 P T:=by
 subst h;refine⟨?_,hm⟩;intro t d h H;rw[Cc,ANv,EX]at h;cases z:(List.range P.types.size)[t]? with
 |none=>simp[z]at h|some x=>
  have K:x=t:=by
   have⟨h1,h2⟩:=As.1 z;simpa using h2.symm
  subst K;rw[z]at h;cases ht:tyD P x with
  |none=>simp[ht]at h;rw[<- h]at H;simp at H|some y=>simp[ht]at h;rw[h]
inductive SV where
 |v (x:Value)
 |ptr (i off:Nat)
 |TY (i off len cap:Nat)
 |el (a:AA Addr) (off:Nat)
structure Ext where
 own:Nat->Prop
 sat:World->Prop
 lt:∀{w:World}{b:Nat},sat w->own b->b<w.heap.size
 frame:∀{w w':World},(∀b,own b->w'.heap[b]? =w.heap[b]?)->sat w->sat w'
inductive OB where
 |gone
 |Bp (cs:List SV) (ty:Nat)
 |row (x:Value) (cs:List Value) (e sz:Nat)
 |ext (E:Ext)
abbrev Fr:=List (Nat×SV)
structure B7 where
 s:Nat
 c:List (Nat×Bool)
 x:SV
 r:Nat
def EF:Fr->Nat->AA SV
 |[],_=>none|(n,x)::l,s=>match Nat.beq n s with
  |true=>some x|false=>EF l s
def H7:List B7->Nat->AA B7
 |[],_=>none|e::l,s=>match Nat.beq e.s s with
  |true=>some e|false=>H7 l s
def AOi:Bool->Bool->Bool
 |true,true=>true|false,false=>true|_,_=>false
def AJP(a:Nat×Bool):List (Nat×Bool)->Bool
 |[]=>false|b::l=>match Nat.beq a.1 b.1 with
  |true=>match AOi a.2 b.2 with
   |true=>true|false=>AJP a l
  |false=>AJP a l
def ADa:List (Nat×Bool)->List (Nat×Bool)->Bool
 |[],_=>true|a::l,G=>match AJP a G with
  |true=>ADa l G|false=>false
def UU(d:Nat):List (Nat×Bool)->Bool
 |[]=>true|a::l=>match Nat.beq a.1 d with
  |true=>false|false=>UU d l
def M8(d:Nat):List B7->Bool
 |[]=>true|e::l=>match Nat.beq e.s d with
  |true=>false|false=>match Nat.beq e.r d with
   |true=>false|false=>match UU d e.c with
    |true=>M8 d l|false=>false
def Et(L:Fr)(lr:List B7):Operand->AA (List (Nat×Bool)×SV×AA Nat)
 |.const v=>some ([],.v v,none)|.func f=>some ([],.v (.func (.func f) #[] #[]),none)|.global g=>some ([],.v (.pointer (some ⟨g,0,none⟩)),none)|.tmp s=>match H7 lr s with
  |some ⟨_,c,x,r⟩=>some (c,x,some r)|none=>match EF L s with
   |some v=>some ([],v,none)|none=>none
abbrev Je:=Operand->AA (List (Nat×Bool)×SV×AA Nat)
def ev(y:Je)(G:List (Nat×Bool))(x:Operand):AA SV:=
 match y x with
 |some (c,v,_)=>match ADa c G with
  |true=>some v|false=>none
 |none=>none
def IH(all:List Oper)(lr:List B7):AA (Nat×Bool)->AA (List (Nat×Bool))
 |none=>some []|some (j,want)=>match nth all j with
  |some o=>match o.dst with
   |some s=>match H7 lr s with
    |some ⟨_,c,_,r⟩=>some ((r,want)::c)|none=>none
   |none=>none
  |none=>none
def kEq:IntKind->IntKind->Bool
 |.i8,.i8=>true|.i16,.i16=>true|.i32,.i32=>true|.i64,.i64=>true|.u8,.u8=>true|.u16,.u16=>true|.u32,.u32=>true|.u64,.u64=>true|_,_=>false
def Dy(a b:List UInt8):Bool:=Op.bytesLess a b
def APT(op:BinOp)(k:IntKind)(x y:Int):AA Value:=
 match op with
 |.add=>some (.int k (k.wrap (x+y)))|.sub=>some (.int k (k.wrap (x-y)))|.mul=>some (.int k (k.wrap (x*y)))|.eql=>some (.bool (x==y))|.neq=>some (.bool (x !=y))|.lss=>some (.bool (decide (x<y)))|.leq=>some (.bool (decide (x<=y)))|.gtr=>some (.bool (decide (y<x)))|.geq=>some (.bool (decide (y<=x)))|.and=>some (.int k (bits .and k x y))|.or=>some (.int k (bits .or k x y))|.xor=>some (.int k (bits .xor k x y))|.andNot=>some (.int k (bits .andNot k x y))|_=>none
def APG(op:BinOp)(x y:List UInt8):AA Value:=
 match op with
 |.eql=>some (.bool (x==y))|.neq=>some (.bool (x !=y))|.lss=>some (.bool (Dy x y))|.leq=>some (.bool (!Dy y x))|.gtr=>some (.bool (Dy y x))|.geq=>some (.bool (!Dy x y))|_=>none
def takeN{α:Type}:List α->Nat->Nat->AA (List α)
 |_,_,0=>some []|[],_,_+1=>none|a::l,0,n+1=>match takeN l 0 n with
  |some r=>some (a::r)|none=>none
 |_::l,o+1,n+1=>takeN l o (n+1)
def AE6(off:Nat)(fd:G6)(cs:List Value):AA Value:=
 match fd.RI.agg with
 |true=>match takeN cs off fd.size with
  |some l=>some (.agg ⟨l⟩)|none=>none
 |false=>nth cs off
def ALS(T:List G6)(f:Nat->Value->Value->AA Bool)(xs ys:List Value):List (Nat×Nat)->AA Bool
 |[]=>some true|(off,ft)::r=>match nth T ft with
  |some fd=>match fd.size with
   |0=>none|_+1=>match AE6 off fd xs,AE6 off fd ys with
    |some a,some b=>match f ft a b,ALS T f xs ys r with
     |some p,some q=>some (p&&q)|_,_=>none
    |_,_=>none
  |none=>none
def eqP(T:List G6):Nat->Nat->Value->Value->AA Bool
 |0,_,_,_=>none|n+1,t,a,b=>match nth T t with
  |some d=>match d.size with
   |0=>none|_+1=>match d.RI,a,b with
    |.bool,.bool p,.bool q=>some (p==q)|.int _,.int k x,.int z y=>match kEq k z with
     |true=>some (x==y)|false=>none
    |.str,.string ⟨⟨x⟩⟩,.string ⟨⟨y⟩⟩=>some (x==y)|.struct fs,.agg ⟨xs⟩,.agg ⟨ys⟩=>match d.AOZ with
     |true=>ALS T (eqP T n) xs ys fs|false=>none
    |_,_,_=>none
  |none=>none
def eqV(T:List G6)(op:BinOp)(t:Nat)(a b:Value):AA Value:=
 match op with
 |.eql=>match eqP T 9 t a b with
  |some r=>some (.bool r)|none=>none
 |.neq=>match eqP T 9 t a b with
  |some r=>some (.bool (!r))|none=>none
 |_=>none
def AOh(T:List G6)(op:BinOp)(t:Nat)(a b:Value):AA Value:=
 match a,b with
 |.int k x,.int z y=>match kEq k z with
  |true=>APT op k x y|false=>none
 |.string ⟨⟨x⟩⟩,.string ⟨⟨y⟩⟩=>APG op x y|.bool x,.bool y=>eqV T op t (.bool x) (.bool y)|.agg xs,.agg ys=>eqV T op t (.agg xs) (.agg ys)|_,_=>none
def APQ:UD->SV->AA Value
 |.str,.v (.string ⟨⟨l⟩⟩)=>some (.int .i64 l.length)|.slice _,.v (.slice _ n _)=>some (.int .i64 n)|.slice _,.TY _ _ n _=>some (.int .i64 n)|_,_=>none
def APe:UD->SV->AA Value
 |.slice _,.v (.slice _ _ c)=>some (.int .i64 c)|.slice _,.TY _ _ _ c=>some (.int .i64 c)|_,_=>none
def ADo(x:Bool)(y ob:Operand)(a b:SV):AA SV:=
 match a,b with
 |.v (.bool p),.v (.bool q)=>match y with
  |.const (.bool true)=>some (.v (.bool (x||q)))|_=>match ob with
   |.const (.bool false)=>some (.v (.bool (x&&p)))|_=>some (.v (.bool (if x then p else q)))
 |_,_=>none
def Oo:List SV->AA (List Value)
 |[]=>some []|.v x::l=>match Oo l with
  |some r=>some (x::r)|none=>none
 |_=>none
def APv:SV->List SV
 |.v (.agg ⟨cs⟩)=>cs.map .v|x=>[x]
def AB6{α:Type}:List α->Nat->List α->AA (List α)
 |l,0,[]=>some l|[],_,_=>none|_::l,0,v::vs=>match AB6 l 0 vs with
  |some r=>some (v::r)|none=>none
 |a::l,o+1,vs=>match AB6 l o vs with
  |some r=>some (a::r)|none=>none
def Yb(d:G6)(cs:List SV)(o:Nat):AA SV:=
 match d.RI.agg with
 |true=>match takeN cs o d.size with
  |some l=>match Oo l with
   |some r=>some (.v (.agg ⟨r⟩))|none=>none
  |none=>none
 |false=>nth cs o
def ABE(T:List G6)(t f:Nat):AA (Nat×G6):=
 match nth T t with
 |some d=>match d.size with
  |0=>none|_+1=>match d.RI with
   |.struct fs=>match nth fs f with
    |some (off,ft)=>match nth T ft with
     |some fd=>match fd.size with
      |0=>none|_+1=>some (off,fd)
     |none=>none
    |none=>none
   |_=>none
 |none=>none
def addrAt(off:Nat):SV->AA SV
 |.ptr i o=>some (.ptr i (o+off))|.el a o=>some (.el a (o+off))|.v (.pointer (some ⟨b,o,none⟩))=>some (.v (.pointer (some ⟨b,o+off,none⟩)))|_=>none
def AKs(off:Nat)(fd:G6):SV->AA SV
 |.v (.agg ⟨cs⟩)=>match AE6 off fd cs with
  |some x=>some (.v x)|none=>none
 |_=>none
def pv(T:List G6)(op:Op)(e:Operand->AA SV):AA SV:=
 match op with
 |.move x=>e x|.assign x=>e x|.binOp op t x y _=>match e x,e y with
  |some (.v a),some (.v b)=>match AOh T op t a b with
   |some r=>some (.v r)|none=>none
  |_,_=>none
 |.unOp .not _ x=>match e x with
  |some (.v (.bool b))=>some (.v (.bool (!b)))|_=>none
 |.fieldAddr t x f=>match ABE T t f with
  |some (off,_)=>match e x with
   |some a=>addrAt off a|none=>none
  |none=>none
 |.field t x f=>match ABE T t f with
  |some (off,fd)=>match e x with
   |some a=>AKs off fd a|none=>none
  |none=>none
 |.extract x i=>match e x with
  |some (.v (.tuple ⟨l⟩))=>match nth l i with
   |some y=>some (.v y)|none=>none
  |_=>none
 |.call ⟨.builtin .len,⟨[x]⟩,⟨[t]⟩⟩=>match nth T t with
  |some d=>match d.size with
   |0=>none|_+1=>match e x with
    |some a=>match APQ d.RI a with
     |some r=>some (.v r)|none=>none
    |none=>none
  |none=>none
 |.call ⟨.builtin .cap,⟨[x]⟩,⟨[t]⟩⟩=>match nth T t with
  |some d=>match d.size with
   |0=>none|_+1=>match e x with
    |some a=>match APe d.RI a with
     |some r=>some (.v r)|none=>none
    |none=>none
  |none=>none
 |.call ⟨.builtin .max,⟨[x,y]⟩,_⟩=>match e x,e y with
  |some (.v (.int k a)),some (.v (.int z b))=>match kEq k z with
   |true=>some (.v (.int k (max a b)))|false=>none
  |_,_=>none
 |.call ⟨.builtin .min,⟨[x,y]⟩,_⟩=>match e x,e y with
  |some (.v (.int k a)),some (.v (.int z b))=>match kEq k z with
   |true=>some (.v (.int k (min a b)))|false=>none
  |_,_=>none
 |.convert src dst x=>match nth T src,nth T dst with
  |some s,some d=>match s.size,d.size with
   |_+1,_+1=>match d.RI,e x with
    |.int k,some (.v (.int _ n))=>some (.v (.int k (k.wrap n)))|.str,some (.v (.string b))=>some (.v (.string b))|_,_=>none
   |_,_=>none
  |_,_=>none
 |.unOp .neg _ x=>match e x with
  |some (.v (.int k a))=>some (.v (.int k (k.wrap (0-a))))|_=>none
 |_=>none
abbrev DJ:G6:=⟨1,8,.other,[.nilFunc],true⟩
def NP:List G6:=[
 ⟨1,0,.other,[.tuple #[]],true⟩,DJ,⟨1,8,.int .i64,[.int .i64 0],true⟩,⟨1,8,.int .i64,[.int .i64 0],true⟩,⟨1,1,.bool,[.bool false],true⟩,⟨1,1,.int .u8,[.int .u8 0],true⟩,⟨1,1,.int .u8,[.int .u8 0],true⟩,⟨4,24,.struct [(0,2),(1,3),(2,4),(3,6)],[.int .i64 0,.int .i64 0,.bool false,.int .u8 0],true⟩,⟨4,24,.struct [(0,2),(1,3),(2,4),(3,6)],[.int .i64 0,.int .i64 0,.bool false,.int .u8 0],true⟩,⟨1,16,.str,[.string ⟨⟨[]⟩⟩],true⟩,⟨1,16,.str,[.string ⟨⟨[]⟩⟩],true⟩,⟨1,16,.str,[.string ⟨⟨[]⟩⟩],true⟩,⟨1,8,.int .u64,[.int .u64 0],true⟩,⟨2,24,.struct [(0,9),(1,12)],[.string ⟨⟨[]⟩⟩,.int .u64 0],false⟩,⟨2,24,.struct [(0,9),(1,12)],[.string ⟨⟨[]⟩⟩,.int .u64 0],false⟩,⟨1,8,.ptr 372,[.pointer none],true⟩,⟨1,8,.ptr 375,[.pointer none],true⟩,⟨1,8,.ptr 383,[.pointer none],true⟩,⟨1,8,.struct [(0,17)],[.pointer none],false⟩,⟨1,8,.struct [(0,17)],[.pointer none],false⟩,⟨1,16,.other,[.nilIface],true⟩,⟨1,4,.int .i32,[.int .i32 0],true⟩,⟨1,24,.slice 191,[.slice none 0 0],true⟩,⟨1,24,.slice 54,[.slice none 0 0],true⟩,⟨2,32,.struct [(0,2),(1,23)],[.int .i64 0,.slice none 0 0],true⟩,⟨2,32,.struct [(0,2),(1,23)],[.int .i64 0,.slice none 0 0],true⟩,⟨1,24,.slice 62,[.slice none 0 0],true⟩,⟨1,24,.slice 41,[.slice none 0 0],true⟩,DJ,DJ,DJ,⟨1,24,.slice 66,[.slice none 0 0],true⟩,DJ,⟨1,8,.int .i64,[.int .i64 0],true⟩,⟨1,0,.other,[.tuple #[.agg #[.int .i64 0,.slice none 0 0],.slice none 0 0,.int .i64 0]],true⟩,DJ,⟨6,56,.struct [(0,3),(1,3),(2,3),(3,3),(4,3),(5,9)],[.int .i64 0,.int .i64 0,.int .i64 0,.int .i64 0,.int .i64 0,.string ⟨⟨[]⟩⟩],true⟩,⟨6,56,.struct [(0,3),(1,3),(2,3),(3,3),(4,3),(5,9)],[.int .i64 0,.int .i64 0,.int .i64 0,.int .i64 0,.int .i64 0,.string ⟨⟨[]⟩⟩],true⟩,⟨1,24,.slice 132,[.slice none 0 0],true⟩,⟨1,24,.slice 3,[.slice none 0 0],true⟩,⟨8,104,.struct [(0,37),(6,38),(7,39)],[.int .i64 0,.int .i64 0,.int .i64 0,.int .i64 0,.int .i64 0,.string ⟨⟨[]⟩⟩,.slice none 0 0,.slice none 0 0],true⟩,⟨8,104,.struct [(0,37),(6,38),(7,39)],[.int .i64 0,.int .i64 0,.int .i64 0,.int .i64 0,.int .i64 0,.string ⟨⟨[]⟩⟩,.slice none 0 0,.slice none 0 0],true⟩,⟨1,24,.slice 110,[.slice none 0 0],true⟩,⟨1,0,.other,[.tuple #[.slice none 0 0,.slice none 0 0]],true⟩,DJ,⟨1,0,.other,[.tuple #[.slice none 0 0,.slice none 0 0]],true⟩,DJ,⟨1,0,.other,[.tuple #[.slice none 0 0,.int .i64 0]],true⟩,DJ,DJ,DJ,DJ,DJ,⟨5,56,.struct [(0,3),(1,9),(2,3),(3,3),(4,9)],[.int .i64 0,.string ⟨⟨[]⟩⟩,.int .i64 0,.int .i64 0,.string ⟨⟨[]⟩⟩],true⟩,⟨5,56,.struct [(0,3),(1,9),(2,3),(3,3),(4,9)],[.int .i64 0,.string ⟨⟨[]⟩⟩,.int .i64 0,.int .i64 0,.string ⟨⟨[]⟩⟩],true⟩,DJ,DJ,DJ,DJ,⟨3,32,.struct [(0,3),(1,2),(2,9)],[.int .i64 0,.int .i64 0,.string ⟨⟨[]⟩⟩],true⟩,⟨3,32,.struct [(0,3),(1,2),(2,9)],[.int .i64 0,.int .i64 0,.string ⟨⟨[]⟩⟩],true⟩,⟨4,48,.struct [(0,9),(1,60)],[.string ⟨⟨[]⟩⟩,.int .i64 0,.int .i64 0,.string ⟨⟨[]⟩⟩],true⟩,⟨4,48,.struct [(0,9),(1,60)],[.string ⟨⟨[]⟩⟩,.int .i64 0,.int .i64 0,.string ⟨⟨[]⟩⟩],true⟩,⟨1,0,.other,[.tuple #[.agg #[.int .i64 0,.slice none 0 0],.int .i64 0]],true⟩,DJ,⟨2,32,.struct [(0,3),(1,26)],[.int .i64 0,.slice none 0 0],true⟩,⟨2,32,.struct [(0,3),(1,26)],[.int .i64 0,.slice none 0 0],true⟩,DJ,DJ,DJ,DJ,DJ,⟨9,112,.struct [(0,25),(2,31),(3,37)],[.int .i64 0,.slice none 0 0,.slice none 0 0,.int .i64 0,.int .i64 0,.int .i64 0,.int .i64 0,.int .i64 0,.string ⟨⟨[]⟩⟩],true⟩,⟨9,112,.struct [(0,25),(2,31),(3,37)],[.int .i64 0,.slice none 0 0,.slice none 0 0,.int .i64 0,.int .i64 0,.int .i64 0,.int .i64 0,.int .i64 0,.string ⟨⟨[]⟩⟩],true⟩,⟨4,32,.arr 4 70,[.nilFunc,.nilFunc,.nilFunc,.nilFunc],true⟩,⟨1,8,.ptr 88,[.pointer none],true⟩,DJ,⟨1,24,.slice 81,[.slice none 0 0],true⟩,DJ,DJ,⟨3,24,.struct [(0,79),(1,3),(2,3)],[.nilFunc,.int .i64 0,.int .i64 0],true⟩,⟨3,24,.struct [(0,79),(1,3),(2,3)],[.nilFunc,.int .i64 0,.int .i64 0],true⟩,DJ,⟨1,24,.slice 130,[.slice none 0 0],true⟩,⟨1,24,.slice 39,[.slice none 0 0],true⟩,⟨1,24,.slice 89,[.slice none 0 0],true⟩,⟨1,24,.slice 183,[.slice none 0 0],true⟩,⟨10,224,.struct [(0,22),(1,25),(3,38),(4,83),(5,84),(6,84),(7,85),(8,86),(9,42)],[.slice none 0 0,.int .i64 0,.slice none 0 0,.slice none 0 0,.slice none 0 0,.slice none 0 0,.slice none 0 0,.slice none 0 0,.slice none 0 0,.slice none 0 0],true⟩,⟨10,224,.struct [(0,22),(1,25),(3,38),(4,83),(5,84),(6,84),(7,85),(8,86),(9,42)],[.slice none 0 0,.int .i64 0,.slice none 0 0,.slice none 0 0,.slice none 0 0,.slice none 0 0,.slice none 0 0,.slice none 0 0,.slice none 0 0,.slice none 0 0],true⟩,⟨1,8,.ptr 96,[.pointer none],true⟩,⟨1,24,.slice 173,[.slice none 0 0],true⟩,⟨1,24,.slice 218,[.slice none 0 0],true⟩,⟨2,48,.struct [(0,90),(1,91)],[.slice none 0 0,.slice none 0 0],true⟩,⟨2,48,.struct [(0,90),(1,91)],[.slice none 0 0,.slice none 0 0],true⟩,⟨1,24,.slice 4,[.slice none 0 0],true⟩,⟨7,152,.struct [(0,66),(2,93),(4,86),(5,94),(6,94)],[.int .i64 0,.slice none 0 0,.slice none 0 0,.slice none 0 0,.slice none 0 0,.slice none 0 0,.slice none 0 0],true⟩,⟨7,152,.struct [(0,66),(2,93),(4,86),(5,94),(6,94)],[.int .i64 0,.slice none 0 0,.slice none 0 0,.slice none 0 0,.slice none 0 0,.slice none 0 0,.slice none 0 0],true⟩,DJ,⟨1,8,.struct [(0,97)],[.nilFunc],true⟩,⟨1,8,.struct [(0,97)],[.nilFunc],true⟩,DJ,DJ,DJ,DJ,DJ,⟨1,24,.slice 60,[.slice none 0 0],true⟩,⟨3,40,.struct [(0,3),(1,3),(2,105)],[.int .i64 0,.int .i64 0,.slice none 0 0],true⟩,⟨3,40,.struct [(0,3),(1,3),(2,105)],[.int .i64 0,.int .i64 0,.slice none 0 0],true⟩,⟨1,24,.slice 9,[.slice none 0 0],true⟩,⟨8,136,.struct [(0,107),(3,108),(4,108),(5,26),(6,9),(7,3)],[.int .i64 0,.int .i64 0,.slice none 0 0,.slice none 0 0,.slice none 0 0,.slice none 0 0,.string ⟨⟨[]⟩⟩,.int .i64 0],true⟩,⟨8,136,.struct [(0,107),(3,108),(4,108),(5,26),(6,9),(7,3)],[.int .i64 0,.int .i64 0,.slice none 0 0,.slice none 0 0,.slice none 0 0,.slice none 0 0,.string ⟨⟨[]⟩⟩,.int .i64 0],true⟩,DJ,DJ,DJ,DJ,DJ,DJ,DJ,DJ,DJ,DJ,DJ,DJ,⟨2,32,.struct [(0,9),(1,9)],[.string ⟨⟨[]⟩⟩,.string ⟨⟨[]⟩⟩],true⟩,⟨2,32,.struct [(0,9),(1,9)],[.string ⟨⟨[]⟩⟩,.string ⟨⟨[]⟩⟩],true⟩,⟨7,88,.struct [(0,3),(1,3),(2,3),(3,124),(5,26),(6,4)],[.int .i64 0,.int .i64 0,.int .i64 0,.string ⟨⟨[]⟩⟩,.string ⟨⟨[]⟩⟩,.slice none 0 0,.bool false],true⟩,⟨7,88,.struct [(0,3),(1,3),(2,3),(3,124),(5,26),(6,4)],[.int .i64 0,.int .i64 0,.int .i64 0,.string ⟨⟨[]⟩⟩,.string ⟨⟨[]⟩⟩,.slice none 0 0,.bool false],true⟩,⟨1,0,.other,[.tuple #[.agg #[.int .i64 0,.slice none 0 0],.slice none 0 0,.agg #[.int .i64 0,.int .i64 0,.int .i64 0,.string ⟨⟨[]⟩⟩,.string ⟨⟨[]⟩⟩,.slice none 0 0,.bool false],.int .i64 0]],true⟩,DJ,⟨3,56,.struct [(0,4),(1,108),(2,108)],[.bool false,.slice none 0 0,.slice none 0 0],true⟩,⟨3,56,.struct [(0,4),(1,108),(2,108)],[.bool false,.slice none 0 0,.slice none 0 0],true⟩,⟨7,112,.struct [(0,2),(1,9),(2,105),(3,130),(6,3)],[.int .i64 0,.string ⟨⟨[]⟩⟩,.slice none 0 0,.bool false,.slice none 0 0,.slice none 0 0,.int .i64 0],true⟩,⟨7,112,.struct [(0,2),(1,9),(2,105),(3,130),(6,3)],[.int .i64 0,.string ⟨⟨[]⟩⟩,.slice none 0 0,.bool false,.slice none 0 0,.slice none 0 0,.int .i64 0],true⟩,DJ,DJ,DJ,⟨1,0,.other,[.tuple #[.agg #[.slice none 0 0,.slice none 0 0],.int .i64 0]],true⟩,DJ,DJ,DJ,DJ,⟨1,0,.other,[.tuple #[.slice none 0 0,.agg #[.int .i64 0,.int .i64 0,.slice none 0 0,.slice none 0 0,.slice none 0 0,.slice none 0 0,.string ⟨⟨[]⟩⟩,.int .i64 0]]],true⟩,DJ,DJ,DJ,DJ,DJ,DJ,DJ,DJ,DJ,⟨1,8,.int .u64,[.int .u64 0],true⟩,DJ,DJ,DJ,DJ,DJ,⟨1,0,.other,[.tuple #[.int .i64 0,.int .i64 0]],true⟩,DJ,⟨1,0,.other,[.tuple #[.agg #[.string ⟨⟨[]⟩⟩,.string ⟨⟨[]⟩⟩],.int .i64 0]],true⟩,DJ,DJ,DJ,DJ,DJ,DJ,DJ,DJ,DJ,DJ,DJ,DJ,⟨2,16,.struct [(0,3),(1,4)],[.int .i64 0,.bool false],true⟩,⟨2,16,.struct [(0,3),(1,4)],[.int .i64 0,.bool false],true⟩,DJ,DJ,⟨1,8,.ptr 93,[.pointer none],true⟩,DJ,DJ,DJ,DJ,DJ,⟨5,72,.struct [(0,3),(1,3),(2,3),(3,108),(4,26)],[.int .i64 0,.int .i64 0,.int .i64 0,.slice none 0 0,.slice none 0 0],true⟩,⟨5,72,.struct [(0,3),(1,3),(2,3),(3,108),(4,26)],[.int .i64 0,.int .i64 0,.int .i64 0,.slice none 0 0,.slice none 0 0],true⟩,DJ,DJ,DJ,DJ,⟨1,24,.slice 240,[.slice none 0 0],true⟩,⟨1,24,.slice 267,[.slice none 0 0],true⟩,⟨3,64,.struct [(0,9),(1,188),(2,189)],[.string ⟨⟨[]⟩⟩,.slice none 0 0,.slice none 0 0],true⟩,⟨3,64,.struct [(0,9),(1,188),(2,189)],[.string ⟨⟨[]⟩⟩,.slice none 0 0,.slice none 0 0],true⟩,⟨1,0,.other,[.tuple #[.agg #[.string ⟨⟨[]⟩⟩,.slice none 0 0,.slice none 0 0],.bool false]],true⟩,DJ,DJ,DJ,DJ,DJ,DJ,⟨1,8,.int .i64,[.int .i64 0],true⟩,⟨1,0,.other,[.tuple #[.int .i64 0,.int .i64 0]],true⟩,DJ,DJ,DJ,DJ,⟨1,0,.other,[.tuple #[.int .i64 0,.bool false]],true⟩,DJ,DJ,⟨1,4,.int .u32,[.int .u32 0],true⟩,DJ,⟨1,8,.int .u64,[.int .u64 0],true⟩,DJ,DJ,DJ,⟨1,24,.slice 108,[.slice none 0 0],true⟩,DJ,DJ,⟨2,40,.struct [(0,9),(1,90)],[.string ⟨⟨[]⟩⟩,.slice none 0 0],true⟩,⟨2,40,.struct [(0,9),(1,90)],[.string ⟨⟨[]⟩⟩,.slice none 0 0],true⟩,DJ,DJ,DJ,DJ,DJ,DJ,DJ,DJ,DJ,DJ,DJ,DJ,DJ,DJ,DJ,DJ,DJ,DJ,⟨1,8,.ptr 243,[.pointer none],true⟩,DJ,⟨2,24,.struct [(0,9),(1,3)],[.string ⟨⟨[]⟩⟩,.int .i64 0],true⟩,⟨2,24,.struct [(0,9),(1,3)],[.string ⟨⟨[]⟩⟩,.int .i64 0],true⟩,⟨1,8,.other,[.map none],true⟩,⟨14,232,.struct [(0,26),(1,130),(4,241),(5,241),(6,110)],[.slice none 0 0,.bool false,.slice none 0 0,.slice none 0 0,.map none,.map none,.int .i64 0,.int .i64 0,.slice none 0 0,.slice none 0 0,.slice none 0 0,.slice none 0 0,.string ⟨⟨[]⟩⟩,.int .i64 0],true⟩,⟨14,232,.struct [(0,26),(1,130),(4,241),(5,241),(6,110)],[.slice none 0 0,.bool false,.slice none 0 0,.slice none 0 0,.map none,.map none,.int .i64 0,.int .i64 0,.slice none 0 0,.slice none 0 0,.slice none 0 0,.slice none 0 0,.string ⟨⟨[]⟩⟩,.int .i64 0],true⟩,DJ,⟨4,56,.struct [(0,107),(3,9)],[.int .i64 0,.int .i64 0,.slice none 0 0,.string ⟨⟨[]⟩⟩],true⟩,⟨4,56,.struct [(0,107),(3,9)],[.int .i64 0,.int .i64 0,.slice none 0 0,.string ⟨⟨[]⟩⟩],true⟩,⟨1,0,.other,[.tuple #[.agg #[.int .i64 0,.int .i64 0,.slice none 0 0,.string ⟨⟨[]⟩⟩],.bool false]],true⟩,DJ,DJ,⟨1,8,.int .u64,[.int .u64 0],true⟩,DJ,DJ,DJ,⟨1,8,.ptr 3,[.pointer none],true⟩,DJ,DJ,DJ,DJ,DJ,⟨4,32,.arr 4 3,[.int .i64 0,.int .i64 0,.int .i64 0,.int .i64 0],true⟩,⟨4,32,.arr 4 3,[.int .i64 0,.int .i64 0,.int .i64 0,.int .i64 0],true⟩,DJ,⟨1,24,.slice 265,[.slice none 0 0],true⟩,⟨4,56,.struct [(0,3),(1,2),(2,9),(3,263)],[.int .i64 0,.int .i64 0,.string ⟨⟨[]⟩⟩,.slice none 0 0],true⟩,⟨4,56,.struct [(0,3),(1,2),(2,9),(3,263)],[.int .i64 0,.int .i64 0,.string ⟨⟨[]⟩⟩,.slice none 0 0],true⟩,⟨13,192,.struct [(0,3),(1,9),(2,3),(3,265),(7,265),(11,189),(12,189)],[.int .i64 0,.string ⟨⟨[]⟩⟩,.int .i64 0,.int .i64 0,.int .i64 0,.string ⟨⟨[]⟩⟩,.slice none 0 0,.int .i64 0,.int .i64 0,.string ⟨⟨[]⟩⟩,.slice none 0 0,.slice none 0 0,.slice none 0 0],true⟩,⟨13,192,.struct [(0,3),(1,9),(2,3),(3,265),(7,265),(11,189),(12,189)],[.int .i64 0,.string ⟨⟨[]⟩⟩,.int .i64 0,.int .i64 0,.int .i64 0,.string ⟨⟨[]⟩⟩,.slice none 0 0,.int .i64 0,.int .i64 0,.string ⟨⟨[]⟩⟩,.slice none 0 0,.slice none 0 0,.slice none 0 0],true⟩,DJ,⟨1,8,.ptr 250,[.pointer none],true⟩,⟨1,0,.other,[.tuple #[.int .i64 0,.int .i64 0]],true⟩,DJ,DJ,DJ,DJ,⟨1,8,.other,[.map none],true⟩,⟨1,0,.other,[.tuple #[.map none,.int .i64 0]],true⟩,DJ,⟨1,0,.other,[.tuple #[.int .i64 0,.int .i64 0,.bool false]],true⟩,DJ,DJ,DJ,DJ,DJ,DJ,DJ,DJ,DJ,⟨1,8,.ptr 291,[.pointer none],true⟩,⟨1,8,.other,[.map none],true⟩,⟨3,24,.struct [(0,275),(1,289),(2,275)],[.map none,.map none,.map none],true⟩,⟨3,24,.struct [(0,275),(1,289),(2,275)],[.map none,.map none,.map none],true⟩,DJ,DJ,DJ,DJ,DJ,DJ,DJ,DJ,DJ,DJ,⟨1,0,.other,[.tuple #[.agg #[.int .i64 0,.int .i64 0,.string ⟨⟨[]⟩⟩],.bool false]],true⟩,DJ,DJ,DJ,DJ,DJ,DJ,DJ,DJ,DJ,DJ,DJ,DJ,DJ,DJ,⟨1,0,.other,[.tuple #[.int .i64 0,.int .i64 0]],true⟩,DJ,DJ,DJ,DJ,DJ,DJ,DJ,DJ,DJ,DJ,DJ,⟨1,8,.ptr 331,[.pointer none],true⟩,⟨3,24,.struct [(0,3),(1,310),(2,311)],[.int .i64 0,.nilFunc,.nilFunc],true⟩,⟨3,24,.struct [(0,3),(1,310),(2,311)],[.int .i64 0,.nilFunc,.nilFunc],true⟩,DJ,⟨6,6,.struct [(0,4),(1,4),(2,4),(3,4),(4,4),(5,4)],[.bool false,.bool false,.bool false,.bool false,.bool false,.bool false],true⟩,⟨6,6,.struct [(0,4),(1,4),(2,4),(3,4),(4,4),(5,4)],[.bool false,.bool false,.bool false,.bool false,.bool false,.bool false],true⟩,⟨1,0,.other,[.tuple #[.agg #[.bool false,.bool false,.bool false,.bool false,.bool false,.bool false],.bool false]],true⟩,DJ,DJ,DJ,⟨1,0,.other,[.tuple #[.int .i64 0,.int .i64 0,.int .i64 0]],true⟩,DJ,DJ,DJ,DJ,DJ,DJ,DJ,DJ,DJ,DJ,DJ,⟨6,64,.struct [(0,60),(3,60)],[.int .i64 0,.int .i64 0,.string ⟨⟨[]⟩⟩,.int .i64 0,.int .i64 0,.string ⟨⟨[]⟩⟩],true⟩,⟨6,64,.struct [(0,60),(3,60)],[.int .i64 0,.int .i64 0,.string ⟨⟨[]⟩⟩,.int .i64 0,.int .i64 0,.string ⟨⟨[]⟩⟩],true⟩,DJ,DJ,DJ,⟨24,24,.arr 24 5,[.int .u8 0,.int .u8 0,.int .u8 0,.int .u8 0,.int .u8 0,.int .u8 0,.int .u8 0,.int .u8 0,.int .u8 0,.int .u8 0,.int .u8 0,.int .u8 0,.int .u8 0,.int .u8 0,.int .u8 0,.int .u8 0,.int .u8 0,.int .u8 0,.int .u8 0,.int .u8 0,.int .u8 0,.int .u8 0,.int .u8 0,.int .u8 0],true⟩,DJ,⟨1,24,.slice 5,[.slice none 0 0],true⟩,⟨1,0,.other,[.tuple #[.slice none 0 0,.string ⟨⟨[]⟩⟩]],true⟩,DJ,DJ,DJ,DJ,DJ,⟨20,160,.arr 20 210,[.int .u64 0,.int .u64 0,.int .u64 0,.int .u64 0,.int .u64 0,.int .u64 0,.int .u64 0,.int .u64 0,.int .u64 0,.int .u64 0,.int .u64 0,.int .u64 0,.int .u64 0,.int .u64 0,.int .u64 0,.int .u64 0,.int .u64 0,.int .u64 0,.int .u64 0,.int .u64 0],true⟩,⟨65,65,.arr 65 5,[.int .u8 0,.int .u8 0,.int .u8 0,.int .u8 0,.int .u8 0,.int .u8 0,.int .u8 0,.int .u8 0,.int .u8 0,.int .u8 0,.int .u8 0,.int .u8 0,.int .u8 0,.int .u8 0,.int .u8 0,.int .u8 0,.int .u8 0,.int .u8 0,.int .u8 0,.int .u8 0,.int .u8 0,.int .u8 0,.int .u8 0,.int .u8 0,.int .u8 0,.int .u8 0,.int .u8 0,.int .u8 0,.int .u8 0,.int .u8 0,.int .u8 0,.int .u8 0,.int .u8 0,.int .u8 0,.int .u8 0,.int .u8 0,.int .u8 0,.int .u8 0,.int .u8 0,.int .u8 0,.int .u8 0,.int .u8 0,.int .u8 0,.int .u8 0,.int .u8 0,.int .u8 0,.int .u8 0,.int .u8 0,.int .u8 0,.int .u8 0,.int .u8 0,.int .u8 0,.int .u8 0,.int .u8 0,.int .u8 0,.int .u8 0,.int .u8 0,.int .u8 0,.int .u8 0,.int .u8 0,.int .u8 0,.int .u8 0,.int .u8 0,.int .u8 0,.int .u8 0],true⟩,DJ,⟨32,32,.arr 32 5,[.int .u8 0,.int .u8 0,.int .u8 0,.int .u8 0,.int .u8 0,.int .u8 0,.int .u8 0,.int .u8 0,.int .u8 0,.int .u8 0,.int .u8 0,.int .u8 0,.int .u8 0,.int .u8 0,.int .u8 0,.int .u8 0,.int .u8 0,.int .u8 0,.int .u8 0,.int .u8 0,.int .u8 0,.int .u8 0,.int .u8 0,.int .u8 0,.int .u8 0,.int .u8 0,.int .u8 0,.int .u8 0,.int .u8 0,.int .u8 0,.int .u8 0,.int .u8 0],true⟩,⟨64,64,.arr 64 5,[.int .u8 0,.int .u8 0,.int .u8 0,.int .u8 0,.int .u8 0,.int .u8 0,.int .u8 0,.int .u8 0,.int .u8 0,.int .u8 0,.int .u8 0,.int .u8 0,.int .u8 0,.int .u8 0,.int .u8 0,.int .u8 0,.int .u8 0,.int .u8 0,.int .u8 0,.int .u8 0,.int .u8 0,.int .u8 0,.int .u8 0,.int .u8 0,.int .u8 0,.int .u8 0,.int .u8 0,.int .u8 0,.int .u8 0,.int .u8 0,.int .u8 0,.int .u8 0,.int .u8 0,.int .u8 0,.int .u8 0,.int .u8 0,.int .u8 0,.int .u8 0,.int .u8 0,.int .u8 0,.int .u8 0,.int .u8 0,.int .u8 0,.int .u8 0,.int .u8 0,.int .u8 0,.int .u8 0,.int .u8 0,.int .u8 0,.int .u8 0,.int .u8 0,.int .u8 0,.int .u8 0,.int .u8 0,.int .u8 0,.int .u8 0,.int .u8 0,.int .u8 0,.int .u8 0,.int .u8 0,.int .u8 0,.int .u8 0,.int .u8 0,.int .u8 0],true⟩,DJ,⟨4,40,.struct [(0,17),(1,17),(2,17),(3,9)],[.pointer none,.pointer none,.pointer none,.string ⟨⟨[]⟩⟩],false⟩,⟨4,40,.struct [(0,17),(1,17),(2,17),(3,9)],[.pointer none,.pointer none,.pointer none,.string ⟨⟨[]⟩⟩],false⟩,⟨0,0,.arr 0 16,[],true⟩,⟨0,0,.struct [(0,373)],[],false⟩,⟨0,0,.struct [(0,373)],[],false⟩,⟨1,1,.int .u8,[.int .u8 0],true⟩,⟨1,1,.int .u8,[.int .u8 0],true⟩,DJ,⟨1,8,.ptr 5,[.pointer none],true⟩,⟨1,4,.int .i32,[.int .i32 0],true⟩,⟨1,4,.int .i32,[.int .i32 0],true⟩,⟨11,48,.struct [(0,12),(1,12),(2,208),(3,376),(4,5),(5,5),(6,377),(7,378),(8,379),(9,380),(10,381)],[.int .u64 0,.int .u64 0,.int .u32 0,.int .u8 0,.int .u8 0,.int .u8 0,.int .u8 0,.nilFunc,.pointer none,.int .i32 0,.int .i32 0],false⟩,⟨11,48,.struct [(0,12),(1,12),(2,208),(3,376),(4,5),(5,5),(6,377),(7,378),(8,379),(9,380),(10,381)],[.int .u64 0,.int .u64 0,.int .u32 0,.int .u8 0,.int .u8 0,.int .u8 0,.int .u8 0,.nilFunc,.pointer none,.int .i32 0,.int .i32 0],false⟩,⟨1,8,.other,[.pointer none],true⟩]
set_option maxRecDepth 100000 in
theorem AP2:ANv Tryz.prog=NP:=kz
theorem Aa:K2 Tryz.prog NP:=ANy _ _ AP2 kz
variable {P:Program} {t e n off f i j y sz n0 nt o' c:Nat} {bh:List (Nat×Nat)} {aa:G6} {cs args vs:List Value} {r:Bool} {M M' X:List OB} {Q Q':Exit->Act->World->Prop} {ends az env env' aP mask:List Nat} {oi o aE:Oper} {listed:List Bool} {aJ:Op} {w':World} {L L':Fr} {lr lr':List B7} {G aG:List (Nat×Bool)} {ag:Je} {all rest bz b0:List Oper} {x an:Value} {ak:List SV} {T:List G6} {af aw:Operand} {ρ:Operand->Value} {bf:List (Nat×Operand)} {K:Act->World->Prop} {aj:Code} {bj:SV} {fn:Func} {rs:List ResultVar}
def Bm(env:List Nat)(i:Nat):Nat:=(env[i]?).getD 0
def den(env:List Nat):SV->Value
 |.v x=>x|.ptr i off=>.pointer (some ⟨Bm env i,off,none⟩)|.TY i off len cap=>.slice (some ⟨Bm env i,off,none⟩) len cap|.el a off=>.pointer (a.map λp=>⟨p.block,p.off+off,none⟩)
def C6(M:List OB)(i:Nat):Prop:=∃o,M[i]? =some o/\o≠ .gone
def SV.ok(M:List OB):SV->Prop
 |.v _=>True|.ptr i _=>C6 M i|.TY i _ _ _=>C6 M i|.el a _=>∃b o,a=some ⟨b,o,none⟩
theorem Qe{d:G6}(h:tyD P t=some d):∃i y z,P.info? t=some i/\P.underlying t=some y/\i.zero=some z/\d=⟨i.size,i.bytes,AB5 y,z.cells.toList,AJg P t y⟩:=by
 unfold tyD at h;split at h
 ·grind
 ·simp at h
section
variable {P:Program} {T:List G6} (hT:K2 P T) (w:World)
include hT
theorem Lf{d:G6}(h:nth T t=some d)(y:d.size≠0):(sizeOf t).run P w=.ok d.size w:=by
 obtain⟨i,H,z,h1,h2,h3,rfl⟩:=Qe (hT.1 t d h y);simp[sizeOf,typeInfo,h1]
theorem ZF{d:G6}(h:nth T t=some d)(H:d.size≠0):∃y,P.underlying t=some y/\AB5 y=d.RI/\AJg P t y=d.AOZ:=by
 obtain⟨i,y,z,h1,h2,h3,rfl⟩:=Qe (hT.1 t d h H);exact⟨y,h2,Y,Y⟩
theorem AAj{d:G6}(h:nth T t=some d)(y:d.size≠0):(isAgg t).run P w=.ok d.RI.agg w:=by
 have⟨z,h2,h3,_⟩:=ZF hT h y;unfold isAgg;rw[Sem.run_bind,run_underlying h2 w];rw[<- h3];cases z<;>simp[AB5,UD.agg]
theorem AEt{d:G6}(h:nth T t=some d)(y:d.size≠0)(hu:d.RI=.str):P.underlying t=some .string:=by
 have⟨z,h2,h3,_⟩:=ZF hT h y;rw[hu]at h3;cases z<;>simp[AB5]at h3;exact h2
theorem ANz{d:G6}(h:nth T t=some d)(y:d.size≠0)(hu:d.RI=.bool):P.underlying t=some .bool:=by
 have⟨z,h2,h3,_⟩:=ZF hT h y;rw[hu]at h3;cases z<;>simp[AB5]at h3;exact h2
theorem AKW{d:G6}{k:IntKind}(h:nth T t=some d)(y:d.size≠0)(hu:d.RI=.int k):P.underlying t=some (.int k):=by
 have⟨z,h2,h3,_⟩:=ZF hT h y;rw[hu]at h3;cases z<;>simp[AB5]at h3;subst h3;exact h2
theorem RM{d:G6}(h:nth T t=some d)(y:d.size≠0)(hu:d.RI=.slice e):P.underlying t=some (.slice e):=by
 have⟨z,h2,h3,_⟩:=ZF hT h y;rw[hu]at h3;cases z<;>simp[AB5]at h3;subst h3;exact h2
theorem ANY{d:G6}(h:nth T t=some d)(y:d.size≠0)(hu:d.RI=.arr n e):P.underlying t=some (.array n e):=by
 have⟨z,h2,h3,_⟩:=ZF hT h y;rw[hu]at h3;cases z<;>simp[AB5]at h3;obtain⟨rfl,rfl⟩:=h3;exact h2
theorem Wy{d:G6}(h:nth T t=some d)(y:d.size≠0)(hu:d.RI=.struct bh):∃F:Array Field,P.underlying t=some (.struct F)/\bh=F.toList.map (λf=>(f.offset,f.type))/\AJg P t (.struct F)=d.AOZ:=by
 have⟨z,h2,h3,H⟩:=ZF hT h y;rw[hu]at h3;cases z<;>simp[AB5]at h3;exact⟨_,h2,h3.symm,H⟩
end
theorem Yf:∀{k y:IntKind},kEq k y=true->k=y:=by
 intro k y h;cases k<;>cases y<;>first|rfl|simp[kEq]at h
theorem bytesLess_eq:∀(x y:List UInt8),Op.bytesLess x y=decide (x<y)
 |[],[]=>by simp[Op.bytesLess]
 |_::_,[]=>by simp[Op.bytesLess]
 |[],_::_=>by simp[Op.bytesLess]
 |a::x,b::y=>by
  rw[Op.bytesLess,bytesLess_eq x y];simp only[List.cons_lt_cons_iff];by_cases h1:a<b<;>by_cases h2:a=b<;>by_cases h3:x<y<;>simp[h1,h2,h3]
theorem AN6(a b:List UInt8):Dy a b=decide (a<b):=bytesLess_eq a b
theorem AAn(l:List UInt8):(⟨⟨l⟩⟩:ByteArray).toList=l:=by rw[Lib.toList_data]
theorem AOO(a b:List UInt8):(Op.bytesLess a b||a==b)= !Dy b a:=by
 rw[bytesLess_eq,AN6];rw[ET];simp only[ES,AZ,B1,Cb,Ai];constructor
 ·grind
 ·grind
theorem AAg{α:Type}:∀(l:List α)(o n:Nat)(r:List α),takeN l o n=some r->r=(l.drop o).take n/\o+n<=l.length\/n=0/\r=[]:=by
 intro l
 induction l with
 |nil=>
  intro o n r h;cases n with
  |zero=>simp[takeN]at h;exact .inr ⟨Y,h⟩|succ n=>simp[takeN]at h
 |cons a l y=>
  intro o n r h;cases n with
  |zero=>simp[takeN]at h;exact .inr ⟨Y,h⟩|succ n=>
   cases o with
   |zero=>
    simp only[takeN]at h;split at h
    ·grind
    ·simp at h
   |succ o=>
    simp only[takeN]at h;rcases y o (n+1) r h with⟨h1,h2⟩|⟨h1,h2⟩
    ·grind
    ·simp at h1
theorem ACg{α:Type}{l:List α}{o:Nat}{r:List α}(h:takeN l o n=some r)(y:n≠0):r=(l.drop o).take n/\o+n<=l.length:=by
 rcases AAg l o n r h with h1|h1
 ·exact h1
 ·grind
section
variable {P:Program} {T:List G6} (hT:K2 P T) (w:World)
include hT
theorem WI(h:nth T t=some aa)(z:aa.size≠0){r:Value}(hp:AE6 off aa cs=some r):(part t ⟨cs⟩ off).run P w=.ok r w:=by
 unfold AE6 at hp;simp only[part,Sem.run_bind,AAj hT w h z,Result.andThen_ok];split at hp
 ·rename_i y;split at hp
  ·rename_i l hl;simp only[AE]at hp;subst hp;have⟨h1,h2⟩:=ACg hl z;simp only[y,IW,Sem.run_bind,Lf hT w h z,Result.andThen_ok,Sem.run_pure,h1]
   congr 2
   apply AHr;simp[List.take_drop]
  ·simp at hp
 ·rename_i y;rw[Cc]at hp;simp only[y,GK,if_false];have:(⟨cs⟩:Array Value)[off]? =some r:=by grind
  rw[this];rfl
theorem AHJ(f:Nat->Value->Value->AA Bool)(dep:Nat)(K:∀t a b r,f t a b=some r->∀w,(Op.equalIn dep t a b).run P w=.ok r w)(xs ys:List Value):∀(F:List Field)(r:Bool),(F.all λf=>f.name != "_")=true->ALS T f xs ys (F.map λf=>(f.offset,f.type))=some r->(Op.eqFields dep ⟨xs⟩ ⟨ys⟩ F).run P w=.ok r w:=by
 intro F
 induction F with
 |nil=>intro r _ h;simp[ALS]at h;subst h;rfl|cons f F N=>
  intro r z h;simp only[List.all_cons,Aq,bne_iff_ne]at z;simp only[B8,ALS]at h;split at h
  ·rename_i fd y;split at h
   ·simp at h
   ·rename_i n O;split at h
    ·rename_i a b W X;split at h
     ·rename_i p q hp Z;simp only[AE]at h;subst h;have H:fd.size≠0:=ox
      have e:=N q z.2 Z;rw[Op.eqFields,if_pos z.1];simp only[Sem.run_bind,WI hT w y H W,WI hT w y H X,Result.andThen_ok,K _ _ _ _ hp,Sem.run_ite,e];cases p<;>simp
     ·simp at h
    ·simp at h
  ·simp at h
theorem VD:∀(n dep t:Nat)(a b:Value)(r:Bool),n<=dep->eqP T n t a b=some r->∀w,(Op.equalIn dep t a b).run P w=.ok r w:=by
 intro n
 induction n with
 |zero=>intro dep t a b r _ h;simp[eqP]at h|succ n K=>
  intro dep t a b r W h w;obtain⟨dep,rfl⟩:∃k,dep=k+1:=⟨dep-1,by omega⟩;simp only[eqP]at h;split at h
  ·rename_i d z;split at h
   ·simp at h
   ·rename_i m N;have H:d.size≠0:=ox
    split at h
    ·rename_i p q hu;simp only[AE]at h;subst h;exact run_equalIn_bool w _ _ _ _ (ANz hT z H hu)
    ·rename_i k0 k x X y hu;split at h
     ·rename_i O;simp only[AE]at h;subst h;have:=Yf O;subst this;exact run_equalIn_int w _ _ _ _ _ _ (AKW hT z H hu)
     ·simp at h
    ·rename_i x y hu;simp only[AE]at h;subst h;rw[run_equalIn_string w _ _ _ _ (AEt hT z H hu),AAn,AAn]
    ·rename_i fs xs ys hu;split at h
     ·rename_i he;have⟨F,h1,h2,h3⟩:=Wy hT z H hu;rw[he]at h3;simp only[AJg,Aq,Cb]at h3;subst h2;have U:P.fieldsOf t=F:=by simp[Program.fieldsOf,h1]
      rw[run_equalIn_struct w dep t ⟨xs⟩ ⟨ys⟩ (by rw[U];exact h1) h3.1.1,U];exact AHJ hT w _ dep (λt a b r h w=>K dep t a b r ox h w) xs ys F.toList r h3.2 h
     ·simp at h
    ·simp at h
  ·simp at h
theorem ADF{xs ys:List Value}(h:eqP T n t (.agg ⟨xs⟩) (.agg ⟨ys⟩)=some r):P.eqGuardType P.depth t=false:=by
 cases n with
 |zero=>simp[eqP]at h|succ n=>
  simp only[eqP]at h;split at h
  ·rename_i d y;split at h
   ·simp at h
   ·rename_i m z;have H:d.size≠0:=ox
    cases hu:d.RI<;>simp only[hu]at h
    case struct fs=>
     have⟨F,h1,h2,h3⟩:=Wy hT y H hu;split at h
     ·rename_i he;rw[he]at h3;simp only[AJg,Aq,Cb]at h3;exact h3.1.2
     ·simp at h
    all_goals simp at h
  ·simp at h
theorem AHQ(op:BinOp)(t:Nat)(x y:Operand)(a b r:Value)(h:AOh T op t a b=some r):(do eqGuard op t x y a b;binOp op t a b:Sem Value).run P w=.ok r w:=by
 unfold AOh at h;split at h
 ·rename_i k a K b;split at h
  ·rename_i H;have:=Yf H;subst this;cases op<;>simp[APT]at h<;>subst h<;>simp[go_sem]
  ·simp at h
 ·rename_i a b;cases op<;>simp[APG]at h<;>subst h<;>simp[go_sem,AOO,Dy,bne]
 ·rename_i a b;unfold eqV at h;split at h
  ·split at h
   ·rename_i q z;simp only[AE]at h;subst h;have:=VD hT 9 10000 t _ _ q ox z w;simp[go_sem,binOp,Op.equal,Op.maxDepth,this]
   ·simp at h
  ·split at h
   ·rename_i q z;simp only[AE]at h;subst h;have:=VD hT 9 10000 t _ _ q ox z w;simp[go_sem,binOp,Op.equal,Op.maxDepth,this]
   ·simp at h
  ·simp at h
 ·rename_i xs ys;unfold eqV at h;split at h
  ·split at h
   ·rename_i q z;simp only[AE]at h;subst h;have h1:=VD hT 9 10000 t _ _ q ox z w;have h2:=ADF hT (xs:=xs.toList) (ys:=ys.toList) z;simp only[Sem.run_bind,run_eqGuard_agg w _ _ _ _ _ _ h2,Result.andThen_ok,run_eql_struct,h1]
   ·simp at h
  ·split at h
   ·rename_i q z;simp only[AE]at h;subst h;have h1:=VD hT 9 10000 t _ _ q ox z w;have h2:=ADF hT (xs:=xs.toList) (ys:=ys.toList) z;simp only[Sem.run_bind,run_eqGuard_agg w _ _ _ _ _ _ h2,Result.andThen_ok,run_neq_struct,h1]
   ·simp at h
  ·simp at h
 ·simp at h
theorem UX(h:ABE T t f=some (off,aa)):∃(F:Array Field)(y:Field),P.underlying t=some (.struct F)/\F[f]? =some y/\y.offset=off/\nth T y.type=some aa/\aa.size≠0:=by
 unfold ABE at h;split at h<;>try (simp at h;done)
 rename_i d W;split at h<;>try (simp at h;done)
 rename_i n0 N;split at h<;>try (simp at h;done)
 rename_i fs hu;split at h<;>try (simp at h;done)
 rename_i O ft z;split at h<;>try (simp at h;done)
 rename_i X H;split at h
 ·simp at h
 ·rename_i n Z;simp only[AE,BJ]at h;obtain⟨rfl,rfl⟩:=h;have⟨F,h1,h2,_⟩:=Wy hT W ox hu;subst h2;rw[Cc,EX]at z;cases K:F.toList[f]? with
  |none=>simp[K]at z|some y=>
   simp[K]at z;exact⟨F,y,h1,by simpa using K,z.1,by rw[z.2];exact H,by omega⟩
theorem AKl(env:List Nat)(ρ:Operand->Value)(e:Operand->AA SV)(he:∀x a,e x=some a->ρ x=den env a)(hl:∀x a,e x=some a->a.ok M)(o:Oper)(r:SV)(h:pv T o.op e=some r):(execOp ρ o).run P w=.ok (.value (den env r)) w:=by
 unfold pv at h;unfold execOp;split at h
 case h_1 x z=>simp only[z,Sem.run_pure,he _ _ h]
 case h_2 x z=>simp only[z,Sem.run_pure,he _ _ h]
 case h_3 op t x y ty z=>
  simp only[z];split at h
  ·rename_i a b K N;split at h
   ·rename_i q H;simp only[AE]at h;subst h;have:=AHQ hT w op t x y a b q H;simp only[he _ _ K,he _ _ N,den];simp only[Sem.run_bind]at this⊢;rw[this];rfl
   ·simp at h
  ·simp at h
 case h_4 t x z=>
  simp only[z];split at h
  ·rename_i b N;simp only[AE]at h;subst h;simp[he _ _ N,den,Op.unary]
  ·simp at h
 case h_5 t x f z=>
  simp only[z];split at h
  ·rename_i off fd Z;have⟨F,fi,h1,h2,h3,X,W⟩:=UX hT Z;subst h3;split at h
   ·rename_i a K;rw[he _ _ K];have aa:=hl _ _ K;unfold addrAt at h;split at h
    ·simp only[AE]at h;subst h;simp[Instr.fieldAt,run_underlying h1,h2,Instr.sureAddr,den,fieldPlace,Lf hT w X W,W,Addr.add_lit]
    ·simp only[AE]at h;subst h;obtain⟨b,o',rfl⟩:=aa;simp[Instr.fieldAt,run_underlying h1,h2,Instr.sureAddr,den,fieldPlace,Lf hT w X W,W,Addr.add_lit,Km]
    ·simp only[AE]at h;subst h;simp[Instr.fieldAt,run_underlying h1,h2,Instr.sureAddr,den,fieldPlace,Lf hT w X W,W,Addr.add_lit]
    ·simp at h
   ·simp at h
  ·simp at h
 case h_6 t x f z=>
  simp only[z];split at h
  ·rename_i off fd Z;have⟨F,fi,h1,h2,h3,X,W⟩:=UX hT Z;subst h3;split at h
   ·rename_i a K;rw[he _ _ K];unfold AKs at h;split at h
    ·rename_i cs;split at h
     ·rename_i q H;simp only[AE]at h;subst h;simp[Instr.field,run_underlying h1,h2,asAgg,den,WI hT w X W H]
     ·simp at h
    ·simp at h
   ·simp at h
  ·simp at h
 case h_7 x i z=>
  simp only[z];split at h
  ·rename_i l hl;split at h
   ·rename_i y hy;simp only[AE]at h;subst h;rw[Cc]at hy;rw[he _ _ hl];have:(⟨l⟩:Array Value)[i]? =some y:=by grind
    simp[Instr.extract,den,this]
   ·simp at h
  ·simp at h
 case h_8 x t z=>
  simp only[z];split at h
  ·rename_i d O;split at h
   ·simp at h
   ·rename_i n ab;split at h
    ·rename_i a K;split at h
     ·rename_i q H;simp only[AE]at h;subst h;unfold APQ at H;split at H
      ·rename_i l _;simp only[AE]at H;subst H;simp[resolve,invoke,builtin,Builtin.len_,he _ _ K,den,run_underlying (AEt hT O ox (by assumption)),goInt];rfl
      ·rename_i e1 b n' c _;simp only[AE]at H;subst H;simp[resolve,invoke,builtin,Builtin.len_,he _ _ K,den,run_underlying (RM hT O ox (by assumption)),goInt]
      ·rename_i e1 i o n' c _;simp only[AE]at H;subst H;simp[resolve,invoke,builtin,Builtin.len_,he _ _ K,den,run_underlying (RM hT O ox (by assumption)),goInt]
      ·simp at H
     ·simp at h
    ·simp at h
  ·simp at h
 case h_9 x t z=>
  simp only[z];split at h
  ·rename_i d O;split at h
   ·simp at h
   ·rename_i n ab;split at h
    ·rename_i a K;split at h
     ·rename_i q H;simp only[AE]at h;subst h;unfold APe at H;split at H
      ·rename_i e1 b n' c _;simp only[AE]at H;subst H;simp[resolve,invoke,builtin,Builtin.cap_,he _ _ K,den,run_underlying (RM hT O ox (by assumption)),goInt]
      ·rename_i e1 i o n' c _;simp only[AE]at H;subst H;simp[resolve,invoke,builtin,Builtin.cap_,he _ _ K,den,run_underlying (RM hT O ox (by assumption)),goInt]
      ·simp at H
     ·simp at h
    ·simp at h
  ·simp at h
 case h_10 x y t z=>
  simp only[z];split at h
  ·rename_i k a k' b K N;split at h
   ·rename_i hk;have:=Yf hk;subst this;simp only[AE]at h;subst h;simp[resolve,invoke,builtin,Builtin.max_,Builtin.max2,he _ _ K,he _ _ N,den];by_cases hc:a<b
    ·grind
    ·grind
   ·simp at h
  ·simp at h
 case h_11 x y t z=>
  simp only[z];split at h
  ·rename_i k a k' b K N;split at h
   ·rename_i hk;have:=Yf hk;subst this;simp only[AE]at h;subst h;simp[resolve,invoke,builtin,Builtin.min_,Builtin.min2,he _ _ K,he _ _ N,den];by_cases hc:b<a
    ·grind
    ·grind
   ·simp at h
  ·simp at h
 case h_12 src dst x z=>
  simp only[z];split at h
  ·rename_i s d hs O;split at h
   ·rename_i n1 n2 ad ae;have⟨dd,h1,_,_⟩:=ZF hT hs ox;split at h
    ·rename_i k k' n hu hx;simp only[AE]at h;subst h;simp[he _ _ hx,den,convert,run_underlying h1,run_underlying (AKW hT O ox hu),Conv.intToInt]
    ·rename_i b hu hx;simp only[AE]at h;subst h;simp[he _ _ hx,den,convert,run_underlying h1,run_underlying (AEt hT O ox hu)]
    ·simp at h
   ·simp at h
  ·simp at h
 case h_13 t x z=>
  simp only[z];split at h
  ·rename_i k a N;simp only[AE]at h;subst h;simp[he _ _ N,den,Op.unary,Op.intArith]
  ·simp at h
 case h_14=>simp at h
end
def AAa(P:Program)(ops:Array Oper)(Q:Exit->Act->World->Prop)(S:Array Bool->World->Prop):Nat->Array Bool->Act->World->Prop
 |0,listed,a,w=>Region.ready .any ops listed=[]/\Q .normal a w|fuel+1,listed,a,w=>
  (Region.ready .any ops listed=[]->Q .normal a w)/\
  ∀i∈Region.ready .any ops listed,wpOp P ops Q i (λa' w'=>S (listed.setIfInBounds i true) w'/\AAa P ops Q S fuel (listed.setIfInBounds i true) a' w') a w
theorem Sh{P:Program}{ops:Array Oper}{Q:Exit->Act->World->Prop}{S:Array Bool->World->Prop}:∀(fuel:Nat)(listed:Array Bool)(a:Act)(w:World),AAa P ops Q S fuel listed a w->wpAny P .any ops Q fuel listed a w
 |0,_,_,_,h=>h|fuel+1,_,_,_,h=>⟨h.1,λi hi=>wpOp_mono (λa' w' y=>Sh fuel _ a' w' y.2) (h.2 i hi)⟩
def SF(ends:List Nat)(S:World->Prop)(listed:Array Bool)(w:World):Prop:=(∀e∈ends,listed.getD e false=false)->S w
theorem Ym{listed:Array Bool}(h:e≠i):(listed.setIfInBounds i true).getD e false=listed.getD e false:=getD_set_ne false (AJ1 h)
theorem ADW{ops:Array Oper}{S:World->Prop}{v:Value}(hi:ops[i]? =some oi)(ab:∀(j:Nat)(o:Oper)cs b,ops[j]? =some o->o.op≠ .select cs b)(hQ:∀c a w,Q (.panic c) (a.put oi.dst v) w->Q (.panic c) a w)(sh:List Nat)(K:∀e∈ends,e∈sh)(hw:∀e∈sh,e≠i/\∀oe,ops[e]? =some oe->∃ed∈oe.after,Region.binds .any ed=true/\(ed.on=i\/ed.on∈sh)):∀(fuel:Nat)(listed:Array Bool)(a:Act)(w:World),(∀e∈sh,listed.getD e false=false)->(∀j oj,ops[j]? =some oj->j≠i->listed.getD j true=false->(∀e∈oj.after,Region.binds .any e=true->e.on≠i)->oi.apart ops oj=true)->i∈Region.ready .any ops listed->YieldsIf P ops S oi v a->S w->AAa P ops Q (SF ends S) fuel (listed.setIfInBounds i true) (a.put oi.dst v) w->AAa P ops Q (SF ends S) (fuel+1) listed a w:=by
 intro fuel
 induction fuel with
 |zero=>
  intro listed a w _ _ hr hy hS H;refine⟨λh=>(by rw[h]at hr;cases hr),λj hj=>?_⟩;by_cases y:j=i
  ·subst y;exact hy.wpOp hi hS ⟨λ_=>hS,H⟩
  ·have:=ready_mono hj y;rw[H.1]at this;cases this
 |succ fuel ih=>
  intro listed a w N O hr hy hS H;refine⟨λh=>(by rw[h]at hr;cases hr),λj hj=>?_⟩;by_cases y:j=i
  ·subst y;exact hy.wpOp hi hS ⟨λ_=>hS,H⟩
  ·have h1:=H.2 j (ready_mono hj y);have⟨ad,oj,X,ae⟩:=mem_ready.1 hj;have af:∀e∈oj.after,Region.binds .any e=true->e.on≠i:=λe he hb heq=>by
    have h1:=ae e he hb;have h0:=(mem_ready.1 hr).1;rw[heq]at h1;rcases A7 i listed.size with h'|h'
    ·grind
    ·grind
   have h2:=wpOp_putIf X (O j oj X y ad af) (λcs b=>ab i oi cs b hi) (λcs b=>ab j oj cs b X) hQ hy h1;have W:∀e∈sh,e≠j:=λe he ah=>by
    subst ah;have⟨ed,k1,k2,k3⟩:=(hw e he).2 oj X;rcases k3 with k3|k3
    ·grind
    ·grind
   have Z:∀e∈sh,(listed.setIfInBounds j true).getD e false=false:=λe he=>by
    rw[Ym (W e he)];exact N e he
   have z:∀e∈ends,((listed.setIfInBounds i true).setIfInBounds j true).getD e false=false:=λe he=>by
    rw[Ym (W e (K e he)),Ym (hw e (K e he)).1];exact N e (K e he)
   have aa:∀k ok,ops[k]? =some ok->k≠i->(listed.setIfInBounds j true).getD k true=false->
    (∀e∈ok.after,Region.binds .any e=true->e.on≠i)->oi.apart ops ok=true:=λk ok hk ai ag aj=>by
    refine O k ok hk ai ?_ aj;by_cases ak:j=k
    ·grind
    ·rw[getD_set_ne true ak]at ag;exact ag
   refine wpOp_mono (λa' w' h3=>⟨λ_=>h3.2.1 z,ih (listed.setIfInBounds j true) a' w' Z aa (ready_mono hr (AJ1 y)) h3.1 (h3.2.1 z) ?_⟩) h2;rw[Array.setIfInBounds_comm _ _ y];exact h3.2.2
def lst:List Bool->Nat->Bool
 |[],_=>false|b::_,0=>b|_::l,n+1=>lst l n
theorem WR:∀(l:List Bool)(n:Nat),lst l n=(⟨l⟩:Array Bool).getD n false
 |[],n=>by simp[lst]
 |b::l,0=>by simp[lst]
 |b::l,n+1=>by
  rw[lst,WR l n];simp
def Ha:List Bool->Nat->List Bool
 |[],_=>[]|_::l,0=>true::l|b::l,n+1=>b::Ha l n
theorem ADg:∀(l:List Bool)(n:Nat),(⟨Ha l n⟩:Array Bool)=(⟨l⟩:Array Bool).setIfInBounds n true:=by
 intro l n;apply AHr;simp only[Array.toList_setIfInBounds]
 induction l generalizing n with
 |nil=>simp[Ha]|cons b l y=>
  cases n with
  |zero=>simp[Ha]|succ n=>simp[Ha,y]
def Yq(e:Edge):Bool:=
 match e.ground with
 |.textOnly _=>false|.gcOnly _=>false|_=>true
theorem Yp(e:Edge):Region.binds .any e=Yq e:=by
 unfold Region.binds Yq;split<;>first|rfl|simp_all
def QF(listed:List Bool):List Edge->Bool
 |[]=>true|e::l=>match Yq e with
  |true=>match lst listed e.on with
   |true=>QF listed l|false=>false
  |false=>QF listed l
theorem Zf{listed:List Bool}:∀{l:List Edge},QF listed l=true↔∀e∈l,Region.binds .any e=true->(⟨listed⟩:Array Bool).getD e.on false=true
 |[]=>by simp[QF]
 |e::l=>by
  have y:=Zf (listed:=listed) (l:=l);simp only[QF,Aj,forall_eq_or_imp,Yp]at*;cases z:Yq e with
  |false=>simpa using y|true=>
   simp only[forall_const];rw[<- WR];cases hl:lst listed e.on with
   |false=>simp|true=>simpa using y
def rdy(listed:List Bool):Nat->List Oper->List Nat
 |_,[]=>[]|i,o::r=>match lst listed i with
  |true=>rdy listed (i+1) r|false=>match QF listed o.after.toList with
   |true=>i::rdy listed (i+1) r|false=>rdy listed (i+1) r
theorem AD0{listed:List Bool}:∀{ops:List Oper}{i j:Nat},j∈rdy listed i ops↔i<=j/\lst listed j=false/\∃o,ops[j-i]? =some o/\QF listed o.after.toList=true
 |[],i,j=>by simp[rdy]
 |o::r,i,j=>by
  have y:=AD0 (listed:=listed) (ops:=r) (i:=i+1) (j:=j);have step:(i+1<=j/\lst listed j=false/\∃o,r[j-(i+1)]? =some o/\QF listed o.after.toList=true)↔(i<j/\lst listed j=false/\∃o',(o::r)[j-i]? =some o'/\QF listed o'.after.toList=true):=by grind
  unfold rdy;split
  ·grind
  ·grind
def RQ:List Oper->List Bool->Bool
 |[],[]=>true|_::l,_::r=>RQ l r|_,_=>false
theorem YH:∀{l:List Oper}{r:List Bool},RQ l r=true->l.length=r.length
 |[],[],_=>rfl|_::l,_::r,h=>by simp[YH (l:=l) (r:=r) h]
 |[],_::_,h=>by simp[RQ]at h
 |_::_,[],h=>by simp[RQ]at h
theorem U5{ops:List Oper}(z:RQ ops listed=true):j∈Region.ready .any ⟨ops⟩ ⟨listed⟩↔j∈rdy listed 0 ops:=by
 have hlen:=YH z;rw[mem_ready,AD0];simp only[By,true_and,ABk,Zf,OW,Array.mem_toList_iff];constructor
 ·rintro⟨h1,o,h2,h3⟩;have y:j<listed.length:=by grind
  refine⟨?_,o,h2,h3⟩;rw[WR];simp only[Fp,OW,List.getElem?_eq_getElem y,Kp]at h1⊢;exact h1
 ·rintro⟨h1,o,h2,h3⟩;have y:j<listed.length:=by grind
  refine⟨?_,o,h2,h3⟩;rw[WR]at h1;simp only[Fp,OW,List.getElem?_eq_getElem y,Kp]at h1⊢;exact h1
def AKv:List Operand->List Nat
 |[]=>[]|.tmp s::l=>s::AKv l|_::l=>AKv l
def AKu:AA Operand->List Operand
 |some x=>[x]|none=>[]
def AKZ:List (Nat×Operand)->List Operand
 |[]=>[]|p::l=>p.2::AKZ l
def apO:List Operand->List Operand->List Operand
 |[],l=>l|x::r,l=>x::apO r l
def AKS:Op->AA (List Operand)
 |.alloc _=>some []|.move x=>some [x]|.assign x=>some [x]|.box _ x=>some [x]|.load _ x=>some [x]|.nilCheck x=>some [x]|.unOp _ _ x=>some [x]|.convert _ _ x=>some [x]|.makeInterface _ x=>some [x]|.fieldAddr _ x _=>some [x]|.field _ x _=>some [x]|.range _ x=>some [x]|.next x _=>some [x]|.entry x=>some [x]|.extract x _=>some [x]|.panic x=>some [x]|.pick c a b=>some [c,a,b]|.build _ ⟨ps⟩=>some (AKZ ps)|.buildSlice _ _ ⟨ps⟩=>some (AKZ ps)|.store _ a v=>some [a,v]|.binOp _ _ a v _=>some [a,v]|.makeSlice _ a v=>some [a,v]|.indexAddr _ a v=>some [a,v]|.index _ a v=>some [a,v]|.lookup _ a v _=>some [a,v]|.mapEntry _ a v=>some [a,v]|.makeFunc _ ⟨f⟩ ⟨c⟩=>some (apO f c)|.makeMap _ r=>some (AKu r)|.slice _ x l h m=>some (x::apO (AKu l) (apO (AKu h) (AKu m)))|.mapUpdate _ m k v=>some [m,k,v]|.entryStore _ m k v=>some [m,k,v]|.insert _ m k v=>some [m,k,v]|.call ⟨.value f,⟨y⟩,_⟩=>some (f::y)|.call ⟨.builtin _,⟨y⟩,_⟩=>some y|_=>none
theorem ADf:∀l:List (Nat×Operand),AKZ l=l.map (·.2)
 |[]=>rfl|p::l=>by simp[AKZ,ADf l]
theorem AHY:∀l r:List Operand,apO l r=l++r
 |[],r=>rfl|x::l,r=>by simp[apO,AHY l r]
theorem AH9:∀l:AA Operand,AKu l=l.toArray.toList
 |none=>rfl|some x=>rfl
theorem AKR{l:List Operand}(h:AKS aJ=some l):aJ.operands.toList=l:=by
 cases aJ<;>simp only[AKS,AE,reduceCtorEq]at h<;>try (subst h;simp[Op.operands];done)
 case makeFunc fn f c=>
  have⟨f⟩:=f;have⟨c⟩:=c;simp only[AE]at h;subst h;simp[Op.operands,AHY]
 case build t ps=>
  have⟨ps⟩:=ps;simp only[AE]at h;subst h;simp[Op.operands,ADf]
 case buildSlice t n ps=>
  have⟨ps⟩:=ps;simp only[AE]at h;subst h;simp[Op.operands,ADf]
 case makeMap t r=>subst h;simp[Op.operands,AH9]
 case slice t x lo hi H=>subst h;simp[Op.operands,AH9,AHY]
 case call c=>
  have⟨ce,⟨y⟩,z⟩:=c;cases ce<;>simp only[AE,reduceCtorEq]at h
  ·subst h;simp[Op.operands,Call.operands]
  ·subst h;simp[Op.operands,Call.operands]
def ALL(ops:List Oper):AA (Nat×Bool)->List Nat
 |none=>[]|some (g,_)=>match nth ops g with
  |some o=>match o.dst with
   |some d=>[d]|none=>[]
  |none=>[]
def AC0(d:Nat):List Nat->Bool
 |[]=>true|a::l=>match Nat.beq a d with
  |true=>false|false=>AC0 d l
theorem YT{d:Nat}:∀{l:List Nat},AC0 d l=true↔d∉l
 |[]=>by simp[AC0]
 |a::l=>by
  unfold AC0;split
  ·rename_i h;simp[Ij h]
  ·rename_i h;have:=KX h;simp only[Aj,not_or,YT (l:=l)];constructor
   ·grind
   ·grind
def looks(ops:List Oper)(o:Oper):AA (List Nat):=
 match AKS o.op with
 |some l=>some (AKv l++ALL ops o.guard)|none=>none
theorem AIA:∀l:List Operand,l.filterMap (λ|.tmp t=>some t|_=>none)=AKv l
 |[]=>rfl|x::l=>by
  cases x<;>simp[AKv,AIA l]
theorem AFK{ops:List Oper}{l:List Nat}(h:looks ops o=some l):o.looksAt ⟨ops⟩=l:=by
 unfold looks at h;split at h
 ·rename_i r y;simp only[AE]at h;subst h;unfold Oper.looksAt;rw[AKR y]
  congr 1
  ·exact AIA r
  ·unfold ALL;split
   ·rename_i g b z;simp only[z,OW,Cc];cases ops[g]? with
    |none=>rfl|some o'=>cases H:o'.dst<;>simp[H]
   ·grind
 ·simp at h
def AKb(d:Nat):AA Nat->Bool
 |some e=>Nat.beq e d|none=>false
def AHW(ops:List Oper)(d:Nat)(li:List Nat)(y:Oper):Bool:=
 match looks ops y with
 |some z=>match AC0 d z,AKb d y.dst with
  |true,false=>match y.dst with
   |some e=>AC0 e li|none=>true
  |_,_=>false
 |none=>false
theorem AEJ{ops:List Oper}{d:Nat}{x:Oper}(H:x.dst=some d)(hl:looks ops x=some az)(h:AHW ops d az aE=true):x.apart ⟨ops⟩ aE=true:=by
 unfold AHW at h;split at h<;>try (simp at h;done)
 rename_i Z z;split at h<;>try (simp at h;done)
 rename_i h1 h2;have K:=AFK hl;have N:=AFK z;have O:=YT.1 h1;unfold Oper.apart;rw[H,K,N];have W:aE.dst≠some d:=by
  intro X;rw[X]at h2;simp[AKb]at h2
 simp only[Aq,Cb,List.contains_eq_mem,Ai,bne_iff_ne,ne_eq];refine⟨⟨O,W⟩,?_⟩;split
 ·rename_i e he;rw[he]at h;simp only at h;simpa using YT.1 h
 ·rfl
def Sj(i:Nat):List Edge->Bool
 |[]=>false|e::l=>match Yq e with
  |true=>match Nat.beq e.on i with
   |true=>true|false=>Sj i l
  |false=>Sj i l
theorem ZE{i:Nat}:∀{l:List Edge},Sj i l=true↔∃e∈l,Region.binds .any e=true/\e.on=i
 |[]=>by simp[Sj]
 |e::l=>by
  have z:=ZE (i:=i) (l:=l);unfold Sj;simp only[Aj,exists_eq_or_imp,Yp]at*;split
  ·rename_i y;split
   ·rename_i he;simp[y,Ij he]
   ·rename_i he;simp[y,KX he,z]
  ·grind
def Zb(all:List Oper)(listed:List Bool)(i d:Nat)(li:List Nat):Nat->List Oper->Bool
 |_,[]=>true|j,o::r=>match Nat.beq j i with
  |true=>Zb all listed i d li (j+1) r|false=>match lst listed j with
   |true=>Zb all listed i d li (j+1) r|false=>match Sj i o.after.toList with
    |true=>Zb all listed i d li (j+1) r|false=>match AHW all d li o with
     |true=>Zb all listed i d li (j+1) r|false=>false
theorem Za{all:List Oper}{listed:List Bool}{i d:Nat}{li:List Nat}{x:Oper}(Z:x.dst=some d)(hl:looks all x=some li):∀{ops:List Oper}{s:Nat},Zb all listed i d li s ops=true->∀j y,s<=j->ops[j-s]? =some y->j≠i->lst listed j=false->(∀e∈y.after.toList,Region.binds .any e=true->e.on≠i)->x.apart ⟨all⟩ y=true
 |[],s,_,j,y,_,z,_,_,_=>by simp at z
 |o::r,s,h,j,y,hs,z,H,O,K=>by
  unfold Zb at h;by_cases W:j=s
  ·subst W;rw[Vd]at z;simp only[AAC,AE]at z;subst z;split at h
   ·rename_i N;exact absurd (Ij N) H
   ·split at h
    ·grind
    ·split at h
     ·rename_i N;have⟨e,k1,k2,k3⟩:=ZE.1 N;exact absurd k3 (K e k1 k2)
     ·split at h
      ·rename_i N;exact AEJ Z hl N
      ·simp at h
  ·have X:r[j-(s+1)]? =some y:=by
    rw[show j-s=(j-(s+1))+1 by omega,RH]at z;exact z
   have next:Zb all listed i d li (s+1) r=true:=by grind
   exact Za Z hl next j y ox X H O K
def ADt:List Oper->Bool
 |[]=>true|o::r=>match o.op with
  |.select _ _=>false|_=>ADt r
theorem XK:∀{ops:List Oper},ADt ops=true->∀(j:Nat)(o:Oper)cs b,ops[j]? =some o->o.op≠ .select cs b
 |[],_,j,o,cs,b,y=>by simp at y
 |x::r,h,j,o,cs,b,y=>by
  unfold ADt at h;split at h
  ·simp at h
  ·rename_i z;cases j with
   |zero=>simp at y;subst y;exact z cs b|succ j=>exact XK h j o cs b (by simpa using y)
def NO(i:Nat)(sh:List Nat):List Edge->Bool
 |[]=>false|e::l=>match Yq e with
  |true=>match Nat.beq e.on i with
   |true=>true|false=>match lstN e.on sh with
    |true=>true|false=>NO i sh l
  |false=>NO i sh l
where lstN (x:Nat):List Nat->Bool
 |[]=>false
 |a::l=>match Nat.beq a x with
  |true=>true
  |false=>lstN x l
def UA(i:Nat)(listed:List Bool):Nat->List Nat->List Oper->List Nat
 |_,sh,[]=>sh|j,sh,o::r=>match Nat.beq j i,lst listed j,NO i sh o.after.toList with
  |false,false,true=>UA i listed (j+1) (j::sh) r|_,_,_=>UA i listed (j+1) sh r
def AIi(sh:List Nat):List Nat->Bool
 |[]=>true|e::l=>match NO.lstN e sh with
  |true=>AIi sh l|false=>false
def ALT(ops:List Oper)(listed:List Bool)(i:Nat):List Nat->Bool
 |[]=>true|e::l=>AIi (UA i listed 0 [] ops) (e::l)
theorem ABA{x:Nat}:∀{l:List Nat},NO.lstN x l=true↔x∈l
 |[]=>by simp[NO.lstN]
 |a::l=>by
  unfold NO.lstN;split
  ·rename_i h;simp[Ij h]
  ·rename_i h;have y:=AJ1 (KX h);simp[y,ABA (l:=l)]
theorem T5{i:Nat}{sh:List Nat}:∀{l:List Edge},NO i sh l=true->∃e∈l,Region.binds .any e=true/\(e.on=i\/e.on∈sh)
 |[],h=>by simp[NO]at h
 |e::l,h=>by
  have z:=T5 (i:=i) (sh:=sh) (l:=l);unfold NO at h;split at h
  ·rename_i y;have y:Region.binds .any e=true:=by simpa[Yp]using y
   split at h
   ·rename_i he;exact⟨e,by simp,y,.inl (Ij he)⟩
   ·split at h
    ·rename_i hl;exact⟨e,by simp,y,.inr (ABA.1 hl)⟩
    ·grind
  ·grind
theorem Sm{ops:List Oper}{listed:List Bool}{i:Nat}:∀(r:List Oper)(j:Nat)(sh:List Nat),(∀k,r[k]? =ops[j+k]?)->(∀e∈sh,lst listed e=false/\e≠i/\∀H,ops[e]? =some H->∃y∈H.after.toList,Region.binds .any y=true/\(y.on=i\/y.on∈sh))->∀e∈UA i listed j sh r,lst listed e=false/\e≠i/\∀H,ops[e]? =some H->∃y∈H.after.toList,Region.binds .any y=true/\(y.on=i\/y.on∈UA i listed j sh r)
 |[],j,sh,_,h=>by simpa[UA]using h
 |o::r,j,sh,N,h=>by
  have K:∀k,r[k]? =ops[j+1+k]? :=λk=>by have:=N (k+1);simpa[Km,AJ2 1 k]using this
  have O:ops[j]? =some o:=by simpa using(N 0).symm
  unfold UA;split
  ·rename_i h1 h2 h3;refine Sm r (j+1) (j::sh) K ?_;intro e he;rcases Aj.1 he with rfl|he
   ·refine⟨h2,KX h1,λH z=>?_⟩;rw[O]at z;simp only[AE]at z;subst z;have⟨y,k1,k2,k3⟩:=T5 h3;exact⟨y,k1,k2,k3.imp id (λk=>List.mem_cons_of_mem _ k)⟩
   ·grind
  ·exact Sm r (j+1) sh K h
theorem Zk{sh:List Nat}:∀{l:List Nat},AIi sh l=true->∀e∈l,e∈sh
 |[],_=>by simp
 |a::l,h=>by
  unfold AIi at h;split at h<;>try (simp at h;done)
  rename_i y;intro e he;rcases Aj.1 he with rfl|he
  ·exact ABA.1 y
  ·exact Zk h e he
theorem AEC{ops:List Oper}(h:ALT ops listed i ends=true):∃sh:List Nat,(∀e∈ends,e∈sh)/\(∀e∈sh,(⟨listed⟩:Array Bool).getD e false=false)/\∀e∈sh,e≠i/\∀y,(⟨ops⟩:Array Oper)[e]? =some y->∃z∈y.after,Region.binds .any z=true/\(z.on=i\/z.on∈sh):=by
 cases ends with
 |nil=>exact⟨[],by simp,by simp,by simp⟩
 |cons e l=>
  have H:=Sm (ops:=ops) (listed:=listed) (i:=i) ops 0 [] (λk=>by simp) zp;refine⟨UA i listed 0 [] ops,Zk h,λe he=>?_,λe he=>⟨(H e he).2.1,λy K=>?_⟩⟩
  ·rw[<- WR];exact(H e he).1
  ·grind
abbrev AM:=Addr->AA Value
def DI(V V':AM):Prop:=∀a x,V a=some x->V' a=some x
def ANS:Array Value:=((List.range 20).map λi=>Value.int .u64 ((10^i:Nat):Int)).toArray
def Y3(w:World):Prop:=∃t f,w.heap[1]? =some (.cells ANS t f)
structure Holds(V:AM)(w:World):Prop where
 c:∀a x,V a=some x->w.cell? a=some x
 t:Y3 w
instance {V:AM} {w:World}:CoeFun (Holds V w) λ_=>∀a x,V a=some x->w.cell? a=some x:=⟨Holds.c⟩
theorem Y3.same{w:World}(h:Y3 w)(e:w'.heap[1]? =w.heap[1]?):Y3 w':=by
 have⟨t,f,h⟩:=h;exact⟨t,f,e.trans h⟩
theorem Y3.lt{w:World}(h:Y3 w):1<w.heap.size:=by
 have⟨t,f,h⟩:=h;exact(An.1 h).1
theorem DI.refl(V:AM):DI V V:=λ_ _ h=>h
theorem DI.trans{V V' y:AM}(h:DI V V')(k:DI V' y):DI V y:=λa x z=>k a x (h a x z)
structure KC where
 os:Os
 tape:Nat->Question->Nat
 output:Array (Nat×ByteArray)
 Bp:Nat->AA Obj
def EU(w:World)(e sz:Nat)(x:Value)(cs:List Value):Prop:=∃n,w.ownsRow 0 e sz x n cs
def OB.sat(env:List Nat)(M:List OB)(w:World)(b:Nat):OB->Prop
 |.gone=>True|.Bp cs ty=>w.heap[b]? =some (.cells ⟨cs.map (den env)⟩ ty (0,0))/\∀x∈cs,x.ok M|.row x cs e sz=>EU w e sz x cs|.ext E=>E.sat w
def OB.own(b:Nat):OB->Addr->Prop
 |.gone,_=>False|.Bp _ _,a=>a.block=b|.row x _ _ _,a=>x.ownBlock=some a.block|.ext E,a=>E.own a.block
def Q5(FR:KC):Prop:=∃t f,FR.Bp 1=some (.cells ANS t f)
theorem Q5.w{FR:KC}(h:Q5 FR){w:World}(y:∀b o,FR.Bp b=some o->w.heap[b]? =some o):Y3 w:=by
 have⟨t,f,h⟩:=h;exact⟨t,f,y 1 _ h⟩
theorem Q5.of{FR:KC}{w:World}(h:Y3 w)(y:FR.Bp 1=w.heap[1]?):Q5 FR:=by
 have⟨t,f,h⟩:=h;exact⟨t,f,y.trans h⟩
theorem Q5.ne{FR:KC}(h:Q5 FR){b:Nat}(y:FR.Bp b=none):b≠1:=by
 have⟨t,f,h⟩:=h;rintro rfl;rw[h]at y;cases y
structure FC(V0:AM)(FR:KC)(env:List Nat)(V:AM)(M:List OB)(w:World):Prop where
 os:w.os=FR.os
 tape:w.tape=FR.tape
 output:w.output=FR.output
 frame:∀b o,FR.Bp b=some o->w.heap[b]? =some o
 le:DI V0 V
 holds:Holds V w
 fresh:∀a x,V a=some x->V0 a=some x\/FR.Bp a.block=none
 len:env.length=M.length
 sat:∀(i:Nat)(o:OB),M[i]? =some o->o.sat env M w (Bm env i)
 DA:∀(i:Nat)(o:OB)a,M[i]? =some o->o.own (Bm env i) a->V a=none
 C1:∀(i:Nat)(o:OB)a,M[i]? =some o->o.own (Bm env i) a->FR.Bp a.block=none
 apart:∀(i j:Nat)(o o':OB)a,i≠j->M[i]? =some o->M[j]? =some o'->o.own (Bm env i) a->¬o'.own (Bm env j) a
 tb:Q5 FR
def Ng(env:List Nat)(M:List OB)(L:Fr)(t:Array Value):Prop:=∀s x,EF L s=some x->t[s]? =some (den env x)/\x.ok M
def RdM(env:List Nat)(M y:List OB)(w:World):Prop:=
 (∀(i:Nat)(cs:List SV)(ty:Nat),y[i]? =some (.Bp cs ty)->w.heap[Bm env i]? =some (.cells ⟨cs.map (den env)⟩ ty (0,0))/\∀x∈cs,x.ok M)/\
  ∀(i:Nat)(x:Value)(cs:List Value)(e sz:Nat),y[i]? =some (.row x cs e sz)->EU w e sz x cs
theorem FC.rd{V0 V:AM}{FR:KC}{w:World}(h:FC V0 FR env V M w):RdM env M M w:=⟨λi _ _ hi=>h.sat i _ hi,λi _ _ _ _ hi=>h.sat i _ hi⟩
def Di(t:Array Value):List (Nat×Bool)->Prop
 |[]=>True|a::l=>t[a.1]? =some (.bool a.2)/\Di t l
def N3(env:List Nat)(M:List OB)(lr:List B7)(t:Array Value):Prop:=
 ∀s e,H7 lr s=some e->(Di t e.c->t[s]? =some (den env e.x)/\e.x.ok M)/\(¬Di t e.c->t[s]? =some undef)/\t[e.r]? =t[s]?
structure Ctx where
 P:Program
 T:List G6
 fn:Func
 nt:Nat
 V0:AM
 R:AM->Value->List OB->Prop
 PR:AM->List PanicEntry->List OB->Prop:=λ_ _ _=>False
structure ABy where
 all:List Oper
 listed:List Bool
 n:Nat
 ends:List Nat
 n0:Nat
 mask:List Nat
 V:AM
 Ih:List (Nat×Bool)
 lr:List B7
structure DFr where
 env:List Nat
 V:AM
 M:List OB
def DFr.none:DFr:=⟨[],λ_=>Option.none,[]⟩
def SD(y:DFr)(w:World):Prop:=
 Holds y.V w/\(∀(i:Nat)(cs:List SV)(ty:Nat),y.M[i]? =some (.Bp cs ty)->w.heap[Bm y.env i]? =some (.cells ⟨cs.map (den y.env)⟩ ty (0,0)))/\
  ∀(i:Nat)(x:Value)(cs:List Value)(e sz:Nat),y.M[i]? =some (.row x cs e sz)->EU w e sz x cs
def Sy:List Nat->List Bool->Bool
 |[],_=>true|e::l,ls=>match lst ls e with
  |true=>false|false=>Sy l ls
def Ln{α:Type}:Nat->List α->List α
 |0,_=>[]|_+1,[]=>[]|n+1,a::l=>a::Ln n l
def inL(i:Nat):List Nat->Bool
 |[]=>false|a::l=>match Nat.beq a i with
  |true=>true|false=>inL i l
def Sd(mask:List Nat):Nat->Nat->List OB->List OB
 |_,0,_=>[]|_,_+1,[]=>[]|i,n+1,b::l=>match inL i mask with
  |true=>.gone::Sd mask (i+1) n l|false=>b::Sd mask (i+1) n l
def ALV(all:List Oper)(ends:List Nat)(listed:List Bool)(i d:Nat)(li:List Nat):Bool:=
 match ADt all,RQ all listed,Zb all listed i d li 0 all,ALT all listed i ends with
 |true,true,true,true=>true|_,_,_,_=>false
def headD(all:List Oper)(ends:List Nat)(listed:List Bool)(i:Nat):Bool:=
 match nth all i with
 |some o=>match o.dst,looks all o with
  |some d,some li=>match ALV all ends listed i d li with
   |true=>inL i (rdy listed 0 all)|false=>false
  |_,_=>false
 |none=>false
def ANf(i:Nat):List Nat->Bool
 |[j]=>Nat.beq j i|_=>false
def Hg(all:List Oper)(ends:List Nat):Nat->List Bool->List (Nat×Bool)->Bool
 |_,_,[]=>true|0,_,_::_=>false|n+1,listed,(i,true)::r=>match headD all ends listed i with
  |true=>Hg all ends n (Ha listed i) r|false=>false
 |n+1,listed,(i,false)::r=>match RQ all listed,ANf i (rdy listed 0 all)with
  |true,true=>Hg all ends n (Ha listed i) r|_,_=>false
structure Pp(DF:DFr)(D:ABy)(env:List Nat)(V:AM)(M:List OB):Prop where
 pre:∃r,env=DF.env++r
 len:DF.env.length=D.n0
 AFO:D.n0<=M.length
 v:DF.V=D.V
 vle:DI DF.V V
 ok:∃M1:List OB,M1.length=D.n0/\∀(i:Nat)(cs:List SV)(ty:Nat),DF.M[i]? =some (.Bp cs ty)->∀x∈cs,x.ok M1
 mem:Sy D.ends D.listed=true->DF.M=Sd D.mask 0 D.n0 M
 Ih:Hg D.all D.ends D.n D.listed D.Ih=true
inductive Kt where
 |draw (D:ABy)
 |code (c:Code)
 |inBlock (id:Nat)
 |inLoop (I:Fr->AM->List OB->Prop)
 |ops (rest all:List Oper) (lr:List B7)
structure St where
 k:List Kt
 L:Fr
 M:List OB
def ABH(C:Ctx)(FR:KC)(e:Ending)(w:World):Prop:=
 (∃v env V M,e=.returned v/\FC C.V0 FR env V M w/\C.R V v M)\/∃p env V M,e=.panicked p/\FC C.V0 FR env V M w/\C.PR V p M
def post(C:Ctx)(FR:KC):DFr->List Kt->Exit->Act->World->Prop
 |_,[]=>bodyPost C.P C.fn (ABH C FR)|_,.code c::k=>Exit.then (c.wp C.P (post C FR .none k)) (post C FR .none k)
 |_,.inBlock id::k=>Exit.inBlock id (post C FR .none k)|_,.inLoop I::k=>Exit.then (λa w=>a.defers=[]/\a.tmps.size=C.nt/\∃env L V M,FC C.V0 FR env V M w/\Ng env M L a.tmps/\I L V M) (post C FR .none k)
 |y,.ops rest all _::k=>Exit.then (wpList C.P ⟨all⟩ (post C FR y k) rest) (post C FR y k)
 |y,.draw D::k=>Exit.then (λa w=>SF D.ends (SD y) ⟨D.listed⟩ w/\AAa C.P ⟨D.all⟩ (post C FR .none k) (SF D.ends (SD y)) D.n ⟨D.listed⟩ a w) (post C FR .none k)
def hdR:List Kt->List B7
 |.ops _ _ lr::_=>lr|.draw D::_=>D.lr|_=>[]
def My(y:DFr)(env:List Nat)(V:AM)(M:List OB):List Kt->Prop
 |.draw D::_=>Pp y D env V M|.ops _ _ _:: .draw D::_=>Pp y D env V M|_=>True
@[irreducible] def AD (C:Ctx) (s:St) (V:AM):Prop:=
 ∀FR y env t w,t.size=C.nt->FC C.V0 FR env V s.M w->Ng env s.M s.L t->N3 env s.M (hdR s.k) t->My y env V s.M s.k->post C FR y s.k .normal ⟨t,[]⟩ w
def ADE(id:Nat):List Kt->AA (List Kt)
 |[]=>none|.inBlock y::k=>match Nat.beq y id with
  |true=>some k|false=>ADE id k
 |_::k=>ADE id k
def It{α:Type}:List α->Nat->α->AA (List α)
 |[],_,_=>none|_::l,0,x=>some (x::l)|a::l,n+1,x=>match It l n x with
  |some r=>some (a::r)|none=>none
def RO{α:Type}:List α->α->Nat->AA (List α×Nat)
 |[],x,i=>some ([x],i)|a::l,x,i=>match RO l x (i+1)with
  |some (r,n)=>some (a::r,n)|none=>none
def ZW:List Value->AA (List SV)
 |[]=>some []|x::l=>match ZW l with
  |some r=>some (.v x::r)|none=>none
def WY:SV->AA (List SV)
 |.v (.agg ⟨cs⟩)=>ZW cs|.v x=>some [.v x]|x=>some [x]
def one:SV->Bool
 |.v (.agg _)=>false|.v (.tuple _)=>false|.v (.bool _)=>true|.v (.int _ _)=>true|.v (.string _)=>true|.v (.pointer _)=>true|.v (.slice _ _ _)=>true|.v (.map _)=>true|.v (.func _ _ _)=>true|.v .nilFunc=>true|.v (.iface _ _)=>true|.v .nilIface=>true|.ptr _ _=>true|.TY _ _ _ _=>true|.el _ _=>true|_=>false
def Rv:List SV->Bool
 |[]=>true|x::l=>match one x with
  |true=>Rv l|false=>false
def Yn(place:Nat->AA (Nat×Nat))(e:Operand->AA SV)(cs:List SV):List (Nat×Operand)->AA (List SV)
 |[]=>some cs|(i,x)::r=>match place i with
  |some (off,size)=>match e x with
   |some v=>match WY v with
    |some vs=>match Nat.beq vs.length size with
     |true=>match AB6 cs off vs with
      |some y=>Yn place e y r|none=>none
     |false=>none
    |none=>none
   |none=>none
  |none=>none
def placeOf(T:List G6)(t:Nat)(i:Nat):AA (Nat×Nat):=
 match ABE T t i with
 |some (off,fd)=>some (off,fd.size)|none=>none
def ANP(T:List G6):List (Nat×Nat)->Bool
 |[]=>true|(_,ft)::r=>match nth T ft with
  |some fd=>match fd.size with
   |0=>false|_+1=>ANP T r
  |none=>false
def AAW(T:List G6)(t:Nat)(parts:List (Nat×Operand))(e:Operand->AA SV):AA SV:=
 match nth T t with
 |some d=>match d.size with
  |0=>none|_+1=>match d.RI with
   |.struct fs=>match ANP T fs with
    |true=>match ZW d.zero with
     |some z=>match Yn (placeOf T t) e z parts with
      |some cs=>match Oo cs with
       |some l=>some (.v (.agg ⟨l⟩))|none=>none
      |none=>none
     |none=>none
    |false=>none
   |_=>none
 |none=>none
def AJD(z:List SV):Nat->AA (List SV)
 |0=>some []|n+1=>match AJD z n with
  |some r=>some (z++r)|none=>none
def valOf(T:List G6)(y:Je)(M:List OB)(G:List (Nat×Bool))(op:Op):AA (SV×AA Nat):=
 match op with
 |.move x=>match y x with
  |some (c,v,r)=>match ADa c G with
   |true=>match ADa G c with
    |true=>some (v,r)|false=>some (v,none)
   |false=>none
  |none=>none
 |.pick c a b=>match y c with
  |some (K,.v (.bool x),rc)=>match ADa K G with
   |true=>match rc with
    |some r=>match ev y ((r,true)::G) a,ev y ((r,false)::G) b with
     |some z,some H=>match ADo x a b z H with
      |some v=>some (v,none)|none=>none
     |_,_=>none
    |none=>match ev y G a,ev y G b with
     |some z,some H=>match ADo x a b z H with
      |some v=>some (v,none)|none=>none
     |_,_=>none
   |false=>none
  |_=>none
 |.load t x=>match nth T t with
  |some d=>match d.size with
   |0=>none|_+1=>match ev y G x with
    |some (.ptr i o)=>match nth M i with
     |some (.Bp cs _)=>match Yb d cs o with
      |some v=>some (v,none)|none=>none
     |_=>none
    |_=>none
  |none=>none
 |.nilCheck x=>match ev y G x with
  |some (.ptr i o)=>some (.ptr i o,none)|some (.v (.pointer (some a)))=>some (.v (.pointer (some a)),none)|_=>none
 |.build t ⟨parts⟩=>match AAW T t parts (ev y G)with
  |some v=>some (v,none)|none=>none
 |op=>match pv T op (ev y G)with
  |some v=>some (v,none)|none=>none
def AFI(T:List G6)(H:Je)(M:List OB)(op:Op):AA (AA SV×List OB):=
 match op with
 |.store t x y=>match nth T t with
  |some d=>match d.size with
   |0=>none|sz+1=>match ev H [] x,ev H [] y with
    |some (.ptr i o),some v=>match nth M i with
     |some (.Bp cs ty)=>match WY v with
      |some vs=>match Nat.beq vs.length (sz+1),Rv vs with
       |true,true=>match AB6 cs o vs with
        |some K=>match It M i (.Bp K ty)with
         |some M'=>some (none,M')|none=>none
        |none=>none
       |_,_=>none
      |none=>none
     |_=>none
    |_,_=>none
  |none=>none
 |.box t x=>match ev H [] x with
  |some v=>match WY v with
   |some cs=>match RO M (.Bp cs t) 0 with
    |some (M',n)=>some (some (.ptr n 0),M')|none=>none
   |none=>none
  |none=>none
 |.alloc t=>match nth T t with
  |some d=>match d.size with
   |0=>none|_+1=>match ZW d.zero with
    |some z=>match RO M (.Bp z t) 0 with
     |some (M',n)=>some (some (.ptr n 0),M')|none=>none
    |none=>none
  |none=>none
 |_=>none
def ABP(T:List G6)(K:Je)(M:List OB)(op:Op):AA (SV×List OB×Nat×List SV×Nat):=
 match op with
 |.buildSlice t len ⟨parts⟩=>match nth T t with
  |some d=>match d.size with
   |0=>none|_+1=>match d.RI with
    |.slice e=>match nth T e with
     |some y=>match y.size with
      |0=>none|sz+1=>match Nat.ble (len*(sz+1)) 16777216,ZW y.zero,Nat.beq y.zero.length (sz+1)with
       |true,some z,true=>match AJD z len with
        |some H=>match Yn (λi=>some (i*(sz+1),sz+1)) (ev K []) H parts with
         |some cs=>match RO M (.Bp cs e) 0 with
          |some (M',n)=>some (.TY n 0 len len,M',n,cs,e)|none=>none
         |none=>none
        |none=>none
       |_,_,_=>none
     |none=>none
    |_=>none
  |none=>none
 |_=>none
def L9(i:Nat):List Kt->Bool
 |.draw D::_=>match Sy D.ends D.listed with
  |true=>match inL i D.mask with
   |true=>true|false=>Nat.ble D.n0 i
  |false=>true
 |_=>true
def AMP(y:Je):Op->AA Nat
 |.store _ x _=>match ev y [] x with
  |some (.ptr i _)=>some i|_=>none
 |_=>none
def AGd(T:List G6)(nt:Nat)(o:Oper)(rest all:List Oper)(lr:List B7)(k:List Kt)(L:Fr)(M:List OB):AA St:=
 match IH all lr o.guard with
 |none=>none|some []=>match valOf T (Et L lr) M [] o.op with
  |some (v,r)=>match o.dst with
   |some d=>match Nat.blt d nt,M8 d lr with
    |true,true=>match r with
     |some r=>some ⟨.ops rest all (⟨d,[],v,r⟩::lr)::k,(d,v)::L,M⟩|none=>some ⟨.ops rest all (⟨d,[],v,d⟩::lr)::k,(d,v)::L,M⟩
    |_,_=>none
   |none=>none
  |none=>match AFI T (Et L lr) M o.op with
   |some (some v,M')=>match o.dst with
    |some d=>match Nat.blt d nt,M8 d lr with
     |true,true=>some ⟨.ops rest all (⟨d,[],v,d⟩::lr)::k,(d,v)::L,M'⟩|_,_=>none
    |none=>none
   |some (none,M')=>match o.dst,AMP (Et L lr) o.op with
    |none,some i=>match L9 i k with
     |true=>some ⟨.ops rest all lr::k,L,M'⟩|false=>none
    |_,_=>none
   |none=>none
 |some G=>match valOf T (Et L lr) M G o.op with
  |some (v,r)=>match o.dst with
   |some d=>match Nat.blt d nt,M8 d lr,EF L d with
    |true,true,none=>match r with
     |some r=>some ⟨.ops rest all (⟨d,G,v,r⟩::lr)::k,L,M⟩|none=>some ⟨.ops rest all (⟨d,G,v,d⟩::lr)::k,L,M⟩
    |_,_,_=>none
   |none=>none
  |none=>none
def Kw:List Kt->Bool
 |.ops _ _ _::_=>false|.draw _::_=>false|_=>true
def toK(k:List Kt)(L:Fr)(M:List OB):AA St:=
 match Kw k with
 |true=>some ⟨k,L,M⟩|false=>none
def N6{α:Type}:List α->Nat
 |[]=>0|_::l=>N6 l+1
def UY:List Oper->List Bool
 |[]=>[]|_::l=>false::UY l
def APS:Op->Bool
 |.store _ _ _=>true|.mapUpdate _ _ _ _=>true|.entryStore _ _ _ _=>true|.insert _ _ _ _=>true|.call ⟨.builtin .append,_,_⟩=>true|.call ⟨.builtin .copy,_,_⟩=>true|_=>false
def APg(es:List Edge):Nat->Bool
 |0=>true|n+1=>match Sj n es with
  |true=>APg es n|false=>false
def ALc(L:Fr)(all:List Oper):Nat->Operand->AA Nat
 |0,_=>none|n+1,.tmp s=>match EF L s with
  |some (.ptr i _)=>some i|_=>match all.find? (λo=>AKb s o.dst)with
   |some o=>match o.op with
    |.fieldAddr _ x _=>ALc L all n x|.move x=>ALc L all n x|_=>none
   |none=>none
 |_,_=>none
def AHK(L:Fr)(all:List Oper):Nat->List Oper->List Nat×List Nat
 |_,[]=>([],[])|i,o::r=>match AHK L all (i+1) r with
  |(es,ms)=>match APS o.op with
   |true=>match APg o.after.toList i with
    |true=>(i::es,ms)|false=>match o.op with
     |.store _ x _=>match ALc L all 5 x with
      |some b=>(es,b::ms)|none=>(i::es,ms)
     |_=>(i::es,ms)
   |false=>(es,ms)
def AHE(T:List G6)(nt:Nat)(all:List Oper)(listed:List Bool)(ends:List Nat)(n0:Nat)(mask:List Nat)(V:AM)(lr:List B7)(n i:Nat)(p:List (Nat×Bool))(k:List Kt)(L:Fr)(M:List OB):AA St:=
 match nth all i with
 |some o=>match IH all lr o.guard with
  |some []=>match valOf T (Et L lr) (Sd mask 0 n0 M) [] o.op with
   |some (v,r)=>match o.dst with
    |some d=>match Nat.blt d nt,M8 d lr with
     |true,true=>match r with
      |some r=>some ⟨.draw ⟨all,Ha listed i,n,ends,n0,mask,V,p,⟨d,[],v,r⟩::lr⟩::k,(d,v)::L,M⟩|none=>some ⟨.draw ⟨all,Ha listed i,n,ends,n0,mask,V,p,⟨d,[],v,d⟩::lr⟩::k,(d,v)::L,M⟩
     |_,_=>none
    |none=>none
   |none=>none
  |some G=>match valOf T (Et L lr) (Sd mask 0 n0 M) G o.op with
   |some (v,r)=>match o.dst with
    |some d=>match Nat.blt d nt,M8 d lr,EF L d with
     |true,true,none=>match r with
      |some r=>some ⟨.draw ⟨all,Ha listed i,n,ends,n0,mask,V,p,⟨d,G,v,r⟩::lr⟩::k,L,M⟩|none=>some ⟨.draw ⟨all,Ha listed i,n,ends,n0,mask,V,p,⟨d,G,v,d⟩::lr⟩::k,L,M⟩
     |_,_,_=>none
    |none=>none
   |none=>none
  |none=>none
 |none=>none
def AKX(T:List G6)(nt:Nat)(all:List Oper)(listed:List Bool)(n:Nat)(ends:List Nat)(n0:Nat)(mask:List Nat)(V:AM)(Ih:List (Nat×Bool))(lr:List B7)(k:List Kt)(L:Fr)(M:List OB):AA St:=
 match Ih with
 |[]=>match RQ all listed,rdy listed 0 all with
  |true,[]=>toK k L M|_,_=>none
 |(i,true)::p=>match n with
  |n+1=>AHE T nt all listed ends n0 mask V lr n i p k L M|0=>none
 |(i,false)::p=>match n,nth all i with
  |n+1,some o=>some ⟨.ops [o] all lr:: .draw ⟨all,Ha listed i,n,ends,n0,mask,V,p,lr⟩::k,L,M⟩|_,_=>none
def step(T:List G6)(nt:Nat)(V:AM):St->AA St
 |⟨.code .skip::k,L,M⟩=>toK k L M|⟨.code (.label _)::k,L,M⟩=>toK k L M|⟨.code (.seq a b)::k,L,M⟩=>some ⟨.code a:: .code b::k,L,M⟩|⟨.code (.block id c)::k,L,M⟩=>some ⟨.code c:: .inBlock id::k,L,M⟩|⟨.code (.exit id)::k,L,M⟩=>match ADE id k with
  |some y=>toK y L M|none=>none
 |⟨.code (.region _ ⟨ops⟩ false)::k,L,M⟩=>match Kw k with
  |true=>some ⟨.ops ops ops []::k,L,M⟩|false=>none
 |⟨.inBlock _::k,L,M⟩=>toK k L M|⟨.ops [] _ lr:: .draw ⟨all,listed,n,ends,n0,mask,V,Ih,_⟩::k,L,M⟩=>some ⟨.draw ⟨all,listed,n,ends,n0,mask,V,Ih,lr⟩::k,L,M⟩|⟨.draw ⟨all,listed,n,ends,n0,mask,V,Ih,lr⟩::k,L,M⟩=>AKX T nt all listed n ends n0 mask V Ih lr k L M|⟨.ops [] _ _::k,L,M⟩=>toK k L M|⟨.ops (o::rest) all lr::k,L,M⟩=>AGd T nt o rest all lr k L M|_=>none
def run(T:List G6)(nt:Nat)(V:AM):Nat->St->St
 |0,s=>s|n+1,s=>match step T nt V s with
  |some y=>run T nt V n y|none=>s
theorem Uc(h:C6 M i):i<M.length:=by
 have⟨o,h1,_⟩:=h;exact(As.1 h1).1
theorem K1(b:OB)(h:C6 M i):C6 (M++[b]) i:=by
 have⟨o,h1,h2⟩:=h;exact⟨o,by rw[DL,if_pos (As.1 h1).1];exact h1,h2⟩
theorem GO{b:OB}(z:b≠ .gone)(h:C6 M i):C6 (M.set j b) i:=by
 have hi:=Uc h;have⟨o,h1,h2⟩:=h;rw[C6];by_cases y:j=i
 ·grind
 ·grind
theorem DM(h:∀i,C6 M i->C6 M' i):∀{x:SV},x.ok M->x.ok M'
 |.v _,_=>trivial|.ptr _ _,k=>h _ k|.TY _ _ _ _,k=>h _ k|.el _ _,k=>k
theorem Mg{b:Nat}(h:i<env.length):Bm (env++[b]) i=Bm env i:=by
 simp[Bm,DL,h]
theorem Lc(env:List Nat)(b:Nat):Bm (env++[b]) env.length=b:=by simp[Bm]
theorem Iv{b:Nat}(hl:env.length=M.length):∀{x:SV},x.ok M->den (env++[b]) x=den env x
 |.v _,_=>rfl|.ptr _ _,h=>by simp only[den,Mg (hl▸Uc h)]
 |.TY _ _ _ _,h=>by simp only[den,Mg (hl▸Uc h)]
 |.el _ _,_=>rfl
theorem F6{a b:Nat}(h:Nat.beq a b=true):a=b:=Ij h
theorem J0{a b:Nat}(h:Nat.beq a b=false):a≠b:=KX h
theorem ANK:∀{a b:Bool},AOi a b=true->a=b:=by intro a b h;cases a<;>cases b<;>first|rfl|simp[AOi]at h
theorem MC(d:Nat)(x:SV)(L:Fr)(s:Nat):EF ((d,x)::L) s=if d=s then some x else EF L s:=by
 simp only[EF];split
 ·rename_i h;rw[if_pos (F6 h)]
 ·rename_i h;rw[if_neg (J0 h)]
theorem O3(e:B7)(l:List B7)(s:Nat):H7 (e::l) s=if e.s=s then some e else H7 l s:=by
 simp only[H7];split
 ·rename_i h;rw[if_pos (F6 h)]
 ·rename_i h;rw[if_neg (J0 h)]
theorem WQ(t:Array Value)(a:Nat×Bool):∀G,AJP a G=true->Di t G->t[a.1]? =some (.bool a.2)
 |[],h,_=>by simp[AJP]at h
 |b::l,h,y=>by
  simp only[AJP]at h;split at h
  ·rename_i h1;split at h
   ·rename_i h2;rw[F6 h1,ANK h2];exact y.1
   ·exact WQ t a l h y.2
  ·exact WQ t a l h y.2
theorem Hx(t:Array Value)(G:List (Nat×Bool)):∀c,ADa c G=true->Di t G->Di t c
 |[],_,_=>trivial|a::l,h,y=>by
  simp only[ADa]at h;split at h
  ·rename_i h1;exact⟨WQ t a G h1 y,Hx t G l h y⟩
  ·simp at h
theorem AE2{t:Array Value}{d:Nat}(h:d<t.size)(u:Value):(t.setIfInBounds d u)[d]? =some u:=by
 simp[h]
theorem R9{t:Array Value}{d s:Nat}(h:s≠d)(u:Value):(t.setIfInBounds d u)[s]? =t[s]? :=by
 simp[h.symm]
theorem SN{t:Array Value}{d:Nat}(u:Value):∀{c:List (Nat×Bool)},UU d c=true->(Di (t.setIfInBounds d u) c↔Di t c)
 |[],_=>Iff.rfl|a::l,h=>by
  simp only[UU]at h;split at h
  ·simp at h
  ·rename_i h1;simp only[Di,R9 (J0 h1) u,SN u h]
theorem Pf{d:Nat}:∀{lr:List B7},M8 d lr=true->∀{s e},H7 lr s=some e->s≠d/\e.r≠d/\UU d e.c=true
 |[],_,s,e,h=>by simp[H7]at h
 |a::l,y,s,e,h=>by
  simp only[M8]at y;split at y
  ·simp at y
  ·rename_i h1;split at y
   ·simp at y
   ·rename_i h2;split at y
    ·rename_i h3;rw[O3]at h;split at h
     ·rename_i z;simp only[AE]at h;subst h;exact⟨by rw[<- z];exact J0 h1,J0 h2,h3⟩
     ·exact Pf y h
    ·simp at y
theorem Ng.put{t:Array Value}(h:Ng env M L t){d:Nat}(H:d<t.size){x:SV}(K:x.ok M):Ng env M ((d,x)::L) (t.setIfInBounds d (den env x)):=by
 intro s y z;rw[MC]at z;split at z
 ·grind
 ·rename_i h1;rw[R9 (λe=>h1 e.symm)];exact h s y z
theorem Ng.AAN{t:Array Value}(h:Ng env M L t){d:Nat}(H:EF L d=none)(u:Value):Ng env M L (t.setIfInBounds d u):=by
 intro s y z;have:s≠d:=by grind
 rw[R9 this];exact h s y z
theorem N3.put{t:Array Value}(h:N3 env M lr t){d:Nat}(z:d<t.size)(H:M8 d lr=true){x:SV}{r:Nat}{u:Value}(h1:Di t G->u=den env x)(h2:¬Di t G->u=undef)(hG:UU d G=true)(X:r=d\/(r≠d/\t[r]? =some u))(K:Di t G->x.ok M):N3 env M (⟨d,G,x,r⟩::lr) (t.setIfInBounds d u):=by
 intro s e he;rw[O3]at he;split at he
 ·rename_i h3;simp only[AE]at he;subst he;simp only at h3;subst h3;refine⟨λy=>⟨?_,K ((SN u hG).1 y)⟩,λy=>?_,?_⟩
  ·rw[AE2 z,h1 ((SN u hG).1 y)]
  ·rw[AE2 z,h2 (λk=>y ((SN u hG).2 k))]
  ·grind
 ·have⟨k1,k2,k3⟩:=Pf H he;have⟨N,O,W⟩:=h s e he;rw[R9 k1,R9 k2,SN u k3];exact⟨N,O,W⟩
theorem Ng.mono{t:Array Value}(hl:env.length=M.length)(h:Ng env M L t)(b:Nat)(o:OB):Ng (env++[b]) (M++[o]) L t:=by
 intro s y z;have⟨h1,h2⟩:=h s y z;exact⟨by rw[Iv hl h2];exact h1,DM (λ_=>K1 o) h2⟩
theorem N3.mono{t:Array Value}(hl:env.length=M.length)(h:N3 env M lr t)(b:Nat)(o:OB):N3 (env++[b]) (M++[o]) lr t:=by
 intro s e he;have⟨h1,h2,h3⟩:=h s e he;exact⟨λy=>⟨by rw[Iv hl (h1 y).2];exact(h1 y).1,DM (λ_=>K1 o) (h1 y).2⟩,h2,h3⟩
theorem Ng.set{t:Array Value}(h:Ng env M L t){o:OB}(H:o≠ .gone):Ng env (M.set i o) L t:=λs y z=>
 ⟨(h s y z).1,DM (λ_=>GO H) (h s y z).2⟩
theorem N3.set{t:Array Value}(h:N3 env M lr t){o:OB}(z:o≠ .gone):N3 env (M.set i o) lr t:=λs e he=>
 ⟨λy=>⟨((h s e he).1 y).1,DM (λ_=>GO z) ((h s e he).1 y).2⟩,(h s e he).2⟩
def NU(env:List Nat)(M:List OB)(t:Array Value)(y:Je):Prop:=
 ∀x c v r,y x=some (c,v,r)->(Di t c->(⟨t,[]⟩:Act).eval x=den env v)/\(Di t c->v.ok M)/\
  ∀r0,r=some r0->(Di t c->t[r0]? =some (den env v))/\(¬Di t c->t[r0]? =some undef)
theorem A2{t:Array Value}(H:Ng env M L t)(hR:N3 env M lr t):NU env M t (Et L lr):=by
 intro x c v r h;cases x with
 |const y=>simp only[Et,AE,BJ]at h;obtain⟨rfl,rfl,rfl⟩:=h;exact⟨λ_=>Y,λ_=>Yt,λ_ h=>by simp at h⟩
 |func f=>simp only[Et,AE,BJ]at h;obtain⟨rfl,rfl,rfl⟩:=h;exact⟨λ_=>Y,λ_=>Yt,λ_ h=>by simp at h⟩
 |global g=>simp only[Et,AE,BJ]at h;obtain⟨rfl,rfl,rfl⟩:=h;exact⟨λ_=>Y,λ_=>Yt,λ_ h=>by simp at h⟩
 |tmp s=>
  simp only[Et]at h;split at h
  ·rename_i N c1 O r1 he;simp only[AE,BJ]at h;obtain⟨rfl,rfl,rfl⟩:=h;have⟨h1,h2,h3⟩:=hR s _ he;refine⟨λz=>?_,λz=>(h1 z).2,λr0 W=>?_⟩
   ·have:=(h1 z).1;simp[Act.eval,this]
   ·grind
  ·split at h
   ·rename_i y K;simp only[AE,BJ]at h;obtain⟨rfl,rfl,rfl⟩:=h;have⟨h1,h2⟩:=H s _ K;exact⟨λ_=>by simp[Act.eval,h1],λ_=>h2,λ_ h=>by simp at h⟩
   ·simp at h
theorem AFA{x:Operand}{c:List (Nat×Bool)}{v:SV}(h:Et L lr x=some (c,v,some y)):∃s e,H7 lr s=some e/\e.r=y:=by
 cases x with
 |const aa=>simp[Et]at h|func f=>simp[Et]at h|global g=>simp[Et]at h|tmp s=>
  simp only[Et]at h;split at h
  ·grind
  ·grind
theorem BN{t:Array Value}(y:NU env M t ag)(hG:Di t G){x:Operand}{v:SV}(h:ev ag G x=some v):(⟨t,[]⟩:Act).eval x=den env v:=by
 unfold ev at h;split at h
 ·rename_i c K r z;split at h
  ·rename_i H;simp only[AE]at h;subst h;exact(y _ _ _ _ z).1 (Hx t G c H hG)
  ·simp at h
 ·simp at h
theorem Vl{t:Array Value}(y:NU env M t ag)(hG:Di t G){x:Operand}{v:SV}(h:ev ag G x=some v):v.ok M:=by
 unfold ev at h;split at h
 ·rename_i c K r z;split at h
  ·rename_i H;simp only[AE]at h;subst h;exact(y _ _ _ _ z).2.1 (Hx t G c H hG)
  ·simp at h
 ·simp at h
theorem Ch{t:Array Value}(hR:N3 env M lr t)(h:IH all lr o.guard=some G):Region.wanted o (yielded ⟨all⟩ t)=true↔Di t G:=by
 unfold Region.wanted;cases z:o.guard with
 |none=>rw[z]at h;simp only[IH,AE]at h;subst h;simp[Di]|some K=>
  have⟨j,want⟩:=K;rw[z]at h;simp only[IH]at h;split at h
  ·rename_i N H;split at h
   ·rename_i s O;split at h
    ·rename_i Z c1 x1 r1 he;simp only[AE]at h;subst h;have⟨h1,h2,h3⟩:=hR s _ he;simp only at h1 h2 h3;rw[Cc]at H;have W:yielded ⟨all⟩ t j=match t[s]? with|some (.bool b)=>some b|_=>none:=by
      unfold yielded;have:(⟨all⟩:Array Oper)[j]? =some N:=by simpa using H
      rw[this];simp only[Option.bind_some,O];rfl
     simp only[W,Di,h3];constructor
     ·intro hw;have y:t[s]? =some (.bool want):=by
       split at hw
       ·rename_i b y;simp at hw;rw[y,hw]
       ·simp at hw
      refine⟨y,?_⟩;refine Classical.byContradiction λX=>?_;rw[h2 X]at y;simp[undef]at y
     ·grind
    ·simp at h
   ·simp at h
  ·simp at h
theorem RS{g:AA (Nat×Bool)}{d:Nat}(h:IH all lr g=some G)(y:M8 d lr=true):UU d G=true:=by
 cases g with
 |none=>simp only[IH,AE]at h;subst h;rfl|some z=>
  have⟨j,want⟩:=z;simp only[IH]at h;split at h
  ·split at h
   ·split at h
    ·rename_i K c1 N r1 he;simp only[AE]at h;subst h;have⟨k1,k2,k3⟩:=Pf y he;simp only at k2 k3;simp only[UU];split
     ·rename_i H;exact absurd (F6 H) k2
     ·exact k3
    ·simp at h
   ·simp at h
  ·simp at h
theorem Gl{env:List Nat}:∀{l:List SV}{r:List Value},Oo l=some r->l.map (den env)=r
 |[],r,h=>by simp only[Oo,AE]at h;subst h;rfl
 |.v x::l,r,h=>by
  simp only[Oo]at h;split at h
  ·rename_i z y;simp only[AE]at h;subst h;simp[den,Gl y]
  ·simp at h
 |.ptr _ _::l,r,h=>by simp[Oo]at h
 |.TY _ _ _ _::l,r,h=>by simp[Oo]at h
 |.el _ _::l,r,h=>by simp[Oo]at h
theorem Pe{env:List Nat}{M:List OB}:∀{l:List Value}{r:List SV},ZW l=some r->r.map (den env)=l/\∀x∈r,x.ok M
 |[],r,h=>by simp only[ZW,AE]at h;subst h;simp
 |a::l,r,h=>by
  simp only[ZW]at h;split at h
  ·rename_i H z;simp only[AE]at h;subst h;have⟨h1,h2⟩:=Pe (env:=env) (M:=M) z;refine⟨by simp[den,h1],?_⟩;intro x y;simp only[Aj]at y;rcases y with rfl|y
   ·exact Yt
   ·exact h2 x y
  ·simp at h
theorem OI{x:SV}{r:List SV}(z:x.ok M)(h:WY x=some r):(den env x).cells=⟨r.map (den env)⟩/\∀y∈r,y.ok M:=by
 unfold WY at h;split at h
 ·rename_i cs;have⟨h1,h2⟩:=Pe (env:=env) (M:=M) h;exact⟨by simp[den,Value.cells,h1],h2⟩
 ·rename_i y H;simp only[AE]at h;subst h;refine⟨?_,by simp[SV.ok]⟩;cases y<;>simp[den,Value.cells];rename_i cs;exact absurd Y (H cs.toList)
 ·simp only[AE]at h;subst h;refine⟨?_,by simpa using z⟩;cases x with
  |v y=>rename_i h1 h2;exact absurd Y (h2 y)|ptr i o=>simp[den,Value.cells]|TY i o l c=>simp[den,Value.cells]|el a o=>simp[den,Value.cells]
theorem AJL:∀{x:SV},one x=true->(den env x).oneCell'=true:=by
 intro x h;cases x with
 |v y=>cases y<;>first|rfl|simp[one]at h
 |ptr i o=>rfl|TY i o l c=>rfl|el a o=>rfl
theorem OK{env:List Nat}:∀{l:List SV},Rv l=true->∀v∈l.map (den env),v.oneCell'=true
 |[],_,v,hv=>by simp at hv
 |x::l,h,v,hv=>by
  simp only[Rv]at h;split at h
  ·rename_i h1;simp only[B8,Aj]at hv;rcases hv with rfl|hv
   ·exact AJL h1
   ·exact OK h v hv
  ·simp at h
theorem Ss{α:Type}:∀{l:List α}{o:Nat}{vs r:List α},AB6 l o vs=some r->o+vs.length<=l.length/\r=l.take o++vs++l.drop (o+vs.length)
 |l,0,[],r,h=>by simp only[AB6,AE]at h;subst h;simp
 |[],o+1,vs,r,h=>by simp[AB6]at h
 |[],0,v::vs,r,h=>by simp[AB6]at h
 |a::l,0,v::vs,r,h=>by
  simp only[AB6]at h;split at h
  ·rename_i z y;simp only[AE]at h;subst h;have⟨h1,h2⟩:=Ss y;simp at h1 h2⊢;exact⟨by omega,by rw[h2]⟩
  ·simp at h
 |a::l,o+1,vs,r,h=>by
  simp only[AB6]at h;split at h
  ·rename_i z y;simp only[AE]at h;subst h;have⟨h1,h2⟩:=Ss y;simp at h1 h2⊢;refine⟨by omega,?_⟩;rw[h2,show o+1+vs.length=(o+vs.length)+1 by omega,List.drop_succ_cons]
  ·simp at h
theorem Dg{α:Type}:∀{l:List α}{i:Nat}{x:α}{r:List α},It l i x=some r->i<l.length/\r=l.set i x
 |[],i,x,r,h=>by simp[It]at h
 |a::l,0,x,r,h=>by simp only[It,AE]at h;subst h;simp
 |a::l,i+1,x,r,h=>by
  simp only[It]at h;split at h
  ·rename_i z y;simp only[AE]at h;subst h;have⟨h1,h2⟩:=Dg y;exact⟨by simpa using h1,by simp[h2]⟩
  ·simp at h
theorem He{α:Type}:∀{l:List α}{x:α}{i:Nat}{r:List α}{n:Nat},RO l x i=some (r,n)->r=l++[x]/\n=i+l.length
 |[],x,i,r,n,h=>by simp only[RO,AE,BJ]at h;obtain⟨rfl,rfl⟩:=h;simp
 |a::l,x,i,r,n,h=>by
  simp only[RO]at h;split at h
  ·rename_i z n' y;simp only[AE,BJ]at h;obtain⟨rfl,rfl⟩:=h;have⟨h1,h2⟩:=He y;exact⟨by simp[h1],by simp;omega⟩
  ·simp at h
theorem Dt{w:World}{b:Nat}:∀{o:OB},o.sat env M w b->∀{a},o.own b a->a.block<w.heap.size
 |.gone,_,_,h=>h.elim|.Bp cs ty,h,a,y=>by
  have:a.block=b:=y;rw[this];exact(An.1 h.1).1
 |.row x cs e sz,h,a,y=>by
  have⟨n,h⟩:=h;exact(h.lt _ y).2
 |.ext E,h,a,y=>E.lt h y
theorem Wk{w:World}{b:Nat}(y:w'.heap=w.heap):∀{o:OB},o.sat env M w b->o.sat env M w' b
 |.gone,_=>trivial|.Bp cs ty,h=>⟨by rw[y];exact h.1,h.2⟩
 |.row x cs e sz,⟨n,h1,h2⟩=>⟨n,h1,by
  rcases h2 with h2|⟨g,cap,cur,rfl,k1,k2,k3⟩
  ·exact .inl h2
  ·exact .inr ⟨g,cap,cur,Y,k1,by rw[y];exact k2,k3⟩⟩
 |.ext E,h=>E.frame (λ_ _=>by rw[y]) h
theorem Nu{w:World}(h:EU w e sz x cs)(y:∀g,x.ownBlock=some g->w'.heap[g]? =w.heap[g]?):EU w' e sz x cs:=by
 have⟨n,h1,h2⟩:=h;refine⟨n,h1,?_⟩;rcases h2 with h2|⟨g,cap,cur,rfl,k1,k2,k3⟩
 ·exact .inl h2
 ·exact .inr ⟨g,cap,cur,Y,k1,by rw[y g Y];exact k2,k3⟩
theorem FC.alloc{V0 V:AM}{FR:KC}{w:World}(h:FC V0 FR env V M w){cs:List SV}(Z:∀x∈cs,x.ok M)(ty:Nat):FC V0 FR (env++[w.heap.size]) V (M++[.Bp cs ty]) (w.alloc (.cells ⟨cs.map (den env)⟩ ty)):=by
 have hb:∀a x,V a=some x->a.block<w.heap.size:=λa x W=>World.block_lt_of_cell? w a (h.holds a x W);have hf:∀b o,FR.Bp b=some o->b<w.heap.size:=λb o y=>(An.1 (h.frame b o y)).1;have X:∀a x,w.cell? a=some x->(w.alloc (.cells ⟨cs.map (den env)⟩ ty)).cell? a=some x:=λa x W=>by
  rw[World.cell?_alloc_lt w _ a (World.block_lt_of_cell? w a W)];exact W
 have H:∀k,k<w.heap.size->(w.alloc (.cells ⟨cs.map (den env)⟩ ty)).heap[k]? =w.heap[k]? :=λk hk=>Go.RowKit.Below.heap_alloc w _ k hk;have hold:∀(i:Nat)(o:OB),M[i]? =some o->Bm (env++[w.heap.size]) i=Bm env i:=λi o y=>Mg (by rw[h.len];exact(As.1 y).1);have z:∀(i:Nat)(o:OB),(M++[OB.Bp cs ty])[i]? =some o->M[i]? =some o\/(i=M.length/\o=.Bp cs ty):=by grind
 have aa:∀b o,FR.Bp b=some o->_:=λb o y=>(H b (hf b o y)).trans (h.frame b o y);refine⟨h.os,h.tape,h.output,aa,h.le,⟨λa x W=>X a x (h.holds a x W),h.tb.w aa⟩,h.fresh,by simp[h.len],?_,?_,?_,?_,h.tb⟩
 ·intro i o y;rcases z i o y with y|⟨hi,he⟩
  ·rw[hold i o y];have hs:=h.sat i o y;cases o with
   |gone=>trivial|Bp ae af=>
    have⟨k1,k2⟩:=hs;refine⟨?_,λx W=>DM (λ_=>K1 _) (k2 x W)⟩;rw[H _ (An.1 k1).1,k1]
    congr 3
    exact Cu λx W=>(Iv h.len (k2 x W)).symm
   |row x cs e sz=>
    exact Nu hs λg hg=>H _ (Dt (env:=env) (M:=M) (b:=0) (o:=.row x cs e sz) hs (a:=⟨g,0,none⟩) hg)
   |ext E=>exact E.frame (λb hb=>H _ (E.lt hs hb)) hs
  ·subst he;subst hi;rw[show M.length=env.length from h.len.symm,Lc];refine⟨?_,λx W=>DM (λ_=>K1 _) (Z x W)⟩;rw[heap_alloc_new]
   congr 3
   exact Cu λx W=>(Iv h.len (Z x W)).symm
 ·intro i o a y K;rcases z i o y with y|⟨hi,he⟩
  ·rw[hold i o y]at K;exact h.DA i o a y K
  ·subst he;subst hi;rw[show M.length=env.length from h.len.symm,Lc]at K;have K:a.block=w.heap.size:=K;cases hv:V a with
   |none=>rfl|some x=>have:=hb a x hv;omega
 ·intro i o a y K;rcases z i o y with y|⟨hi,he⟩
  ·rw[hold i o y]at K;exact h.C1 i o a y K
  ·subst he;subst hi;rw[show M.length=env.length from h.len.symm,Lc]at K;have K:a.block=w.heap.size:=K;cases hv:FR.Bp a.block with
   |none=>rfl|some x=>have:=hf _ x hv;omega
 ·intro i j o o' a ad y N K O;rcases z i o y with y|⟨hi,he⟩
  ·rcases z j o' N with N|⟨hj,ab⟩
   ·rw[hold i o y]at K;rw[hold j o' N]at O;exact h.apart i j o o' a ad y N K O
   ·subst ab;subst hj;rw[hold i o y]at K;rw[show M.length=env.length from h.len.symm,Lc]at O;have O:a.block=w.heap.size:=O;have:=Dt (h.sat i o y) K;omega
  ·subst he;subst hi;rw[show M.length=env.length from h.len.symm,Lc]at K;have K:a.block=w.heap.size:=K;rcases z j o' N with N|⟨hj,ab⟩
   ·rw[hold j o' N]at O;have:=Dt (h.sat j o' N) O;omega
   ·grind
theorem FC.store{V0 V:AM}{FR:KC}{w:World}(h:FC V0 FR env V M w){cs:List SV}(hi:M[i]? =some (.Bp cs y))(ad:∀x∈ak,x.ok M)(hl:ak.length=cs.length):FC V0 FR env V (M.set i (.Bp ak y)) (w.setRow (Bm env i) ⟨ak.map (den env)⟩):=by
 have hs:=h.sat i _ hi;have ah:i<M.length:=(As.1 hi).1;have z:∀k,k≠Bm env i->(w.setRow (Bm env i) ⟨ak.map (den env)⟩).heap[k]? =w.heap[k]? :=λk hk=>setRow_other w _ k _ hk;have aa:∀a:Addr,a.block=Bm env i->V a=none/\FR.Bp a.block=none:=λa O=>⟨h.DA i _ a hi O,h.C1 i _ a hi O⟩;have N:∀(j:Nat)(o:OB),j≠i->M[j]? =some o->∀a:Addr,o.own (Bm env j) a->a.block≠Bm env i:=λj o W H a O hb=>h.apart j i o _ a W H hi O hb;have X:∀(j:Nat)(o:OB),(M.set i (.Bp ak y))[j]? =some o->(j≠i/\M[j]? =some o)\/(j=i/\o=.Bp ak y):=by grind
 have K:∀(j:Nat)(o:OB),(M.set i (.Bp ak y))[j]? =some o->∃o0,M[j]? =some o0/\∀a,o.own (Bm env j) a->o0.own (Bm env j) a:=by
  intro j o H;rcases X j o H with⟨_,H⟩|⟨W,he⟩
  ·grind
  ·subst he;subst W;exact⟨_,hi,λ_ h=>h⟩
 have ab:∀b o,FR.Bp b=some o->_:=λb o H=>by
  have:b≠Bm env i:=by
   intro hb;have:=(aa ⟨b,0,none⟩ hb).2;simp only at this;rw[this]at H;simp at H
  exact(z b this).trans (h.frame b o H)
 refine⟨h.os,h.tape,h.output,ab,h.le,⟨?_,h.tb.w ab⟩,h.fresh,by simp[h.len],?_,?_,?_,?_,h.tb⟩
 ·intro a x hx;have:a.block≠Bm env i:=by grind
  rw[cell_setRow_other w _ _ a this];exact h.holds a x hx
 ·intro j o H;rcases X j o H with⟨W,H⟩|⟨W,he⟩
  ·have Z:=h.sat j o H;cases o with
   |gone=>trivial|Bp ai aj=>
    have⟨k1,k2⟩:=Z;refine⟨?_,λx hx=>DM (λ_=>GO zp) (k2 x hx)⟩;rw[z _ (N j _ W H ⟨Bm env j,0,none⟩ Y)];exact k1
   |row x cs e sz=>
    exact Nu Z λg hg=>z _ (N j _ W H ⟨g,0,none⟩ hg)
   |ext E=>exact E.frame (λb hb=>z _ (N j _ W H ⟨b,0,none⟩ hb)) Z
  ·subst he;subst W;exact⟨setRow_heap w _ _ _ _ _ hs.1,λx hx=>DM (λ_=>GO zp) (ad x hx)⟩
 ·intro j o a H O;have⟨o0,h1,h2⟩:=K j o H;exact h.DA j o0 a h1 (h2 a O)
 ·intro j o a H O;have⟨o0,h1,h2⟩:=K j o H;exact h.C1 j o0 a h1 (h2 a O)
 ·intro j k o o' a ae H af O ag;have⟨o0,h1,h2⟩:=K j o H;have⟨o1,h3,h4⟩:=K k o' af;exact h.apart j k o0 o1 a ae h1 h3 (h2 a O) (h4 a ag)
theorem APK{e:Operand->AA SV}(he:∀x a,e x=some a->a.ok M){r:SV}(h:pv T aJ e=some r):r.ok M:=by
 unfold pv at h;split at h
 case h_1 x=>exact he _ _ h
 case h_2 x=>exact he _ _ h
 case h_5 t x f=>
  split at h
  ·split at h
   ·rename_i a y;have:=he _ _ y;unfold addrAt at h;split at h
    ·simp only[AE]at h;subst h;exact this
    ·simp only[AE]at h;subst h;exact this
    ·simp only[AE]at h;subst h;trivial
    ·simp at h
   ·simp at h
  ·simp at h
 case h_6 t x f=>
  split at h
  ·split at h
   ·unfold AKs at h;split at h
    ·split at h
     ·simp only[AE]at h;subst h;trivial
     ·simp at h
    ·simp at h
   ·simp at h
  ·simp at h
 all_goals
  repeat' (split at h)
  all_goals first
   |(simp only[AE]at h;subst h;trivial)|(simp at h;done)
theorem XF{x:Bool}{a b r:SV}(h:ADo x af aw a b=some r)(z:∀y,af=.const (.bool y)->a=.v (.bool y))(H:∀y,aw=.const (.bool y)->b=.v (.bool y)):(∃q,r=.v (.bool q))/\(x=true->r=a)/\(x=false->r=b):=by
 unfold ADo at h;split at h
 ·grind
 ·simp at h
def Plain(z:Je):Prop:=∀y:Value,z (.const y)=some ([],.v y,none)
theorem YS(L:Fr)(lr:List B7):Plain (Et L lr):=λ_=>Y
theorem Xb(hp:Plain ag){a:SV}(h:ev ag G (.const an)=some a):a=.v an:=by
 simp only[ev,hp an,ADa]at h;simp only[AE]at h;exact h.symm
theorem AAp(hT:K2 P T){w:World}{b:Nat}{cs:List SV}(X:w.heap[b]? =some (.cells ⟨cs.map (den env)⟩ y (0,0))){d:G6}(O:nth T t=some d)(N:d.size≠0){o:Nat}{r:SV}(h:Yb d cs o=some r):(loadVar t ⟨b,o,none⟩).run P w=.ok (den env r) w:=by
 have z:∀j,w.cell? ⟨b,j,none⟩=(cs.map (den env))[j]? :=λj=>by rw[cell_of_row w b j _ _ _ X];simp
 unfold Yb at h;simp only[loadVar,Sem.run_bind,AAj hT w O N,Result.andThen_ok];split at h
 ·rename_i K;split at h
  ·rename_i l hl;split at h
   ·rename_i W Z;simp only[AE]at h;subst h;have⟨h1,h2⟩:=ACg hl N;have h3:=Gl (env:=env) Z;have h4:W.length=d.size:=by grind
    have H:=run_loadCells_list (P:=P) w ⟨b,o,none⟩ W (λj v hv=>by
     rw[Addr.add_lit,z];rw[<- h3,h1]at hv;simp only[EX,Cs,DT]at hv⊢;split at hv
     ·exact hv
     ·simp at hv)
    rw[h4]at H;simp only[K,IW,Sem.run_bind,Lf hT w O N,Result.andThen_ok,H];rfl
   ·simp at h
  ·simp at h
 ·rename_i K;rw[Cc]at h;simp only[K,GK,if_false,run_load,z,EX,h,Bq]
theorem AJQ{d:G6}{cs:List SV}{o:Nat}{r:SV}(y:∀x∈cs,x.ok M)(h:Yb d cs o=some r):r.ok M:=by
 unfold Yb at h;split at h
 ·split at h
  ·split at h
   ·simp only[AE]at h;subst h;trivial
   ·simp at h
  ·simp at h
 ·rw[Cc]at h;exact y _ (BP h)
theorem AFa(off:Nat):∀(vs:List Value)(k:Nat)(cur:List Value),off+k+vs.length<=cur.length->(vs.zipIdx k).foldl (λ(cs:Array Value)(p:Value×Nat)=>cs.setIfInBounds (off+p.2) p.1) ⟨cur⟩=⟨cur.take (off+k)++vs++cur.drop (off+k+vs.length)⟩
 |[],k,cur,h=>by simp
 |v::vs,k,cur,h=>by
  simp only[Bz]at h;have y:=AFa off vs (k+1) (cur.set (off+k) v) (by simp;omega);simp only[List.zipIdx_cons,Lq];rw[show(⟨cur⟩:Array Value).setIfInBounds (off+k) v=⟨cur.set (off+k) v⟩from by simp,y]
  congr 1
  apply G2;intro j;simp only[DL,AT,Ao,Cr,Cs,DT,H2,Bz];have z:min (off+(k+1)) cur.length=off+k+1:=ox
  have H:min (off+k) cur.length=off+k:=ox
  rw[z,H];by_cases h1:j<off+k
  ·grind
  ·grind
theorem S6{env:List Nat}{M:List OB}{place place':Nat->AA (Nat×Nat)}(N:∀i p,place i=some p->place' i=some p){e:Operand->AA SV}{ρ:Operand->Value}(he:∀x a,e x=some a->ρ x=den env a/\a.ok M):∀(parts:List (Nat×Operand))(cs r:List SV),(∀x∈cs,x.ok M)->Yn place e cs parts=some r->(Instr.fill place' ⟨cs.map (den env)⟩ (parts.map λp=>(p.1,ρ p.2))=some ⟨r.map (den env)⟩/\(∀x∈r,x.ok M)/\r.length=cs.length)
 |[],cs,r,z,h=>by
  simp only[Yn,AE]at h;subst h;exact⟨Y,z,Y⟩
 |(i,x)::parts,cs,r,z,h=>by
  simp only[Yn]at h;split at h
  ·rename_i off size hp;split at h
   ·rename_i v hv;split at h
    ·rename_i vs W;split at h
     ·rename_i hb;split at h
      ·rename_i K O;have⟨h1,h2⟩:=he x v hv;have⟨h3,h4⟩:=OI (env:=env) h2 W;have⟨h5,X⟩:=Ss O;have Z:∀x∈K,x.ok M:=by
        intro y H;rw[X]at H;simp only[BW]at H;rcases H with(H|H)|H
        ·exact z y (JM H)
        ·exact h4 y H
        ·exact z y (DK H)
       have⟨k1,k2,k3⟩:=S6 N he parts K r Z h;have hl:K.length=cs.length:=by rw[X];simp;omega
       refine⟨?_,k2,by rw[k3,hl]⟩;have aa:vs.length=size:=F6 hb;simp only[B8,Instr.fill,N _ _ hp,h1,h3];rw[if_neg (by simp[aa];omega)];rw[<- k1]
       congr 1
       have:=AFa off (vs.map (den env)) 0 (cs.map (den env)) (by simpa using h5);simp only[JH]at this;rw[X];simp only[E0,List.map_take,List.map_drop,Ap]at this⊢;rw[<- this,<- Array.foldl_toList];simp
      ·simp at h
     ·simp at h
    ·simp at h
   ·simp at h
  ·simp at h
section
variable {P:Program} {T:List G6} (hT:K2 P T)
include hT
theorem Zl:∀(F:List Field),ANP T (F.map λf=>(f.offset,f.type))=true->∃pl,F.mapM (λf=>(P.info? f.type).map λi=>(f.offset,i.size))=some pl/\pl=F.map λf=>(f.offset,((nth T f.type).map (·.size)).getD 0)
 |[],_=>⟨[],by simp,Y⟩
 |f::F,h=>by
  simp only[B8,ANP]at h;split at h
  ·rename_i fd y;split at h
   ·simp at h
   ·rename_i n H;have⟨pl,h1,h2⟩:=Zl F h;have⟨i,K,z,k1,k2,k3,k4⟩:=Qe (hT.1 _ _ y ox);refine⟨(f.offset,i.size)::pl,by simp[R1,k1,h1],?_⟩;rw[B8,y,h2];subst k4;rfl
  ·simp at h
theorem ACK{e:Operand->AA SV}(he:∀x a,e x=some a->ρ x=den env a/\a.ok M){r:SV}(h:AAW T t bf e=some r)(w:World):(Instr.build t ((⟨bf⟩:Array (Nat×Operand)).map λ(i,x)=>(i,ρ x))).run P w=Result.ok (den env r) w/\r.ok M:=by
 unfold AAW at h;split at h<;>try (simp at h;done)
 rename_i d X;split at h<;>try (simp at h;done)
 rename_i n Z;split at h<;>try (simp at h;done)
 rename_i fs hu;split at h<;>try (simp at h;done)
 rename_i H;split at h<;>try (simp at h;done)
 rename_i z hz;split at h<;>try (simp at h;done)
 rename_i cs N;split at h<;>try (simp at h;done)
 rename_i l hl;simp only[AE]at h;subst h;refine⟨?_,Yt⟩;have⟨i,dd,zv,h1,h2,h3,h4⟩:=Qe (hT.1 t d X ox);have⟨F,k1,k2,k3⟩:=Wy hT X ox hu;subst k2;have⟨pl,m1,m2⟩:=Zl hT F.toList H;have⟨z1,z2⟩:=Pe (env:=env) (M:=M) hz;have f4:=Gl (env:=env) hl;refine run_build w t _ ⟨l⟩ ?_;have y:∀i p,placeOf T t i=some p->(pl.toArray[i]? :AA (Nat×Nat))=some p:=by
  intro i p hp;unfold placeOf at hp;split at hp
  ·rename_i off fd hf;simp only[AE]at hp;subst hp;have⟨F',fi,O,g2,g3,g4,g5⟩:=UX hT hf;rw[k1]at O;simp only[AE,TypeDesc.struct.injEq]at O;subst O;rw[m2];have:F.toList[i]? =some fi:=by grind
   simp[g2,g3,g4]
  ·simp at hp
 have⟨f1,f2,f3⟩:=S6 y he bf z cs z2 N;have W:d.zero=zv.cells.toList:=by rw[h4]
 simp only[Program.built,h1,k1,h3,m1];rw[<- f4,<- f1,z1,W];have K:(λx:Nat=>(pl.toArray[x]? :AA (Nat×Nat)))=λx:Nat=>(pl[x]? :AA (Nat×Nat)):=by grind
 simp[K]
end
theorem AAv{env:List Nat}{z:List SV}:∀{n:Nat}{r:List SV},AJD z n=some r->r.map (den env)=(List.range (n*z.length)).map (λi=>(z.map (den env))[i%z.length]?.getD default)/\(∀M,(∀x∈z,x.ok M)->∀x∈r,x.ok M)
 |0,r,h=>by simp only[AJD,AE]at h;subst h;simp
 |n+1,r,h=>by
  simp only[AJD]at h;split at h
  ·rename_i K H;simp only[AE]at h;subst h;have⟨h1,h2⟩:=AAv (env:=env) H;refine⟨?_,?_⟩
   ·rw[E0,h1,show(n+1)*z.length=z.length+n*z.length by rw[G1];omega,List.range_add,E0,JI]
    congr 1
    ·apply G2;intro j;simp only[EX];by_cases y:j<z.length
     ·simp[y,Nat.mod_eq_of_lt y]
     ·simp[y]
    ·apply Cu;intro i _;simp
   ·grind
  ·simp at h
section
variable {P:Program} {T:List G6} (hT:K2 P T)
include hT
theorem T6{t:Array Value}{w:World}(hW:RdM env M X w)(N:NU env M t ag)(hp:Plain ag){x:SV}{r:AA Nat}(h:valOf T ag X G o.op=some (x,r)):(Di t G->x.ok M)/\(Di t G->(execOp (⟨t,[]⟩:Act).eval o).run P w=.ok (.value (den env x)) w)/\∀r0,r=some r0->(Di t G->t[r0]? =some (den env x))/\(¬Di t G->t[r0]? =some undef)/\∃y c v,ag y=some (c,v,some r0):=by
 unfold valOf at h;split at h
 case h_1 y z=>
  split at h
  ·rename_i c v r' ho;have⟨h1,h2,h3⟩:=N _ _ _ _ ho;split at h
   ·rename_i O;have hex:v=x->Di t G->(execOp (⟨t,[]⟩:Act).eval o).run P w=.ok (.value (den env x)) w:=by
     rintro rfl hG;unfold execOp;simp only[z,Sem.run_pure,h1 (Hx t G c O hG)]
    split at h
    ·rename_i ad;simp only[AE,BJ]at h;obtain⟨rfl,rfl⟩:=h;refine⟨λhG=>h2 (Hx t G c O hG),hex Y,λr0 H=>?_⟩;have⟨k1,k2⟩:=h3 r0 H;subst H;exact⟨λhG=>k1 (Hx t G c O hG),λhG=>k2 λhc=>hG (Hx t c G ad hc),_,_,_,ho⟩
    ·simp only[AE,BJ]at h;obtain⟨rfl,rfl⟩:=h;exact⟨λhG=>h2 (Hx t G c O hG),hex Y,λr0 H=>by simp at H⟩
   ·simp at h
  ·simp at h
 case h_2 c a b z=>
  split at h
  ·rename_i cc xb rc ho;have⟨h1,h2,h3⟩:=N _ _ _ _ ho;split at h
   ·rename_i O;split at h
    ·rename_i r';split at h
     ·rename_i va vb W Z;split at h
      ·rename_i v hv;simp only[AE,BJ]at h;obtain⟨rfl,rfl⟩:=h;obtain⟨⟨q,rfl⟩,k1,k2⟩:=XF hv (λy hy=>by subst hy;exact Xb hp W) (λy hy=>by subst hy;exact Xb hp Z);refine⟨λ_=>Yt,λhG=>?_,λr0 H=>by simp at H⟩;have hc:=h1 (Hx t G cc O hG);have ab:t[r']? =some (.bool xb):=(h3 r' Y).1 (Hx t G cc O hG);unfold execOp;simp only[z,hc,den,asBool,Sem.run_bind,Sem.run_pure,Result.andThen_ok];cases xb with
       |true=>
        have:=BN N (G:=(r',true)::G) ⟨ab,hG⟩ W;rw[<- k1 Y]at this;simp[this,den]
       |false=>
        have:=BN N (G:=(r',false)::G) ⟨ab,hG⟩ Z;rw[<- k2 Y]at this;simp[this,den]
      ·simp at h
     ·simp at h
    ·split at h
     ·rename_i va vb W Z;split at h
      ·rename_i v hv;simp only[AE,BJ]at h;obtain⟨rfl,rfl⟩:=h;obtain⟨⟨q,rfl⟩,k1,k2⟩:=XF hv (λy hy=>by subst hy;exact Xb hp W) (λy hy=>by subst hy;exact Xb hp Z);refine⟨λ_=>Yt,λhG=>?_,λr0 H=>by simp at H⟩;have hc:=h1 (Hx t G cc O hG);unfold execOp;simp only[z,hc,den,asBool,Sem.run_bind,Sem.run_pure,Result.andThen_ok];cases xb with
       |true=>
        have:=BN N hG W;rw[<- k1 Y]at this;simp[this,den]
       |false=>
        have:=BN N hG Z;rw[<- k2 Y]at this;simp[this,den]
      ·simp at h
     ·simp at h
   ·simp at h
  ·simp at h
 case h_3 ty y z=>
  split at h<;>try (simp at h;done)
  rename_i d hd;split at h<;>try (simp at h;done)
  rename_i n af;split at h<;>try (simp at h;done)
  rename_i i o' hx;split at h<;>try (simp at h;done)
  rename_i cs ah hM;split at h<;>try (simp at h;done)
  rename_i v hv;simp only[AE,BJ]at h;obtain⟨rfl,rfl⟩:=h;rw[Cc]at hM;have O:=hW.1 i _ _ hM;refine⟨λ_=>AJQ O.2 hv,λhG=>?_,λr0 H=>by simp at H⟩;have aa:=BN N hG hx;unfold execOp;simp[z,aa,den,Instr.loadAt,Instr.sureAddr,AAp hT O.1 hd ox hv]
 case h_4 y z=>
  split at h<;>try (simp at h;done)
  ·rename_i i o' hx;simp only[AE,BJ]at h;obtain⟨rfl,rfl⟩:=h;refine⟨λhG=>Vl N hG hx,λhG=>?_,λr0 H=>by simp at H⟩;have aa:=BN N hG hx;unfold execOp;simp only[z,aa,den,Sem.run_pure]
  ·rename_i a hx;simp only[AE,BJ]at h;obtain⟨rfl,rfl⟩:=h;refine⟨λhG=>Vl N hG hx,λhG=>?_,λr0 H=>by simp at H⟩;have aa:=BN N hG hx;unfold execOp;simp only[z,aa,den,Sem.run_pure]
 case h_5 ty parts z=>
  split at h<;>try (simp at h;done)
  rename_i v hv;simp only[AE,BJ]at h;obtain⟨rfl,rfl⟩:=h;have ae:v.ok M:=by
   unfold AAW at hv
   repeat' (split at hv)
   all_goals first
    |(simp only[AE]at hv;subst hv;trivial)|(simp at hv;done)
  refine⟨λ_=>ae,λhG=>?_,λr0 H=>by simp at H⟩;have:=(ACK hT (ρ:=(⟨t,[]⟩:Act).eval) (λx a K=>⟨BN N hG K,Vl N hG K⟩) hv w).1;unfold execOp;simp only[z];simp only[Sem.run_bind,this,Result.andThen_ok,Sem.run_pure]
 case h_6=>
  split at h<;>try (simp at h;done)
  rename_i v hv;simp only[AE,BJ]at h;obtain⟨rfl,rfl⟩:=h;refine⟨λhG=>APK (λx a K=>Vl N hG K) hv,λhG=>?_,λr0 H=>by simp at H⟩;exact AKl hT w env _ (ev ag G) (λx a K=>BN N hG K) (λx a K=>Vl N hG K) o v hv
end
section
variable {P:Program} {T:List G6} (hT:K2 P T)
include hT
theorem ZV{V0 V:AM}{FR:KC}{t:Array Value}{w:World}(N:FC V0 FR env V M w)(Z:NU env M t ag){x:AA SV}(h:AFI T ag M o.op=some (x,M')):∃env' w',(∃r,env'=env++r)/\(x≠none->∃r,M'=M++r)/\(x=none->∃i b,AMP ag o.op=some i/\M'=M.set i b)/\FC V0 FR env' V M' w'/\(∀L,Ng env M L t->Ng env' M' L t)/\(∀lr,N3 env M lr t->N3 env' M' lr t)/\(match x with
   |some x=>x.ok M'/\(execOp (⟨t,[]⟩:Act).eval o).run P w=.ok (.value (den env' x)) w'|none=>(execOp (⟨t,[]⟩:Act).eval o).run P w=.ok .skip w'):=by
 unfold AFI at h;split at h
 case h_1 ty a b H=>
  split at h<;>try (simp at h;done)
  rename_i d hd;split at h<;>try (simp at h;done)
  rename_i sz aa;split at h<;>try (simp at h;done)
  rename_i i off v ha hb;split at h<;>try (simp at h;done)
  rename_i cs ah hM;split at h<;>try (simp at h;done)
  rename_i vs ai;split at h<;>try (simp at h;done)
  rename_i hlen ab;split at h<;>try (simp at h;done)
  rename_i O ad;split at h<;>try (simp at h;done)
  rename_i M2 K;simp only[AE,BJ]at h;obtain⟨rfl,rfl⟩:=h;rw[Cc]at hM;obtain⟨hi,rfl⟩:=Dg K;have hs:=N.sat i _ hM;have X:(⟨t,[]⟩:Act).eval a=.pointer (some ⟨Bm env i,off,none⟩):=BN Z (G:=[]) Yt ha;have aj:=BN Z (G:=[]) Yt hb;have⟨c1,c2⟩:=OI (env:=env) (Vl Z (G:=[]) Yt hb) ai;have⟨p1,p2⟩:=Ss ad;have hl:O.length=cs.length:=by grind
  have ak:∀x∈O,x.ok M:=by
   intro y W;rw[p2]at W;simp only[BW]at W;rcases W with(W|W)|W
   ·exact hs.2 y (JM W)
   ·exact c2 y W
   ·exact hs.2 y (DK W)
  refine⟨env,w.setRow (Bm env i) ⟨O.map (den env)⟩,⟨[],by simp⟩,λh=>absurd Y h,λ_=>⟨i,_,by simp only[H,AMP,ha],Y⟩,N.store hM ak hl,λ_ hL=>hL.set zp,λ_ hR=>hR.set zp,?_⟩;have al:vs.length=d.size:=by rw[F6 hlen,aa]
  have ae:=run_storeCells_at (P:=P) (Bm env i) off ah (vs.map (den env)) 0 ⟨cs.map (den env)⟩ w hs.1 (by simp;omega) (OK ab);have af:(⟨O.map (den env)⟩:Array Value)=⟨(cs.map (den env)).take off++vs.map (den env)++(cs.map (den env)).drop (off+vs.length)⟩:=by
   rw[p2];simp
  unfold execOp;simp only[H,X,aj,Instr.storeAt,Instr.sureAddr,storeVar,Sem.run_bind,Sem.run_pure,Result.andThen_ok,Lf hT w hd ox,c1];rw[if_neg (by simp[al])];simp only[JH,Ap]at ae;simp only[Result.andThen_ok,ae,af]
 case h_2 ty a H=>
  split at h<;>try (simp at h;done)
  rename_i v ha;split at h<;>try (simp at h;done)
  rename_i cs an;split at h<;>try (simp at h;done)
  rename_i M2 n K;simp only[AE,BJ]at h;obtain⟨rfl,rfl⟩:=h;obtain⟨rfl,hn⟩:=He K;have X:=BN Z (G:=[]) Yt ha;have⟨c1,c2⟩:=OI (env:=env) (Vl Z (G:=[]) Yt ha) an;refine⟨env++[w.heap.size],_,⟨_,Y⟩,λ_=>⟨_,Y⟩,λh=>by simp at h,N.alloc c2 ty,λ_ hL=>hL.mono N.len _ _,λ_ hR=>hR.mono N.len _ _,?_,?_⟩
  ·exact⟨_,by rw[hn];simp;rfl,by simp⟩
  ·unfold execOp;simp only[H,X,Instr.box,newVar,newRow,Sem.run_bind,Sem.run_pure,Result.andThen_ok,run_newObj,c1];simp only[den,hn,Bo,<- N.len,Lc];rfl
 case h_3 ty H=>
  split at h<;>try (simp at h;done)
  rename_i d hd;split at h<;>try (simp at h;done)
  rename_i k aa;split at h<;>try (simp at h;done)
  rename_i z hz;split at h<;>try (simp at h;done)
  rename_i M2 n K;simp only[AE,BJ]at h;obtain⟨rfl,rfl⟩:=h;obtain⟨rfl,hn⟩:=He K;have⟨c1,c2⟩:=Pe (env:=env) (M:=M) hz;have⟨i,dd,zv,h1,h2,h3,h4⟩:=Qe (hT.1 _ d hd ox);have ao:d.zero=zv.cells.toList:=by rw[h4]
  refine⟨env++[w.heap.size],_,⟨_,Y⟩,λ_=>⟨_,Y⟩,λh=>by simp at h,N.alloc c2 ty,λ_ hL=>hL.mono N.len _ _,λ_ hR=>hR.mono N.len _ _,?_,?_⟩
  ·exact⟨_,by rw[hn];simp;rfl,by simp⟩
  ·unfold execOp;simp only[H,Instr.alloc,zeroValue,typeInfo,newVar,newRow,Sem.run_bind,run_program,h1,h3,Sem.run_pure,Result.andThen_ok,run_newObj,den,hn,Bo,<- N.len,Lc,c1,ao];rfl
 case h_4=>simp at h
theorem Zi{V0 V:AM}{FR:KC}{t:Array Value}{w:World}(N:FC V0 FR env V M w)(hO:NU env M t ag){x:SV}(h:ABP T ag M o.op=some (x,M',n0,ak,y)):∃env' w',(∃r,env'=env++r)/\(∃r,M'=M++r)/\FC V0 FR env' V M' w'/\(∀L,Ng env M L t->Ng env' M' L t)/\(∀lr,N3 env M lr t->N3 env' M' lr t)/\x.ok M'/\(execOp (⟨t,[]⟩:Act).eval o).run P w=.ok (.value (den env' x)) w':=by
 unfold ABP at h;split at h<;>try (simp at h;done)
 rename_i ty len parts ab;split at h<;>try (simp at h;done)
 rename_i d hd;split at h<;>try (simp at h;done)
 rename_i k al;split at h<;>try (simp at h;done)
 rename_i e hu;split at h<;>try (simp at h;done)
 rename_i ed O;split at h<;>try (simp at h;done)
 rename_i sz W;split at h<;>try (simp at h;done)
 rename_i z X hz ad;split at h<;>try (simp at h;done)
 rename_i Z H;split at h<;>try (simp at h;done)
 rename_i cs ae;split at h<;>try (simp at h;done)
 rename_i M2 n af;simp only[AE,BJ]at h;obtain⟨rfl,rfl,rfl,rfl,rfl⟩:=h;obtain⟨rfl,hn⟩:=He af;have⟨c1,c2⟩:=Pe (env:=env) (M:=M) hz;have⟨i,dd,zv,h1,h2,h3,h4⟩:=Qe (hT.1 _ ed O ox);have an:ed.zero=zv.cells.toList:=by rw[h4]
 have aj:z.length=sz+1:=by
  have:=F6 ad;rw[<- this,<- c1];simp
 have⟨r1,r2⟩:=AAv (env:=env) H;have⟨f1,f2,f3⟩:=S6 (place':=λi=>some (i*(sz+1),sz+1)) (λ_ _ h=>h) (ρ:=(⟨t,[]⟩:Act).eval)
  (λx a aa=>⟨BN hO (G:=[]) Yt aa,Vl hO (G:=[]) Yt aa⟩) parts Z cs (r2 _ c2) ae
 refine⟨env++[w.heap.size],_,⟨_,Y⟩,⟨_,Y⟩,N.alloc f2 e,λ_ hL=>hL.mono N.len _ _,λ_ hR=>hR.mono N.len _ _,?_,?_⟩
 ·exact⟨_,by rw[hn];simp;rfl,by simp⟩
 ·have ah:(sizeOf e).run P w=.ok (sz+1) w:=by rw[Lf hT w O ox,W]
  have hle:¬len*(sz+1)>2^24:=by
   have:=Ae X;omega
  have hzero:(zeroValue e).run P w=.ok zv w:=by simp[zeroValue,typeInfo,h1,h3]
  have ao:zv.cells.size=sz+1:=by grind
  have K:(Array.range (len*(sz+1))).map (λi=>(zv.cells)[i%zv.cells.size]!)=⟨Z.map (den env)⟩:=by grind
  unfold execOp;simp only[ab,Instr.buildSlice,Sem.run_bind,run_underlying (RM hT hd ox hu),Result.andThen_ok,ah,if_neg hle];by_cases h0:len*(sz+1)=0
  ·have ai:len=0:=by
    rcases Nat.mul_eq_zero.1 h0 with h|h
    ·exact h
    ·omega
   subst ai;simp only[AJD,AE]at H;subst H;simp only[h0,IW,Sem.run_pure];simp only[Ge]at f1;simp only[Array.range_zero',Array.map_empty,TX];rw[show(#[]:Array Value)=⟨[]⟩from rfl,f1];simp[newRow,den,hn,<- N.len,Lc]
  ·simp only[h0,if_false,Sem.run_bind,hzero,Sem.run_pure,Result.andThen_ok,K,TX];rw[f1];simp[newRow,den,hn,<- N.len,Lc]
end
theorem AD.of{C:Ctx}{s:St}{V:AM}(h:∀FR y env t w,t.size=C.nt->FC C.V0 FR env V s.M w->Ng env s.M s.L t->N3 env s.M (hdR s.k) t->My y env V s.M s.k->post C FR y s.k .normal ⟨t,[]⟩ w):AD C s V:=by
 unfold AD;exact h
theorem AD.to{C:Ctx}{s:St}{V:AM}(h:AD C s V):∀FR y env t w,t.size=C.nt->FC C.V0 FR env V s.M w->Ng env s.M s.L t->N3 env s.M (hdR s.k) t->My y env V s.M s.k->post C FR y s.k .normal ⟨t,[]⟩ w:=by
 unfold AD at h;exact h
theorem N3.nil(env:List Nat)(M:List OB)(t:Array Value):N3 env M [] t:=λs e h=>by simp[H7]at h
theorem AK1{k:List Kt}(y:Kw k=true):hdR k=[]:=by
 unfold Kw at y;split at y
 ·simp at y
 ·simp at y
 ·rename_i h1 h2;unfold hdR;split
  ·grind
  ·grind
  ·rfl
theorem AMj{k:List Kt}(y:Kw k=true)(z:DFr)(env:List Nat)(V:AM)(M:List OB):My z env V M k:=by
 unfold Kw at y;split at y
 ·simp at y
 ·simp at y
 ·rename_i h1 h2;unfold My;split
  ·grind
  ·grind
  ·trivial
theorem AD.to0{C:Ctx}{k:List Kt}{V:AM}(z:Kw k=true)(h:AD C ⟨k,L,M⟩ V){FR env t w}(h1:t.size=C.nt)(h2:FC C.V0 FR env V M w)(h3:Ng env M L t)(y:DFr):post C FR y k .normal ⟨t,[]⟩ w:=h.to FR y env t w h1 h2 h3 (by rw[AK1 z];exact N3.nil env _ t) (AMj z y env V M)
theorem U6(mask:List Nat):∀(i n:Nat)(M q:List OB),n<=M.length->Sd mask i n (M++q)=Sd mask i n M
 |_,0,M,q,_=>by cases M<;>cases q<;>simp[Sd]
 |i,n+1,[],q,h=>by simp at h
 |i,n+1,a::M,q,h=>by
  have y:=U6 mask (i+1) n M q (by simpa using h);simp only[NK,Sd,y]
theorem AH3(mask:List Nat)(b:OB):∀(n j:Nat)(i:Nat)(M:List OB),(inL (i+j) mask=true\/n<=j)->Sd mask i n (M.set j b)=Sd mask i n M
 |0,j,i,M,_=>by cases M<;>cases j<;>simp[Sd]
 |n+1,j,i,[],_=>by simp
 |n+1,0,i,a::M,h=>by
  rcases h with h|h
  ·rw[JH]at h;simp only[Wl,Sd,h]
  ·omega
 |n+1,j+1,i,a::M,h=>by
  have y:=AH3 mask b n j (i+1) M (by
   rcases h with h|h
   ·grind
   ·right;omega)
  simp only[Wm,Sd,y]
theorem Sr(mask:List Nat):∀(i n:Nat)(M:List OB)(j:Nat)(o:OB),(Sd mask i n M)[j]? =some o->j<n/\(o≠ .gone->M[j]? =some o)
 |_,0,M,j,o,h=>by cases M<;>simp[Sd]at h
 |i,n+1,[],j,o,h=>by simp[Sd]at h
 |i,n+1,a::M,0,o,h=>by
  simp only[Sd]at h;split at h
  ·grind
  ·grind
 |i,n+1,a::M,j+1,o,h=>by
  simp only[Sd]at h;split at h
  all_goals
   simp only[RH]at h;have⟨h1,h2⟩:=Sr mask (i+1) n M j o h;exact⟨by omega,λy=>by simpa using h2 y⟩
theorem Pp.grow{z:DFr}{D:ABy}{V V':AM}(h:Pp z D env V M)(he:∃r,env'=env++r)(hv:DI V V')(hm:∃r,M'=M++r):Pp z D env' V' M':=by
 obtain⟨r,rfl⟩:=he;obtain⟨q,rfl⟩:=hm;have⟨r0,y⟩:=h.pre;refine⟨⟨r0++r,by rw[y,CZ]⟩,h.len,by have:=h.AFO;simp;omega,h.v,h.vle.trans hv,h.ok,λH=>?_,h.Ih⟩;rw[U6 _ _ _ _ _ h.AFO];exact h.mem H
theorem My.grow{y:DFr}{V V':AM}(he:∃r,env'=env++r)(hv:DI V V')(hm:∃r,M'=M++r):∀{k:List Kt},My y env V M k->My y env' V' M' k
 |.draw D::_,h=>Pp.grow h he hv hm|.ops _ _ _:: .draw D::_,h=>Pp.grow h he hv hm|[],h=>trivial|.code _::_,h=>trivial|.inBlock _::_,h=>trivial|.inLoop _::_,h=>trivial|[.ops _ _ _],h=>trivial|.ops _ _ _:: .code _::_,h=>trivial|.ops _ _ _:: .inBlock _::_,h=>trivial|.ops _ _ _:: .inLoop _::_,h=>trivial|.ops _ _ _:: .ops _ _ _::_,h=>trivial
theorem My.write{y:DFr}{V:AM}{b:OB}:∀{k:List Kt},L9 i k=true->My y env V M (.ops rest all lr::k)->My y env V (M.set i b) (.ops rest all lr::k)
 |.draw D::_,z,h=>by
  have h:Pp y D env V M:=h;refine(⟨h.pre,h.len,by simpa using h.AFO,h.v,h.vle,h.ok,λhu=>?_,h.Ih⟩:Pp y D env V (M.set i b));rw[AH3]
  ·exact h.mem hu
  ·simp only[L9,hu]at z;split at z
   ·grind
   ·exact .inr (by simpa using Ae z)
 |[],_,_=>trivial|.code _::_,_,_=>trivial|.inBlock _::_,_,_=>trivial|.inLoop _::_,_,_=>trivial|.ops _ _ _::_,_,_=>trivial
theorem My.same{y:DFr}{V:AM}:∀{k:List Kt},My y env V M (.ops rest all lr::k)->My y env V M (.ops bz b0 lr'::k)
 |.draw _::_,h=>h|[],_=>trivial|.code _::_,_=>trivial|.inBlock _::_,_=>trivial|.inLoop _::_,_=>trivial|.ops _ _ _::_,_=>trivial
theorem ANU{y:DFr}{V:AM}:∀{k:List Kt},Kw k=true->My y env V M (.ops rest all lr::k)
 |.draw _::_,h=>by simp[Kw]at h
 |[],_=>trivial|.code _::_,_=>trivial|.inBlock _::_,_=>trivial|.inLoop _::_,_=>trivial|.ops _ _ _::_,_=>trivial
theorem QT{C:Ctx}{k:List Kt}{z:St}{V:AM}(y:toK k L M=some z)(h:AD C z V){FR env t w}(h1:t.size=C.nt)(h2:FC C.V0 FR env V M w)(h3:Ng env M L t)(H:DFr):post C FR H k .normal ⟨t,[]⟩ w:=by
 unfold toK at y;split at y
 ·rename_i K;simp only[AE]at y;subst y;exact h.to0 K h1 h2 h3 H
 ·simp at y
theorem Mf{α:Type}:∀l:List α,N6 l=l.length
 |[]=>rfl|a::l=>by simp[N6,Mf l]
theorem AEA:∀l:List Oper,(⟨UY l⟩:Array Bool)=Array.replicate l.length false:=by
 intro l;apply AHr;rw[Array.toList_replicate];show UY l=List.replicate l.length false
 induction l with
 |nil=>rfl|cons a l y=>simp[UY,y,AGG]
theorem AD7{i:Nat}:∀{l:List Nat},inL i l=true↔i∈l
 |[]=>by simp[inL]
 |a::l=>by
  unfold inL;split
  ·rename_i h;simp[Ij h]
  ·rename_i h;have:=KX h;rw[AD7 (l:=l)];simp[AJ1 this]
theorem Qi{listed:List Bool}:∀{ends:List Nat},Sy ends listed=true↔∀e∈ends,(⟨listed⟩:Array Bool).getD e false=false
 |[]=>by simp[Sy]
 |e::l=>by
  have y:=Qi (listed:=listed) (ends:=l);unfold Sy;simp only[Aj,forall_eq_or_imp];rw[<- WR];split
  ·grind
  ·grind
theorem VE{r:List Nat}(h:i<env.length):Bm (env++r) i=Bm env i:=by
 simp[Bm,DL,h]
theorem AIW{r:List Nat}(hl:env.length=M.length):∀{x:SV},x.ok M->den (env++r) x=den env x
 |.v _,_=>rfl|.ptr _ _,h=>by simp only[den,VE (hl▸Uc h)]
 |.TY _ _ _ _,h=>by simp only[den,VE (hl▸Uc h)]
 |.el _ _,_=>rfl
theorem ALy{V0 V:AM}{FR:KC}{W:DFr}{D:ABy}{w:World}(h:FC V0 FR env V M w)(y:Pp W D env V M)(Z:Sy D.ends D.listed=true):SD W w:=by
 have⟨r,hr⟩:=y.pre;have X:=y.mem Z;refine⟨⟨λa x H=>h.holds a x (y.vle a x H),h.holds.t⟩,λi cs ty hi=>?_,λi x cs e sz hi=>?_⟩
 case refine_2=>
  rw[X]at hi;exact h.sat i _ ((Sr _ _ _ _ _ _ hi).2 zp)
 have⟨M1,K,N⟩:=y.ok;have z:=hi;rw[X]at z;have⟨O,hM⟩:=Sr _ _ _ _ _ _ z;have:=(h.sat i (.Bp cs ty) (hM zp)).1;rw[hr,VE (by rw[y.len];exact O)]at this;rw[this]
 congr 3
 exact Cu λx H=>AIW (y.len.trans K.symm) (N i cs ty hi x H)
theorem ALx{V0 V:AM}{FR:KC}{z:DFr}{D:ABy}{w:World}(h:FC V0 FR env V M w)(H:Pp z D env V M):SF D.ends (SD z) ⟨D.listed⟩ w:=
 λy=>ALy h H (Qi.2 y)
theorem SD.rd{N:DFr}{D:ABy}{V:AM}{w:World}(h:SD N w)(y:Pp N D env V M)(W:Sy D.ends D.listed=true)(X:∀(i:Nat)(cs:List SV)(ty:Nat),M[i]? =some (.Bp cs ty)->∀x∈cs,x.ok M):Holds D.V w/\RdM env M (Sd D.mask 0 D.n0 M) w:=by
 have⟨r,Z⟩:=y.pre;have O:=y.mem W;have⟨M1,z,H⟩:=y.ok;refine⟨y.v▸h.1,λi cs ty hi=>?_,λi x cs e sz hi=>h.2.2 i x cs e sz (by rw[O];exact hi)⟩;have⟨K,hM⟩:=Sr _ _ _ _ _ _ hi;rw[<- O]at hi;have h1:=h.2.1 i cs ty hi;refine⟨?_,X i cs ty (hM zp)⟩;rw[Z,VE (by rw[y.len];exact K),h1]
 congr 3
 exact Cu λx hx=>(AIW (y.len.trans z.symm) (H i cs ty hi x hx)).symm
theorem O1{C:Ctx}{FR:KC}{c:List PanicEntry}{a a':Act}{w:World}(y:a'.defers=a.defers):∀(k:List Kt)(z:DFr),post C FR z k (.panic c) a w->post C FR z k (.panic c) a' w
 |[],_=>λh=>⟨y.trans h.1,h.2⟩|.draw _::k,_=>O1 y k _|.code _::k,_=>O1 y k _|.inBlock _::k,_=>O1 y k _|.inLoop _::k,_=>O1 y k _|.ops _ _ _::k,_=>O1 y k _
theorem AKP{a:Act}{w:World}(y:∀e a w,e≠ .normal->Q e a w->Q' e a w)(h:o.wp P a w K Q):o.wp P a w K Q':=by
 have hl:LetsOut Q->LetsOut Q':=λ⟨a,w,k⟩=>⟨a,w,y _ _ _ zp k⟩;unfold Oper.wp at*;generalize(execOp a.eval o).run P w=r at*;cases r with
 |ok n w'=>
  cases n<;>simp only[Oper.upon]at h⊢ <;>first
   |exact h|exact Calls.mono h (λe z he=>by cases e<;>first|exact he|exact y _ _ _ zp he|exact hl he)
 |halt x w'=>cases x<;>simp only[Oper.upon]at h⊢ <;>first|exact y _ _ _ zp h|exact h
section
variable {C:Ctx}
theorem AJi{D:ABy}{k:List Kt}{V:AM}(h:AD C ⟨.draw ⟨D.all,D.listed,D.n,D.ends,D.n0,D.mask,D.V,D.Ih,lr⟩::k,L,M⟩ V):AD C ⟨.ops [] all lr:: .draw D::k,L,M⟩ V:=by
 refine AD.of λFR z env t w h1 h2 h3 H y=>?_;have y:Pp z D env V M:=y;exact h.to FR z env t w h1 h2 h3 H (⟨y.pre,y.len,y.AFO,y.v,y.vle,y.ok,y.mem,y.Ih⟩:Pp z ⟨D.all,D.listed,D.n,D.ends,D.n0,D.mask,D.V,D.Ih,lr⟩ env V M)
theorem AD.DU(hT:K2 C.P C.T)(Ih:List (Nat×Bool)){id:Nat}{ops:List Oper}{k:List Kt}{V:AM}(he:AHK L ops 0 ops=(az,aP))(hp:Hg ops az (N6 ops) (UY ops) Ih=true)(h:AD C ⟨.draw ⟨ops,UY ops,N6 ops,az,N6 M,aP,V,Ih,[]⟩::k,L,M⟩ V):AD C ⟨.code (.region id ⟨ops⟩ true)::k,L,M⟩ V:=by
 refine AD.of λFR K env t w h1 h2 h3 N O=>?_;have z:FC C.V0 FR env V M {w with drawn:=w.drawn+1}:=⟨h2.os,h2.tape,h2.output,h2.frame,h2.le,⟨h2.holds.c,h2.holds.t⟩,h2.fresh,h2.len,λi o H=>Wk (w:=w) (w':={w with drawn:=w.drawn+1}) (M:=M) (show({w with drawn:=w.drawn+1}:World).heap=w.heap from rfl) (h2.sat i o H),h2.DA,h2.C1,h2.apart,h2.tb⟩;have:=h.to FR ⟨env,V,Sd aP 0 (N6 M) M⟩ env t {w with drawn:=w.drawn+1} h1 z h3 (N3.nil env _ t)
  (⟨⟨[],by simp⟩,h2.len.trans (Mf M).symm,Vf (Mf M),Y,DI.refl V,⟨M,(Mf M).symm,λi cs ty hi=>(h2.sat i _ ((Sr _ _ _ _ _ _ hi).2 zp)).2⟩,λ_=>Y,hp⟩:Pp ⟨env,V,Sd aP 0 (N6 M) M⟩ ⟨ops,UY ops,N6 ops,az,N6 M,aP,V,Ih,[]⟩ env V M)
 refine wp_region_any hT.2 ?_;have y:=Sh _ _ _ _ this.2;rw[Mf,AEA]at y;exact y
theorem AD.E2(hT:K2 C.P C.T)(es ms:List Nat)(Ih:List (Nat×Bool)){id:Nat}{ops:List Oper}{k:List Kt}{V:AM}(hp:Hg ops es (N6 ops) (UY ops) Ih=true)(h:AD C ⟨.draw ⟨ops,UY ops,N6 ops,es,N6 M,ms,V,Ih,[]⟩::k,L,M⟩ V):AD C ⟨.code (.region id ⟨ops⟩ true)::k,L,M⟩ V:=by
 refine AD.of λFR K env t w h1 h2 h3 N O=>?_;have z:FC C.V0 FR env V M {w with drawn:=w.drawn+1}:=⟨h2.os,h2.tape,h2.output,h2.frame,h2.le,⟨h2.holds.c,h2.holds.t⟩,h2.fresh,h2.len,λi o H=>Wk (w:=w) (w':={w with drawn:=w.drawn+1}) (M:=M) (show({w with drawn:=w.drawn+1}:World).heap=w.heap from rfl) (h2.sat i o H),h2.DA,h2.C1,h2.apart,h2.tb⟩;have:=h.to FR ⟨env,V,Sd ms 0 (N6 M) M⟩ env t {w with drawn:=w.drawn+1} h1 z h3 (N3.nil env _ t)
  (⟨⟨[],by simp⟩,h2.len.trans (Mf M).symm,Vf (Mf M),Y,DI.refl V,⟨M,(Mf M).symm,λi cs ty hi=>(h2.sat i _ ((Sr _ _ _ _ _ _ hi).2 zp)).2⟩,λ_=>Y,hp⟩:Pp ⟨env,V,Sd ms 0 (N6 M) M⟩ ⟨ops,UY ops,N6 ops,es,N6 M,ms,V,Ih,[]⟩ env V M)
 refine wp_region_any hT.2 ?_;have y:=Sh _ _ _ _ this.2;rw[Mf,AEA]at y;exact y
theorem QU{C:Ctx}{FR:KC}{l:Nat}{a:Act}{w:World}:∀(k:List Kt)(y:DFr),¬post C FR y k (.goto l) a w
 |[],_=>λh=>h|.draw _::k,_=>QU k _|.code _::k,_=>QU k _|.inBlock _::k,_=>QU k _|.inLoop _::k,_=>QU k _|.ops _ _ _::k,_=>QU k _
theorem AD.scope{c:Code}{k:List Kt}{V:AM}(h:AD C ⟨.code c::k,L,M⟩ V):AD C ⟨.code (.scope c)::k,L,M⟩ V:=by
 refine AD.of λFR y env t w h1 h2 h3 z H=>?_;have K:c.wp C.P (post C FR .none k) ⟨t,[]⟩ w:=h.to FR y env t w h1 h2 h3 z H;refine wp_scope_straight (Code.wp_mono (λe a w he=>?_) K);cases e with
 |goto l=>exact absurd he (QU k _)|_=>exact he
theorem AD.pick{D:ABy}{k:List Kt}{V:AM}(W:RQ D.all D.listed=true)(Z:D.n=n+1)(N:rdy D.listed 0 D.all≠[])(h:∀i∈rdy D.listed 0 D.all,∀o,nth D.all i=some o->∃p,Hg D.all D.ends n (Ha D.listed i) p=true/\AD C ⟨.ops [o] D.all D.lr:: .draw ⟨D.all,Ha D.listed i,n,D.ends,D.n0,D.mask,D.V,p,D.lr⟩::k,L,M⟩ V):AD C ⟨.draw D::k,L,M⟩ V:=by
 refine AD.of λFR H env t w h1 h2 h3 h4 z=>?_;have z:Pp H D env V M:=z;refine⟨ALx h2 z,?_⟩;rw[Z];refine⟨λhr=>?_,λi hi=>?_⟩
 ·cases K:rdy D.listed 0 D.all with
  |nil=>exact absurd K N|cons a l=>
   have:a∈Region.ready .any ⟨D.all⟩ ⟨D.listed⟩:=(U5 W).2 (by rw[K];simp);rw[hr]at this;simp at this
 ·rw[U5 W]at hi;have⟨_,_,o,O,_⟩:=AD0.1 hi;rw[ABk]at O;have⟨p,hp,h⟩:=h i hi o (by rw[Cc];exact O);have hd:Pp H ⟨D.all,Ha D.listed i,n,D.ends,D.n0,D.mask,D.V,p,D.lr⟩ env V M:=⟨z.pre,z.len,z.AFO,z.v,z.vle,z.ok,λhu=>z.mem (Qi.2 λe he=>by
   have y:=Qi.1 hu e he;rw[ADg]at y;cases hc:(⟨D.listed⟩:Array Bool).getD e false with
   |false=>rfl|true=>rw[getD_set_true hc]at y;simp at y),hp⟩
  have h6:=h.to FR H env t w h1 h2 h3 h4 hd;have y:wpList C.P ⟨D.all⟩ (post C FR H (.draw ⟨D.all,Ha D.listed i,n,D.ends,D.n0,D.mask,D.V,p,D.lr⟩::k)) [o] ⟨t,[]⟩ w:=h6;have X:∀e a w,e≠ .normal->post C FR H (.draw ⟨D.all,Ha D.listed i,n,D.ends,D.n0,D.mask,D.V,p,D.lr⟩::k) e a w->post C FR .none k e a w:=by
   intro e a w he hp;cases e with
   |normal=>exact absurd Y he|exit id=>exact hp|goto l=>exact hp|ret=>exact hp|panic c=>exact hp|outgrown=>exact hp
  rw[<- ADg];unfold wpOp;rw[show(⟨D.all⟩:Array Oper)[i]? =some o from by simpa using O];simp only;unfold wpList at y;by_cases hw:Region.wanted o (yielded ⟨D.all⟩ t)=true
  ·rw[if_pos hw]at y⊢;rcases y with y|⟨y,a,w,h8⟩
   ·exact .inl (AKP X y)
   ·exact .inr ⟨y,a,w,X _ _ _ zp h8⟩
  ·rw[if_neg hw]at y⊢;exact y
theorem AJj{D:ABy}{k:List Kt}{V:AM}(N:RQ D.all D.listed=true)(O:rdy D.listed 0 D.all=[]){H:St}(W:toK k L M=some H)(h:AD C H V):AD C ⟨.draw D::k,L,M⟩ V:=by
 refine AD.of λFR Z env t w h1 h2 h3 h4 X=>?_;refine⟨ALx h2 X,?_⟩;have y:Region.ready .any ⟨D.all⟩ ⟨D.listed⟩=[]:=by
  cases z:Region.ready .any ⟨D.all⟩ ⟨D.listed⟩with
  |nil=>rfl|cons a l=>
   have:a∈rdy D.listed 0 D.all:=(U5 N).1 (by rw[z];simp);rw[O]at this;simp at this
 have K:=QT W h h1 h2 h3 .none;cases D.n with
 |zero=>exact⟨y,K⟩|succ n=>exact⟨λ_=>K,λi hi=>by rw[y]at hi;simp at hi⟩
theorem Sc{D:ABy}{d:Nat}{x:SV}{r:AA Nat}{k:List Kt}{V:AM}{p:List (Nat×Bool)}(aj:D.Ih=(i,true)::p)(ad:D.n=n+1)(ho:nth D.all i=some o)(hg:IH D.all D.lr o.guard=some G)(hd:o.dst=some d)(hn:Nat.blt d C.nt=true)(hf:M8 d D.lr=true)(ak:(G=[]/\L'=(d,x)::L)\/(L'=L/\EF L d=none))(hx:∀env t w,Ng env M L t->N3 env M D.lr t->Holds D.V w->RdM env M (Sd D.mask 0 D.n0 M) w->(Di t G->x.ok M)/\(Di t G->(execOp (⟨t,[]⟩:Act).eval o).run C.P w=.ok (.value (den env x)) w)/\∀r0,r=some r0->(Di t G->t[r0]? =some (den env x))/\(¬Di t G->t[r0]? =some undef)/\∃y c v,Et L D.lr y=some (c,v,some r0))(h:AD C ⟨.draw ⟨D.all,Ha D.listed i,n,D.ends,D.n0,D.mask,D.V,p,⟨d,G,x,r.getD d⟩::D.lr⟩::k,L',M⟩ V):AD C ⟨.draw D::k,L,M⟩ V:=by
 refine AD.of λFR DF env t w h1 h2 h3 h4 H=>?_;have H:Pp DF D env V M:=H;have h4:N3 env M D.lr t:=h4;have ae:d<t.size:=by rw[h1];simpa[D1]using hn
 have z:=H.Ih;rw[aj,ad]at z;simp only[Hg]at z;split at z<;>try (simp at z;done)
 rename_i W;unfold headD at W;rw[ho]at W;simp only[hd]at W;split at W<;>try (simp at W;done)
 rename_i d' li af al;simp only[AE]at af;subst af;split at W<;>try (simp at W;done)
 rename_i X;have hi:=W;unfold ALV at X;split at X<;>try (simp at X;done)
 rename_i ag K Z aa;rw[Cc]at ho;have⟨sh,e0,e1,e2⟩:=AEC aa;have N:Sy D.ends D.listed=true:=Qi.2 (λe he=>e1 e (e0 e he));have an:=AD7.1 hi;have O:=(U5 K).2 an;have hw:=Ch h4 hg;have⟨f1,f2⟩:=(ALy h2 H N).rd H N (λi cs ty hi=>(h2.sat i _ hi).2);have⟨s1,s2,s3⟩:=hx env t w h3 h4 f1 f2;have hS:=ALy h2 H N;have main:∀u,((Di t G->u=den env x)/\(¬Di t G->u=undef))->YieldsIf C.P ⟨D.all⟩ (SD DF) o u ⟨t,[]⟩->post C FR DF (.draw D::k) .normal ⟨t,[]⟩ w:=by
  intro u hu hy;have ao:r.getD d=d\/(r.getD d≠d/\t[r.getD d]? =some u):=by
   cases r with
   |none=>exact .inl Y|some r0=>
    have⟨k1,k2,y,c,v,hy⟩:=s3 r0 Y;have⟨s,e,k3,k4⟩:=AFA hy;right;simp only[Kp];refine⟨by rw[<- k4];exact(Pf hf k3).2.1,?_⟩;by_cases hc:Di t G
    ·grind
    ·grind
  have aq:Pp DF ⟨D.all,Ha D.listed i,n,D.ends,D.n0,D.mask,D.V,p,⟨d,G,x,r.getD d⟩::D.lr⟩ env V M:=⟨H.pre,H.len,H.AFO,H.v,H.vle,H.ok,λ_=>H.mem N,z⟩;have hp:=h.to FR DF env (t.setIfInBounds d u) w (by simpa using h1) h2 (by
   rcases ak with⟨rfl,rfl⟩|⟨rfl,ab⟩
   ·rw[hu.1 Yt];exact h3.put ae (s1 Yt)
   ·exact h3.AAN ab u) (h4.put ae hf hu.1 hu.2 (RS hg hf) ao s1) aq
  refine⟨ALx h2 H,?_⟩;rw[ad];refine ADW (i:=i) (oi:=o) (v:=u) (by simpa using ho) (λj oj cs b hj=>XK ag j oj cs b (by simpa using hj)) (λc a w hq=>O1 (a:=a.put o.dst u) (by cases o.dst<;>rfl) k .none hq) sh e0 e2 n ⟨D.listed⟩ ⟨t,[]⟩ w e1 ?_ O hy hS ?_
  ·intro j oj hj ar ah au;have ai:D.all[j]? =some oj:=by simpa using hj
   refine Za hd al Z j oj (By _) (by simpa using ai) ar ?_ (λe he=>au e (by simpa using he));rw[WR];have av:j<D.listed.length:=by rw[<- YH K];exact(As.1 ai).1
   simp only[Fp,OW,List.getElem?_eq_getElem av,Kp]at ah⊢;exact ah
  ·have h8:=hp.2;rw[ADg]at h8;simp only[Act.put,hd];exact h8
 by_cases hc:Di t G
 ·refine main (den env x) ⟨λ_=>Y,λhn=>absurd hc hn⟩ (.inl ⟨hw.2 hc,λw' aw=>?_⟩);have⟨g1,g2⟩:=aw.rd H N (λi cs ty hi=>(h2.sat i _ hi).2);exact(hx env t w' h3 h4 g1 g2).2.1 hc
 ·refine main undef ⟨λe=>absurd e hc,λ_=>Y⟩ (.inr ⟨?_,Y⟩);cases hb:Region.wanted o (yielded (⟨D.all⟩:Array Oper) t)with
  |false=>rfl|true=>exact absurd (hw.1 hb) hc
variable (hT:K2 C.P C.T)
include hT
theorem AD8{V1:AM}{p:List (Nat×Bool)}{k:List Kt}{V:AM}{s':St}(h:AD C s' V)(y:AHE C.T C.nt all listed ends n0 mask V1 lr n i p k L M=some s'):AD C ⟨.draw ⟨all,listed,n+1,ends,n0,mask,V1,(i,true)::p,lr⟩::k,L,M⟩ V:=by
 unfold AHE at y;split at y<;>try (simp at y;done)
 rename_i o W;split at y<;>try (simp at y;done)
 ·rename_i z;split at y<;>try (simp at y;done)
  rename_i v r hv;split at y<;>try (simp at y;done)
  rename_i d H;split at y<;>try (simp at y;done)
  rename_i K N;have O:∀env t w,Ng env M L t->N3 env M lr t->Holds V1 w->RdM env M (Sd mask 0 n0 M) w->_:=λenv t w X Z _ g4=>T6 (P:=C.P) hT g4 (A2 X Z) (YS L lr) hv;split at y
  ·simp only[AE]at y;subst y;exact Sc (D:=⟨all,listed,n+1,ends,n0,mask,V1,(i,true)::p,lr⟩) Y Y W z H K N (.inl ⟨Y,Y⟩) O h
  ·simp only[AE]at y;subst y;exact Sc (D:=⟨all,listed,n+1,ends,n0,mask,V1,(i,true)::p,lr⟩) Y Y W z H K N (.inl ⟨Y,Y⟩) O h
 ·rename_i G hG z;split at y<;>try (simp at y;done)
  rename_i v r hv;split at y<;>try (simp at y;done)
  rename_i d H;split at y<;>try (simp at y;done)
  rename_i K N hl;have O:∀env t w,Ng env M L t->N3 env M lr t->Holds V1 w->RdM env M (Sd mask 0 n0 M) w->_:=λenv t w X Z _ g4=>T6 (P:=C.P) hT g4 (A2 X Z) (YS L lr) hv;split at y
  ·simp only[AE]at y;subst y;exact Sc (D:=⟨all,listed,n+1,ends,n0,mask,V1,(i,true)::p,lr⟩) Y Y W z H K N (.inr ⟨Y,hl⟩) O h
  ·simp only[AE]at y;subst y;exact Sc (D:=⟨all,listed,n+1,ends,n0,mask,V1,(i,true)::p,lr⟩) Y Y W z H K N (.inr ⟨Y,hl⟩) O h
omit hT in
theorem AN2{D:ABy}{p:List (Nat×Bool)}{k:List Kt}{V:AM}(N:D.Ih=(i,false)::p)(H:D.n=n+1)(Z:nth D.all i=some o)(h:AD C ⟨.ops [o] D.all D.lr:: .draw ⟨D.all,Ha D.listed i,n,D.ends,D.n0,D.mask,D.V,p,D.lr⟩::k,L,M⟩ V):AD C ⟨.draw D::k,L,M⟩ V:=by
 refine AD.of λFR O env t w h1 h2 h3 h4 W=>?_;have y:=(show Pp O D env V M from W).Ih;rw[N,H]at y;simp only[Hg]at y;split at y<;>try (simp at y;done)
 rename_i hs hl;have X:rdy D.listed 0 D.all=[i]:=by
  unfold ANf at hl;split at hl
  ·rename_i j K;rw[K,F6 hl]
  ·simp at hl
 refine(AD.pick hs H (by rw[X];simp) (λj K oj z=>?_)).to FR O env t w h1 h2 h3 h4 W;rw[X]at K;simp only[List.mem_singleton]at K;subst K;rw[Z]at z;simp only[AE]at z;subst z;exact⟨p,y,h⟩
theorem AEv{V1:AM}{k:List Kt}{V:AM}{H:St}(y:AKX C.T C.nt all listed n ends n0 mask V1 aG lr k L M=some H)(h:AD C H V):AD C ⟨.draw ⟨all,listed,n,ends,n0,mask,V1,aG,lr⟩::k,L,M⟩ V:=by
 unfold AKX at y;split at y
 ·split at y<;>try (simp at y;done)
  rename_i z K;exact AJj z K y h
 ·split at y<;>try (simp at y;done)
  exact AD8 hT h y
 ·split at y<;>try (simp at y;done)
  rename_i o N;simp only[AE]at y;subst y;exact AN2 (D:=⟨all,listed,_,ends,n0,mask,V1,_,lr⟩) Y Y N h
end
theorem Cn{ops:Array Oper}{a:Act}{w:World}(h:if Region.wanted o (yielded ops a.tmps)=true then o.wp P a w (wpList P ops Q rest) Q else wpList P ops Q rest (a.put o.dst undef) w):wpList P ops Q (o::rest) a w:=by
 unfold wpList;split
 ·grind
 ·grind
theorem FT{a:Act}{w:World}{v:Value}(h:(execOp a.eval o).run P w=.ok (.value v) w')(y:K (a.put o.dst v) w'):o.wp P a w K Q:=by
 unfold Oper.wp;rw[h];exact y
theorem T4{a:Act}{w:World}(h:(execOp a.eval o).run P w=.ok .skip w')(y:K (a.put o.dst undef) w'):o.wp P a w K Q:=by
 unfold Oper.wp;rw[h];exact y
theorem N0{C:Ctx}{FR:KC}{id:Nat}{a:Act}{w:World}:∀{k y:List Kt}{z:DFr},ADE id k=some y->(∀z,post C FR z y .normal a w)->post C FR z k (.exit id) a w
 |[],y,_,h,_=>by simp[ADE]at h
 |.draw _::k,y,_,h,hp=>N0 (k:=k) h hp|.inBlock K::k,y,_,h,hp=>by
  simp only[ADE]at h;simp only[post,Exit.inBlock];split at h
  ·rename_i H;simp only[AE]at h;subst h;rw[if_pos (F6 H).symm];exact hp _
  ·rename_i H;rw[if_neg (λe=>J0 H e.symm)];exact N0 h hp
 |.code c::k,y,_,h,hp=>N0 (k:=k) h hp|.inLoop I::k,y,_,h,hp=>N0 (k:=k) h hp|.ops r a l::k,y,_,h,hp=>N0 (k:=k) h hp
theorem MB{C:Ctx}{FR:KC}{a:Act}{w:World}{p:List PanicEntry}(h:bodyPost C.P C.fn (ABH C FR) (.panic p) a w):∀(k:List Kt)(y:DFr),post C FR y k (.panic p) a w
 |[],_=>h|.draw _::k,_=>MB h k _|.code _::k,_=>MB h k _|.inBlock _::k,_=>MB h k _|.inLoop _::k,_=>MB h k _|.ops _ _ _::k,_=>MB h k _
theorem O0{C:Ctx}{FR:KC}{a:Act}{w:World}(h:bodyPost C.P C.fn (ABH C FR) .ret a w):∀(k:List Kt)(y:DFr),post C FR y k .ret a w
 |[],_=>h|.draw _::k,_=>O0 h k _|.code _::k,_=>O0 h k _|.inBlock _::k,_=>O0 h k _|.inLoop _::k,_=>O0 h k _|.ops _ _ _::k,_=>O0 h k _
section
variable {C:Ctx} (hT:K2 C.P C.T)
include hT
theorem AD.val{k:List Kt}{V:AM}{x:SV}{r:AA Nat}{d:Nat}(hg:IH all lr o.guard=some G)(hv:valOf C.T (Et L lr) M G o.op=some (x,r))(hd:o.dst=some d)(N:Nat.blt d C.nt=true)(O:M8 d lr=true)(W:(G=[]/\L'=(d,x)::L)\/(L'=L/\EF L d=none))(h:AD C ⟨.ops rest all (⟨d,G,x,r.getD d⟩::lr)::k,L',M⟩ V):AD C ⟨.ops (o::rest) all lr::k,L,M⟩ V:=by
 refine AD.of λFR X env t w h1 h2 h3 Z h5=>?_;have K:d<t.size:=by rw[h1];simpa[D1]using N
 have⟨s1,s2,s3⟩:=T6 hT h2.rd (A2 h3 Z) (YS L lr) hv;have hw:=Ch Z hg;have aa:∀u,((Di t G->u=den env x)/\(¬Di t G->u=undef))->r.getD d=d\/(r.getD d≠d/\t[r.getD d]? =some u):=by
  intro u hu;cases r with
  |none=>exact .inl Y|some r0=>
   have⟨k1,k2,y,c,v,hy⟩:=s3 r0 Y;have⟨s,e,k3,k4⟩:=AFA hy;right;simp only[Kp];refine⟨by rw[<- k4];exact(Pf O k3).2.1,?_⟩;by_cases H:Di t G
   ·grind
   ·grind
 have fin:∀u,((Di t G->u=den env x)/\(¬Di t G->u=undef))->post C FR X (.ops rest all (⟨d,G,x,r.getD d⟩::lr)::k) .normal ⟨t.setIfInBounds d u,[]⟩ w:=by
  intro u hu;refine h.to FR X env _ w (by simpa using h1) h2 ?_ (Z.put K O hu.1 hu.2 (RS hg O) (aa u hu) s1) h5.same;rcases W with⟨rfl,rfl⟩|⟨rfl,z⟩
  ·rw[hu.1 Yt];exact h3.put K (s1 Yt)
  ·exact h3.AAN z u
 show wpList C.P ⟨all⟩ (post C FR X k) (o::rest) ⟨t,[]⟩ w;refine Cn ?_;by_cases H:Di t G
 ·rw[if_pos (hw.2 H)];refine FT (s2 H) ?_;simp only[Act.put,hd];exact fin (den env x) ⟨λ_=>Y,λN=>absurd H N⟩
 ·rw[if_neg (λe=>H (hw.1 e))];simp only[Act.put,hd];exact fin undef ⟨λe=>absurd e H,λ_=>Y⟩
theorem AD.mem{k:List Kt}{V:AM}{x:SV}{d:Nat}(N:IH all lr o.guard=some [])(hv:AFI C.T (Et L lr) M o.op=some (some x,M'))(O:o.dst=some d)(z:Nat.blt d C.nt=true)(W:M8 d lr=true)(h:AD C ⟨.ops rest all (⟨d,[],x,d⟩::lr)::k,(d,x)::L,M'⟩ V):AD C ⟨.ops (o::rest) all lr::k,L,M⟩ V:=by
 refine AD.of λFR K env t w h1 h2 h3 H X=>?_;have y:d<t.size:=by rw[h1];simpa[D1]using z
 have⟨env',w',Z,j2,_,k1,k2,k3,k4,k5⟩:=ZV hT h2 (A2 h3 H) hv;have hw:=Ch H N;show wpList C.P ⟨all⟩ (post C FR K k) (o::rest) ⟨t,[]⟩ w;refine Cn ?_;rw[if_pos (hw.2 Yt)];refine FT k5 ?_;simp only[Act.put,O];exact h.to FR K env' (t.setIfInBounds d (den env' x)) w' (by simpa using h1) k1 ((k2 _ h3).put y k4)
  ((k3 _ H).put y W (λ_=>Y) (λz=>absurd Yt z) Y (.inl Y) (λ_=>k4)) (My.grow Z (DI.refl V) (j2 zp) X.same)
theorem AL6{k:List Kt}{V:AM}(H:IH all lr o.guard=some [])(hv:AFI C.T (Et L lr) M o.op=some (none,M'))(K:o.dst=none)(hi:AMP (Et L lr) o.op=some i)(N:L9 i k=true)(h:AD C ⟨.ops rest all lr::k,L,M'⟩ V):AD C ⟨.ops (o::rest) all lr::k,L,M⟩ V:=by
 refine AD.of λFR z env t w h1 h2 h3 y O=>?_;have⟨env',w',W,_,X,k1,k2,k3,k5⟩:=ZV hT h2 (A2 h3 y) hv;have hw:=Ch y H;show wpList C.P ⟨all⟩ (post C FR z k) (o::rest) ⟨t,[]⟩ w;refine Cn ?_;rw[if_pos (hw.2 Yt)];refine T4 k5 ?_;simp only[Act.put,K];exact h.to FR z env' t w' h1 k1 (k2 _ h3) (k3 _ y) (by
  have⟨Z,b,q1,q2⟩:=X Y;have q3:i=Z:=Lp (hi.symm.trans q1);subst q3;subst q2;exact My.grow (M:=M.set i b) W (DI.refl V) ⟨[],by simp⟩ (My.write (M:=M) N O.same))
theorem ADc{k:List Kt}{V:AM}{O:St}(y:AGd C.T C.nt o rest all lr k L M=some O)(h:AD C O V):AD C ⟨.ops (o::rest) all lr::k,L,M⟩ V:=by
 unfold AGd at y;split at y
 ·simp at y
 ·rename_i H;split at y
  ·rename_i v r hv;split at y<;>try (simp at y;done)
   rename_i d z;split at y<;>try (simp at y;done)
   rename_i K N;split at y
   ·simp only[AE]at y;subst y;exact AD.val hT H hv z K N (.inl ⟨Y,Y⟩) h
   ·simp only[AE]at y;subst y;exact AD.val hT H hv z K N (.inl ⟨Y,Y⟩) h
  ·split at y
   ·rename_i v M' hv;split at y<;>try (simp at y;done)
    rename_i d z;split at y<;>try (simp at y;done)
    rename_i K N;simp only[AE]at y;subst y;exact AD.mem hT H hv z K N h
   ·rename_i M' hv;split at y<;>try (simp at y;done)
    rename_i z hi;split at y<;>try (simp at y;done)
    rename_i W;simp only[AE]at y;subst y;exact AL6 hT H hv z hi W h
   ·simp at y
 ·rename_i G hG H;split at y<;>try (simp at y;done)
  rename_i v r hv;split at y<;>try (simp at y;done)
  rename_i d z;split at y<;>try (simp at y;done)
  rename_i K N hl;split at y
  ·simp only[AE]at y;subst y;exact AD.val hT H hv z K N (.inr ⟨Y,hl⟩) h
  ·simp only[AE]at y;subst y;exact AD.val hT H hv z K N (.inr ⟨Y,hl⟩) h
theorem AGb{s N:St}{V:AM}(y:step C.T C.nt V s=some N)(h:AD C N V):AD C s V:=by
 unfold step at y;split at y
 ·exact AD.of λFR z env t w h1 h2 h3 _ _=>wp_skip (QT y h h1 h2 h3 _)
 ·exact AD.of λFR z env t w h1 h2 h3 _ _=>wp_label (QT y h h1 h2 h3 _)
 ·simp only[AE]at y;subst y;exact AD.of λFR z env t w h1 h2 h3 H _=>wp_seq (h.to FR .none env t w h1 h2 h3 H Yt)
 ·simp only[AE]at y;subst y;exact AD.of λFR z env t w h1 h2 h3 H _=>wp_block (h.to FR .none env t w h1 h2 h3 H Yt)
 ·split at y
  ·rename_i O K;exact AD.of λFR z env t w h1 h2 h3 _ _=>wp_exit (N0 K (QT y h h1 h2 h3))
  ·simp at y
 ·split at y<;>try (simp at y;done)
  rename_i K;simp only[AE]at y;subst y;exact AD.of λFR z env t w h1 h2 h3 H _=>wp_region_list (h.to FR .none env t w h1 h2 h3 (N3.nil env _ t) (ANU K))
 ·exact AD.of λFR z env t w h1 h2 h3 _ _=>QT y h h1 h2 h3 _
 ·simp only[AE]at y;subst y;exact AJi (D:=⟨_,_,_,_,_,_,_,_,_⟩) h
 ·exact AEv hT y h
 ·exact AD.of λFR z env t w h1 h2 h3 _ _=>QT y h h1 h2 h3 _
 ·exact ADc hT y h
 ·simp at y
theorem ACo:∀(n:Nat){s:St}{V:AM},AD C (run C.T C.nt V n s) V->AD C s V
 |0,_,_,h=>h|n+1,s,V,h=>by
  simp only[run]at h;split at h
  ·rename_i z y;exact AGb hT y (ACo n h)
  ·exact h
theorem AD.run(n:Nat){s:St}{k:List Kt}{V:AM}(y:Go.Proofs.YthjnkknigpkldaaGreatDoor.run C.T C.nt V n s=⟨k,L,M⟩)(h:AD C ⟨k,L,M⟩ V):AD C s V:=
 ACo hT n (by rw[y];exact h)
end
section
variable {C:Ctx}
theorem AD.cond{c:Operand}{x:Code}{k:List Kt}{V:AM}{b:Bool}(H:ev (Et L []) [] c=some (.v (.bool b)))(h1:b=true->AD C ⟨.code x::k,L,M⟩ V)(h2:b=false->AD C ⟨.code aj::k,L,M⟩ V):AD C ⟨.code (.cond c x aj)::k,L,M⟩ V:=by
 refine AD.of λFR K env t w k1 k2 k3 k4 _=>?_;have he:=BN (A2 k3 (N3.nil env _ t)) (G:=[]) Yt H;exact wp_cond_split he (λz=>(h1 z).to FR .none env t w k1 k2 k3 k4 Yt) (λz=>(h2 z).to FR .none env t w k1 k2 k3 k4 Yt)
theorem CT{c:Operand}{x:Code}{k:List Kt}{V:AM}{b:Bool}(z:ev (Et L []) [] c=some (.v (.bool b)))(H:b=true)(h1:AD C ⟨.code x::k,L,M⟩ V):AD C ⟨.code (.cond c x aj)::k,L,M⟩ V:=
 AD.cond z (λ_=>h1) (λh=>by rw[H]at h;simp at h)
theorem CY{c:Operand}{x:Code}{k:List Kt}{V:AM}{b:Bool}(z:ev (Et L []) [] c=some (.v (.bool b)))(H:b=false)(h1:AD C ⟨.code aj::k,L,M⟩ V):AD C ⟨.code (.cond c x aj)::k,L,M⟩ V:=
 AD.cond z (λh=>by rw[H]at h;simp at h) (λ_=>h1)
def Sub:Fr->Fr->Prop
 |[],_=>True|(s,x)::L',L=>EF L s=some x/\Sub L' L
theorem Sub.look{L:Fr}:∀{L':Fr},Sub L' L->∀s x,EF L' s=some x->EF L s=some x
 |[],_,s,x,h=>by simp[EF]at h
 |(n,y)::L',z,s,x,h=>by
  rw[MC]at h;split at h
  ·rename_i he;simp only[AE]at h;subst h;subst he;exact z.1
  ·exact Sub.look z.2 s x h
theorem AIx{c:Code}(J:Nat->Act->World->Prop)(round:∀n a w,J n a w->c.wp P (Exit.then (λa' w'=>∃m,m<n/\J m a' w') Q) a w){a:Act}{w:World}(h0:J n a w):(Code.loop c).wp P Q a w:=by
 intro b k cs;have key:∀n a w,J n a w->∃e a' w',Q e a' w'/\Arrives P (lone (b.at a (.code c:: .inLoop c::k)) cs w) b k cs e a' w':=by
  intro n
  induction n using Nat.strongRecOn with
  |_ n X=>
   intro a w Z;have⟨e,a1,K,z,y⟩:=round n a w Z b (.inLoop c::k) cs;cases e with
   |normal=>
    have⟨m,N,O⟩:=z;have⟨e2,a2,w2,W,H⟩:=X m N a1 K O;exact⟨e2,a2,w2,W,.of_steps (Steps.trans y (.one step_inLoop)) H⟩
   |exit id=>exact⟨_,a1,K,z,.pass (x:=.inLoop c) Y (λ_ _=>.inl zp) y⟩|goto l=>exact⟨_,a1,K,z,.pass (x:=.inLoop c) Y (λ_ _=>.inl zp) y⟩|ret=>exact⟨_,a1,K,z,.pass (x:=.inLoop c) Y (λ_ _=>.inl zp) y⟩|panic ch=>exact⟨_,a1,K,z,.pass (x:=.inLoop c) Y (λ_ _=>.inl zp) y⟩|outgrown=>exact⟨_,a1,K,z,.pass (x:=.inLoop c) Y (λ_ _=>.inl zp) y⟩
 have⟨e,a',w',z,y⟩:=key n a w h0;exact⟨e,a',w',z,.of_steps (.one step_loop) y⟩
theorem AD.loop{c:Code}{k:List Kt}{V:AM}(I:Nat->Fr->AM->List OB->Prop)(h0:∃n L',Sub L' L/\I n L' V M)(N:∀n L V M,I n L V M->AD C ⟨.code c:: .inLoop (λL V M=>∃m,m<n/\I m L V M)::k,L,M⟩ V):AD C ⟨.code (.loop c)::k,L,M⟩ V:=by
 refine AD.of λFR DF env t w h1 h2 h3 _ _=>?_;have⟨n,L',O,hI⟩:=h0;refine AIx (λn a w=>a.defers=[]/\a.tmps.size=C.nt/\∃env L V M,FC C.V0 FR env V M w/\Ng env M L a.tmps/\I n L V M) ?_ (n:=n)
  ⟨Y,h1,env,L',V,M,h2,λs x W=>h3 s x (O.look s x W),hI⟩
 rintro n ⟨H,d'⟩ w' ⟨K,y,env',X,V1,Z,k1,k2,k3⟩;simp only at K y k2;subst K;have:=(N n X V1 Z k3).to FR .none env' H w' y k1 k2 (N3.nil env' _ H) Yt;refine wp_mono this λe a2 w2 hp=>?_;cases e with
 |normal=>
  have⟨g1,g2,z,L2,V2,M2,g3,g4,m,g5,g6⟩:=hp;exact⟨m,g5,g1,g2,z,L2,V2,M2,g3,g4,g6⟩
 |exit id=>exact hp|goto l=>exact hp|ret=>exact hp|panic ch=>exact hp|outgrown=>exact hp
theorem AD.round{I:Fr->AM->List OB->Prop}{k:List Kt}{V:AM}(L':Fr)(y:Sub L' L)(h:I L' V M):AD C ⟨.inLoop I::k,L,M⟩ V:=
 AD.of λ_ _ env _ _ h1 h2 h3 _ _=>⟨Y,h1,env,L',V,M,h2,λs x z=>h3 s x (y.look s x z),h⟩
theorem look_eq{s:Nat}{x:SV}(h:EF L s=some x)(e:x=bj):EF L s=some bj:=by rw[h,e]
theorem Vg{n:Int}(h: -9223372036854775808<=n)(y:n<=9223372036854775807):AB n=n:=by
 simp[IntKind.wrap_i64];omega
end
def AEa(P:Program)(f:Nat):Prop:=∃fn,P.funcs[f]? =some fn/\fn.body.isNone=false/\(fn.name== "runtime.NumGoroutine")=false
def Spec(P:Program)(f:Nat)(args:List Value)(V:AM)(R:AM->Value->Prop):Prop:=
 AEa P f/\∀w,Holds V w->Calls P f ⟨args⟩ w λe w'=>∃v V',e=.returned v/\Go.RowKit.Below w.heap.size w w'/\DI V V'/\Holds V' w'/\
  (∀a x,V' a=some x->V a=some x\/w.heap.size<=a.block)/\R V' v
theorem Spec.mono{V:AM}{R y:AM->Value->Prop}(h:Spec P f args V R)(z:∀V' v,DI V V'->R V' v->y V' v):Spec P f args V y:=
 ⟨h.1,λw hw=>(h.2 w hw).mono λ_ _ ⟨v,V',h1,h2,h3,H,K,N⟩=>⟨v,V',h1,h2,h3,H,K,z V' v h3 N⟩⟩
def Tf:Nat->List Value->Fr
 |_,[]=>[]|i,v::vs=>(i,.v v)::Tf (i+1) vs
theorem PC:∀(vs:List Value)(i s:Nat)(x:SV),EF (Tf i vs) s=some x->∃v,x=.v v/\i<=s/\vs[s-i]? =some v
 |[],i,s,x,h=>by simp[Tf,EF]at h
 |v::vs,i,s,x,h=>by
  simp only[Tf]at h;rw[MC]at h;split at h
  ·grind
  ·rename_i he;have⟨y,h1,h2,h3⟩:=PC vs (i+1) s x h;refine⟨y,h1,by omega,?_⟩;rw[show s-i=(s-(i+1))+1 by omega];simpa using h3
theorem Spec.enter{c:Code}{V:AM}{R:AM->Value->Prop}(W:P.funcs[f]? =some fn)(X:fn.body=some c)(z:(fn.name== "runtime.NumGoroutine")=false)(Z:fn.ntmps=nt)(hlen:Nat.ble args.length nt=true)(hL:Tf 0 args=L)(h:AD ⟨P,T,fn,nt,V,λV v _=>R V v,λ_ _ _=>False⟩ ⟨[.code c],L,[]⟩ V):Spec P f args V R:=by
 refine⟨⟨fn,W,by rw[X];rfl,z⟩,λw hw=>?_⟩
 let FR:KC:=⟨w.os,w.tape,w.output,λb=>w.heap[b]?⟩
 have K:FC V FR [] V [] w:=⟨Y,Y,Y,λ_ _ h=>h,DI.refl V,hw,λ_ _ h=>.inl h,Y,λi o h=>by simp at h,λi o a h=>by simp at h,λi o a h=>by simp at h,λi j o o' a _ h=>by simp at h,hw.t⟩;have hle:=Ae hlen;have H:=calls_of_wp (P:=P) (f:=f) (args:=⟨args⟩) (w:=w) (R:=ABH ⟨P,T,fn,nt,V,λV v _=>R V v,λ_ _ _=>False⟩ FR) W X (by
  refine h.to0 (k:=[.code c]) Y (FR:=FR) (env:=[]) (t:=(⟨args⟩:Array Value)++Array.replicate (fn.ntmps-args.length) undef) ?_ K ?_ .none
  ·grind
  ·intro s x O;rw[<- hL]at O;obtain⟨v,rfl,_,h2⟩:=PC args 0 s x O;refine⟨?_,Yt⟩;have hs:s<args.length:=(As.1 h2).1;rw[Om];simpa[hs,den]using h2)
 refine H.mono λe w' hp=>?_;rcases hp with⟨v,env',V',M',h1,y,h9⟩|⟨_,_,_,_,_,_,hp⟩
 rotate_left
 ·exact hp.elim
 have h2:=y.os;have h3:=y.tape;have h4:=y.output;have h5:=y.frame;have h6:=y.le;have h7:=y.holds;have h8:=y.fresh;have N:∀k,k<w.heap.size->w'.heap[k]? =w.heap[k]? :=λk hk=>by
  have:w.heap[k]? =some w.heap[k]:=by simp[hk]
  rw[this];exact h5 k _ this
 refine⟨v,V',h1,⟨h2,h3,h4,?_,N⟩,h6,h7,λa x O=>?_,h9⟩
 ·grind
 ·grind
def Zs(T:List G6)(L:Fr)(M:List OB):List ResultVar->AA (List Value)
 |[]=>some []|.tmp s::r=>match EF L s with
  |some (.v x)=>match Zs T L M r with
   |some l=>some (x::l)|none=>none
  |_=>none
 |.cell s t::r=>match EF L s with
  |some (.ptr i o)=>match nth M i,nth T t with
   |some (.Bp cs _),some d=>match d.size with
    |0=>none|_+1=>match Yb d cs o with
     |some (.v x)=>match Zs T L M r with
      |some l=>some (x::l)|none=>none
     |_=>none
   |_,_=>none
  |_=>none
def UC:List Value->Value
 |[x]=>x|l=>.tuple ⟨l⟩
def AAu(t:Array Value):ResultVar->Sem Value
 |.tmp s=>pure (t.getD s undef)|.cell a ty=>do loadVar ty (<- asAddr (t.getD a undef))
theorem WC{P:Program}{T:List G6}(hT:K2 P T){V0 V:AM}{FR:KC}{env:List Nat}{L:Fr}{M:List OB}{t:Array Value}{w:World}(z:FC V0 FR env V M w)(y:Ng env M L t):∀(rs:List ResultVar)(vs:List Value),Zs T L M rs=some vs->(rs.mapM (AAu t)).run P w=.ok vs w
 |[],vs,h=>by simp only[Zs,AE]at h;subst h;simp
 |.tmp s::r,vs,h=>by
  simp only[Zs]at h;split at h<;>try (simp at h;done)
  rename_i x H;split at h<;>try (simp at h;done)
  rename_i l hl;simp only[AE]at h;subst h;have K:=WC hT z y r l hl;have⟨h1,_⟩:=y s _ H;have h2:t.getD s undef=x:=by simp[h1,den]
  simp only[R1,AAu,Sem.run_bind,Sem.run_pure,Result.andThen_ok,K,h2]
 |.cell s ty::r,vs,h=>by
  simp only[Zs]at h;split at h<;>try (simp at h;done)
  rename_i i o H;split at h<;>try (simp at h;done)
  rename_i cs W d O X;split at h<;>try (simp at h;done)
  rename_i n Z;split at h<;>try (simp at h;done)
  rename_i x N;split at h<;>try (simp at h;done)
  rename_i l hl;simp only[AE]at h;subst h;have K:=WC hT z y r l hl;have⟨h1,_⟩:=y s _ H;have h2:t.getD s undef=.pointer (some ⟨Bm env i,o,none⟩):=by simp[h1,den]
  rw[Cc]at O;have h3:=AAp hT (z.sat i _ O).1 X ox N;have h4:(asAddr (t.getD s undef)).run P w=.ok ⟨Bm env i,o,none⟩ w:=by rw[h2];rfl
  simp only[R1,AAu,Sem.run_bind,h4,Sem.run_pure,Result.andThen_ok,h3,K,den]
theorem ADT{C:Ctx}(hT:K2 C.P C.T){V:AM}(z:C.fn.results=⟨rs⟩)(hv:Zs C.T L M rs=some vs)(hR:C.R V (UC vs) M){FR:KC}{t:Array Value}{w:World}(h2:FC C.V0 FR env V M w)(h3:Ng env M L t):(results C.fn t).run C.P w=.ok (UC vs) w/\ABH C FR (.returned (UC vs)) w:=by
 refine⟨?_,.inl ⟨UC vs,env,V,M,Y,h2,hR⟩⟩;have:=WC hT h2 h3 rs vs hv;have H:results C.fn t=(⟨rs⟩:Array ResultVar).mapM (AAu t)>>=λvs=>(pure (if h:vs.size=1 then vs[0]else .tuple vs):Sem Value):=by
  unfold results;rw[z];rfl
 rw[H,YA];simp only[Sem.run_bind,Sem.run_map,this,Result.andThen_ok,Sem.run_pure]
 congr 1
 match vs with
 |[]=>rfl|[x]=>simp[UC]|x::y::l=>simp[UC]
theorem AD.ret{C:Ctx}(hT:K2 C.P C.T){k:List Kt}{V:AM}(y:C.fn.results=⟨rs⟩)(hv:Zs C.T L M rs=some vs)(hR:C.R V (UC vs) M):AD C ⟨.code .ret::k,L,M⟩ V:=by
 refine AD.of λFR z env t w h1 h2 h3 _ _=>wp_ret ?_;have⟨k1,k2⟩:=ADT hT y hv hR h2 h3;exact O0 ⟨Y,_,k1,k2⟩ k _
theorem AD.SL{C:Ctx}(hT:K2 C.P C.T){V:AM}(y:C.fn.results=⟨rs⟩)(hv:Zs C.T L M rs=some vs)(hR:C.R V (UC vs) M):AD C ⟨[],L,M⟩ V:=by
 refine AD.of λFR z env t w h1 h2 h3 _ _=>?_;have⟨k1,k2⟩:=ADT hT y hv hR h2 h3;exact⟨Y,_,k1,k2⟩
def P3(lr:List B7):List (Nat×Bool)->Prop->Prop
 |[],p=>p|(r,b)::G,p=>match H7 lr r with
  |some ⟨_,_,.v (.bool x),_⟩=>x=b->P3 lr G p|_=>P3 lr G p
theorem P3.out{env:List Nat}{M:List OB}{lr:List B7}{t:Array Value}(hR:N3 env M lr t){p:Prop}:∀{G:List (Nat×Bool)},Di t G->P3 lr G p->p
 |[],_,h=>h|(r,b)::G,y,h=>by
  simp only[P3]at h;split at h
  ·rename_i s c x K he;have⟨h1,h2,h3⟩:=hR r _ he;have z:Di t c:=by
    refine Classical.byContradiction λH=>?_;have:=h2 H;rw[y.1]at this;simp[undef]at this
   have:=(h1 z).1;rw[y.1]at this;simp only[den,AE,Value.bool.injEq]at this;exact P3.out hR y.2 (h this.symm)
  ·exact P3.out hR y.2 h
def CF(nt:Nat)(all:List Oper)(lr:List B7)(L:Fr)(o:Oper):AA (List (Nat×Bool)×Nat):=
 match IH all lr o.guard with
 |some []=>match o.dst with
  |some d=>match Nat.blt d nt,M8 d lr with
   |true,true=>some ([],d)|_,_=>none
  |none=>none
 |some (g::G)=>match o.dst with
  |some d=>match Nat.blt d nt,M8 d lr,EF L d with
   |true,true,none=>some (g::G,d)|_,_,_=>none
  |none=>none
 |none=>none
def F9(G:List (Nat×Bool))(d:Nat)(x:SV)(L:Fr):Fr:=
 match G with
 |[]=>(d,x)::L|_=>L
theorem EG{d:Nat}(h:CF nt all lr L o=some (G,d)):IH all lr o.guard=some G/\o.dst=some d/\Nat.blt d nt=true/\M8 d lr=true/\(G=[]\/(G≠[]/\EF L d=none)):=by
 unfold CF at h;split at h<;>try (simp at h;done)
 ·grind
 ·grind
theorem HY{C:Ctx}{k:List Kt}{V:AM}{x:SV}{d:Nat}(hh:CF C.nt all lr L o=some (G,d))(hy:∀FR env t w,FC C.V0 FR env V M w->Ng env M L t->N3 env M lr t->Di t G->x.ok M/\∀K Q,(∀w',FC C.V0 FR env V M w'->K (({tmps:=t,defers:=[]}:Act).put o.dst (den env x)) w')->o.wp C.P ⟨t,[]⟩ w K Q)(h:AD C ⟨.ops rest all (⟨d,G,x,d⟩::lr)::k,F9 G d x L,M⟩ V):AD C ⟨.ops (o::rest) all lr::k,L,M⟩ V:=by
 refine AD.of λFR N env t w h1 h2 h3 O h5=>?_;have⟨hg,hd,W,hf,X⟩:=EG hh;have H:d<t.size:=by rw[h1];simpa[D1]using W
 have hw:=Ch O hg;have fin:∀u w',FC C.V0 FR env V M w'->((Di t G->u=den env x/\x.ok M)/\(¬Di t G->u=undef))->post C FR N (.ops rest all (⟨d,G,x,d⟩::lr)::k) .normal ⟨t.setIfInBounds d u,[]⟩ w':=by
  intro u w' Z hu;refine h.to FR N env _ w' (by simpa using h1) Z ?_ (O.put H hf (λy=>(hu.1 y).1) hu.2 (RS hg hf) (.inl Y) (λy=>(hu.1 y).2)) h5.same;rcases X with rfl|⟨aa,z⟩
  ·rw[(hu.1 Yt).1];exact h3.put H (hu.1 Yt).2
  ·cases G with
   |nil=>exact absurd Y aa|cons g G=>exact h3.AAN z u
 show wpList C.P ⟨all⟩ (post C FR N k) (o::rest) ⟨t,[]⟩ w;refine Cn ?_;by_cases y:Di t G
 ·rw[if_pos (hw.2 y)];have⟨k2,k4⟩:=hy FR env t w h2 h3 O y;refine k4 _ _ λw' k3=>?_;simp only[Act.put,hd];exact fin _ w' k3 ⟨λ_=>⟨Y,k2⟩,λW=>absurd y W⟩
 ·rw[if_neg (λe=>y (hw.1 e))];simp only[Act.put,hd];exact fin undef w h2 ⟨λe=>absurd e y,λ_=>Y⟩
def AJp:List Value->List Value->AA (List Value)
 |[],l=>some l|a::r,l=>match AJp r l with
  |some q=>some (a::q)|none=>none
theorem Qt:∀{a b r:List Value},AJp a b=some r->r=a++b
 |[],b,r,h=>by simp only[AJp,AE]at h;simp[h]
 |x::a,b,r,h=>by
  simp only[AJp]at h;split at h
  ·rename_i q y;simp only[AE]at h;subst h;simp[Qt y]
  ·simp at h
def evs(y:Je)(G:List (Nat×Bool)):List Operand->AA (List Value)
 |[]=>some []|x::l=>match ev y G x with
  |some (.v a)=>match evs y G l with
   |some r=>some (a::r)|none=>none
  |_=>none
theorem SM{env:List Nat}{M:List OB}{t:Array Value}{z:Je}(H:NU env M t z){G:List (Nat×Bool)}(hG:Di t G):∀{y:List Operand}{args:List Value},evs z G y=some args->y.map (⟨t,[]⟩:Act).eval=args
 |[],args,h=>by simp only[evs,AE]at h;simp[h]
 |x::l,args,h=>by
  simp only[evs]at h;split at h<;>try (simp at h;done)
  rename_i a K;split at h<;>try (simp at h;done)
  rename_i r N;simp only[AE]at h;subst h;rw[B8,BN H hG K,SM H hG N];rfl
def Gc(z:Je)(G:List (Nat×Bool))(op:Op):AA (Nat×List Value):=
 match op with
 |.call ⟨.value H,⟨y⟩,_⟩=>match ev z G H with
  |some (.v (.func (.func f) ⟨K⟩ ⟨N⟩))=>match evs z G y with
   |some args=>match AJp K args with
    |some a1=>match AJp a1 N with
     |some full=>some (f,full)|none=>none
    |none=>none
   |none=>none
  |_=>none
 |_=>none
theorem KR{t:Array Value}(O:NU env M t ag)(hG:Di t G)(h:Gc ag G o.op=some (f,args))(W:AEa P f)(w:World):(execOp (⟨t,[]⟩:Act).eval o).run P w=.ok (.enter f ⟨args⟩) w:=by
 unfold Gc at h;split at h<;>try (simp at h;done)
 rename_i fx X Z z;split at h<;>try (simp at h;done)
 rename_i f' fi ca H;split at h<;>try (simp at h;done)
 rename_i K has;split at h<;>try (simp at h;done)
 rename_i a1 N;split at h<;>try (simp at h;done)
 rename_i full y;simp only[AE,BJ]at h;obtain⟨rfl,rfl⟩:=h;have⟨fn,h1,h2,h3⟩:=W;have e1:=BN O hG H;have e2:=SM O hG has;have e3:=Qt N;have e4:=Qt y;unfold execOp;simp only[z,resolve,e1,den,Deferred.ofValue,Sem.run_bind,Sem.run_pure,Result.andThen_ok,invoke,callFunc,run_program,h1,h3,GK,if_false,h2]
 congr 2
 apply AHr;simp[e4,e3,<- e2]
section
variable {C:Ctx} (hT:K2 C.P C.T)
theorem AD.OJ{k:List Kt}{V:AM}{d:Nat}(x:Value)(hh:CF C.nt all lr L o=some (G,d))(hc:Gc (Et L lr) G o.op=some (f,args))(z:P3 lr G (Spec C.P f args V λ_ v=>v=x))(h:AD C ⟨.ops rest all (⟨d,G,.v x,d⟩::lr)::k,F9 G d (.v x) L,M⟩ V):AD C ⟨.ops (o::rest) all lr::k,L,M⟩ V:=by
 refine HY (x:=.v x) hh (λFR env t w h2 h3 h4 hG=>⟨Yt,λK Q hK=>?_⟩) h;have⟨W,H⟩:=z.out h4 hG;unfold Oper.wp;rw[KR (A2 h3 h4) hG hc W w];refine(H w h2.holds).mono λe w' ⟨v,V',p1,N,p3,p4,p5,p6⟩=>?_;subst p1;subst p6;refine hK w' ?_;have X:∀b o,FR.Bp b=some o->b<w.heap.size:=λb o O=>(An.1 (h2.frame b o O)).1;refine⟨N.os.trans h2.os,N.tape.trans h2.tape,N.output.trans h2.output,λb o O=>by rw[N.block b (X b o O)];exact h2.frame b o O,h2.le,⟨λa y hy=>p4 a y (p3 a y hy),p4.t⟩,h2.fresh,h2.len,?_,h2.DA,h2.C1,h2.apart,h2.tb⟩;intro i ob Z;have z:=h2.sat i ob Z;cases ob with
 |gone=>trivial|Bp cs ty=>exact⟨by rw[N.block _ (An.1 z.1).1];exact z.1,z.2⟩
 |row y cs e sz=>exact Nu z λg hg=>N.block _ (Dt (env:=env) (M:=M) (b:=0) (o:=.row y cs e sz) z (a:=⟨g,0,none⟩) hg)|ext E=>exact E.frame (λb hb=>N.block _ (E.lt z hb)) z
theorem AD.call{k:List Kt}{V:AM}{d:Nat}{R:AM->Value->Prop}(hh:CF C.nt all lr L o=some ([],d))(hc:Gc (Et L lr) [] o.op=some (f,args))(z:Spec C.P f args V R)(h:∀V' v,DI V V'->R V' v->AD C ⟨.ops rest all (⟨d,[],.v v,d⟩::lr)::k,(d,.v v)::L,M⟩ V'):AD C ⟨.ops (o::rest) all lr::k,L,M⟩ V:=by
 refine AD.of λFR DF env t w h1 h2 h3 h4 h5=>?_;have⟨hg,hd,hn,hf,_⟩:=EG hh;have W:d<t.size:=by rw[h1];simpa[D1]using hn
 have hw:=Ch h4 hg;show wpList C.P ⟨all⟩ (post C FR DF k) (o::rest) ⟨t,[]⟩ w;refine Cn ?_;rw[if_pos (hw.2 Yt)];have⟨aa,N⟩:=z;unfold Oper.wp;rw[KR (A2 h3 h4) (G:=[]) Yt hc aa w];refine(N w h2.holds).mono λe w' ⟨v,V',p1,O,p3,p4,p5,p6⟩=>?_;subst p1;have X:∀b o,FR.Bp b=some o->b<w.heap.size:=λb o Z=>(An.1 (h2.frame b o Z)).1;have ab:FC C.V0 FR env V' M w':=by
  refine⟨O.os.trans h2.os,O.tape.trans h2.tape,O.output.trans h2.output,λb o Z=>by rw[O.block b (X b o Z)];exact h2.frame b o Z,h2.le.trans p3,p4,?_,h2.len,?_,?_,h2.C1,h2.apart,h2.tb⟩
  ·intro a y K;rcases p5 a y K with K|K
   ·exact h2.fresh a y K
   ·right;cases hb:FR.Bp a.block with
    |none=>rfl|some o=>have:=X _ o hb;omega
  ·intro i ob H;have z:=h2.sat i ob H;cases ob with
   |gone=>trivial|Bp cs ty=>exact⟨by rw[O.block _ (An.1 z.1).1];exact z.1,z.2⟩
   |row y cs e sz=>exact Nu z λg hg=>O.block _ (Dt (env:=env) (M:=M) (b:=0) (o:=.row y cs e sz) z (a:=⟨g,0,none⟩) hg)|ext E=>exact E.frame (λb hb=>O.block _ (E.lt z hb)) z
  ·intro i ob a H ha;have:=Dt (h2.sat i ob H) ha;cases hv:V' a with
   |none=>rfl|some y=>
    rcases p5 a y hv with K|K
    ·rw[h2.DA i ob a H ha]at K;simp at K
    ·omega
 simp only[Act.put,hd];exact(h V' v p3 p6).to FR DF env (t.setIfInBounds d v) w' (by simpa using h1) ab (h3.put (x:=.v v) W Yt) (h4.put W hf (λ_=>Y) (λhn=>absurd Yt hn) Y (.inl Y) (λ_=>Yt)) (My.grow ⟨[],by simp⟩ p3 ⟨[],by simp⟩ h5.same)
def B0(l:List UInt8)(n:Nat):Int:=((l[n]?.getD 0).toNat:Int)
def idxOf(T:List G6)(y:Je)(G:List (Nat×Bool))(op:Op):AA (List UInt8×Int):=
 match op with
 |.index t x i=>match nth T t with
  |some d=>match d.size,d.RI with
   |_+1,.str=>match ev y G x,ev y G i with
    |some (.v (.string ⟨⟨l⟩⟩)),some (.v (.int _ n))=>some (l,n)|_,_=>none
   |_,_=>none
  |none=>none
 |_=>none
include hT in
theorem Mq{k:List Kt}{V:AM}{d:Nat}{l:List UInt8}{n:Int}(O:CF C.nt all lr L o=some (G,d))(y:idxOf C.T (Et L lr) G o.op=some (l,n))(W:P3 lr G (0<=n/\n<l.length))(h:AD C ⟨.ops rest all (⟨d,G,.v (.int .u8 (B0 l n.toNat)),d⟩::lr)::k,F9 G d (.v (.int .u8 (B0 l n.toNat))) L,M⟩ V):AD C ⟨.ops (o::rest) all lr::k,L,M⟩ V:=by
 refine HY (x:=.v (.int .u8 (B0 l n.toNat))) O (λFR env t w h2 h3 H hG=>⟨Yt,λK Q X=>?_⟩) h;have⟨Z,b2⟩:=W.out H hG;unfold idxOf at y;split at y<;>try (simp at y;done)
 rename_i ty x i N;split at y<;>try (simp at y;done)
 rename_i dd hd;split at y<;>try (simp at y;done)
 rename_i m aa hu;split at y<;>try (simp at y;done)
 rename_i l' k' n' hx hi;simp only[AE,BJ]at y;obtain⟨rfl,rfl⟩:=y;refine FT ?_ (X w h2);have z:n'.toNat<l'.length:=ox
 have e1:((⟨⟨l'⟩⟩:ByteArray)[n'.toNat]? :AA UInt8)=some (l'[n'.toNat]'z):=by
  have:n'.toNat<(⟨⟨l'⟩⟩:ByteArray).size:=z;rw[getElem?_pos (⟨⟨l'⟩⟩:ByteArray) n'.toNat this];rfl
 unfold execOp;simp only[N,BN (A2 h3 H) hG hx,BN (A2 h3 H) hG hi,den,Instr.index,asIntOf,Sem.run_bind,Sem.run_pure,Result.andThen_ok,run_underlying (AEt hT hd ox hu),if_pos Z,e1];simp[B0,z]
def Bi(V:AM)(a:AA Addr)(off:Nat)(cs:List Value):Prop:=∃b o,a=some ⟨b,o,none⟩/\∀j c,cs[j]? =some c->V ⟨b,o+off+j,none⟩=some c
theorem Bi.mono{V V':AM}{a:AA Addr}(h:Bi V a off cs)(hv:DI V V'):Bi V' a off cs:=by
 have⟨b,o,h1,h2⟩:=h;exact⟨b,o,h1,λj c y=>hv _ _ (h2 j c y)⟩
theorem Bi.field{V:AM}{a:AA Addr}(h:Bi V a off cs)(j:Nat){c:Value}(y:cs[j]? =some c):Bi V a (off+j) [c]:=by
 have⟨b,o,h1,h2⟩:=h;refine⟨b,o,h1,λi c' hi=>?_⟩;cases i with
 |zero=>
  simp only[AAC,AE]at hi;subst hi;have:=h2 j c y;simpa[Km]using this
 |succ i=>simp at hi
def AHA(T:List G6)(y:Je)(G:List (Nat×Bool))(op:Op):AA (AA Addr×Nat×Int×Nat):=
 match op with
 |.indexAddr t x i=>match nth T t with
  |some d=>match d.size,d.RI with
   |_+1,.slice e=>match nth T e with
    |some z=>match z.size with
     |0=>none|sz+1=>match ev y G x,ev y G i with
      |some (.v (.slice a len _)),some (.v (.int _ n))=>some (a,len,n,sz+1)|_,_=>none
    |none=>none
   |_,_=>none
  |none=>none
 |_=>none
include hT in
theorem AD.ia{k:List Kt}{V:AM}{d:Nat}{a:AA Addr}{len:Nat}{n:Int}(Z:CF C.nt all lr L o=some (G,d))(y:AHA C.T (Et L lr) G o.op=some (a,len,n,sz))(hb:P3 lr G (0<=n/\n<len/\∃b o,a=some ⟨b,o,none⟩))(h:AD C ⟨.ops rest all (⟨d,G,.el a (n.toNat*sz),d⟩::lr)::k,F9 G d (.el a (n.toNat*sz)) L,M⟩ V):AD C ⟨.ops (o::rest) all lr::k,L,M⟩ V:=by
 refine HY Z (λFR env t w h2 h3 H hG=>?_) h;obtain⟨b1,b2,b,o',rfl⟩:=hb.out H hG;refine⟨⟨b,o',Y⟩,λK Q hK=>?_⟩;unfold AHA at y;split at y<;>try (simp at y;done)
 rename_i ty x i N;split at y<;>try (simp at y;done)
 rename_i dd hd;split at y<;>try (simp at y;done)
 rename_i m e aa hu;split at y<;>try (simp at y;done)
 rename_i ed O;split at y<;>try (simp at y;done)
 rename_i ab z;split at y<;>try (simp at y;done)
 rename_i a' W X k' n' hx hi;simp only[AE,BJ]at y;obtain⟨rfl,rfl,rfl,rfl⟩:=y;refine FT ?_ (hK w h2);unfold execOp;simp only[N,BN (A2 h3 H) hG hx,BN (A2 h3 H) hG hi,den,Instr.indexAt,asIntOf,Sem.run_bind,Sem.run_pure,Result.andThen_ok,run_underlying (RM hT hd ox hu)];rw[if_pos ⟨b1,b2⟩];simp only[Sem.run_bind,Lf hT w O ox,Result.andThen_ok,Sem.run_pure,z];simp[Addr.add_lit]
def WS(T:List G6)(y:Je)(G:List (Nat×Bool))(op:Op):AA (AA Addr×Nat×G6):=
 match op with
 |.load t x=>match nth T t with
  |some d=>match d.size with
   |0=>none|_+1=>match ev y G x with
    |some (.el a off)=>some (a,off,d)|some (.v (.pointer a))=>some (a,0,d)|_=>none
  |none=>none
 |_=>none
def KQ(agg:Bool)(cs:List Value):Value:=
 match agg with
 |true=>.agg ⟨cs⟩|false=>match cs with
  |c::_=>c|[]=>undef
include hT in
theorem U9{t:Array Value}(hO:NU env M t ag)(hG:Di t G){a:AA Addr}(K:WS C.T ag G o.op=some (a,off,aa)){b:Nat}(ha:a=some ⟨b,o',none⟩){w:World}(z:∀j v,cs[j]? =some v->w.cell? ⟨b,o'+off+j,none⟩=some v)(W:cs.length=aa.size)(O:KQ aa.RI.agg cs=x):(execOp (⟨t,[]⟩:Act).eval o).run C.P w=.ok (.value x) w:=by
 subst ha;unfold WS at K;split at K<;>try (simp at K;done)
 rename_i ty y Z;split at K<;>try (simp at K;done)
 rename_i d' hd;split at K<;>try (simp at K;done)
 rename_i m hs;have fin:∀H,H=off->d'=aa->(⟨t,[]⟩:Act).eval y=.pointer (some ⟨b,o'+H,none⟩)->(execOp (⟨t,[]⟩:Act).eval o).run C.P w=.ok (.value x) w:=by
  rintro H rfl rfl ab;have N:=run_loadCells_list (P:=C.P) w ⟨b,o'+H,none⟩ cs (λj v hv=>by
   rw[Addr.add_lit];exact z j v hv)
  unfold execOp;simp only[Z,ab,Instr.loadAt,Instr.sureAddr,loadVar,Sem.run_bind,Sem.run_pure,Result.andThen_ok,AAj hT w hd ox];unfold KQ at O;cases X:d'.RI.agg with
  |true=>
   rw[X]at O;rw[W]at N;simp only[IW,Sem.run_bind,Lf hT w hd ox,Result.andThen_ok,N,Sem.run_pure,<- O]
  |false=>
   rw[X]at O;cases cs with
   |nil=>simp at W;omega|cons c cs=>
    have z:=z 0 c Y;simp only[JH]at z;simp only at O;subst O;simp only[GK,if_false,run_load,z];rfl
 split at K<;>try (simp at K;done)
 ·rename_i a' H hy;simp only[AE,BJ]at K;obtain⟨rfl,rfl,rfl⟩:=K;exact fin _ Y Y (by rw[BN hO hG hy];rfl)
 ·rename_i a' hy;simp only[AE,BJ]at K;obtain⟨rfl,rfl,rfl⟩:=K;exact fin _ Y Y (by rw[BN hO hG hy];rfl)
include hT in
theorem AD.ld{k:List Kt}{V:AM}{d:Nat}{a:AA Addr}(H:CF C.nt all lr L o=some (G,d))(N:WS C.T (Et L lr) G o.op=some (a,off,aa))(O:P3 lr G (Bi V a off cs))(y:cs.length=aa.size)(W:KQ aa.RI.agg cs=x)(h:AD C ⟨.ops rest all (⟨d,G,.v x,d⟩::lr)::k,F9 G d (.v x) L,M⟩ V):AD C ⟨.ops (o::rest) all lr::k,L,M⟩ V:=by
 refine HY (x:=.v x) H (λFR env t w h2 h3 z hG=>⟨Yt,λK Q X=>?_⟩) h;have⟨b,o',Z,b3⟩:=O.out z hG;exact FT (U9 hT (A2 h3 z) hG N Z (λj v hv=>h2.holds _ _ (b3 j v hv)) y W) (X w h2)
def BE(cs:List Value)(off:Nat)(l:List Value):Prop:=∀j v,l[j]? =some v->cs[off+j]? =some v
theorem Hf{w:World}(h:EU w e sz x cs){b o:Nat}(H:x=.slice (some ⟨b,o,none⟩) n c){l:List Value}(hl:BE cs off l):∀j v,l[j]? =some v->w.cell? ⟨b,o+off+j,none⟩=some v:=by
 have⟨n',y⟩:=h;intro j v hv;have z:=hl j v hv;have K:o=0:=by
  rcases y.2 with⟨hv,_⟩|⟨g,cap,cur,hv,_⟩
  ·grind
  ·grind
 subst K;have:=y.cells (g:=b) (by rw[H];rfl) (off+j) v z;rw[Addr.add_lit]at this;simpa[Km]using this
theorem Fk{w:World}{a:AA Addr}(h:EU w e sz (.slice a n c) cs):cs.length=n*sz/\n<=c/\((a=none/\n=0/\c=0)\/∃g,a=some ⟨g,0,none⟩)/\w.ownsRow 0 e sz (.slice a n c) n cs:=by
 have⟨n',y⟩:=h;rcases y.2 with⟨hv,z⟩|⟨g,cap,cur,hv,k1,k2,k3,k4⟩
 ·simp only[Value.slice.injEq]at hv;obtain⟨rfl,rfl,rfl⟩:=hv;subst z;exact⟨y.1,Nat.le_refl _,.inl ⟨Y,Y,Y⟩,y⟩
 ·simp only[Value.slice.injEq]at hv;obtain⟨rfl,rfl,rfl⟩:=hv;exact⟨y.1,k3,.inr ⟨g,Y⟩,y⟩
include hT in
theorem KM(i:Nat){k:List Kt}{V:AM}{d:Nat}{a:AA Addr}{l:List Value}(H:CF C.nt all lr L o=some (G,d))(N:WS C.T (Et L lr) G o.op=some (a,off,aa))(hi:nth M i=some (.row (.slice a n c) cs e sz))(O:P3 lr G (BE cs off l/\∃b o,a=some ⟨b,o,none⟩))(y:l.length=aa.size)(W:KQ aa.RI.agg l=x)(h:AD C ⟨.ops rest all (⟨d,G,.v x,d⟩::lr)::k,F9 G d (.v x) L,M⟩ V):AD C ⟨.ops (o::rest) all lr::k,L,M⟩ V:=by
 refine HY (x:=.v x) H (λFR env t w h2 h3 z hG=>⟨Yt,λK Q X=>?_⟩) h;rw[Cc]at hi;obtain⟨hl,b,o',rfl⟩:=O.out z hG;exact FT (U9 hT (A2 h3 z) hG N Y (Hf (h2.sat i _ hi) Y hl) y W) (X w h2)
end
end Go.Proofs.YthjnkknigpkldaaGreatDoor
