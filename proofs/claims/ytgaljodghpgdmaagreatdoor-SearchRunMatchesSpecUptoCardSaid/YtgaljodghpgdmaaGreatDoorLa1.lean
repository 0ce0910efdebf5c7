/- Texts of a claim, merged. -/
import Derived.WalkKit
import Derived.ProofKit
import Derived.StillTail
import Derived.Laws.StructEq
import Derived.Lib.AppendZeros
import Derived.Lib.Bytealg
import Derived.Laws.Externs
import Derived.Lib.ConvBytes
import Derived.Recover
import Derived.RangeFuncSeq
import Derived.RangeFuncLeaves
import Derived.RangeFuncCalls
import Derived.OrdersIn
import Derived.Scope
open Option renaming some->TI
open Option renaming bind_some->Wo,isNone_iff_eq_none->QjB
open List renaming getD_eq_getElem?_getD->Sb,getElem?_eq_getElem->Pa,length_cons->PF,replicate->Xk,length_take->Y4,getElem?_eq_some_iff->Z9,eq_nil_of_length_eq_zero->Vu,mem_append->MY,length_drop->U1,take_of_length_le->Sg,pairwise_cons->QU,getElem?_cons_zero->R3,getElem?_append_right->UY,length_mergeSort->YJ,getElem?_append_left->Ry,getElem?_take->Tm,range'->Zy,size_toArray->N6
open Nat renaming le_refl->KN,blt->Uu,zero_add->Q8,le_trans->RU,zero_le->Tg,mul_one->Z5,add_zero->Pf,lt_or_ge->TC,beq->SC,add_mul->Sc,eq_of_beq_eq_true->LJ,min_eq_left->VW
open Bool renaming and_eq_true->ZA,false_eq_true->SQ,eq_iff_iff->Z8,not_false->R1
open UInt8 renaming ofNat->SJ
open Int renaming eq_ofNat_of_zero_le->Ph,toNat_of_nonneg->Rt
open Array renaming getD_eq_getD_getElem?->Q2,replicate->Ke,getElem?_setIfInBounds->WB,getElem?_append_left->Ug
open BitVec renaming ofInt->Q9
open ByteArray renaming size->Vl
set_option linter.defProp false
set_option linter.unusedVariables false
set_option linter.unusedSimpArgs false
class V9{α:Sort _}(a:α)(b:outParam α):Prop where e:a=b
instance{α:Sort _}(a:α):V9 a a:=⟨rfl⟩
theorem Z{α:Sort _}{a:α}:a=a:=rfl
theorem U{p:Prop}(h:p:=by first|omega|(constructor <;> omega)|(simp;omega)|(unfold AL;omega)):p:=h
theorem SF{p:Prop}(h:p:=by kernel_rfl):p:=h
theorem Y5{p:Prop}(h:p:=by decide):p:=h
theorem Rg{p:Prop}(h:p:=by simp):p:=h
theorem Pb{c:Prop}{h:Decidable c}(k:¬c){α:Sort _}{t e:α}:ite c t e=e:=if_neg k
theorem Xu{c:Prop}{h:Decidable c}(k:c){α:Sort _}{t e:α}:ite c t e=t:=if_pos k
theorem UK{p:Prop}[Decidable p](h:¬p):decide p=false:=decide_eq_false h
theorem Xq{p:Prop}[Decidable p](h:p):decide p=true:=decide_eq_true h
theorem Z4{p:Prop}[Decidable p](h:decide p=true):p:=of_decide_eq_true h
theorem Xf{p:Prop}[Decidable p]:(decide p=true)=p:=decide_eq_true_eq
noncomputable abbrev Qq7{α:Type _}[Inhabited α]:α:=default
abbrev Qm:=List UInt8
abbrev SB:=List Int
abbrev LR:=List Go.Value
abbrev Zv:=Int×Int
abbrev Sa:=List Qm
noncomputable section
namespace Go.E
open Go
abbrev ZC:=List (Nat×Value)
def gt:ZC->Nat->Option Value
 | [],_=>none
 | (k,v)::L,t=>bif SC k t then TI v else gt L t
def ev(L:ZC):Operand->Option Value
 | .tmp t=>gt L t
 | .const v=>TI v
 | .global g=>TI (.pointer (TI ⟨g,0,none⟩))
 | .func f=>TI (.func (.func f) #[] #[])
def U8(L:ZC):List Operand->Option LR
 | []=>TI []
 | x::xs=>match ev L x,U8 L xs with
  | some v,TI vs=>TI (v::vs)
  | _,_=>none
structure Sz where
 n:Nat
 d:List Deferred
structure Fr (n:Sz) (a:Act) (L:ZC):Prop where
 size:a.tmps.size=n.n
 defers:a.defers=n.d
 get:∀t v,gt L t=TI v->a.tmps[t]? = TI v
theorem QD{k t:Nat}{v:Value}{L:ZC}:gt ((k,v)::L) t=if k=t then TI v else gt L t:=by
 show(bif SC k t then TI v else gt L t)=_
 by_cases h:k=t
 ·subst h;simp
 ·have:SC k t=false:=by
   cases hb:SC k t with
   | true=>exact absurd (LJ hb) h
   | false=>rfl
  rw[this,Pb h];rfl
theorem Fr.eval{n:Sz}{a:Act}{L:ZC}(h:Fr n a L){x:Operand}{v:Value}(hx:ev L x=TI v):a.eval x=v:=by
 cases x with
 | tmp t=>simp only[ev]at hx;have:=h.get t v hx;simp[Act.eval,Q2,this]
 | const u=>simp only[ev,Option.some.injEq]at hx;simpa[Act.eval]using hx
 | func f=>simp only[ev,Option.some.injEq]at hx;simpa[Act.eval]using hx
 | _=>simp only[ev,Option.some.injEq]at hx;simpa[Act.eval]using hx
def Fr.put{n:Sz}{a:Act}{L:ZC}(h:Fr n a L){d:Nat}{v:Value}(hd:Uu d n.n=true):Fr n (a.put (TI d) v) ((d,v)::L):=by
 have hd':d<n.n:=by simpa[Nat.blt_eq]using hd
 refine⟨by simp[Act.put,h.size],by simp[Act.put,h.defers],λt u ht=>?_⟩;rw[QD]at ht
 by_cases e:d=t
 ·subst e;rw[Xu Z]at ht
  cases ht
  simp[Act.put,h.size,hd']
 ·rw[Pb e]at ht;have:=h.get t u ht;simp only[Act.put];rw[Array.getElem?_setIfInBounds_ne e];exact this
def Bk(n:Nat)(h:n<=9223372036854775807:=by decide):n<=9223372036854775807:=h
def U3(L' L:ZC):Prop:=∀t v,gt L' t=TI v->gt L t=TI v
def U3.refl(L:ZC):U3 L L:=λ_ _ h=>h
def U3.nil(L:ZC):U3 [] L:=λ_ _ h=>by cases h
def U3.cons{t:Nat}{v:Value}{L' L:ZC}(hg:gt L t=TI v)(h:U3 L' L):U3 ((t,v)::L') L:=λt' u hu=>by
 rw[QD]at hu
 by_cases e:t=t'
 ·subst e;rw[Xu Z]at hu;cases hu;exact hg
 ·rw[Pb e]at hu;exact h t' u hu
def ga(L:ZC):ZC->List (Option Value)
 | []=>[]
 | (t,_)::r=>gt L t::ga L r
def va:ZC->List (Option Value)
 | []=>[]
 | (_,v)::r=>TI v::va r
theorem U3.of{L:ZC}:∀{L':ZC},ga L L'=va L'->U3 L' L
 | [],_=>U3.nil L
 | (_,_)::_,h=>U3.cons (List.cons.inj h).1 (U3.of (List.cons.inj h).2)
def U3.int{t:Nat}{k:IntKind}{x y:Int}{L' L:ZC}(hg:gt L t=TI (.int k x))(he:x=y)(h:U3 L' L):U3 ((t,.int k y)::L') L:=.cons (he ▸ hg) h
def Fr.sub{n:Sz}{a:Act}{L L':ZC}(h:Fr n a L)(hs:U3 L' L):Fr n a L':=⟨h.size,h.defers,λt v ht=>h.get t v (hs t v ht)⟩
def W(P:Program)(n:Sz)(c:Code)(Q:Exit->Act->World->Prop)(L:ZC)(w:World):Prop:=∀a,Fr n a L->c.wp P Q a w
def S(P:Program)(n:Sz)(ops:Array Oper)(Q:Exit->Act->World->Prop)(l:List Oper)(L:ZC)(w:World):Prop:=∀a,Fr n a L->wpList P ops Q l a w
def At(n:Sz)(Q:Exit->Act->World->Prop)(e:Exit)(L:ZC)(w:World):Prop:=∀a,Fr n a L->Q e a w
def Si(P:Program)(y:Code)(Q:Exit->Act->World->Prop):Exit->Act->World->Prop:=Exit.then (y.wp P Q) Q
def KS{σ:Type}(n:Sz)(I:σ->ZC)(R:σ->World->Prop)(Q:Exit->Act->World->Prop):Exit->Act->World->Prop:=
 Exit.then (λa w=>∃s,Fr n a (I s)/\R s w) Q
def XJ{σ:Type}(n:Sz)(I:σ->ZC)(R:σ->World->Prop)(μ:σ->Nat)(x:σ)(Q:Exit->Act->World->Prop):Exit->Act->World->Prop:=
 Exit.then (λa w=>∃s,Fr n a (I s)/\R s w/\μ s<μ x) Q
section
variable {P:Program}{n:Sz}{Q:Exit->Act->World->Prop}{L:ZC}{w:World}{x y c:Code}
def W.sub{L':ZC}(h:W P n c Q L' w)(hs:U3 L' L):W P n c Q L w:=λa fr=>h a (fr.sub hs)
def S.sub{ops:Array Oper}{l:List Oper}{L':ZC}(h:S P n ops Q l L' w)(hs:U3 L' L):S P n ops Q l L w:=λa fr=>h a (fr.sub hs)
def PW(h:W P n x (Si P y Q) L w):W P n (.seq x y) Q L w:=λa fr=>wp_seq (h a fr)
def Ca(h:At n Q .normal L w):W P n .skip Q L w:=λa fr=>wp_skip (h a fr)
def U9(h:At n Q .ret L w):W P n .ret Q L w:=λa fr=>wp_ret (h a fr)
def Ads{id:Nat}(h:At n Q (.exit id) L w):W P n (.exit id) Q L w:=λa fr=>wp_exit (h a fr)
def A4{id:Nat}(h:W P n c (Exit.inBlock id Q) L w):W P n (.block id c) Q L w:=λa fr=>wp_block (h a fr)
def FC{id:Nat}{l:List Oper}(h:S P n l.toArray Q l L w):W P n (.region id l.toArray false) Q L w:=λa fr=>wp_region_lit (h a fr)
def A5{id:Nat}{l:List Oper}(h:S P n l.toArray (Si P y Q) l L w):W P n (.seq (.region id l.toArray false) y) Q L w:=PW (FC h)
def Adt{t:Operand}{b:Bool}(hc:ev L t=TI (.bool b))(ht:b=true->W P n x Q L w)(hf:b=false->W P n y Q L w):W P n (.cond t x y) Q L w:=
 λa fr=>wp_cond_split (fr.eval hc) (λe=>ht e a fr) (λe=>hf e a fr)
def AnJ{t:Operand}{p:Prop}[Decidable p](hc:ev L t=TI (.bool (decide p)))(ht:p->W P n x Q L w)(hf : ¬p->W P n y Q L w):W P n (.cond t x y) Q L w:=
 Adt hc (λe=>ht (Z4 e)) (λe=>hf (of_decide_eq_false e))
def Am9{t:Operand}{p:Prop}[Decidable p](hc:ev L t=TI (.bool (!decide p)))(ht : ¬p->W P n x Q L w)(hf:p->W P n y Q L w):W P n (.cond t x y) Q L w:=
 Adt hc (λe=>ht (by simpa using e)) (λe=>hf (by simpa using e))
def Cm{t:Operand}[hc:V9 (ev L t) (TI (.bool true))](h:W P n x Q L w):W P n (.cond t x y) Q L w:=λa fr=>wp_cond_true (fr.eval hc.e) (h a fr)
def BO{t:Operand}[hc:V9 (ev L t) (TI (.bool false))](h:W P n y Q L w):W P n (.cond t x y) Q L w:=λa fr=>wp_cond_false (fr.eval hc.e) (h a fr)
theorem AF(σ:Type)(I:σ->ZC)(R:σ->World->Prop)(μ:σ->Nat)(d:σ)(hs:ga L (I d)=va (I d))(hR:R d w)
  (round:∀s w,R s w->W P n c (XJ n I R μ s Q) (I s) w):W P n (.loop c) Q L w:=by
 intro a fr b k cs
 have key:∀m s a w,μ s=m->Fr n a (I s)->R s w->
   ∃e a' w',Q e a' w'/\Arrives P (lone (b.at a (.code c::.inLoop c::k)) cs w) b k cs e a' w':=by
  intro m
  induction m using Nat.strongRecOn with
  | _ m ih=>
   intro s a w hm fr hR;obtain⟨e,a₁,w₁,hq,harr⟩:=round s w hR a fr b (.inLoop c::k) cs
   cases e with
   | normal=>
    obtain⟨s',fr',hR',hlt⟩:=hq;obtain⟨e₂,a₂,w₂,hq₂,harr₂⟩:=ih (μ s') (hm ▸ hlt) s' a₁ w₁ Z fr' hR';exact⟨e₂,a₂,w₂,hq₂,.of_steps (Steps.trans harr (.one step_inLoop)) harr₂⟩
   | exit id=>exact⟨_,a₁,w₁,hq,.pass (x:=.inLoop c) Z (λ_ _=>.inl Rg) harr⟩
   | goto l=>exact⟨_,a₁,w₁,hq,.pass (x:=.inLoop c) Z (λ_ _=>.inl Rg) harr⟩
   | ret=>exact⟨_,a₁,w₁,hq,.pass (x:=.inLoop c) Z (λ_ _=>.inl Rg) harr⟩
   | panic ch=>exact⟨_,a₁,w₁,hq,.pass (x:=.inLoop c) Z (λ_ _=>.inl Rg) harr⟩
   | outgrown=>exact⟨_,a₁,w₁,hq,.pass (x:=.inLoop c) Z (λ_ _=>.inl Rg) harr⟩
 obtain⟨e,a',w',hq,harr⟩:=key _ d a w Z (fr.sub (U3.of hs)) hR;exact⟨e,a',w',hq,.of_steps (.one step_loop) harr⟩
theorem AA(σ:Type)(I:σ->ZC)(R:σ->World->Prop)(b:W P n x (KS n I R Q) L w)(h2:∀s w,R s w->W P n y Q (I s) w):W P n (.seq x y) Q L w:=
 λa fr=>wp_seq (wp_mono (b a fr) λe a' w' q=>by
  cases e with
  | normal=>obtain⟨s,fr',hR⟩:=q;exact h2 s w' hR a' fr'
  | exit id=>exact q
  | goto l=>exact q
  | ret=>exact q
  | panic ch=>exact q
  | outgrown=>exact q)
def VA(h:W P n y Q L w):At n (Si P y Q) .normal L w:=h
def Am{σ:Type}{I:σ->ZC}{R:σ->World->Prop}(s:σ)[hs:V9 (ga L (I s)) (va (I s))](hR:R s w):At n (KS n I R Q) .normal L w:=λ_ fr=>⟨s,fr.sub (U3.of hs.e),hR⟩
def Ak{σ:Type}{I:σ->ZC}{R:σ->World->Prop}{μ:σ->Nat}{a:σ}(s:σ)(hs:ga L (I s)=va (I s))(hR:R s w)(hm:μ s<μ a:=by exact Nat.lt_succ_self _):At n (XJ n I R μ a Q) .normal L w:=
 λ_ fr=>⟨s,fr.sub (U3.of hs),hR,hm⟩
def Ow{id:Nat}(h:At n Q .normal L w):At n (Exit.inBlock id Q) .normal L w:=h
def Aa0{id:Nat}(h:At n Q .normal L w):At n (Exit.inBlock id Q) (.exit id) L w:=λa fr=>by simpa[Exit.inBlock]using h a fr
def XK{id id':Nat}(hne:SC id' id=false)(h:At n Q (.exit id') L w):At n (Exit.inBlock id Q) (.exit id') L w:=λa fr=>by
 have:id'≠id:=λe=>by subst e;simp at hne
 simpa[Exit.inBlock,this]using h a fr
def Sj{id:Nat}(h:At n Q (.exit id) L w):At n (Si P y Q) (.exit id) L w:=h
def Ae1{σ:Type}{I:σ->ZC}{R:σ->World->Prop}{id:Nat}(h:At n Q (.exit id) L w):At n (KS n I R Q) (.exit id) L w:=h
def QE{σ:Type}{I:σ->ZC}{R:σ->World->Prop}{μ:σ->Nat}{a:σ}{id:Nat}(h:At n Q (.exit id) L w):At n (XJ n I R μ a Q) (.exit id) L w:=h
def XL(h:At n Q .ret L w):At n (Si P y Q) .ret L w:=h
def AfB{σ:Type}{I:σ->ZC}{R:σ->World->Prop}(h:At n Q .ret L w):At n (KS n I R Q) .ret L w:=h
def Acd{σ:Type}{I:σ->ZC}{R:σ->World->Prop}{μ:σ->Nat}{a:σ}(h:At n Q .ret L w):At n (XJ n I R μ a Q) .ret L w:=h
def KT{id:Nat}(h:At n Q .ret L w):At n (Exit.inBlock id Q) .ret L w:=h
end
def IN (P : Program) (f : FuncId) : Prop := ∃fn c, P.funcs[f]? = some fn /\ (fn.name == "runtime.NumGoroutine") = false /\ fn.body = some c
def Rq(R:Value->World->Prop):Ending->World->Prop:=λe w'=>∃v,e=.returned v/\R v w'
def Ok(P:Program)(f:FuncId)(args:LR)(w:World)(R:Value->World->Prop):Prop:=
 IN P f/\Calls P f args.toArray w (Rq R)
def Ok.mono{P:Program}{f:FuncId}{args:LR}{w:World}{R R':Value->World->Prop}(h:Ok P f args w R)(hr:∀v w',R v w'->R' v w'):Ok P f args w R':=
 ⟨h.1,h.2.mono λ_ w' ⟨v,he,hv⟩=>⟨v,he,hr v w' hv⟩⟩
def P7:Nat->LR->ZC
 | _,[]=>[]
 | k,v::l=>(k,v)::P7 (k+1) l
theorem VB:∀(l:LR) (k t:Nat) (v:Value),gt (P7 k l) t=TI v->k<=t/\l[t - k]? = TI v
 | [],_,_,_,h=>by cases h
 | u::l,k,t,v,h=>by
  simp only[P7,QD]at h
  by_cases e:k=t
  ·subst e;rw[Xu Z]at h;cases h;simp
  ·rw[Pb e]at h;have⟨a,h2⟩:=VB l (k+1) t v h;refine⟨by omega,?_⟩;have:t - k=(t - (k+1))+1:=by omega
   rw[this,List.getElem?_cons_succ];exact h2
def Ox(P:Program)(fn:Func)(R:Value->World->Prop):Exit->Act->World->Prop:=bodyPost P fn (Rq R)
def Cx{P:Program}{f:FuncId}{fn:Func}{c:Code}{args:LR}{w:World}{R:Value->World->Prop}{n:Nat}(L:ZC)
  (hf : P.funcs[f]? = some fn) [hname:V9 (fn.name == "runtime.NumGoroutine") false] (hb : fn.body = some c) (hn : fn.ntmps = n) (hk : Nat.ble args.length n = true) (hL : P7 0 args = L)
  (h:W P ⟨n,[]⟩ c (Ox P fn R) L w):Ok P f args w R:=by
 refine⟨⟨fn,c,hf,hname.e,hb⟩,calls_of_wp hf hb ?_⟩;have hk':args.length<=n:=by simpa[Nat.ble_eq]using hk
 refine h _ ⟨?_,Z,?_⟩
 ·simp[hn];omega
 ·intro t v ht;subst hL;have⟨_,h2⟩:=VB args 0 t v ht;simp only[Nat.sub_zero]at h2;have hlt:t<args.length:=(Z9.1 h2).1;simp only[N6];rw[Ug (by simpa using hlt)]
  simpa using h2
def Sk:List ResultVar->ZC->Option Value
 | [.tmp t],L=>gt L t
 | [.tmp t,.tmp u],L=>match gt L t,gt L u with | some a,some b=>some (.tuple #[a,b]) | _,_=>none
 | [.tmp t,.tmp u,.tmp s],L=>match gt L t,gt L u,gt L s with | some a,some b,some c=>some (.tuple #[a,b,c]) | _,_,_=>none
 | _,_=>none
def XN{P:Program}{fn:Func}{n:Sz}{a:Act}{L:ZC}{w:World}{l:List ResultVar}{v:Value}(fr:Fr n a L)(hl:fn.results=l.toArray)(h:Sk l L=TI v):
  (results fn a.tmps).run P w=.ok v w:=by
 unfold Sk at h
 split at h
 ·rename_i t;rw[results_tmp hl];have:=fr.get t v h;simp[Q2,this]
 ·rename_i t u
  split at h
  ·rename_i x y b h2;cases h;rw[results_tmp2 hl];have c:=fr.get t x b;have d:=fr.get u y h2;simp[Q2,c,d]
  ·cases h
 ·rename_i t u s
  split at h
  ·rename_i x y z b h2 h3;cases h;rw[results_tmp3 hl];have c:=fr.get t x b;have d:=fr.get u y h2;have e:=fr.get s z h3;simp[Q2,c,d,e]
  ·cases h
 ·cases h
def Xv{P:Program}{fn:Func}{R:Value->World->Prop}{n:Nat}{L:ZC}{w:World}{l:List ResultVar}{v:Value}(hl:fn.results=l.toArray)(h:Sk l L=TI v)(hR:R v w):At ⟨n,[]⟩ (Ox P fn R) .ret L w:=
 λ_ fr=>⟨fr.defers,v,XN fr hl h,v,Z,hR⟩
def AD{P:Program}{fn:Func}{R:Value->World->Prop}{n:Nat}{L:ZC}{w:World}{l:List ResultVar}{v:Value}(hq:(fn.results,Sk l L)=(l.toArray,TI v))(hR:R v w):At ⟨n,[]⟩ (Ox P fn R) .ret L w:=
 Xv (Prod.mk.inj hq).1 (Prod.mk.inj hq).2 hR
section
variable {P:Program}{n:Sz}{ops:Array Oper}{Q:Exit->Act->World->Prop}{L:ZC}{w:World}{rest:List Oper}
 {d:Nat}{ty:TypeId}{pos:String}{af:Array Edge}
def Xm(L:ZC)(ρ:Operand->Value):Prop:=∀x u,ev L x=TI u->ρ x=u
def Fr.Wz{a:Act}(fr:Fr n a L):Xm L a.eval:=λ_ _ h=>fr.eval h
theorem Xm.map{ρ:Operand->Value}(h:Xm L ρ):∀(l:List Operand) (vs:LR),U8 L l=TI vs->l.map ρ=vs
 | [],vs,e=>by simp only[U8,Option.some.injEq]at e;simpa using e
 | x::l,vs,e=>by
  unfold U8 at e
  split at e
  ·rename_i v us a h2;cases e;simp[h x v a,Xm.map h l us h2]
  ·cases e
def HX(h:At n Q .normal L w):S P n ops Q [] L w:=λa fr=>h a fr
def Ap{y:Code}(h:W P n y Q L w):S P n ops (Si P y Q) [] L w:=λa fr=>h a fr
def UA{o:Oper}(hg:o.guard=none)(h:∀a,Fr n a L->o.wp P a w (wpList P ops Q rest) Q):S P n ops Q (o::rest) L w:=
 λa fr=>by
  unfold wpList;rw[Xu (by simp[Region.wanted,hg])];exact .inl (h a fr)
def Dy{o:Oper}{v:Value}{w':World}[hg:V9 o.guard none][hd:V9 o.dst (TI d)](hn:Uu d n.n=true)
  (hrun:∀ρ,Xm L ρ->(execOp ρ o).run P w=.ok (.value v) w') (h:S P n ops Q rest ((d,v)::L) w'):S P n ops Q (o::rest) L w:=
 UA hg.e λa fr=>by
  unfold Oper.wp;rw[hrun _ fr.Wz]
  show wpList P ops Q rest (a.put o.dst v) w'
  rw[hd.e];exact h _ (fr.put hn)
def AbG{o:Oper}{v:Value}{w':World}[hg:V9 o.guard none][hd:V9 o.dst none]
  (hrun:∀ρ,Xm L ρ->(execOp ρ o).run P w=.ok (.value v) w') (h:S P n ops Q rest L w'):S P n ops Q (o::rest) L w:=
 UA hg.e λa fr=>by
  unfold Oper.wp;rw[hrun _ fr.Wz]
  show wpList P ops Q rest (a.put o.dst v) w'
  rw[hd.e];exact h _ fr
def Oy{o:Oper}(w':World)[hg:V9 o.guard none][hd:V9 o.dst none]
  (hrun:∀ρ,Xm L ρ->(execOp ρ o).run P w=.ok .skip w') (h:S P n ops Q rest L w'):S P n ops Q (o::rest) L w:=
 UA hg.e λa fr=>by
  unfold Oper.wp;rw[hrun _ fr.Wz]
  show wpList P ops Q rest (a.put o.dst undef) w'
  rw[hd.e];exact h _ fr
def ZD{dst:Option Tmp}{op:Op}{j:Nat}{want b:Bool}{t:Nat}(hj:((ops[j]?).bind (·.dst))=TI t)(hb:gt L t=TI (.bool b))(hw:b=want)
  (h:S P n ops Q (⟨dst,op,ty,pos,af,none⟩::rest) L w):S P n ops Q (⟨dst,op,ty,pos,af,TI (j,want)⟩::rest) L w:=λa fr=>by
 have c:=h a fr;simp only[wpList]at c ⊢;have hy:yielded ops a.tmps j=TI b:=by simp[yielded,hj,fr.get t _ hb]
 have hwant:Region.wanted ⟨dst,op,ty,pos,af,TI (j,want)⟩ (yielded ops a.tmps)=true:=by simp[Region.wanted,hy,hw]
 rw[Xu hwant];have d:Region.wanted ⟨dst,op,ty,pos,af,none⟩ (yielded ops a.tmps)=true:=by simp[Region.wanted]
 rw[Xu d]at c;exact c
def Qju{op:Op}{j:Nat}{want b:Bool}{t:Nat}(hj:((ops[j]?).bind (·.dst))=TI t)(hb:gt L t=TI (.bool b))(hw:b = !want)(hn:Uu d n.n=true)
  (h:S P n ops Q rest ((d,undef)::L) w):S P n ops Q (⟨TI d,op,ty,pos,af,TI (j,want)⟩::rest) L w:=λa fr=>by
 simp only[wpList];have hy:yielded ops a.tmps j=TI b:=by simp[yielded,hj,fr.get t _ hb]
 have hwant:Region.wanted ⟨TI d,op,ty,pos,af,TI (j,want)⟩ (yielded ops a.tmps)=false:=by simp[Region.wanted,hy,hw]
 rw[hwant];exact h _ (fr.put hn)
theorem Aj{dst:Option Tmp}{op:Op}{j:Nat}{want b:Bool}{t:Nat}[hq:V9 (((ops[j]?).bind (·.dst),gt L t)) ((TI t,TI (.bool b)))](hw:b=want)
  (h:S P n ops Q (⟨dst,op,ty,pos,af,none⟩::rest) L w):S P n ops Q (⟨dst,op,ty,pos,af,TI (j,want)⟩::rest) L w:=ZD (Prod.mk.inj hq.e).1 (Prod.mk.inj hq.e).2 hw h
theorem AW{op:Op}{j:Nat}{want b:Bool}{t:Nat}[hq:V9 (((ops[j]?).bind (·.dst),gt L t)) ((TI t,TI (.bool b)))](hw:b = !want)[hn:V9 (Uu d n.n) true]
  (h:S P n ops Q rest ((d,undef)::L) w):S P n ops Q (⟨TI d,op,ty,pos,af,TI (j,want)⟩::rest) L w:=Qju (Prod.mk.inj hq.e).1 (Prod.mk.inj hq.e).2 hw hn.e h
theorem IP{op:Op}{j:Nat}{want:Bool}{t:Nat}[hj:V9 (((ops[j]?).bind (·.dst))) (TI t)][hb:V9 (gt L t) (TI undef)][hn:V9 (Uu d n.n) true]
  (h:S P n ops Q rest ((d,undef)::L) w):S P n ops Q (⟨TI d,op,ty,pos,af,TI (j,want)⟩::rest) L w:=λa fr=>by
 simp only[wpList];have hy:yielded ops a.tmps j=none:=by simp[yielded,hj.e,fr.get t _ hb.e,undef]
 have hwant:Region.wanted ⟨TI d,op,ty,pos,af,TI (j,want)⟩ (yielded ops a.tmps)=false:=by simp[Region.wanted,hy]
 rw[hwant];exact h _ (fr.put hn.e)
end
end Go.E
namespace Go.E
open Go
def nth:LR->Nat->Option Value
 | [],_=>none
 | v::_,0=>TI v
 | _::l,i+1=>nth l i
theorem AgH:∀(l:LR) (i:Nat),nth l i=l[i]?
 | [],_=>rfl
 | _::_,0=>rfl
 | _::l,i+1=>by simpa[nth]using AgH l i
def AlA:BinOp->Int->Int->Option Bool
 | .eql,a,b=>TI (decide (a=b))
 | .neq,a,b=>TI (!decide (a=b))
 | .lss,a,b=>TI (decide (a<b))
 | .leq,a,b=>TI (decide (a<=b))
 | .gtr,a,b=>TI (decide (b<a))
 | .geq,a,b=>TI (decide (b<=a))
 | _,_,_=>none
def PX:IntKind->IntKind->Bool
 | .i8,.i8 | .i16,.i16 | .i32,.i32 | .i64,.i64 | .u8,.u8 | .u16,.u16 | .u32,.u32 | .u64,.u64=>true
 | _,_=>false
theorem AgI:∀{a b:IntKind},PX a b=true->a=b
 | .i8,.i8,_=>rfl | .i16,.i16,_=>rfl | .i32,.i32,_=>rfl | .i64,.i64,_=>rfl
 | .u8,.u8,_=>rfl | .u16,.u16,_=>rfl | .u32,.u32,_=>rfl | .u64,.u64,_=>rfl
def pu(L:ZC):Op->Option Value
 | .move x=>ev L x
 | .assign x=>ev L x
 | .extract x i=>match ev L x with
  | some (.tuple vs)=>nth vs.toList i
  | _=>none
 | .binOp op _ x y _=>match ev L x,ev L y with
  | some (.int k a),some (.int k' b)=>bif PX k k' then(match AlA op a b with | some r=>some (.bool r) | none=>none)else none
  | _,_=>none
 | .unOp .not _ x=>match ev L x with
  | some (.bool b)=>TI (.bool (!b))
  | _=>none
 | .makeFunc fn first captured=>match U8 L first.toList,U8 L captured.toList with
  | some a,TI b=>TI (.func fn a.toArray b.toArray)
  | _,_=>none
 | .pick c a b=>match ev L c with
  | some (.bool true)=>ev L a
  | some (.bool false)=>ev L b
  | _=>none
 | _=>none
section
variable {P:Program}{n:Sz}{ops:Array Oper}{Q:Exit->Act->World->Prop}{L:ZC}{w:World}{rest:List Oper}
 {d:Nat}{ty:TypeId}{pos:String}{af:Array Edge}
def Adu{op:BinOp}{t:TypeId}{x y:Operand}{k:IntKind}{a b:Int}{r:Bool}(h:AlA op a b=TI r):
  (do eqGuard op t x y (.int k a) (.int k b);binOp op t (.int k a) (.int k b)).run P w=.ok (.bool r) w:=by
 cases op <;> simp only[AlA,Option.some.injEq,reduceCtorEq]at h <;> subst h <;>
  simp[eqGuard,binOp,Op.intCmp,GT.gt,GE.ge,bne,BEq.beq]
theorem AgJ{op:Op}{v:Value}{dst:Option Tmp}(h:pu L op=TI v)(ρ:Operand->Value)(hρ:Xm L ρ):
  (execOp ρ ⟨dst,op,ty,pos,af,none⟩).run P w=.ok (.value v) w:=by
 unfold pu at h
 split at h
 ·rename_i x;simp[execOp,hρ x v h]
 ·rename_i x;simp[execOp,hρ x v h]
 ·rename_i x i
  split at h
  ·rename_i vs hx;rw[AgH]at h;have h':vs[i]? = TI v:=by simpa using h
   simp[execOp,hρ x _ hx,Instr.extract,h']
  ·cases h
 ·rename_i op t x y t'
  split at h
  ·rename_i k a k' b hx hy
   cases hk:PX k k' with
   | false=>rw[hk]at h;cases h
   | true=>
    rw[hk]at h;obtain rfl:=AgI hk;simp only[cond_true]at h
    split at h
    ·rename_i r hr
     cases h
     have:=Adu (P:=P) (w:=w) (t:=t) (x:=x) (y:=y) (k:=k) hr;simp only[execOp,hρ x _ hx,hρ y _ hy];simp only[Sem.run_bind]at this ⊢;rw[this]
     rfl
    ·cases h
  ·cases h
 ·rename_i t x
  split at h
  ·rename_i b hx;cases h;simp[execOp,hρ x _ hx,Op.unary]
  ·cases h
 ·rename_i fn first captured
  split at h
  ·rename_i a b d h2
   cases h
   have e:=hρ.map _ _ d;have f:=hρ.map _ _ h2;have f1:first.map ρ=a.toArray:=by apply Array.ext';simpa using e
   have f2:captured.map ρ=b.toArray:=by apply Array.ext';simpa using f
   simp[execOp,Instr.makeFunc,f1,f2]
  ·cases h
 ·rename_i c a b
  split at h
  ·rename_i hc;simp[execOp,hρ c _ hc,hρ a _ h,asBool]
  ·rename_i hc;simp[execOp,hρ c _ hc,hρ b _ h,asBool]
  ·cases h
 ·cases h
def Ui(n:Sz)(o:Oper)(L:ZC):Option ZC:=
 match o with
 | ⟨some d,op,_,_,_,none⟩=>match pu L op with
  | some v=>bif Uu d n.n then TI ((d,v)::L)else none
  | none=>none
 | _=>none
def puK(n:Sz):Nat->List Oper->ZC->Option (List Oper×ZC)
 | 0,l,L=>TI (l,L)
 | k+1,o::l,L=>match Ui n o L with
  | some L'=>puK n k l L'
  | none=>none
 | _+1,[],_=>none
theorem AbH{o:Oper}{L':ZC}(h:Ui n o L=TI L')(hS:S P n ops Q rest L' w):S P n ops Q (o::rest) L w:=by
 unfold Ui at h
 split at h
 ·rename_i d op t ps aft
  split at h
  ·rename_i v hv
   cases hd:Uu d n.n with
   | false=>rw[hd]at h;cases h
   | true=>rw[hd]at h;cases h;exact Dy hd (AgJ hv) hS
  ·cases h
 ·cases h
theorem Ala:∀(k:Nat) {l l':List Oper}{L L':ZC} (_:puK n k l L=TI (l',L')) (_:S P n ops Q l' L' w),S P n ops Q l L w
 | 0,l,l',L,L',h,hS=>by simp only[puK,Option.some.injEq,Prod.mk.injEq]at h;obtain⟨rfl,rfl⟩:=h;exact hS
 | k+1,[],l',L,L',h,hS=>by simp only[puK,reduceCtorEq]at h
 | k+1,o::l,l',L,L',h,hS=>by
  simp only[puK]at h
  split at h
  ·rename_i L1 a;exact AbH a (Ala k h hS)
  ·cases h
def AK(k:Nat){l l':List Oper}{L L':ZC}(h:puK n k l L=TI (l',L'))(hS:S P n ops Q l' L' w):S P n ops Q l L w:=Ala k h hS
def BJ(k:Nat){l:List Oper}{L L':ZC}{y:Code}(h:puK n k l L=TI ([],L'))(hW:W P n y Q L' w):S P n ops (Si P y Q) l L w:=AK k h (Ap hW)
def FA{id:Nat}{l l':List Oper}{L L':ZC}{y:Code}(k:Nat)(h:puK n k l L=TI (l',L'))(hS:S P n l.toArray (Si P y Q) l' L' w):W P n (.seq (.region id l.toArray false) y) Q L w:=A5 (AK k h hS)
def Bx{id:Nat}{l:List Oper}{L L':ZC}{y:Code}(k:Nat)(h:puK n k l L=TI ([],L'))(hW:W P n y Q L' w):W P n (.seq (.region id l.toArray false) y) Q L w:=A5 (BJ k h hW)
def wrap64{x:Int}(a : -9223372036854775808<=x)(h2:x<=9223372036854775807):IntKind.i64.wrap x=x:=by
 simp only[IntKind.wrap,IntKind.bits,IntKind.signed,Bool.true_and,Xf,ge_iff_le]
 split <;> omega
def Adv{x:Int}(a:0<=x)(h2:x<256):IntKind.u8.wrap x=x:=by
 simp only[IntKind.wrap,IntKind.bits,IntKind.signed,Bool.false_and,SQ,if_false];omega
def Xw{x:Int}:IntKind.u8.wrap x=x % 256:=by
 simp only[IntKind.wrap,IntKind.bits,IntKind.signed,Bool.false_and,SQ,if_false];omega
def arI:BinOp->Int->Int->Option Int
 | .add,a,b=>TI (a+b)
 | .sub,a,b=>TI (a - b)
 | .mul,a,b=>TI (a * b)
 | _,_,_=>none
def AbI{a b:Int}(ha:0<=a):a.tdiv b=a / b:=Int.tdiv_eq_ediv_of_nonneg ha
def AgK{a b:Int}(ha:0<=a):a.tmod b=a % b:=Int.tmod_eq_emod_of_nonneg ha
def Ajv{a b:Int}(ha:0<=a)(hb:0<b):0<=a / b/\a / b<=a:=by
 refine⟨Int.ediv_nonneg ha U,?_⟩;exact Int.ediv_le_self b ha
def KU{f:FuncId}{args:List Operand}{vs:LR}{at_:Array TypeId}{dst:Option Tmp}(hc:IN P f)(ha:U8 L args=TI vs)(ρ:Operand->Value)(hρ:Xm L ρ):
  (execOp ρ ⟨dst,.call ⟨.value (.func f),args.toArray,at_⟩,ty,pos,af,none⟩).run P w=.ok (.enter f vs.toArray) w:=by
 obtain ⟨fn, c, a, h2, h3⟩ := hc;have b : ρ (.func f) = .func (.func f) #[] #[] := hρ _ _ rfl;have d := hρ.map _ _ ha;have h2' : ¬fn.name = "runtime.NumGoroutine" := by simpa using h2
 simp[execOp,resolve,b,Deferred.ofValue,d,invoke,callFunc,a,h2',h3]
def D5{f:FuncId}{args:List Operand}{vs:LR}{at_:Array TypeId}{R:Value->World->Prop}[ha:V9 (U8 L args) (TI vs)][hn:V9 (Uu d n.n) true](hok:Ok P f vs w R)
  (h:∀v w',R v w'->S P n ops Q rest ((d,v)::L) w'):S P n ops Q (⟨TI d,.call ⟨.value (.func f),args.toArray,at_⟩,ty,pos,af,none⟩::rest) L w:=
 UA Z λa fr=>by
  unfold Oper.wp;rw[KU hok.1 ha.e _ fr.Wz];refine hok.2.mono λe w' ⟨v,he,hv⟩=>?_;subst he;exact h v w' hv _ (fr.put hn.e)
def puG(n:Sz)(j:Nat)(want:Bool)(L0:ZC):Nat->List Oper->ZC->Option (List Oper×ZC)
 | 0,l,L=>TI (l,L)
 | k+1,⟨TI d,op,ty,pos,af,TI (j',want')⟩::l,L=>
  bif SC j j'&&(want==want')&&(gt L0 d).isNone then
   match Ui n ⟨some d,op,ty,pos,af,none⟩ L with
   | some L'=>puG n j want L0 k l L'
   | none=>none
  else none
 | _+1,_,_=>none
theorem W0{j:Nat}{want:Bool}{t:Nat}{L0:ZC}(hj:((ops[j]?).bind (·.dst))=TI t):∀(k:Nat) {l l':List Oper}{L L':ZC},gt L t=TI (.bool want)->gt L0 t=TI (.bool want)->puG n j want L0 k l L=TI (l',L')->
  S P n ops Q l' L' w->S P n ops Q l L w:=by
 intro k
 induction k with
 | zero=>intro l l' L L' _ _ h hS;simp only[puG,Option.some.injEq,Prod.mk.injEq]at h;obtain⟨rfl,rfl⟩:=h;exact hS
 | succ k ih=>
  intro l l' L L' hb b h hS
  match l,h with
  | [],h=>cases h
  | ⟨none,_,_,_,_,_⟩::l,h=>cases h
  | ⟨TI d,op,ty,pos,af,none⟩::l,h=>cases h
  | ⟨TI d,op,ty,pos,af,TI (j',want')⟩::l,h=>
   simp only[puG]at h
   cases hc:(SC j j'&&(want==want')&&(gt L0 d).isNone)with
   | false=>rw[hc]at h;cases h
   | true=>
    rw[hc]at h;simp only[ZA,QjB]at hc;obtain⟨⟨c1,c2⟩,c3⟩:=hc;obtain rfl:=LJ c1;obtain rfl:want=want':=by simpa using c2
    simp only[cond_true]at h
    split at h
    ·rename_i L1 a;refine ZD hj hb Z (AbH a (ih ?_ b h hS));simp only[Ui]at a
     split at a
     ·rename_i v hv
      cases hd:Uu d n.n with
      | false=>rw[hd]at a;cases a
      | true=>
       rw[hd]at a;cases a;rw[QD]
       by_cases e:d=t
       ·subst e;rw[b]at c3;cases c3
       ·rw[Pb e];exact hb
     ·cases a
    ·cases h
theorem XP{j:Nat}{want:Bool}{t:Nat}{L0:ZC}(hj:((ops[j]?).bind (·.dst))=TI t):∀(k:Nat) {l l':List Oper}{L L' M:ZC},U3 L0 M->gt L0 t=TI (.bool (!want))->puG n j want L0 k l L=TI (l',L')->
  (∀M',U3 L0 M'->S P n ops Q l' M' w)->S P n ops Q l M w:=by
 intro k
 induction k with
 | zero=>intro l l' L L' M hM _ h hS;simp only[puG,Option.some.injEq,Prod.mk.injEq]at h;obtain⟨rfl,rfl⟩:=h;exact hS M hM
 | succ k ih=>
  intro l l' L L' M hM b h hS
  match l,h with
  | [],h=>cases h
  | ⟨none,_,_,_,_,_⟩::l,h=>cases h
  | ⟨TI d,op,ty,pos,af,none⟩::l,h=>cases h
  | ⟨TI d,op,ty,pos,af,TI (j',want')⟩::l,h=>
   simp only[puG]at h
   cases hc:(SC j j'&&(want==want')&&(gt L0 d).isNone)with
   | false=>rw[hc]at h;cases h
   | true=>
    rw[hc]at h;simp only[ZA,QjB]at hc;obtain⟨⟨c1,c2⟩,c3⟩:=hc;obtain rfl:=LJ c1;obtain rfl:want=want':=by simpa using c2
    simp only[cond_true]at h
    split at h
    ·rename_i L1 a
     have hd:Uu d n.n=true:=by
      simp only[Ui]at a
      split at a
      ·cases hd:Uu d n.n with
       | false=>rw[hd]at a;cases a
       | true=>rfl
      ·cases a
     refine Qju hj (hM t _ b) Z hd (ih (λt' v hv=>?_) b h hS);rw[QD]
     by_cases e:d=t'
     ·subst e;rw[hv]at c3;cases c3
     ·rw[Pb e];exact hM t' v hv
    ·cases h
def U3.both{t:Nat}{v:Value}{L L':ZC}(h:U3 L L'):U3 ((t,v)::L) ((t,v)::L'):=λt' u hu=>by
 rw[QD]at hu ⊢
 by_cases e:t=t'
 ·rw[Xu e]at hu ⊢;exact hu
 ·rw[Pb e]at hu ⊢;exact h t' u hu
theorem Aes{j:Nat}{want:Bool}{L0:ZC}:∀(k:Nat) {l l':List Oper}{L L':ZC},U3 L0 L->puG n j want L0 k l L=TI (l',L')->U3 L0 L':=by
 intro k
 induction k with
 | zero=>intro l l' L L' hM h;simp only[puG,Option.some.injEq,Prod.mk.injEq]at h;obtain⟨rfl,rfl⟩:=h;exact hM
 | succ k ih=>
  intro l l' L L' hM h
  match l,h with
  | [],h=>cases h
  | ⟨none,_,_,_,_,_⟩::l,h=>cases h
  | ⟨TI d,op,ty,pos,af,none⟩::l,h=>cases h
  | ⟨TI d,op,ty,pos,af,TI (j',want')⟩::l,h=>
   simp only[puG]at h
   cases hc:(SC j j'&&(want==want')&&(gt L0 d).isNone)with
   | false=>rw[hc]at h;cases h
   | true=>
    rw[hc]at h;simp only[ZA,QjB]at hc;obtain⟨⟨c1,c2⟩,c3⟩:=hc;simp only[cond_true]at h
    split at h
    ·rename_i L1 a;refine ih ?_ h;simp only[Ui]at a
     split at a
     ·rename_i v hv
      cases hd:Uu d n.n with
      | false=>rw[hd]at a;cases a
      | true=>
       rw[hd]at a;cases a;intro t' u hu;rw[QD]
       by_cases e:d=t'
       ·subst e;rw[hu]at c3;cases c3
       ·rw[Pb e];exact hM t' u hu
     ·cases a
    ·cases h
theorem U3.ev{L M:ZC}(hM:U3 L M){x:Operand}{v:Value}(hx:ev L x=TI v):ev M x=TI v:=by
 cases x with
 | tmp t=>exact hM t v hx
 | const _=>exact hx
 | func _=>exact hx
 | _=>exact hx
theorem Xx(k j:Nat){t:Nat}{b r s:Bool}{c x y:Operand}{l l':List Oper}{L1:ZC}(hj:((ops[j]?).bind (·.dst))=TI t)(hb:gt L t=TI (.bool b))
  (hg:puG n j true L k l L=TI (⟨TI d,.pick c x y,ty,pos,af,none⟩::l',L1)) (hc:ev L c=TI (.bool b)) (hx:ev L1 x=TI (.bool r)) (hy:ev L y=TI (.bool s)) (hn:Uu d n.n=true)
  (h:S P n ops Q l' ((d,.bool (bif b then r else s))::L) w):S P n ops Q l L w:=by
 have hsub:U3 L L1:=Aes k (U3.refl L) hg
 cases b with
 | true=>
  refine W0 (L0:=L) hj k hb hb hg<|Dy hn (v:=.bool r) (w':=w) (fun ρ hρ=>by simp[execOp,hρ c _ (U3.ev hsub hc),hρ x _ hx,asBool])<|S.sub h hsub.both
 | false=>
  refine XP (L0:=L) (want:=true) hj k (U3.refl L) hb hg λM hM=>Dy hn (v:=.bool s) (w':=w) (fun ρ hρ=>by simp[execOp,hρ c _ (U3.ev hM hc),hρ y _ (U3.ev hM hy),asBool])<|S.sub h hM.both
theorem Aet(k j:Nat){t:Nat}{b r s:Bool}{c x y:Operand}{l l':List Oper}{L1:ZC}(hj:((ops[j]?).bind (·.dst))=TI t)(hb:gt L t=TI (.bool b))
  (hg:puG n j false L k l L=TI (⟨TI d,.pick c x y,ty,pos,af,none⟩::l',L1)) (hc:ev L c=TI (.bool b)) (hx:ev L x=TI (.bool r)) (hy:ev L1 y=TI (.bool s)) (hn:Uu d n.n=true)
  (h:S P n ops Q l' ((d,.bool (bif b then r else s))::L) w):S P n ops Q l L w:=by
 have hsub:U3 L L1:=Aes k (U3.refl L) hg
 cases b with
 | false=>
  refine W0 (L0:=L) hj k hb hb hg<|Dy hn (v:=.bool s) (w':=w) (fun ρ hρ=>by simp[execOp,hρ c _ (U3.ev hsub hc),hρ y _ hy,asBool])<|S.sub h hsub.both
 | true=>
  refine XP (L0:=L) (want:=false) hj k (U3.refl L) hb hg λM hM=>Dy hn (v:=.bool r) (w':=w) (fun ρ hρ=>by simp[execOp,hρ c _ (U3.ev hM hc),hρ x _ (U3.ev hM hx),asBool])<|S.sub h hM.both
def Ajw{p q:Prop}[Decidable p][Decidable q]:(bif decide p then decide q else false)=decide (p/\q):=by by_cases hp:p <;> simp[hp]
def AlC{p q:Prop}[Decidable p][Decidable q]:(bif decide p then true else decide q)=decide (p\/q):=by by_cases hp:p <;> simp[hp]
def NC(k j:Nat){t:Nat}{p q:Prop}[Decidable p][Decidable q]{c x:Operand}{l l':List Oper}{L1:ZC}(hj:((ops[j]?).bind (·.dst))=TI t)(hb:gt L t=TI (.bool (decide p)))
  (hg:puG n j true L k l L=TI (⟨TI d,.pick c x (.const (.bool false)),ty,pos,af,none⟩::l',L1)) (hc:ev L c=TI (.bool (decide p))) (hx:ev L1 x=TI (.bool (decide q))) (hn:Uu d n.n=true)
  (h:S P n ops Q l' ((d,.bool (decide (p/\q)))::L) w):S P n ops Q l L w:=
 Xx k j hj hb hg hc hx Z hn (by rw[Ajw];exact h)
def Vj(k j:Nat){t:Nat}{p q:Prop}[Decidable p][Decidable q]{c y:Operand}{l l':List Oper}{L1:ZC}(hj:((ops[j]?).bind (·.dst))=TI t)(hb:gt L t=TI (.bool (decide p)))
  (hg:puG n j false L k l L=TI (⟨TI d,.pick c (.const (.bool true)) y,ty,pos,af,none⟩::l',L1)) (hc:ev L c=TI (.bool (decide p))) (hy:ev L1 y=TI (.bool (decide q))) (hn:Uu d n.n=true)
  (h:S P n ops Q l' ((d,.bool (decide (p\/q)))::L) w):S P n ops Q l L w:=
 Aet k j hj hb hg hc Z hy hn (by rw[AlC];exact h)
end
def drawn_setCell(w:World)(a:Addr)(v:Value):(w.setCell a v).drawn=w.drawn:=by
 unfold World.setCell
 split <;> rfl
def Aa2(w:World)(a:Addr)(n:Nat):(w.freeze a n).drawn=w.drawn:=by
 unfold World.freeze
 split <;> rfl
theorem Qk0{p:Program}{w a:World}{at_:Addr}{u:TypeId}{k:Addr}{v:Value}{atomic:Bool}{l:List Addr}(h:w.viewStore p at_ u k v atomic=.ok (a,l)):a.drawn=w.drawn:=by
 unfold World.viewStore at h;simp only[bind,Except.bind,pure,Except.pure,throwThe,MonadExceptOf.throw,MonadExcept.throw]at h
 repeat' split at h
 all_goals first
  | (cases h;done)
  | (cases h;rfl)
def QxA{p:Program}{w b:World}{a:Addr}{v:Value}{atomic:Bool}{l:List Addr}(h:w.farStore p a v atomic=.ok (b,l)):b.drawn=w.drawn:=by
 unfold World.farStore at h
 split at h
 ·split at h
  ·rename_i r hr;cases h;exact Qk0 hr
  ·cases h
 ·cases h
theorem VC{α:Type}:∀(q:Ask α) (w:World),w.drawn<=(w.ask q).2.drawn
 | .done a,w=>KN _
 | .ask what range k,w=>by
  unfold World.ask;simp only
  split
  ·exact VC (k 0) w
  ·exact RU (Nat.le_succ _) (VC _ {w with drawn:=w.drawn+1})
def Af3(w:World)(c:Sys):w.drawn<=(w.sys c).2.drawn:=by
 unfold World.sys;have:=VC (Kernel.perform c w.os) w
 split
 ·exact KN _
 ·rename_i r os a _ e;rw[e]at this;exact this
theorem Tn{α:Type}{p:Program}:∀(s:Sem α) (w:World) (a:α) (w':World),s.run p w=.ok a w'->w.drawn<=w'.drawn:=by
 intro s
 induction s with
 | pure a=>intro w x w' h;cases h;exact KN _
 | load m a k ih=>
  intro w x w' h;unfold Sem.run at h
  split at h
  ·exact ih _ _ _ _ h
  ·split at h
   ·exact ih _ _ _ _ h
   ·cases h
 | store m a v k ih=>
  intro w x w' h
  cases v <;> simp only[Sem.run]at h
  all_goals first
   | (cases h;done)
   | (
    split at h
    ·split at h
     ·cases h
     ·have:=ih _ _ _ h;rwa [drawn_setCell]at this
    ·split at h
     ·rename_i hf;have b:=ih _ _ _ h;rw[QxA hf]at b;exact b
     ·cases h)
 | new o k ih=>intro w x w' h;exact ih _ {w with heap:=w.heap.push o} _ _ h
 | shape r k ih=>intro w x w' h;exact ih _ _ _ _ h
 | freeze a n k ih=>intro w x w' h;have:=ih _ _ _ h;rwa [Aa2]at this
 | frozen a k ih=>intro w x w' h;exact ih _ _ _ _ h
 | getObj r k ih=>
  intro w x w' h;unfold Sem.run at h
  split at h
  ·cases h
  ·exact ih _ _ _ _ h
  ·cases h
 | setObj r o k ih=>
  intro w x w' h;unfold Sem.run at h
  split at h
  ·cases h
  ·exact ih {w with heap:=w.heap.setIfInBounds r o} _ _ h
  ·cases h
 | choose q k ih=>
  intro w x w' h;unfold Sem.run at h
  split at h
  ·exact ih _ _ _ _ h
  ·have:=ih _ _ _ _ h;simp only at this;omega
 | sys c k ih=>
  intro w x w' h;refine RU ?_ (ih _ _ _ _ h);exact Af3 w c
 | program k ih=>intro w x w' h;exact ih _ _ _ _ h
 | mark m k ih=>intro w x w' h;exact ih _ _ _ h
 | halt h=>intro w x w' h;cases h
end Go.E
namespace Go.E
open Go Go.RowKit
class Dr where
 on:Bool
structure Ext [Dr] (w w':World):Prop extends Below w.heap.size w w' where
 drawn:Dr.on=true->w.drawn<=w'.drawn
def Ext.refl[Dr](w:World):Ext w w:=⟨Below.refl _ _,λ_=>KN _⟩
def Ext.trans[Dr]{a b c:World}(h:Ext a b)(k:Ext b c):Ext a c:=⟨Below.trans h.toBelow (Below.mono k.toBelow h.size),λo=>RU (h.drawn o) (k.drawn o)⟩
abbrev PH:=Nat->Option Obj
def Le(A B:PH):Prop:=∀b o,A b=TI o->B b=TI o
def Le.refl(A:PH):Le A A:=λ_ _ h=>h
def Le.trans{A B C:PH}(h:Le A B)(k:Le B C):Le A C:=λb o e=>k b o (h b o e)
def hp(w:World):PH:=λb=>w.heap[b]?
def nw(w w':World):PH:=λb=>if w.heap.size<=b then w'.heap[b]? else none
def lt_of_heap{w:World}{b:Nat}{o:Obj}(h:w.heap[b]? = TI o):b<w.heap.size:=(Array.getElem?_eq_some_iff.1 h).1
def Ext.le[Dr]{w w':World}(h:Ext w w'):Le (hp w) (hp w'):=λb o e=>by
 have:b<w.heap.size:=lt_of_heap e
 show w'.heap[b]? = TI o
 rw[h.block b this];exact e
def Le.ext[Dr]{A:PH}{w w':World}(h:Le A (hp w))(hx:Ext w w'):Le A (hp w'):=h.trans hx.le
def GC(H:PH)(a:Addr):Option Value:=
 match H a.block with
 | some (.cells c _ _)=>if a.spot.isSome then none else c[a.off]?
 | _=>none
def AbJ(w:World)(a:Addr):GC (hp w) a=w.cell? a:=Z
def Hq{A B:PH}(h:Le A B){a:Addr}{v:Value}(e:GC A a=TI v):GC B a=TI v:=by
 unfold GC at e ⊢
 split at e
 ·rename_i c t f hc;rw[h _ _ hc];exact e
 ·cases e
def cell_of{H:PH}{w:World}(h:Le H (hp w)){a:Addr}{v:Value}(e:GC H a=TI v):w.cell? a=TI v:=Hq h e
structure Rp (α:Type) where
 sz:Nat
 rel:PH->α->LR->Prop
 len:∀{H x c},rel H x c->c.length=sz
 mono:∀{H H' x c},Le H H'->rel H x c->rel H' x c
 one:∀{H x c},rel H x c->∀u∈c,u.oneCell'=true
def Gp(H:PH)(p:Addr)(c:LR):Prop:=p.spot=none/\∀j u,c[j]? = TI u->GC H (p.add j)=TI u
structure As {α:Type} (r:Rp α) (H:PH) (v:Value) (l:List α):Prop where
 ex:∃a cap,v=.slice a l.length cap/\l.length<=cap/\cap<=maxLen/\(a=none->cap=0)/\
  ∀A,a=TI A->l≠[]->A.spot=none/\∀i x,l[i]? = TI x->∃c,r.rel H x c/\∀j u,c[j]? = TI u->GC H (A.add (i * r.sz+j))=TI u
def As.mono{α:Type}{r:Rp α}{H H':PH}{v:Value}{l:List α}(h:As r H v l)(hs:Le H H'):As r H' v l:=by
 obtain⟨a,cap,b,h2,h3,d,e⟩:=h.ex;refine⟨a,cap,b,h2,h3,d,λA hA hl=>?_⟩;obtain⟨f,g⟩:=e A hA hl;refine⟨f,λi x hx=>?_⟩;obtain⟨c,hc,hcell⟩:=g i x hx;exact⟨c,r.mono hs hc,λj u hu=>Hq hs (hcell j u hu)⟩
def As.nil{α:Type}(r:Rp α)(H:PH):As r H (.slice none 0 0) ([]:List α):=
 ⟨none,0,Z,KN _,Tg _,λ_=>Z,λ_ h=>by cases h⟩
def As.header{α:Type}{r:Rp α}{H:PH}{v:Value}{l:List α}(h:As r H v l):∃a cap,v=.slice a l.length cap:=by
 obtain⟨a,cap,b,_⟩:=h.ex;exact⟨a,cap,b⟩
def Rp.int(k:IntKind):Rp Int:=⟨1,λ_ x c=>c=[.int k x],λh=>by simp[h],λ_ h=>h,λh u hu=>by subst h;simp at hu;subst hu;rfl⟩
def Rp.byte:Rp UInt8:=⟨1,λ_ x c=>c=[.int .u8 (x.toNat:Int)],λh=>by simp[h],λ_ h=>h,λh u hu=>by subst h;simp at hu;subst hu;rfl⟩
def Rp.bool:Rp Bool:=⟨1,λ_ x c=>c=[.bool x],λh=>by simp[h],λ_ h=>h,λh u hu=>by subst h;simp at hu;subst hu;rfl⟩
def Rp.vec{α:Type}(r:Rp α):Rp (List α):=⟨1,λH x c=>∃v,c=[v]/\As r H v x,λh=>by obtain⟨v,h,_⟩:=h;simp[h],λhs h=>by obtain⟨v,h,hv⟩:=h;exact⟨v,h,hv.mono hs⟩,
 λh u hu=>by obtain⟨v,h,hv⟩:=h;subst h;simp at hu;subst hu;obtain⟨a,cap,e⟩:=hv.header;subst e;rfl⟩
def Rp.pair{α β:Type}(r:Rp α)(s:Rp β):Rp (α×β):=⟨r.sz+s.sz,λH x c=>∃c1 c2,c=c1++c2/\r.rel H x.1 c1/\s.rel H x.2 c2,
 λh=>by obtain⟨c1,c2,e,a,h2⟩:=h;simp[e,r.len a,s.len h2],
 λhs h=>by obtain⟨c1,c2,e,a,h2⟩:=h;exact⟨c1,c2,e,r.mono hs a,s.mono hs h2⟩,
 λh u hu=>by
  obtain⟨c1,c2,e,a,h2⟩:=h;subst e
  rcases MY.1 hu with hu | hu
  ·exact r.one a u hu
  ·exact s.one h2 u hu⟩
inductive Bv where
 | box (b:Nat) (cs:LR) (t:TypeId)
 | row (v:Value) (e:TypeId) (sz n:Nat) (xs:LR)
 | obj (b:Nat) (o:Obj)
abbrev Ha(l O:List Bv):List Bv:=l++O
def Bv.block:Bv->Option Nat
 | .box b _ _=>TI b
 | .row v _ _ _ _=>v.ownBlock
 | .obj b _=>TI b
def Bv.ok(w:World):Bv->Prop
 | .box b cs t=>w.heap[b]? = TI (.cells cs.toArray t (0,0))
 | .row v e sz n xs=>w.ownsRow 0 e sz v n xs
 | .obj b o=>w.heap[b]? = TI o
theorem Bv.ok.lt{w:World}{r:Bv}(h:r.ok w){b:Nat}(hb:r.block=TI b):b<w.heap.size:=by
 cases r with
 | box b' cs t=>cases hb;exact lt_of_heap h
 | row v e sz n xs=>exact(World.ownsRow.lt h b hb).2
 | obj b' o=>cases hb;exact lt_of_heap h
theorem Bv.ok.same{w w':World}{r:Bv}(h:r.ok w)(hs:∀b,r.block=TI b->w'.heap[b]? = w.heap[b]?):r.ok w':=by
 cases r with
 | box b cs t=>show w'.heap[b]? = _;rw[hs b Z];exact h
 | obj b o=>show w'.heap[b]? = _;rw[hs b Z];exact h
 | row v e sz n xs=>
  refine⟨h.1,?_⟩
  rcases h.2 with hn | ⟨g,cap,cur,rfl,hb,hgg,rest⟩
  ·exact .inl hn
  ·refine .inr ⟨g,cap,cur,Z,hb,?_,rest⟩;rw[hs g Z];exact hgg
def Bv.ok.ext[Dr]{w w':World}{r:Bv}(h:r.ok w)(hx:Ext w w'):r.ok w':=h.same λb hb=>hx.block b (h.lt hb)
def owned(O:List Bv)(b:Nat):Bool:=O.any λr=>r.block==TI b
def CR{O:List Bv}{b:Nat}:owned O b=true↔∃r∈O,r.block=TI b:=by simp[owned]
def fz(w:World)(O:List Bv):PH:=λb=>if owned O b then none else w.heap[b]?
def Qn(w:World)(O:List Bv):Le (fz w O) (hp w):=λb o e=>by
 unfold fz at e
 split at e
 ·cases e
 ·exact e
structure AB [Dr] (a:World) (O:List Bv) (w:World):Prop where
 ext:Ext a w
 res:∀r∈O,r.ok w
 own:∀r∈O,∀b,r.block=TI b->a.heap.size<=b
 dis:O.Pairwise λr s=>∀b,r.block=TI b->s.block≠TI b
def AB.start[Dr](w:World):AB w [] w:=⟨Ext.refl w,(λ_ h=>by cases h),(λ_ h=>by cases h),List.Pairwise.nil⟩
def Ai[Dr]{P:Program}{f:FuncId}{fn:Func}{c:Code}{args:LR}{w:World}{R:Value->World->Prop}(n:Nat)(L:ZC)
  (hf : P.funcs[f]? = some fn) (hq : (fn.name == "runtime.NumGoroutine", fn.body, fn.ntmps, Nat.ble args.length n, P7 0 args) = (false, some c, n, true, L))
  (h:AB w [] w->W P ⟨n,[]⟩ c (Ox P fn R) L w):Ok P f args w R:=by
 simp only[Prod.mk.injEq]at hq;exact Cx L hf (hname:=⟨hq.1⟩) hq.2.1 hq.2.2.1 hq.2.2.2.1 hq.2.2.2.2 (h (AB.start w))
def AB.arg[Dr]{a w:World}{O:List Bv}(h:AB a O w):Le (hp a) (hp w):=h.ext.le
def AB.lt[Dr]{a w:World}{O:List Bv}(h:AB a O w){b:Nat}(hb:owned O b=true):b<w.heap.size:=by
 obtain⟨r,hr,e⟩:=CR.1 hb;exact(h.res r hr).lt e
def AB.AmA[Dr]{a w:World}{O:List Bv}(h:AB a O w):Le (hp a) (fz w O):=λb o e=>by
 unfold fz;rw[Pb]
 ·exact h.arg b o e
 ·intro ho;obtain⟨r,hr,e'⟩:=CR.1 ho;have:=h.own r hr b e';have:=lt_of_heap (w:=a) e;omega
def AB.call[Dr]{a w w':World}{O:List Bv}(h:AB a O w)(hx:Ext w w'):AB a O w':=
 ⟨h.ext.trans hx,λr hr=>(h.res r hr).ext hx,h.own,h.dis⟩
def A3[Dr]{a w w':World}{O:List Bv}(_h:AB a O w)(hx:Ext w w'):Le (fz w O) (fz w' O):=λb o e=>by
 unfold fz at e ⊢
 split at e
 ·cases e
 ·rename_i ho;rw[Pb ho];exact hx.le b o e
def Alb[Dr]{a w w':World}{O:List Bv}(h:AB a O w):Le (nw w w') (fz w' O):=λb o e=>by
 unfold nw at e
 split at e
 ·rename_i hb;unfold fz;rw[Pb]
  ·exact e
  ·intro ho;have:=h.lt ho;omega
 ·cases e
def AB.drop[Dr]{a w:World}{O:List Bv}{r:Bv}(h:AB a (r::O) w):AB a O w:=
 ⟨h.ext,λs hs=>h.res s (.tail _ hs),λs hs=>h.own s (.tail _ hs),(QU.1 h.dis).2⟩
def Ajx{w:World}{O:List Bv}{r:Bv}:Le (fz w (r::O)) (fz w O):=λb o e=>by
 unfold fz at e ⊢
 split at e
 ·cases e
 ·rename_i ho;rw[Pb]
  ·exact e
  ·intro h;apply ho;obtain⟨s,hs,e'⟩:=CR.1 h;exact CR.2 ⟨s,.tail _ hs,e'⟩
def AB.perm[Dr]{a w:World}{O O':List Bv}(h:AB a O w)(hp:O'.Perm O):AB a O' w:=
 ⟨h.ext,λr hr=>h.res r (hp.mem_iff.1 hr),λr hr=>h.own r (hp.mem_iff.1 hr),
  (hp.symm.pairwise h.dis (λ{_x _y} hxy b hb hx=>hxy b hx hb))⟩
def Js{w:World}{O O':List Bv}(hp:O'.Perm O):fz w O'=fz w O:=by
 funext b
 unfold fz
 have:owned O' b=owned O b:=by
  rw[Z8,CR,CR];exact⟨λ⟨r,h,e⟩=>⟨r,hp.mem_iff.1 h,e⟩,λ⟨r,h,e⟩=>⟨r,hp.mem_iff.2 h,e⟩⟩
 rw[this]
theorem AB.AnK[Dr]{a w w':World}{O:List Bv}{r r':Bv}(h:AB a (r::O) w)(hdr:w.drawn<=w'.drawn)(hg:w.grownBy w' r.block)(hok:r'.ok w')(hb:∀b,r'.block=TI b->r.block=TI b\/w.heap.size<=b):AB a (r'::O) w':=by
 have hh:=QU.1 h.dis
 have hsame:∀s∈O,∀b,s.block=TI b->w'.heap[b]? = w.heap[b]?:=λs hs b e=>by
  refine hg.block b ((h.res s (.tail _ hs)).lt e) (λe'=>?_);exact hh.1 s hs b e'.symm e
 refine⟨⟨⟨hg.os.trans h.ext.os,hg.tape.trans h.ext.tape,hg.output.trans h.ext.output,RU h.ext.size hg.size,λk hk=>?_⟩,λo=>RU (h.ext.drawn o) hdr⟩,λs hs=>?_,λs hs b e=>?_,?_⟩
 ·rw[hg.block k (Nat.lt_of_lt_of_le hk h.ext.size) (λe=>?_)]
  ·exact h.ext.block k hk
  ·have:=h.own r (.head _) k e.symm;omega
 ·cases hs with
  | head=>exact hok
  | tail _ hs=>exact(h.res s (.tail _ hs)).same (hsame s hs)
 ·cases hs with
  | head=>
   rcases hb b e with e' | e'
   ·exact h.own r (.head _) b e'
   ·exact RU h.ext.size e'
  | tail _ hs=>exact h.own s (.tail _ hs) b e
 ·refine QU.2 ⟨λs hs b e e'=>?_,hh.2⟩
  rcases hb b e with e'' | e''
  ·exact hh.1 s hs b e'' e'
  ·have:=(h.res s (.tail _ hs)).lt e';omega
theorem Ajy[Dr]{c w w':World}{O:List Bv}{r r':Bv}(_h:AB c (r::O) w)(hg:w.grownBy w' r.block)(hb:∀b,r'.block=TI b->r.block=TI b\/w.heap.size<=b):Le (fz w (r::O)) (fz w' (r'::O)):=λb o e=>by
 unfold fz at e ⊢
 split at e
 ·cases e
 ·rename_i ho;have hlt:=lt_of_heap e;have hnr:r.block≠TI b:=λe'=>ho (CR.2 ⟨r,.head _,e'⟩);rw[Pb]
  ·rw[hg.block b hlt (λe'=>hnr e'.symm)];exact e
  ·intro hc;obtain⟨s,hs,e'⟩:=CR.1 hc
   cases hs with
   | head=>
    rcases hb b e' with a | a
    ·exact hnr a
    ·omega
   | tail _ hs=>exact ho (CR.2 ⟨s,.tail _ hs,e'⟩)
theorem AB.new[Dr]{a w w':World}{O:List Bv}{r:Bv}(h:AB a O w)(hx:Ext w w')(hok:r.ok w')(hb:∀b,r.block=TI b->w.heap.size<=b):AB a (r::O) w':=by
 have h':=h.call hx;refine⟨h'.ext,λs hs=>?_,λs hs b e=>?_,QU.2 ⟨λs hs b e e'=>?_,h.dis⟩⟩
 ·cases hs with
  | head=>exact hok
  | tail _ hs=>exact h'.res s hs
 ·cases hs with
  | head=>exact RU h.ext.size (hb b e)
  | tail _ hs=>exact h.own s hs b e
 ·have:=hb b e;have:=(h.res s hs).lt e';omega
theorem Uj[Dr]{a w w':World}{O:List Bv}{r:Bv}(_h:AB a O w)(hx:Ext w w')(hb:∀b,r.block=TI b->w.heap.size<=b):Le (fz w O) (fz w' (r::O)):=λb o e=>by
 unfold fz at e ⊢
 split at e
 ·cases e
 ·rename_i ho;have hlt:=lt_of_heap e;rw[Pb]
  ·exact hx.le b o e
  ·intro hc;obtain⟨s,hs,e'⟩:=CR.1 hc
   cases hs with
   | head=>have:=hb b e';omega
   | tail _ hs=>exact ho (CR.2 ⟨s,hs,e'⟩)
def TK(w w':World)(v:Value):PH:=λb=>if v.ownBlock=TI b then none else nw w w' b
theorem AbK[Dr]{c w w':World}{O:List Bv}{v:Value}{e:TypeId}{sz n:Nat}{xs:LR}(h:AB c O w):Le (TK w w' v) (fz w' (.row v e sz n xs::O)):=λb o hb=>by
 unfold TK at hb
 split at hb
 ·cases hb
 ·rename_i hne;have a:=Alb (w':=w') h b o hb;unfold fz at a ⊢
  split at a
  ·cases a
  ·rename_i ho;rw[Pb]
   ·exact a
   ·intro hc;obtain⟨s,hs,e'⟩:=CR.1 hc
    cases hs with
    | head=>exact hne e'
    | tail _ hs=>exact ho (CR.2 ⟨s,hs,e'⟩)
def AbL{w w':World}{v:Value}:Le (TK w w' v) (nw w w'):=λb o hb=>by
 unfold TK at hb
 split at hb
 ·cases hb
 ·exact hb
inductive Ao {α:Type} (r:Rp α) (H:PH):List α->LR->Prop
 | nil:Ao r H [] []
 | cons {x:α}{l:List α}{c cs:LR} (h:r.rel H x c) (t:Ao r H l cs):Ao r H (x::l) (c++cs)
section
variable {α:Type}{r:Rp α}{H H':PH}
theorem Ao.mono{l:List α}{cs:LR}(h:Ao r H l cs)(hs:Le H H'):Ao r H' l cs:=by
 induction h with
 | nil=>exact .nil
 | cons h _ ih=>exact .cons (r.mono hs h) ih
theorem Ao.len{l:List α}{cs:LR}(h:Ao r H l cs):cs.length=l.length * r.sz:=by
 induction h with
 | nil=>simp
 | cons h _ ih=>simp[ih,r.len h,Sc,Nat.add_comm]
theorem Ao.one{l:List α}{cs:LR}(h:Ao r H l cs):∀u∈cs,u.oneCell'=true:=by
 induction h with
 | nil=>simp
 | cons h _ ih=>intro u hu;rcases MY.1 hu with hu | hu;exact r.one h u hu;exact ih u hu
theorem Ao.append{l m:List α}{cs ds:LR}(h:Ao r H l cs)(k:Ao r H m ds):Ao r H (l++m) (cs++ds):=by
 induction h with
 | nil=>exact k
 | cons h _ ih=>rw[List.cons_append,List.append_assoc];exact .cons h ih
theorem Ao.at{l:List α}{cs:LR}(h:Ao r H l cs):∀i x,l[i]? = TI x->∃c,r.rel H x c/\∀j u,c[j]? = TI u->cs[i * r.sz+j]? = TI u:=by
 induction h with
 | nil=>intro i x hx;cases hx
 | @cons y l c cs h _ ih=>
  intro i x hx
  cases i with
  | zero=>
   simp only[R3,Option.some.injEq]at hx;subst hx;refine⟨c,h,λj u hu=>?_⟩;rw[Nat.zero_mul,Q8,Ry (Z9.1 hu).1];exact hu
  | succ i=>
   simp only[List.getElem?_cons_succ]at hx;obtain⟨d,hd,hh⟩:=ih i x hx;refine⟨d,hd,λj u hu=>?_⟩;rw[UY (by rw[r.len h,Sc];omega),r.len h];rw[show(i+1) * r.sz+j - r.sz=i * r.sz+j from by rw[Sc];omega];exact hh j u hu
end
def OQ{α:Type}(e:TypeId)(r:Rp α)(w w':World)(v:Value)(l:List α):Prop:=
 ∃xs,w'.ownsRow w.heap.size e r.sz v l.length xs/\Ao r (TK w w' v) l xs
def UB{w:World}{b b':Nat}{e:TypeId}{sz n:Nat}{v:Value}{xs:LR}(h:w.ownsRow b e sz v n xs)(hb:∀k,v.ownBlock=TI k->b'<=k):w.ownsRow b' e sz v n xs:=by
 refine⟨h.1,?_⟩
 rcases h.2 with hn | ⟨g,cap,cur,rfl,hbg,hgg,rest⟩
 ·exact .inl hn
 ·exact .inr ⟨g,cap,cur,Z,hb g Z,hgg,rest⟩
def QF{α:Type}{r:Rp α}{w:World}{b:Nat}{e:TypeId}{v:Value}{l:List α}{xs:LR}{H H':PH}(h:w.ownsRow b e r.sz v l.length xs)(he:Ao r H l xs)(hs:Le H H')
  (hb:∀k,v.ownBlock=TI k->∀o,w.heap[k]? = TI o->H' k=TI o):As r H' v l:=by
 rcases h.2 with ⟨rfl,hn⟩ | ⟨g,cap,cur,rfl,hbg,hgg,hnc,hcm,hcs,htake⟩
 ·have:l=[]:=Vu hn;subst this;exact As.nil r H'
 ·refine⟨TI ⟨g,0,none⟩,cap,Z,hnc,hcm,(λh=>by cases h),λA hA _=>?_⟩
  cases hA
  refine⟨Z,λi x hx=>?_⟩;obtain⟨c,hc,hcell⟩:=he.at i x hx;refine⟨c,r.mono hs hc,λj u hu=>?_⟩;have a:=hcell j u hu;rw[<- htake,Tm]at a
  split at a
  ·simp only[Addr.add_lit,Q8,GC];rw[hb g Z _ hgg]
   simpa using a
  ·cases a
def OQ.vec{α:Type}{e:TypeId}{r:Rp α}{w w':World}{v:Value}{l:List α}(h:OQ e r w w' v l):As r (nw w w') v l:=by
 obtain⟨xs,a,h2⟩:=h;refine QF a h2 AbL λk hk o ho=>?_;have:=(a.lt k hk).1;unfold nw;rw[Xu this];exact ho
end Go.E
namespace Go.E
open Go Go.RowKit
inductive Tr where
 | tail (k:Nat)
 | q (i:Nat) (t:Tr)
 | h (i:Nat) (t:Tr)
 | h2 (i:Nat) (t:Tr) (j:Nat) (u:Tr)
 | h3 (i:Nat) (t:Tr) (j:Nat) (u:Tr) (l:Nat) (v:Tr)
def Zt:Nat->Nat->Tr->Tr
 |_,0,t=>t
 |i,n+1,t=>.q i (Zt (i+1) n t)
def Tr.count:Tr->Nat
 | .tail _=>0
 | .q _ t=>t.count+1
 | .h _ t=>t.count+1
 | .h2 _ t _ _=>t.count+1
 | .h3 _ t _ _ _ _=>t.count+1
def Tr.last:Tr->Nat
 | .tail k=>k
 | .q _ t=>t.last
 | .h _ t=>t.last
 | .h2 _ t _ _=>t.last
 | .h3 _ t _ _ _ _=>t.last
def chainB(ops:Array Oper):Nat->Nat->Array Bool->Bool
 | 0,_,listed=>Region.ready .any ops listed==[]
 | m+1,k,listed=>Region.ready .any ops listed==[k]&&chainB ops m (k+1) (listed.setIfInBounds k true)
def Ay(ops:Array Oper):Tr->Array Bool->Bool
 | .tail k,listed=>chainB ops (ops.size - k) k listed
 | .q i t,listed=>(Region.ready .any ops listed).contains i&&Region.free .any ops listed i&&Uu i t.last&&Ay ops t (listed.setIfInBounds i true)
 | .h i t,listed=>Region.ready .any ops listed==[i]&&Uu i t.last&&Ay ops t (listed.setIfInBounds i true)
 | .h2 i t j u,listed=>Region.ready .any ops listed==[i,j]&&Uu i t.last&&Uu j t.last&&t.count==u.count&&t.last==u.last&&Ay ops t (listed.setIfInBounds i true)&&Ay ops u (listed.setIfInBounds j true)
 | .h3 i t j u l v,listed=>Region.ready .any ops listed==[i,j,l]&&Uu i t.last&&Uu j t.last&&Uu l t.last&&t.count==u.count&&t.last==u.last&&t.count==v.count&&t.last==v.last&&Ay ops t (listed.setIfInBounds i true)&&Ay ops u (listed.setIfInBounds j true)&&Ay ops v (listed.setIfInBounds l true)
section
variable (P:Program) (ops:Array Oper)
def Zs(a:Act)(o:Oper)(K:Act->World->Prop):Result Next->Prop
 | .ok (.value v) w'=>K (a.put o.dst v) w'
 | .ok .skip w'=>K (a.put o.dst undef) w'
 | .ok (.enter f args) w'=>Calls P f args w' (λe w''=>∃v,e=.returned v/\K (a.put o.dst v) w'')
 | _=>False
def opx(o:Oper)(K:Act->World->Prop)(a:Act)(w:World):Prop:=
 if Region.wanted o (yielded ops a.tmps)then Zs P a o K ((execOp a.eval o).run P w)else K (a.put o.dst undef) w
def yx[Dr](o:Oper)(v:Value)(a:Act)(w:World):Prop:=
 (Region.wanted o (yielded ops a.tmps)=true/\∀w',Ext w w'->match(execOp a.eval o).run P w' with
  | .ok (.value u) w''=>w''=w'/\u=v
  | .ok (.enter f args) w''=>w''=w'/\Calls P f args w' (λe b=>e=.returned v/\Ext w' b)
  | _=>False)\/
 (Region.wanted o (yielded ops a.tmps)=false/\v=undef)
def X[Dr](Q:Exit->Act->World->Prop):Tr->World->Act->World->Prop
 | .tail k,_,a,w=>∀w',Ext w w'->wpOps P ops Q (Zy k (ops.size - k)) a w'
 | .q i t,b,a,w=>∃o v,ops[i]? = TI o/\yx P ops o v a b/\X Q t b (a.put o.dst v) w
 | .h i t,b,a,w=>∃o,ops[i]? = TI o/\∀w',Ext w w'->opx P ops o (λa'' w''=>∃b',Ext b b'/\Ext b' w''/\X Q t b' a'' w'') a w'
 | .h2 i t j u,b,a,w=>(∃o,ops[i]? = TI o/\∀w',Ext w w'->opx P ops o (λa'' w''=>∃b',Ext b b'/\Ext b' w''/\X Q t b' a'' w'') a w')/\
   (∃o,ops[j]? = TI o/\∀w',Ext w w'->opx P ops o (λa'' w''=>∃b',Ext b b'/\Ext b' w''/\X Q u b' a'' w'') a w')
 | .h3 i t j u l v,b,a,w=>(∃o,ops[i]? = TI o/\∀w',Ext w w'->opx P ops o (λa'' w''=>∃b',Ext b b'/\Ext b' w''/\X Q t b' a'' w'') a w')/\
   (∃o,ops[j]? = TI o/\∀w',Ext w w'->opx P ops o (λa'' w''=>∃b',Ext b b'/\Ext b' w''/\X Q u b' a'' w'') a w')/\
   (∃o,ops[l]? = TI o/\∀w',Ext w w'->opx P ops o (λa'' w''=>∃b',Ext b b'/\Ext b' w''/\X Q v b' a'' w'') a w')
def Y[Dr](Q:Exit->Act->World->Prop)(k:Nat)(b:World):Nat->Array Bool->Act->World->Prop
 | 0,listed,a,w=>chainB ops (ops.size - k) k listed=true/\∀w',Ext w w'->wpOps P ops Q (Zy k (ops.size - k)) a w'
 | m
  + 1,listed,a,w=>Region.ready .any ops listed≠[]/\∀w',Ext w w'->∀i∈Region.ready .any ops listed,∃o,ops[i]? = TI o/\
  opx P ops o (λa'' w''=>Ext b w''/\Y Q k b m (listed.setIfInBounds i true) a'' w'') a w'
end
section
variable {P:Program}{ops:Array Oper}{Q:Exit->Act->World->Prop}
theorem Af4{a:Act}{o:Oper}{K K':Act->World->Prop}(h:∀a w,K a w->K' a w):∀{r:Result Next},Zs P a o K r->Zs P a o K' r:=by
 intro r hr
 cases r with
 | ok nx w'=>
  cases nx <;> simp only[Zs]at hr ⊢
  case value v=>exact h _ _ hr
  case skip=>exact h _ _ hr
  case enter f args=>exact hr.mono λe w'' ⟨v,he,hv⟩=>⟨v,he,h _ _ hv⟩
 | halt x w'=>simp only[Zs]at hr
def MQ{o:Oper}{K K':Act->World->Prop}(h:∀a w,K a w->K' a w){a:Act}{w:World}(hh:opx P ops o K a w):opx P ops o K' a w:=by
 unfold opx at hh ⊢
 split
 ·rename_i hw;rw[Xu hw]at hh;exact Af4 h hh
 ·rename_i hw;rw[Pb hw]at hh;exact h _ _ hh
theorem AbN{i:Nat}{o:Oper}(hi:ops[i]? = TI o){K:Act->World->Prop}{a:Act}{w:World}(h:opx P ops o K a w):wpOp P ops Q i K a w:=by
 unfold wpOp;simp only[hi];unfold opx at h
 split
 ·rename_i hw;rw[Xu hw]at h;refine .inl ?_;unfold Oper.wp;generalize (execOp a.eval o).run P w=r at h ⊢
  cases r with
  | ok nx w'=>
   cases nx <;> simp only[Zs]at h <;> simp only[Oper.upon]
   case value v=>exact h
   case skip=>exact h
   case enter f args=>exact h.mono λe w'' ⟨v,he,hv⟩=>by subst he;exact hv
  | halt x w'=>simp only[Zs]at h
 ·rename_i hw;rw[Pb hw]at h;exact h
theorem ZE[Dr]{o:Oper}{v:Value}{a:Act}{w w':World}(h:yx P ops o v a w)(hx:Ext w w'){K:Act->World->Prop}(hK:∀w'',Ext w' w''->K (a.put o.dst v) w''):opx P ops o K a w':=by
 unfold opx
 rcases h with ⟨hw,h⟩ | ⟨hw,rfl⟩
 ·rw[Xu hw];have b:=h w' hx;generalize (execOp a.eval o).run P w'=r at b ⊢
  cases r with
  | ok nx c=>
   cases nx <;> simp only at b <;> simp only[Zs]
   case value u=>obtain⟨rfl,rfl⟩:=b;exact hK _ (Ext.refl _)
   case enter f args=>obtain⟨rfl,b⟩:=b;exact b.mono λe w'' ⟨he,hv⟩=>⟨v,he,hK _ hv⟩
  | halt x c=>simp only at b
 ·rw[Pb (by simp[hw])];exact hK _ (Ext.refl _)
def AlD[Dr]{o oj:Oper}{v u:Value}{a:Act}{w:World}(hs:∀cs b,o.op≠.select cs b)(h3:∀d,oj.dst=TI d->d∉o.looksAt ops)(h:yx P ops o v a w):yx P ops o v (a.put oj.dst u) w:=by
 unfold yx at h ⊢;rw[wanted_put o a oj.dst u h3,execOp_put (ops:=ops) o hs a oj.dst u h3];exact h
def V5(ops:Array Oper)(k:Nat):Prop:=∀listed,HeadInv .any ops k listed->∀i,i<k->listed.getD i true=false->∀t,k<=t->t∉Region.ready .any ops listed
def AgL{k:Nat}(h:ops.size<=k\/(Region.sinkB .any ops k=true/\Region.chainB .any ops k=true)):V5 ops k:=by
 intro listed inv i hi hun t ht hr
 rcases TC k ops.size with hk | hk
 ·rcases h with h | ⟨a,h2⟩
  ·omega
  ·exact tail_waits a h2 hk inv _ i Z hi hun t ht hr
 ·obtain⟨_,o,ho,_⟩:=mem_ready.1 hr;have:=(Array.getElem?_eq_some_iff.1 ho).1;omega
theorem AbO{m k:Nat}{listed:Array Bool}(h:chainB ops m k listed=true):∀j∈Region.ready .any ops listed,j=k:=by
 intro j hj
 cases m with
 | zero=>simp only[chainB,beq_iff_eq]at h;rw[h]at hj;cases hj
 | succ m=>simp only[chainB,ZA,beq_iff_eq]at h;rw[h.1]at hj;simpa using hj
theorem Uk[Dr]{k:Nat}{b b':World}(hb:Ext b b'):∀(m:Nat) (listed:Array Bool) (a:Act) (w:World),Y P ops Q k b' m listed a w->Y P ops Q k b m listed a w
 | 0,_,_,_,h=>h
 | m
  + 1,listed,a,w,h=>⟨h.1,λw' hx i hi=>by
  obtain⟨o,ho,c⟩:=h.2 w' hx i hi;exact⟨o,ho,MQ (λa'' w'' ⟨d,e⟩=>⟨hb.trans d,Uk hb m _ _ _ e⟩) c⟩⟩
theorem Ajz[Dr]{b:World}{k i:Nat}{oi:Oper}{v:Value}(hw:V5 ops k)(hi:ops[i]? = TI oi)(hik:i<k)(hsel:∀(j:Nat) (o:Oper) cs b,ops[j]? = TI o->o.op≠.select cs b):
  ∀
   (m:Nat) (listed:Array Bool) (a:Act) (w:World),HeadInv .any ops k listed->
   (∀j oj,ops[j]? = TI oj->j≠i->listed.getD j true=false->(∀e∈oj.after,Region.binds .any e=true->e.on≠i)->oi.apart ops oj=true)->
   i∈Region.ready .any ops listed->Ext b w->yx P ops oi v a b->
   Y P ops Q k b m (listed.setIfInBounds i true) (a.put oi.dst v) w->Y P ops Q k b (m+1) listed a w:=by
 intro m
 induction m with
 | zero=>
  intro listed a w inv hfree hr hb hy H;refine⟨λh=>(by rw[h]at hr;cases hr),λw' hx j hj=>?_⟩
  have hji:j=i:=by
   refine Decidable.byContradiction λhne=>?_;have:=AbO H.1 j (ready_mono hj hne);subst this;exact hw listed inv i hik (mem_ready.1 hr).1 j (KN _) hj
  subst hji;exact⟨oi,hi,ZE hy (hb.trans hx) λw'' hx'=>⟨(hb.trans hx).trans hx',H.1,λd h3=>H.2 d ((hx.trans hx').trans h3)⟩⟩
 | succ m ih=>
  intro listed a w inv hfree hr hb hy H;refine⟨λh=>(by rw[h]at hr;cases hr),λw' hx j hj=>?_⟩
  by_cases hji:j=i
  ·subst hji;refine⟨oi,hi,ZE hy (hb.trans hx) λw'' hx'=>⟨(hb.trans hx).trans hx',H.1,λd h3=>H.2 d ((hx.trans hx').trans h3)⟩⟩
  ·obtain⟨oj,hoj,c⟩:=H.2 w' hx j (ready_mono hj hji);refine⟨oj,hoj,?_⟩;obtain⟨hjun,oj',hoj',hall⟩:=mem_ready.1 hj;obtain rfl:oj=oj':=Option.some.inj (hoj.symm.trans hoj')
   have hnot:∀e∈oj.after,Region.binds .any e=true->e.on≠i:=λe he hb heq=>by
    have c:=hall e he hb;have g:=(mem_ready.1 hr).1;rw[heq]at c
    rcases TC i listed.size with h' | h'
    ·simp[h']at g c;rw[g]at c;cases c
    ·simp[Array.getElem?_eq_none h']at c
   obtain⟨l,n,p⟩:=Oper.apart_spec (hfree j oj hoj hji hjun hnot);have hsj:=λcs b=>hsel j oj cs b hoj;have hsi:=λcs b=>hsel i oi cs b hi
   have hjk:j<k:=by
    rcases TC j k with h | h
    ·exact h
    ·exact absurd hj (hw listed inv i hik (mem_ready.1 hr).1 j h)
   have hfree':∀k' ok,ops[k']? = TI ok->k'≠i->(listed.setIfInBounds j true).getD k' true=false->
     (∀e∈ok.after,Region.binds .any e=true->e.on≠i)->oi.apart ops ok=true:=λk' ok hk hki hun hno=>by
    refine hfree k' ok hk hki ?_ hno
    by_cases hjk:j=k'
    ·subst hjk;exact hjun
    ·rw[getD_set_ne true hjk]at hun;exact hun
   have next:∀u w'',Ext b w''->Y P ops Q k b m ((listed.setIfInBounds i true).setIfInBounds j true) ((a.put oi.dst v).put oj.dst u) w''->Y P ops Q k b (m+1) (listed.setIfInBounds j true) (a.put oj.dst u) w'':=by
    intro u w'' hx' hY;refine ih (listed.setIfInBounds j true) (a.put oj.dst u) w'' (inv.set hj hjk) hfree' (ready_mono hr (Ne.symm hji)) hx' (AlD hsi p hy) ?_;rw[Array.setIfInBounds_comm _ _ hji,<- Act.put_comm a v u n];exact hY
   unfold opx at c ⊢;rw[wanted_put oj a oi.dst v l,execOp_put (ops:=ops) oj hsj a oi.dst v l]at c
   split
   ·rename_i hw;rw[Xu hw]at c;generalize (execOp a.eval oj).run P w'=r at c ⊢
    cases r with
    | ok nx q=>
     cases nx <;> simp only[Zs]at c ⊢
     case value u=>exact⟨c.1,next _ _ c.1 c.2⟩
     case skip=>exact⟨c.1,next _ _ c.1 c.2⟩
     case enter f args=>exact c.mono λe w'' ⟨u,he,hu⟩=>⟨u,he,hu.1,next _ _ hu.1 hu.2⟩
    | halt x q=>simp only[Zs]at c
   ·rename_i hw;rw[Pb hw]at c;exact⟨c.1,next _ _ c.1 c.2⟩
def Sl{i j:Nat}(h:Uu i j=true):i<j:=by simpa[Nat.blt_eq]using h
theorem Sn[Dr]{k:Nat}(hw:V5 ops k)(hsel:∀(j:Nat) (o:Oper) cs b,ops[j]? = TI o->o.op≠.select cs b):
  ∀(t:Tr) (listed:Array Bool) (b:World) (a:Act) (w:World),t.last=k->HeadInv .any ops k listed->Ay ops t listed=true->Ext b w->X P ops Q t b a w->Y P ops Q k b t.count listed a w
 | .tail k',listed,b,a,w,hk,inv,hc,hb,h=>by
  obtain rfl:k'=k:=hk;exact⟨hc,h⟩
 | .q i t,listed,b,a,w,hk,inv,hc,hb,h=>by
  simp only[Ay,ZA]at hc;obtain⟨⟨⟨c1,c2⟩,c3⟩,c4⟩:=hc;obtain⟨o,v,ho,hy,hX⟩:=h;have hr:i∈Region.ready .any ops listed:=by simpa using c1
  have hlt:i<k:=by rw[<- hk];exact Sl c3
  exact Ajz hw ho hlt hsel t.count listed a w inv (λj oj=>Region.free_spec ho c2 j oj) hr hb hy (Sn hw hsel t _ _ _ _ hk (inv.set hr hlt) c4 hb hX)
 | .h i t,listed,b,a,w,hk,inv,hc,hb,h=>by
  simp only[Ay,ZA,beq_iff_eq]at hc;obtain⟨⟨c1,c3⟩,c4⟩:=hc;obtain⟨o,ho,hX⟩:=h;have hr:i∈Region.ready .any ops listed:=by simp[c1]
  have hlt:i<k:=by rw[<- hk];exact Sl c3
  refine⟨by simp[c1],λw' hx j hj=>?_⟩;obtain rfl:j=i:=by simpa[c1]using hj
  exact⟨o,ho,MQ (λa'' w'' ⟨b',c,d,e⟩=>⟨c.trans d,Uk c _ _ _ _ (Sn hw hsel t _ b' _ _ hk (inv.set hr hlt) c4 d e)⟩) (hX w' hx)⟩
 | .h2 i t j u,listed,b,a,w,hk,inv,hc,hb,h=>by
  simp only[Ay,ZA,beq_iff_eq]at hc;obtain⟨⟨⟨⟨⟨⟨c1,c3⟩,c3'⟩,c5⟩,c6⟩,c4⟩,c4'⟩:=hc;obtain⟨⟨o,ho,hX⟩,⟨o',ho',hX'⟩⟩:=h;have hr:i∈Region.ready .any ops listed:=by simp[c1]
  have hr':j∈Region.ready .any ops listed:=by simp[c1]
  have hlt:i<k:=by rw[<- hk];exact Sl c3
  have hlt':j<k:=by rw[<- hk];exact Sl c3'
  have hk':u.last=k:=by rw[<- c6];exact hk
  refine⟨by simp[c1],λw' hx l hl=>?_⟩;have hl':l=i\/l=j:=by simpa[c1]using hl
  rcases hl' with rfl | rfl
  ·exact⟨o,ho,MQ (λa'' w'' ⟨b',c,d,e⟩=>⟨c.trans d,Uk c _ _ _ _ (Sn hw hsel t _ b' _ _ hk (inv.set hr hlt) c4 d e)⟩) (hX w' hx)⟩
  ·refine⟨o',ho',MQ (λa'' w'' ⟨b',c,d,e⟩=>⟨c.trans d,?_⟩) (hX' w' hx)⟩;have:=Uk c _ _ _ _ (Sn hw hsel u _ b' _ _ hk' (inv.set hr' hlt') c4' d e)
   show Y P ops Q k b t.count _ _ _
   rw[c5];exact this
 | .h3 i t j u m v,listed,b,a,w,hk,inv,hc,hb,h=>by
  simp only[Ay,ZA,beq_iff_eq]at hc;obtain⟨⟨⟨⟨⟨⟨⟨⟨⟨⟨c1,c3⟩,c3'⟩,c3''⟩,c5⟩,c6⟩,c7⟩,c8⟩,c4⟩,c4'⟩,c4''⟩:=hc;obtain⟨⟨o,ho,hX⟩,⟨o',ho',hX'⟩,⟨o'',ho'',hX''⟩⟩:=h;have hr:i∈Region.ready .any ops listed:=by simp[c1]
  have hr':j∈Region.ready .any ops listed:=by simp[c1]
  have hr'':m∈Region.ready .any ops listed:=by simp[c1]
  have hlt:i<k:=by rw[<- hk];exact Sl c3
  have hlt':j<k:=by rw[<- hk];exact Sl c3'
  have hlt'':m<k:=by rw[<- hk];exact Sl c3''
  have hk':u.last=k:=by rw[<- c6];exact hk
  have hk'':v.last=k:=by rw[<- c8];exact hk
  refine⟨by simp[c1],λw' hx l hl=>?_⟩;have hl':l=i\/l=j\/l=m:=by simpa[c1]using hl
  rcases hl' with rfl | rfl | rfl
  ·exact⟨o,ho,MQ (λa'' w'' ⟨b',c,d,e⟩=>⟨c.trans d,Uk c _ _ _ _ (Sn hw hsel t _ b' _ _ hk (inv.set hr hlt) c4 d e)⟩) (hX w' hx)⟩
  ·refine⟨o',ho',MQ (λa'' w'' ⟨b',c,d,e⟩=>⟨c.trans d,?_⟩) (hX' w' hx)⟩;have:=Uk c _ _ _ _ (Sn hw hsel u _ b' _ _ hk' (inv.set hr' hlt') c4' d e)
   show Y P ops Q k b t.count _ _ _
   rw[c5];exact this
  ·refine⟨o'',ho'',MQ (λa'' w'' ⟨b',c,d,e⟩=>⟨c.trans d,?_⟩) (hX'' w' hx)⟩;have:=Uk c _ _ _ _ (Sn hw hsel v _ b' _ _ hk'' (inv.set hr'' hlt'') c4'' d e)
   show Y P ops Q k b t.count _ _ _
   rw[c7];exact this
theorem Sp:∀(m k:Nat) (listed:Array Bool) (a:Act) (w:World),chainB ops m k listed=true->wpOps P ops Q (Zy k m) a w->wpAny P .any ops Q m listed a w
 | 0,k,listed,a,w,h,hw=>by
  simp only[chainB,beq_iff_eq]at h;exact⟨h,by simpa[wpOps]using hw⟩
 | m+1,k,listed,a,w,h,hw=>by
  simp only[chainB,ZA,beq_iff_eq]at h;refine wpAny_all h.1 Rg λi hi=>?_;obtain rfl:i=k:=by simpa using hi
  rw[List.range'_succ,wpOps_cons]at hw;exact wpOp_mono (λa' w' h'=>Sp m (i+1) _ a' w' h.2 h') hw
theorem XR[Dr]{k:Nat}{b:World}:∀(m:Nat) (listed:Array Bool) (a:Act) (w:World),Y P ops Q k b m listed a w->wpAny P .any ops Q (m+(ops.size - k)) listed a w
 | 0,listed,a,w,h=>by rw[Q8];exact Sp _ k listed a w h.1 (h.2 w (Ext.refl w))
 | m+1,listed,a,w,h=>by
  rw[show m+1+(ops.size - k)=(m+(ops.size - k))+1 by omega];refine⟨λc=>absurd c h.1,λi hi=>?_⟩;obtain⟨o,ho,hx⟩:=h.2 w (Ext.refl w) i hi;exact AbN ho (MQ (λa' w' h'=>XR m _ a' w' h'.2) hx)
def Qqq(k:Nat):HeadInv .any ops k (Ke ops.size false):=
 ⟨by simp,(λj oj _ hl=>by rw[getD_replicate_false]at hl;cases hl),λt _ ht=>by simp[ht]⟩
def XS(l:List Oper)(t:Tr):Bool:=
 Region.noSelect l.toArray&&(Nat.ble l.length t.last||(Region.sinkB .any l.toArray t.last&&Region.chainB .any l.toArray t.last))&&Ay l.toArray t (Ke l.length false)&&SC (t.count+(l.length - t.last)) l.length
def MR[Dr]{w:World}:Ext w {w with drawn:=w.drawn+1}:=⟨⟨Z,Z,Z,KN _,λ_ _=>Z⟩,λ_=>Nat.le_succ _⟩
def AgM[Dr]{id:Nat}{l:List Oper}{a:Act}{w:World}(t:Tr)(hm:P.follows .mixedOrders=true)(hc:XS l t=true)(h:X P l.toArray Q t {w with drawn:=w.drawn+1} a {w with drawn:=w.drawn+1}):(Code.region id l.toArray true).wp P Q a w:=by
 simp only[XS,ZA,Bool.or_eq_true]at hc;obtain⟨⟨⟨c1,c2⟩,c3⟩,c4⟩:=hc
 have hw:V5 l.toArray t.last:=AgL (by
  rcases c2 with c2 | c2
  ·left;simpa[Nat.ble_eq]using c2
  ·right;exact c2)
 have hlen:=LJ c4;have hY:=Sn hw (Region.noSelect_spec c1) t (Ke l.toArray.size false) _ a _ Z (Qqq _) (by simpa using c3) (Ext.refl _) h;have:=XR _ _ _ _ hY;refine wp_region_any hm ?_;have e:t.count+(l.toArray.size - t.last)=l.toArray.size:=by simpa using hlen
 rw[e]at this;exact this
end
def G6:List Oper->Nat->Option Oper
 | [],_=>none
 | o::_,0=>TI o
 | _::l,i+1=>G6 l i
theorem Fx:∀(l:List Oper) (i:Nat),G6 l i=l[i]?
 | [],_=>rfl
 | _::_,0=>rfl
 | _::l,i+1=>by simpa[G6]using Fx l i
def ZF:Nat->List Oper->List Oper
 | 0,l=>l
 | _+1,[]=>[]
 | k+1,_::l=>ZF k l
theorem AbP:∀(k:Nat) (l:List Oper),ZF k l=l.drop k
 | 0,_=>by simp[ZF]
 | _+1,[]=>by simp[ZF]
 | k+1,_::l=>by simpa[ZF]using AbP k l
def D[Dr](P:Program)(n:Sz)(l:List Oper)(Q:Exit->Act->World->Prop)(t:Tr)(L:ZC)(w:World):Prop:=∀a,Fr n a L->X P l.toArray Q t w a w
def AY[Dr](P:Program)(L:ZC)(w:World)(op:Op)(ty:TypeId)(v:Value):Prop:=
 ∀w',Ext w w'->∀ρ,Xm L ρ->∀dst pos af g,(execOp ρ ⟨dst,op,ty,pos,af,g⟩).run P w'=.ok (.value v) w'
section
variable {P:Program}{n:Sz}{l:List Oper}{Q:Exit->Act->World->Prop}{L:ZC}{w:World}{t u:Tr}{i j:Nat}
 {d:Nat}{op:Op}{ty:TypeId}{pos:String}{af:Array Edge}{y:Code}
def Aew[Dr]{id:Nat}(t:Tr)(hm:P.follows .mixedOrders=true)(hc:XS l t=true)(h:D P n l Q t L {w with drawn:=w.drawn+1}):W P n (.region id l.toArray true) Q L w:=
 λa fr=>AgM t hm hc (h a fr)
def BF[Dr]{id:Nat}(t:Tr)(hm:P.follows .mixedOrders=true)(hc:XS l t=true)(h:∀w',Ext w w'->D P n l (Si P y Q) t L w'):W P n (.seq (.region id l.toArray true) y) Q L w:=
 PW (Aew t hm hc (h _ MR))
def P8[Dr]{id:Nat}(t:Tr)(hm:P.follows .mixedOrders=true)(hc:XS l t=true)(h:∀w',Ext w w'->D P n l Q t L w'):W P n (.region id l.toArray true) Q L w:=
 Aew t hm hc (h _ MR)
def Bh[Dr]{v:Value}(ho:G6 l i=TI ⟨TI d,op,ty,pos,af,none⟩)(hr:AY P L w op ty v)(hn:Uu d n.n=true)(h:D P n l Q t ((d,v)::L) w):D P n l Q (.q i t) L w:=λa fr=>by
 refine⟨_,v,by rw[Fx]at ho;simpa using ho,.inl ⟨by simp[Region.wanted],λw' hx=>?_⟩,h _ (fr.put hn)⟩;rw[hr w' hx _ fr.Wz];exact⟨Z,Z⟩
def Cr[Dr]{v:Value}{j:Nat}{want b:Bool}{s:Nat}{oj:Oper}(ho:G6 l i=TI ⟨TI d,op,ty,pos,af,TI (j,want)⟩)(hr:AY P L w op ty v)(hj:G6 l j=TI oj)(hd:oj.dst=TI s)(hb:gt L s=TI (.bool b))(hw:b=want)(hn:Uu d n.n=true)
  (h:D P n l Q t ((d,v)::L) w):D P n l Q (.q i t) L w:=λa fr=>by
 have hj':l.toArray[j]? = TI oj:=by rw[Fx]at hj;simpa using hj
 have hy:yielded l.toArray a.tmps j=TI b:=by simp only[yielded,hj',Wo,hd,fr.get s _ hb]
 refine⟨_,v,by rw[Fx]at ho;simpa using ho,.inl ⟨by simp[Region.wanted,hy,hw],λw' hx=>?_⟩,h _ (fr.put hn)⟩;rw[hr w' hx _ fr.Wz];exact⟨Z,Z⟩
def Mm[Dr]{j:Nat}{want b:Bool}{s:Nat}{oj:Oper}(ho:G6 l i=TI ⟨TI d,op,ty,pos,af,TI (j,want)⟩)(hj:G6 l j=TI oj)(hd:oj.dst=TI s)(hb:gt L s=TI (.bool b))(hw:b = !want)(hn:Uu d n.n=true)
  (h:D P n l Q t ((d,undef)::L) w):D P n l Q (.q i t) L w:=λa fr=>by
 have hj':l.toArray[j]? = TI oj:=by rw[Fx]at hj;simpa using hj
 have hy:yielded l.toArray a.tmps j=TI b:=by simp only[yielded,hj',Wo,hd,fr.get s _ hb]
 exact⟨_,undef,by rw[Fx]at ho;simpa using ho,.inr ⟨by simp[Region.wanted,hy,hw],Z⟩,h _ (fr.put hn)⟩
def Pc[Dr]{j:Nat}{want:Bool}{s:Nat}{oj:Oper}(ho:G6 l i=TI ⟨TI d,op,ty,pos,af,TI (j,want)⟩)(hj:G6 l j=TI oj)(hd:oj.dst=TI s)(hb:gt L s=TI undef)(hn:Uu d n.n=true)
  (h:D P n l Q t ((d,undef)::L) w):D P n l Q (.q i t) L w:=λa fr=>by
 have hj':l.toArray[j]? = TI oj:=by rw[Fx]at hj;simpa using hj
 have hy:yielded l.toArray a.tmps j=none:=by simp only[yielded,hj',Wo,hd,fr.get s _ hb,undef]
 exact⟨_,undef,by rw[Fx]at ho;simpa using ho,.inr ⟨by simp[Region.wanted,hy],Z⟩,h _ (fr.put hn)⟩
def Az[Dr]{v:Value}(h:pu L op=TI v):AY P L w op ty v:=λ_ _ ρ hρ dst pos af _=>AgJ (dst:=dst) (pos:=pos) (af:=af) h ρ hρ
def puD(n:Sz)(l:List Oper):Nat->Tr->ZC->Option (Tr×ZC)
 | 0,t,L=>TI (t,L)
 | k+1,.q i t,L=>match G6 l i with
  | some ⟨some d,op,_,_,_,none⟩=>match pu L op with
   | some v=>bif Uu d n.n then puD n l k t ((d,v)::L)else none
   | none=>none
  | _=>none
 | _+1,_,_=>none
theorem Alc[Dr]:∀(k:Nat) {t t':Tr}{L L':ZC},puD n l k t L=TI (t',L')->D P n l Q t' L' w->D P n l Q t L w
 | 0,t,t',L,L',h,hD=>by simp only[puD,Option.some.injEq,Prod.mk.injEq]at h;obtain⟨rfl,rfl⟩:=h;exact hD
 | k+1,.tail _,t',L,L',h,hD=>by simp only[puD,reduceCtorEq]at h
 | k+1,.h _ _,t',L,L',h,hD=>by simp only[puD,reduceCtorEq]at h
 | k+1,.h2 _ _ _ _,t',L,L',h,hD=>by simp only[puD,reduceCtorEq]at h
 | k+1,.h3 _ _ _ _ _ _,t',L,L',h,hD=>by simp only[puD,reduceCtorEq]at h
 | k+1,.q i t,t',L,L',h,hD=>by
  simp only[puD]at h
  split at h
  ·rename_i d op ty pos af ho
   split at h
   ·rename_i v hv
    cases hd:Uu d n.n with
    | false=>rw[hd]at h;cases h
    | true=>rw[hd]at h;exact Bh ho (Az hv) hd (Alc k h hD)
   ·cases h
  ·cases h
def Br[Dr](k:Nat){t t':Tr}{L L':ZC}(h:puD n l k t L=TI (t',L'))(hD:D P n l Q t' L' w):D P n l Q t L w:=Alc k h hD
def DY[Dr]{f:FuncId}{args:List Operand}{vs:LR}{at_:Array TypeId}{v:Value}(ho:G6 l i=TI ⟨TI d,.call ⟨.value (.func f),args.toArray,at_⟩,ty,pos,af,none⟩)(ha:U8 L args=TI vs)(hn:Uu d n.n=true)
  (hok:∀w',Ext w w'->Ok P f vs w' (λu w''=>Ext w' w''/\u=v)) (h:D P n l Q t ((d,v)::L) w):D P n l Q (.q i t) L w:=λa fr=>by
 refine⟨_,v,by rw[Fx]at ho;simpa using ho,.inl ⟨by simp[Region.wanted],λw' hx=>?_⟩,h _ (fr.put hn)⟩;rw[KU (hok w' hx).1 ha _ fr.Wz];exact⟨Z,(hok w' hx).2.mono λe w'' ⟨u,he,hx',hu⟩=>⟨by rw[he,hu],hx'⟩⟩
def MC[Dr]{f:FuncId}{args:List Operand}{vs:LR}{at_:Array TypeId}{v:Value}{j:Nat}{want b:Bool}{s:Nat}{oj:Oper}(ho:G6 l i=TI ⟨TI d,.call ⟨.value (.func f),args.toArray,at_⟩,ty,pos,af,TI (j,want)⟩)
  (hj:G6 l j=TI oj) (hd:oj.dst=TI s) (hb:gt L s=TI (.bool b)) (hw:b=want) (ha:U8 L args=TI vs) (hn:Uu d n.n=true)
  (hok:∀w',Ext w w'->Ok P f vs w' (λu w''=>Ext w' w''/\u=v)) (h:D P n l Q t ((d,v)::L) w):D P n l Q (.q i t) L w:=λa fr=>by
 have hj':l.toArray[j]? = TI oj:=by rw[Fx]at hj;simpa using hj
 have hy:yielded l.toArray a.tmps j=TI b:=by simp only[yielded,hj',Wo,hd,fr.get s _ hb]
 refine⟨_,v,by rw[Fx]at ho;simpa using ho,.inl ⟨by simp[Region.wanted,hy,hw],λw' hx=>?_⟩,h _ (fr.put hn)⟩;have hrun:=KU (P:=P) (w:=w') (ty:=ty) (pos:=pos) (af:=af) (at_:=at_) (dst:=TI d) (hok w' hx).1 ha _ fr.Wz;have e:execOp a.eval ⟨TI d,.call ⟨.value (.func f),args.toArray,at_⟩,ty,pos,af,TI (j,want)⟩=execOp a.eval ⟨TI d,.call ⟨.value (.func f),args.toArray,at_⟩,ty,pos,af,none⟩:=Z;rw[e,hrun];exact⟨Z,(hok w' hx).2.mono λe w'' ⟨u,he,hx',hu⟩=>⟨by rw[he,hu],hx'⟩⟩
def BK[Dr]{f:FuncId}{args:List Operand}{vs:LR}{at_:Array TypeId}{R:World->Value->World->Prop}(ho:G6 l i=TI ⟨TI d,.call ⟨.value (.func f),args.toArray,at_⟩,ty,pos,af,none⟩)(ha:U8 L args=TI vs)(hn:Uu d n.n=true)
  (hok:∀w',Ext w w'->Ok P f vs w' (λu w''=>Ext w' w''/\R w' u w'')) (h:∀w' v w'',Ext w w'->Ext w' w''->R w' v w''->D P n l Q t ((d,v)::L) w''):D P n l Q (.h i t) L w:=λa fr=>by
 refine⟨_,by rw[Fx]at ho;simpa using ho,λw' hx=>?_⟩;unfold opx;rw[Xu (by simp[Region.wanted]),KU (hok w' hx).1 ha _ fr.Wz];exact(hok w' hx).2.mono λe w'' ⟨v,he,b,h2⟩=>⟨v,he,w'',hx.trans b,Ext.refl _,h w' v w'' hx b h2 _ (fr.put hn)⟩
def WT[Dr](R:World->Value->World->Prop)(ho:G6 l i=TI ⟨TI d,op,ty,pos,af,none⟩)(hn:Uu d n.n=true)
  (hok:∀w',Ext w w'->∀ρ,Xm L ρ->∃v w'',(execOp ρ ⟨TI d,op,ty,pos,af,none⟩).run P w'=.ok (.value v) w''/\Ext w' w''/\R w' v w'') (h:∀w' v w'',Ext w w'->Ext w' w''->R w' v w''->D P n l Q t ((d,v)::L) w''):D P n l Q (.h i t) L w:=λa fr=>by
 refine⟨_,by rw[Fx]at ho;simpa using ho,λw' hx=>?_⟩;obtain⟨v,w'',hrun,b,h2⟩:=hok w' hx _ fr.Wz;unfold opx;rw[Xu (by simp[Region.wanted]),hrun];exact⟨w'',hx.trans b,Ext.refl _,h w' v w'' hx b h2 _ (fr.put hn)⟩
def VS[Dr](b:D P n l Q (.h i t) L w)(h2:D P n l Q (.h j u) L w):D P n l Q (.h2 i t j u) L w:=λa fr=>⟨b a fr,h2 a fr⟩
def AnL[Dr]{m:Nat}{v:Tr}(b:D P n l Q (.h i t) L w)(h2:D P n l Q (.h j u) L w)(h3:D P n l Q (.h m v) L w):D P n l Q (.h3 i t j u m v) L w:=λa fr=>⟨b a fr,h2 a fr,h3 a fr⟩
def AT[Dr]{k:Nat}(h:∀w',Ext w w'->S P n l.toArray Q (ZF k l) L w'):D P n l Q (.tail k) L w:=λa fr=>λw' hx=>by
 have:=h w' hx a fr;rw[AbP]at this;have e:=wpOps_eq_wpList (P:=P) (ops:=l.toArray) (Q:=Q) (l.drop k) k (λj=>by simp);rw[U1]at e
 show wpOps P l.toArray Q (Zy k (l.toArray.size - k)) a w'
 rw[N6,e];exact this
def FX[Dr](s:Nat){b:Bool}(_hb:gt L s=TI (.bool b))(a:b=true->D P n l Q t L w)(h2:b=false->D P n l Q t L w):D P n l Q t L w:=by
 cases b
 ·exact h2 Z
 ·exact a Z
def Cu{ops:Array Oper}{rest:List Oper}{s:Nat}{b:Bool}(_hb:gt L s=TI (.bool b))(a:b=true->S P n ops Q rest L w)(h2:b=false->S P n ops Q rest L w):S P n ops Q rest L w:=by
 cases b
 ·exact h2 Z
 ·exact a Z
def CA[Dr]{c x y:Operand}{b:Bool}{v:Value}[hc:V9 (ev L c) (TI (.bool b))](hb:b=true)(hx:ev L x=TI v):AY P L w (.pick c x y) ty v:=λw' _ ρ hρ dst pos af g=>by
 subst hb;simp[execOp,hρ c _ hc.e,hρ x _ hx,asBool]
def B4[Dr]{c x y:Operand}{b:Bool}{v:Value}[hc:V9 (ev L c) (TI (.bool b))](hb:b=false)(hx:ev L y=TI v):AY P L w (.pick c x y) ty v:=λw' _ ρ hρ dst pos af g=>by
 subst hb;simp[execOp,hρ c _ hc.e,hρ y _ hx,asBool]
def AJ[Dr]{ops:Array Oper}{rest:List Oper}{v:Value}(hr:AY P L w op ty v)[hn:V9 (Uu d n.n) true](h:S P n ops Q rest ((d,v)::L) w):S P n ops Q (⟨TI d,op,ty,pos,af,none⟩::rest) L w:=
 Dy hn.e (fun ρ hρ=>hr w (Ext.refl w) ρ hρ _ _ _ _) h
end
def Zr(P:Program)(t:TypeId)(z:Value)(sz bt:Nat):Prop:=(P.info? t).map (λi=>(i.zero,i.size,i.bytes))=TI (TI z,sz,bt)
class Qqz(P:Program)(t:TypeId)(z:outParam Value)(s b:outParam Nat):Prop where e:Zr P t z s b
theorem Zr.parts{P:Program}{t:TypeId}{z:Value}{sz bt:Nat}(h:Zr P t z sz bt):∃i,P.info? t=TI i/\i.zero=TI z/\i.size=sz/\i.bytes=bt:=by
 unfold Zr at h
 cases hi:P.info? t with
 | none=>rw[hi]at h;cases h
 | some i=>rw[hi]at h;simp at h;exact⟨i,Z,h.1,h.2.1,h.2.2⟩
def Ul:TypeDesc->Bool
 | .struct _ | .array _ _=>false
 | _=>true
def Zu:TypeDesc->Bool
 | .struct _ | .array _ _=>true
 | _=>false
def Ba:List Bv->Nat->Option Bv
 | [],_=>none
 | r::_,0=>TI r
 | _::l,i+1=>Ba l i
def Ci:List Bv->Nat->Bv->List Bv
 | [],_,_=>[]
 | _::l,0,s=>s::l
 | r::l,i+1,s=>r::Ci l i s
def LQ:List Bv->Nat->List Bv
 | [],_=>[]
 | _::l,0=>l
 | r::l,i+1=>r::LQ l i
theorem DF:∀{O:List Bv}{i:Nat}{r:Bv},Ba O i=TI r->O.Perm (r::LQ O i)
 | r::l,0,s,h=>by simp only[Ba,Option.some.injEq]at h;subst h;exact List.Perm.refl _
 | r::l,i+1,s,h=>((DF (O:=l) (i:=i) h).cons r).trans (List.Perm.swap _ _ _)
theorem XT:∀{O:List Bv}{i:Nat}{r:Bv} (s:Bv),Ba O i=TI r->(Ci O i s).Perm (s::LQ O i)
 | _r::_l,0,_,_s,_h=>List.Perm.refl _
 | r::l,i+1,_,s,h=>((XT (O:=l) (i:=i) s h).cons r).trans (List.Perm.swap _ _ _)
section
variable {w0 w w':World}{O:List Bv}{r r':Bv}{i:Nat}
def AB.at[Dr](h:AB w0 O w)(hi:Ba O i=TI r):r.ok w:=h.res r ((DF hi).mem_iff.2 (.head _))
def AB.KV[Dr](h:AB w0 O w)(hi:Ba O i=TI r)(hdr:w.drawn<=w'.drawn)(hg:w.grownBy w' r.block)(hok:r'.ok w')(hb:∀b,r'.block=TI b->r.block=TI b\/w.heap.size<=b):AB w0 (Ci O i r') w':=
 ((h.perm (DF hi).symm).AnK hdr hg hok hb).perm (XT r' hi)
def ES[Dr](h:AB w0 O w)(hi:Ba O i=TI r)(hg:w.grownBy w' r.block)(hb:∀b,r'.block=TI b->r.block=TI b\/w.heap.size<=b):Le (fz w O) (fz w' (Ci O i r')):=by
 rw[Js (XT r' hi),Js (DF hi)];exact Ajy (h.perm (DF hi).symm) hg hb
def AB.Aa3[Dr](h:AB w0 O w)(hi:Ba O i=TI r):AB w0 (LQ O i) w:=(h.perm (DF hi).symm).drop
def PY(hi:Ba O i=TI r):Le (fz w O) (fz w (LQ O i)):=by
 rw[Js (DF hi)];exact Ajx
def AB.aT[Dr](h:AB w0 O w)(i:Nat)(hi:Ba O i=TI r):r.ok w:=h.at hi
def AB.dT[Dr](h:AB w0 O w)(i:Nat)(hi:Ba O i=TI r):AB w0 (LQ O i) w:=h.Aa3 hi
def fz_dT(i:Nat)(hi:Ba O i=TI r):Le (fz w O) (fz w (LQ O i)):=PY hi
def XU{k:Nat}(hi:Ba O i=TI r)(hb:r.block=TI k)(hdis:O.Pairwise λr s=>∀b,r.block=TI b->s.block≠TI b):fz w (LQ O i) k=w.heap[k]?:=by
 unfold fz;rw[Pb];intro ho;obtain⟨s,hs,e⟩:=CR.1 ho;have:=(DF hi).pairwise hdis (λ{x y} hxy b hb hx=>hxy b hx hb);exact(QU.1 this).1 s hs k hb e
end
section
variable {P:Program}{n:Sz}{ops:Array Oper}{Q:Exit->Act->World->Prop}{L:ZC}{w w0:World}{O:List Bv}{rest:List Oper}
 {d:Nat}{ty:TypeId}{pos:String}{af:Array Edge}{α:Type}{r:Rp α}{H:PH}{x y:Operand}{v:Value}{t e:TypeId}
def W2[Dr]{l:List α}[hx:V9 (ev L x) (TI v)][ht:V9 (P.underlying t) (TI (.slice e))](hv:As r H v l):AY P L w (.call ⟨.builtin .len,#[x],#[t]⟩) ty (.int .i64 (l.length:Int)):=by
 obtain⟨a,cap,rfl⟩:=hv.header;intro w' _ ρ hρ dst pos af g;simp[execOp,resolve,hρ x _ hx.e,invoke,builtin,Builtin.len_,run_underlying ht.e,goInt]
def XV[Dr]{a:Option Addr}{m cap:Nat}(hx:ev L x=TI (.slice a m cap))[ht:V9 (P.underlying t) (TI (.slice e))]:AY P L w (.call ⟨.builtin .len,#[x],#[t]⟩) ty (.int .i64 (m:Int)):=by
 intro w' _ ρ hρ dst pos af g;simp[execOp,resolve,hρ x _ hx,invoke,builtin,Builtin.len_,run_underlying ht.e,goInt]
def O0{b sz m:Nat}{xs:LR}(h:w.ownsRow b e sz v m xs):∃a cap,v=.slice a m cap:=by
 rcases h.2 with ⟨rfl,hn⟩ | ⟨g,cap,cur,rfl,_⟩
 ·exact⟨none,0,by rw[hn]⟩
 ·exact⟨_,_,Z⟩
def O1[Dr](i:Nat){sz m:Nat}{xs:LR}{e':TypeId}(hx:ev L x=TI v)[ht:V9 (P.underlying t) (TI (.slice e))](hL:AB w0 O w)(hi:Ba O i=TI (.row v e' sz m xs)):AY P L w (.call ⟨.builtin .len,#[x],#[t]⟩) ty (.int .i64 (m:Int)):=by
 obtain⟨a,cap,rfl⟩:=O0 (hL.at hi);exact XV hx (ht:=⟨ht.e⟩)
def Jt{A:Addr}(h:A.spot=none)(i j:Nat):(A.add i).add j=A.add (i+j):=by
 obtain⟨b,o,s⟩:=A
 cases h
 simp[Addr.add_lit,Nat.add_assoc]
def MD{A:Addr}(h:A.spot=none)(i:Nat):(A.add i).spot=none:=by
 obtain⟨b,o,s⟩:=A
 cases h
 simp[Addr.add_lit]
def Gp.add{p:Addr}{c:LR}(h:Gp H p c)(k:Nat):Gp H (p.add k) (c.drop k):=
 ⟨MD h.1 k,λj u hu=>by rw[Jt h.1];exact h.2 (k+j) u (by simpa using hu)⟩
def Gp.mono{H':PH}{p:Addr}{c:LR}(h:Gp H p c)(hs:Le H H'):Gp H' p c:=⟨h.1,λj u hu=>Hq hs (h.2 j u hu)⟩
theorem As.ptr{l:List α}(hv:As r H v l)(m:Nat){z:α}(hl:l[m]? = TI z):∃(a:Addr) (cap:Nat) (c:LR),v=.slice (TI a) l.length cap/\r.rel H z c/\Gp H (a.add (m * r.sz)) c:=by
 obtain⟨a,cap,b,h2,h3,d,f⟩:=hv.ex;have hlt:m<l.length:=(Z9.1 hl).1
 cases a with
 | none=>have:=d Z;omega
 | some A=>
  obtain⟨hs,hh⟩:=f A Z (λe=>by subst e;simp at hlt);obtain⟨c,hc,hcell⟩:=hh m z hl;exact⟨A,cap,c,b,hc,MD hs _,λj u hu=>by rw[Jt hs];exact hcell j u hu⟩
def Aa4[Dr]{l:List α}{k:IntKind}{i:Int}{zz:Value}{bt:Nat}(hx:ev L x=TI v)(hy:ev L y=TI (.int k i))(ht:P.underlying t=TI (.slice e))(he:Zr P e zz r.sz bt)(hv:As r H v l)(m:Nat)(hm:i=(m:Int)){z:α}(hl:l[m]? = TI z):
  ∃p c,r.rel H z c/\Gp H p c/\∀w,AY P L w (.indexAddr t x y) ty (.pointer (TI p)):=by
 obtain⟨a,cap,c,rfl,hc,hp⟩:=hv.ptr m hl;refine⟨_,c,hc,hp,λw w' _ ρ hρ dst pos af g=>?_⟩;obtain⟨inf,b,h2,h3,d⟩:=he.parts;have hlt:m<l.length:=(Z9.1 hl).1;subst hm;have f:(0:Int)<=(m:Int)/\(m:Int)<(l.length:Int):=by omega
 simp[execOp,hρ x _ hx,hρ y _ hy,Instr.indexAt,asIntOf,run_underlying ht,sizeOf,typeInfo,b,h3,hlt]
def B5[Dr]{p:Addr}{u:Value}{c:LR}{dd:TypeDesc}[hx:V9 (ev L x) (TI (.pointer (TI p)))][ht:V9 (P.underlying t) (TI dd)][hd:V9 (Ul dd) true](hp':Gp H p (u::c))(hs:Le H (hp w)):AY P L w (.load t x) ty u:=by
 have hd:=hd.e
 intro w' hw ρ hρ dst pos af g
 have hcell:w'.cell? p=TI u:=by
  have:=hp'.2 0 u Rg;rw[Addr.add_zero']at this;exact cell_of (hs.ext hw) this
 cases dd <;> simp only[Ul,SQ]at hd <;>
  simp[execOp,hρ x _ hx.e,Instr.loadAt,Instr.sureAddr,loadVar,isAgg,run_underlying ht.e,hcell]
theorem run_loadCellsFrom{p:Addr}(w:World):∀(m i:Nat) (c:LR) (acc:Array Value),c.length=m->(∀j u,c[j]? = TI u->w.cell? (p.add (i+j))=TI u)->
  (loadCellsFrom p i m acc).run P w=.ok (acc++c.toArray) w
 | 0,i,c,acc,hl,_=>by
  have:c=[]:=Vu hl;subst this;simp[loadCellsFrom]
 | m+1,i,[],acc,hl,_=>by simp at hl
 | m+1,i,u::c,acc,hl,h=>by
  have a:w.cell? (p.add i)=TI u:=by simpa using h 0 u Rg
  have ih:=run_loadCellsFrom w m (i+1) c (acc.push u) (by simpa using hl) (λj v hv=>by have:=h (j+1) v (by simpa using hv);rwa [show i+(j+1)=i+1+j from by omega]at this);simp[loadCellsFrom,a,ih]
def AU[Dr]{p:Addr}{c:LR}{dd:TypeDesc}{zz:Value}{bt:Nat}[hx:V9 (ev L x) (TI (.pointer (TI p)))][ht:V9 (P.underlying t) (TI dd)][hd:V9 (Zu dd) true][hz:Qqz P t zz c.length bt](hp':Gp H p c)(hs:Le H (hp w)):AY P L w (.load t x) ty (.agg c.toArray):=by
 have hd:=hd.e
 intro w' hw ρ hρ dst pos af g;obtain⟨inf,a,h2,h3,b⟩:=hz.e.parts;have hload:=run_loadCellsFrom (P:=P) (p:=p) w' c.length 0 c #[] Z (λj u hu=>by rw[Q8];exact cell_of (hs.ext hw) (hp'.2 j u hu))
 cases dd <;> simp only[Zu,SQ]at hd <;>
  simp[execOp,hρ x _ hx.e,Instr.loadAt,Instr.sureAddr,loadVar,isAgg,run_underlying ht.e,loadCells,sizeOf,typeInfo,a,h3,hload]
def Aj1[Dr]{p:Addr}{fs:Array Field}{f:Nat}{fd:Field}{zz:Value}{sz bt:Nat}(hx:ev L x=TI (.pointer (TI p)))(ht:P.underlying t=TI (.struct fs))(hf:fs[f]? = TI fd)(hz:Zr P fd.type zz sz bt)(hne:sz≠0):
  AY P L w (.fieldAddr t x f) ty (.pointer (TI (p.add fd.offset))):=by
 intro w' hw ρ hρ dst pos af g;obtain⟨inf,a,h2,h3,b⟩:=hz.parts;simp[execOp,hρ x _ hx,Instr.fieldAt,run_underlying ht,hf,Instr.sureAddr,fieldPlace,sizeOf,typeInfo,a,h3,hne]
def A7[Dr]{p:Addr}{fs:Array Field}{f:Nat}{fd:Field}{zz:Value}{sz bt:Nat}(hx:ev L x=TI (.pointer (TI p)))(ht:P.underlying t=TI (.struct fs))(hf:fs[f]? = TI fd)(hz:Zr P fd.type zz sz bt)(hne:sz≠0:=by decide):
  AY P L w (.fieldAddr t x f) ty (.pointer (TI (p.add fd.offset))):=Aj1 hx ht hf hz hne
theorem As.sub{l:List α}(hv:As r H v l)(lo hi:Nat)(f:lo<=hi)(h2:hi<=l.length):∃a cap,v=.slice a l.length cap/\As r H (.slice (if cap=lo then a else a.map (·.add (lo * r.sz))) (hi - lo) (cap - lo)) ((l.drop lo).take (hi - lo)):=by
 obtain⟨a,cap,rfl,h2',h3,b,d⟩:=hv.ex;refine⟨a,cap,Z,?_⟩;have hlen:((l.drop lo).take (hi - lo)).length=hi - lo:=by simp;omega
 refine⟨_,cap - lo,by rw[hlen],by rw[hlen];omega,by omega,?_,?_⟩
 ·intro ha
  split at ha
  ·rename_i e;omega
  ·cases a with
   | none=>have:=b Z;omega
   | some A=>cases ha
 ·intro A hA hne
  have hpos:lo<hi:=by
   rcases TC lo hi with h | h
   ·exact h
   ·exfalso;apply hne;simp;omega
  rw[Pb U]at hA
  cases a with
  | none=>cases hA
  | some A0=>
   cases hA
   obtain⟨hs,hh⟩:=d A0 Z (λe=>by subst e;simp at h2;omega);refine⟨MD hs _,λi z hz=>?_⟩;rw[Tm]at hz
   split at hz
   ·rw[List.getElem?_drop]at hz;obtain⟨c,hc,hcell⟩:=hh (lo+i) z hz;refine⟨c,hc,λj u hu=>?_⟩;rw[Jt hs,show lo * r.sz+(i * r.sz+j)=(lo+i) * r.sz+j from by rw[Sc];omega];exact hcell j u hu
   ·cases hz
def loB(L:ZC)(lo:Option Operand)(a:Nat):Prop:=match lo with | some o=>∃k,ev L o=some (.int k (a:Int)) | none=>a=0
def hiB(L:ZC)(hi:Option Operand)(b m:Nat):Prop:=match hi with | some o=>∃k,ev L o=some (.int k (b:Int)) | none=>b=m
theorem Aa5[Dr]{l:List α}{lo hi:Option Operand}{zz:Value}{bt:Nat}(hx:ev L x=TI v)(ht:P.underlying t=TI (.slice e))(he:Zr P e zz r.sz bt)(hv:As r H v l)(a b:Nat)
  (ha:loB L lo a) (hb:hiB L hi b l.length) (f:a<=b) (h2:b<=l.length) :
  ∃v',As r H v' ((l.drop a).take (b - a))/\∀w,AY P L w (.slice t x lo hi none) ty v':=by
 obtain⟨A,cap,d,hsub⟩:=hv.sub a b f h2;refine⟨_,hsub,λw w' _ ρ hρ dst pos af g=>?_⟩;obtain⟨inf,c,u,j,y⟩:=he.parts;obtain⟨A',cap',k,o,p,q,s⟩:=hv.ex;have hcc:cap=cap':=by rw[d]at k;cases k;rfl
 have hbc:b<=cap:=by omega
 subst d;have z:(b:Int)<=(cap:Int):=by omega
 have e3:(a:Int)<=(b:Int):=by omega
 cases lo with
 | none=>
  simp only[loB]at ha;subst ha
  cases hi with
  | none=>
   simp only[hiB]at hb;subst hb;simp[execOp,hρ x _ hx,Instr.sliceAt,run_underlying ht,Instr.slice,Instr.sliceBounds,sizeOf,typeInfo,c]
  | some i=>
   obtain⟨n,hb⟩:=hb;simp[execOp,hρ x _ hx,hρ i _ hb,Instr.sliceAt,run_underlying ht,Instr.slice,Instr.sliceBounds,Instr.sliceBound,asIntOf,sizeOf,typeInfo,c,hbc]
 | some m=>
  obtain⟨k1,ha⟩:=ha
  cases hi with
  | none=>
   simp only[hiB]at hb;subst hb;simp[execOp,hρ x _ hx,hρ m _ ha,Instr.sliceAt,run_underlying ht,Instr.slice,Instr.sliceBounds,Instr.sliceBound,asIntOf,sizeOf,typeInfo,c,j,f]
  | some i=>
   obtain⟨n,hb⟩:=hb;simp[execOp,hρ x _ hx,hρ m _ ha,hρ i _ hb,Instr.sliceAt,run_underlying ht,Instr.slice,Instr.sliceBounds,Instr.sliceBound,asIntOf,sizeOf,typeInfo,c,j,hbc,f]
def getD_some{β:Type}[Inhabited β]{l:List β}{m:Nat}(h:m<l.length):l[m]? = TI (l.getD m Qq7):=by simp[h]
def A1[Dr][Inhabited α]{l:List α}{k:IntKind}{i:Int}{zz:Value}{bt:Nat}[hx:V9 (ev L x) (TI v)][hy:V9 (ev L y) (TI (.int k i))][ht:V9 (P.underlying t) (TI (.slice e))][he:Qqz P e zz r.sz bt](hv:As r H v l)(m:Nat)(hm:i=(m:Int))(hlt:m<l.length)[hn:V9 (Uu d n.n) true]
  (h:∀p c,r.rel H (l.getD m Qq7) c->Gp H p c->S P n ops Q rest ((d,.pointer (TI p))::L) w):S P n ops Q (⟨TI d,.indexAddr t x y,ty,pos,af,none⟩::rest) L w:=by
 obtain⟨p,c,a,h2,h3⟩:=Aa4 (P:=P) (ty:=ty) hx.e hy.e ht.e he.e hv m hm (getD_some hlt);exact AJ (h3 w) (hn:=⟨hn.e⟩) (h p c a h2)
def Cj[Dr][Inhabited α]{lo:List Oper}{ix:Nat}{tr:Tr}{l:List α}{k:IntKind}{i:Int}{zz:Value}{bt:Nat}(ho:G6 lo ix=TI ⟨TI d,.indexAddr t x y,ty,pos,af,none⟩)(hx:ev L x=TI v)(hy:ev L y=TI (.int k i))(ht:P.underlying t=TI (.slice e))[he:Qqz P e zz r.sz bt](hv:As r H v l)(m:Nat)(hm:i=(m:Int))(hlt:m<l.length)(hn:Uu d n.n=true)
  (h:∀p c,r.rel H (l.getD m Qq7) c->Gp H p c->D P n lo Q tr ((d,.pointer (TI p))::L) w):D P n lo Q (.q ix tr) L w:=by
 obtain⟨p,c,a,h2,h3⟩:=Aa4 (P:=P) (ty:=ty) hx hy ht he.e hv m hm (getD_some hlt);exact Bh ho (h3 w) hn (h p c a h2)
def GP[Dr][Inhabited α]{lo:List Oper}{ix:Nat}{tr:Tr}{l:List α}{k:IntKind}{i:Int}{zz:Value}{bt j s:Nat}{want b:Bool}{oj:Oper}(ho:G6 lo ix=TI ⟨TI d,.indexAddr t x y,ty,pos,af,TI (j,want)⟩)(hj:G6 lo j=TI oj)(hd:oj.dst=TI s)(hb:gt L s=TI (.bool b))(hw:b=want)
  (hx:ev L x=TI v) (hy:ev L y=TI (.int k i)) (ht:P.underlying t=TI (.slice e)) [he:Qqz P e zz r.sz bt] (hv:As r H v l) (m:Nat) (hm:i=(m:Int)) (hlt:m<l.length) (hn:Uu d n.n=true)
  (h:∀p c,r.rel H (l.getD m Qq7) c->Gp H p c->D P n lo Q tr ((d,.pointer (TI p))::L) w):D P n lo Q (.q ix tr) L w:=by
 obtain⟨p,c,a,h2,h3⟩:=Aa4 (P:=P) (ty:=ty) hx hy ht he.e hv m hm (getD_some hlt);exact Cr ho (h3 w) hj hd hb hw hn (h p c a h2)
def Aa6[Dr]{l:List α}{lo hi:Option Operand}{zz:Value}{bt:Nat}(hx:ev L x=TI v)(ht:P.underlying t=TI (.slice e))(he:Zr P e zz r.sz bt)(hv:As r H v l)(a b:Nat)
  (ha:loB L lo a) (hb:hiB L hi b l.length) (hab:a<=b/\b<=l.length) (hn:Uu d n.n=true)
  (h:∀v',As r H v' ((l.drop a).take (b - a))->S P n ops Q rest ((d,v')::L) w):S P n ops Q (⟨TI d,.slice t x lo hi none,ty,pos,af,none⟩::rest) L w:=by
 obtain⟨v',c,h2⟩:=Aa5 (P:=P) (ty:=ty) hx ht he hv a b ha hb hab.1 hab.2;exact AJ (h2 w) (hn:=⟨hn⟩) (h v' c)
def Aj3[Dr]{lop:List Oper}{ix:Nat}{tr:Tr}{l:List α}{lo hi:Option Operand}{zz:Value}{bt:Nat}(ho:G6 lop ix=TI ⟨TI d,.slice t x lo hi none,ty,pos,af,none⟩)(hx:ev L x=TI v)(ht:P.underlying t=TI (.slice e))(he:Zr P e zz r.sz bt)(hv:As r H v l)(a b:Nat)
  (ha:loB L lo a) (hb:hiB L hi b l.length) (hab:a<=b/\b<=l.length) (hn:Uu d n.n=true)
  (h:∀v',As r H v' ((l.drop a).take (b - a))->D P n lop Q tr ((d,v')::L) w):D P n lop Q (.q ix tr) L w:=by
 obtain⟨v',c,h2⟩:=Aa5 (P:=P) (ty:=ty) hx ht he hv a b ha hb hab.1 hab.2;exact Bh ho (h2 w) hn (h v' c)
def As.one{l:List α}(h:As r H v l):v.oneCell'=true:=by obtain⟨a,c,rfl⟩:=h.header;rfl
end
end Go.E
namespace Go.E
open Go Go.RowKit
def JO:∀u∈([]:LR),u.oneCell'=true:=λ_ h=>by cases h
theorem AV{v:Value}{l:LR}(hv:v.oneCell'=true)(hl:∀u∈l,u.oneCell'=true):∀u∈v::l,u.oneCell'=true:=λu hu=>by
 cases hu with
 | head=>exact hv
 | tail _ h=>exact hl u h
theorem A6{l:LR}(h:l.map Value.oneCell'=l.map λ_=>true):∀u∈l,u.oneCell'=true:=by
 induction l with
 | nil=>exact JO
 | cons v l ih=>exact AV (List.cons.inj h).1 (ih (List.cons.inj h).2)
def C1[Dr](w:World)(o:Obj):Ext w (w.alloc o):=⟨(Below.refl _ _).alloc (KN _) o,λ_=>KN _⟩
def Sr[Dr]{w w':World}(hd:w.drawn<=w'.drawn)(h:w.grownBy w' none):Ext w w':=⟨⟨h.os,h.tape,h.output,h.size,λk hk=>h.block k hk Rg⟩,λ_=>hd⟩
def YS:LR->Nat->Value->LR
 | [],_,_=>[]
 | _::l,0,v=>v::l
 | u::l,i+1,v=>u::YS l i v
theorem Aey:∀(l:LR) (i:Nat) (v:Value),YS l i v=l.set i v
 | [],_,_=>by simp[YS]
 | _::_,0,_=>by simp[YS]
 | _::l,i+1,v=>by simp[YS,Aey l i v]
section
variable {P:Program}{n:Sz}{ops:Array Oper}{Q:Exit->Act->World->Prop}{L:ZC}{w w0:World}{O:List Bv}{rest:List Oper}
 {d:Nat}{ty:TypeId}{pos:String}{af:Array Edge}{α:Type}{r:Rp α}{H:PH}{x y:Operand}{v:Value}{t e:TypeId}
def Agp{z:Value}{sz bt:Nat}(hz:Zr P t z sz bt)(w:World)(ρ:Operand->Value)(o:Oper)(ho:o.op=.alloc t):(execOp ρ o).run P w=.ok (.value (.pointer (TI ⟨w.heap.size,0,none⟩))) (w.alloc (.cells z.cells t)):=by
 obtain⟨inf,a,h2,h3,b⟩:=hz.parts;simp[execOp,ho,Instr.alloc,zeroValue,typeInfo,a,h2,newVar,newRow]
def Aa7[Dr]{cs:LR}(hL:AB w0 O w):AB w0 (.box w.heap.size cs t::O) (w.alloc (.cells cs.toArray t)):=
 hL.new (C1 _ _) (heap_alloc_new w _) (λb hb=>by cases hb;exact KN _)
def VD[Dr]{cs:LR}(hL:AB w0 O w):Le (fz w O) (fz (w.alloc (.cells cs.toArray t)) (.box w.heap.size cs t::O)):=
 Uj hL (C1 _ _) (λb hb=>by cases hb;exact KN _)
def Aq[Dr]{z:Value}{sz bt:Nat}{cs:LR}(hz:Zr P t z sz bt)(hc:z.cells.toList=cs)[hn:V9 (Uu d n.n) true](hL:AB w0 O w)
  (h:∀w' b,AB w0 (.box b cs t::O) w'->Le (fz w O) (fz w' (.box b cs t::O))->Ext w w'->S P n ops Q rest ((d,.pointer (TI ⟨b,0,none⟩))::L) w'):S P n ops Q (⟨TI d,.alloc t,ty,pos,af,none⟩::rest) L w:=by
 subst hc;refine Dy hn.e (fun ρ _=>Agp hz w ρ _ Z) ?_;have e:(Obj.cells z.cells t:Obj)=.cells z.cells.toList.toArray t:=by simp
 rw[e];exact h _ _ (Aa7 hL) (VD hL) (C1 _ _)
def B6[Dr]{cs:LR}(hx:ev L x=TI v)(hc:v.cells.toList=cs)[hn:V9 (Uu d n.n) true](hL:AB w0 O w)
  (h:∀w' b,AB w0 (.box b cs t::O) w'->Le (fz w O) (fz w' (.box b cs t::O))->Ext w w'->S P n ops Q rest ((d,.pointer (TI ⟨b,0,none⟩))::L) w'):S P n ops Q (⟨TI d,.box t x,ty,pos,af,none⟩::rest) L w:=by
 subst hc;refine Dy (v:=.pointer (TI ⟨w.heap.size,0,none⟩)) (w':=w.alloc (.cells v.cells t)) hn.e (fun ρ hρ=>by simp[execOp,hρ x _ hx,Instr.box,newVar,newRow]) ?_;have e:(Obj.cells v.cells t:Obj)=.cells v.cells.toList.toArray t:=by simp
 rw[e];exact h _ _ (Aa7 hL) (VD hL) (C1 _ _)
def UC[Dr]{i b:Nat}{cs:LR}{t':TypeId}(hL:AB w0 O w)(hi:Ba O i=TI (.box b cs t')):Gp (hp w) ⟨b,0,none⟩ cs:=
 ⟨Z,λj u hu=>by
  have:=hL.at hi;rw[Addr.add_lit,Q8,AbJ,cell_of_row w b j _ _ _ this]
  simpa using hu⟩
def box_pT[Dr](i:Nat){b:Nat}{cs:LR}{t':TypeId}(hL:AB w0 O w)(hi:Ba O i=TI (.box b cs t')):Gp (hp w) ⟨b,0,none⟩ cs:=UC hL hi
theorem XW:∀(cs:LR) (o:Nat) (u:Value),nth cs o=TI u->∃c,cs.drop o=u::c
 | _::cs,0,u,h=>by simp only[nth,Option.some.injEq]at h;subst h;exact⟨cs,Z⟩
 | _::cs,o+1,u,h=>XW cs o u h
def O2[Dr](i:Nat){b off:Nat}{cs:LR}{t':TypeId}{u:Value}{dd:TypeDesc}(hx:ev L x=TI (.pointer (TI ⟨b,off,none⟩)))(ht:P.underlying t=TI dd)(hd:Ul dd=true)(hL:AB w0 O w)(hi:Ba O i=TI (.box b cs t'))(hu:nth cs off=TI u):AY P L w (.load t x) ty u:=by
 obtain⟨c,hc⟩:=XW cs off u hu;have a:=(UC hL hi).add off;rw[hc,Addr.add_lit,Q8]at a;exact B5 (hx:=⟨hx⟩) (ht:=⟨ht⟩) (hd:=⟨hd⟩) a (Le.refl _)
def AG[Dr](i:Nat){b off:Nat}{cs:LR}{t':TypeId}{u:Value}{dd:TypeDesc}(hx:ev L x=TI (.pointer (TI ⟨b,off,none⟩)))[ht:V9 (P.underlying t) (TI dd)][hd:V9 (Ul dd) true](hL:AB w0 O w)(hp:(Ba O i,nth cs off)=(TI (.box b cs t'),TI u)):AY P L w (.load t x) ty u:=by
 simp only[Prod.mk.injEq]at hp;exact O2 i hx ht.e hd.e hL hp.1 hp.2
def C6[Dr](i:Nat){b:Nat}{cs:LR}{t':TypeId}{dd:TypeDesc}{zz:Value}{bt:Nat}(hx:ev L x=TI (.pointer (TI ⟨b,0,none⟩)))[ht:V9 (P.underlying t) (TI dd)][hd:V9 (Zu dd) true](hz:Zr P t zz cs.length bt)(hL:AB w0 O w)(hi:Ba O i=TI (.box b cs t')):AY P L w (.load t x) ty (.agg cs.toArray):=
 AU (hx:=⟨hx⟩) (ht:=⟨ht.e⟩) (hd:=⟨hd.e⟩) (hz:=⟨hz⟩) (UC hL hi) (Le.refl _)
def Ju(w:World)(g:Nat)(cur cs:Array Value)(t:TypeId)(hg:w.heap[g]? = TI (.cells cur t (0,0))):(w.setRow g cs).heap[g]? = TI (.cells cs t (0,0)):=setRow_heap w g cur cs t (0,0) hg
def KW(w:World)(g:Nat)(cs:Array Value):w.grownBy (w.setRow g cs) (TI g):=
 ⟨Z,Z,Z,by simp,λk _ hk=>setRow_other w g k _ (λe=>hk (by simp[e]))⟩
def VE[Dr](i:Nat){b:Nat}{cs vs:LR}{t':TypeId}{zz:Value}{bt:Nat}(hx:ev L x=TI (.pointer (TI ⟨b,0,none⟩)))(hy:ev L y=TI v)(hc:v.cells.toList=vs)(hz:Zr P t zz vs.length bt)(hL:AB w0 O w)(hi:Ba O i=TI (.box b cs t'))(hlen:cs.length=vs.length)(a:∀u∈vs,u.oneCell'=true)
  (h:∀w',AB w0 (Ci O i (.box b vs t')) w'->Le (fz w O) (fz w' (Ci O i (.box b vs t')))->S P n ops Q rest L w'):S P n ops Q (⟨none,.store t x y,ty,pos,af,none⟩::rest) L w:=by
 subst hc;obtain⟨inf,c,f,d,g⟩:=hz.parts;have hb:w.heap[b]? = TI (.cells cs.toArray t' (0,0)):=hL.at hi;have hst:=run_storeCells_at P b 0 t' v.cells.toList 0 cs.toArray w hb (by simp at hlen ⊢;omega) a;simp only[Q8,List.take_zero,List.nil_append]at hst;have hdrop:cs.drop v.cells.toList.length=[]:=by simp at hlen ⊢;omega
 simp only[hdrop,List.append_nil,Array.toArray_toList]at hst;have hsz:v.cells.size=inf.size:=by rw[d];simp
 refine Oy (w.setRow b v.cells) (fun ρ hρ=>by
  simp[execOp,hρ x _ hx,hρ y _ hy,Instr.storeAt,Instr.sureAddr,storeVar,sizeOf,typeInfo,c,hsz,hst]) ?_
 have hg:=KW w b v.cells
 have hok:Bv.ok (w.setRow b v.cells) (.box b v.cells.toList t'):=by
  show(w.setRow b v.cells).heap[b]? = _
  simpa using Ju w b cs.toArray v.cells t' hb
 exact h _ (hL.KV hi (KN _) hg hok (λb' e=>.inl e)) (ES hL hi hg (λb' e=>.inl e))
def Ac[Dr](i:Nat){b:Nat}{cs vs:LR}{t':TypeId}{zz:Value}{bt:Nat}(hq:(ev L x,ev L y,v.cells.toList)=(TI (.pointer (TI ⟨b,0,none⟩)),TI v,vs))[hz:Qqz P t zz vs.length bt](hL:AB w0 O w)(hp:(Ba O i,cs.length)=(TI (.box b cs t'),vs.length))
  (h:∀w',AB w0 (Ci O i (.box b vs t')) w'->Le (fz w O) (fz w' (Ci O i (.box b vs t')))->S P n ops Q rest L w')(a:∀u∈vs,u.oneCell'=true:=by exact A6 Z):S P n ops Q (⟨none,.store t x y,ty,pos,af,none⟩::rest) L w:=by
 simp only[Prod.mk.injEq]at hq hp;exact VE i hq.1 hq.2.1 hq.2.2 hz.e hL hp.1 hp.2 a h
def BW[Dr](i:Nat){b off:Nat}{cs:LR}{t':TypeId}{zz:Value}{bt:Nat}(hx:ev L x=TI (.pointer (TI ⟨b,off,none⟩)))(hy:ev L y=TI v)(hv:v.oneCell'=true)[hz:Qqz P t zz 1 bt](hL:AB w0 O w)(hi:Ba O i=TI (.box b cs t'))(hlt:Uu off cs.length=true)
  (h:∀w',AB w0 (Ci O i (.box b (YS cs off v) t')) w'->Le (fz w O) (fz w' (Ci O i (.box b (YS cs off v) t')))->S P n ops Q rest L w'):S P n ops Q (⟨none,.store t x y,ty,pos,af,none⟩::rest) L w:=by
 obtain⟨inf,a,d,c,f⟩:=hz.e.parts;have hb:w.heap[b]? = TI (.cells cs.toArray t' (0,0)):=hL.at hi;have hlt':=Sl hlt;have hvc:v.cells = #[v]:=by cases v <;> simp_all [Value.cells,Value.oneCell']
 have hst:=run_storeCells_at P b off t' [v] 0 cs.toArray w hb U (by simpa using hv);have hcell:w.cell? ⟨b,off,none⟩=TI cs[off]:=by rw[cell_of_row w b off _ _ _ hb];simp[hlt']
 have hfz:w.frozen? ⟨b,off,none⟩=false:=frozen_of_row w b off _ _ hb
 refine Oy (w.setCell ⟨b,off,none⟩ v) (fun ρ hρ=>by
  simp[execOp,hρ x _ hx,hρ y _ hy,Instr.storeAt,Instr.sureAddr,storeVar,sizeOf,typeInfo,a,c,hvc,storeCells,run_store,hv,Addr.add_zero',hcell,hfz]) ?_
 have hsame:=heap_setCell_same w b off cs.toArray t' v hb;have hg:w.grownBy (w.setCell ⟨b,off,none⟩ v) (TI b):=⟨Z,Z,Z,by simp,λk _ hk=>heap_setCell_other w ⟨b,off,none⟩ k v (λe=>hk (by simp[e]))⟩
 have hok:Bv.ok (w.setCell ⟨b,off,none⟩ v) (.box b (YS cs off v) t'):=by
  show(w.setCell ⟨b,off,none⟩ v).heap[b]? = _
  rw[hsame,Aey];simp
 exact h _ (hL.KV hi (KN _) hg hok (λb' e=>.inl e)) (ES hL hi hg (λb' e=>.inl e))
def A9[Dr]{f:FuncId}{args:List Operand}{vs:LR}{at_:Array TypeId}{R:Value->World->Prop}[ha:V9 (U8 L args) (TI vs)][hn:V9 (Uu d n.n) true](hL:AB w0 O w)(hok:Ok P f vs w (λv w'=>Ext w w'/\R v w'))
  (h:∀v w',R v w'->Ext w w'->AB w0 O w'->Le (fz w O) (fz w' O)->S P n ops Q rest ((d,v)::L) w'):S P n ops Q (⟨TI d,.call ⟨.value (.func f),args.toArray,at_⟩,ty,pos,af,none⟩::rest) L w:=
 D5 (ha:=⟨ha.e⟩) (hn:=⟨hn.e⟩) hok λv w' ⟨hx,hR⟩=>h v w' hR hx (hL.call hx) (A3 hL hx)
def Al[Dr]{f:FuncId}{args:List Operand}{vs:LR}{at_:Array TypeId}{v:Value}[ha:V9 (U8 L args) (TI vs)][hn:V9 (Uu d n.n) true](hL:AB w0 O w)(hok:Ok P f vs w (λu w'=>Ext w w'/\u=v))
  (h:∀w',Ext w w'->AB w0 O w'->Le (fz w O) (fz w' O)->S P n ops Q rest ((d,v)::L) w'):S P n ops Q (⟨TI d,.call ⟨.value (.func f),args.toArray,at_⟩,ty,pos,af,none⟩::rest) L w:=
 A9 (R:=λu _=>u=v) (ha:=⟨ha.e⟩) (hn:=⟨hn.e⟩) hL hok λu w' hu hx a h2=>by subst hu;exact h w' hx a h2
def evp(L:ZC):List (Nat×Operand)->Option (List (Nat×Value))
 | []=>TI []
 | (i,x)::l=>match ev L x,evp L l with
  | some v,TI vs=>TI ((i,v)::vs)
  | _,_=>none
theorem Xm.Aj5{ρ:Operand->Value}(h:Xm L ρ):∀(l:List (Nat×Operand)) (vs:List (Nat×Value)),evp L l=TI vs->l.map (λ(i,x)=>(i,ρ x))=vs
 | [],vs,e=>by simp only[evp,Option.some.injEq]at e;simpa using e
 | (i,x)::l,vs,e=>by
  unfold evp at e
  split at e
  ·rename_i v us a h2;cases e;simp[h x v a,Xm.Aj5 h l us h2]
  ·cases e
def A8[Dr]{ps:List (Nat×Operand)}{vs:List (Nat×Value)}{u:Value}[hp:V9 (evp L ps) (TI vs)](hr:∀w,(Instr.build t vs.toArray).run P w=.ok u w):AY P L w (.build t ps.toArray) ty u:=by
 intro w' _ ρ hρ dst pos af g;have e:=hρ.Aj5 _ _ hp.e;have e':(ps.toArray.map λ(i,x)=>(i,ρ x))=vs.toArray:=by rw[<- e];simp
 simp[execOp,e',hr w',-List.map_toArray]
def Z0(H:PH)(sz:Nat)(v:Value)(m:Nat)(news:LR):Prop:=
 news.length=m * sz/\∃a cap,v=.slice a m cap/\m<=cap/\cap<=maxLen/\(a=none->cap=0)/\∀A,a=TI A->m≠0->A.spot=none/\∀j u,news[j]? = TI u->GC H (A.add j)=TI u
def Z0.mono{H':PH}{sz m:Nat}{news:LR}(h:Z0 H sz v m news)(hs:Le H H'):Z0 H' sz v m news:=by
 obtain⟨c,a,cap,h2,h3,d,e,b⟩:=h;exact⟨c,a,cap,h2,h3,d,e,λA hA hm=>⟨(b A hA hm).1,λj u hu=>Hq hs ((b A hA hm).2 j u hu)⟩⟩
theorem As.elems{l:List α}(hv:As r H v l):∃news,Ao r H l news/\Z0 H r.sz v l.length news:=by
 obtain⟨a,cap,f,h2,h3,e,g⟩:=hv.ex
 cases a with
 | none=>
  have:l.length=0:=by have:=e Z;omega
  have:l=[]:=Vu this;subst this;exact⟨[],.nil,by simp,none,cap,f,h2,h3,e,λA hA=>by cases hA⟩
 | some A=>
  by_cases hl:l=[]
  ·subst hl;exact⟨[],.nil,by simp,TI A,cap,f,h2,h3,e,λ_ _ hm=>absurd Z hm⟩
  obtain⟨hs,hh⟩:=g A Z hl
  have key:∀(m:List α) (k:Nat),(∀i x,m[i]? = TI x->∃c,r.rel H x c/\∀j u,c[j]? = TI u->GC H (A.add ((k+i) * r.sz+j))=TI u)->
    ∃news,Ao r H m news/\∀j u,news[j]? = TI u->GC H (A.add (k * r.sz+j))=TI u:=by
   intro m
   induction m with
   | nil=>intro k _;exact⟨[],.nil,λj u hu=>by cases hu⟩
   | cons x m ih=>
    intro k hm;obtain⟨c,hc,hcell⟩:=hm 0 x Rg;obtain⟨news,b,d⟩:=ih (k+1) (λi y hy=>by have:=hm (i+1) y (by simpa using hy);rwa [show k+(i+1)=k+1+i from by omega]at this);refine⟨c++news,.cons hc b,λj u hu=>?_⟩
    rcases TC j c.length with hj | hj
    ·rw[Ry hj]at hu;have:=hcell j u hu
     rwa [Pf]at this
    ·rw[UY hj]at hu;have:=d _ u hu;rw[r.len hc]at this hj;rw[show k * r.sz+j=(k+1) * r.sz+(j - r.sz)from by rw[Sc];omega];exact this
  obtain⟨news,b,d⟩:=key l 0 (λi x hx=>by rw[Q8];exact hh i x hx);refine⟨news,b,b.len,TI A,cap,f,h2,h3,e,λA' hA' _=>?_⟩
  cases hA'
  exact⟨hs,λj u hu=>by have:=d j u hu;rwa [Nat.zero_mul,Q8]at this⟩
def XX{l:List α}{news:LR}(he:Ao r H l news)(h:Z0 H r.sz v l.length news):As r H v l:=by
 obtain⟨g,a,cap,h2,h3,b,d,f⟩:=h;refine⟨a,cap,h2,h3,b,d,λA hA hl=>?_⟩;obtain⟨hs,hh⟩:=f A hA (λe=>hl (Vu e));refine⟨hs,λi x hx=>?_⟩;obtain⟨c,hc,hcell⟩:=he.at i x hx;exact⟨c,hc,λj u hu=>hh _ u (hcell j u hu)⟩
theorem Adw[Dr]{i sz bt m k:Nat}{zz u:Value}{xs news:LR}(ht:P.underlying t=TI (.slice e))(hz:Zr P e zz sz bt)(hzs:zz.cells.size=sz)(hsz:0<sz)(hL:AB w0 O w)(hi:Ba O i=TI (.row v e sz m xs))(hs:Z0 (hp w) sz u k news)(n:∀c∈news,c.oneCell'=true)
  (hby:(m+k) * bt<=140737488355328) (hm:m+k<=9223372036854775807) :
  ∃v' w',(Builtin.append_ #[t,t] ty #[v,u]).run P w=.ok v' w'/\AB w0 (Ci O i (.row v' e sz (m+k) (xs++news))) w'/\Le (fz w O) (fz w' (Ci O i (.row v' e sz (m+k) (xs++news)))):=by
 obtain⟨inf,f,l,o,p⟩:=hz.parts;have hown:w.ownsRow 0 e sz v m xs:=hL.at hi;obtain⟨hl,a,cap,hu,x,y,q,r⟩:=hs;have s:m+k<=maxLen:=by unfold maxLen;omega
 have fin:∀v' w',w.drawn<=w'.drawn->w'.ownsRow 0 e sz v' (m+k) (xs++news)->w.grownBy w' v.ownBlock->(∀b,v'.ownBlock=TI b->v.ownBlock=TI b\/w.heap.size<=b)->
   AB w0 (Ci O i (.row v' e sz (m+k) (xs++news))) w'/\Le (fz w O) (fz w' (Ci O i (.row v' e sz (m+k) (xs++news)))):=λv' w' hdr h2 h3 hb=>
  ⟨hL.KV hi hdr h3 h2 hb,ES (r':=.row v' e sz (m+k) (xs++news)) hL hi h3 hb⟩
 by_cases h:k=0
 ·subst h;have hn:news=[]:=Vu (by simpa using hl);subst hn;refine⟨v,w,?_,?_⟩
  ·obtain⟨va,vc,rfl⟩:=O0 hown
   have hle:m<=vc:=by
    rcases hown.2 with ⟨he,hn⟩ | ⟨g,cap,cur,he,_,_,hnc,_⟩
    ·cases he;omega
    ·cases he;exact hnc
   subst hu
   cases a with
   | none=>cases va <;> simp[Builtin.append_,run_underlying ht,sizeOf,typeInfo,f,Builtin.lenOf,Builtin.firstCells,hle,storeCells]
   | some A=>cases va <;> simp[Builtin.append_,run_underlying ht,sizeOf,typeInfo,f,Builtin.lenOf,Builtin.firstCells,hle,storeCells,loadCells,loadCellsFrom]
  ·have:=fin v w (KN _) (by simpa using hown) (World.grownBy.refl w _) (λb hb=>.inl hb);exact this
 ·cases a with
  | none=>have:=q Z;omega
  | some A=>
   subst hu;obtain⟨hspot,hcell⟩:=r A Z h;obtain⟨v',w',hr,h2,h3,z⟩:=run_append_own (P:=P) w 0 t ty e inf zz sz bt ht f l o p hzs hsz v m xs hown A k cap news hl (λj c hc=>hcell j c hc) n s hby (Tg _);refine⟨v',w',hr,fin v' w' (Tn _ _ _ _ hr) h2 h3 λb hb=>?_⟩;subst o;subst p
   rcases hown.2 with ⟨rfl,rfl⟩ | ⟨g,cp,cur,rfl,hbg,hg,hnc,hcm,hcs,htake⟩
   ·have d:=run_append_nil (P:=P) w t ty e inf zz ht f l A k cap news hl (λj c hc=>hcell j c hc) U U (by simp only[Q8]at hby;omega);rw[hr]at d;simp only[Result.ok.injEq]at d;rw[d.1]at hb
    right;cases hb;exact KN _
   ·by_cases hroom:m+k<=cp
    ·have hfit:m * inf.size+news.length<=cur.size:=by rw[hl,hcs,<- Sc];exact Nat.mul_le_mul_right _ hroom
     have d:=run_append_room (P:=P) w t ty e inf ht f g m cp cur hg A k cap news hl (λj c hc=>hcell j c hc) n hroom hfit;rw[hr]at d;simp only[Result.ok.injEq]at d;rw[d.1]at hb
     left;exact hb
    ·have holds:∀j u,xs[j]? = TI u->w.cell? ((⟨g,0,none⟩:Addr).add j)=TI u:=hown.cells (g:=g) Z;have d:=run_append_grow (P:=P) w t ty e inf zz ht f l ⟨g,0,none⟩ m cp xs hown.1 holds A k cap news hl (λj c hc=>hcell j c hc) U U (growslice_fits U hby);rw[hr]at d;simp only[Result.ok.injEq]at d;rw[d.1]at hb
     right;cases hb;exact KN _
def XY[Dr](i:Nat){sz bt m k:Nat}{zz u:Value}{xs news:LR}(hx:ev L x=TI v)(hy:ev L y=TI u)(ht:P.underlying t=TI (.slice e))(hz:Zr P e zz sz bt)(hzs:zz.cells.size=sz)(hsz:0<sz)(hn:Uu d n.n=true)(hL:AB w0 O w)(hi:Ba O i=TI (.row v e sz m xs))(hs:Z0 (hp w) sz u k news)(a:∀c∈news,c.oneCell'=true)
  (hby:(m+k) * bt<=140737488355328/\m+k<=9223372036854775807)
  (h:∀v' w',AB w0 (Ci O i (.row v' e sz (m+k) (xs++news))) w'->Le (fz w O) (fz w' (Ci O i (.row v' e sz (m+k) (xs++news))))->S P n ops Q rest ((d,v')::L) w') :
  S P n ops Q (⟨TI d,.call ⟨.builtin .append,#[x,y],#[t,t]⟩,ty,pos,af,none⟩::rest) L w:=by
 obtain⟨v',w',hr,hL',hle⟩:=Adw (ty:=ty) ht hz hzs hsz hL hi hs a hby.1 hby.2;refine Dy (v:=v') (w':=w') hn (fun ρ hρ=>?_) (h v' w' hL' hle);simp[execOp,resolve,invoke,builtin,hρ x _ hx,hρ y _ hy,hr]
def NR[Dr]{w':World}{sz m:Nat}{xs:LR}(hL:AB w0 O w)(hx:Ext w w')(ho:w'.ownsRow w.heap.size e sz v m xs):AB w0 (.row v e sz m xs::O) w'/\Le (fz w O) (fz w' (.row v e sz m xs::O)):=by
 have hb:∀b,Bv.block (.row v e sz m xs)=TI b->w.heap.size<=b:=λb hb=>(ho.lt b hb).1;exact⟨hL.new hx (UB ho (λ_ _=>Tg _)) hb,Uj hL hx hb⟩
def Xy[Dr](hL:AB w0 O w)(e:TypeId)(sz:Nat):AB w0 (.row (.slice none 0 0) e sz 0 []::O) w/\Le (fz w O) (fz w (.row (.slice none 0 0) e sz 0 []::O)):=
 NR hL (Ext.refl w) (World.ownsRow_nil w _ e sz)
def AlF[Dr]{bt m:Nat}{k k':IntKind}{zz:Value}{c c':Int}(hx:ev L x=TI (.int k c))(hy:ev L y=TI (.int k' c'))(hcc:c=m/\c'=m)(ht:P.underlying t=TI (.slice e))(hz:Zr P e zz 1 bt)(hzc:zz.cells = #[zz])(hn:Uu d n.n=true)(hL:AB w0 O w)(hm:bt * m<=281474976710656/\m<=9223372036854775807)
  (h:∀v' w',Ext w w'->AB w0 (.row v' e 1 m (Xk m zz)::O) w'->Le (fz w O) (fz w' (.row v' e 1 m (Xk m zz)::O))->S P n ops Q rest ((d,v')::L) w') :
  S P n ops Q (⟨TI d,.makeSlice t x y,ty,pos,af,none⟩::rest) L w:=by
 obtain⟨inf,a,b,f,g⟩:=hz.parts;obtain⟨rfl,rfl⟩:=hcc;obtain⟨w',hr,ho,hg⟩:=run_make_full (P:=P) w w.heap.size t e inf zz 1 ht a b f k k' m (by rw[g];exact hm.1) (by unfold maxLen;omega) (KN _);rw[hzc,Z5,toList_madeCells_one]at ho;have hx':=Sr (Tn _ _ _ _ hr) hg;obtain⟨i,h2⟩:=NR hL hx' ho;exact Dy hn (fun ρ hρ=>by simp[execOp,hρ x _ hx,hρ y _ hy,hr]) (h _ _ hx' i h2)
def Ald[Dr]{ps:List (Nat×Operand)}{vs:List (Nat×Value)}{len sz:Nat}{cs:LR}(hp':evp L ps=TI vs)(hr:∀w,(Instr.buildSlice t len vs.toArray).run P w=.ok (.slice (TI ⟨w.heap.size,0,none⟩) len len) (w.alloc (.cells cs.toArray e)))(hc:cs.length=len * sz)(hlen:len<=9223372036854775807)(hn:Uu d n.n=true)(hL:AB w0 O w)
  (h:∀u w',Ext w w'->AB w0 O w'->Le (fz w O) (fz w' O)->Z0 (nw w w') sz u len cs->w'.ownsRow w.heap.size e sz u len cs->S P n ops Q rest ((d,u)::L) w') :
  S P n ops Q (⟨TI d,.buildSlice t len ps.toArray,ty,pos,af,none⟩::rest) L w:=by
 have hx:=C1 w (.cells cs.toArray e);refine Dy hn (fun ρ hρ=>?_) (h _ _ hx (hL.call hx) (A3 hL hx) ⟨hc,TI ⟨w.heap.size,0,none⟩,len,Z,KN _,by unfold maxLen;omega,(λe=>by cases e),λA hA _=>?_⟩ ?_)
 ·have a:=hρ.Aj5 _ _ hp';have e':(ps.toArray.map λ(i,x)=>(i,ρ x))=vs.toArray:=by rw[<- a];simp
  simp[execOp,e',hr w,-List.map_toArray]
 ·cases hA
  refine⟨Z,λj u hu=>?_⟩;simp only[Addr.add_lit,Q8,GC,nw,KN,if_true,heap_alloc_new]
  simpa using hu
 ·have:=World.ownsRow_lit (base:=w.heap.size) (e:=e) (size:=sz) w cs.toArray len (KN _) (by unfold maxLen;omega) (by simpa using hc)
  simpa using this
def P9(v:Value)(k:Nat)(p:Addr):Prop:=v.ownBlock=TI p.block/\p.off=k/\p.spot=none
def AgN[Dr](i:Nat){sz bt m:Nat}{zz:Value}{xs:LR}{k:IntKind}{c:Int}(hx:ev L x=TI v)(hy:ev L y=TI (.int k c))(ht:P.underlying t=TI (.slice e))(hz:Zr P e zz sz bt)(hL:AB w0 O w)(hi:Ba O i=TI (.row v e sz m xs))(j:Nat)(hj:c=(j:Int))(hlt:j<m):
  ∃p,P9 v (j * sz) p/\∀w,AY P L w (.indexAddr t x y) ty (.pointer (TI p)):=by
 obtain⟨inf,a,d,b,f⟩:=hz.parts;have hown:w.ownsRow 0 e sz v m xs:=hL.at hi
 rcases hown.2 with ⟨rfl,rfl⟩ | ⟨g,cp,cur,rfl,hbg,hg,hnc,hcm,hcs,htake⟩
 ·omega
 ·subst hj;refine⟨⟨g,j * sz,none⟩,⟨Z,Z,Z⟩,λw w' _ ρ hρ dst pos af gd=>?_⟩;have l:(0:Int)<=(j:Int)/\(j:Int)<(m:Int):=by omega
  simp[execOp,hρ x _ hx,hρ y _ hy,Instr.indexAt,asIntOf,run_underlying ht,sizeOf,typeInfo,a,b,hlt,Addr.add_lit]
def CZ[Dr](i:Nat){sz bt m:Nat}{zz:Value}{xs:LR}{k:IntKind}{c:Int}(hx:ev L x=TI v)[hy:V9 (ev L y) (TI (.int k c))](ht:P.underlying t=TI (.slice e))(hz:Zr P e zz sz bt)(hL:AB w0 O w)(hi:Ba O i=TI (.row v e sz m xs))(j:Nat)(hj:c=(j:Int))(hlt:j<m)[hn:V9 (Uu d n.n) true]
  (h:∀p,P9 v (j * sz) p->S P n ops Q rest ((d,.pointer (TI p))::L) w):S P n ops Q (⟨TI d,.indexAddr t x y,ty,pos,af,none⟩::rest) L w:=by
 obtain⟨p,a,h2⟩:=AgN (P:=P) (ty:=ty) i hx hy.e ht hz hL hi j hj hlt;exact AJ (h2 w) (hn:=⟨hn.e⟩) (h p a)
def AgO[Dr]{i sz m k:Nat}{xs:LR}{p:Addr}{u:Value}{e':TypeId}(hL:AB w0 O w)(hi:Ba O i=TI (.row v e' sz m xs))(hp':P9 v k p)(hu:xs[k]? = TI u):w.cell? p=TI u:=by
 have hown:w.ownsRow 0 e' sz v m xs:=hL.at hi;obtain⟨a,h2,h3⟩:=hp';obtain⟨b,o,s⟩:=p;simp only at a h2 h3;subst h2;subst h3;have hc:=hown.cells a o u hu
 rwa [Addr.add_lit,Q8]at hc
def AgP[Dr](i:Nat){sz bt m k:Nat}{zz u:Value}{xs:LR}{p:Addr}{e':TypeId}(hx:ev L x=TI (.pointer (TI p)))(hy:ev L y=TI u)(hv:u.oneCell'=true)(hz:Zr P t zz 1 bt)(hL:AB w0 O w)(hi:Ba O i=TI (.row v e' sz m xs))(hp':P9 v k p)(hlt:k<xs.length)
  (h:∀w',AB w0 (Ci O i (.row v e' sz m (xs.set k u))) w'->Le (fz w O) (fz w' (Ci O i (.row v e' sz m (xs.set k u))))->S P n ops Q rest L w'):S P n ops Q (⟨none,.store t x y,ty,pos,af,none⟩::rest) L w:=by
 obtain⟨inf,c,f,d,j⟩:=hz.parts;have hown:w.ownsRow 0 e' sz v m xs:=hL.at hi;have hcell:=AgO hL hi hp' (Pa hlt);obtain⟨a,h2,h3⟩:=hp';obtain⟨b,o,s⟩:=p;simp only at a h2 h3;subst h2;subst h3
 rcases hown.2 with ⟨rfl,rfl⟩ | ⟨g,cp,cur,rfl,hbg,hg,hnc,hcm,hcs,htake⟩
 ·simp[Value.ownBlock]at a
 ·simp only[Value.ownBlock,Option.some.injEq]at a;subst a;have hst:=hown.stored o u;have hfz:w.frozen? ⟨g,o,none⟩=false:=hown.frozenAt o;have hvc:u.cells = #[u]:=by cases u <;> simp_all [Value.cells,Value.oneCell']
  refine Oy (w.setCell ⟨g,o,none⟩ u) (fun ρ hρ=>by
   simp[execOp,hρ x _ hx,hρ y _ hy,Instr.storeAt,Instr.sureAddr,storeVar,sizeOf,typeInfo,c,d,hvc,storeCells,run_store,hv,Addr.add_zero',hcell,hfz]) ?_
  exact h _ (hL.KV hi (by rw[drawn_setCell];exact KN _) hst.2 hst.1 (λb e=>.inl e)) (ES (r':=.row (.slice (TI ⟨g,0,none⟩) m cp) e' sz m (xs.set o u)) hL hi hst.2 (λb e=>.inl e))
def AB.AnM[Dr]{i:Nat}{l:List α}{xs:LR}{e':TypeId}(hL:AB w0 O w)(hi:Ba O i=TI (.row v e' r.sz l.length xs))(he:Ao r (fz w O) l xs):As r (hp w) v l:=
 QF (hL.at hi) he (Qn w O) (λ_k _ _o ho=>ho)
def OQ.take[Dr]{w':World}{l:List α}(hL:AB w0 O w)(hx:Ext w w')(h:OQ e r w w' v l):∃xs,AB w0 (.row v e r.sz l.length xs::O) w'/\Le (fz w O) (fz w' (.row v e r.sz l.length xs::O))/\Ao r (fz w' (.row v e r.sz l.length xs::O)) l xs:=by
 obtain⟨xs,a,h2⟩:=h;obtain⟨h3,b⟩:=NR hL hx a;exact⟨xs,h3,b,h2.mono (AbK hL)⟩
end
def row_one{w:World}{v:Value}{e:TypeId}{sz n:Nat}{xs:LR}(h:Bv.ok w (.row v e sz n xs)):v.oneCell'=true:=by
 obtain⟨a,c,rfl⟩:=O0 (b:=0) h;rfl
theorem AgQ{α:Type}{r:Rp α}{f:α->Value}(hf:∀H x c,r.rel H x c->c=[f x]){H:PH}{l:List α}{xs:LR}(h:Ao r H l xs):xs=l.map f:=by
 induction h with
 | nil=>rfl
 | cons h _ ih=>rw[hf _ _ _ h,ih];rfl
def bv(b:UInt8):Value:=.int .u8 (b.toNat:Int)
def AbT{H:PH}{l:Qm}{xs:LR}(h:Ao Rp.byte H l xs):xs=l.map bv:=AgQ (λ_ _ _ h=>h) h
def nf(w0 w:World)(O:List Bv):PH:=λb=>if w0.heap.size<=b then fz w O b else none
def Aj6{w0 w w':World}{O O':List Bv}(h:Le (fz w O) (fz w' O')):Le (nf w0 w O) (nf w0 w' O'):=λb o e=>by
 unfold nf at e ⊢
 split at e
 ·rename_i hb;rw[Xu hb];exact h b o e
 ·cases e
def Ale{w0 w:World}{O:List Bv}:Le (nf w0 w O) (fz w O):=λb o e=>by
 unfold nf at e
 split at e
 ·exact e
 ·cases e
def Alf{w0 w:World}{O:List Bv}:Le (nf w0 w O) (nw w0 w):=λb o e=>by
 unfold nf at e
 split at e
 ·rename_i hb;unfold nw;rw[Xu hb];exact Qn w O b o e
 ·cases e
def AmB[Dr]{w0 w w':World}{O:List Bv}(h:AB w0 O w):Le (nw w w') (nf w0 w' O):=λb o e=>by
 have a:=Alb (w':=w') h b o e;unfold nw at e
 split at e
 ·rename_i hb;unfold nf;rw[Xu (RU h.ext.size hb)];exact a
 ·cases e
def AlG{w0 w:World}{O:List Bv}{i:Nat}{v:Value}{e:TypeId}{sz n:Nat}{xs:LR}(hi:Ba O i=TI (.row v e sz n xs)):Le (nf w0 w O) (TK w0 w v):=λb o h=>by
 have a:=Alf b o h;have h2:=Ale b o h;unfold TK;rw[Pb]
 ·exact a
 ·intro hb;unfold fz at h2;rw[Xu (CR.2 ⟨_,(DF hi).mem_iff.2 (.head _),hb⟩)]at h2
  cases h2
def GQ(b:UInt8):IntKind.i64.wrap (b.toNat:Int)=(b.toNat:Int):=by
 have:=b.toNat_lt;exact wrap64 U U
section
variable {P:Program}{n:Sz}{ops:Array Oper}{Q:Exit->Act->World->Prop}{L:ZC}{w w0:World}{O:List Bv}{rest:List Oper}
 {d:Nat}{ty:TypeId}{pos:String}{af:Array Edge}{α:Type}{r:Rp α}{H:PH}{x y:Operand}{v:Value}{t t' e:TypeId}
def AlH[Dr]{op:BinOp}{k:IntKind}{a b c s:Int}(hx:ev L x=TI (.int k a))(hy:ev L y=TI (.int k b))(ho:arI op a b=TI c)(hw:k.wrap c=s):AY P L w (.binOp op t x y t') ty (.int k s):=by
 intro w' _ ρ hρ dst pos af g;subst hw
 cases op <;> simp only[arI,Option.some.injEq,reduceCtorEq]at ho <;> subst ho <;>
  simp[execOp,hρ x _ hx,hρ y _ hy,eqGuard,binOp,Op.intArith]
def AlI[Dr]{op:BinOp}{a b c:Int}(hx:ev L x=TI (.int .i64 a))(hy:ev L y=TI (.int .i64 b))(ho:arI op a b=TI c)(d : -9223372036854775808<=c/\c<=9223372036854775807):AY P L w (.binOp op t x y t') ty (.int .i64 c):=
 AlH hx hy ho (wrap64 d.1 d.2)
def Gq[Dr]{op:BinOp}{a b c:Int}[hq:V9 (ev L x,ev L y,arI op a b) ((TI (.int .i64 a),TI (.int .i64 b),TI c))](d : -9223372036854775808<=c/\c<=9223372036854775807):AY P L w (.binOp op t x y t') ty (.int .i64 c):=by
 have hq:=hq.e
 simp only[Prod.mk.injEq]at hq;exact AlI hq.1 hq.2.1 hq.2.2 d
def AmC[Dr]{a b:Int}[hx:V9 (ev L x) (TI (.int .i64 a))][hy:V9 (ev L y) (TI (.int .i64 b))](c:0<=a/\a<=9223372036854775807/\0<b):AY P L w (.binOp .quo t x y t') ty (.int .i64 (a / b)):=by
 intro w' _ ρ hρ dst pos af g;have hb:b≠0:=by omega
 have⟨d,e⟩:=Ajv c.1 c.2.2;simp[execOp,hρ x _ hx.e,hρ y _ hy.e,eqGuard,binOp,Op.intDiv,hb,AbI c.1,wrap64 (x:=a / b) U U]
def Alg[Dr]{a b:Int}{k:IntKind}(hx:ev L x=TI (.int k a))(hy:ev L y=TI (.int k b))(c:0<=a/\0<b):AY P L w (.binOp .rem t x y t') ty (.int k (a % b)):=by
 intro w' _ ρ hρ dst pos af g;have hb:b≠0:=by omega
 simp[execOp,hρ x _ hx,hρ y _ hy,eqGuard,binOp,Op.intDiv,hb,AgK c.1]
def Er[Dr]{k k':IntKind}{a s:Int}{u:TypeDesc}[hs:V9 (P.underlying t) (TI u)][ht:V9 (P.underlying t') (TI (.int k))][hx:V9 (ev L x) (TI (.int k' a))](hw:k.wrap a=s):AY P L w (.convert t t' x) ty (.int k s):=by
 intro w' _ ρ hρ dst pos af g;subst hw;simp[execOp,hρ x _ hx.e,convert,run_underlying hs.e,run_underlying ht.e,Conv.intToInt]
def AmD:BinOp->UInt8->UInt8->Option UInt8
 | .xor,a,b=>TI (a ^^^ b)
 | .and,a,b=>TI (a &&& b)
 | .or,a,b=>TI (a ||| b)
 | _,_,_=>none
def ofInt8(a:UInt8):Q9 8 (a.toNat:Int)=a.toBitVec:=by
 apply BitVec.eq_of_toNat_eq;have:=a.toNat_lt;simp
def AgR[Dr]{op:BinOp}{a b c:UInt8}(hx:ev L x=TI (.int .u8 (a.toNat:Int)))(hy:ev L y=TI (.int .u8 (b.toNat:Int)))(ho:AmD op a b=TI c):AY P L w (.binOp op t x y t') ty (.int .u8 (c.toNat:Int)):=by
 intro w' _ ρ hρ dst pos af g;have hc:=c.toNat_lt
 cases op <;> simp only[AmD,Option.some.injEq,reduceCtorEq]at ho <;> subst ho
 ·have e:(Op.intBits .and .u8 (a.toNat:Int) (b.toNat:Int)).run P w'=.ok (.int .u8 ((a &&& b).toNat:Int)) w':=by
   show Result.ok (Value.int .u8 (IntKind.u8.wrap ((Q9 8 (a.toNat:Int) &&& Q9 8 (b.toNat:Int)).toNat:Int))) w'=_
   rw[ofInt8,ofInt8,show(a.toBitVec &&& b.toBitVec).toNat=(a &&& b).toNat from Z,Adv U U]
  simp only[execOp,hρ x _ hx,hρ y _ hy,eqGuard,binOp,Sem.run_bind,ne_eq,not_true_eq_false,if_false,R1,if_true,Sem.run_pure,Result.andThen_ok,e]
 ·have e:(Op.intBits .or .u8 (a.toNat:Int) (b.toNat:Int)).run P w'=.ok (.int .u8 ((a ||| b).toNat:Int)) w':=by
   show Result.ok (Value.int .u8 (IntKind.u8.wrap ((Q9 8 (a.toNat:Int) ||| Q9 8 (b.toNat:Int)).toNat:Int))) w'=_
   rw[ofInt8,ofInt8,show(a.toBitVec ||| b.toBitVec).toNat=(a ||| b).toNat from Z,Adv U U]
  simp only[execOp,hρ x _ hx,hρ y _ hy,eqGuard,binOp,Sem.run_bind,ne_eq,not_true_eq_false,if_false,R1,if_true,Sem.run_pure,Result.andThen_ok,e]
 ·have e:(Op.intBits .xor .u8 (a.toNat:Int) (b.toNat:Int)).run P w'=.ok (.int .u8 ((a ^^^ b).toNat:Int)) w':=by
   show Result.ok (Value.int .u8 (IntKind.u8.wrap ((Q9 8 (a.toNat:Int) ^^^ Q9 8 (b.toNat:Int)).toNat:Int))) w'=_
   rw[ofInt8,ofInt8,show(a.toBitVec ^^^ b.toBitVec).toNat=(a ^^^ b).toNat from Z,Adv U U]
  simp only[execOp,hρ x _ hx,hρ y _ hy,eqGuard,binOp,Sem.run_bind,ne_eq,not_true_eq_false,if_false,R1,if_true,Sem.run_pure,Result.andThen_ok,e]
def AmE:BinOp->Nat->Nat->Option Nat
 | .xor,a,b=>TI (a ^^^ b)
 | .and,a,b=>TI (a &&& b)
 | .or,a,b=>TI (a ||| b)
 | _,_,_=>none
def AmF[Dr]{k k':IntKind}{a s m:Int}{c:Nat}(hx:ev L x=TI (.int k a))[hy:V9 (ev L y) (TI (.int k' (c:Int)))](hm:(2:Int) ^ c=m)(hc:c<=k.bits)(hw:k.wrap (a * m)=s):AY P L w (.binOp .shl t x y t') ty (.int k s):=by
 intro w' _ ρ hρ dst pos af g;subst hm;subst hw;have : ¬((c:Int)<0):=by omega
 simp[execOp,hρ x _ hx,hρ y _ hy.e,eqGuard,binOp,Op.shift,this,VW hc]
def XZ[Dr]{k k':IntKind}{a m:Int}{c:Nat}(hx:ev L x=TI (.int k a))[hy:V9 (ev L y) (TI (.int k' (c:Int)))](hm:(2:Int) ^ c=m)(hc:c<=k.bits):AY P L w (.binOp .shr t x y t') ty (.int k (a / m)):=by
 intro w' _ ρ hρ dst pos af g;subst hm;have : ¬((c:Int)<0):=by omega
 have e:a.fdiv (2 ^ c)=a / 2 ^ c:=Int.fdiv_eq_ediv_of_nonneg a (by exact Int.le_of_lt (Int.pow_pos Y5));simp[execOp,hρ x _ hx,hρ y _ hy.e,eqGuard,binOp,Op.shift,this,VW hc,e]
def W3[Dr]{xs ys:Array Value}{q:Bool}[hx:V9 (ev L x) (TI (.agg xs))][hy:V9 (ev L y) (TI (.agg ys))](hg:P.eqGuardType P.depth t=false)(he:∀w,(Op.equalIn 10000 t (.agg xs) (.agg ys)).run P w=.ok q w):AY P L w (.binOp .eql t x y t') ty (.bool q):=by
 intro w' _ ρ hρ dst pos af g;simp[execOp,hρ x _ hx.e,hρ y _ hy.e,run_eqGuard_agg w' .eql t x y xs ys hg,run_eql_struct,he w']
def I4[Dr]{xs ys:Array Value}{q:Bool}[hx:V9 (ev L x) (TI (.agg xs))][hy:V9 (ev L y) (TI (.agg ys))](hg:P.eqGuardType P.depth t=false)(he:∀w,(Op.equalIn 10000 t (.agg xs) (.agg ys)).run P w=.ok q w):AY P L w (.binOp .neq t x y t') ty (.bool (!q)):=by
 intro w' _ ρ hρ dst pos af g;simp[execOp,hρ x _ hx.e,hρ y _ hy.e,run_eqGuard_agg w' .neq t x y xs ys hg,run_neq_struct,he w']
def AgS {f0 f1 : Field}{d f : IntKind} (ht : P.underlying t = some (.struct (P.fieldsOf t))) (hp : P.stoodInHeld t = false) (hf : (P.fieldsOf t).toList = [f0, f1]) (g : f0.name ≠ "_" /\ f0.offset = 0) (h : f1.name ≠ "_" /\ f1.offset = 1)
  (i:P.underlying f0.type=TI (.int d)) (j:P.underlying f1.type=TI (.int f)) (a b c e:Int) (w:World) :
  (Op.equalIn 10000 t (.agg #[.int d a,.int f b]) (.agg #[.int d c,.int f e])).run P w=.ok (decide (a=c/\b=e)) w:=by
 rw[run_equalIn_struct w 9999 t _ _ ht hp,hf]
 have key:∀dd:Nat,(Op.eqFields (dd+1) #[.int d a,.int f b] #[.int d c,.int f e] [f0,f1]).run P w=.ok (decide (a=c/\b=e)) w:=by
  intro dd
  by_cases k:a=c <;> by_cases l:b=e <;>
   simp[Op.eqFields,g.1,h.1,g.2,h.2,part,isAgg,run_underlying i,run_underlying j,run_equalIn_int w dd _ _ _ _ _ i,run_equalIn_int w dd _ _ _ _ _ j,k,l]
 exact key 9998
theorem foldl_push:∀(l:Qm) (s:ByteArray),(l.map (λb=>((b.toNat:Nat):Int))).foldl (λr n=>r.push (SJ n.toNat)) s=⟨s.data++l.toArray⟩
 | [],s=>by simp
 | b::l,s=>by
  rw[List.map_cons,List.foldl_cons,foldl_push l];simp[ByteArray.push]
theorem O3[Dr]{l:Qm}[hx:V9 (ev L x) (TI v)][ht:V9 (P.underlying t) (TI (.slice e))][he:V9 (P.underlying e) (TI (.int .u8))][ht':V9 (P.underlying t') (TI .string)](hv:As .byte H v l)(hs:Le H (hp w)):AY P L w (.convert t t' x) ty (.string ⟨l.toArray⟩):=by
 intro w' hw ρ hρ dst pos af g;obtain⟨news,c,d⟩:=hv.elems;obtain rfl:=AbT c;obtain⟨k,a,cap,rfl,h3,m,f,i⟩:=d
 cases a with
 | none=>
  have:l.length=0:=by have:=f Z;omega
  have:l=[]:=Vu this;subst this;simp[execOp,hρ x _ hx.e,run_convert_bytes_string w' t t' e none _ cap ht.e he.e ht'.e,Conv.bytesToString]
  rfl
 | some A=>
  have hload:(loadCells A l.length).run P w'=.ok ((l.map (λb=>((b.toNat:Nat):Int))).map (Value.int .u8)).toArray w':=by
   by_cases hl:l.length=0
   ·have:l=[]:=Vu hl;subst this;simp[loadCells,loadCellsFrom]
   ·have:=run_loadCellsFrom (P:=P) (p:=A) w' l.length 0 (l.map bv) #[] Rg (λj u hu=>by rw[Q8];exact cell_of (hs.ext hw) ((i A Z hl).2 j u hu));unfold loadCells;rw[this];simp[bv,Function.comp_def]
  have hb:=run_bytesToString w' A l.length cap _ hload;rw[foldl_push]at hb;simp[execOp,hρ x _ hx.e,run_convert_bytes_string w' t t' e (TI A) _ cap ht.e he.e ht'.e,hb]
def I5[Dr]{l m:Qm}(hx:ev L x=TI (.string ⟨l.toArray⟩))(hy:ev L y=TI (.string ⟨m.toArray⟩)):AY P L w (.binOp .eql t x y t') ty (.bool (decide (l=m))):=by
 intro w' _ ρ hρ dst pos af g;have e:(l==m)=decide (l=m):=by rw[Z8];simp
 simp[execOp,hρ x _ hx,hρ y _ hy,eqGuard,binOp,Op.stringOp,e]
def Af5{f:FuncId}{args:List Operand}{vs:LR}{at_:Array TypeId}{dst:Option Tmp}{cap:LR}{fo:Operand}(hc:IN P f)(hf:ev L fo=TI (.func (.func f) #[] cap.toArray))(ha:U8 L args=TI vs)(ρ:Operand->Value)(hρ:Xm L ρ):
  (execOp ρ ⟨dst,.call ⟨.value fo,args.toArray,at_⟩,ty,pos,af,none⟩).run P w=.ok (.enter f (vs++cap).toArray) w:=by
 obtain ⟨fn, c, a, h2, h3⟩ := hc;have b := hρ.map _ _ ha;have h2' : ¬fn.name = "runtime.NumGoroutine" := by simpa using h2
 simp[execOp,resolve,hρ fo _ hf,Deferred.ofValue,b,invoke,callFunc,a,h2',h3]
def DR{f:FuncId}{args:List Operand}{vs:LR}{at_:Array TypeId}{cap:LR}{fo:Operand}{R:Value->World->Prop}(hf:ev L fo=TI (.func (.func f) #[] cap.toArray))(ha:U8 L args=TI vs)[hn:V9 (Uu d n.n) true](hok:Ok P f (vs++cap) w R)
  (h:∀v w',R v w'->S P n ops Q rest ((d,v)::L) w'):S P n ops Q (⟨TI d,.call ⟨.value fo,args.toArray,at_⟩,ty,pos,af,none⟩::rest) L w:=
 UA Z λa fr=>by
  unfold Oper.wp;rw[Af5 hok.1 hf ha _ fr.Wz];refine hok.2.mono λe w' ⟨v,he,hv⟩=>?_;subst he;exact h v w' hv _ (fr.put hn.e)
inductive Got (P:Program) (L:ZC) (w:World):ResultVar->Value->Prop
 | tmp {t:Nat}{v:Value} (h:gt L t=TI v):Got P L w (.tmp t) v
 | cell {s t:Nat}{b:Nat}{cs:LR}{zz:Value}{bt:Nat}{dd:TypeDesc} (h:gt L s=TI (.pointer (TI ⟨b,0,none⟩))) (ht:P.underlying t=TI dd) (hd:Zu dd=true) (hz:Zr P t zz cs.length bt) (hp':Gp (hp w) ⟨b,0,none⟩ cs):Got P L w (.cell s t) (.agg cs.toArray)
def OA(tmps:Array Value):ResultVar->Sem Value
 | .tmp t=>pure (tmps.getD t undef)
 | .cell a t=>do loadVar t (<- asAddr (tmps.getD a undef))
def QG(fn:Func)(tmps:Array Value):results fn tmps=(do let vs <- fn.results.mapM (OA tmps);pure (if h:vs.size=1 then vs[0]else .tuple vs)):=by
 unfold results
 congr 1
theorem Got.run{a:Act}{q:ResultVar}(fr:Fr n a L)(h:Got P L w q v):(OA a.tmps q).run P w=.ok v w:=by
 cases h with
 | tmp h=>have:=fr.get _ _ h;simp[OA,Q2,this]
 | cell h ht hd hz hp'=>
  rename_i s t b cs zz bt dd;have:=fr.get _ _ h;obtain⟨inf,c,e,d,f⟩:=hz.parts;have hload:=run_loadCellsFrom (P:=P) (p:=⟨b,0,none⟩) w cs.length 0 cs #[] Z (λj u hu=>by rw[Q8];exact hp'.2 j u hu)
  cases dd <;> simp only[Zu,SQ]at hd <;>
   simp[OA,Q2,this,asAddr,loadVar,isAgg,run_underlying ht,loadCells,sizeOf,typeInfo,c,d,hload]
theorem Bz{k₀:Nat}{fn:Func}{R:Value->World->Prop}{q:ResultVar}[hl:V9 fn.results (#[q])](h:Got P L w q v)(hR:R v w):At ⟨k₀,[]⟩ (Ox P fn R) .ret L w:=
 λa fr=>⟨fr.defers,v,by rw[QG,hl.e];simp[h.run fr],v,Z,hR⟩
theorem AP{k₀:Nat}{fn:Func}{R:Value->World->Prop}{q q':ResultVar}{v':Value}[hl:V9 fn.results (#[q,q'])](h:Got P L w q v)(h':Got P L w q' v')(hR:R (.tuple #[v,v']) w):At ⟨k₀,[]⟩ (Ox P fn R) .ret L w:=
 λa fr=>⟨fr.defers,_,by rw[QG,hl.e];simp[h.run fr,h'.run fr],_,Z,hR⟩
theorem Aa9{k₀:Nat}{fn:Func}{R:Value->World->Prop}{q q' q'':ResultVar}{v' v'':Value}[hl:V9 fn.results (#[q,q',q''])](h:Got P L w q v)(h':Got P L w q' v')(h'':Got P L w q'' v'')(hR:R (.tuple #[v,v',v'']) w):At ⟨k₀,[]⟩ (Ox P fn R) .ret L w:=
 λa fr=>⟨fr.defers,_,by rw[QG,hl.e];simp[h.run fr,h'.run fr,h''.run fr],_,Z,hR⟩
theorem Aj7{k₀:Nat}{fn:Func}{R:Value->World->Prop}[hl:V9 fn.results (#[])](hR:R (.tuple #[]) w):At ⟨k₀,[]⟩ (Ox P fn R) .ret L w:=
 λ_a fr=>⟨fr.defers,_,results_none hl.e _ _ _,_,Z,hR⟩
theorem KX{k₀:Nat}{fn:Func}{R:Value->World->Prop}[hl:V9 fn.results (#[])](hR:R (.tuple #[]) w):At ⟨k₀,[]⟩ (Ox P fn R) .normal L w:=
 λ_a fr=>⟨fr.defers,_,results_none hl.e _ _ _,_,Z,hR⟩
end
end Go.E
namespace Go.E
open Go Go.RowKit
def R8(n:Nat)(done:List Nat):Array Bool:=done.foldr (λi a=>a.setIfInBounds i true) (Ke n false)
section
variable {P:Program}{n:Sz}{l:List Oper}{Q:Exit->Act->World->Prop}{L:ZC}{w:World}{y:Code}{fuel:Nat}{m:Nat}{done:List Nat}
theorem Af6{i:Nat}{o:Oper}{K:Act->World->Prop}{a:Act}(ho:G6 l i=TI o)(h:wpList P l.toArray (Exit.then K Q) [o] a w)(_hQ:∀e a w,e≠.normal->Exit.then K Q e a w->Q e a w):wpOp P l.toArray Q i K a w:=by
 have ho':l.toArray[i]? = TI o:=by rw[Fx]at ho;simpa using ho
 unfold wpOp;simp only[ho'];simp only[wpList]at h
 split
 ·rename_i hw;rw[Xu hw]at h
  rcases h with h | ⟨b,h2⟩
  ·left
   unfold Oper.wp at h ⊢;generalize (execOp a.eval o).run P w=r at h ⊢
   cases r with
   | ok nx w'=>
    cases nx <;> simp only[Oper.upon]at h ⊢
    case value v=>exact h
    case skip=>exact h
    case defer=>exact h
    case enter f args=>
     exact h.mono λe w'' he=>by
      cases e with
      | returned v=>exact he
      | panicked ch=>exact he
      | outgrown=>exact he
    case row=>exact h
   | halt hh w'=>cases hh <;> simp only[Oper.upon]at h ⊢ <;> exact h
  ·exact .inr ⟨b,h2⟩
 ·rename_i hw;rw[Pb hw]at h;exact h
end
section
variable {P:Program}{n:Sz}{lo:List Oper}{Q:Exit->Act->World->Prop}{L:ZC}{w w0:World}{O:List Bv}{tr:Tr}{ix:Nat}
 {d:Nat}{ty:TypeId}{pos:String}{af:Array Edge}{α:Type}{r:Rp α}{x y:Operand}{v:Value}{t e:TypeId}
def AlJ[Dr]{bt m:Nat}{k k':IntKind}{zz:Value}{c c':Int}(ho:G6 lo ix=TI ⟨TI d,.makeSlice t x y,ty,pos,af,none⟩)(hx:ev L x=TI (.int k c))(hy:ev L y=TI (.int k' c'))(hcc:c=m/\c'=m)(ht:P.underlying t=TI (.slice e))(hz:Zr P e zz 1 bt)(hzc:zz.cells = #[zz])(hn:Uu d n.n=true)(hL:AB w0 O w)(hm:bt * m<=281474976710656/\m<=9223372036854775807)
  (h:∀v' w',Ext w w'->AB w0 (.row v' e 1 m (Xk m zz)::O) w'->Le (fz w O) (fz w' (.row v' e 1 m (Xk m zz)::O))->D P n lo Q tr ((d,v')::L) w'):D P n lo Q (.h ix tr) L w:=by
 obtain⟨inf,g,i,j,l⟩:=hz.parts;obtain⟨rfl,rfl⟩:=hcc;refine WT (λb v' w'=>w'.ownsRow b.heap.size e 1 v' m (Xk m zz)) ho hn (λb a ρ hρ=>?_) (λb v' w' a f hR=>?_)
 ·obtain⟨w',hr,ho',hg⟩:=run_make_full (P:=P) b b.heap.size t e inf zz 1 ht g i j k k' m (by rw[l];exact hm.1) (by unfold maxLen;omega) (KN _);rw[hzc,Z5,toList_madeCells_one]at ho';exact⟨_,w',by simp[execOp,hρ x _ hx,hρ y _ hy,hr],Sr (Tn _ _ _ _ hr) hg,ho'⟩
 ·obtain⟨o,h2⟩:=NR (hL.call a) f hR;exact h v' w' (a.trans f) o ((A3 hL a).trans h2)
def Le.mono{A B C:PH}(h:Le A B)(k:Le B C):Le A C:=h.trans k
def AB.pick[Dr]{i:Nat}{q:Bv}(h:AB w0 O w)(hi:Ba O i=TI q):AB w0 (q::LQ O i) w:=h.perm (DF hi).symm
end
end Go.E
namespace Go.E
open Go Go.RowKit
section
variable {P:Program}{L:ZC}{w:World}{x y:Operand}{ty t t':TypeId}
def AgT[Dr]{a b:Int}(hx:ev L x=TI (.int .i64 a))(hy:ev L y=TI (.int .i64 b)):AY P L w (.call ⟨.builtin .max,#[x,y],#[t,t']⟩) ty (.int .i64 (max a b)):=by
 intro w' _ ρ hρ dst pos af g;simp[execOp,resolve,hρ x _ hx,hρ y _ hy,invoke,builtin,Builtin.max_,Builtin.max2]
 by_cases h:a<b
 ·simp[h,show max a b=b by omega]
 ·simp[h,show max a b=a by omega]
end
def un(A B:PH):PH:=λb=>match B b with
 | some o=>TI o
 | none=>A b
theorem Ya{A B C:PH}(hA:Le A C)(hB:Le B C):Le (un A B) C:=λb o e=>by
 unfold un at e
 cases h:B b with
 | some o'=>rw[h]at e;cases e;exact hB b o h
 | none=>rw[h]at e;exact hA b o e
def Gr{A B:PH}:Le B (un A B):=λb o e=>by unfold un;rw[e]
def Mn{w w':World}{A:PH}(hA:Le A (hp w)):Le A (un A (nw w w')):=λb o e=>by
 have hb:b<w.heap.size:=lt_of_heap (hA b o e);unfold un nw;rw[Pb U];exact e
def sF[Dr]{P:Program}{n:Sz}{Q:Exit->Act->World->Prop}{L:ZC}{w:World}{d:Nat}{ty:TypeId}{pos:String}{af:Array Edge}{ops:Array Oper}{rest:List Oper}{c x y:Operand}{b:Bool}{v:Value}[hc:V9 (ev L c) (TI (.bool b))](hb:b=true)(hx:ev L x=TI v)[hn:V9 (Uu d n.n) true](h:S P n ops Q rest ((d,v)::L) w):S P n ops Q (⟨TI d,(.pick c x y),ty,pos,af,none⟩::rest) L w:=AJ (CA (hc:=⟨hc.e⟩) hb hx) (hn:=⟨hn.e⟩) h
def sG[Dr]{P:Program}{n:Sz}{Q:Exit->Act->World->Prop}{L:ZC}{w:World}{d:Nat}{ty:TypeId}{pos:String}{af:Array Edge}{ops:Array Oper}{rest:List Oper}{c x y:Operand}{b:Bool}{v:Value}[hc:V9 (ev L c) (TI (.bool b))](hb:b=false)(hx:ev L y=TI v)[hn:V9 (Uu d n.n) true](h:S P n ops Q rest ((d,v)::L) w):S P n ops Q (⟨TI d,(.pick c x y),ty,pos,af,none⟩::rest) L w:=AJ (B4 (hc:=⟨hc.e⟩) hb hx) (hn:=⟨hn.e⟩) h
def sI[Dr]{P:Program}{n:Sz}{Q:Exit->Act->World->Prop}{L:ZC}{w:World}{d:Nat}{ty:TypeId}{pos:String}{af:Array Edge}{op:Op}{ops:Array Oper}{rest:List Oper}{v:Value}(a:pu L op=TI v)[hn:V9 (Uu d n.n) true](h:S P n ops Q rest ((d,v)::L) w):S P n ops Q (⟨TI d,op,ty,pos,af,none⟩::rest) L w:=AJ (Az a) (hn:=⟨hn.e⟩) h
def sA[Dr]{P:Program}{n:Sz}{Q:Exit->Act->World->Prop}{L:ZC}{w:World}{d:Nat}{ty:TypeId}{t:TypeId}{pos:String}{af:Array Edge}{x:Operand}{ops:Array Oper}{rest:List Oper}{p:Addr}{fs:Array Field}{f:Nat}{fd:Field}{zz:Value}{sz bt:Nat}(hx:ev L x=TI (.pointer (TI p)))(ht:P.underlying t=TI (.struct fs))(hf:fs[f]? = TI fd)(hz:Zr P fd.type zz sz bt)[hn:V9 (Uu d n.n) true](h:S P n ops Q rest ((d,(.pointer (TI (p.add fd.offset))))::L) w)(hne:sz≠0:=by decide):S P n ops Q (⟨TI d,(.fieldAddr t x f),ty,pos,af,none⟩::rest) L w:=AJ (A7 hx ht hf hz hne) (hn:=⟨hn.e⟩) h
def sB[Dr]{P:Program}{n:Sz}{Q:Exit->Act->World->Prop}{L:ZC}{w:World}{w0:World}{O:List Bv}{d:Nat}{ty:TypeId}{t:TypeId}{pos:String}{af:Array Edge}{x:Operand}{ops:Array Oper}{rest:List Oper}(i:Nat){b off:Nat}{cs:LR}{t':TypeId}{u:Value}{dd:TypeDesc}(hx:ev L x=TI (.pointer (TI ⟨b,off,none⟩)))[ht:V9 (P.underlying t) (TI dd)][hd:V9 (Ul dd) true](hL:AB w0 O w)(hp:(Ba O i,nth cs off)=(TI (.box b cs t'),TI u))[hn:V9 (Uu d n.n) true](h:S P n ops Q rest ((d,u)::L) w):S P n ops Q (⟨TI d,(.load t x),ty,pos,af,none⟩::rest) L w:=AJ (AG i hx (ht:=⟨ht.e⟩) (hd:=⟨hd.e⟩) hL hp) (hn:=⟨hn.e⟩) h
def sC[Dr]{P:Program}{n:Sz}{Q:Exit->Act->World->Prop}{L:ZC}{w:World}{w0:World}{O:List Bv}{d:Nat}{ty:TypeId}{t:TypeId}{pos:String}{af:Array Edge}{x:Operand}{ops:Array Oper}{rest:List Oper}(i:Nat){b:Nat}{cs:LR}{t':TypeId}{dd:TypeDesc}{zz:Value}{bt:Nat}(hx:ev L x=TI (.pointer (TI ⟨b,0,none⟩)))[ht:V9 (P.underlying t) (TI dd)][hd:V9 (Zu dd) true](hz:Zr P t zz cs.length bt)(hL:AB w0 O w)(hi:Ba O i=TI (.box b cs t'))[hn:V9 (Uu d n.n) true](h:S P n ops Q rest ((d,(.agg cs.toArray))::L) w):S P n ops Q (⟨TI d,(.load t x),ty,pos,af,none⟩::rest) L w:=AJ (C6 i hx (ht:=⟨ht.e⟩) (hd:=⟨hd.e⟩) hz hL hi) (hn:=⟨hn.e⟩) h
def sE[Dr]{α:Type}{P:Program}{n:Sz}{Q:Exit->Act->World->Prop}{L:ZC}{w:World}{d:Nat}{ty:TypeId}{t:TypeId}{e:TypeId}{pos:String}{af:Array Edge}{x:Operand}{v:Value}{r:Rp α}{H:PH}{ops:Array Oper}{rest:List Oper}{l:List α}[hx:V9 (ev L x) (TI v)][ht:V9 (P.underlying t) (TI (.slice e))](hv:As r H v l)[hn:V9 (Uu d n.n) true](h:S P n ops Q rest ((d,(.int .i64 (l.length:Int)))::L) w):S P n ops Q (⟨TI d,(.call ⟨.builtin .len,#[x],#[t]⟩),ty,pos,af,none⟩::rest) L w:=AJ (W2 (hx:=⟨hx.e⟩) (ht:=⟨ht.e⟩) hv) (hn:=⟨hn.e⟩) h
def sH[Dr]{P:Program}{n:Sz}{Q:Exit->Act->World->Prop}{L:ZC}{w:World}{d:Nat}{ty:TypeId}{t:TypeId}{pos:String}{af:Array Edge}{x:Operand}{H:PH}{ops:Array Oper}{rest:List Oper}{p:Addr}{u:Value}{c:LR}{dd:TypeDesc}[hx:V9 (ev L x) (TI (.pointer (TI p)))][ht:V9 (P.underlying t) (TI dd)][hd:V9 (Ul dd) true](hp':Gp H p (u::c))(hs:Le H (hp w))[hn:V9 (Uu d n.n) true](h:S P n ops Q rest ((d,u)::L) w):S P n ops Q (⟨TI d,(.load t x),ty,pos,af,none⟩::rest) L w:=AJ (B5 (hx:=⟨hx.e⟩) (ht:=⟨ht.e⟩) (hd:=⟨hd.e⟩) hp' hs) (hn:=⟨hn.e⟩) h
def sD[Dr]{P:Program}{n:Sz}{Q:Exit->Act->World->Prop}{L:ZC}{w:World}{d:Nat}{ty:TypeId}{t:TypeId}{t':TypeId}{pos:String}{af:Array Edge}{x:Operand}{y:Operand}{ops:Array Oper}{rest:List Oper}{op:BinOp}{a b c:Int}[hq:V9 (ev L x,ev L y,arI op a b) ((TI (.int .i64 a),TI (.int .i64 b),TI c))](e : -9223372036854775808<=c/\c<=9223372036854775807)[hn:V9 (Uu d n.n) true](h:S P n ops Q rest ((d,(.int .i64 c))::L) w):S P n ops Q (⟨TI d,(.binOp op t x y t'),ty,pos,af,none⟩::rest) L w:=AJ (Gq (hq:=⟨hq.e⟩) e) (hn:=⟨hn.e⟩) h
def tJ{P:Program}{n:Sz}{Q:Exit->Act->World->Prop}{L:ZC}{w:World}{x y:Code}{id:Nat}(h:W P n x (Exit.inBlock id (Si P y Q)) L w):W P n (.seq (.block id x) y) Q L w:=PW (A4 h)
end Go.E
end
noncomputable section
namespace Go.L
abbrev AL(x:Int):Prop:=-9223372036854775808<=x/\x<=9223372036854775807
def Ay{α:Type}(p:Prop)[Decidable p](k:Option α):Option α:=if p then k else none
def Fp{α:Type}{p:Prop}[Decidable p]{k:Option α}{e:α}(h:Ay p k=TI e):p/\k=TI e:=by
 unfold Ay at h
 split at h
 ·rename_i hp;exact⟨hp,h⟩
 ·cases h
def Ab{α:Type}{p:Prop}[Decidable p]{k:Option α}(h:p):Ay p k=k:=by unfold Ay;rw[Xu h]
def bind_some{α β:Type}{m:Option α}{f:α->Option β}{e:β}(h:m.bind f=TI e):∃x,m=TI x/\f x=TI e:=Option.bind_eq_some_iff.1 h
def Ag{α:Type}{p G:Prop}[Decidable p]{k:Option α}{e:α}(h:Ay p k=TI e)(f:p->k=TI e->G):G:=f (Fp h).1 (Fp h).2
def Ah{α β:Type}{G:Prop}{m:Option α}{f:α->Option β}{e:β}(h:m.bind f=TI e)(k:∀x,m=TI x->f x=TI e->G):G:=by
 obtain⟨x,a,h2⟩:=bind_some h;exact k x a h2
def Yb{α:Type}{b:Bool}{x y:Option α}{e:α}(hb:b=true)(h:(if b then x else y)=TI e):x=TI e:=by rw[Xu hb]at h;exact h
def Yc{α:Type}{b:Bool}{x y:Option α}{e:α}(hb:b=false)(h:(if b then x else y)=TI e):y=TI e:=by rw[Pb (by rw[hb];decide)]at h;exact h
def JP{α:Type}{p:Prop}[Decidable p]{x y:Option α}{e:α}(hb:p)(h:(if p then x else y)=TI e):x=TI e:=by rw[Xu hb]at h;exact h
def JQ{α:Type}{p:Prop}[Decidable p]{x y:Option α}{e:α}(hb : ¬p)(h:(if p then x else y)=TI e):y=TI e:=by rw[Pb hb]at h;exact h
section
variable {σ ρ:Type}
def D6(b:σ->Option (σ⊕ρ)):Nat->σ->Option ρ
 | 0,_=>none
 | n+1,s=>(b s).bind λe=>match e with | .inl s'=>D6 b n s' | .inr r=>some r
def AX(b:σ->Option (σ⊕ρ))(n:Nat)(r:ρ):σ⊕ρ->Prop
 | .inl s=>D6 b n s=TI r
 | .inr x=>x=r
theorem Aw{b:σ->Option (σ⊕ρ)}{n:Nat}{s:σ}{r:ρ}(h:D6 b n s=TI r):∃m e,n=m+1/\b s=TI e/\AX b m r e:=by
 cases n with
 | zero=>cases h
 | succ m=>
  obtain⟨e,a,h2⟩:=Option.bind_eq_some_iff.1 h;refine⟨m,e,Z,a,?_⟩
  cases e with
  | inl s'=>exact h2
  | inr x=>exact Option.some.inj h2
theorem AX.out{b:σ->Option (σ⊕ρ)}{n:Nat}{r:ρ}{e:σ⊕ρ}{m:Option ρ}(h:m.map Sum.inr=TI e)(hm:AX b n r e):m=TI r:=by
 cases m with
 | none=>cases h
 | some x=>cases h;exact congrArg TI hm
def AX.again{b:σ->Option (σ⊕ρ)}{n:Nat}{r:ρ}{e:σ⊕ρ}{s:σ}(h:TI (Sum.inl s)=TI e)(hm:AX b n r e):D6 b n s=TI r:=by cases h;exact hm
theorem Yd{b:σ->Option (σ⊕ρ)}:∀{n:Nat}{s:σ}{r:ρ} (k:Nat),D6 b n s=TI r->D6 b (n+k) s=TI r
 | 0,_,_,_,h=>by cases h
 | n+1,s,r,k,h=>by
  obtain⟨m,e,hm,a,h2⟩:=Aw h;obtain rfl:n=m:=by omega
  rw[show n+1+k=(n+k)+1 by omega,D6,a]
  cases e with
  | inl s'=>exact Yd k h2
  | inr x=>exact congrArg TI h2
def Aez{b:σ->Option (σ⊕ρ)}{n m:Nat}{s:σ}{r q:ρ}(h:D6 b n s=TI r)(k:D6 b m s=TI q):r=q:=by
 have a:=Yd m h;have h2:=Yd n k;rw[Nat.add_comm]at h2;exact Option.some.inj (a.symm.trans h2)
noncomputable def run(b:σ->Option (σ⊕ρ))(s:σ):Option ρ:=
 open Classical in match D6 b 1000000 s with
 | some r=>TI r
 | none=>if h:∃r,∃n,D6 b n s=TI r then TI h.choose else none
def Adx{b:σ->Option (σ⊕ρ)}{n:Nat}{s:σ}{r:ρ}(h:D6 b n s=TI r):run b s=TI r:=by
 have hx:∃r,∃n,D6 b n s=TI r:=⟨r,n,h⟩;unfold run
 split
 ·rename_i q hq;rw[Aez hq h]
 ·rw[dif_pos hx];obtain⟨m,hm⟩:=hx.choose_spec;rw[Aez hm h]
def Ax{b:σ->Option (σ⊕ρ)}{s:σ}{r:ρ}(h:run b s=TI r):∃n,D6 b n s=TI r:=by
 unfold run at h
 split at h
 ·rename_i q hq
  cases h
  exact⟨_,hq⟩
 ·split at h
  ·rename_i hx
   cases h
   exact hx.choose_spec
  ·cases h
attribute [irreducible] run
theorem AE{b:σ->Option (σ⊕ρ)}{s s':σ}(h:b s=TI (.inl s')):run b s=run b s':=by
 cases hr:run b s' with
 | some r=>
  obtain⟨n,hn⟩:=Ax hr;exact Adx (n:=n+1) (by rw[D6,h];exact hn)
 | none=>
  cases hs:run b s with
  | none=>rfl
  | some r=>
   obtain⟨n,hn⟩:=Ax hs;obtain⟨m,e,_,a,h2⟩:=Aw hn;rw[h]at a;cases a;rw[Adx h2]at hr;cases hr
theorem A2{b:σ->Option (σ⊕ρ)}{s:σ}{m:Option ρ}(h:b s=m.map .inr):run b s=m:=by
 cases m with
 | some r=>exact Adx (n:=1) (by rw[D6,h];rfl)
 | none=>
  cases hs:run b s with
  | none=>rfl
  | some r=>
   obtain⟨n,hn⟩:=Ax hs;obtain⟨m,e,_,a,h2⟩:=Aw hn;rw[h]at a;cases a
theorem Ae0{b:σ->Option (σ⊕ρ)}(I:σ->Prop)(μ:σ->Nat){m:Option ρ}(step:∀s,I s->(∃s',b s=TI (.inl s')/\I s'/\μ s'<μ s)\/b s=m.map .inr){s:σ}(h:I s):run b s=m:=by
 have key:∀k s,μ s=k->I s->run b s=m:=by
  intro k
  induction k using Nat.strongRecOn with
  | _ k ih=>
   intro s hk hI
   rcases step s hI with ⟨s',a,h2,h3⟩ | a
   ·rw[AE a];exact ih (μ s') U s' Z h2
   ·exact A2 a
 exact key _ s Z h
theorem BM{b:σ->Option (σ⊕ρ)}(st:Nat->σ)(k:Nat){m:Option ρ}(step:∀i,i<k->b (st i)=TI (.inl (st (i+1))))(last:b (st k)=m.map .inr)(i:Nat)(hi:i<=k:=by exact Nat.zero_le _):run b (st i)=m:=by
 have key:∀d i,i+d=k->run b (st i)=m:=by
  intro d
  induction d with
  | zero=>intro i h;rw[Pf]at h;subst h;exact A2 last
  | succ d ih=>intro i h;rw[AE (step i U)];exact ih (i+1) U
 exact key (k - i) i U
end
def u8(a:Int):UInt8:=SJ (a % 256).toNat
def AbU(a:Int):((u8 a).toNat:Int)=a % 256:=by
 unfold u8;rw[UInt8.toNat_ofNat'];omega
section
variable {α:Type} (le:α->α->Bool)
def SI:Nat->List α->List α->List α
 | _,[],ys=>ys
 | _,x::xs,[]=>x::xs
 | 0,_,_=>[]
 | n+1,x::xs,y::ys=>if le x y then x::SI n xs (y::ys)else y::SI n (x::xs) ys
theorem AaA:∀(n:Nat) (xs ys:List α),xs.length+ys.length<=n->SI le n xs ys=List.merge xs ys le
 | n,[],ys,_=>by unfold SI;simp
 | n,x::xs,[],_=>by unfold SI;simp
 | 0,x::xs,y::ys,h=>by simp at h
 | n+1,x::xs,y::ys,h=>by
  simp only[PF]at h;unfold SI;rw[List.cons_merge_cons,AaA n xs (y::ys) (by simp only[PF];omega),AaA n (x::xs) ys (by simp only[PF];omega)]
def msF:Nat->List α->List α
 | n+1,a::b::l=>SI le (l.length+2) (msF n ((a::b::l).take ((l.length+3) / 2))) (msF n ((a::b::l).drop ((l.length+3) / 2)))
 | _,l=>l
theorem Adz:∀(n:Nat) (l:List α),l.length<=n+1->msF le n l=l.mergeSort le
 | 0,[],_=>by simp[msF]
 | 0,[a],_=>by simp[msF]
 | 0,a::b::l,h=>by simp at h
 | n+1,[],_=>by simp[msF]
 | n+1,[a],_=>by simp[msF]
 | n+1,a::b::l,h=>by
  simp only[PF]at h;have c:=Adz n ((a::b::l).take ((l.length+3) / 2)) (by simp only[Y4,PF];omega);have d:=Adz n ((a::b::l).drop ((l.length+3) / 2)) (by simp only[U1,PF];omega);unfold msF;rw[c,d,AaA _ _ _ _ (by rw[YJ,YJ,Y4,U1];simp only[PF];omega)]
  conv=>rhs;rw[List.mergeSort]
  simp only[List.MergeSort.Internal.splitInTwo_fst,List.MergeSort.Internal.splitInTwo_snd,PF]
def ZH(l:List α):List α:=msF le l.length l
def Ss(l:List α):ZH le l=l.mergeSort le:=Adz le _ l (Nat.le_succ _)
end
end Go.L
namespace Go.E
open Go Go.RowKit
def gz(H:PH)(w0 w:World)(O:List Bv):PH:=un H (nf w0 w O)
section
variable {H:PH}{w0 w w':World}{O O':List Bv}
theorem Ac5{A B:PH}(hA:Le A (hp w0))(hB:∀b o,B b=TI o->w0.heap.size<=b):Le A (un A B):=λb o e=>by
 have hb:b<w0.heap.size:=lt_of_heap (hA b o e);unfold un
 cases h:B b with
 | none=>exact e
 | some o'=>have:=hB b o' h;omega
def AmG{b:Nat}{o:Obj}(h:nf w0 w O b=TI o):w0.heap.size<=b:=by
 unfold nf at h
 split at h
 ·assumption
 ·cases h
def Ad(hH:Le H (hp w0):=by exact hH):Le H (gz H w0 w O):=Ac5 hH (λ_ _ h=>AmG h)
def UD:Le (nf w0 w O) (gz H w0 w O):=Gr
def Qzx{A B C:PH}(hA:Le A (un A C))(h:Le B C):Le (un A B) (un A C):=Ya hA (h.trans Gr)
def Aa(h:Le (fz w O) (fz w' O'))(hH:Le H (hp w0):=by exact hH):Le (gz H w0 w O) (gz H w0 w' O'):=Qzx  Ad (Aj6 h)
def AgU[Dr](hH:Le H (hp w0))(hL:AB w0 O w):Le (gz H w0 w O) (fz w O):=Ya (hH.trans hL.AmA) Ale
def Ae[Dr](hL:AB w0 O w)(hH:Le H (hp w0):=by exact hH):Le (gz H w0 w O) (hp w):=(AgU hH hL).trans (Qn _ _)
def Ye[Dr](hL:AB w0 O w):Le (nw w w') (gz H w0 w' O):=(AmB hL).trans Gr
def Da[Dr](hL:AB w0 O w)(hx:Ext w w')(hH:Le H (hp w0):=by exact hH):Le (un (gz H w0 w O) (nw w w')) (gz H w0 w' O):=Ya (Aa (A3 hL hx)) (Ye hL)
def Dl(hH:Le H (hp w0):=by exact hH):Le (gz H w0 w O) (un H (nw w0 w)):=Ya (Mn hH) (Alf.trans Gr)
def AB.rG[Dr](_:AB w0 O w)(H:PH):Le (gz H w0 w O) (gz H w0 w O):=Le.refl _
end
def B2{α:Type}(e:TypeId)(r:Rp α)(H:PH)(w w':World)(v:Value)(l:List α):Prop:=
 ∃xs,w'.ownsRow w.heap.size e r.sz v l.length xs/\Ao r (un H (TK w w' v)) l xs
section
variable {α:Type}{e:TypeId}{r:Rp α}{H:PH}{w0 w w':World}{O:List Bv}{v:Value}{l:List α}{i:Nat}{xs:LR}
def AbV{b:Nat}{o:Obj}(h:TK w w' v b=TI o):w.heap.size<=b:=by
 unfold TK nw at h
 split at h
 ·cases h
 ·split at h
  ·assumption
  ·cases h
def B2.vec(hH:Le H (hp w))(h:B2 e r H w w' v l):As r (un H (nw w w')) v l:=by
 obtain⟨xs,a,h2⟩:=h;refine QF a h2 (Ya (Mn hH) (AbL.trans Gr)) λk hk o ho=>?_;have:=(a.lt k hk).1;apply Gr;unfold nw;rw[Xu this];exact ho
def B2.BB[Dr](h:B2 e r (gz H w0 w O) w w' v l)(hH:Le H (hp w0))(hL:AB w0 O w)(hx:Ext w w'):As r (gz H w0 w' O) v l:=(h.vec (Ae hL)).mono (Da hL hx)
def B2.take[Dr](h:B2 e r (gz H w0 w O) w w' v l)(hH:Le H (hp w0))(hL:AB w0 O w)(hx:Ext w w'):∃xs,AB w0 (.row v e r.sz l.length xs::O) w'/\Le (fz w O) (fz w' (.row v e r.sz l.length xs::O))/\Ao r (gz H w0 w' (.row v e r.sz l.length xs::O)) l xs:=by
 obtain⟨xs,c,h2⟩:=h;obtain⟨h3,a⟩:=NR hL hx c;refine⟨xs,h3,a,h2.mono (Ya (Aa a) (λb o hb=>UD b o ?_))⟩;have hge:w0.heap.size<=b:=RU hL.ext.size (AbV hb);unfold nf;rw[Xu hge];exact AbK hL b o hb
def B2.nil{H:PH}:B2 e r H w w' (.slice none 0 0) ([]:List α):=⟨[],World.ownsRow_nil w' _ e _,.nil⟩
def AB.Ev[Dr](hL:AB w0 O w)(hH:Le H (hp w0))(hi:Ba O i=TI (.row v e r.sz l.length xs))(he:Ao r (gz H w0 w O) l xs):B2 e r H w0 w v l:=
 ⟨xs,UB (hL.at hi) (λk hk=>hL.own _ ((DF hi).mem_iff.2 (.head _)) k hk),he.mono (Ya (Ac5 hH (λ_ _ h=>AbV h)) ((AlG hi).trans Gr))⟩
def AB.BB[Dr](hL:AB w0 O w)(hH:Le H (hp w0))(hi:Ba O i=TI (.row v e r.sz l.length xs))(he:Ao r (gz H w0 w O) l xs):As r (gz H w0 w (LQ O i)) v l:=
 QF (hL.at hi) he (Aa (PY hi)) (λk hk o ho=>UD k o (by
  unfold nf;rw[Xu (hL.own _ ((DF hi).mem_iff.2 (.head _)) k hk),XU hi hk hL.dis];exact ho))
def AB.Jv[Dr](hL:AB w0 O w)(hH:Le H (hp w0))(hi:Ba O i=TI (.row v e r.sz l.length xs))(he:Ao r (gz H w0 w O) l xs):As r (hp w) v l:=hL.AnM hi (he.mono (AgU hH hL))
end
def Rp.st:Rp Qm:=⟨1,λ_ x c=>c=[.string ⟨x.toArray⟩],λh=>by simp[h],λ_ h=>h,λh u hu=>by subst h;simp at hu;subst hu;rfl⟩
theorem Ao.set{α:Type}{r:Rp α}{H:PH}{l:List α}{cs:LR}{x:α}{u:Value}(h:Ao r H l cs)(hx:r.rel H x [u]):∀i,i<l.length->Ao r H (l.set i x) (cs.set (i * r.sz) u):=by
 have hsz:r.sz=1:=(r.len hx).symm
 induction h with
 | nil=>intro i hi;cases hi
 | @cons y l c cs h t ih=>
  intro i hi;have hc:c.length=1:=by rw[r.len h,hsz]
  obtain⟨z,rfl⟩:=List.length_eq_one_iff.1 hc
  cases i with
  | zero=>rw[Nat.zero_mul];exact .cons hx t
  | succ i=>
   rw[hsz,Z5]at *;simp only[PF]at hi;have:=ih i U;rw[Z5]at this;exact .cons h this
section
variable {P:Program}{n:Sz}{ops:Array Oper}{Q:Exit->Act->World->Prop}{L:ZC}{w w0:World}{O:List Bv}{rest:List Oper}
 {d:Nat}{ty:TypeId}{pos:String}{af:Array Edge}{α:Type}{r:Rp α}{x y:Operand}{v u:Value}{t t' e:TypeId}{H:PH}
abbrev Dx(bt n:Nat):Prop:=n * bt<=140737488355328/\n<=9223372036854775807
def Bf[Dr](i:Nat){bt:Nat}{zz:Value}(l m:List α){xs:LR}(hx:ev L x=TI v)[hy:V9 (ev L y) (TI u)](ht:P.underlying t=TI (.slice e))[hz:Qqz P e zz r.sz bt][hzs:V9 zz.cells.size r.sz][hn:V9 (Uu d n.n) true]
   (hL:AB w0 O w) (hi:Ba O i=TI (.row v e r.sz l.length xs)) (he:Ao r (gz H w0 w O) l xs) (hm:As r (gz H w0 w O) u m) (hby:Dx bt (l.length+m.length))
  (h:∀v' w' xs',AB w0 (Ci O i (.row v' e r.sz (l++m).length xs')) w'->Le (fz w O) (fz w' (Ci O i (.row v' e r.sz (l++m).length xs')))->Ao r (gz H w0 w' (Ci O i (.row v' e r.sz (l++m).length xs'))) (l++m) xs'->S P n ops Q rest ((d,v')::L) w')(hsz:0<r.sz:=by decide)(hH:Le H (hp w0):=by exact hH):
  S P n ops Q (⟨TI d,.call ⟨.builtin .append,#[x,y],#[t,t]⟩,ty,pos,af,none⟩::rest) L w:=by
 obtain⟨news,a,hs⟩:=hm.elems;refine XY i hx hy.e ht hz.e hzs.e hsz hn.e hL hi (hs.mono (Ae hL)) a.one hby λv' w' b h2=>?_;rw[<- List.length_append]at b h2;exact h v' w' _ b h2 ((he.append a).mono (Aa h2))
def JR[Dr](i:Nat){bt k:Nat}(j:Nat){zz:Value}{l:List α}{xs:LR}{p:Addr}(z:α)[hx:V9 (ev L x) (TI (.pointer (TI p)))](hy:ev L y=TI u)(hu:u.oneCell'=true)[hz:Qqz P t zz 1 bt](hH:Le H (hp w0))(hL:AB w0 O w)(hi:Ba O i=TI (.row v e r.sz l.length xs))(he:Ao r (gz H w0 w O) l xs)
  (hp':P9 v k p) [hk:V9 k (j * r.sz)] (hj:j<l.length) (hz':r.rel (gz H w0 w O) z [u])
  (h:∀w' xs',AB w0 (Ci O i (.row v e r.sz (l.set j z).length xs')) w'->Le (fz w O) (fz w' (Ci O i (.row v e r.sz (l.set j z).length xs')))->Ao r (gz H w0 w' (Ci O i (.row v e r.sz (l.set j z).length xs'))) (l.set j z) xs'->S P n ops Q rest L w') :
  S P n ops Q (⟨none,.store t x y,ty,pos,af,none⟩::rest) L w:=by
 have hk:=hk.e
 subst hk;have hlen:=he.len;have hsz:r.sz=1:=(r.len hz').symm;refine AgP i hx.e hy hu hz.e hL hi hp' (by rw[hlen,hsz];omega) λw' a h2=>?_;have b:l.length=(l.set j z).length:=by simp
 rw[b]at a h2;exact h w' _ a h2 ((he.set hz' j hj).mono (Aa h2))
def Bi[Dr]{ps:List (Nat×Operand)}{vs:List (Nat×Value)}{cs:LR}(l:List α)[hp':V9 (evp L ps) (TI vs)](hr:∀w,(Instr.buildSlice t l.length vs.toArray).run P w=.ok (.slice (TI ⟨w.heap.size,0,none⟩) l.length l.length) (w.alloc (.cells cs.toArray e)))[hn:V9 (Uu d n.n) true](hL:AB w0 O w)(he:Ao r (gz H w0 w O) l cs)
  (h:∀u w',Ext w w'->AB w0 O w'->Le (fz w O) (fz w' O)->As r (gz H w0 w' O) u l->S P n ops Q rest ((d,u)::L) w')(hlen:l.length<=9223372036854775807:=by exact Bk 1)(hH:Le H (hp w0):=by exact hH):
  S P n ops Q (⟨TI d,.buildSlice t l.length ps.toArray,ty,pos,af,none⟩::rest) L w:=
 Ald (sz:=r.sz) hp'.e hr he.len hlen hn.e hL λu w' hx hL' hle hs _=>h u w' hx hL' hle (XX (he.mono (Aa hle)) (hs.mono (Ye hL)))
def KY[Dr]{ps:List (Nat×Operand)}{vs:List (Nat×Value)}{cs:LR}(l:List α)[hp':V9 (evp L ps) (TI vs)](hr:∀w,(Instr.buildSlice t l.length vs.toArray).run P w=.ok (.slice (TI ⟨w.heap.size,0,none⟩) l.length l.length) (w.alloc (.cells cs.toArray e)))[hn:V9 (Uu d n.n) true](hlen:l.length<=9223372036854775807)(hH:Le H (hp w0))(hL:AB w0 O w)(he:Ao r (gz H w0 w O) l cs)
  (h:∀u w' xs,AB w0 (.row u e r.sz l.length xs::O) w'->Le (fz w O) (fz w' (.row u e r.sz l.length xs::O))->Ao r (gz H w0 w' (.row u e r.sz l.length xs::O)) l xs->S P n ops Q rest ((d,u)::L) w') :
  S P n ops Q (⟨TI d,.buildSlice t l.length ps.toArray,ty,pos,af,none⟩::rest) L w:=
 Ald (sz:=r.sz) hp'.e hr he.len hlen hn.e hL λu w' hx _ _ _ ho=>by
  obtain⟨a,h2⟩:=NR hL hx ho;exact h u w' _ a h2 (he.mono (Aa h2))
theorem AaB[Dr]{bt:Nat}{k k':IntKind}{zz:Value}{c c':Int}{z:α}[hx:V9 (ev L x) (TI (.int k c))][hy:V9 (ev L y) (TI (.int k' c'))][hcc:V9 c' c](ht:P.underlying t=TI (.slice e))[hz:Qqz P e zz r.sz bt][hzc:V9 zz.cells (#[zz])](hrz:∀G,r.rel G z [zz])[hn:V9 (Uu d n.n) true](_hH:Le H (hp w0))(hL:AB w0 O w)(hm:0<=c/\(bt:Int) * c<=281474976710656/\c<=9223372036854775807)
  (h:∀v' w' xs,AB w0 (.row v' e r.sz (Xk c.toNat z).length xs::O) w'->Le (fz w O) (fz w' (.row v' e r.sz (Xk c.toNat z).length xs::O))->Ao r (gz H w0 w' (.row v' e r.sz (Xk c.toNat z).length xs::O)) (Xk c.toNat z) xs->S P n ops Q rest ((d,v')::L) w') :
  S P n ops Q (⟨TI d,.makeSlice t x y,ty,pos,af,none⟩::rest) L w:=by
 have hcc:=hcc.e
 have hz:=hz.e
 have hsz:r.sz=1:=(r.len (hrz H)).symm;obtain⟨m,rfl⟩:=Ph hm.1;subst hcc;rw[hsz]at hz;refine AlF (m:=m) hx.e hy.e ⟨Z,Z⟩ ht hz hzc.e hn.e hL ⟨by have:=hm.2.1;rw[<- Int.natCast_mul]at this;exact Int.ofNat_le.1 this,by omega⟩ λv' w' _ a h2=>?_;have b:m=(Xk (m:Int).toNat z).length:=by simp
 have f:Bv.row v' e 1 m (Xk m zz)=.row v' e r.sz (Xk (m:Int).toNat z).length (Xk m zz):=by rw[hsz,<- b]
 rw[f]at a h2;refine h v' w' _ a h2 ?_
 have key:∀(G:PH) (k:Nat),Ao r G (Xk k z) (Xk k zz):=λG k=>by
  induction k with
  | zero=>exact .nil
  | succ k ih=>exact .cons (c:=[zz]) (hrz G) ih
 exact key _ _
end
section
variable {P:Program}{n:Sz}{lo:List Oper}{Q:Exit->Act->World->Prop}{L:ZC}{w w0:World}{O:List Bv}{tr:Tr}{ix:Nat}
 {d:Nat}{ty:TypeId}{pos:String}{af:Array Edge}{α:Type}{r:Rp α}{x y:Operand}{v:Value}{t e:TypeId}{H:PH}
def St[Dr]{ps:List (Nat×Operand)}{vs:List (Nat×Value)}{cs:LR}(l:List α)(ho:G6 lo ix=TI ⟨TI d,.buildSlice t l.length ps.toArray,ty,pos,af,none⟩)(hp':evp L ps=TI vs)(hr:∀w,(Instr.buildSlice t l.length vs.toArray).run P w=.ok (.slice (TI ⟨w.heap.size,0,none⟩) l.length l.length) (w.alloc (.cells cs.toArray e)))(hn:Uu d n.n=true)(hlen:l.length<=9223372036854775807)(hH:Le H (hp w0))(hL:AB w0 O w)(he:Ao r (gz H w0 w O) l cs)
  (h:∀u w',Ext w w'->AB w0 O w'->Le (fz w O) (fz w' O)->As r (gz H w0 w' O) u l->D P n lo Q tr ((d,u)::L) w'):D P n lo Q (.h ix tr) L w:=by
 refine WT (λb u w'=>Z0 (nw b w') r.sz u l.length cs) ho hn (λb a ρ hρ=>?_) (λb u w' a c hR=>?_)
 ·have g:=hρ.Aj5 _ _ hp';have e':(ps.toArray.map λ(i,x)=>(i,ρ x))=vs.toArray:=by rw[<- g];simp
  refine⟨_,_,by simp[execOp,e',hr b,-List.map_toArray],C1 b (.cells cs.toArray e),he.len,TI ⟨b.heap.size,0,none⟩,l.length,Z,KN _,by unfold maxLen;omega,(λe=>by cases e),λA hA _=>?_⟩
  cases hA
  refine⟨Z,λj u hu=>?_⟩;simp only[Addr.add_lit,Q8,GC,nw,KN,if_true,heap_alloc_new]
  simpa using hu
 ·have f:=hL.call a;have hle:=(A3 hL a).trans (A3 f c);exact h u w' (a.trans c) (f.call c) hle (XX (he.mono (Aa hle)) (hR.mono (Ye f)))
theorem ME[Dr]{bt:Nat}{k k':IntKind}{zz:Value}{c c':Int}(z:α)(ho:G6 lo ix=TI ⟨TI d,.makeSlice t x y,ty,pos,af,none⟩)(hx:ev L x=TI (.int k c))(hy:ev L y=TI (.int k' c'))(hcc:c'=c)(ht:P.underlying t=TI (.slice e))[hz:Qqz P e zz r.sz bt][hzc:V9 zz.cells (#[zz])](hrz:∀G,r.rel G z [zz])(hn:Uu d n.n=true)(_hH:Le H (hp w0))(hL:AB w0 O w)(hm:0<=c/\(bt:Int) * c<=281474976710656/\c<=9223372036854775807)
  (h:∀v' w' xs,AB w0 (.row v' e r.sz (Xk c.toNat z).length xs::O) w'->Le (fz w O) (fz w' (.row v' e r.sz (Xk c.toNat z).length xs::O))->Ao r (gz H w0 w' (.row v' e r.sz (Xk c.toNat z).length xs::O)) (Xk c.toNat z) xs->D P n lo Q tr ((d,v')::L) w'):D P n lo Q (.h ix tr) L w:=by
 have hz:=hz.e
 have hsz:r.sz=1:=(r.len (hrz H)).symm;obtain⟨m,rfl⟩:=Ph hm.1;subst hcc;rw[hsz]at hz;refine AlJ (m:=m) ho hx hy ⟨Z,Z⟩ ht hz hzc.e hn hL ⟨by have:=hm.2.1;rw[<- Int.natCast_mul]at this;exact Int.ofNat_le.1 this,by omega⟩ λv' w' _ a h2=>?_;have b:m=(Xk (m:Int).toNat z).length:=by simp
 have f:Bv.row v' e 1 m (Xk m zz)=.row v' e r.sz (Xk (m:Int).toNat z).length (Xk m zz):=by rw[hsz,<- b]
 rw[f]at a h2;refine h v' w' _ a h2 ?_
 have key:∀(G:PH) (k:Nat),Ao r G (Xk k z) (Xk k zz):=λG k=>by
  induction k with
  | zero=>exact .nil
  | succ k ih=>exact .cons (c:=[zz]) (hrz G) ih
 exact key _ _
end
def An{i:Int}{n:Nat}(h:0<=i/\i<(n:Int)):i.toNat<n:=by omega
def BP{i n:Int}(h:0<=i/\i<n):i=(i.toNat:Int):=(Rt h.1).symm
def ZI{p:Prop}[Decidable p](h:(!decide p)=true): ¬p:=by simpa using h
def ZJ{p:Prop}[Decidable p](h:(!decide p)=false):p:=by simpa using h
section
variable {α:Type}{P:Program}{n:Sz}{Q:Exit->Act->World->Prop}{L:ZC}{w:World}{x y:Code}{t:Operand}{A B:Option α}{e:α}
def AH{b:Bool}[hc:V9 (ev L t) (TI (.bool b))](h:(if b then A else B)=TI e)(ht:b=true->A=TI e->W P n x Q L w)(hf:b=false->B=TI e->W P n y Q L w):W P n (.cond t x y) Q L w:=
 Adt hc.e (λc=>ht c (Go.L.Yb c h)) (λc=>hf c (Go.L.Yc c h))
def Ar{p:Prop}[Decidable p][hc:V9 (ev L t) (TI (.bool (decide p)))](h:(if p then A else B)=TI e)(ht:p->A=TI e->W P n x Q L w)(hf : ¬p->B=TI e->W P n y Q L w):W P n (.cond t x y) Q L w:=
 AnJ hc.e (λc=>ht c (Go.L.JP c h)) (λc=>hf c (Go.L.JQ c h))
def Bt{p:Prop}[Decidable p][hc:V9 (ev L t) (TI (.bool (!decide p)))](h:(if p then A else B)=TI e)(ht : ¬p->B=TI e->W P n x Q L w)(hf:p->A=TI e->W P n y Q L w):W P n (.cond t x y) Q L w:=
 Am9 hc.e (λc=>ht c (Go.L.JQ c h)) (λc=>hf c (Go.L.JP c h))
def Cf{ops:Array Oper}{rest:List Oper}(s:Nat){b:Bool}[hb:V9 (gt L s) (TI (.bool b))](h:(if b then A else B)=TI e)(ht:b=true->A=TI e->S P n ops Q rest L w)(hf:b=false->B=TI e->S P n ops Q rest L w):S P n ops Q rest L w:=
 Cu hb.e (λc=>ht c (Go.L.Yb c h)) (λc=>hf c (Go.L.Yc c h))
def Bl{ops:Array Oper}{rest:List Oper}(s:Nat){p:Prop}[Decidable p][hb:V9 (gt L s) (TI (.bool (decide p)))](h:(if p then A else B)=TI e)(ht:decide p=true->A=TI e->S P n ops Q rest L w)(hf:decide p=false->B=TI e->S P n ops Q rest L w):S P n ops Q rest L w:=
 Cu hb.e (λc=>ht c (Go.L.JP (Z4 c) h)) (λc=>hf c (Go.L.JQ (of_decide_eq_false c) h))
def Dm{ops:Array Oper}{rest:List Oper}(s:Nat){p:Prop}[Decidable p][hb:V9 (gt L s) (TI (.bool (!decide p)))](h:(if p then A else B)=TI e)(ht:(!decide p)=true->B=TI e->S P n ops Q rest L w)(hf:(!decide p)=false->A=TI e->S P n ops Q rest L w):S P n ops Q rest L w:=
 Cu hb.e (λc=>ht c (Go.L.JQ (ZI c) h)) (λc=>hf c (Go.L.JP (ZJ c) h))
end
def P9.add{v:Value}{k:Nat}{p:Addr}(h:P9 v k p)(j:Nat):P9 v (k+j) (p.add j):=by
 obtain⟨b,o,s⟩:=p;obtain⟨a,h2,h3⟩:=h;simp only at a h2 h3;subst h3;exact⟨by simpa[Addr.add_lit]using a,by simp[Addr.add_lit,h2],by simp[Addr.add_lit]⟩
def Plain{α:Type}(r:Rp α):Prop:=∀{H H':PH}{x:α}{c:LR},r.rel H x c->r.rel H' x c
def Um:Plain .byte:=λh=>h
theorem Ao.UE{α:Type}{r:Rp α}(hp:Plain r){H H':PH}{l:List α}{cs:LR}(h:Ao r H l cs):Ao r H' l cs:=by
 induction h with
 | nil=>exact .nil
 | cons h _ ih=>exact .cons (hp h) ih
def B2.UE{α:Type}{e:TypeId}{r:Rp α}{H1 H2:PH}{w w':World}{v:Value}{l:List α}(h:B2 e r H1 w w' v l)(hp:Plain r):B2 e r H2 w w' v l:=by
 obtain⟨xs,a,h2⟩:=h;exact⟨xs,a,h2.UE hp⟩
section
variable {P:Program}{L:ZC}{w:World}{x y z:Operand}{ty t t' t'' e:TypeId}
def G7(a:Int):IntKind.u8.wrap a=((Go.L.u8 a).toNat:Int):=by rw[Xw,Go.L.AbU]
def ar8:BinOp->UInt8->UInt8->Option UInt8
 | .add,a,b=>TI (a+b)
 | .sub,a,b=>TI (a - b)
 | .mul,a,b=>TI (a * b)
 | _,_,_=>none
def AgV{op:BinOp}{a b c:UInt8}(h:ar8 op a b=TI c):∃s,arI op (a.toNat:Int) (b.toNat:Int)=TI s/\IntKind.u8.wrap s=(c.toNat:Int):=by
 have ha:=a.toNat_lt;have hb:=b.toNat_lt
 cases op <;> simp only[ar8,Option.some.injEq,reduceCtorEq]at h <;> subst h
 ·refine⟨_,Z,?_⟩;rw[Xw,UInt8.toNat_add];omega
 ·refine⟨_,Z,?_⟩;rw[Xw,UInt8.toNat_sub];omega
 ·refine⟨_,Z,?_⟩;rw[Xw,UInt8.toNat_mul,<- Int.natCast_mul];omega
def ZK[Dr]{op:BinOp}{a:UInt8}(b:UInt8){c:UInt8}(hx:ev L x=TI (.int .u8 (a.toNat:Int)))(hy:ev L y=TI (.int .u8 (b.toNat:Int)))(ho:ar8 op a b=TI c):AY P L w (.binOp op t x y t') ty (.int .u8 (c.toNat:Int)):=by
 obtain⟨s,d,h2⟩:=AgV ho;exact AlH hx hy d h2
def AlK[Dr]{a:UInt8}{c:Nat}{k':IntKind}(hx:ev L x=TI (.int .u8 (a.toNat:Int)))[hy:V9 (ev L y) (TI (.int k' (c:Int)))](hc:c<8):AY P L w (.binOp .shr t x y t') ty (.int .u8 ((a >>> (SJ c)).toNat:Int)):=by
 have h:=XZ (P:=P) (w:=w) (t:=t) (t':=t') (ty:=ty) hx (hy:=⟨hy.e⟩) Z (show c<=IntKind.u8.bits by simp[IntKind.bits];omega)
 have e:(a.toNat:Int) / 2 ^ c=((a >>> (SJ c)).toNat:Int):=by
  rw[UInt8.toNat_shiftRight,UInt8.toNat_ofNat',Nat.mod_eq_of_lt (show c<2 ^ 8 by omega),Nat.mod_eq_of_lt hc,Nat.shiftRight_eq_div_pow];simp
 rw[e]at h;exact h
def Dn[Dr]{l:Qm}(hx:ev L x=TI (.string ⟨l.toArray⟩))[ht:V9 (P.underlying t) (TI .string)]:AY P L w (.call ⟨.builtin .len,#[x],#[t]⟩) ty (.int .i64 (l.length:Int)):=by
 intro w' _ ρ hρ dst pos af g;have:(ByteArray.mk l.toArray).size=l.length:=by simp[Vl]
 simp[execOp,resolve,hρ x _ hx,invoke,builtin,Builtin.len_,run_underlying ht.e,goInt,this]
def ND[Dr]{l m:Qm}(hx:ev L x=TI (.string ⟨l.toArray⟩))(hy:ev L y=TI (.string ⟨m.toArray⟩)):AY P L w (.binOp .neq t x y t') ty (.bool (!decide (l=m))):=by
 intro w' _ ρ hρ dst pos af g;have e:(l==m)=decide (l=m):=by rw[Z8];simp
 simp[execOp,hρ x _ hx,hρ y _ hy,eqGuard,binOp,Op.stringOp,e]
def Alh[Dr]{l m:Qm}(hx:ev L x=TI (.string ⟨l.toArray⟩))(hy:ev L y=TI (.string ⟨m.toArray⟩)):AY P L w (.binOp .lss t x y t') ty (.bool (Op.bytesLess l m)):=by
 intro w' _ ρ hρ dst pos af g;simp[execOp,hρ x _ hx,hρ y _ hy,eqGuard,binOp,Op.stringOp]
def De[Dr]{l m:Qm}[hx:V9 (ev L x) (TI (.string ⟨l.toArray⟩))][hy:V9 (ev L y) (TI (.string ⟨m.toArray⟩))](h:l.length+m.length<=9223372036854775807):AY P L w (.binOp .add t x y t') ty (.string ⟨(l++m).toArray⟩):=by
 intro w' _ ρ hρ dst pos af g;have c:(ByteArray.mk l.toArray).size=l.length:=by simp[Vl]
 have f:(ByteArray.mk m.toArray).size=m.length:=by simp[Vl]
 have o:ByteArray.mk l.toArray++ByteArray.mk m.toArray=ByteArray.mk (l++m).toArray:=by
  apply ByteArray.ext;simp
 have p : ¬(IntKind.i64.max<((l.length+m.length:Nat):Int)):=by
  have:IntKind.i64.max=9223372036854775807:=by decide
  omega
 simp only[execOp,hρ x _ hx.e,hρ y _ hy.e,eqGuard,binOp,Op.stringOp,c,f,o];simp;omega
end
section
variable {P:Program}{n:Sz}{ops:Array Oper}{Q:Exit->Act->World->Prop}{L:ZC}{w w0:World}{O:List Bv}{rest:List Oper}{lop:List Oper}{ix:Nat}{tr:Tr}
 {d:Nat}{ty:TypeId}{pos:String}{af:Array Edge}{α:Type}{r:Rp α}{x a b:Operand}{v:Value}{t e:TypeId}{H:PH}{l:List α}{k k':IntKind}{i j:Int}{zz:Value}{bt:Nat}
def UF[Dr][hx:V9 (ev L x) (TI v)][ha:V9 (ev L a) (TI (.int k i))][hb:V9 (ev L b) (TI (.int k' j))][ht:V9 (P.underlying t) (TI (.slice e))][he:Qqz P e zz r.sz bt](hv:As r H v l)(hc:0<=i/\i<=j/\j<=(l.length:Int))[hn:V9 (Uu d n.n) true]
  (h:∀v',As r H v' ((l.drop i.toNat).take (j.toNat - i.toNat))->S P n ops Q rest ((d,v')::L) w):S P n ops Q (⟨TI d,.slice t x (TI a) (TI b) none,ty,pos,af,none⟩::rest) L w:=
 Aa6 hx.e ht.e he.e hv i.toNat j.toNat ⟨k,by rw[Rt U];exact ha.e⟩ ⟨k',by rw[Rt U];exact hb.e⟩ U hn.e h
def AbW[Dr][hx:V9 (ev L x) (TI v)][ha:V9 (ev L a) (TI (.int k i))][ht:V9 (P.underlying t) (TI (.slice e))][he:Qqz P e zz r.sz bt](hv:As r H v l)(hc:0<=i/\i<=(l.length:Int))[hn:V9 (Uu d n.n) true]
  (h:∀v',As r H v' (l.drop i.toNat)->S P n ops Q rest ((d,v')::L) w):S P n ops Q (⟨TI d,.slice t x (TI a) none none,ty,pos,af,none⟩::rest) L w:=
 Aa6 hx.e ht.e he.e hv i.toNat l.length ⟨k,by rw[Rt U];exact ha.e⟩ Z U hn.e λv' h'=>h v' (by rwa [Sg Rg]at h')
def Yf[Dr][hx:V9 (ev L x) (TI v)][hb:V9 (ev L b) (TI (.int k' j))][ht:V9 (P.underlying t) (TI (.slice e))][he:Qqz P e zz r.sz bt](hv:As r H v l)(hc:0<=j/\j<=(l.length:Int))[hn:V9 (Uu d n.n) true]
  (h:∀v',As r H v' (l.take j.toNat)->S P n ops Q rest ((d,v')::L) w):S P n ops Q (⟨TI d,.slice t x none (TI b) none,ty,pos,af,none⟩::rest) L w:=
 Aa6 hx.e ht.e he.e hv 0 j.toNat Z ⟨k',by rw[Rt U];exact hb.e⟩ U hn.e λv' h'=>h v' (by simpa using h')
def PZ[Dr](ho:G6 lop ix=TI ⟨TI d,.slice t x (TI a) none none,ty,pos,af,none⟩)(hx:ev L x=TI v)[ha:V9 (ev L a) (TI (.int k i))](ht:P.underlying t=TI (.slice e))[he:Qqz P e zz r.sz bt](hv:As r H v l)(hc:0<=i/\i<=(l.length:Int))(hn:Uu d n.n=true)
  (h:∀v',As r H v' (l.drop i.toNat)->D P n lop Q tr ((d,v')::L) w):D P n lop Q (.q ix tr) L w:=
 Aj3 ho hx ht he.e hv i.toNat l.length ⟨k,by rw[Rt U];exact ha.e⟩ Z U hn λv' h'=>h v' (by rwa [Sg Rg]at h')
def QH[Dr]{z:Value}{sz:Nat}{cs:LR}(ho:G6 lop ix=TI ⟨TI d,.alloc t,ty,pos,af,none⟩)(hz:Zr P t z sz bt)(hc:z.cells.toList=cs)(hn:Uu d n.n=true)(hL:AB w0 O w)
  (h:∀w' b,AB w0 (.box b cs t::O) w'->Le (fz w O) (fz w' (.box b cs t::O))->D P n lop Q tr ((d,.pointer (TI ⟨b,0,none⟩))::L) w'):D P n lop Q (.h ix tr) L w:=by
 subst hc;refine WT (λa u w'=>u=.pointer (TI ⟨a.heap.size,0,none⟩)/\w'=a.alloc (.cells z.cells.toList.toArray t)) ho hn (λa c ρ hρ=>?_) (λa u w' c f hR=>?_)
 ·refine⟨_,_,Agp hz a ρ _ Z,C1 _ _,Z,by simp⟩
 ·obtain⟨rfl,rfl⟩:=hR;have e:=hL.call c;exact h _ _ (Aa7 e) ((A3 hL c).trans (VD e))
end
end Go.E
namespace Go.E
open Go Go.RowKit
def Ao.c1{α:Type}{r:Rp α}{H:PH}{x:α}{l:List α}{a:Value}{cs:LR}(h:r.rel H x [a])(t:Ao r H l cs):Ao r H (x::l) (a::cs):=.cons (c:=[a]) h t
def Ao.c2{α:Type}{r:Rp α}{H:PH}{x:α}{l:List α}{a b:Value}{cs:LR}(h:r.rel H x [a,b])(t:Ao r H l cs):Ao r H (x::l) (a::b::cs):=.cons (c:=[a,b]) h t
def Ao.c3{α:Type}{r:Rp α}{H:PH}{x:α}{l:List α}{a b d:Value}{cs:LR}(h:r.rel H x [a,b,d])(t:Ao r H l cs):Ao r H (x::l) (a::b::d::cs):=.cons (c:=[a,b,d]) h t
def Ao.c4{α:Type}{r:Rp α}{H:PH}{x:α}{l:List α}{a b d e:Value}{cs:LR}(h:r.rel H x [a,b,d,e])(t:Ao r H l cs):Ao r H (x::l) (a::b::d::e::cs):=.cons (c:=[a,b,d,e]) h t
def Ao.c5{α:Type}{r:Rp α}{H:PH}{x:α}{l:List α}{a b d e f:Value}{cs:LR}(h:r.rel H x [a,b,d,e,f])(t:Ao r H l cs):Ao r H (x::l) (a::b::d::e::f::cs):=.cons (c:=[a,b,d,e,f]) h t
def Ao.c6{α:Type}{r:Rp α}{H:PH}{x:α}{l:List α}{a b d e f g:Value}{cs:LR}(h:r.rel H x [a,b,d,e,f,g])(t:Ao r H l cs):Ao r H (x::l) (a::b::d::e::f::g::cs):=.cons (c:=[a,b,d,e,f,g]) h t
def Ao.c7{α:Type}{r:Rp α}{H:PH}{x:α}{l:List α}{a b d e f g i:Value}{cs:LR}(h:r.rel H x [a,b,d,e,f,g,i])(t:Ao r H l cs):Ao r H (x::l) (a::b::d::e::f::g::i::cs):=.cons (c:=[a,b,d,e,f,g,i]) h t
def Ao.c8{α:Type}{r:Rp α}{H:PH}{x:α}{l:List α}{a b d e f g i j:Value}{cs:LR}(h:r.rel H x [a,b,d,e,f,g,i,j])(t:Ao r H l cs):Ao r H (x::l) (a::b::d::e::f::g::i::j::cs):=.cons (c:=[a,b,d,e,f,g,i,j]) h t
def B3[Dr]{α:Type}(r:Rp α){w0 w:World}{O:List Bv}(H:PH)(e:TypeId)(hL:AB w0 O w):
  AB w0 (.row (.slice none 0 0) e r.sz ([]:List α).length []::O) w/\Le (fz w O) (fz w (.row (.slice none 0 0) e r.sz ([]:List α).length []::O))/\Ao r (gz H w0 w (.row (.slice none 0 0) e r.sz ([]:List α).length []::O)) [] []:=
 ⟨(Xy hL e r.sz).1,(Xy hL e r.sz).2,.nil⟩
def I6(Q:Exit->Act->World->Prop):Prop:=∀c a (d:Option Tmp) (v:Value) w,Q (.panic c) (a.put d v) w->Q (.panic c) a w
section
variable {P:Program}{n:Sz}{Q:Exit->Act->World->Prop}
def MF{fn:Func}{R:Value->World->Prop}:I6 (Ox P fn R):=λ_ _ d _ _ h=>by cases d <;> exact h
def VF{y:Code}(h:I6 Q):I6 (Si P y Q):=λc a d v w k=>h c a d v w k
def KZ{σ:Type}{I:σ->ZC}{R:σ->World->Prop}(h:I6 Q):I6 (KS n I R Q):=λc a d v w k=>h c a d v w k
def Pj{σ:Type}{I:σ->ZC}{R:σ->World->Prop}{μ:σ->Nat}{x:σ}(h:I6 Q):I6 (XJ n I R μ x Q):=λc a d v w k=>h c a d v w k
def Ew{id:Nat}(h:I6 Q):I6 (Exit.inBlock id Q):=λc a d v w k=>h c a d v w k
end
section
variable {P:Program}{n:Sz}{m fuel:Nat}{l:List Oper}{Q:Exit->Act->World->Prop}{L:ZC}{w w0:World}{done:List Nat}{i d:Nat}{op:Op}{ty:TypeId}{pos:String}{af:Array Edge}
def VG(l:List Oper)(m:Nat)(done:List Nat)(i:Nat):Bool:=
 Region.noSelect l.toArray&&Region.free .any l.toArray (R8 m done) i&&(Region.ready .any l.toArray (R8 m done)).contains i
end
section
variable {P:Program}{n:Sz}{m fuel:Nat}{lo:List Oper}{Q:Exit->Act->World->Prop}{L:ZC}{w w0:World}{done:List Nat}{i d:Nat}{ty:TypeId}{pos:String}{af:Array Edge}{α:Type}{r:Rp α}{H:PH}{x y:Operand}{v:Value}{t e:TypeId}{O:List Bv}
end
end Go.E
namespace Go.E
open Go Go.RowKit
def AB.AnO[Dr]{w0 w w':World}{O:List Bv}{g:Nat}(h:AB w0 O w)(hg:w.grownBy w' (TI g))(hdr:w.drawn<=w'.drawn)(hge:w0.heap.size<=g)(hno:owned O g=false):AB w0 O w':=by
 have hs:∀r∈O,∀b,r.block=TI b->w'.heap[b]? = w.heap[b]?:=λr hr b hb=>by
  refine hg.block b ((h.res r hr).lt hb) (λe=>?_);have e':b=g:=by simpa[eq_comm]using e
  have:owned O b=true:=CR.2 ⟨r,hr,hb⟩;rw[e',hno]at this;cases this
 refine⟨⟨⟨hg.os.trans h.ext.os,hg.tape.trans h.ext.tape,hg.output.trans h.ext.output,RU h.ext.size hg.size,λk hk=>?_⟩,λo=>RU (h.ext.drawn o) hdr⟩,λr hr=>(h.res r hr).same (hs r hr),h.own,h.dis⟩
 have hne : ¬(TI k=TI g):=λe=>by
  have e':k=g:=by simpa using e
  omega
 rw[hg.block k (Nat.lt_of_lt_of_le hk h.ext.size) hne];exact h.ext.block k hk
section
variable {P:Program}{L:ZC}{w:World}{x y:Operand}{ty t t':TypeId}
end
def cells_one{v:Value}(h:v.oneCell'=true):v.cells.toList=[v]:=by cases v <;> simp_all [Value.cells,Value.oneCell']
section
variable {P:Program}{n:Sz}{ops:Array Oper}{Q:Exit->Act->World->Prop}{L:ZC}{w w0:World}{O:List Bv}{rest:List Oper}{d:Nat}{ty:TypeId}{pos:String}{af:Array Edge}{x:Operand}{v:Value}{t e:TypeId}{H:PH}
def Su[Dr](hx:ev L x=TI v)(a:v.oneCell'=true)[hn:V9 (Uu d n.n) true](hL:AB w0 O w)
  (h:∀w' b,AB w0 (.box b [v] t::O) w'->Le (fz w O) (fz w' (.box b [v] t::O))->Ext w w'->S P n ops Q rest ((d,.pointer (TI ⟨b,0,none⟩))::L) w'):S P n ops Q (⟨TI d,.box t x,ty,pos,af,none⟩::rest) L w:=
 B6 hx (cells_one a) (hn:=⟨hn.e⟩) hL h
theorem AgW[Dr](i:Nat){l:Qm}{xs:LR}(hx:ev L x=TI v)(ht:P.underlying t=TI (.slice e))(he:P.underlying e=TI (.int .u8))[hn:V9 (Uu d n.n) true](_hH:Le H (hp w0))(hL:AB w0 O w)(hi:Ba O i=TI (.row v e 1 l.length xs))(hel:Ao .byte (gz H w0 w O) l xs)(hne:l≠[])
  (h:∀w',AB w0 (LQ O i) w'->Le (fz w O) (fz w' (LQ O i))->As .byte (gz H w0 w' (LQ O i)) v l->S P n ops Q rest ((d,v)::L) w') :
  S P n ops Q (⟨TI d,.convert t t x,ty,pos,af,none⟩::rest) L w:=by
 have hown:w.ownsRow 0 e 1 v l.length xs:=hL.at hi
 rcases hown.2 with ⟨_,f⟩ | ⟨g,cap,cur,rfl,hb,hg,hnc,hcm,hcs,htake⟩
 ·exact absurd (Vu f) hne
 have hgl:=lt_of_heap hg
 have hfr:w.freeze ⟨g,cur.size,none⟩ 1={w with heap:=w.heap.setIfInBounds g (.cells cur e (cur.size,cur.size+1))}:=by
  unfold World.freeze;rw[Pb Y5]
  congr 1
  apply Array.ext_getElem?;intro k;rw[Array.getElem?_modify,WB]
  by_cases hk:g=k
  ·subst hk;rw[Xu Z,Xu Z,Xu hgl,hg];rfl
  ·rw[Pb hk,Pb hk]
 have hrun:(convert t t (.slice (TI ⟨g,0,none⟩) l.length cap)).run P w=.ok (.slice (TI ⟨g,0,none⟩) l.length cap) (w.freeze ⟨g,cur.size,none⟩ 1):=by
  simp[convert,run_underlying ht,run_underlying he,markStringish,shape,freeze,Sem.run,World.shape?,hg]
 rw[hfr]at hrun
 have hgr:w.grownBy {w with heap:=w.heap.setIfInBounds g (.cells cur e (cur.size,cur.size+1))} (some g):=
  ⟨Z,Z,Z,by simp,λk _ hne=>by
   show(w.heap.setIfInBounds g _)[k]? = _
   rw[WB,Pb (λe=>hne (by rw[e]))]⟩
 have hmem:Bv.row (.slice (TI ⟨g,0,none⟩) l.length cap) e 1 l.length xs∈O:=(DF hi).mem_iff.2 (.head _);have hge:w0.heap.size<=g:=hL.own _ hmem g Z
 have hno:owned (LQ O i) g=false:=by
  cases hc:owned (LQ O i) g with
  | false=>rfl
  | true=>
   obtain⟨r,hr,hb'⟩:=CR.1 hc;have hd:=QU.1 (hL.perm (DF hi).symm).dis;exact absurd hb' (hd.1 r hr g Z)
 have hL':=(hL.Aa3 hi).AnO hgr (KN _) hge hno
 have hle:Le (fz w O) (fz {w with heap:=w.heap.setIfInBounds g (.cells cur e (cur.size,cur.size+1))} (LQ O i)):=λb o hbo=>by
  have hbg:b≠g:=λe=>by
   subst e;unfold fz at hbo;rw[Xu (CR.2 ⟨_,hmem,Z⟩)]at hbo
   cases hbo
  have a:=PY (w:=w) hi b o hbo;unfold fz at a ⊢
  split at a
  ·cases a
  ·rename_i ho;rw[Pb ho]
   show(w.heap.setIfInBounds g _)[b]? = TI o
   rw[WB,Pb (λe=>hbg e.symm)];exact a
 refine Dy hn.e (fun ρ hρ=>by simp[execOp,hρ x _ hx,hrun]) (h _ hL' hle ?_);refine⟨TI ⟨g,0,none⟩,cap,Z,hnc,hcm,(λh=>by cases h),λA hA _=>?_⟩
 cases hA
 refine⟨Z,λj y hy=>?_⟩;obtain⟨c,hc,hcell⟩:=hel.at j y hy;refine⟨c,hc,λk u hu=>?_⟩;have a:=hcell k u hu;rw[<- htake,Tm]at a
 split at a
 ·have hgz:gz H w0 {w with heap:=w.heap.setIfInBounds g (.cells cur e (cur.size,cur.size+1))} (LQ O i) g=some (.cells cur e (cur.size,cur.size+1)):=by
   apply UD;unfold nf fz;rw[Xu hge,hno]
   show(w.heap.setIfInBounds g _)[g]? = _
   rw[WB,Xu Z,Xu hgl]
  simp only[Addr.add_lit,Q8,GC,hgz]
  simpa using a
 ·cases a
end
def Gp.part{H:PH}{p:Addr}{c:LR}(h:Gp H p c)(m:Nat):Gp H p (c.take m):=
 ⟨h.1,λj u hu=>h.2 j u (by
  rw[Tm]at hu
  split at hu
  ·exact hu
  ·cases hu)⟩
section
variable {P:Program}{L:ZC}{w w0:World}{O:List Bv}{x:Operand}{ty t:TypeId}{H:PH}
def GR[Dr](i m:Nat){b off:Nat}{cs c:LR}{t':TypeId}{dd:TypeDesc}{zz:Value}{bt:Nat}(hx:ev L x=TI (.pointer (TI ⟨b,off,none⟩)))[ht:V9 (P.underlying t) (TI dd)][hd:V9 (Zu dd) true](hz:Zr P t zz c.length bt)(hL:AB w0 O w)(hi:Ba O i=TI (.box b cs t'))(hc:(cs.drop off).take m=c):AY P L w (.load t x) ty (.agg c.toArray):=by
 have a:=((UC hL hi).add off).part m;rw[hc,Addr.add_lit,Q8]at a;exact AU (hx:=⟨hx⟩) (ht:=⟨ht.e⟩) (hd:=⟨hd.e⟩) (hz:=⟨hz⟩) a (Le.refl _)
theorem Zp{α:Type}{r:Rp α}{v:Value}{l:List α}(h:As r H v l):(v=.slice none 0 0/\l=[])\/∃A n c,v=.slice (TI A) n c:=by
 obtain⟨a,cap,b,h2,_,d,_⟩:=h.ex
 cases a with
 | none=>
  have hc:=d Z;have hl:l.length=0:=by omega
  left
  rw[b,hl,hc];exact⟨Z,Vu hl⟩
 | some A=>exact .inr ⟨A,_,_,b⟩
def Y6[Dr]{y:Operand}{e t':TypeId}[hx:V9 (ev L x) (TI (.slice none 0 0))][hy:V9 (ev L y) (TI (.slice none 0 0))][ht:V9 (P.underlying t) (TI (.slice e))]:AY P L w (.binOp .eql t x y t') ty (.bool true):=by
 intro w' _ ρ hρ dst pos af g;have key:∀dd:Nat,(Op.equalIn (dd+1) t (.slice none 0 0) (.slice none 0 0)).run P w'=.ok true w':=λdd=>by simp[Op.equalIn,run_underlying ht.e]
 have a:(Op.equal t (.slice none 0 0) (.slice none 0 0)).run P w'=.ok true w':=key 9999;simp[execOp,hρ x _ hx.e,hρ y _ hy.e,eqGuard,binOp,a]
def RR[Dr]{v:Value}{y:Operand}{e t':TypeId}[hx:V9 (ev L x) (TI v)][hy:V9 (ev L y) (TI (.slice none 0 0))][ht:V9 (P.underlying t) (TI (.slice e))](hv:∃A n c,v=.slice (TI A) n c):AY P L w (.binOp .eql t x y t') ty (.bool false):=by
 obtain⟨A,n,c,rfl⟩:=hv;intro w' _ ρ hρ dst pos af g;have key:∀dd:Nat,(Op.equalIn (dd+1) t (.slice (TI A) n c) (.slice none 0 0)).run P w'=.ok false w':=λdd=>by simp[Op.equalIn,run_underlying ht.e]
 have a:(Op.equal t (.slice (TI A) n c) (.slice none 0 0)).run P w'=.ok false w':=key 9999;simp[execOp,hρ x _ hx.e,hρ y _ hy.e,eqGuard,binOp,a]
def WV[Dr]{α:Type}(r:Rp α){e:TypeId}(hL:AB w0 O w)(hH:Le H (hp w0)):B2 e r H w0 w (.slice none 0 0) ([]:List α):=
 (B3 r H e hL).1.Ev (i:=0) hH Z (B3 r H e hL).2.2
end
end Go.E
namespace Go.E
open Go Go.RowKit
section
variable {P:Program}{n:Sz}{ops:Array Oper}{Q:Exit->Act->World->Prop}{L:ZC}{w w0:World}{O:List Bv}{rest:List Oper}{d:Nat}{ty:TypeId}{pos:String}{af:Array Edge}{x y:Operand}{t tn e:TypeId}{H:PH}
def Wx[Dr]{a:Option Addr}{m c:Nat}(hx:ev L x=TI (.slice a m c))[ht:V9 (P.underlying t) (TI (.slice e))]:AY P L w (.call ⟨.builtin .cap,#[x],#[t]⟩) ty (.int .i64 (c:Int)):=by
 intro w' _ ρ hρ dst pos af g;simp[execOp,resolve,invoke,builtin,hρ x _ hx,Builtin.cap_,run_underlying ht.e]
 rfl
theorem Ae2[Dr]{k kn:IntKind}{zz:Value}{bt m:Nat}[hx:V9 (ev L x) (TI (.slice none 0 0))](hy:ev L y=TI (.int k (m:Int)))(ht:P.underlying t=TI (.slice e))[htn:V9 (P.underlying tn) (TI (.int kn))][hz:Qqz P e zz 1 bt][hzc:V9 zz.cells (#[zz])][hn:V9 (Uu d n.n) true](c:0<m)(a:(m:Int)<=9223372036854775807)(b:m * bt<=281474976710656)
  (h:∀g cap cur w',Ext w w'->w.heap.size<=g->w'.heap[g]? = TI (.cells cur e (0,0))->cap<=maxLen->cur.size=cap->S P n ops Q rest ((d,.slice (TI ⟨g,0,none⟩) m cap)::L) w') :
  S P n ops Q (⟨TI d,.call ⟨.builtin .append,#[x,y],#[t,tn]⟩,ty,pos,af,none⟩::rest) L w:=by
 obtain⟨inf,f,i,j,l⟩:=hz.e.parts;have hr:=Lib.run_append_nil_zeros (P:=P) w t tn ty e inf zz k kn ht htn.e f i m c (by rw[j];decide) a (by rw[l];exact b);have hge:=grownCap_ge w m 0 e;have hsz:∀k,(Builtin.zeroCells zz.cells k).size=k:=λk=>by rw[hzc.e];simp[Builtin.zeroCells]
 refine Dy (v:=.slice (TI ⟨w.heap.size,0,none⟩) m (grownCap w m 0 e)) (w':=w.drew.alloc (.cells (Builtin.zeroCells zz.cells m++Builtin.zeroCells zz.cells (grownCap w m 0 e - m)) e)) hn.e (fun ρ hρ=>by simp[execOp,resolve,invoke,builtin,hρ x _ hx.e,hρ y _ hy,hr]) (h _ _ (Builtin.zeroCells zz.cells m++Builtin.zeroCells zz.cells (grownCap w m 0 e - m)) _ ?_ (KN _) ?_ (grownCap_le_maxLen w m 0 e (by unfold maxLen;omega)) ?_)
 ·exact(show Ext w w.drew from MR).trans (C1 _ _)
 ·show(w.heap.push _)[w.heap.size]? = _
  simp
 ·rw[Array.size_append,hsz,hsz];omega
def AgX[Dr]{g m cap:Nat}{k:IntKind}{zz:Value}{bt:Nat}(hx:ev L x=TI (.slice (TI ⟨g,0,none⟩) m cap))[hy:V9 (ev L y) (TI (.int k 0))][ht:V9 (P.underlying t) (TI (.slice e))][hz:Qqz P e zz 1 bt]:AY P L w (.slice t x none (TI y) none) ty (.slice (TI ⟨g,0,none⟩) 0 cap):=by
 obtain⟨inf,a,_,_,_⟩:=hz.e.parts;intro w' _ ρ hρ dst pos af gd;simp[execOp,hρ x _ hx,hρ y _ hy.e,Instr.sliceAt,run_underlying ht.e,Instr.slice,Instr.sliceBounds,Instr.sliceBound,asIntOf,sizeOf,typeInfo,a];exact λ_=>by rw[Addr.add_lit]
def Yg[Dr]{k:IntKind}{zz:Value}{bt:Nat}[hx:V9 (ev L x) (TI (.slice none 0 0))][hy:V9 (ev L y) (TI (.int k 0))][ht:V9 (P.underlying t) (TI (.slice e))][hz:Qqz P e zz 1 bt]:AY P L w (.slice t x none (TI y) none) ty (.slice none 0 0):=by
 obtain⟨inf,a,_,_,_⟩:=hz.e.parts;intro w' _ ρ hρ dst pos af gd;simp[execOp,hρ x _ hx.e,hρ y _ hy.e,Instr.sliceAt,run_underlying ht.e,Instr.slice,Instr.sliceBounds,Instr.sliceBound,asIntOf,sizeOf,typeInfo,a]
def Aj9[Dr]{α:Type}{r:Rp α}{bt:Nat}{k k':IntKind}{zz:Value}{c:Int}[hx:V9 (ev L x) (TI (.int k 0))][hy:V9 (ev L y) (TI (.int k' c))](ht:P.underlying t=TI (.slice e))(hz:Zr P e zz r.sz bt)[hn:V9 (Uu d n.n) true](hL:AB w0 O w)(hm:0<=c/\(bt:Int) * c<=281474976710656/\c<=9223372036854775807)
  (h:∀v' w' xs,AB w0 (.row v' e r.sz ([]:List α).length xs::O) w'->Le (fz w O) (fz w' (.row v' e r.sz ([]:List α).length xs::O))->Ao r (gz H w0 w' (.row v' e r.sz ([]:List α).length xs::O)) [] xs->S P n ops Q rest ((d,v')::L) w') :
  S P n ops Q (⟨TI d,.makeSlice t x y,ty,pos,af,none⟩::rest) L w:=by
 obtain⟨inf,a,b,f,g⟩:=hz.parts;obtain⟨m,rfl⟩:=Ph hm.1;obtain⟨w',hr,ho,hg⟩:=run_make_own (P:=P) w w.heap.size t e inf zz r.sz ht a b f k k' m (by rw[g];have:=hm.2.1;rw[<- Int.natCast_mul]at this;exact Int.ofNat_le.1 this) (by unfold maxLen;omega) (KN _);have hx':=Sr (Tn _ _ _ _ hr) hg;obtain⟨i,h2⟩:=NR hL hx' ho;exact Dy hn.e (fun ρ hρ=>by simp[execOp,hρ x _ hx.e,hρ y _ hy.e,hr]) (h _ _ _ i h2 .nil)
def Mo[Dr]{l:Qm}{k:IntKind}{i:Int}[hx:V9 (ev L x) (TI (.string ⟨l.toArray⟩))][hy:V9 (ev L y) (TI (.int k i))][ht:V9 (P.underlying t) (TI .string)](hi:0<=i/\i<(l.length:Int)):AY P L w (.index t x y) ty (.int .u8 ((l.getD i.toNat Qq7).toNat:Int)):=by
 intro w' _ ρ hρ dst pos af g;have a:i.toNat<l.length:=by omega
 have h2:(⟨l.toArray⟩:ByteArray)[i.toNat]? = TI (l.getD i.toNat Qq7):=by
  have hb:i.toNat<(⟨l.toArray⟩:ByteArray).size:=a;rw[show l.getD i.toNat Qq7=(⟨l.toArray⟩:ByteArray)[i.toNat] by rw[Sb,Pa a];rfl];simp[hb]
 simp[execOp,hρ x _ hx.e,hρ y _ hy.e,Instr.index,asIntOf,run_underlying ht.e,hi.1,h2]
end
end Go.E
namespace Go.E
open Go Go.RowKit
section
variable {P:Program}{n:Sz}{m fuel:Nat}{l:List Oper}{Q:Exit->Act->World->Prop}{L:ZC}{w w0:World}{done:List Nat}{i d:Nat}{op:Op}{ty:TypeId}{pos:String}{af:Array Edge}
end
end Go.E
namespace Go.E
open Go Go.RowKit
theorem run_loadBytes{P:Program}{w:World}:∀(l:Qm) (A:Addr) (acc:ByteArray),A.spot=none->(∀i x,l[i]? = TI x->w.cell? (A.add i)=TI (.int .u8 (x.toNat:Int)))->
  (Extern.Bytes.loadBytes A l.length acc).run P w=.ok ⟨acc.data++l.toArray⟩ w
 | [],A,acc,_,_=>by simp[Extern.Bytes.loadBytes]
 | b::l,A,acc,hs,h=>by
  have a:=h 0 b Z;rw[Addr.add_zero']at a;have ih:=run_loadBytes (P:=P) (w:=w) l (A.add 1) (acc.push b) (MD hs 1) (λi x hx=>by rw[Jt hs,Nat.add_comm];exact h (i+1) x hx);have e:((b.toNat:Int).toNat).toUInt8=b:=by simp
  simp only[PF,Extern.Bytes.loadBytes,Sem.run_bind];have hl:(load A).run P w=.ok (.int .u8 (b.toNat:Int)) w:=by simp[load,Sem.run,a]
  rw[hl];simp only[Result.andThen_ok,e,ih];simp
theorem W5{P:Program}{w:World}{H:PH}{v:Value}{l:Qm}(hv:As .byte H v l)(hs:Le H (hp w)):(Extern.Bytes.bytesOf v).run P w=.ok ⟨l.toArray⟩ w:=by
 obtain⟨a,cap,rfl,h2,h3,b,d⟩:=hv.ex
 cases a with
 | none=>
  have:cap=0:=b Z;have hl:l=[]:=Vu U;subst hl
  rfl
 | some A=>
  by_cases hl:l=[]
  ·subst hl;rfl
  ·obtain⟨e,f⟩:=d A Z hl
   have:=run_loadBytes (P:=P) (w:=w) l A .empty e (λi x hx=>by
    obtain⟨c,hc,hcell⟩:=f i x hx;obtain rfl:c=[.int .u8 (x.toNat:Int)]:=hc;have:=hcell 0 _ Z;rw[show(Rp.byte).sz=1 from Z,Z5,Pf]at this;exact cell_of hs this)
   show(Extern.Bytes.loadBytes A l.length .empty).run P w=_
   rw[this];simp
section
variable {P:Program}{L:ZC}{w:World}{x y:Operand}{ty:TypeId}{H H':PH}{u v:Value}
def AlL [Dr] {f : FuncId}{fn : Func}{at_ : Array TypeId}{l m : Qm} (hf : P.funcs[f]? = some fn) [a:V9 (fn.name == "runtime.NumGoroutine") false] [h2:V9 fn.body.isNone true] (h3 : Extern.findNext fn = none) (b : Extern.find fn = some Extern.BytealgCompare.compare)
  [hx:V9 (ev L x) (TI u)] [hy:V9 (ev L y) (TI v)] (hu:As .byte H u l) (hsu:Le H (hp w)) (hv:As .byte H' v m) (hsv:Le H' (hp w)):AY P L w (.call ⟨.value (.func f),#[x,y],at_⟩) ty (.int .i64 (Lib.compareBytes l m)):=by
 intro w' hw ρ hρ dst pos af g;have c:ρ (.func f)=.func (.func f) #[] #[]:=hρ _ _ Z;have d:=W5 (P:=P) hu (hsu.ext hw);have i:=W5 (P:=P) hv (hsv.ext hw)
 have hc:(Extern.BytealgCompare.compare #[u,v]).run P w'=.ok (.int .i64 (Lib.compareBytes l m)) w':=by
  show Sem.run P (do pure (goInt (Extern.BytealgCompare.cmp (<- Extern.Bytes.bytesOf u) (<- Extern.Bytes.bytesOf v)))) w'=_
  simp only[Sem.run_bind,d,i,Result.andThen_ok,Sem.run_pure,Lib.cmp_eq];simp[goInt]
 have hcall:(callFunc f #[u,v]).run P w'=.ok (.value (.int .i64 (Lib.compareBytes l m))) w':=by
  rw[run_callFunc_extern hf a.e h2.e h3 b,hc];rfl
 simp[execOp,resolve,c,hρ x _ hx.e,hρ y _ hy.e,Deferred.ofValue,invoke,hcall]
end
end Go.E
namespace Go.E
open Go Go.RowKit
section
variable {P:Program}{L:ZC}{w:World}{x y:Operand}{ty t t' e:TypeId}
def Ali[Dr]{a:Int}[hx:V9 (ev L x) (TI (.int .i64 a))](h:Go.L.AL (-a)):AY P L w (.unOp .neg t x) ty (.int .i64 (-a)):=by
 intro w' _ ρ hρ dst pos af g;have e:=wrap64 h.1 h.2;simp[execOp,hρ x _ hx.e,Op.unary,Op.intArith,e]
def MT[Dr]{p:Addr}(hx:ev L x=TI (.pointer (TI p))):AY P L w (.nilCheck x) ty (.pointer (TI p)):=by
 intro w' _ ρ hρ dst pos af g;simp[execOp,hρ x _ hx]
def AlM [Dr] {f : FuncId}{fn : Func}{at_ : Array TypeId}{l m : Qm} (hf : P.funcs[f]? = some fn) [a:V9 (fn.name == "runtime.NumGoroutine") false] [h2:V9 fn.body.isNone true] (h3 : Extern.findNext fn = none) (b : Extern.find fn = some Extern.BytealgCompare.compare)
  (hx:ev L x=TI (.string ⟨l.toArray⟩)) (hy:ev L y=TI (.string ⟨m.toArray⟩)):AY P L w (.call ⟨.value (.func f),#[x,y],at_⟩) ty (.int .i64 (Lib.compareBytes l m)):=by
 intro w' hw ρ hρ dst pos af g;have c:ρ (.func f)=.func (.func f) #[] #[]:=hρ _ _ Z
 have hc:(Extern.BytealgCompare.compare #[.string ⟨l.toArray⟩,.string ⟨m.toArray⟩]).run P w'=.ok (.int .i64 (Lib.compareBytes l m)) w':=by
  show Sem.run P (do pure (goInt (Extern.BytealgCompare.cmp (<- Extern.Bytes.bytesOf (.string ⟨l.toArray⟩)) (<- Extern.Bytes.bytesOf (.string ⟨m.toArray⟩))))) w'=_
  simp only[Extern.Bytes.bytesOf,Sem.run_bind,Result.andThen_ok,Sem.run_pure,Lib.cmp_eq];simp[goInt]
 have hcall:(callFunc f #[.string ⟨l.toArray⟩,.string ⟨m.toArray⟩]).run P w'=.ok (.value (.int .i64 (Lib.compareBytes l m))) w':=by
  rw[run_callFunc_extern hf a.e h2.e h3 b,hc];rfl
 simp[execOp,resolve,c,hρ x _ hx,hρ y _ hy,Deferred.ofValue,invoke,hcall]
def Qf[Dr]{a:UInt8}[hx:V9 (ev L x) (TI (.int .u8 (a.toNat:Int)))][ht:V9 (P.underlying t) (TI (.int .u8))][ht':V9 (P.underlying t') (TI .string)](ha:a.toNat<128):AY P L w (.convert t t' x) ty (.string ⟨[a].toArray⟩):=by
 intro w' _ ρ hρ dst pos af g;have hv:Utf8.valid (a.toNat:Int)=true:=by simp[Utf8.valid];omega
 have e:Utf8.encode (a.toNat:Int)=⟨[a].toArray⟩:=by
  unfold Utf8.encode;rw[Xu hv,Int.toNat_natCast,Xu U];simp only[UInt8.ofNat_toNat]
 simp[execOp,hρ x _ hx.e,convert,run_underlying ht.e,run_underlying ht'.e,Conv.intToString,e]
end
section
variable {P:Program}{n:Sz}{ops:Array Oper}{Q:Exit->Act->World->Prop}{L:ZC}{w w0:World}{O:List Bv}{rest:List Oper}{d:Nat}{ty:TypeId}{pos:String}{af:Array Edge}{x:Operand}{t t' e:TypeId}{H:PH}
theorem VH[Dr](w:World)(e:TypeId){l:Qm}(hl:l.length<=9223372036854775807):Ext w (Lib.bytesWorld w e ⟨l.toArray⟩)/\As .byte (nw w (Lib.bytesWorld w e ⟨l.toArray⟩)) (.slice (TI ⟨w.heap.size,0,none⟩) l.length (grownCap w l.length 0 e)) l:=by
 have hs:(ByteArray.mk l.toArray).size=l.length:=by simp[Vl]
 refine⟨⟨⟨Z,Z,Z,?_,λk hk=>?_⟩,λ_=>(by first | exact KN _ | exact Nat.le_succ _)⟩,⟨TI ⟨w.heap.size,0,none⟩,_,Z,grownCap_ge _ _ _ _,grownCap_le_maxLen _ _ _ _ (by unfold maxLen;omega),(λh=>by cases h),λA hA _=>?_⟩⟩
 ·rw[Lib.bytesWorld_size];omega
 ·exact Lib.bytesWorld_at_old w e _ k hk
 ·cases hA
  refine⟨Z,λi b hb=>⟨_,Z,λj u hu=>?_⟩⟩;have hi:=(Z9.1 hb).1
  cases j with
  | zero=>
   simp only[R3,Option.some.injEq]at hu;subst hu
   show GC _ (Addr.add ⟨w.heap.size,0,none⟩ (i * 1+0))=_
   have:=Lib.bytesWorld_cell w e ⟨l.toArray⟩ i (by rw[hs];exact hi);simp only[Addr.add_lit,Q8,Z5,Pf,GC,nw,KN,if_true];unfold World.cell? at this;rw[show(l.toArray.toList.getD i 0)=b by simp[Sb,hb]]at this;exact this
  | succ j=>cases hu
def YT[Dr]{l:Qm}{u:TypeDesc}[hx:V9 (ev L x) (TI (.string ⟨l.toArray⟩))][ht:V9 (P.underlying t) (TI u)][ht':V9 (P.underlying t') (TI (.slice e))][he:V9 (P.underlying e) (TI (.int .u8))][hn:V9 (Uu d n.n) true](hL:AB w0 O w)(hl:l.length<=9223372036854775807)
  (h:∀v w',Ext w w'->AB w0 O w'->Le (fz w O) (fz w' O)->As .byte (gz H w0 w' O) v l->S P n ops Q rest ((d,v)::L) w'):S P n ops Q (⟨TI d,.convert t t' x,ty,pos,af,none⟩::rest) L w:=by
 obtain⟨a,h2⟩:=VH w e hl;have hs:(ByteArray.mk l.toArray).size=l.length:=by simp[Vl]
 refine Dy (v:=.slice (TI ⟨w.heap.size,0,none⟩) l.length (grownCap w l.length 0 e)) (w':=Lib.bytesWorld w e ⟨l.toArray⟩) hn.e (fun ρ hρ=>?_) (h _ _ a (hL.call a) (A3 hL a) (h2.mono (Ye hL)));have:=Lib.run_convert_string_bytes (P:=P) w t t' e ⟨l.toArray⟩ ht.e ht'.e he.e;rw[hs]at this;simp[execOp,hρ x _ hx.e,this]
end
def ZT(O:List Bv)(i:Nat):List Bv:=match Ba O i with | some q=>q::LQ O i | none=>O
def S4:List Bv->List Nat->List Bv
 | O,[]=>O
 | O,i::l=>S4 (ZT O i) l
def Ad0(O:List Bv)(i:Nat):O.Perm (ZT O i):=by
 unfold ZT
 split
 ·rename_i q hq;exact DF hq
 ·exact List.Perm.refl _
theorem Sv:∀(l:List Nat) (O:List Bv),O.Perm (S4 O l)
 | [],_O=>List.Perm.refl _
 | i::l,O=>(Ad0 O i).trans (Sv l (ZT O i))
def AB.BX[Dr]{w0 w:World}{O O':List Bv}(l:List Nat)(h:AB w0 O w)(e:S4 O l=O'):AB w0 O' w:=e ▸ h.perm (Sv l O).symm
def Bb[Dr]{w0 w:World}{O O':List Bv}(l:List Nat)(_:AB w0 O w)(_:AB w0 O' w)(e:S4 O l=O'):Le (fz w O) (fz w O'):=by
 rw[<- e,Js (Sv l O).symm];exact Le.refl _
abbrev Cd[Dr](w0:World)(O:List Bv)(w:World)(P:List Bv->Prop):Prop:=AB w0 O w/\P O
end Go.E
end
noncomputable section
namespace Go.L
def onX{α β:Type}(x:Option α)(ex:Option β)(k:α->Option β):Option β:=match x with
 | none=>ex
 | some y=>k y
def JS{α β:Type}{ex:Option β}{k:α->Option β}{e:β}(h:onX none ex k=TI e):ex=TI e:=h
def JT{α β:Type}{y:α}{ex:Option β}{k:α->Option β}{e:β}(h:onX (TI y) ex k=TI e):k y=TI e:=h
end Go.L
namespace Go.E
open Go Go.RowKit
def Ze{α:Type}(r:Option α)(v:Option Value)(R:α->Value->Prop)(N:Prop):Prop:=match r,v with
 | none,none=>N
 | some x,TI u=>R x u
 | _,_=>False
def JU{α:Type}{x:α}{u:Value}{R:α->Value->Prop}{N:Prop}(h:R x u):Ze (TI x) (TI u) R N:=h
def La{α:Type}{R:α->Value->Prop}{N:Prop}(h:N):Ze none none R N:=h
abbrev pch(v:Value):List PanicEntry:=[{v:=v,recovered:=false}]
abbrev T8(v:Value):List PanicEntry:=[{v:=v,recovered:=true}]
def RqX(pv:Value)(R:Option Value->World->Prop):Ending->World->Prop
 | .returned v,w=>R (TI v) w
 | .panicked c,w=>c=pch pv/\R none w
 | .outgrown,_=>False
def ZL(P:Program)(f:FuncId)(args:LR)(w:World)(pv:Value)(R:Option Value->World->Prop):Prop:=
 IN P f/\Calls P f args.toArray w (RqX pv R)
theorem ZL.mono{P:Program}{f:FuncId}{args:LR}{w:World}{pv:Value}{R R':Option Value->World->Prop}(h:ZL P f args w pv R)(hr:∀v w',R v w'->R' v w'):ZL P f args w pv R':=
 ⟨h.1,h.2.mono λe w' k=>by
  cases e with
  | returned v=>exact hr _ _ k
  | panicked c=>exact⟨k.1,hr _ _ k.2⟩
  | outgrown=>exact k⟩
def ZN(P:Program)(fn:Func)(pv:Value)(R:Option Value->World->Prop):Exit->Act->World->Prop:=bodyPost P fn (RqX pv R)
def WJ(P:Program)(fn:Func)(R:Value->World->Prop):Exit->Act->World->Prop:=bodyPostD P fn (Rq R)
def Xz{args:LR}{L:ZC}{k:Nat}(hk:Nat.ble args.length k=true)(hL:P7 0 args=L):Fr ⟨k,[]⟩ {tmps:=args.toArray++Ke (k - args.toArray.size) undef,defers:=[]} L:=by
 have hk':args.length<=k:=by simpa[Nat.ble_eq]using hk
 refine⟨?_,Z,?_⟩
 ·simp;omega
 ·intro t v ht;subst hL;have⟨_,h2⟩:=VB args 0 t v ht;simp only[Nat.sub_zero]at h2;have hlt:t<args.length:=(Z9.1 h2).1;simp only[N6];rw[Ug (by simpa using hlt)]
  simpa using h2
def On{P:Program}{f:FuncId}{fn:Func}{c:Code}{args:LR}{w:World}{pv:Value}{R:Option Value->World->Prop}(n:Nat)(L:ZC)
  (hf : P.funcs[f]? = some fn) (hname : (fn.name == "runtime.NumGoroutine") = false) (hb : fn.body = some c) (hn : fn.ntmps = n) (hk : Nat.ble args.length n = true) (hL : P7 0 args = L)
  (h:W P ⟨n,[]⟩ c (ZN P fn pv R) L w):ZL P f args w pv R:=
 ⟨⟨fn,c,hf,hname,hb⟩,calls_of_wp hf hb (h _ (by rw[hn];exact Xz hk hL))⟩
def Af8{P:Program}{f:FuncId}{fn:Func}{c:Code}{args:LR}{w:World}{R:Value->World->Prop}{n:Nat}(L:ZC)
  (hf : P.funcs[f]? = some fn) [hname:V9 (fn.name == "runtime.NumGoroutine") false] (hb : fn.body = some c) (hn : fn.ntmps = n) (hk : Nat.ble args.length n = true) (hL : P7 0 args = L)
  (h:W P ⟨n,[]⟩ c (WJ P fn R) L w):Ok P f args w R:=
 ⟨⟨fn,c,hf,hname.e,hb⟩,calls_of_wp_defers hf hb (h _ (by rw[hn];exact Xz hk hL))⟩
section
variable {P:Program}{n:Sz}{ops:Array Oper}{Q:Exit->Act->World->Prop}{L:ZC}{w:World}{rest:List Oper}{d:Nat}{dst:Option Tmp}{ty:TypeId}{pos:String}{af:Array Edge}{pv:Value}
def AjA{x:Operand}{t:TypeId}{u:Value}[hx:V9 (ev L x) (TI pv)][hp:V9 pv (.iface t u)](h:At n Q (.panic (pch pv)) L w):S P n ops Q (⟨dst,.panic x,ty,pos,af,none⟩::rest) L w:=have hp:=hp.e;
 UA Z λa fr=>by
  unfold Oper.wp
  have e:(execOp a.eval ⟨dst,.panic x,ty,pos,af,none⟩).run P w=.halt (.panic pv) w:=by
   subst hp;simp[execOp,fr.Wz x _ hx.e,Instr.panic,goPanic]
  rw[e];exact h a fr
theorem AjB{f:FuncId}{args:List Operand}{vs:LR}{at_:Array TypeId}{R:Option Value->World->Prop}(ha:U8 L args=TI vs)(hn:Uu d n.n=true)(hok:ZL P f vs w pv R)
  (b:∀w',R none w'->At n Q (.panic (pch pv)) L w') (h:∀v w',R (TI v) w'->S P n ops Q rest ((d,v)::L) w'):S P n ops Q (⟨TI d,.call ⟨.value (.func f),args.toArray,at_⟩,ty,pos,af,none⟩::rest) L w:=
 UA Z λa fr=>by
  unfold Oper.wp;rw[KU hok.1 ha _ fr.Wz];refine hok.2.mono λe w' k=>?_
  cases e with
  | returned v=>exact h v w' k _ (fr.put hn)
  | panicked c=>obtain⟨rfl,k⟩:=k;exact b w' k a fr
  | outgrown=>exact k.elim
theorem Qa{α:Type}{r:Option α}{f:FuncId}{args:List Operand}{vs:LR}{at_:Array TypeId}{R:World->α->Value->Prop}{N:World->Prop}[ha:V9 (U8 L args) (TI vs)][hn:V9 (Uu d n.n) true]
  (hok:ZL P f vs w pv (λv w'=>Ze r v (R w') (N w'))) (a:r=none->∀w',N w'->At n Q (.panic (pch pv)) L w')
  (h:∀y,r=TI y->∀v w',R w' y v->S P n ops Q rest ((d,v)::L) w'):S P n ops Q (⟨TI d,.call ⟨.value (.func f),args.toArray,at_⟩,ty,pos,af,none⟩::rest) L w:=
 AjB ha.e hn.e hok (λw' hr=>by
  cases r with
  | none=>exact a Z w' hr
  | some y=>exact hr.elim) (λv w' hr=>by
  cases r with
  | none=>exact hr.elim
  | some y=>exact h y Z v w' hr)
def DZ{y:Code}{c:List PanicEntry}(h:At n Q (.panic c) L w):At n (Si P y Q) (.panic c) L w:=h
def QI{σ:Type}{I:σ->ZC}{R:σ->World->Prop}{c:List PanicEntry}(h:At n Q (.panic c) L w):At n (KS n I R Q) (.panic c) L w:=h
def TL{σ:Type}{I:σ->ZC}{R:σ->World->Prop}{μ:σ->Nat}{a:σ}{c:List PanicEntry}(h:At n Q (.panic c) L w):At n (XJ n I R μ a Q) (.panic c) L w:=h
def FD{id:Nat}{c:List PanicEntry}(h:At n Q (.panic c) L w):At n (Exit.inBlock id Q) (.panic c) L w:=h
def NS{k:Nat}{fn:Func}{R:Option Value->World->Prop}(h:At ⟨k,[]⟩ (Ox P fn (λv w=>R (TI v) w)) .ret L w):At ⟨k,[]⟩ (ZN P fn pv R) .ret L w:=λa fr=>by
 obtain⟨b,v,h2,u,h3,c⟩:=h a fr
 cases h3
 exact⟨b,_,h2,c⟩
def AjC{k:Nat}{fn:Func}{R:Option Value->World->Prop}(h:At ⟨k,[]⟩ (Ox P fn (λv w=>R (TI v) w)) .normal L w):At ⟨k,[]⟩ (ZN P fn pv R) .normal L w:=λa fr=>by
 obtain⟨b,v,h2,u,h3,c⟩:=h a fr
 cases h3
 exact⟨b,_,h2,c⟩
def NT{k:Nat}{fn:Func}{R:Option Value->World->Prop}(h:R none w):At ⟨k,[]⟩ (ZN P fn pv R) (.panic (pch pv)) L w:=λ_ fr=>⟨fr.defers,Z,h⟩
def Yl:TypeDesc->Bool
 | .interface _=>false
 | _=>true
def AmH[Dr]{t t':TypeId}{x:Operand}{v:Value}{w:World}{dd:TypeDesc}(hx:ev L x=TI v)(ht:P.underlying t=TI dd)(hd:Yl dd=true):AY P L w (.makeInterface t x) t' (.iface t v):=λw' _ ρ hρ dst pos af g=>by
 cases dd <;> simp[Yl]at hd <;> simp[execOp,hρ x _ hx,Instr.makeInterface,run_underlying ht]
def Alj{t:TypeId}{ms:Array (String×TypeId)}{w:World}(ht:P.underlying t=some (.interface ms))(x:Value)(hx:x=.nilIface\/∃u v,x=.iface u v):(Op.equal t x .nilIface).run P w=.ok (match x with | .nilIface=>true | _=>false) w:=by
 unfold Op.equal;obtain⟨d,hd⟩:∃d,Op.maxDepth=d+1:=⟨9999,Z⟩;rw[hd]
 rcases hx with rfl | ⟨u,v,rfl⟩ <;> simp[Op.equalIn,run_underlying ht]
def Alk[Dr]{t t':TypeId}{x:Operand}{u:TypeId}{v:Value}{w:World}{ms:Array (String×TypeId)}[hx:V9 (ev L x) (TI (.iface u v))][ht:V9 (P.underlying t) (TI (.interface ms))]:AY P L w (.binOp .neq t x (.const .nilIface) t') ty (.bool true):=λw' _ ρ hρ dst pos af g=>by
 have hy:ρ (.const .nilIface)=.nilIface:=hρ _ _ Z;simp[execOp,hρ x _ hx.e,hy,eqGuard,binOp,Alj ht.e (.iface u v) (.inr ⟨u,v,Z⟩)]
def AmI[Dr]{t t':TypeId}{x:Operand}{w:World}{ms:Array (String×TypeId)}[hx:V9 (ev L x) (TI .nilIface)][ht:V9 (P.underlying t) (TI (.interface ms))]:AY P L w (.binOp .neq t x (.const .nilIface) t') ty (.bool false):=λw' _ ρ hρ dst pos af g=>by
 have hy:ρ (.const .nilIface)=.nilIface:=hρ _ _ Z;simp[execOp,hρ x _ hx.e,hy,eqGuard,binOp,Alj ht.e .nilIface (.inl Z)]
abbrev dfr(g:FuncId)(cap:LR):Deferred:={target:=.fn (.func g) cap.toArray,args:=#[]}
def AjD{k:Nat}{ds:List Deferred}{g:FuncId}{cap:LR}{fo:Operand}(hf:ev L fo=TI (.func (.func g) #[] cap.toArray))(h:S P ⟨k,dfr g cap::ds⟩ ops Q rest L w):
  S P ⟨k,ds⟩ ops Q (⟨none,.defer ⟨.value fo,#[],#[]⟩,ty,pos,af,none⟩::rest) L w:=
 UA Z λa fr=>by
  unfold Oper.wp
  have e:(execOp a.eval ⟨none,.defer ⟨.value fo,#[],#[]⟩,ty,pos,af,none⟩).run P w=.ok (.defer (dfr g cap)) w:=by
   simp[execOp,resolve,fr.Wz fo _ hf,Deferred.ofValue]
  rw[e];refine h _ ⟨fr.size,?_,fr.get⟩
  show dfr g cap::a.defers=_
  rw[fr.defers]
def QT(P:Program)(g:FuncId)(cap:LR)(u u':FrameMode)(w:World)(R:World->Prop):Prop:=
 IN P g/\CallsD P g cap.toArray u w (λe a w'=>(∃v,e=.returned v)/\a=u'/\R w')
def Yh{fn:Func}{tmps:Array Value}{R:Ending->World->Prop}{g:FuncId}{cap:LR}{u u':FrameMode}{Rd:World->Prop}(hu:u≠.run)(hs:settle u'=.returning)(h:QT P g cap u u' w Rd)
  (hr:∀w',Rd w'->∃v,(results fn tmps).run P w'=.ok v w'/\R (.returned v) w'):Leaves P fn tmps R [dfr g cap] u w:=by
 obtain ⟨fn', c, b, h2, h3⟩ := h.1;have h2' : ¬fn'.name = "runtime.NumGoroutine" := by simpa using h2
 refine leaves_cons (f:=g) (args:=cap.toArray) hu (by simp[invoke,callFunc,b,h2',h3]) (h.2.mono λe d w' ⟨⟨v,he⟩,a,hR⟩=>?_);subst he;subst a;simp only[hs,Leaves];exact hr w' hR
def AjE{k:Nat}{fn:Func}{R:Value->World->Prop}{g:FuncId}{cap:LR}{Rd:World->Prop}(h:QT P g cap .returning .returning w Rd)
  (hr:∀w',Rd w'->∀a,Fr ⟨k,[dfr g cap]⟩ a L->∃v,(results fn a.tmps).run P w'=.ok v w'/\R v w'):At ⟨k,[dfr g cap]⟩ (WJ P fn R) .ret L w:=λa fr=>by
 show Leaves P fn a.tmps (Rq R) a.defers .returning w
 rw[fr.defers];exact Yh Rg Z h λw' hR=>by obtain⟨v,b,h2⟩:=hr w' hR a fr;exact⟨v,b,v,Z,h2⟩
def Ae8{k:Nat}{fn:Func}{R:Value->World->Prop}{g:FuncId}{cap:LR}{Rd:World->Prop}(h:QT P g cap (.panicking (pch pv)) (.panicking (T8 pv)) w Rd)
  (hr:∀w',Rd w'->∀a,Fr ⟨k,[dfr g cap]⟩ a L->∃v,(results fn a.tmps).run P w'=.ok v w'/\R v w'):At ⟨k,[dfr g cap]⟩ (WJ P fn R) (.panic (pch pv)) L w:=λa fr=>by
 show Leaves P fn a.tmps (Rq R) a.defers (.panicking (pch pv)) w
 rw[fr.defers];exact Yh Rg Z h λw' hR=>by obtain⟨v,b,h2⟩:=hr w' hR a fr;exact⟨v,b,v,Z,h2⟩
def AgY{k:Nat}{fn:Func}{R:Value->World->Prop}(h:At ⟨k,[]⟩ (Ox P fn R) .ret L w):At ⟨k,[]⟩ (WJ P fn R) .ret L w:=λa fr=>by
 obtain⟨b,v,h2,h3⟩:=h a fr
 show Leaves P fn a.tmps (Rq R) a.defers .returning w
 rw[fr.defers];exact⟨v,h2,h3⟩
def Yi{fn:Func}{q q':ResultVar}{v v':Value}{a:Act}(hl:fn.results = #[q,q'])(h:Got P L w q v)(h':Got P L w q' v')(fr:Fr n a L):(results fn a.tmps).run P w=.ok (.tuple #[v,v']) w:=by
 rw[QG,hl];simp[h.run fr,h'.run fr]
inductive AgZ (pv:Value):FrameMode->FrameMode->Value->Prop
 | no:AgZ pv .returning .returning .nilIface
 | yes:AgZ pv (.panicking (pch pv)) (.panicking (T8 pv)) pv
theorem VI[Dr]{g:FuncId}{fn:Func}{cap:LR}{u u':FrameMode}{rv f:Value}{k id a d:Nat}{op2:Op}{ty1 ty2:TypeId}{pos1 pos2:String}{af1 af2:Array Edge}{at_:Array TypeId}{y:Code}{R:World->Prop}(L:ZC)
  (hf : P.funcs[g]? = some fn) (hname : (fn.name == "runtime.NumGoroutine") = false)
  (hb:fn.body=TI (.seq (.region id #[⟨TI a,.call ⟨.builtin .recover,#[],at_⟩,ty1,pos1,af1,none⟩,⟨TI d,op2,ty2,pos2,af2,none⟩] false) y)) (hk:fn.ntmps=k) (hkl:Nat.ble cap.length k=true) (hL:P7 0 cap=L)
  (n:Uu a k=true) (o:Uu d k=true) (hrec:AgZ pv u u' rv) (h2:AY P ((a,rv)::L) w op2 ty2 f)
  (h:W P ⟨k,[]⟩ y (Ox P fn (λ_ w'=>R w')) ((d,f)::(a,rv)::L) w):QT P g cap u u' w R:=by
 refine⟨⟨fn,_,hf,hname,hb⟩,callsD_of_wpS hf hb λb cs hu=>?_⟩;have fr0:=Xz (k:=k) hkl hL;rw[<- hk]at fr0;refine wpS_seq (wpS_region ?_)
 have r:∀ρ:Operand->Value,(execOp ρ ⟨TI a,.call ⟨.builtin .recover,#[],at_⟩,ty1,pos1,af1,none⟩).run P w=.ok .recover w:=fun ρ=>by
  simp[execOp,resolve,invoke,builtin]
 have fr1:Fr ⟨k,[]⟩ ((⟨cap.toArray++Ke (fn.ntmps - cap.toArray.size) undef,[]⟩:Act).put (TI a) rv) ((a,rv)::L):=by rw[hk]at fr0 ⊢;exact fr0.put n
 have fr2:=fr1.put (v:=f) o;have p:=h2 w (Ext.refl w) _ fr1.Wz (TI d) pos2 af2 none;have hw:=h _ fr2
 have hlast:∀c0':Frame,c0'.mode=u'->({b with mode:=u'}:Frame)=c0'->y.wpS P (bodyPostS P fn b cs λe s w'=>(∃v,e=.returned v)/\s=u'/\R w')
   (((⟨cap.toArray++Ke (fn.ntmps - cap.toArray.size) undef,[]⟩:Act).put (TI a) rv).put (TI d) f) (c0'::cs) w:=by
  intro c0' _ he;refine wpS_of_wp (wp_mono hw λe a' w' q=>?_)
  cases e with
  | normal=>obtain⟨i,v,j,u,t,m⟩:=q;exact⟨i,u',by rw[he],v,j,⟨v,Z⟩,Z,m⟩
  | ret=>obtain⟨i,v,j,u,t,m⟩:=q;exact⟨i,u',by rw[he],v,j,⟨v,Z⟩,Z,m⟩
  | panic c=>obtain⟨_,v,q,_⟩:=q;cases q
  | exit id=>exact q.elim
  | goto l=>exact q.elim
  | outgrown=>obtain⟨v,q,_⟩:=q;cases q
 have hr:List.range (#[⟨TI a,.call ⟨.builtin .recover,#[],at_⟩,ty1,pos1,af1,none⟩,⟨TI d,op2,ty2,pos2,af2,none⟩]:Array Oper).size=[0,1]:=Z;rw[hr];simp only[wpOpsS,List.getElem?_toArray,R3,List.getElem?_cons_succ,Region.wanted,if_true,r]
 cases hrec with
 | no=>
  have:recoverD (b::cs)=none:=by simp[recoverD,hu]
  simp only[this,p,Oper.upon];exact hlast b hu (by rw[<- hu])
 | yes=>
  have:recoverD (b::cs)=some (pv,{b with mode:=.panicking (T8 pv)}::cs):=by simp[recoverD,hu]
  simp only[this,p,Oper.upon];exact hlast {b with mode:=.panicking (T8 pv)} Z Z
end
end Go.E
namespace Go.E
open Go Go.RowKit
def NF(Q:Exit->Act->World->Prop):Prop:=∀a w,¬Q .outgrown a w
section
variable {P:Program}{n:Sz}{Q:Exit->Act->World->Prop}{L:ZC}{w:World}
def Hr{fn:Func}{R:Value->World->Prop}:NF (Ox P fn R):=λ_ _ ⟨_,h,_⟩=>by cases h
def Cs{y:Code}(h:NF Q):NF (Si P y Q):=λa w k=>h a w k
def Mp{σ:Type}{I:σ->ZC}{R:σ->World->Prop}(h:NF Q):NF (KS n I R Q):=λa w k=>h a w k
def CI{σ:Type}{I:σ->ZC}{R:σ->World->Prop}{μ:σ->Nat}{x:σ}(h:NF Q):NF (XJ n I R μ x Q):=λa w k=>h a w k
def AQ{id:Nat}(h:NF Q):NF (Exit.inBlock id Q):=λa w k=>h a w k
def FE(h:NF Q):NF (Exit.noGoto Q):=λa w k=>h a w k
def X0{c:Code}(h:W P n c (Exit.noGoto Q) L w):W P n (.scope c) Q L w:=λa fr=>wp_scope_straight (h a fr)
def Ae9{l:Nat}(h:At n Q .normal L w):W P n (.label l) Q L w:=λa fr=>wp_label (h a fr)
def Aha(h:At n Q .normal L w):At n (Exit.noGoto Q) .normal L w:=h
def EA(h:At n Q .ret L w):At n (Exit.noGoto Q) .ret L w:=h
end
def Kf(F:Fence):Prop:=F=Fence.wide\/∃l,F=Fence.wide.inRound l
def Kf.fn{F:Fence}(h:Kf F)(f:FuncId):F.fn f:=by rcases h with rfl | ⟨l,rfl⟩ <;> exact trivial
def Kf.dep{F:Fence}(h:Kf F):F.depth=none:=by rcases h with rfl | ⟨l,rfl⟩ <;> rfl
def Kf.calls{F:Fence}(h:Kf F){n:Nat}{P:Program}{f:FuncId}{args:Array Value}{w:World}{R:Ending->World->Prop}(k:Calls P f args w R):CallsIn F n P f args w R:=by
 rcases h with rfl | ⟨l,rfl⟩
 ·exact callsIn_wide.2 k
 ·exact(callsIn_wide.2 k).inRound l
def Kf.rows{F:Fence}(h:Kf F){n:Nat}{P:Program}{row:String}{args:Array Value}{w:World}{R:Value->World->Prop}(k:Rows P row args w R):RowsIn F n P row args w R:=by
 intro c cs _;obtain⟨v,w',hR,hs⟩:=k c cs;refine⟨v,w',hR,?_⟩
 rcases h with rfl | ⟨l,rfl⟩
 ·exact stepsIn_wide.2 hs
 ·rw[fenced_inRound];exact stepsIn_wide.2 hs
def UG:Op->Bool
 | .defer _=>true
 | _=>false
def Ahb{o:Op}(h:UG o=false):∀c,o≠.defer c:=λc e=>by subst e;cases h
section
variable {P:Program}{n:Sz}{ops:Array Oper}{Q:Exit->Act->World->Prop}{L:ZC}{w:World}{rest:List Oper}
theorem Yj{F:Fence}(hF:Kf F){o:Oper}(hd:UG o.op=false){next:Act->World->Prop}{a:Act}(h:o.wp P a w next Q):o.wpIn F 0 P a w next Q:=by
 refine⟨λf _=>hF.fn f,?_⟩;rw[Oper.semAt_eq _ _ _ (Ahb hd)];unfold Oper.wp at h;generalize (execOp a.eval o).run P w=r at h ⊢;have b:F.depth.isSome=true->1<=0:=λe=>by rw[hF.dep]at e;cases e
 cases r with
 | ok nx w'=>
  cases nx <;> simp only[Oper.upon]at h <;> simp only[Oper.uponIn]
  case value v=>exact h
  case skip=>exact h
  case defer d=>exact h
  case enter f args=>exact⟨b,(hF.calls h).mono λe w' k=>by cases e <;> exact k⟩
  case row row args=>exact⟨b,hF.rows h⟩
 | halt x w'=>cases x <;> simp only[Oper.upon]at h <;> simp only[Oper.uponIn];exact h
theorem K1{F:Fence}(hF:Kf F)(hq:NF Q):∀(l:List Oper) (a:Act) (w:World),l.all (λo=>!UG o.op)=true->wpList P ops Q l a w->wpListIn F 0 P ops Q l a w
 | [],_,_,_,h=>h
 | o::l,a,w,hd,h=>by
  simp only[List.all_cons,ZA,Bool.not_eq_true']at hd;simp only[wpList]at h;simp only[wpListIn]
  split
  ·rename_i hw;rw[Xu hw]at h
   rcases h with h | ⟨_,a',w',h⟩
   ·have b:=Yj hF hd.1 h;exact Oper.wpIn_mono (λa w k=>K1 hF hq l a w (by simpa using hd.2) k) b
   ·exact absurd h (hq a' w')
  ·rename_i hw;rw[Pb hw]at h;exact⟨λf _=>hF.fn f,K1 hF hq l _ _ (by simpa using hd.2) h⟩
def SY(P:Program)(n:Sz)(ops:Array Oper)(Q:Exit->Act->World->Prop)(l:List Oper)(L:ZC)(w:World):Prop:=∀a,Fr n a L->wpListIn Fence.wide 0 P ops Q l a w
def yQ(P:Program)(ops:Array Oper)(Q:Exit->Act->World->Prop)(rest:List Oper):Exit->Act->World->Prop:=Exit.then (λa w=>wpListIn Fence.wide 0 P ops Q rest a w) Q
def AlO{id:Nat}{l:List Oper}(h:SY P n l.toArray Q l L w):W P n (.region id l.toArray false) Q L w:=λa fr=>(wpIn_wide (n:=0)).1 (wpIn_region_lit (h a fr))
def Ahc{id:Nat}{l:List Oper}{y:Code}(h:SY P n l.toArray (Si P y Q) l L w):W P n (.seq (.region id l.toArray false) y) Q L w:=PW (AlO h)
def VJ{y:Code}(h:W P n y Q L w):SY P n ops (Si P y Q) [] L w:=λa fr=>h a fr
theorem O4{o:Oper}(hq:NF Q)[hd:V9 (UG o.op) false](h:S P n ops (yQ P ops Q rest) [o] L w):SY P n ops Q (o::rest) L w:=λa fr=>by
 have b:=h a fr;simp only[wpList]at b;simp only[wpListIn]
 split
 ·rename_i hw;rw[Xu hw]at b
  rcases b with b | ⟨_,a',w',b⟩
  ·have h2:=Yj (.inl Z) hd.e b
   have hm:∀{r:Result Next},o.uponIn Fence.wide 0 P a (λa w=>yQ P ops Q rest .normal a w) (yQ P ops Q rest) r->o.uponIn Fence.wide 0 P a (wpListIn Fence.wide 0 P ops Q rest) Q r:=by
    intro r hr
    cases r with
    | ok nx w'=>cases nx <;> exact hr
    | halt x w'=>cases x <;> exact hr
   exact⟨h2.1,hm h2.2⟩
  ·exact absurd b (hq a' w')
 ·rename_i hw;rw[Pb hw]at b;exact⟨λ_ _=>trivial,b⟩
def Hs(h:SY P n ops Q rest L w):S P n ops (yQ P ops Q rest) [] L w:=λa fr=>h a fr
def Ahd{s:Nat}{b:Bool}(_hb:gt L s=TI (.bool b))(a:b=true->SY P n ops Q rest L w)(h2:b=false->SY P n ops Q rest L w):SY P n ops Q rest L w:=by
 cases b
 ·exact h2 Z
 ·exact a Z
theorem AbZ{d l:Nat}{fo:Operand}{args:List Operand}{vs:LR}{at_:Array TypeId}{ty:TypeId}{pos:String}{af:Array Edge}{R:World->Prop}[hf:V9 (ev L fo) (TI (.func (.yield l) #[] #[]))][ha:V9 (U8 L args) (TI vs)][hn:V9 (Uu d n.n) true]
  (hy:YieldAt Fence.wide 0 P l vs.toArray w (λe w'=>e=.returned (.bool true)/\R w')) (h:∀w',R w'->SY P n ops Q rest ((d,.bool true)::L) w'):SY P n ops Q (⟨TI d,.call ⟨.value fo,args.toArray,at_⟩,ty,pos,af,none⟩::rest) L w:=λa fr=>by
 obtain⟨fn,tmps,assign,body,hrun,hround⟩:=hy;simp only[wpListIn];rw[Xu (by simp[Region.wanted])];refine⟨λ_ _=>trivial,?_⟩;have b:=fr.Wz.map _ _ ha.e
 have e:(Oper.semAt Fence.wide.round a.eval ⟨TI d,.call ⟨.value fo,args.toArray,at_⟩,ty,pos,af,none⟩).run P w=.ok (.round l fn tmps assign body) w:=by
  rw[Oper.semAt_eq _ _ _ (λc h=>by cases h)];simp[execOp,resolve,fr.Wz fo _ hf.e,Deferred.ofValue,invoke,b,hrun]
 rw[e];refine⟨λh=>by simp[Fence.wide]at h,hround.mono λe w' ⟨he,hR⟩=>?_⟩;subst he;exact h w' hR _ (fr.put hn.e)
theorem QJ{dst:Option Tmp}{op:Op}{j:Nat}{want b:Bool}{t:Nat}{ty:TypeId}{pos:String}{af:Array Edge}[hj:V9 (((ops[j]?).bind (·.dst))) (TI t)][hb:V9 (gt L t) (TI (.bool b))](hw:b=want)
  (h:SY P n ops Q (⟨dst,op,ty,pos,af,none⟩::rest) L w):SY P n ops Q (⟨dst,op,ty,pos,af,TI (j,want)⟩::rest) L w:=λa fr=>by
 have c:=h a fr;simp only[wpListIn]at c ⊢;have hy:yielded ops a.tmps j=TI b:=by simp[yielded,hj.e,fr.get t _ hb.e]
 have hwant:Region.wanted ⟨dst,op,ty,pos,af,TI (j,want)⟩ (yielded ops a.tmps)=true:=by simp[Region.wanted,hy,hw]
 rw[Xu hwant];have d:Region.wanted ⟨dst,op,ty,pos,af,none⟩ (yielded ops a.tmps)=true:=by simp[Region.wanted]
 rw[Xu d]at c;exact c
end
abbrev yR[Dr](l D b:Nat)(rec:Loop)(tb te:TypeId)(sz:Nat)(v:Value)(k:Nat)(xs:LR):List Bv:=
 [.obj l (.loop rec),.obj D (.deferred (TI [])),.box b [v] tb,.row v te sz k xs]
def Ahe[Dr](P:Program){α:Type}(r:Rp α)(sz bt:Nat)(l D b:Nat)(rec:Loop)(tb te:TypeId):Prop:=
 ∀
  {d w:World}{H:PH}{O:List Bv}{v u:Value}{xs c:LR}{a:List α}{x:α},Le H (hp d)->AB d (yR l D b rec tb te sz v a.length xs++O) w->
  Ao r (gz H d w (yR l D b rec tb te sz v a.length xs++O)) a xs->u.cells.toList=c->r.rel (gz H d w (yR l D b rec tb te sz v a.length xs++O)) x c->Dx bt (a.length+1)->
  YieldAt Fence.wide 0 P l #[u] w (λe w'=>e=.returned (.bool true)/\∃v' xs',AB d (yR l D b rec tb te sz v' (a++[x]).length xs'++O) w'/\
   Le (fz w (yR l D b rec tb te sz v a.length xs++O)) (fz w' (yR l D b rec tb te sz v' (a++[x]).length xs'++O))/\Ao r (gz H d w' (yR l D b rec tb te sz v' (a++[x]).length xs'++O)) (a++[x]) xs')
def WR(P:Program)(l:Nat)(n:Sz)(c:Code)(Q:Exit->Act->World->Prop)(L:ZC)(w:World):Prop:=∀a,Fr n a L->c.wpIn (Fence.wide.inRound l) 0 P Q a w
section
variable {P:Program}{j:Nat}{n:Sz}{Q:Exit->Act->World->Prop}{L:ZC}{w:World}
def ZM{id:Nat}{l:List Oper}(hd:l.all (λo=>!UG o.op)=true)(hq:NF Q)(h:S P n l.toArray Q l L w):WR P j n (.region id l.toArray false) Q L w:=λa fr=>
 wpIn_region_lit (K1 (.inr ⟨j,Z⟩) hq l a w hd (h a fr))
def Ahf{id:Nat}{c:Code}(h:WR P j n c (Exit.inBlock id Q) L w):WR P j n (.block id c) Q L w:=λa fr=>wpIn_block (h a fr)
def AB.putAt[Dr]{a:World}{O:List Bv}{i b:Nat}{o:Obj}(o':Obj)(hL:AB a O w)(hi:Ba O i=TI (.obj b o)):AB a (Ci O i (.obj b o')) (w.putObj b o')/\Le (fz w O) (fz (w.putObj b o') (Ci O i (.obj b o'))):=by
 have hg:w.grownBy (w.putObj b o') (TI b):=⟨Z,Z,Z,by simp,λk _ hk=>World.putObj_heap_other (λe=>hk (by rw[e]))⟩;have hlt:b<w.heap.size:=(hL.at hi).lt Z;exact⟨hL.KV hi (KN _) hg (World.putObj_heap_same hlt) (λk e=>.inl e),ES hL hi hg (λk e=>.inl e)⟩
def AlP(P:Program)(l:Nat)(body:Code)(R:Ending->World->Prop):Exit->Act->World->Prop:=
 Exit.then (λa₁ w₁=>∃w₂,(Instr.beginRound l).run P w₁=.ok () w₂/\body.wpIn (Fence.wide.inRound l) 0 P (roundPost P l R) a₁ w₂) (λ_ _ _=>False)
def AjF{l:Nat}{body:Code}{R:Ending->World->Prop}:NF (AlP P l body R):=λ_ _ h=>h
def Ahg{l:Nat}{R:Ending->World->Prop}:NF (roundPost P l R):=λ_ _ h=>h
def Ahh[Dr]{l i:Nat}{rec:Loop}{body:Code}{R:Ending->World->Prop}{b:World}{O:List Bv}(hst:rec.state=.ready)(hL:AB b O w)(hi:Ba O i=TI (.obj l (.loop rec)))
  (h:∀w',AB b (Ci O i (.obj l (.loop {rec with state:=.busy}))) w'->Le (fz w O) (fz w' (Ci O i (.obj l (.loop {rec with state:=.busy}))))->WR P l n body (roundPost P l R) L w'):At n (AlP P l body R) .normal L w:=λa fr=>by
 have c:=hL.at hi;have hp:=hL.putAt (.loop {rec with state:=.busy}) hi;exact⟨_,run_beginRound c hst,h _ hp.1 hp.2 a fr⟩
def AaH[Dr]{l i:Nat}{rec:Loop}{R:Ending->World->Prop}{b:World}{O:List Bv}(hL:AB b O w)(hi:Ba O i=TI (.obj l (.loop rec)))
  (h:∀w',AB b (Ci O i (.obj l (.loop {rec with state:=.ready,pending:=none}))) w'->Le (fz w O) (fz w' (Ci O i (.obj l (.loop {rec with state:=.ready,pending:=none}))))->R (.returned (.bool true)) w'):At n (roundPost P l R) .normal L w:=λa _=>by
 have c:=hL.at hi;have hp:=hL.putAt (.loop {rec with state:=.ready,pending:=none}) hi;exact⟨_,_,run_endRound none c,h _ hp.1 hp.2⟩
def Ahi[Dr]{α:Type}{r:Rp α}{sz bt l D b p k:Nat}{rec:Loop}{tb te:TypeId}{Lr:ZC}(_hst:rec.state=.ready)(_hpe:rec.pending=none)(hps:rec.params = #[p])(fr:Fr ⟨k,[]⟩ ⟨rec.tmps,[]⟩ Lr)(hpk:Uu p k=true)
  (hround:∀{f w:World}{H:PH}{O:List Bv}{v u:Value}{xs c:LR}{a:List α}{x:α},Le H (hp f)->AB f (yR l D b rec tb te sz v a.length xs++O) w->
   Ao r (gz H f w (yR l D b rec tb te sz v a.length xs++O)) a xs->u.cells.toList=c->r.rel (gz H f w (yR l D b rec tb te sz v a.length xs++O)) x c->Dx bt (a.length+1)->
   WR P l ⟨k,[]⟩ rec.assign (AlP P l rec.body (λe w'=>e=.returned (.bool true)/\∃v' xs',AB f (yR l D b rec tb te sz v' (a++[x]).length xs'++O) w'/\
    Le (fz w (yR l D b rec tb te sz v a.length xs++O)) (fz w' (yR l D b rec tb te sz v' (a++[x]).length xs'++O))/\Ao r (gz H f w' (yR l D b rec tb te sz v' (a++[x]).length xs'++O)) (a++[x]) xs')) ((p,u)::Lr) w) :
  Ahe P r sz bt l D b rec tb te:=λ{f w H O v u xs c a x} hH hL he hu hx hc=>by
 refine⟨rec.fn,_,rec.assign,rec.body,run_yield (hL.aT 0 Z) (by rw[hps];rfl),roundIn_of_wpIn trivial ?_⟩;rw[hps];have e:((#[p]:Array Tmp).zip #[u]).foldl (λtmps (x:Tmp×Value)=>tmps.setIfInBounds x.1 x.2) rec.tmps=rec.tmps.setIfInBounds p u:=by simp
 rw[show _=_ from e];exact hround hH hL he hu hx hc _ (fr.put (d:=p) (v:=u) hpk)
def AjG[Dr]{g:FuncId}{cap:LR}{go:Operand}{ps:Array Tmp}{assign body:Code}(hg:ev L go=TI (.func (.func g) #[] cap.toArray))(hc:IN P g){f:World}{O:List Bv}(hL:AB f O w)
  (h:∀(a:Act),Fr n a L->∀(fn:FuncId) (l D:Nat) (m:World) (rec:Loop),rec={state:=.ready,pending:=none,fn,tmps:=a.tmps,params:=ps,assign,body,defers:=D}->
   AB f (.obj l (.loop rec)::.obj D (.deferred (TI []))::O) m->Le (fz w O) (fz m (.obj l (.loop rec)::.obj D (.deferred (TI []))::O))->
   Calls P g (#[.func (.yield l) #[] #[]]++cap.toArray) m (λe o=>(∃v,e=.returned v)/\∃O',AB f (.obj l (.loop rec)::O') o/\
    ∀
     p,AB f (.obj l (.loop {rec with state:=.exhausted})::O') p->Le (fz o (.obj l (.loop rec)::O')) (fz p (.obj l (.loop {rec with state:=.exhausted})::O'))->
     At ⟨n.n,{target:=.collected D,args:=#[]}::n.d⟩ Q .normal L p)):W P n (.rangeFunc go ps assign body) Q L w:=λa fr=>by
 refine (wpIn_wide (n := 0)).1 (wpIn_rangeFunc λfn _ => ?_);obtain ⟨fn', c, t, h2, h3⟩ := hc;have h2' : ¬fn'.name = "runtime.NumGoroutine" := by simpa using h2
 have q:=hL.new (r:=.obj w.heap.size (.deferred (TI []))) (C1 w (.deferred (TI []))) (show(w.alloc _).heap[w.heap.size]? = _ from World.alloc_heap_new w _) (λb hb=>by cases hb;exact KN _);have f1:=Uj hL (r:=.obj w.heap.size (.deferred (TI []))) (C1 w (.deferred (TI []))) (λb hb=>by cases hb;exact KN _);have hs:(w.alloc (.deferred (TI []))).heap.size=w.heap.size+1:=by simp
 have s:=q.new (r:=.obj (w.heap.size+1) (.loop {state:=.ready,pending:=none,fn,tmps:=a.tmps,params:=ps,assign,body,defers:=w.heap.size})) (C1 _ _)
  (by rw[<- hs];exact World.alloc_heap_new _ _) (λb hb=>by cases hb;exact Nat.le_of_eq hs)
 have f2:=Uj q (r:=.obj (w.heap.size+1) (.loop {state:=.ready,pending:=none,fn,tmps:=a.tmps,params:=ps,assign,body,defers:=w.heap.size})) (C1 _ (.loop {state:=.ready,pending:=none,fn,tmps:=a.tmps,params:=ps,assign,body,defers:=w.heap.size}))
  (λb hb=>by cases hb;exact Nat.le_of_eq hs)
 obtain⟨W1,j⟩:∃W1,W1=(w.alloc (.deferred (some []))).alloc (.loop {state:=.ready,pending:=none,fn,tmps:=a.tmps,params:=ps,assign,body,defers:=w.heap.size}):=⟨_,Z⟩;rw[<- j]at s f2;have hcall:=h a fr fn (w.heap.size+1) w.heap.size W1 _ Z s (f1.trans f2);refine⟨w.heap.size+1,[{target:=.collected w.heap.size,args:=#[]}],W1,{target:=.fn (.func g) cap.toArray,args:=#[.func (.yield (w.heap.size+1)) #[] #[]]},W1,g,#[.func (.yield (w.heap.size+1)) #[] #[]]++cap.toArray,W1,by rw[j];exact run_enterLoop_outer _ _ _ _ _,?_,λ_ _=>trivial,?_,λe=>by simp[Fence.wide]at e,?_⟩
 ·have hgo:=fr.Wz go _ hg;simp only[resolve,hgo];simp[Deferred.ofValue,Act.eval]
 ·simp[invoke,callFunc,t,h2',h3]
 ·refine(callsIn_wide.2 hcall).mono λe o ⟨⟨v,he⟩,O',k,hk⟩=>?_;subst he;have hp:=k.putAt (i:=0) (.loop {state:=.exhausted,pending:=none,fn,tmps:=a.tmps,params:=ps,assign,body,defers:=w.heap.size}) Z;refine⟨none,_,run_endLoop (k.aT 0 Z) Rg,?_⟩;exact hk _ hp.1 hp.2 {a with defers:=[{target:=.collected w.heap.size,args:=#[]}]++a.defers} ⟨fr.size,by rw[fr.defers];rfl,fr.get⟩
def Alm(P:Program)(fn:Func)(R:Value->World->Prop):Exit->Act->World->Prop:=bodyPostM Fence.wide 0 P fn (Rq R)
def Af9{f:FuncId}{fn:Func}{c:Code}{args:LR}{R:Value->World->Prop}{k:Nat}(L:ZC)
  (hf : P.funcs[f]? = some fn) [hname:V9 (fn.name == "runtime.NumGoroutine") false] (hb : fn.body = some c) (hn : fn.ntmps = k) (hk : Nat.ble args.length k = true) (hL : P7 0 args = L)
  (h:W P ⟨k,[]⟩ c (Alm P fn R) L w):Ok P f args w R:=
 ⟨⟨fn,c,hf,hname.e,hb⟩,callsIn_wide.1 (callsIn_of_wp_marks hf hb trivial ((wpIn_wide (n:=0)).2 (h _ (by rw[hn];exact Xz hk hL))))⟩
def AjH[Dr]{k D i:Nat}{fn:Func}{R:Value->World->Prop}{l:List ResultVar}{v:Value}{b:World}{O:List Bv}(hl:fn.results=l.toArray)(hr:Sk l L=TI v)(hL:AB b O w)(hi:Ba O i=TI (.obj D (.deferred (TI []))))
  (h:∀w',AB b (Ci O i (.obj D (.deferred none))) w'->Le (fz w O) (fz w' (Ci O i (.obj D (.deferred none))))->R v w'):At ⟨k,[{target:=.collected D,args:=#[]}]⟩ (Alm P fn R) .ret L w:=λa fr=>by
 show LeavesInM Fence.wide 0 P fn a.tmps (Rq R) a.defers .returning w
 rw[fr.defers];have hp:=hL.putAt (.deferred none) hi;exact⟨by simp,.inl ⟨_,_,Z,run_takeDeferred (hL.at hi),v,XN fr hl hr,v,Z,h _ hp.1 hp.2⟩⟩
end
end Go.E
end
