/- Texts of a claim, merged. -/
import Derived.Shelf.SlGeneric
import Derived.Shelf.Strings.Split
import Derived.Shelf.Strings.OnBuilder
import Derived.Shelf.GgClosure.StringsRunes
import Derived.Shelf.Strings.Runes
import Derived.Shelf.Strconv.Itoa3
import Derived.Shelf.Strconv.AtoiAll
import Derived.Ground.NamesProg
import Derived.Ground.Names2Prog
import Derived.Ground.Names7Prog
import Derived.Ground.GgwProg
import Derived.Ground.GgzProg
import Derived.Ground.SlsfProg
import Derived.Shelf.Strings.Fields
import Derived.Sort.EncStr
import Derived.Test.YtnmkjjgmnbmmnaaGreatDoorProg
import Derived.WalkKit
import Derived.ProofKit
import Derived.StillTail
import Derived.Laws.StructEq
import Derived.Lib.AppendZeros
import Derived.Lib.Bytealg
import Derived.Laws.Externs
import Derived.Lib.ConvBytes
import Derived.Recover
import Derived.RangeFuncSeq
import Derived.RangeFuncLeaves
import Derived.RangeFuncCalls
import Derived.OrdersIn
import Derived.Scope
import Derived.Lib.Builder
import Derived.Lib.UnsafeStr
open Option renaming bind_some->Qq9,isNone_iff_eq_none->QxE
open Nat renaming le_refl->Qzx,blt->Qzz,mul_one->Qzy,zero_add->Qzd,zero_le->Qzb,lt_or_ge->QzX,add_mul->QzZ,le_trans->Qz2,beq->QzC,eq_of_beq_eq_true->QxA,zero_mul->Qxx
open List renaming replicate->Qzw,eq_nil_of_length_eq_zero->Qz0,getD_eq_getElem?_getD->Qz7,getElem?_eq_some_iff->Qxq,take_of_length_le->Qz3,pairwise_cons->QxX,range->QzE,getElem?_take->QxK,all_eq_true->Qxe,mem_append->Qxc,size_toArray->QxZ
open UInt8 renaming ofNat->Qzv,toNat_ofNat'->QxJ
open Bool renaming and_eq_true->Qza,false_eq_true->Qxj,not_false->Qxu,or_eq_true->Qxd
open BitVec renaming ofInt->Qze
open Int renaming eq_ofNat_of_zero_le->QzD,toNat_of_nonneg->QzK
open Array renaming getD_eq_getD_getElem?->Qz9,getElem?_setIfInBounds->QxC,replicate->Qxw,getElem?_eq_none->QxB,getElem?_eq_some_iff->Qx0
open ByteArray renaming size->Qxk
set_option linter.unusedVariables false
set_option linter.unusedSimpArgs false
class Qqq{α:Sort _}(a:α)(b:outParam α):Prop where e:a=b
instance{α:Sort _}(a:α):Qqq a a:=⟨rfl⟩
theorem Z{α:Sort _}{a:α}:a=a:=rfl
theorem U{p:Prop}(h:p:=by omega):p:=h
theorem V{p:Prop}(h:p:=by kernel_rfl):p:=h
theorem Qqb{p:Prop}(h:p:=by decide):p:=h
theorem Qqc{p:Prop}(h:p:=by simp):p:=h
noncomputable abbrev Qq1{α:Type _}[Inhabited α]:α:=default
abbrev Qq3:=List UInt8
abbrev Qq4:=List Int
abbrev Qq5:=List Go.Value
abbrev Qq6:=Int×Int
abbrev Qq7:=List Qq3
noncomputable section
namespace Go.Proofs
open Go.Shelf
set_option maxRecDepth 100000
def Tryz.KV:Go.Shelf.Ren:=⟨fun | 146=>31 | 221=>77 | 268=>115 | 138=>116 | 143=>117 | 195=>151 | 197=>152 | 218=>153 | 219=>76 | 260=>184 | 217=>111 | 225=>112 | 224=>113 | 267=>114 | 266=>149 | 314=>150 | n=>n,fun | 9=>9 | 31=>31 | 3=>3 | 4=>4 | 0=>0 | 105=>189 | 21=>21 | 5=>5 | 46=>113 | 119=>121 | 139=>244 | 138=>243 | 146=>186 | 51=>160 | n=>n,fun | 1=>1 | 3=>5 | 4=>6 | n=>n⟩
theorem Tryz.PB:Go.Proofs.Lays.n146 Tryz.prog Tryz.KV:=by repeat' first|kernel_rfl|constructor|intro _
def Tryz.Pd:Go.Shelf.Ren:=⟨fun | 156=>131 | 165=>173 | 166=>174 | 169=>175 | 240=>194 | 241=>195 | 276=>205 | 277=>206 | n=>n,fun | 31=>31 | 9=>9 | 3=>3 | 4=>4 | 0=>0 | 20=>20 | 72=>215 | 76=>130 | 70=>213 | 37=>22 | 75=>129 | 127=>238 | 164=>253 | 5=>5 | 80=>30 | n=>n,fun | n=>n⟩
theorem Tryz.Tl:Go.Proofs.Lays.n156 Tryz.prog Tryz.Pd:=by repeat' first|kernel_rfl|constructor|intro _
def Tryz.TQ:Go.Shelf.Ren:=⟨fun | 17=>80 | 15=>119 | 20=>156 | n=>n,fun | 9=>9 | 23=>123 | 4=>4 | 3=>3 | 0=>0 | 21=>21 | n=>n,fun | n=>n⟩
theorem Tryz.YK:Go.Proofs.LaysGw.n17 Tryz.prog Tryz.TQ:=by repeat' first|kernel_rfl|constructor|intro _
def Tryz.QG:Go.Shelf.Ren:=⟨fun | 137=>83 | 217=>111 | 266=>149 | n=>n,fun | 9=>9 | 5=>5 | 3=>3 | n=>n,fun | n=>n⟩
theorem Tryz.Xm:Go.Proofs.Lays.n137 Tryz.prog Tryz.QG:=by repeat' first|kernel_rfl|constructor|intro _
def Tryz.RI:Go.Shelf.Ren:=⟨fun | 171=>86 | 243=>123 | 246=>163 | 283=>188 | 284=>189 | 285=>190 | 286=>191 | 129=>201 | 317=>200 | 318=>202 | 319=>203 | 320=>204 | 337=>207 | 338=>208 | n=>n,fun | 3=>3 | 9=>9 | 2=>2 | 4=>4 | 171=>233 | 0=>0 | 53=>219 | 37=>22 | 5=>5 | 173=>236 | 212=>250 | 51=>160 | 20=>20 | 213=>251 | 46=>113 | 232=>256 | 233=>257 | n=>n,fun | 17=>7 | 18=>8 | 19=>9 | n=>n⟩
theorem Tryz.VV:Go.Proofs.LaysM.n171 Tryz.prog Tryz.RI:=by repeat' first|kernel_rfl|constructor|intro _
def Tryz.MZ:Go.Shelf.Ren:=⟨fun | 172=>85 | 244=>121 | 245=>122 | 247=>158 | 279=>159 | 280=>160 | 281=>161 | 282=>162 | 287=>185 | 316=>186 | 171=>86 | 205=>187 | 321=>198 | 322=>199 | 243=>123 | 246=>163 | 283=>188 | 284=>189 | 285=>190 | 286=>191 | 129=>201 | 317=>200 | 318=>202 | 319=>203 | 320=>204 | 337=>207 | 338=>208 | n=>n,fun | 9=>9 | 3=>3 | 75=>129 | 76=>130 | 4=>4 | 5=>5 | 167=>203 | 37=>22 | 0=>0 | 85=>204 | 2=>2 | 168=>206 | 53=>219 | 175=>227 | 46=>113 | 210=>231 | 127=>238 | 145=>248 | 143=>246 | 21=>21 | 171=>233 | 173=>236 | 212=>250 | 51=>160 | 20=>20 | 213=>251 | 232=>256 | 233=>257 | 80=>30 | n=>n,fun | 15=>3 | 16=>4 | 17=>7 | 18=>8 | 19=>9 | n=>n⟩
theorem Tryz.Ri:Go.Proofs.LaysC.n172 Tryz.prog Tryz.MZ:=by repeat' first|kernel_rfl|constructor|intro _
def Tryz.Q4:Go.Shelf.Ren:=⟨fun | 157=>34 | 229=>78 | 199=>79 | 261=>118 | 311=>154 | 312=>155 | n=>n,fun | 9=>9 | 31=>31 | 3=>3 | 5=>5 | 4=>4 | 119=>121 | 0=>0 | 40=>123 | 152=>157 | 21=>21 | 154=>159 | 51=>160 | 141=>162 | 196=>194 | 193=>191 | 198=>197 | 49=>195 | 194=>192 | 201=>200 | 226=>225 | 46=>113 | 227=>226 | n=>n,fun | 0=>0 | 6=>2 | n=>n⟩
theorem Tryz.TR:Go.Proofs.Lays.n157 Tryz.prog Tryz.Q4:=by repeat' first|kernel_rfl|constructor|intro _
end Go.Proofs
end
noncomputable section
namespace Go.E
open Go
abbrev Env:=List (Nat×Value)
def gt:Env->Nat->Option Value
 | [],_=>none
 | (k,v)::L,t=>bif QzC k t then some v else gt L t
def ev(L:Env):Operand->Option Value
 | .tmp t=>gt L t
 | .const v=>some v
 | .global g=>some (.pointer (some ⟨g,0,none⟩))
 | .func f=>some (.func (.func f) #[] #[])
def RJ(L:Env):List Operand->Option Qq5
 | []=>some []
 | x::xs=>match ev L x,RJ L xs with
  | some v,some vs=>some (v::vs)
  | _,_=>none
structure Sz where
 n:Nat
 d:List Deferred
structure Fr (n:Sz) (a:Act) (L:Env):Prop where
 size:a.tmps.size=n.n
 defers:a.defers=n.d
 get:∀t v,gt L t=some v->a.tmps[t]? = some v
theorem My{k t:Nat}{v:Value}{L:Env}:gt ((k,v)::L) t=if k=t then some v else gt L t:=by
 show(bif QzC k t then some v else gt L t)=_
 by_cases h:k=t
 ·subst h;simp
 ·have:QzC k t=false:=by
   cases hb:QzC k t with
   | true=>exact absurd (QxA hb) h
   | false=>rfl
  rw[this,if_neg h];rfl
theorem Fr.eval{n:Sz}{a:Act}{L:Env}(h:Fr n a L){x:Operand}{v:Value}(hx:ev L x=some v):a.eval x=v:=by
 cases x with
 | tmp t=>simp only[ev]at hx;have:=h.get t v hx;simp[Act.eval,Qz9,this]
 | const u=>simp only[ev,Option.some.injEq]at hx;simpa[Act.eval]using hx
 | func f=>simp only[ev,Option.some.injEq]at hx;simpa[Act.eval]using hx
 | _=>simp only[ev,Option.some.injEq]at hx;simpa[Act.eval]using hx
theorem Fr.put{n:Sz}{a:Act}{L:Env}(h:Fr n a L){d:Nat}{v:Value}(hd:Qzz d n.n=true):Fr n (a.put (some d) v) ((d,v)::L):=by
 have hd':d<n.n:=by simpa[Nat.blt_eq]using hd
 refine⟨by simp[Act.put,h.size],by simp[Act.put,h.defers],fun t u ht=>?_⟩;rw[My]at ht
 by_cases e:d=t
 ·subst e;rw[if_pos Z]at ht
  cases ht
  simp[Act.put,h.size,hd']
 ·rw[if_neg e]at ht;have:=h.get t u ht;simp only[Act.put];rw[Array.getElem?_setIfInBounds_ne e];exact this
theorem Ch(n:Nat)(h:n<=9223372036854775807:=by decide):n<=9223372036854775807:=h
def Sub(L' L:Env):Prop:=∀t v,gt L' t=some v->gt L t=some v
theorem Sub.refl(L:Env):Sub L L:=fun _ _ h=>h
theorem Sub.nil(L:Env):Sub [] L:=fun _ _ h=>by cases h
theorem Sub.cons{t:Nat}{v:Value}{L' L:Env}(hg:gt L t=some v)(h:Sub L' L):Sub ((t,v)::L') L:=fun t' u hu=>by
 rw[My]at hu
 by_cases e:t=t'
 ·subst e;rw[if_pos Z]at hu;cases hu;exact hg
 ·rw[if_neg e]at hu;exact h t' u hu
def ga(L:Env):Env->List (Option Value)
 | []=>[]
 | (t,_)::r=>gt L t::ga L r
def va:Env->List (Option Value)
 | []=>[]
 | (_,v)::r=>some v::va r
theorem Sub.of{L:Env}:∀{L':Env},ga L L'=va L'->Sub L' L
 | [],_=>Sub.nil L
 | (_,_)::_,h=>Sub.cons (List.cons.inj h).1 (Sub.of (List.cons.inj h).2)
theorem Sub.int{t:Nat}{k:IntKind}{x y:Int}{L' L:Env}(hg:gt L t=some (.int k x))(he:x=y)(h:Sub L' L):Sub ((t,.int k y)::L') L:=.cons (he ▸ hg) h
theorem Fr.sub{n:Sz}{a:Act}{L L':Env}(h:Fr n a L)(hs:Sub L' L):Fr n a L':=⟨h.size,h.defers,fun t v ht=>h.get t v (hs t v ht)⟩
def W(P:Program)(n:Sz)(c:Code)(Q:Exit->Act->World->Prop)(L:Env)(w:World):Prop:=∀a,Fr n a L->c.wp P Q a w
def S(P:Program)(n:Sz)(ops:Array Oper)(Q:Exit->Act->World->Prop)(l:List Oper)(L:Env)(w:World):Prop:=∀a,Fr n a L->wpList P ops Q l a w
def At(n:Sz)(Q:Exit->Act->World->Prop)(e:Exit)(L:Env)(w:World):Prop:=∀a,Fr n a L->Q e a w
def OB(P:Program)(y:Code)(Q:Exit->Act->World->Prop):Exit->Act->World->Prop:=Exit.then (y.wp P Q) Q
def Uy{σ:Type}(n:Sz)(I:σ->Env)(R:σ->World->Prop)(Q:Exit->Act->World->Prop):Exit->Act->World->Prop:=
 Exit.then (fun a w=>∃s,Fr n a (I s)/\R s w) Q
def QH{σ:Type}(n:Sz)(I:σ->Env)(R:σ->World->Prop)(μ:σ->Nat)(x:σ)(Q:Exit->Act->World->Prop):Exit->Act->World->Prop:=
 Exit.then (fun a w=>∃s,Fr n a (I s)/\R s w/\μ s<μ x) Q
section
variable {P:Program}{n:Sz}{Q:Exit->Act->World->Prop}{L:Env}{w:World}{x y c:Code}
theorem W.sub{L':Env}(h:W P n c Q L' w)(hs:Sub L' L):W P n c Q L w:=fun a fr=>h a (fr.sub hs)
theorem S.sub{ops:Array Oper}{l:List Oper}{L':Env}(h:S P n ops Q l L' w)(hs:Sub L' L):S P n ops Q l L w:=fun a fr=>h a (fr.sub hs)
theorem AM(h:W P n x (OB P y Q) L w):W P n (.seq x y) Q L w:=fun a fr=>wp_seq (h a fr)
theorem A4(h:At n Q .normal L w):W P n .skip Q L w:=fun a fr=>wp_skip (h a fr)
theorem Au(h:At n Q .ret L w):W P n .ret Q L w:=fun a fr=>wp_ret (h a fr)
theorem Bq{id:Nat}(h:At n Q (.exit id) L w):W P n (.exit id) Q L w:=fun a fr=>wp_exit (h a fr)
theorem A8{id:Nat}(h:W P n c (Exit.inBlock id Q) L w):W P n (.block id c) Q L w:=fun a fr=>wp_block (h a fr)
theorem Az{id:Nat}{l:List Oper}(h:S P n l.toArray Q l L w):W P n (.region id l.toArray false) Q L w:=fun a fr=>wp_region_lit (h a fr)
theorem Aq{id:Nat}{l:List Oper}(h:S P n l.toArray (OB P y Q) l L w):W P n (.seq (.region id l.toArray false) y) Q L w:=AM (Az h)
theorem SC{t:Operand}{b:Bool}(hc:ev L t=some (.bool b))(ht:b=true->W P n x Q L w)(hf:b=false->W P n y Q L w):W P n (.cond t x y) Q L w:=
 fun a fr=>wp_cond_split (fr.eval hc) (fun e=>ht e a fr) (fun e=>hf e a fr)
theorem Z3{t:Operand}{p:Prop}[Decidable p](hc:ev L t=some (.bool (decide p)))(ht:p->W P n x Q L w)(hf : ¬p->W P n y Q L w):W P n (.cond t x y) Q L w:=
 SC hc (fun e=>ht (of_decide_eq_true e)) (fun e=>hf (of_decide_eq_false e))
theorem YL{t:Operand}{p:Prop}[Decidable p](hc:ev L t=some (.bool (!decide p)))(ht : ¬p->W P n x Q L w)(hf:p->W P n y Q L w):W P n (.cond t x y) Q L w:=
 SC hc (fun e=>ht (by simpa using e)) (fun e=>hf (by simpa using e))
theorem Fy{t:Operand}[hc:Qqq (ev L t) (some (.bool true))](h:W P n x Q L w):W P n (.cond t x y) Q L w:=fun a fr=>wp_cond_true (fr.eval hc.e) (h a fr)
theorem Gw{t:Operand}[hc:Qqq (ev L t) (some (.bool false))](h:W P n y Q L w):W P n (.cond t x y) Q L w:=fun a fr=>wp_cond_false (fr.eval hc.e) (h a fr)
theorem Bz(σ:Type)(I:σ->Env)(R:σ->World->Prop)(μ:σ->Nat)(d:σ)(hs:ga L (I d)=va (I d))(hR:R d w)
  (round:∀s w,R s w->W P n c (QH n I R μ s Q) (I s) w):W P n (.loop c) Q L w:=by
 intro a fr b k cs
 have key:∀m s a w,μ s=m->Fr n a (I s)->R s w->
   ∃e a' w',Q e a' w'/\Arrives P (lone (b.at a (.code c::.inLoop c::k)) cs w) b k cs e a' w':=by
  intro m
  induction m using Nat.strongRecOn with
  | _ m ih=>
   intro s a w hm fr hR;obtain⟨e,a₁,w₁,hq,harr⟩:=round s w hR a fr b (.inLoop c::k) cs
   cases e with
   | normal=>
    obtain⟨s',fr',hR',hlt⟩:=hq;obtain⟨e₂,a₂,w₂,hq₂,harr₂⟩:=ih (μ s') (hm ▸ hlt) s' a₁ w₁ Z fr' hR';exact⟨e₂,a₂,w₂,hq₂,.of_steps (Steps.trans harr (.one step_inLoop)) harr₂⟩
   | exit id=>exact⟨_,a₁,w₁,hq,.pass (x:=.inLoop c) Z (fun _ _=>.inl Qqc) harr⟩
   | goto l=>exact⟨_,a₁,w₁,hq,.pass (x:=.inLoop c) Z (fun _ _=>.inl Qqc) harr⟩
   | ret=>exact⟨_,a₁,w₁,hq,.pass (x:=.inLoop c) Z (fun _ _=>.inl Qqc) harr⟩
   | panic ch=>exact⟨_,a₁,w₁,hq,.pass (x:=.inLoop c) Z (fun _ _=>.inl Qqc) harr⟩
   | outgrown=>exact⟨_,a₁,w₁,hq,.pass (x:=.inLoop c) Z (fun _ _=>.inl Qqc) harr⟩
 obtain⟨e,a',w',hq,harr⟩:=key _ d a w Z (fr.sub (Sub.of hs)) hR;exact⟨e,a',w',hq,.of_steps (.one step_loop) harr⟩
theorem Bm(σ:Type)(I:σ->Env)(R:σ->World->Prop)(h1:W P n x (Uy n I R Q) L w)(h2:∀s w,R s w->W P n y Q (I s) w):W P n (.seq x y) Q L w:=
 fun a fr=>wp_seq (wp_mono (h1 a fr) fun e a' w' q=>by
  cases e with
  | normal=>obtain⟨s,fr',hR⟩:=q;exact h2 s w' hR a' fr'
  | exit id=>exact q
  | goto l=>exact q
  | ret=>exact q
  | panic ch=>exact q
  | outgrown=>exact q)
theorem A2(h:W P n y Q L w):At n (OB P y Q) .normal L w:=h
theorem AH{σ:Type}{I:σ->Env}{R:σ->World->Prop}(s:σ)[hs:Qqq (ga L (I s)) (va (I s))](hR:R s w):At n (Uy n I R Q) .normal L w:=fun _ fr=>⟨s,fr.sub (Sub.of hs.e),hR⟩
theorem AN{σ:Type}{I:σ->Env}{R:σ->World->Prop}{μ:σ->Nat}{a:σ}(s:σ)[hs:Qqq (ga L (I s)) (va (I s))](hR:R s w)(hm:μ s<μ a:=by exact Nat.lt_succ_self _):At n (QH n I R μ a Q) .normal L w:=
 fun _ fr=>⟨s,fr.sub (Sub.of hs.e),hR,hm⟩
theorem A9{id:Nat}(h:At n Q .normal L w):At n (Exit.inBlock id Q) .normal L w:=h
theorem Bj{id:Nat}(h:At n Q .normal L w):At n (Exit.inBlock id Q) (.exit id) L w:=fun a fr=>by simpa[Exit.inBlock]using h a fr
theorem AK{id:Nat}(h:At n Q (.exit id) L w):At n (OB P y Q) (.exit id) L w:=h
theorem Pe{σ:Type}{I:σ->Env}{R:σ->World->Prop}{id:Nat}(h:At n Q (.exit id) L w):At n (Uy n I R Q) (.exit id) L w:=h
theorem AF{σ:Type}{I:σ->Env}{R:σ->World->Prop}{μ:σ->Nat}{a:σ}{id:Nat}(h:At n Q (.exit id) L w):At n (QH n I R μ a Q) (.exit id) L w:=h
theorem AE(h:At n Q .ret L w):At n (OB P y Q) .ret L w:=h
theorem Bp{σ:Type}{I:σ->Env}{R:σ->World->Prop}(h:At n Q .ret L w):At n (Uy n I R Q) .ret L w:=h
theorem BM{σ:Type}{I:σ->Env}{R:σ->World->Prop}{μ:σ->Nat}{a:σ}(h:At n Q .ret L w):At n (QH n I R μ a Q) .ret L w:=h
theorem Ay{id:Nat}(h:At n Q .ret L w):At n (Exit.inBlock id Q) .ret L w:=h
end
def Mk (P : Program) (f : FuncId) : Prop := ∃fn c, P.funcs[f]? = some fn /\ (fn.name == "runtime.NumGoroutine") = false /\ fn.body = some c
def Rq(R:Value->World->Prop):Ending->World->Prop:=fun e w'=>∃v,e=.returned v/\R v w'
def Ok(P:Program)(f:FuncId)(args:Qq5)(w:World)(R:Value->World->Prop):Prop:=
 Mk P f/\Calls P f args.toArray w (Rq R)
theorem Ok.mono{P:Program}{f:FuncId}{args:Qq5}{w:World}{R R':Value->World->Prop}(h:Ok P f args w R)(hr:∀v w',R v w'->R' v w'):Ok P f args w R':=
 ⟨h.1,h.2.mono fun _ w' ⟨v,he,hv⟩=>⟨v,he,hr v w' hv⟩⟩
def Mz:Nat->Qq5->Env
 | _,[]=>[]
 | k,v::l=>(k,v)::Mz (k+1) l
theorem OC:∀(l:Qq5) (k t:Nat) (v:Value),gt (Mz k l) t=some v->k<=t/\l[t - k]? = some v
 | [],_,_,_,h=>by cases h
 | u::l,k,t,v,h=>by
  simp only[Mz,My]at h
  by_cases e:k=t
  ·subst e;rw[if_pos Z]at h;cases h;simp
  ·rw[if_neg e]at h;have⟨h1,h2⟩:=OC l (k+1) t v h;refine⟨by omega,?_⟩;have:t - k=(t - (k+1))+1:=by omega
   rw[this,List.getElem?_cons_succ];exact h2
def Ml(P:Program)(fn:Func)(R:Value->World->Prop):Exit->Act->World->Prop:=bodyPost P fn (Rq R)
theorem BC{P:Program}{f:FuncId}{fn:Func}{c:Code}{args:Qq5}{w:World}{R:Value->World->Prop}{n:Nat}(L:Env)
  (hf : P.funcs[f]? = some fn) [hname:Qqq (fn.name == "runtime.NumGoroutine") false] (hb : fn.body = some c) (hn : fn.ntmps = n) (hk : Nat.ble args.length n = true) (hL : Mz 0 args = L)
  (h:W P ⟨n,[]⟩ c (Ml P fn R) L w):Ok P f args w R:=by
 refine⟨⟨fn,c,hf,hname.e,hb⟩,calls_of_wp hf hb ?_⟩;have hk':args.length<=n:=by simpa[Nat.ble_eq]using hk
 refine h _ ⟨?_,Z,?_⟩
 ·simp[hn];omega
 ·intro t v ht;subst hL;have⟨_,h2⟩:=OC args 0 t v ht;simp only[Nat.sub_zero]at h2;have hlt:t<args.length:=(Qxq.1 h2).1;simp only[QxZ];rw[Array.getElem?_append_left (by simpa using hlt)]
  simpa using h2
def On:List ResultVar->Env->Option Value
 | [.tmp t],L=>gt L t
 | [.tmp t,.tmp u],L=>match gt L t,gt L u with | some a,some b=>some (.tuple #[a,b]) | _,_=>none
 | [.tmp t,.tmp u,.tmp s],L=>match gt L t,gt L u,gt L s with | some a,some b,some c=>some (.tuple #[a,b,c]) | _,_,_=>none
 | _,_=>none
theorem SD{P:Program}{fn:Func}{n:Sz}{a:Act}{L:Env}{w:World}{l:List ResultVar}{v:Value}(fr:Fr n a L)(hl:fn.results=l.toArray)(h:On l L=some v):
  (results fn a.tmps).run P w=.ok v w:=by
 unfold On at h
 split at h
 ·rename_i t;rw[results_tmp hl];have:=fr.get t v h;simp[Qz9,this]
 ·rename_i t u
  split at h
  ·rename_i x y h1 h2;cases h;rw[results_tmp2 hl];have b:=fr.get t x h1;have c:=fr.get u y h2;simp[Qz9,b,c]
  ·cases h
 ·rename_i t u s
  split at h
  ·rename_i x y z h1 h2 h3;cases h;rw[results_tmp3 hl];have b:=fr.get t x h1;have c:=fr.get u y h2;have d:=fr.get s z h3;simp[Qz9,b,c,d]
  ·cases h
 ·cases h
theorem VW{P:Program}{fn:Func}{R:Value->World->Prop}{n:Nat}{L:Env}{w:World}{l:List ResultVar}{v:Value}(hl:fn.results=l.toArray)(h:On l L=some v)(hR:R v w):At ⟨n,[]⟩ (Ml P fn R) .ret L w:=
 fun _ fr=>⟨fr.defers,v,SD fr hl h,v,Z,hR⟩
theorem Aj{P:Program}{fn:Func}{R:Value->World->Prop}{n:Nat}{L:Env}{w:World}{l:List ResultVar}{v:Value}(hq:(fn.results,On l L)=(l.toArray,some v))(hR:R v w):At ⟨n,[]⟩ (Ml P fn R) .ret L w:=
 VW (Prod.mk.inj hq).1 (Prod.mk.inj hq).2 hR
section
variable {P:Program}{n:Sz}{ops:Array Oper}{Q:Exit->Act->World->Prop}{L:Env}{w:World}{rest:List Oper}
 {d:Nat}{ty:TypeId}{pos:String}{af:Array Edge}
def SE(L:Env)(ρ:Operand->Value):Prop:=∀x u,ev L x=some u->ρ x=u
theorem Fr.Rj{a:Act}(fr:Fr n a L):SE L a.eval:=fun _ _ h=>fr.eval h
theorem SE.map{ρ:Operand->Value}(h:SE L ρ):∀(l:List Operand) (vs:Qq5),RJ L l=some vs->l.map ρ=vs
 | [],vs,e=>by simp only[RJ,Option.some.injEq]at e;simpa using e
 | x::l,vs,e=>by
  unfold RJ at e
  split at e
  ·rename_i v us h1 h2;cases e;simp[h x v h1,SE.map h l us h2]
  ·cases e
theorem AP(h:At n Q .normal L w):S P n ops Q [] L w:=fun a fr=>h a fr
theorem Al{y:Code}(h:W P n y Q L w):S P n ops (OB P y Q) [] L w:=fun a fr=>h a fr
theorem TS{o:Oper}(hg:o.guard=none)(h:∀a,Fr n a L->o.wp P a w (wpList P ops Q rest) Q):S P n ops Q (o::rest) L w:=
 fun a fr=>by
  unfold wpList;rw[if_pos (by simp[Region.wanted,hg])];exact .inl (h a fr)
theorem E3{o:Oper}{v:Value}{w':World}[hg:Qqq o.guard none][hd:Qqq o.dst (some d)](hn:Qzz d n.n=true)
  (hrun:∀ρ,SE L ρ->(execOp ρ o).run P w=.ok (.value v) w') (h:S P n ops Q rest ((d,v)::L) w'):S P n ops Q (o::rest) L w:=
 TS hg.e fun a fr=>by
  unfold Oper.wp;rw[hrun _ fr.Rj]
  show wpList P ops Q rest (a.put o.dst v) w'
  rw[hd.e];exact h _ (fr.put hn)
theorem RL{o:Oper}{v:Value}{w':World}[hg:Qqq o.guard none][hd:Qqq o.dst none]
  (hrun:∀ρ,SE L ρ->(execOp ρ o).run P w=.ok (.value v) w') (h:S P n ops Q rest L w'):S P n ops Q (o::rest) L w:=
 TS hg.e fun a fr=>by
  unfold Oper.wp;rw[hrun _ fr.Rj]
  show wpList P ops Q rest (a.put o.dst v) w'
  rw[hd.e];exact h _ fr
theorem PC{o:Oper}{w':World}[hg:Qqq o.guard none][hd:Qqq o.dst none]
  (hrun:∀ρ,SE L ρ->(execOp ρ o).run P w=.ok .skip w') (h:S P n ops Q rest L w'):S P n ops Q (o::rest) L w:=
 TS hg.e fun a fr=>by
  unfold Oper.wp;rw[hrun _ fr.Rj]
  show wpList P ops Q rest (a.put o.dst undef) w'
  rw[hd.e];exact h _ fr
theorem QI{dst:Option Tmp}{op:Op}{j:Nat}{want b:Bool}{t:Nat}(hj:((ops[j]?).bind (·.dst))=some t)(hb:gt L t=some (.bool b))(hw:b=want)
  (h:S P n ops Q (⟨dst,op,ty,pos,af,none⟩::rest) L w):S P n ops Q (⟨dst,op,ty,pos,af,some (j,want)⟩::rest) L w:=fun a fr=>by
 have h1:=h a fr;simp only[wpList]at h1 ⊢;have hy:yielded ops a.tmps j=some b:=by simp[yielded,hj,fr.get t _ hb]
 have hwant:Region.wanted ⟨dst,op,ty,pos,af,some (j,want)⟩ (yielded ops a.tmps)=true:=by simp[Region.wanted,hy,hw]
 rw[if_pos hwant];have c:Region.wanted ⟨dst,op,ty,pos,af,none⟩ (yielded ops a.tmps)=true:=by simp[Region.wanted]
 rw[if_pos c]at h1;exact h1
theorem PD{op:Op}{j:Nat}{want b:Bool}{t:Nat}(hj:((ops[j]?).bind (·.dst))=some t)(hb:gt L t=some (.bool b))(hw:b = !want)(hn:Qzz d n.n=true)
  (h:S P n ops Q rest ((d,undef)::L) w):S P n ops Q (⟨some d,op,ty,pos,af,some (j,want)⟩::rest) L w:=fun a fr=>by
 simp only[wpList];have hy:yielded ops a.tmps j=some b:=by simp[yielded,hj,fr.get t _ hb]
 have hwant:Region.wanted ⟨some d,op,ty,pos,af,some (j,want)⟩ (yielded ops a.tmps)=false:=by simp[Region.wanted,hy,hw]
 rw[hwant];exact h _ (fr.put hn)
theorem Aa{dst:Option Tmp}{op:Op}{j:Nat}{want b:Bool}{t:Nat}[hq:Qqq (((ops[j]?).bind (·.dst),gt L t)) ((some t,some (.bool b)))](hw:b=want)
  (h:S P n ops Q (⟨dst,op,ty,pos,af,none⟩::rest) L w):S P n ops Q (⟨dst,op,ty,pos,af,some (j,want)⟩::rest) L w:=QI (Prod.mk.inj hq.e).1 (Prod.mk.inj hq.e).2 hw h
theorem Ab{op:Op}{j:Nat}{want b:Bool}{t:Nat}[hq:Qqq (((ops[j]?).bind (·.dst),gt L t)) ((some t,some (.bool b)))](hw:b = !want)[hn:Qqq (Qzz d n.n) true]
  (h:S P n ops Q rest ((d,undef)::L) w):S P n ops Q (⟨some d,op,ty,pos,af,some (j,want)⟩::rest) L w:=PD (Prod.mk.inj hq.e).1 (Prod.mk.inj hq.e).2 hw hn.e h
theorem As{op:Op}{j:Nat}{want:Bool}{t:Nat}[hj:Qqq (((ops[j]?).bind (·.dst))) (some t)][hb:Qqq (gt L t) (some undef)][hn:Qqq (Qzz d n.n) true]
  (h:S P n ops Q rest ((d,undef)::L) w):S P n ops Q (⟨some d,op,ty,pos,af,some (j,want)⟩::rest) L w:=fun a fr=>by
 simp only[wpList];have hy:yielded ops a.tmps j=none:=by simp[yielded,hj.e,fr.get t _ hb.e,undef]
 have hwant:Region.wanted ⟨some d,op,ty,pos,af,some (j,want)⟩ (yielded ops a.tmps)=false:=by simp[Region.wanted,hy]
 rw[hwant];exact h _ (fr.put hn.e)
end
end Go.E
namespace Go.E
open Go
def nth:Qq5->Nat->Option Value
 | [],_=>none
 | v::_,0=>some v
 | _::l,i+1=>nth l i
theorem Uz:∀(l:Qq5) (i:Nat),nth l i=l[i]?
 | [],_=>rfl
 | _::_,0=>rfl
 | _::l,i+1=>by simpa[nth]using Uz l i
def XH:BinOp->Int->Int->Option Bool
 | .eql,a,b=>some (decide (a=b))
 | .neq,a,b=>some (!decide (a=b))
 | .lss,a,b=>some (decide (a<b))
 | .leq,a,b=>some (decide (a<=b))
 | .gtr,a,b=>some (decide (b<a))
 | .geq,a,b=>some (decide (b<=a))
 | _,_,_=>none
def U0:IntKind->IntKind->Bool
 | .i8,.i8 | .i16,.i16 | .i32,.i32 | .i64,.i64 | .u8,.u8 | .u16,.u16 | .u32,.u32 | .u64,.u64=>true
 | _,_=>false
theorem U1:∀{a b:IntKind},U0 a b=true->a=b
 | .i8,.i8,_=>rfl | .i16,.i16,_=>rfl | .i32,.i32,_=>rfl | .i64,.i64,_=>rfl
 | .u8,.u8,_=>rfl | .u16,.u16,_=>rfl | .u32,.u32,_=>rfl | .u64,.u64,_=>rfl
def pu(L:Env):Op->Option Value
 | .move x=>ev L x
 | .assign x=>ev L x
 | .extract x i=>match ev L x with
  | some (.tuple vs)=>nth vs.toList i
  | _=>none
 | .binOp op _ x y _=>match ev L x,ev L y with
  | some (.int k a),some (.int k' b)=>bif U0 k k' then(match XH op a b with | some r=>some (.bool r) | none=>none)else none
  | _,_=>none
 | .unOp .not _ x=>match ev L x with
  | some (.bool b)=>some (.bool (!b))
  | _=>none
 | .makeFunc fn first captured=>match RJ L first.toList,RJ L captured.toList with
  | some a,some b=>some (.func fn a.toArray b.toArray)
  | _,_=>none
 | .pick c a b=>match ev L c with
  | some (.bool true)=>ev L a
  | some (.bool false)=>ev L b
  | _=>none
 | _=>none
section
variable {P:Program}{n:Sz}{ops:Array Oper}{Q:Exit->Act->World->Prop}{L:Env}{w:World}{rest:List Oper}
 {d:Nat}{ty:TypeId}{pos:String}{af:Array Edge}
theorem SG{op:BinOp}{t:TypeId}{x y:Operand}{k:IntKind}{a b:Int}{r:Bool}(h:XH op a b=some r):
  (do eqGuard op t x y (.int k a) (.int k b);binOp op t (.int k a) (.int k b)).run P w=.ok (.bool r) w:=by
 cases op <;> simp only[XH,Option.some.injEq,reduceCtorEq]at h <;> subst h <;>
  simp[eqGuard,binOp,Op.intCmp,GT.gt,GE.ge,bne,BEq.beq]
theorem U2{op:Op}{v:Value}{dst:Option Tmp}(h:pu L op=some v)(ρ:Operand->Value)(hρ:SE L ρ):
  (execOp ρ ⟨dst,op,ty,pos,af,none⟩).run P w=.ok (.value v) w:=by
 unfold pu at h
 split at h
 ·rename_i x;simp[execOp,hρ x v h]
 ·rename_i x;simp[execOp,hρ x v h]
 ·rename_i x i
  split at h
  ·rename_i vs hx;rw[Uz]at h;have h':vs[i]? = some v:=by simpa using h
   simp[execOp,hρ x _ hx,Instr.extract,h']
  ·cases h
 ·rename_i op t x y t'
  split at h
  ·rename_i k a k' b hx hy
   cases hk:U0 k k' with
   | false=>rw[hk]at h;cases h
   | true=>
    rw[hk]at h;obtain rfl:=U1 hk;simp only[cond_true]at h
    split at h
    ·rename_i r hr
     cases h
     have:=SG (P:=P) (w:=w) (t:=t) (x:=x) (y:=y) (k:=k) hr;simp only[execOp,hρ x _ hx,hρ y _ hy];simp only[Sem.run_bind]at this ⊢;rw[this]
     rfl
    ·cases h
  ·cases h
 ·rename_i t x
  split at h
  ·rename_i b hx;cases h;simp[execOp,hρ x _ hx,Op.unary]
  ·cases h
 ·rename_i fn first captured
  split at h
  ·rename_i a b h1 h2
   cases h
   have d:=hρ.map _ _ h1;have e:=hρ.map _ _ h2;have f1:first.map ρ=a.toArray:=by apply Array.ext';simpa using d
   have f2:captured.map ρ=b.toArray:=by apply Array.ext';simpa using e
   simp[execOp,Instr.makeFunc,f1,f2]
  ·cases h
 ·rename_i c a b
  split at h
  ·rename_i hc;simp[execOp,hρ c _ hc,hρ a _ h,asBool]
  ·rename_i hc;simp[execOp,hρ c _ hc,hρ b _ h,asBool]
  ·cases h
 ·cases h
def NR(n:Sz)(o:Oper)(L:Env):Option Env:=
 match o with
 | ⟨some d,op,_,_,_,none⟩=>match pu L op with
  | some v=>bif Qzz d n.n then some ((d,v)::L)else none
  | none=>none
 | _=>none
def VX(n:Sz):Nat->List Oper->Env->Option (List Oper×Env)
 | 0,l,L=>some (l,L)
 | k+1,o::l,L=>match NR n o L with
  | some L'=>VX n k l L'
  | none=>none
 | _+1,[],_=>none
theorem RM{o:Oper}{L':Env}(h:NR n o L=some L')(hS:S P n ops Q rest L' w):S P n ops Q (o::rest) L w:=by
 unfold NR at h
 split at h
 ·rename_i d op t ps aft
  split at h
  ·rename_i v hv
   cases hd:Qzz d n.n with
   | false=>rw[hd]at h;cases h
   | true=>rw[hd]at h;cases h;exact E3 hd (U2 hv) hS
  ·cases h
 ·cases h
theorem Xn:∀(k:Nat) {l l':List Oper}{L L':Env} (_:VX n k l L=some (l',L')) (_:S P n ops Q l' L' w),S P n ops Q l L w
 | 0,l,l',L,L',h,hS=>by simp only[VX,Option.some.injEq,Prod.mk.injEq]at h;obtain⟨rfl,rfl⟩:=h;exact hS
 | k+1,[],l',L,L',h,hS=>by simp only[VX,reduceCtorEq]at h
 | k+1,o::l,l',L,L',h,hS=>by
  simp only[VX]at h
  split at h
  ·rename_i L1 h1;exact RM h1 (Xn k h hS)
  ·cases h
theorem Ar(k:Nat){l l':List Oper}{L L':Env}(h:VX n k l L=some (l',L'))(hS:S P n ops Q l' L' w):S P n ops Q l L w:=Xn k h hS
theorem A1(k:Nat){l:List Oper}{L L':Env}{y:Code}(h:VX n k l L=some ([],L'))(hW:W P n y Q L' w):S P n ops (OB P y Q) l L w:=Ar k h (Al hW)
theorem B1{id:Nat}{l l':List Oper}{L L':Env}{y:Code}(k:Nat)(h:VX n k l L=some (l',L'))(hS:S P n l.toArray (OB P y Q) l' L' w):W P n (.seq (.region id l.toArray false) y) Q L w:=Aq (Ar k h hS)
theorem AI{id:Nat}{l:List Oper}{L L':Env}{y:Code}(k:Nat)(h:VX n k l L=some ([],L'))(hW:W P n y Q L' w):W P n (.seq (.region id l.toArray false) y) Q L w:=Aq (A1 k h hW)
theorem wrap64{x:Int}(h1 : -9223372036854775808<=x)(h2:x<=9223372036854775807):IntKind.i64.wrap x=x:=by
 simp only[IntKind.wrap,IntKind.bits,IntKind.signed,Bool.true_and,decide_eq_true_eq,ge_iff_le]
 split <;> omega
theorem SH{x:Int}(h1:0<=x)(h2:x<256):IntKind.u8.wrap x=x:=by
 simp only[IntKind.wrap,IntKind.bits,IntKind.signed,Bool.false_and,Qxj,if_false];omega
theorem P3{x:Int}:IntKind.u8.wrap x=x % 256:=by
 simp only[IntKind.wrap,IntKind.bits,IntKind.signed,Bool.false_and,Qxj,if_false];omega
def YM:BinOp->Int->Int->Option Int
 | .add,a,b=>some (a+b)
 | .sub,a,b=>some (a - b)
 | .mul,a,b=>some (a * b)
 | _,_,_=>none
theorem U3{a b:Int}(ha:0<=a):a.tdiv b=a / b:=Int.tdiv_eq_ediv_of_nonneg ha
theorem U4{a b:Int}(ha:0<=a):a.tmod b=a % b:=Int.tmod_eq_emod_of_nonneg ha
theorem VY{a b:Int}(ha:0<=a)(hb:0<b):0<=a / b/\a / b<=a:=by
 refine⟨Int.ediv_nonneg ha U,?_⟩;exact Int.ediv_le_self b ha
theorem Oo{f:FuncId}{args:List Operand}{vs:Qq5}{at_:Array TypeId}{dst:Option Tmp}(hc:Mk P f)(ha:RJ L args=some vs)(ρ:Operand->Value)(hρ:SE L ρ):
  (execOp ρ ⟨dst,.call ⟨.value (.func f),args.toArray,at_⟩,ty,pos,af,none⟩).run P w=.ok (.enter f vs.toArray) w:=by
 obtain ⟨fn, c, h1, h2, h3⟩ := hc;have a : ρ (.func f) = .func (.func f) #[] #[] := hρ _ _ rfl;have b := hρ.map _ _ ha;have h2' : ¬fn.name = "runtime.NumGoroutine" := by simpa using h2
 simp[execOp,resolve,a,Deferred.ofValue,b,invoke,callFunc,h1,h2',h3]
theorem BO{f:FuncId}{args:List Operand}{vs:Qq5}{at_:Array TypeId}{R:Value->World->Prop}[ha:Qqq (RJ L args) (some vs)][hn:Qqq (Qzz d n.n) true](hok:Ok P f vs w R)
  (h:∀v w',R v w'->S P n ops Q rest ((d,v)::L) w'):S P n ops Q (⟨some d,.call ⟨.value (.func f),args.toArray,at_⟩,ty,pos,af,none⟩::rest) L w:=
 TS Z fun a fr=>by
  unfold Oper.wp;rw[Oo hok.1 ha.e _ fr.Rj];refine hok.2.mono fun e w' ⟨v,he,hv⟩=>?_;subst he;exact h v w' hv _ (fr.put hn.e)
def Tm(n:Sz)(j:Nat)(want:Bool)(L0:Env):Nat->List Oper->Env->Option (List Oper×Env)
 | 0,l,L=>some (l,L)
 | k+1,⟨some d,op,ty,pos,af,some (j',want')⟩::l,L=>
  bif QzC j j'&&(want==want')&&(gt L0 d).isNone then
   match NR n ⟨some d,op,ty,pos,af,none⟩ L with
   | some L'=>Tm n j want L0 k l L'
   | none=>none
  else none
 | _+1,_,_=>none
theorem Pf{j:Nat}{want:Bool}{t:Nat}{L0:Env}(hj:((ops[j]?).bind (·.dst))=some t):∀(k:Nat) {l l':List Oper}{L L':Env},gt L t=some (.bool want)->gt L0 t=some (.bool want)->Tm n j want L0 k l L=some (l',L')->
  S P n ops Q l' L' w->S P n ops Q l L w:=by
 intro k
 induction k with
 | zero=>intro l l' L L' _ _ h hS;simp only[Tm,Option.some.injEq,Prod.mk.injEq]at h;obtain⟨rfl,rfl⟩:=h;exact hS
 | succ k ih=>
  intro l l' L L' hb a h hS
  match l,h with
  | [],h=>cases h
  | ⟨none,_,_,_,_,_⟩::l,h=>cases h
  | ⟨some d,op,ty,pos,af,none⟩::l,h=>cases h
  | ⟨some d,op,ty,pos,af,some (j',want')⟩::l,h=>
   simp only[Tm]at h
   cases hc:(QzC j j'&&(want==want')&&(gt L0 d).isNone)with
   | false=>rw[hc]at h;cases h
   | true=>
    rw[hc]at h;simp only[Qza,QxE]at hc;obtain⟨⟨c1,c2⟩,c3⟩:=hc;obtain rfl:=QxA c1;obtain rfl:want=want':=by simpa using c2
    simp only[cond_true]at h
    split at h
    ·rename_i L1 h1;refine QI hj hb Z (RM h1 (ih ?_ a h hS));simp only[NR]at h1
     split at h1
     ·rename_i v hv
      cases hd:Qzz d n.n with
      | false=>rw[hd]at h1;cases h1
      | true=>
       rw[hd]at h1;cases h1;rw[My]
       by_cases e:d=t
       ·subst e;rw[a]at c3;cases c3
       ·rw[if_neg e];exact hb
     ·cases h1
    ·cases h
theorem PE{j:Nat}{want:Bool}{t:Nat}{L0:Env}(hj:((ops[j]?).bind (·.dst))=some t):∀(k:Nat) {l l':List Oper}{L L' M:Env},Sub L0 M->gt L0 t=some (.bool (!want))->Tm n j want L0 k l L=some (l',L')->
  (∀M',Sub L0 M'->S P n ops Q l' M' w)->S P n ops Q l M w:=by
 intro k
 induction k with
 | zero=>intro l l' L L' M hM _ h hS;simp only[Tm,Option.some.injEq,Prod.mk.injEq]at h;obtain⟨rfl,rfl⟩:=h;exact hS M hM
 | succ k ih=>
  intro l l' L L' M hM a h hS
  match l,h with
  | [],h=>cases h
  | ⟨none,_,_,_,_,_⟩::l,h=>cases h
  | ⟨some d,op,ty,pos,af,none⟩::l,h=>cases h
  | ⟨some d,op,ty,pos,af,some (j',want')⟩::l,h=>
   simp only[Tm]at h
   cases hc:(QzC j j'&&(want==want')&&(gt L0 d).isNone)with
   | false=>rw[hc]at h;cases h
   | true=>
    rw[hc]at h;simp only[Qza,QxE]at hc;obtain⟨⟨c1,c2⟩,c3⟩:=hc;obtain rfl:=QxA c1;obtain rfl:want=want':=by simpa using c2
    simp only[cond_true]at h
    split at h
    ·rename_i L1 h1
     have hd:Qzz d n.n=true:=by
      simp only[NR]at h1
      split at h1
      ·cases hd:Qzz d n.n with
       | false=>rw[hd]at h1;cases h1
       | true=>rfl
      ·cases h1
     refine PD hj (hM t _ a) Z hd (ih (fun t' v hv=>?_) a h hS);rw[My]
     by_cases e:d=t'
     ·subst e;rw[hv]at c3;cases c3
     ·rw[if_neg e];exact hM t' v hv
    ·cases h
theorem Sub.both{t:Nat}{v:Value}{L L':Env}(h:Sub L L'):Sub ((t,v)::L) ((t,v)::L'):=fun t' u hu=>by
 rw[My]at hu ⊢
 by_cases e:t=t'
 ·rw[if_pos e]at hu ⊢;exact hu
 ·rw[if_neg e]at hu ⊢;exact h t' u hu
theorem Tn{j:Nat}{want:Bool}{L0:Env}:∀(k:Nat) {l l':List Oper}{L L':Env},Sub L0 L->Tm n j want L0 k l L=some (l',L')->Sub L0 L':=by
 intro k
 induction k with
 | zero=>intro l l' L L' hM h;simp only[Tm,Option.some.injEq,Prod.mk.injEq]at h;obtain⟨rfl,rfl⟩:=h;exact hM
 | succ k ih=>
  intro l l' L L' hM h
  match l,h with
  | [],h=>cases h
  | ⟨none,_,_,_,_,_⟩::l,h=>cases h
  | ⟨some d,op,ty,pos,af,none⟩::l,h=>cases h
  | ⟨some d,op,ty,pos,af,some (j',want')⟩::l,h=>
   simp only[Tm]at h
   cases hc:(QzC j j'&&(want==want')&&(gt L0 d).isNone)with
   | false=>rw[hc]at h;cases h
   | true=>
    rw[hc]at h;simp only[Qza,QxE]at hc;obtain⟨⟨c1,c2⟩,c3⟩:=hc;simp only[cond_true]at h
    split at h
    ·rename_i L1 h1;refine ih ?_ h;simp only[NR]at h1
     split at h1
     ·rename_i v hv
      cases hd:Qzz d n.n with
      | false=>rw[hd]at h1;cases h1
      | true=>
       rw[hd]at h1;cases h1;intro t' u hu;rw[My]
       by_cases e:d=t'
       ·subst e;rw[hu]at c3;cases c3
       ·rw[if_neg e];exact hM t' u hu
     ·cases h1
    ·cases h
theorem Sub.ev{L M:Env}(hM:Sub L M){x:Operand}{v:Value}(hx:ev L x=some v):ev M x=some v:=by
 cases x with
 | tmp t=>exact hM t v hx
 | const _=>exact hx
 | func _=>exact hx
 | _=>exact hx
theorem VZ(k j:Nat){t:Nat}{b r s:Bool}{c x y:Operand}{l l':List Oper}{L1:Env}(hj:((ops[j]?).bind (·.dst))=some t)(hb:gt L t=some (.bool b))
  (hg:Tm n j true L k l L=some (⟨some d,.pick c x y,ty,pos,af,none⟩::l',L1)) (hc:ev L c=some (.bool b)) (hx:ev L1 x=some (.bool r)) [hy:Qqq (ev L y) (some (.bool s))] (hn:Qzz d n.n=true)
  (h:S P n ops Q l' ((d,.bool (bif b then r else s))::L) w):S P n ops Q l L w:=by
 have hsub:Sub L L1:=Tn k (Sub.refl L) hg
 cases b with
 | true=>
  refine Pf (L0:=L) hj k hb hb hg<|E3 hn (v:=.bool r) (w':=w) (fun ρ hρ=>by simp[execOp,hρ c _ (Sub.ev hsub hc),hρ x _ hx,asBool])<|S.sub h hsub.both
 | false=>
  refine PE (L0:=L) (want:=true) hj k (Sub.refl L) hb hg fun M hM=>E3 hn (v:=.bool s) (w':=w) (fun ρ hρ=>by simp[execOp,hρ c _ (Sub.ev hM hc),hρ y _ (Sub.ev hM hy.e),asBool])<|S.sub h hM.both
theorem Jz(k j:Nat){t:Nat}{b r s:Bool}{c x y:Operand}{l l':List Oper}{L1:Env}(hj:((ops[j]?).bind (·.dst))=some t)(hb:gt L t=some (.bool b))
  (hg:Tm n j false L k l L=some (⟨some d,.pick c x y,ty,pos,af,none⟩::l',L1)) (hc:ev L c=some (.bool b)) (hx:ev L x=some (.bool r)) (hy:ev L1 y=some (.bool s)) (hn:Qzz d n.n=true)
  (h:S P n ops Q l' ((d,.bool (bif b then r else s))::L) w):S P n ops Q l L w:=by
 have hsub:Sub L L1:=Tn k (Sub.refl L) hg
 cases b with
 | false=>
  refine Pf (L0:=L) hj k hb hb hg<|E3 hn (v:=.bool s) (w':=w) (fun ρ hρ=>by simp[execOp,hρ c _ (Sub.ev hsub hc),hρ y _ hy,asBool])<|S.sub h hsub.both
 | true=>
  refine PE (L0:=L) (want:=false) hj k (Sub.refl L) hb hg fun M hM=>E3 hn (v:=.bool r) (w':=w) (fun ρ hρ=>by simp[execOp,hρ c _ (Sub.ev hM hc),hρ x _ (Sub.ev hM hx),asBool])<|S.sub h hM.both
theorem Wa{p q:Prop}[Decidable p][Decidable q]:(bif decide p then decide q else false)=decide (p/\q):=by by_cases hp:p <;> simp[hp]
theorem XI{p q:Prop}[Decidable p][Decidable q]:(bif decide p then true else decide q)=decide (p\/q):=by by_cases hp:p <;> simp[hp]
theorem RN(k j:Nat){t:Nat}{p q:Prop}[Decidable p][Decidable q]{c x:Operand}{l l':List Oper}{L1:Env}(hj:((ops[j]?).bind (·.dst))=some t)(hb:gt L t=some (.bool (decide p)))
  (hg:Tm n j true L k l L=some (⟨some d,.pick c x (.const (.bool false)),ty,pos,af,none⟩::l',L1)) (hc:ev L c=some (.bool (decide p))) (hx:ev L1 x=some (.bool (decide q))) (hn:Qzz d n.n=true)
  (h:S P n ops Q l' ((d,.bool (decide (p/\q)))::L) w):S P n ops Q l L w:=
 VZ k j hj hb hg hc hx hn (by rw[Wa];exact h)
theorem Wb(k j:Nat){t:Nat}{p q:Prop}[Decidable p][Decidable q]{c y:Operand}{l l':List Oper}{L1:Env}(hj:((ops[j]?).bind (·.dst))=some t)(hb:gt L t=some (.bool (decide p)))
  (hg:Tm n j false L k l L=some (⟨some d,.pick c (.const (.bool true)) y,ty,pos,af,none⟩::l',L1)) (hc:ev L c=some (.bool (decide p))) (hy:ev L1 y=some (.bool (decide q))) (hn:Qzz d n.n=true)
  (h:S P n ops Q l' ((d,.bool (decide (p\/q)))::L) w):S P n ops Q l L w:=
 Jz k j hj hb hg hc Z hy hn (by rw[XI];exact h)
end
theorem drawn_setCell(w:World)(a:Addr)(v:Value):(w.setCell a v).drawn=w.drawn:=by
 unfold World.setCell
 split <;> rfl
theorem Rk(w:World)(a:Addr)(n:Nat):(w.freeze a n).drawn=w.drawn:=by
 unfold World.freeze
 split <;> rfl
theorem Pn{p:Program}{w w1:World}{at_:Addr}{u:TypeId}{k:Addr}{v:Value}{atomic:Bool}{l:List Addr}(h:w.viewStore p at_ u k v atomic=.ok (w1,l)):w1.drawn=w.drawn:=by
 unfold World.viewStore at h;simp only[bind,Except.bind,pure,Except.pure,throwThe,MonadExceptOf.throw,MonadExcept.throw]at h
 repeat' split at h
 all_goals first
  | (cases h;done)
  | (cases h;rfl)
theorem PF{p:Program}{w w1:World}{a:Addr}{v:Value}{atomic:Bool}{l:List Addr}(h:w.farStore p a v atomic=.ok (w1,l)):w1.drawn=w.drawn:=by
 unfold World.farStore at h
 split at h
 ·split at h
  ·rename_i r hr;cases h;exact Pn hr
  ·cases h
 ·cases h
theorem OD{α:Type}:∀(q:Ask α) (w:World),w.drawn<=(w.ask q).2.drawn
 | .done a,w=>Qzx _
 | .ask what range k,w=>by
  unfold World.ask;simp only
  split
  ·exact OD (k 0) w
  ·exact Qz2 (Nat.le_succ _) (OD _ {w with drawn:=w.drawn+1})
theorem TT(w:World)(c:Sys):w.drawn<=(w.sys c).2.drawn:=by
 unfold World.sys;have:=OD (Kernel.perform c w.os) w
 split
 ·exact Qzx _
 ·rename_i r os w1 _ e;rw[e]at this;exact this
theorem OE{α:Type}{p:Program}:∀(s:Sem α) (w:World) (a:α) (w':World),s.run p w=.ok a w'->w.drawn<=w'.drawn:=by
 intro s
 induction s with
 | pure a=>intro w x w' h;cases h;exact Qzx _
 | load m a k ih=>
  intro w x w' h;unfold Sem.run at h
  split at h
  ·exact ih _ _ _ _ h
  ·split at h
   ·exact ih _ _ _ _ h
   ·cases h
 | store m a v k ih=>
  intro w x w' h
  cases v <;> simp only[Sem.run]at h
  all_goals first
   | (cases h;done)
   | (
    split at h
    ·split at h
     ·cases h
     ·have:=ih _ _ _ h;rwa [drawn_setCell]at this
    ·split at h
     ·rename_i hf;have h1:=ih _ _ _ h;rw[PF hf]at h1;exact h1
     ·cases h)
 | new o k ih=>intro w x w' h;exact ih _ {w with heap:=w.heap.push o} _ _ h
 | shape r k ih=>intro w x w' h;exact ih _ _ _ _ h
 | freeze a n k ih=>intro w x w' h;have:=ih _ _ _ h;rwa [Rk]at this
 | frozen a k ih=>intro w x w' h;exact ih _ _ _ _ h
 | getObj r k ih=>
  intro w x w' h;unfold Sem.run at h
  split at h
  ·cases h
  ·exact ih _ _ _ _ h
  ·cases h
 | setObj r o k ih=>
  intro w x w' h;unfold Sem.run at h
  split at h
  ·cases h
  ·exact ih {w with heap:=w.heap.setIfInBounds r o} _ _ h
  ·cases h
 | choose q k ih=>
  intro w x w' h;unfold Sem.run at h
  split at h
  ·exact ih _ _ _ _ h
  ·have:=ih _ _ _ _ h;simp only at this;omega
 | sys c k ih=>
  intro w x w' h;refine Qz2 ?_ (ih _ _ _ _ h);exact TT w c
 | program k ih=>intro w x w' h;exact ih _ _ _ _ h
 | mark m k ih=>intro w x w' h;exact ih _ _ _ h
 | halt h=>intro w x w' h;cases h
end Go.E
namespace Go.E
open Go Go.RowKit
class Dr where
 on:Bool
structure Ext [Dr] (w w':World):Prop extends Below w.heap.size w w' where
 drawn:Dr.on=true->w.drawn<=w'.drawn
theorem Ext.refl[Dr](w:World):Ext w w:=⟨Below.refl _ _,fun _=>Qzx _⟩
theorem Ext.trans[Dr]{a b c:World}(h:Ext a b)(k:Ext b c):Ext a c:=⟨Below.trans h.toBelow (Below.mono k.toBelow h.size),fun o=>Qz2 (h.drawn o) (k.drawn o)⟩
abbrev PH:=Nat->Option Obj
def Le(A B:PH):Prop:=∀b o,A b=some o->B b=some o
theorem Le.refl(A:PH):Le A A:=fun _ _ h=>h
theorem Le.trans{A B C:PH}(h:Le A B)(k:Le B C):Le A C:=fun b o e=>k b o (h b o e)
def hp(w:World):PH:=fun b=>w.heap[b]?
def nw(w w':World):PH:=fun b=>if w.heap.size<=b then w'.heap[b]? else none
theorem lt_of_heap{w:World}{b:Nat}{o:Obj}(h:w.heap[b]? = some o):b<w.heap.size:=(Qx0.1 h).1
theorem Ext.le[Dr]{w w':World}(h:Ext w w'):Le (hp w) (hp w'):=fun b o e=>by
 have:b<w.heap.size:=lt_of_heap e
 show w'.heap[b]? = some o
 rw[h.block b this];exact e
theorem Le.ext[Dr]{A:PH}{w w':World}(h:Le A (hp w))(hx:Ext w w'):Le A (hp w'):=h.trans hx.le
def I6(H:PH)(a:Addr):Option Value:=
 match H a.block with
 | some (.cells c _ _)=>if a.spot.isSome then none else c[a.off]?
 | _=>none
theorem RO(w:World)(a:Addr):I6 (hp w) a=w.cell? a:=Z
theorem JO{A B:PH}(h:Le A B){a:Addr}{v:Value}(e:I6 A a=some v):I6 B a=some v:=by
 unfold I6 at e ⊢
 split at e
 ·rename_i c t f hc;rw[h _ _ hc];exact e
 ·cases e
theorem cell_of{H:PH}{w:World}(h:Le H (hp w)){a:Addr}{v:Value}(e:I6 H a=some v):w.cell? a=some v:=JO h e
structure Rp (α:Type) where
 sz:Nat
 rel:PH->α->Qq5->Prop
 len:∀{H x c},rel H x c->c.length=sz
 mono:∀{H H' x c},Le H H'->rel H x c->rel H' x c
 one:∀{H x c},rel H x c->∀u∈c,u.oneCell'=true
def CJ(H:PH)(p:Addr)(c:Qq5):Prop:=p.spot=none/\∀j u,c[j]? = some u->I6 H (p.add j)=some u
structure AL {α:Type} (r:Rp α) (H:PH) (v:Value) (l:List α):Prop where
 ex:∃a cap,v=.slice a l.length cap/\l.length<=cap/\cap<=maxLen/\(a=none->cap=0)/\
  ∀A,a=some A->l≠[]->A.spot=none/\∀i x,l[i]? = some x->∃c,r.rel H x c/\∀j u,c[j]? = some u->I6 H (A.add (i * r.sz+j))=some u
theorem AL.mono{α:Type}{r:Rp α}{H H':PH}{v:Value}{l:List α}(h:AL r H v l)(hs:Le H H'):AL r H' v l:=by
 obtain⟨a,cap,h1,h2,h3,b,d⟩:=h.ex;refine⟨a,cap,h1,h2,h3,b,fun A hA hl=>?_⟩;obtain⟨e,f⟩:=d A hA hl;refine⟨e,fun i x hx=>?_⟩;obtain⟨c,hc,hcell⟩:=f i x hx;exact⟨c,r.mono hs hc,fun j u hu=>JO hs (hcell j u hu)⟩
theorem AL.nil{α:Type}(r:Rp α)(H:PH):AL r H (.slice none 0 0) ([]:List α):=
 ⟨none,0,Z,Qzx _,Qzb _,fun _=>Z,fun _ h=>by cases h⟩
theorem AL.header{α:Type}{r:Rp α}{H:PH}{v:Value}{l:List α}(h:AL r H v l):∃a cap,v=.slice a l.length cap:=by
 obtain⟨a,cap,h1,_⟩:=h.ex;exact⟨a,cap,h1⟩
def Rp.int(k:IntKind):Rp Int:=⟨1,fun _ x c=>c=[.int k x],fun h=>by simp[h],fun _ h=>h,fun h u hu=>by subst h;simp at hu;subst hu;rfl⟩
def Rp.byte:Rp UInt8:=⟨1,fun _ x c=>c=[.int .u8 (x.toNat:Int)],fun h=>by simp[h],fun _ h=>h,fun h u hu=>by subst h;simp at hu;subst hu;rfl⟩
def Rp.bool:Rp Bool:=⟨1,fun _ x c=>c=[.bool x],fun h=>by simp[h],fun _ h=>h,fun h u hu=>by subst h;simp at hu;subst hu;rfl⟩
def Rp.vec{α:Type}(r:Rp α):Rp (List α):=⟨1,fun H x c=>∃v,c=[v]/\AL r H v x,fun h=>by obtain⟨v,h,_⟩:=h;simp[h],fun hs h=>by obtain⟨v,h,hv⟩:=h;exact⟨v,h,hv.mono hs⟩,
 fun h u hu=>by obtain⟨v,h,hv⟩:=h;subst h;simp at hu;subst hu;obtain⟨a,cap,e⟩:=hv.header;subst e;rfl⟩
def Rp.pair{α β:Type}(r:Rp α)(s:Rp β):Rp (α×β):=⟨r.sz+s.sz,fun H x c=>∃c1 c2,c=c1++c2/\r.rel H x.1 c1/\s.rel H x.2 c2,
 fun h=>by obtain⟨c1,c2,e,h1,h2⟩:=h;simp[e,r.len h1,s.len h2],
 fun hs h=>by obtain⟨c1,c2,e,h1,h2⟩:=h;exact⟨c1,c2,e,r.mono hs h1,s.mono hs h2⟩,
 fun h u hu=>by
  obtain⟨c1,c2,e,h1,h2⟩:=h;subst e
  rcases Qxc.1 hu with hu | hu
  ·exact r.one h1 u hu
  ·exact s.one h2 u hu⟩
inductive BN where
 | box (b:Nat) (cs:Qq5) (t:TypeId)
 | row (v:Value) (e:TypeId) (sz n:Nat) (xs:Qq5)
 | obj (b:Nat) (o:Obj)
abbrev Ha(l O:List BN):List BN:=l++O
def BN.block:BN->Option Nat
 | .box b _ _=>some b
 | .row v _ _ _ _=>v.ownBlock
 | .obj b _=>some b
def BN.ok(w:World):BN->Prop
 | .box b cs t=>w.heap[b]? = some (.cells cs.toArray t (0,0))
 | .row v e sz n xs=>w.ownsRow 0 e sz v n xs
 | .obj b o=>w.heap[b]? = some o
theorem BN.ok.lt{w:World}{r:BN}(h:r.ok w){b:Nat}(hb:r.block=some b):b<w.heap.size:=by
 cases r with
 | box b' cs t=>cases hb;exact lt_of_heap h
 | row v e sz n xs=>exact(World.ownsRow.lt h b hb).2
 | obj b' o=>cases hb;exact lt_of_heap h
theorem BN.ok.same{w w':World}{r:BN}(h:r.ok w)(hs:∀b,r.block=some b->w'.heap[b]? = w.heap[b]?):r.ok w':=by
 cases r with
 | box b cs t=>show w'.heap[b]? = _;rw[hs b Z];exact h
 | obj b o=>show w'.heap[b]? = _;rw[hs b Z];exact h
 | row v e sz n xs=>
  refine⟨h.1,?_⟩
  rcases h.2 with hn | ⟨g,cap,cur,rfl,hb,hgg,rest⟩
  ·exact .inl hn
  ·refine .inr ⟨g,cap,cur,Z,hb,?_,rest⟩;rw[hs g Z];exact hgg
theorem BN.ok.ext[Dr]{w w':World}{r:BN}(h:r.ok w)(hx:Ext w w'):r.ok w':=h.same fun b hb=>hx.block b (h.lt hb)
def owned(O:List BN)(b:Nat):Bool:=O.any fun r=>r.block==some b
theorem Dq{O:List BN}{b:Nat}:owned O b=true↔∃r∈O,r.block=some b:=by simp[owned]
def fz(w:World)(O:List BN):PH:=fun b=>if owned O b then none else w.heap[b]?
theorem U5(w:World)(O:List BN):Le (fz w O) (hp w):=fun b o e=>by
 unfold fz at e
 split at e
 ·cases e
 ·exact e
structure AW [Dr] (a:World) (O:List BN) (w:World):Prop where
 ext:Ext a w
 res:∀r∈O,r.ok w
 own:∀r∈O,∀b,r.block=some b->a.heap.size<=b
 Wc:O.Pairwise fun r s=>∀b,r.block=some b->s.block≠some b
theorem AW.start[Dr](w:World):AW w [] w:=⟨Ext.refl w,(fun _ h=>by cases h),(fun _ h=>by cases h),List.Pairwise.nil⟩
theorem AG[Dr]{P:Program}{f:FuncId}{fn:Func}{c:Code}{args:Qq5}{w:World}{R:Value->World->Prop}(n:Nat)(L:Env)
  (hf : P.funcs[f]? = some fn) (hq : (fn.name == "runtime.NumGoroutine", fn.body, fn.ntmps, Nat.ble args.length n, Mz 0 args) = (false, some c, n, true, L))
  (h:AW w [] w->W P ⟨n,[]⟩ c (Ml P fn R) L w):Ok P f args w R:=by
 simp only[Prod.mk.injEq]at hq;exact BC L hf (hname:=⟨hq.1⟩) hq.2.1 hq.2.2.1 hq.2.2.2.1 hq.2.2.2.2 (h (AW.start w))
theorem AW.arg[Dr]{a w:World}{O:List BN}(h:AW a O w):Le (hp a) (hp w):=h.ext.le
theorem AW.lt[Dr]{a w:World}{O:List BN}(h:AW a O w){b:Nat}(hb:owned O b=true):b<w.heap.size:=by
 obtain⟨r,hr,e⟩:=Dq.1 hb;exact(h.res r hr).lt e
theorem AW.YN[Dr]{a w:World}{O:List BN}(h:AW a O w):Le (hp a) (fz w O):=fun b o e=>by
 unfold fz;rw[if_neg]
 ·exact h.arg b o e
 ·intro ho;obtain⟨r,hr,e'⟩:=Dq.1 ho;have:=h.own r hr b e';have:=lt_of_heap (w:=a) e;omega
theorem AW.call[Dr]{a w w':World}{O:List BN}(h:AW a O w)(hx:Ext w w'):AW a O w':=
 ⟨h.ext.trans hx,fun r hr=>(h.res r hr).ext hx,h.own,h.Wc⟩
theorem Bd[Dr]{a w w':World}{O:List BN}(_h:AW a O w)(hx:Ext w w'):Le (fz w O) (fz w' O):=fun b o e=>by
 unfold fz at e ⊢
 split at e
 ·cases e
 ·rename_i ho;rw[if_neg ho];exact hx.le b o e
theorem Xo[Dr]{a w w':World}{O:List BN}(h:AW a O w):Le (nw w w') (fz w' O):=fun b o e=>by
 unfold nw at e
 split at e
 ·rename_i hb;unfold fz;rw[if_neg]
  ·exact e
  ·intro ho;have:=h.lt ho;omega
 ·cases e
theorem AW.drop[Dr]{a w:World}{O:List BN}{r:BN}(h:AW a (r::O) w):AW a O w:=
 ⟨h.ext,fun s hs=>h.res s (.tail _ hs),fun s hs=>h.own s (.tail _ hs),(QxX.1 h.Wc).2⟩
theorem Wd{w:World}{O:List BN}{r:BN}:Le (fz w (r::O)) (fz w O):=fun b o e=>by
 unfold fz at e ⊢
 split at e
 ·cases e
 ·rename_i ho;rw[if_neg]
  ·exact e
  ·intro h;apply ho;obtain⟨s,hs,e'⟩:=Dq.1 h;exact Dq.2 ⟨s,.tail _ hs,e'⟩
theorem AW.perm[Dr]{a w:World}{O O':List BN}(h:AW a O w)(hp:O'.Perm O):AW a O' w:=
 ⟨h.ext,fun r hr=>h.res r (hp.mem_iff.1 hr),fun r hr=>h.own r (hp.mem_iff.1 hr),
  (hp.symm.pairwise h.Wc (fun {_x _y} hxy b hb hx=>hxy b hx hb))⟩
theorem Kg{w:World}{O O':List BN}(hp:O'.Perm O):fz w O'=fz w O:=by
 funext b
 unfold fz
 have:owned O' b=owned O b:=by
  rw[Bool.eq_iff_iff,Dq,Dq];exact⟨fun⟨r,h,e⟩=>⟨r,hp.mem_iff.1 h,e⟩,fun⟨r,h,e⟩=>⟨r,hp.mem_iff.2 h,e⟩⟩
 rw[this]
theorem AW.Z4[Dr]{a w w':World}{O:List BN}{r r':BN}(h:AW a (r::O) w)(hdr:w.drawn<=w'.drawn)(hg:w.grownBy w' r.block)(hok:r'.ok w')(hb:∀b,r'.block=some b->r.block=some b\/w.heap.size<=b):AW a (r'::O) w':=by
 have hh:=QxX.1 h.Wc
 have hsame:∀s∈O,∀b,s.block=some b->w'.heap[b]? = w.heap[b]?:=fun s hs b e=>by
  refine hg.block b ((h.res s (.tail _ hs)).lt e) (fun e'=>?_);exact hh.1 s hs b e'.symm e
 refine⟨⟨⟨hg.os.trans h.ext.os,hg.tape.trans h.ext.tape,hg.output.trans h.ext.output,Qz2 h.ext.size hg.size,fun k hk=>?_⟩,fun o=>Qz2 (h.ext.drawn o) hdr⟩,fun s hs=>?_,fun s hs b e=>?_,?_⟩
 ·rw[hg.block k (Nat.lt_of_lt_of_le hk h.ext.size) (fun e=>?_)]
  ·exact h.ext.block k hk
  ·have:=h.own r (.head _) k e.symm;omega
 ·cases hs with
  | head=>exact hok
  | tail _ hs=>exact(h.res s (.tail _ hs)).same (hsame s hs)
 ·cases hs with
  | head=>
   rcases hb b e with e' | e'
   ·exact h.own r (.head _) b e'
   ·exact Qz2 h.ext.size e'
  | tail _ hs=>exact h.own s (.tail _ hs) b e
 ·refine QxX.2 ⟨fun s hs b e e'=>?_,hh.2⟩
  rcases hb b e with e'' | e''
  ·exact hh.1 s hs b e'' e'
  ·have:=(h.res s (.tail _ hs)).lt e';omega
theorem We[Dr]{a w w':World}{O:List BN}{r r':BN}(_h:AW a (r::O) w)(hg:w.grownBy w' r.block)(hb:∀b,r'.block=some b->r.block=some b\/w.heap.size<=b):Le (fz w (r::O)) (fz w' (r'::O)):=fun b o e=>by
 unfold fz at e ⊢
 split at e
 ·cases e
 ·rename_i ho;have hlt:=lt_of_heap e;have hnr:r.block≠some b:=fun e'=>ho (Dq.2 ⟨r,.head _,e'⟩);rw[if_neg]
  ·rw[hg.block b hlt (fun e'=>hnr e'.symm)];exact e
  ·intro hc;obtain⟨s,hs,e'⟩:=Dq.1 hc
   cases hs with
   | head=>
    rcases hb b e' with h1 | h1
    ·exact hnr h1
    ·omega
   | tail _ hs=>exact ho (Dq.2 ⟨s,.tail _ hs,e'⟩)
theorem AW.new[Dr]{a w w':World}{O:List BN}{r:BN}(h:AW a O w)(hx:Ext w w')(hok:r.ok w')(hb:∀b,r.block=some b->w.heap.size<=b):AW a (r::O) w':=by
 have h':=h.call hx;refine⟨h'.ext,fun s hs=>?_,fun s hs b e=>?_,QxX.2 ⟨fun s hs b e e'=>?_,h.Wc⟩⟩
 ·cases hs with
  | head=>exact hok
  | tail _ hs=>exact h'.res s hs
 ·cases hs with
  | head=>exact Qz2 h.ext.size (hb b e)
  | tail _ hs=>exact h.own s hs b e
 ·have:=hb b e;have:=(h.res s hs).lt e';omega
theorem PG[Dr]{a w w':World}{O:List BN}{r:BN}(_h:AW a O w)(hx:Ext w w')(hb:∀b,r.block=some b->w.heap.size<=b):Le (fz w O) (fz w' (r::O)):=fun b o e=>by
 unfold fz at e ⊢
 split at e
 ·cases e
 ·rename_i ho;have hlt:=lt_of_heap e;rw[if_neg]
  ·exact hx.le b o e
  ·intro hc;obtain⟨s,hs,e'⟩:=Dq.1 hc
   cases hs with
   | head=>have:=hb b e';omega
   | tail _ hs=>exact ho (Dq.2 ⟨s,hs,e'⟩)
def NM(w w':World)(v:Value):PH:=fun b=>if v.ownBlock=some b then none else nw w w' b
theorem RP[Dr]{a w w':World}{O:List BN}{v:Value}{e:TypeId}{sz n:Nat}{xs:Qq5}(h:AW a O w):Le (NM w w' v) (fz w' (.row v e sz n xs::O)):=fun b o hb=>by
 unfold NM at hb
 split at hb
 ·cases hb
 ·rename_i hne;have h1:=Xo (w':=w') h b o hb;unfold fz at h1 ⊢
  split at h1
  ·cases h1
  ·rename_i ho;rw[if_neg]
   ·exact h1
   ·intro hc;obtain⟨s,hs,e'⟩:=Dq.1 hc
    cases hs with
    | head=>exact hne e'
    | tail _ hs=>exact ho (Dq.2 ⟨s,hs,e'⟩)
theorem RQ{w w':World}{v:Value}:Le (NM w w' v) (nw w w'):=fun b o hb=>by
 unfold NM at hb
 split at hb
 ·cases hb
 ·exact hb
inductive A5 {α:Type} (r:Rp α) (H:PH):List α->Qq5->Prop
 | nil:A5 r H [] []
 | cons {x:α}{l:List α}{c cs:Qq5} (h:r.rel H x c) (t:A5 r H l cs):A5 r H (x::l) (c++cs)
section
variable {α:Type}{r:Rp α}{H H':PH}
theorem A5.mono{l:List α}{cs:Qq5}(h:A5 r H l cs)(hs:Le H H'):A5 r H' l cs:=by
 induction h with
 | nil=>exact .nil
 | cons h _ ih=>exact .cons (r.mono hs h) ih
theorem A5.len{l:List α}{cs:Qq5}(h:A5 r H l cs):cs.length=l.length * r.sz:=by
 induction h with
 | nil=>simp
 | cons h _ ih=>simp[ih,r.len h,QzZ,Nat.add_comm]
theorem A5.one{l:List α}{cs:Qq5}(h:A5 r H l cs):∀u∈cs,u.oneCell'=true:=by
 induction h with
 | nil=>simp
 | cons h _ ih=>intro u hu;rcases Qxc.1 hu with hu | hu;exact r.one h u hu;exact ih u hu
theorem A5.append{l m:List α}{cs ds:Qq5}(h:A5 r H l cs)(k:A5 r H m ds):A5 r H (l++m) (cs++ds):=by
 induction h with
 | nil=>exact k
 | cons h _ ih=>rw[List.cons_append,List.append_assoc];exact .cons h ih
theorem A5.at{l:List α}{cs:Qq5}(h:A5 r H l cs):∀i x,l[i]? = some x->∃c,r.rel H x c/\∀j u,c[j]? = some u->cs[i * r.sz+j]? = some u:=by
 induction h with
 | nil=>intro i x hx;cases hx
 | @cons y l c cs h _ ih=>
  intro i x hx
  cases i with
  | zero=>
   simp only[List.getElem?_cons_zero,Option.some.injEq]at hx;subst hx;refine⟨c,h,fun j u hu=>?_⟩;rw[Qxx,Qzd,List.getElem?_append_left (Qxq.1 hu).1];exact hu
  | succ i=>
   simp only[List.getElem?_cons_succ]at hx;obtain⟨d,hd,hh⟩:=ih i x hx;refine⟨d,hd,fun j u hu=>?_⟩;rw[List.getElem?_append_right (by rw[r.len h,QzZ];omega),r.len h];rw[show(i+1) * r.sz+j - r.sz=i * r.sz+j from by rw[QzZ];omega];exact hh j u hu
end
def Own{α:Type}(e:TypeId)(r:Rp α)(w w':World)(v:Value)(l:List α):Prop:=
 ∃xs,w'.ownsRow w.heap.size e r.sz v l.length xs/\A5 r (NM w w' v) l xs
theorem M0{w:World}{b b':Nat}{e:TypeId}{sz n:Nat}{v:Value}{xs:Qq5}(h:w.ownsRow b e sz v n xs)(hb:∀k,v.ownBlock=some k->b'<=k):w.ownsRow b' e sz v n xs:=by
 refine⟨h.1,?_⟩
 rcases h.2 with hn | ⟨g,cap,cur,rfl,hbg,hgg,rest⟩
 ·exact .inl hn
 ·exact .inr ⟨g,cap,cur,Z,hb g Z,hgg,rest⟩
theorem M1{α:Type}{r:Rp α}{w:World}{b:Nat}{e:TypeId}{v:Value}{l:List α}{xs:Qq5}{H H':PH}(h:w.ownsRow b e r.sz v l.length xs)(he:A5 r H l xs)(hs:Le H H')
  (hb:∀k,v.ownBlock=some k->∀o,w.heap[k]? = some o->H' k=some o):AL r H' v l:=by
 rcases h.2 with ⟨rfl,hn⟩ | ⟨g,cap,cur,rfl,hbg,hgg,hnc,hcm,hcs,htake⟩
 ·have:l=[]:=Qz0 hn;subst this;exact AL.nil r H'
 ·refine⟨some ⟨g,0,none⟩,cap,Z,hnc,hcm,(fun h=>by cases h),fun A hA _=>?_⟩
  cases hA
  refine⟨Z,fun i x hx=>?_⟩;obtain⟨c,hc,hcell⟩:=he.at i x hx;refine⟨c,r.mono hs hc,fun j u hu=>?_⟩;have h1:=hcell j u hu;rw[<- htake,QxK]at h1
  split at h1
  ·simp only[Addr.add_lit,Qzd,I6];rw[hb g Z _ hgg]
   simpa using h1
  ·cases h1
theorem Own.vec{α:Type}{e:TypeId}{r:Rp α}{w w':World}{v:Value}{l:List α}(h:Own e r w w' v l):AL r (nw w w') v l:=by
 obtain⟨xs,h1,h2⟩:=h;refine M1 h1 h2 RQ fun k hk o ho=>?_;have:=(h1.lt k hk).1;unfold nw;rw[if_pos this];exact ho
end Go.E
namespace Go.E
open Go Go.RowKit
inductive Tr where
 | tail (k:Nat)
 | q (i:Nat) (t:Tr)
 | h (i:Nat) (t:Tr)
 | h2 (i:Nat) (t:Tr) (j:Nat) (u:Tr)
 | h3 (i:Nat) (t:Tr) (j:Nat) (u:Tr) (l:Nat) (v:Tr)
def Qqz:Nat->Nat->Tr->Tr
 |_,0,t=>t
 |i,n+1,t=>.q i (Qqz (i+1) n t)
def Tr.count:Tr->Nat
 | .tail _=>0
 | .q _ t=>t.count+1
 | .h _ t=>t.count+1
 | .h2 _ t _ _=>t.count+1
 | .h3 _ t _ _ _ _=>t.count+1
def Tr.last:Tr->Nat
 | .tail k=>k
 | .q _ t=>t.last
 | .h _ t=>t.last
 | .h2 _ t _ _=>t.last
 | .h3 _ t _ _ _ _=>t.last
def chainB(ops:Array Oper):Nat->Nat->Array Bool->Bool
 | 0,_,listed=>Region.ready .any ops listed==[]
 | m+1,k,listed=>Region.ready .any ops listed==[k]&&chainB ops m (k+1) (listed.setIfInBounds k true)
def Bb(ops:Array Oper):Tr->Array Bool->Bool
 | .tail k,listed=>chainB ops (ops.size - k) k listed
 | .q i t,listed=>(Region.ready .any ops listed).contains i&&Region.free .any ops listed i&&Qzz i t.last&&Bb ops t (listed.setIfInBounds i true)
 | .h i t,listed=>Region.ready .any ops listed==[i]&&Qzz i t.last&&Bb ops t (listed.setIfInBounds i true)
 | .h2 i t j u,listed=>Region.ready .any ops listed==[i,j]&&Qzz i t.last&&Qzz j t.last&&t.count==u.count&&t.last==u.last&&Bb ops t (listed.setIfInBounds i true)&&Bb ops u (listed.setIfInBounds j true)
 | .h3 i t j u l v,listed=>Region.ready .any ops listed==[i,j,l]&&Qzz i t.last&&Qzz j t.last&&Qzz l t.last&&t.count==u.count&&t.last==u.last&&t.count==v.count&&t.last==v.last&&Bb ops t (listed.setIfInBounds i true)&&Bb ops u (listed.setIfInBounds j true)&&Bb ops v (listed.setIfInBounds l true)
section
variable (P:Program) (ops:Array Oper)
def Q5(a:Act)(o:Oper)(K:Act->World->Prop):Result Next->Prop
 | .ok (.value v) w'=>K (a.put o.dst v) w'
 | .ok .skip w'=>K (a.put o.dst undef) w'
 | .ok (.enter f args) w'=>Calls P f args w' (fun e w''=>∃v,e=.returned v/\K (a.put o.dst v) w'')
 | _=>False
def RR(o:Oper)(K:Act->World->Prop)(a:Act)(w:World):Prop:=
 if Region.wanted o (yielded ops a.tmps)then Q5 P a o K ((execOp a.eval o).run P w)else K (a.put o.dst undef) w
def yx[Dr](o:Oper)(v:Value)(a:Act)(w:World):Prop:=
 (Region.wanted o (yielded ops a.tmps)=true/\∀w',Ext w w'->match(execOp a.eval o).run P w' with
  | .ok (.value u) w''=>w''=w'/\u=v
  | .ok (.enter f args) w''=>w''=w'/\Calls P f args w' (fun e b=>e=.returned v/\Ext w' b)
  | _=>False)\/
 (Region.wanted o (yielded ops a.tmps)=false/\v=undef)
def X[Dr](Q:Exit->Act->World->Prop):Tr->World->Act->World->Prop
 | .tail k,_,a,w=>∀w',Ext w w'->wpOps P ops Q (List.range' k (ops.size - k)) a w'
 | .q i t,b,a,w=>∃o v,ops[i]? = some o/\yx P ops o v a b/\X Q t b (a.put o.dst v) w
 | .h i t,b,a,w=>∃o,ops[i]? = some o/\∀w',Ext w w'->RR P ops o (fun a'' w''=>∃b',Ext b b'/\Ext b' w''/\X Q t b' a'' w'') a w'
 | .h2 i t j u,b,a,w=>(∃o,ops[i]? = some o/\∀w',Ext w w'->RR P ops o (fun a'' w''=>∃b',Ext b b'/\Ext b' w''/\X Q t b' a'' w'') a w')/\
   (∃o,ops[j]? = some o/\∀w',Ext w w'->RR P ops o (fun a'' w''=>∃b',Ext b b'/\Ext b' w''/\X Q u b' a'' w'') a w')
 | .h3 i t j u l v,b,a,w=>(∃o,ops[i]? = some o/\∀w',Ext w w'->RR P ops o (fun a'' w''=>∃b',Ext b b'/\Ext b' w''/\X Q t b' a'' w'') a w')/\
   (∃o,ops[j]? = some o/\∀w',Ext w w'->RR P ops o (fun a'' w''=>∃b',Ext b b'/\Ext b' w''/\X Q u b' a'' w'') a w')/\
   (∃o,ops[l]? = some o/\∀w',Ext w w'->RR P ops o (fun a'' w''=>∃b',Ext b b'/\Ext b' w''/\X Q v b' a'' w'') a w')
def Y[Dr](Q:Exit->Act->World->Prop)(k:Nat)(b:World):Nat->Array Bool->Act->World->Prop
 | 0,listed,a,w=>chainB ops (ops.size - k) k listed=true/\∀w',Ext w w'->wpOps P ops Q (List.range' k (ops.size - k)) a w'
 | m
  + 1,listed,a,w=>Region.ready .any ops listed≠[]/\∀w',Ext w w'->∀i∈Region.ready .any ops listed,∃o,ops[i]? = some o/\
  RR P ops o (fun a'' w''=>Ext b w''/\Y Q k b m (listed.setIfInBounds i true) a'' w'') a w'
end
section
variable {P:Program}{ops:Array Oper}{Q:Exit->Act->World->Prop}
theorem TU{a:Act}{o:Oper}{K K':Act->World->Prop}(h:∀a w,K a w->K' a w):∀{r:Result Next},Q5 P a o K r->Q5 P a o K' r:=by
 intro r hr
 cases r with
 | ok nx w'=>
  cases nx <;> simp only[Q5]at hr ⊢
  case value v=>exact h _ _ hr
  case skip=>exact h _ _ hr
  case enter f args=>exact hr.mono fun e w'' ⟨v,he,hv⟩=>⟨v,he,h _ _ hv⟩
 | halt x w'=>simp only[Q5]at hr
theorem Kt{o:Oper}{K K':Act->World->Prop}(h:∀a w,K a w->K' a w){a:Act}{w:World}(hh:RR P ops o K a w):RR P ops o K' a w:=by
 unfold RR at hh ⊢
 split
 ·rename_i hw;rw[if_pos hw]at hh;exact TU h hh
 ·rename_i hw;rw[if_neg hw]at hh;exact h _ _ hh
theorem RS{i:Nat}{o:Oper}(hi:ops[i]? = some o){K:Act->World->Prop}{a:Act}{w:World}(h:RR P ops o K a w):wpOp P ops Q i K a w:=by
 unfold wpOp;simp only[hi];unfold RR at h
 split
 ·rename_i hw;rw[if_pos hw]at h;refine .inl ?_;unfold Oper.wp;generalize (execOp a.eval o).run P w=r at h ⊢
  cases r with
  | ok nx w'=>
   cases nx <;> simp only[Q5]at h <;> simp only[Oper.upon]
   case value v=>exact h
   case skip=>exact h
   case enter f args=>exact h.mono fun e w'' ⟨v,he,hv⟩=>by subst he;exact hv
  | halt x w'=>simp only[Q5]at h
 ·rename_i hw;rw[if_neg hw]at h;exact h
theorem QJ[Dr]{o:Oper}{v:Value}{a:Act}{w w':World}(h:yx P ops o v a w)(hx:Ext w w'){K:Act->World->Prop}(hK:∀w'',Ext w' w''->K (a.put o.dst v) w''):RR P ops o K a w':=by
 unfold RR
 rcases h with ⟨hw,h⟩ | ⟨hw,rfl⟩
 ·rw[if_pos hw];have h1:=h w' hx;generalize (execOp a.eval o).run P w'=r at h1 ⊢
  cases r with
  | ok nx w1=>
   cases nx <;> simp only at h1 <;> simp only[Q5]
   case value u=>obtain⟨rfl,rfl⟩:=h1;exact hK _ (Ext.refl _)
   case enter f args=>obtain⟨rfl,h1⟩:=h1;exact h1.mono fun e w'' ⟨he,hv⟩=>⟨v,he,hK _ hv⟩
  | halt x w1=>simp only at h1
 ·rw[if_neg (by simp[hw])];exact hK _ (Ext.refl _)
theorem XJ[Dr]{o oj:Oper}{v u:Value}{a:Act}{w:World}(hs:∀cs b,o.op≠.select cs b)(h3:∀d,oj.dst=some d->d∉o.looksAt ops)(h:yx P ops o v a w):yx P ops o v (a.put oj.dst u) w:=by
 unfold yx at h ⊢;rw[wanted_put o a oj.dst u h3,execOp_put (ops:=ops) o hs a oj.dst u h3];exact h
def To(ops:Array Oper)(k:Nat):Prop:=∀listed,HeadInv .any ops k listed->∀i,i<k->listed.getD i true=false->∀t,k<=t->t∉Region.ready .any ops listed
theorem U6{k:Nat}(h:ops.size<=k\/(Region.sinkB .any ops k=true/\Region.chainB .any ops k=true)):To ops k:=by
 intro listed inv i hi hun t ht hr
 rcases QzX k ops.size with hk | hk
 ·rcases h with h | ⟨h1,h2⟩
  ·omega
  ·exact tail_waits h1 h2 hk inv _ i Z hi hun t ht hr
 ·obtain⟨_,o,ho,_⟩:=mem_ready.1 hr;have:=(Qx0.1 ho).1;omega
theorem RT{m k:Nat}{listed:Array Bool}(h:chainB ops m k listed=true):∀j∈Region.ready .any ops listed,j=k:=by
 intro j hj
 cases m with
 | zero=>simp only[chainB,beq_iff_eq]at h;rw[h]at hj;cases hj
 | succ m=>simp only[chainB,Qza,beq_iff_eq]at h;rw[h.1]at hj;simpa using hj
theorem NS[Dr]{k:Nat}{b b':World}(hb:Ext b b'):∀(m:Nat) (listed:Array Bool) (a:Act) (w:World),Y P ops Q k b' m listed a w->Y P ops Q k b m listed a w
 | 0,_,_,_,h=>h
 | m
  + 1,listed,a,w,h=>⟨h.1,fun w' hx i hi=>by
  obtain⟨o,ho,h1⟩:=h.2 w' hx i hi;exact⟨o,ho,Kt (fun a'' w'' ⟨c,d⟩=>⟨hb.trans c,NS hb m _ _ _ d⟩) h1⟩⟩
theorem Wf[Dr]{b:World}{k i:Nat}{oi:Oper}{v:Value}(hw:To ops k)(hi:ops[i]? = some oi)(hik:i<k)(hsel:∀(j:Nat) (o:Oper) cs b,ops[j]? = some o->o.op≠.select cs b):
  ∀
   (m:Nat) (listed:Array Bool) (a:Act) (w:World),HeadInv .any ops k listed->
   (∀j oj,ops[j]? = some oj->j≠i->listed.getD j true=false->(∀e∈oj.after,Region.binds .any e=true->e.on≠i)->oi.apart ops oj=true)->
   i∈Region.ready .any ops listed->Ext b w->yx P ops oi v a b->
   Y P ops Q k b m (listed.setIfInBounds i true) (a.put oi.dst v) w->Y P ops Q k b (m+1) listed a w:=by
 intro m
 induction m with
 | zero=>
  intro listed a w inv hfree hr hb hy H;refine⟨fun h=>(by rw[h]at hr;cases hr),fun w' hx j hj=>?_⟩
  have hji:j=i:=by
   refine Decidable.byContradiction fun hne=>?_;have:=RT H.1 j (ready_mono hj hne);subst this;exact hw listed inv i hik (mem_ready.1 hr).1 j (Qzx _) hj
  subst hji;exact⟨oi,hi,QJ hy (hb.trans hx) fun w'' hx'=>⟨(hb.trans hx).trans hx',H.1,fun c h3=>H.2 c ((hx.trans hx').trans h3)⟩⟩
 | succ m ih=>
  intro listed a w inv hfree hr hb hy H;refine⟨fun h=>(by rw[h]at hr;cases hr),fun w' hx j hj=>?_⟩
  by_cases hji:j=i
  ·subst hji;refine⟨oi,hi,QJ hy (hb.trans hx) fun w'' hx'=>⟨(hb.trans hx).trans hx',H.1,fun c h3=>H.2 c ((hx.trans hx').trans h3)⟩⟩
  ·obtain⟨oj,hoj,h1⟩:=H.2 w' hx j (ready_mono hj hji);refine⟨oj,hoj,?_⟩;obtain⟨hjun,oj',hoj',hall⟩:=mem_ready.1 hj;obtain rfl:oj=oj':=Option.some.inj (hoj.symm.trans hoj')
   have hnot:∀e∈oj.after,Region.binds .any e=true->e.on≠i:=fun e he hb heq=>by
    have h1:=hall e he hb;have d:=(mem_ready.1 hr).1;rw[heq]at h1
    rcases QzX i listed.size with h' | h'
    ·simp[h']at d h1;rw[d]at h1;cases h1
    ·simp[QxB h']at h1
   obtain⟨g,l,n⟩:=Oper.apart_spec (hfree j oj hoj hji hjun hnot);have hsj:=fun cs b=>hsel j oj cs b hoj;have hsi:=fun cs b=>hsel i oi cs b hi
   have hjk:j<k:=by
    rcases QzX j k with h | h
    ·exact h
    ·exact absurd hj (hw listed inv i hik (mem_ready.1 hr).1 j h)
   have hfree':∀k' ok,ops[k']? = some ok->k'≠i->(listed.setIfInBounds j true).getD k' true=false->
     (∀e∈ok.after,Region.binds .any e=true->e.on≠i)->oi.apart ops ok=true:=fun k' ok hk hki hun hno=>by
    refine hfree k' ok hk hki ?_ hno
    by_cases hjk:j=k'
    ·subst hjk;exact hjun
    ·rw[getD_set_ne true hjk]at hun;exact hun
   have next:∀u w'',Ext b w''->Y P ops Q k b m ((listed.setIfInBounds i true).setIfInBounds j true) ((a.put oi.dst v).put oj.dst u) w''->Y P ops Q k b (m+1) (listed.setIfInBounds j true) (a.put oj.dst u) w'':=by
    intro u w'' hx' hY;refine ih (listed.setIfInBounds j true) (a.put oj.dst u) w'' (inv.set hj hjk) hfree' (ready_mono hr (Ne.symm hji)) hx' (XJ hsi n hy) ?_;rw[Array.setIfInBounds_comm _ _ hji,<- Act.put_comm a v u l];exact hY
   unfold RR at h1 ⊢;rw[wanted_put oj a oi.dst v g,execOp_put (ops:=ops) oj hsj a oi.dst v g]at h1
   split
   ·rename_i hw;rw[if_pos hw]at h1;generalize (execOp a.eval oj).run P w'=r at h1 ⊢
    cases r with
    | ok nx w1=>
     cases nx <;> simp only[Q5]at h1 ⊢
     case value u=>exact⟨h1.1,next _ _ h1.1 h1.2⟩
     case skip=>exact⟨h1.1,next _ _ h1.1 h1.2⟩
     case enter f args=>exact h1.mono fun e w'' ⟨u,he,hu⟩=>⟨u,he,hu.1,next _ _ hu.1 hu.2⟩
    | halt x w1=>simp only[Q5]at h1
   ·rename_i hw;rw[if_neg hw]at h1;exact⟨h1.1,next _ _ h1.1 h1.2⟩
theorem Na{i j:Nat}(h:Qzz i j=true):i<j:=by simpa[Nat.blt_eq]using h
theorem Nc[Dr]{k:Nat}(hw:To ops k)(hsel:∀(j:Nat) (o:Oper) cs b,ops[j]? = some o->o.op≠.select cs b):
  ∀(t:Tr) (listed:Array Bool) (b:World) (a:Act) (w:World),t.last=k->HeadInv .any ops k listed->Bb ops t listed=true->Ext b w->X P ops Q t b a w->Y P ops Q k b t.count listed a w
 | .tail k',listed,b,a,w,hk,inv,hc,hb,h=>by
  obtain rfl:k'=k:=hk;exact⟨hc,h⟩
 | .q i t,listed,b,a,w,hk,inv,hc,hb,h=>by
  simp only[Bb,Qza]at hc;obtain⟨⟨⟨c1,c2⟩,c3⟩,c4⟩:=hc;obtain⟨o,v,ho,hy,hX⟩:=h;have hr:i∈Region.ready .any ops listed:=by simpa using c1
  have hlt:i<k:=by rw[<- hk];exact Na c3
  exact Wf hw ho hlt hsel t.count listed a w inv (fun j oj=>Region.free_spec ho c2 j oj) hr hb hy (Nc hw hsel t _ _ _ _ hk (inv.set hr hlt) c4 hb hX)
 | .h i t,listed,b,a,w,hk,inv,hc,hb,h=>by
  simp only[Bb,Qza,beq_iff_eq]at hc;obtain⟨⟨c1,c3⟩,c4⟩:=hc;obtain⟨o,ho,hX⟩:=h;have hr:i∈Region.ready .any ops listed:=by simp[c1]
  have hlt:i<k:=by rw[<- hk];exact Na c3
  refine⟨by simp[c1],fun w' hx j hj=>?_⟩;obtain rfl:j=i:=by simpa[c1]using hj
  exact⟨o,ho,Kt (fun a'' w'' ⟨b',c,d,e⟩=>⟨c.trans d,NS c _ _ _ _ (Nc hw hsel t _ b' _ _ hk (inv.set hr hlt) c4 d e)⟩) (hX w' hx)⟩
 | .h2 i t j u,listed,b,a,w,hk,inv,hc,hb,h=>by
  simp only[Bb,Qza,beq_iff_eq]at hc;obtain⟨⟨⟨⟨⟨⟨c1,c3⟩,c3'⟩,c5⟩,c6⟩,c4⟩,c4'⟩:=hc;obtain⟨⟨o,ho,hX⟩,⟨o',ho',hX'⟩⟩:=h;have hr:i∈Region.ready .any ops listed:=by simp[c1]
  have hr':j∈Region.ready .any ops listed:=by simp[c1]
  have hlt:i<k:=by rw[<- hk];exact Na c3
  have hlt':j<k:=by rw[<- hk];exact Na c3'
  have hk':u.last=k:=by rw[<- c6];exact hk
  refine⟨by simp[c1],fun w' hx l hl=>?_⟩;have hl':l=i\/l=j:=by simpa[c1]using hl
  rcases hl' with rfl | rfl
  ·exact⟨o,ho,Kt (fun a'' w'' ⟨b',c,d,e⟩=>⟨c.trans d,NS c _ _ _ _ (Nc hw hsel t _ b' _ _ hk (inv.set hr hlt) c4 d e)⟩) (hX w' hx)⟩
  ·refine⟨o',ho',Kt (fun a'' w'' ⟨b',c,d,e⟩=>⟨c.trans d,?_⟩) (hX' w' hx)⟩;have:=NS c _ _ _ _ (Nc hw hsel u _ b' _ _ hk' (inv.set hr' hlt') c4' d e)
   show Y P ops Q k b t.count _ _ _
   rw[c5];exact this
 | .h3 i t j u m v,listed,b,a,w,hk,inv,hc,hb,h=>by
  simp only[Bb,Qza,beq_iff_eq]at hc;obtain⟨⟨⟨⟨⟨⟨⟨⟨⟨⟨c1,c3⟩,c3'⟩,c3''⟩,c5⟩,c6⟩,c7⟩,c8⟩,c4⟩,c4'⟩,c4''⟩:=hc;obtain⟨⟨o,ho,hX⟩,⟨o',ho',hX'⟩,⟨o'',ho'',hX''⟩⟩:=h;have hr:i∈Region.ready .any ops listed:=by simp[c1]
  have hr':j∈Region.ready .any ops listed:=by simp[c1]
  have hr'':m∈Region.ready .any ops listed:=by simp[c1]
  have hlt:i<k:=by rw[<- hk];exact Na c3
  have hlt':j<k:=by rw[<- hk];exact Na c3'
  have hlt'':m<k:=by rw[<- hk];exact Na c3''
  have hk':u.last=k:=by rw[<- c6];exact hk
  have hk'':v.last=k:=by rw[<- c8];exact hk
  refine⟨by simp[c1],fun w' hx l hl=>?_⟩;have hl':l=i\/l=j\/l=m:=by simpa[c1]using hl
  rcases hl' with rfl | rfl | rfl
  ·exact⟨o,ho,Kt (fun a'' w'' ⟨b',c,d,e⟩=>⟨c.trans d,NS c _ _ _ _ (Nc hw hsel t _ b' _ _ hk (inv.set hr hlt) c4 d e)⟩) (hX w' hx)⟩
  ·refine⟨o',ho',Kt (fun a'' w'' ⟨b',c,d,e⟩=>⟨c.trans d,?_⟩) (hX' w' hx)⟩;have:=NS c _ _ _ _ (Nc hw hsel u _ b' _ _ hk' (inv.set hr' hlt') c4' d e)
   show Y P ops Q k b t.count _ _ _
   rw[c5];exact this
  ·refine⟨o'',ho'',Kt (fun a'' w'' ⟨b',c,d,e⟩=>⟨c.trans d,?_⟩) (hX'' w' hx)⟩;have:=NS c _ _ _ _ (Nc hw hsel v _ b' _ _ hk'' (inv.set hr'' hlt'') c4'' d e)
   show Y P ops Q k b t.count _ _ _
   rw[c7];exact this
theorem Nd:∀(m k:Nat) (listed:Array Bool) (a:Act) (w:World),chainB ops m k listed=true->wpOps P ops Q (List.range' k m) a w->wpAny P .any ops Q m listed a w
 | 0,k,listed,a,w,h,hw=>by
  simp only[chainB,beq_iff_eq]at h;exact⟨h,by simpa[wpOps]using hw⟩
 | m+1,k,listed,a,w,h,hw=>by
  simp only[chainB,Qza,beq_iff_eq]at h;refine wpAny_all h.1 Qqc fun i hi=>?_;obtain rfl:i=k:=by simpa using hi
  rw[List.range'_succ,wpOps_cons]at hw;exact wpOp_mono (fun a' w' h'=>Nd m (i+1) _ a' w' h.2 h') hw
theorem PI[Dr]{k:Nat}{b:World}:∀(m:Nat) (listed:Array Bool) (a:Act) (w:World),Y P ops Q k b m listed a w->wpAny P .any ops Q (m+(ops.size - k)) listed a w
 | 0,listed,a,w,h=>by rw[Qzd];exact Nd _ k listed a w h.1 (h.2 w (Ext.refl w))
 | m+1,listed,a,w,h=>by
  rw[show m+1+(ops.size - k)=(m+(ops.size - k))+1 by omega];refine⟨fun c=>absurd c h.1,fun i hi=>?_⟩;obtain⟨o,ho,hx⟩:=h.2 w (Ext.refl w) i hi;exact RS ho (Kt (fun a' w' h'=>PI m _ a' w' h'.2) hx)
theorem Q6(k:Nat):HeadInv .any ops k (Qxw ops.size false):=
 ⟨by simp,(fun j oj _ hl=>by rw[getD_replicate_false]at hl;cases hl),fun t _ ht=>by simp[ht]⟩
def PJ(l:List Oper)(t:Tr):Bool:=
 Region.noSelect l.toArray&&(Nat.ble l.length t.last||(Region.sinkB .any l.toArray t.last&&Region.chainB .any l.toArray t.last))&&Bb l.toArray t (Qxw l.length false)&&QzC (t.count+(l.length - t.last)) l.length
theorem LC[Dr]{w:World}:Ext w {w with drawn:=w.drawn+1}:=⟨⟨Z,Z,Z,Qzx _,fun _ _=>Z⟩,fun _=>Nat.le_succ _⟩
theorem U7[Dr]{id:Nat}{l:List Oper}{a:Act}{w:World}(t:Tr)(hm:P.follows .mixedOrders=true)(hc:PJ l t=true)(h:X P l.toArray Q t {w with drawn:=w.drawn+1} a {w with drawn:=w.drawn+1}):(Code.region id l.toArray true).wp P Q a w:=by
 simp only[PJ,Qza,Qxd]at hc;obtain⟨⟨⟨c1,c2⟩,c3⟩,c4⟩:=hc
 have hw:To l.toArray t.last:=U6 (by
  rcases c2 with c2 | c2
  ·left;simpa[Nat.ble_eq]using c2
  ·right;exact c2)
 have hlen:=QxA c4;have hY:=Nc hw (Region.noSelect_spec c1) t (Qxw l.toArray.size false) _ a _ Z (Q6 _) (by simpa using c3) (Ext.refl _) h;have:=PI _ _ _ _ hY;refine wp_region_any hm ?_;have e:t.count+(l.toArray.size - t.last)=l.toArray.size:=by simpa using hlen
 rw[e]at this;exact this
end
def HL:List Oper->Nat->Option Oper
 | [],_=>none
 | o::_,0=>some o
 | _::l,i+1=>HL l i
theorem Gf:∀(l:List Oper) (i:Nat),HL l i=l[i]?
 | [],_=>rfl
 | _::_,0=>rfl
 | _::l,i+1=>by simpa[HL]using Gf l i
def QK:Nat->List Oper->List Oper
 | 0,l=>l
 | _+1,[]=>[]
 | k+1,_::l=>QK k l
theorem RU:∀(k:Nat) (l:List Oper),QK k l=l.drop k
 | 0,_=>by simp[QK]
 | _+1,[]=>by simp[QK]
 | k+1,_::l=>by simpa[QK]using RU k l
def D[Dr](P:Program)(n:Sz)(l:List Oper)(Q:Exit->Act->World->Prop)(t:Tr)(L:Env)(w:World):Prop:=∀a,Fr n a L->X P l.toArray Q t w a w
def Bu[Dr](P:Program)(L:Env)(w:World)(op:Op)(ty:TypeId)(v:Value):Prop:=
 ∀w',Ext w w'->∀ρ,SE L ρ->∀dst pos af g,(execOp ρ ⟨dst,op,ty,pos,af,g⟩).run P w'=.ok (.value v) w'
section
variable {P:Program}{n:Sz}{l:List Oper}{Q:Exit->Act->World->Prop}{L:Env}{w:World}{t u:Tr}{i j:Nat}
 {d:Nat}{op:Op}{ty:TypeId}{pos:String}{af:Array Edge}{y:Code}
theorem Tp[Dr]{id:Nat}(t:Tr)(hm:P.follows .mixedOrders=true)(hc:PJ l t=true)(h:D P n l Q t L {w with drawn:=w.drawn+1}):W P n (.region id l.toArray true) Q L w:=
 fun a fr=>U7 t hm hc (h a fr)
theorem CI[Dr]{id:Nat}(t:Tr)(hm:P.follows .mixedOrders=true)(hc:PJ l t=true)(h:∀w',Ext w w'->D P n l (OB P y Q) t L w'):W P n (.seq (.region id l.toArray true) y) Q L w:=
 AM (Tp t hm hc (h _ LC))
theorem Nf[Dr]{id:Nat}(t:Tr)(hm:P.follows .mixedOrders=true)(hc:PJ l t=true)(h:∀w',Ext w w'->D P n l Q t L w'):W P n (.region id l.toArray true) Q L w:=
 Tp t hm hc (h _ LC)
theorem B9[Dr]{v:Value}(ho:HL l i=some ⟨some d,op,ty,pos,af,none⟩)(hr:Bu P L w op ty v)(hn:Qzz d n.n=true)(h:D P n l Q t ((d,v)::L) w):D P n l Q (.q i t) L w:=fun a fr=>by
 refine⟨_,v,by rw[Gf]at ho;simpa using ho,.inl ⟨by simp[Region.wanted],fun w' hx=>?_⟩,h _ (fr.put hn)⟩;rw[hr w' hx _ fr.Rj];exact⟨Z,Z⟩
theorem CE[Dr]{v:Value}{j:Nat}{want b:Bool}{s:Nat}{oj:Oper}(ho:HL l i=some ⟨some d,op,ty,pos,af,some (j,want)⟩)(hr:Bu P L w op ty v)(hj:HL l j=some oj)(hd:oj.dst=some s)(hb:gt L s=some (.bool b))(hw:b=want)(hn:Qzz d n.n=true)
  (h:D P n l Q t ((d,v)::L) w):D P n l Q (.q i t) L w:=fun a fr=>by
 have hj':l.toArray[j]? = some oj:=by rw[Gf]at hj;simpa using hj
 have hy:yielded l.toArray a.tmps j=some b:=by simp only[yielded,hj',Qq9,hd,fr.get s _ hb]
 refine⟨_,v,by rw[Gf]at ho;simpa using ho,.inl ⟨by simp[Region.wanted,hy,hw],fun w' hx=>?_⟩,h _ (fr.put hn)⟩;rw[hr w' hx _ fr.Rj];exact⟨Z,Z⟩
theorem M3[Dr]{j:Nat}{want b:Bool}{s:Nat}{oj:Oper}(ho:HL l i=some ⟨some d,op,ty,pos,af,some (j,want)⟩)(hj:HL l j=some oj)(hd:oj.dst=some s)(hb:gt L s=some (.bool b))(hw:b = !want)(hn:Qzz d n.n=true)
  (h:D P n l Q t ((d,undef)::L) w):D P n l Q (.q i t) L w:=fun a fr=>by
 have hj':l.toArray[j]? = some oj:=by rw[Gf]at hj;simpa using hj
 have hy:yielded l.toArray a.tmps j=some b:=by simp only[yielded,hj',Qq9,hd,fr.get s _ hb]
 exact⟨_,undef,by rw[Gf]at ho;simpa using ho,.inr ⟨by simp[Region.wanted,hy,hw],Z⟩,h _ (fr.put hn)⟩
theorem Ad[Dr]{v:Value}(h:pu L op=some v):Bu P L w op ty v:=fun _ _ ρ hρ dst pos af _=>U2 (dst:=dst) (pos:=pos) (af:=af) h ρ hρ
def Wg(n:Sz)(l:List Oper):Nat->Tr->Env->Option (Tr×Env)
 | 0,t,L=>some (t,L)
 | k+1,.q i t,L=>match HL l i with
  | some ⟨some d,op,_,_,_,none⟩=>match pu L op with
   | some v=>bif Qzz d n.n then Wg n l k t ((d,v)::L)else none
   | none=>none
  | _=>none
 | _+1,_,_=>none
theorem Xp[Dr]:∀(k:Nat) {t t':Tr}{L L':Env},Wg n l k t L=some (t',L')->D P n l Q t' L' w->D P n l Q t L w
 | 0,t,t',L,L',h,hD=>by simp only[Wg,Option.some.injEq,Prod.mk.injEq]at h;obtain⟨rfl,rfl⟩:=h;exact hD
 | k+1,.tail _,t',L,L',h,hD=>by simp only[Wg,reduceCtorEq]at h
 | k+1,.h _ _,t',L,L',h,hD=>by simp only[Wg,reduceCtorEq]at h
 | k+1,.h2 _ _ _ _,t',L,L',h,hD=>by simp only[Wg,reduceCtorEq]at h
 | k+1,.h3 _ _ _ _ _ _,t',L,L',h,hD=>by simp only[Wg,reduceCtorEq]at h
 | k+1,.q i t,t',L,L',h,hD=>by
  simp only[Wg]at h
  split at h
  ·rename_i d op ty pos af ho
   split at h
   ·rename_i v hv
    cases hd:Qzz d n.n with
    | false=>rw[hd]at h;cases h
    | true=>rw[hd]at h;exact B9 ho (Ad hv) hd (Xp k h hD)
   ·cases h
  ·cases h
theorem BJ[Dr](k:Nat){t t':Tr}{L L':Env}(h:Wg n l k t L=some (t',L'))(hD:D P n l Q t' L' w):D P n l Q t L w:=Xp k h hD
theorem IA[Dr]{f:FuncId}{args:List Operand}{vs:Qq5}{at_:Array TypeId}{v:Value}(ho:HL l i=some ⟨some d,.call ⟨.value (.func f),args.toArray,at_⟩,ty,pos,af,none⟩)(ha:RJ L args=some vs)(hn:Qzz d n.n=true)
  (hok:∀w',Ext w w'->Ok P f vs w' (fun u w''=>Ext w' w''/\u=v)) (h:D P n l Q t ((d,v)::L) w):D P n l Q (.q i t) L w:=fun a fr=>by
 refine⟨_,v,by rw[Gf]at ho;simpa using ho,.inl ⟨by simp[Region.wanted],fun w' hx=>?_⟩,h _ (fr.put hn)⟩;rw[Oo (hok w' hx).1 ha _ fr.Rj];exact⟨Z,(hok w' hx).2.mono fun e w'' ⟨u,he,hx',hu⟩=>⟨by rw[he,hu],hx'⟩⟩
theorem Wh[Dr]{f:FuncId}{args:List Operand}{vs:Qq5}{at_:Array TypeId}{v:Value}{j:Nat}{want b:Bool}{s:Nat}{oj:Oper}(ho:HL l i=some ⟨some d,.call ⟨.value (.func f),args.toArray,at_⟩,ty,pos,af,some (j,want)⟩)
  (hj:HL l j=some oj) (hd:oj.dst=some s) (hb:gt L s=some (.bool b)) (hw:b=want) (ha:RJ L args=some vs) (hn:Qzz d n.n=true)
  (hok:∀w',Ext w w'->Ok P f vs w' (fun u w''=>Ext w' w''/\u=v)) (h:D P n l Q t ((d,v)::L) w):D P n l Q (.q i t) L w:=fun a fr=>by
 have hj':l.toArray[j]? = some oj:=by rw[Gf]at hj;simpa using hj
 have hy:yielded l.toArray a.tmps j=some b:=by simp only[yielded,hj',Qq9,hd,fr.get s _ hb]
 refine⟨_,v,by rw[Gf]at ho;simpa using ho,.inl ⟨by simp[Region.wanted,hy,hw],fun w' hx=>?_⟩,h _ (fr.put hn)⟩;have hrun:=Oo (P:=P) (w:=w') (ty:=ty) (pos:=pos) (af:=af) (at_:=at_) (dst:=some d) (hok w' hx).1 ha _ fr.Rj;have e:execOp a.eval ⟨some d,.call ⟨.value (.func f),args.toArray,at_⟩,ty,pos,af,some (j,want)⟩=execOp a.eval ⟨some d,.call ⟨.value (.func f),args.toArray,at_⟩,ty,pos,af,none⟩:=Z;rw[e,hrun];exact⟨Z,(hok w' hx).2.mono fun e w'' ⟨u,he,hx',hu⟩=>⟨by rw[he,hu],hx'⟩⟩
theorem IQ[Dr]{f:FuncId}{args:List Operand}{vs:Qq5}{at_:Array TypeId}{R:World->Value->World->Prop}(ho:HL l i=some ⟨some d,.call ⟨.value (.func f),args.toArray,at_⟩,ty,pos,af,none⟩)(ha:RJ L args=some vs)(hn:Qzz d n.n=true)
  (hok:∀w',Ext w w'->Ok P f vs w' (fun u w''=>Ext w' w''/\R w' u w'')) (h:∀w' v w'',Ext w w'->Ext w' w''->R w' v w''->D P n l Q t ((d,v)::L) w''):D P n l Q (.h i t) L w:=fun a fr=>by
 refine⟨_,by rw[Gf]at ho;simpa using ho,fun w' hx=>?_⟩;unfold RR;rw[if_pos (by simp[Region.wanted]),Oo (hok w' hx).1 ha _ fr.Rj];exact(hok w' hx).2.mono fun e w'' ⟨v,he,h1,h2⟩=>⟨v,he,w'',hx.trans h1,Ext.refl _,h w' v w'' hx h1 h2 _ (fr.put hn)⟩
theorem Xq[Dr]{R:World->Value->World->Prop}(ho:HL l i=some ⟨some d,op,ty,pos,af,none⟩)(hn:Qzz d n.n=true)
  (hok:∀w',Ext w w'->∀ρ,SE L ρ->∃v w'',(execOp ρ ⟨some d,op,ty,pos,af,none⟩).run P w'=.ok (.value v) w''/\Ext w' w''/\R w' v w'') (h:∀w' v w'',Ext w w'->Ext w' w''->R w' v w''->D P n l Q t ((d,v)::L) w''):D P n l Q (.h i t) L w:=fun a fr=>by
 refine⟨_,by rw[Gf]at ho;simpa using ho,fun w' hx=>?_⟩;obtain⟨v,w'',hrun,h1,h2⟩:=hok w' hx _ fr.Rj;unfold RR;rw[if_pos (by simp[Region.wanted]),hrun];exact⟨w'',hx.trans h1,Ext.refl _,h w' v w'' hx h1 h2 _ (fr.put hn)⟩
theorem U8[Dr](h1:D P n l Q (.h i t) L w)(h2:D P n l Q (.h j u) L w):D P n l Q (.h2 i t j u) L w:=fun a fr=>⟨h1 a fr,h2 a fr⟩
theorem B8[Dr]{k:Nat}(h:∀w',Ext w w'->S P n l.toArray Q (QK k l) L w'):D P n l Q (.tail k) L w:=fun a fr=>fun w' hx=>by
 have:=h w' hx a fr;rw[RU]at this;have e:=wpOps_eq_wpList (P:=P) (ops:=l.toArray) (Q:=Q) (l.drop k) k (fun j=>by simp);rw[List.length_drop]at e
 show wpOps P l.toArray Q (List.range' k (l.toArray.size - k)) a w'
 rw[QxZ,e];exact this
theorem Ic[Dr](s:Nat){b:Bool}(_hb:gt L s=some (.bool b))(h1:b=true->D P n l Q t L w)(h2:b=false->D P n l Q t L w):D P n l Q t L w:=by
 cases b
 ·exact h2 Z
 ·exact h1 Z
theorem Bk{ops:Array Oper}{rest:List Oper}{s:Nat}{b:Bool}(_hb:gt L s=some (.bool b))(h1:b=true->S P n ops Q rest L w)(h2:b=false->S P n ops Q rest L w):S P n ops Q rest L w:=by
 cases b
 ·exact h2 Z
 ·exact h1 Z
theorem Ak[Dr]{c x y:Operand}{b:Bool}{v:Value}[hc:Qqq (ev L c) (some (.bool b))](hb:b=true)(hx:ev L x=some v):Bu P L w (.pick c x y) ty v:=fun w' _ ρ hρ dst pos af g=>by
 subst hb;simp[execOp,hρ c _ hc.e,hρ x _ hx,asBool]
theorem Am[Dr]{c x y:Operand}{b:Bool}{v:Value}[hc:Qqq (ev L c) (some (.bool b))](hb:b=false)(hx:ev L y=some v):Bu P L w (.pick c x y) ty v:=fun w' _ ρ hρ dst pos af g=>by
 subst hb;simp[execOp,hρ c _ hc.e,hρ y _ hx,asBool]
theorem Ag[Dr]{ops:Array Oper}{rest:List Oper}{v:Value}(hr:Bu P L w op ty v)[hn:Qqq (Qzz d n.n) true](h:S P n ops Q rest ((d,v)::L) w):S P n ops Q (⟨some d,op,ty,pos,af,none⟩::rest) L w:=
 E3 hn.e (fun ρ hρ=>hr w (Ext.refl w) ρ hρ _ _ _ _) h
end
end Go.E
end
noncomputable section
namespace Go.E
open Go Go.RowKit
def Zr(P:Program)(t:TypeId)(z:Value)(sz bt:Nat):Prop:=(P.info? t).map (fun i=>(i.zero,i.size,i.bytes))=some (some z,sz,bt)
class Qqx(P:Program)(t:TypeId)(z:outParam Value)(s b:outParam Nat):Prop where e:Zr P t z s b
theorem Zr.parts{P:Program}{t:TypeId}{z:Value}{sz bt:Nat}(h:Zr P t z sz bt):∃i,P.info? t=some i/\i.zero=some z/\i.size=sz/\i.bytes=bt:=by
 unfold Zr at h
 cases hi:P.info? t with
 | none=>rw[hi]at h;cases h
 | some i=>rw[hi]at h;simp at h;exact⟨i,Z,h.1,h.2.1,h.2.2⟩
def NT:TypeDesc->Bool
 | .struct _ | .array _ _=>false
 | _=>true
def Po:TypeDesc->Bool
 | .struct _ | .array _ _=>true
 | _=>false
def D5:List BN->Nat->Option BN
 | [],_=>none
 | r::_,0=>some r
 | _::l,i+1=>D5 l i
def Di:List BN->Nat->BN->List BN
 | [],_,_=>[]
 | _::l,0,s=>s::l
 | r::l,i+1,s=>r::Di l i s
def Mm:List BN->Nat->List BN
 | [],_=>[]
 | _::l,0=>l
 | r::l,i+1=>r::Mm l i
theorem Ff:∀{O:List BN}{i:Nat}{r:BN},D5 O i=some r->O.Perm (r::Mm O i)
 | r::l,0,s,h=>by simp only[D5,Option.some.injEq]at h;subst h;exact List.Perm.refl _
 | r::l,i+1,s,h=>((Ff (O:=l) (i:=i) h).cons r).trans (List.Perm.swap _ _ _)
theorem PK:∀{O:List BN}{i:Nat}{r:BN} (s:BN),D5 O i=some r->(Di O i s).Perm (s::Mm O i)
 | _r::_l,0,_,_s,_h=>List.Perm.refl _
 | r::l,i+1,_,s,h=>((PK (O:=l) (i:=i) s h).cons r).trans (List.Perm.swap _ _ _)
section
variable {w0 w w':World}{O:List BN}{r r':BN}{i:Nat}
theorem AW.at[Dr](h:AW w0 O w)(hi:D5 O i=some r):r.ok w:=h.res r ((Ff hi).mem_iff.2 (.head _))
theorem AW.LU[Dr](h:AW w0 O w)(hi:D5 O i=some r)(hdr:w.drawn<=w'.drawn)(hg:w.grownBy w' r.block)(hok:r'.ok w')(hb:∀b,r'.block=some b->r.block=some b\/w.heap.size<=b):AW w0 (Di O i r') w':=
 ((h.perm (Ff hi).symm).Z4 hdr hg hok hb).perm (PK r' hi)
theorem Hv[Dr](h:AW w0 O w)(hi:D5 O i=some r)(hg:w.grownBy w' r.block)(hb:∀b,r'.block=some b->r.block=some b\/w.heap.size<=b):Le (fz w O) (fz w' (Di O i r')):=by
 rw[Kg (PK r' hi),Kg (Ff hi)];exact We (h.perm (Ff hi).symm) hg hb
theorem AW.AR[Dr](h:AW w0 O w)(hi:D5 O i=some r):AW w0 (Mm O i) w:=(h.perm (Ff hi).symm).drop
theorem Ah(hi:D5 O i=some r):Le (fz w O) (fz w (Mm O i)):=by
 rw[Kg (Ff hi)];exact Wd
theorem PL{k:Nat}(hi:D5 O i=some r)(hb:r.block=some k)(hdis:O.Pairwise fun r s=>∀b,r.block=some b->s.block≠some b):fz w (Mm O i) k=w.heap[k]?:=by
 unfold fz;rw[if_neg];intro ho;obtain⟨s,hs,e⟩:=Dq.1 ho;have:=(Ff hi).pairwise hdis (fun {x y} hxy b hb hx=>hxy b hx hb);exact(QxX.1 this).1 s hs k hb e
end
section
variable {P:Program}{n:Sz}{ops:Array Oper}{Q:Exit->Act->World->Prop}{L:Env}{w w0:World}{O:List BN}{rest:List Oper}
 {d:Nat}{ty:TypeId}{pos:String}{af:Array Edge}{α:Type}{r:Rp α}{H:PH}{x y:Operand}{v:Value}{t e:TypeId}
theorem AT[Dr]{l:List α}[hx:Qqq (ev L x) (some v)][ht:Qqq (P.underlying t) (some (.slice e))](hv:AL r H v l):Bu P L w (.call ⟨.builtin .len,#[x],#[t]⟩) ty (.int .i64 (l.length:Int)):=by
 obtain⟨a,cap,rfl⟩:=hv.header;intro w' _ ρ hρ dst pos af g;simp[execOp,resolve,hρ x _ hx.e,invoke,builtin,Builtin.len_,run_underlying ht.e,goInt]
theorem SI[Dr]{a:Option Addr}{m cap:Nat}(hx:ev L x=some (.slice a m cap))(ht:P.underlying t=some (.slice e)):Bu P L w (.call ⟨.builtin .len,#[x],#[t]⟩) ty (.int .i64 (m:Int)):=by
 intro w' _ ρ hρ dst pos af g;simp[execOp,resolve,hρ x _ hx,invoke,builtin,Builtin.len_,run_underlying ht,goInt]
theorem Lj{b sz m:Nat}{xs:Qq5}(h:w.ownsRow b e sz v m xs):∃a cap,v=.slice a m cap:=by
 rcases h.2 with ⟨rfl,hn⟩ | ⟨g,cap,cur,rfl,_⟩
 ·exact⟨none,0,by rw[hn]⟩
 ·exact⟨_,_,Z⟩
theorem Ng[Dr](i:Nat){sz m:Nat}{xs:Qq5}{e':TypeId}(hx:ev L x=some v)[ht:Qqq (P.underlying t) (some (.slice e))](hL:AW w0 O w)(hi:D5 O i=some (.row v e' sz m xs)):Bu P L w (.call ⟨.builtin .len,#[x],#[t]⟩) ty (.int .i64 (m:Int)):=by
 obtain⟨a,cap,rfl⟩:=Lj (hL.at hi);exact SI hx ht.e
theorem KW{A:Addr}(h:A.spot=none)(i j:Nat):(A.add i).add j=A.add (i+j):=by
 obtain⟨b,o,s⟩:=A
 cases h
 simp[Addr.add_lit,Nat.add_assoc]
theorem LV{A:Addr}(h:A.spot=none)(i:Nat):(A.add i).spot=none:=by
 obtain⟨b,o,s⟩:=A
 cases h
 simp[Addr.add_lit]
theorem CJ.add{p:Addr}{c:Qq5}(h:CJ H p c)(k:Nat):CJ H (p.add k) (c.drop k):=
 ⟨LV h.1 k,fun j u hu=>by rw[KW h.1];exact h.2 (k+j) u (by simpa using hu)⟩
theorem CJ.mono{H':PH}{p:Addr}{c:Qq5}(h:CJ H p c)(hs:Le H H'):CJ H' p c:=⟨h.1,fun j u hu=>JO hs (h.2 j u hu)⟩
theorem AL.ptr{l:List α}(hv:AL r H v l)(m:Nat){z:α}(hl:l[m]? = some z):∃(a:Addr) (cap:Nat) (c:Qq5),v=.slice (some a) l.length cap/\r.rel H z c/\CJ H (a.add (m * r.sz)) c:=by
 obtain⟨a,cap,h1,h2,h3,b,d⟩:=hv.ex;have hlt:m<l.length:=(Qxq.1 hl).1
 cases a with
 | none=>have:=b Z;omega
 | some A=>
  obtain⟨hs,hh⟩:=d A Z (fun e=>by subst e;simp at hlt);obtain⟨c,hc,hcell⟩:=hh m z hl;exact⟨A,cap,c,h1,hc,LV hs _,fun j u hu=>by rw[KW hs];exact hcell j u hu⟩
theorem P4[Dr]{l:List α}{k:IntKind}{i:Int}{zz:Value}{bt:Nat}(hx:ev L x=some v)(hy:ev L y=some (.int k i))(ht:P.underlying t=some (.slice e))(he:Zr P e zz r.sz bt)(hv:AL r H v l)(m:Nat)(hm:i=(m:Int)){z:α}(hl:l[m]? = some z):
  ∃p c,r.rel H z c/\CJ H p c/\∀w,Bu P L w (.indexAddr t x y) ty (.pointer (some p)):=by
 obtain⟨a,cap,c,rfl,hc,hp⟩:=hv.ptr m hl;refine⟨_,c,hc,hp,fun w w' _ ρ hρ dst pos af g=>?_⟩;obtain⟨inf,h1,h2,h3,b⟩:=he.parts;have hlt:m<l.length:=(Qxq.1 hl).1;subst hm;have d:(0:Int)<=(m:Int)/\(m:Int)<(l.length:Int):=by omega
 simp[execOp,hρ x _ hx,hρ y _ hy,Instr.indexAt,asIntOf,run_underlying ht,sizeOf,typeInfo,h1,h3,hlt]
theorem AX[Dr]{p:Addr}{u:Value}{c:Qq5}{dd:TypeDesc}[hx:Qqq (ev L x) (some (.pointer (some p)))][ht:Qqq (P.underlying t) (some dd)][hd:Qqq (NT dd) true](hp':CJ H p (u::c))(hs:Le H (hp w)):Bu P L w (.load t x) ty u:=by
 have hd:=hd.e
 intro w' hw ρ hρ dst pos af g
 have hcell:w'.cell? p=some u:=by
  have:=hp'.2 0 u Qqc;rw[Addr.add_zero']at this;exact cell_of (hs.ext hw) this
 cases dd <;> simp only[NT,Qxj]at hd <;>
  simp[execOp,hρ x _ hx.e,Instr.loadAt,Instr.sureAddr,loadVar,isAgg,run_underlying ht.e,hcell]
theorem run_loadCellsFrom{p:Addr}(w:World):∀(m i:Nat) (c:Qq5) (acc:Array Value),c.length=m->(∀j u,c[j]? = some u->w.cell? (p.add (i+j))=some u)->
  (loadCellsFrom p i m acc).run P w=.ok (acc++c.toArray) w
 | 0,i,c,acc,hl,_=>by
  have:c=[]:=Qz0 hl;subst this;simp[loadCellsFrom]
 | m+1,i,[],acc,hl,_=>by simp at hl
 | m+1,i,u::c,acc,hl,h=>by
  have a:w.cell? (p.add i)=some u:=by simpa using h 0 u Qqc
  have ih:=run_loadCellsFrom w m (i+1) c (acc.push u) (by simpa using hl) (fun j v hv=>by have:=h (j+1) v (by simpa using hv);rwa [show i+(j+1)=i+1+j from by omega]at this);simp[loadCellsFrom,a,ih]
theorem Ce[Dr]{p:Addr}{c:Qq5}{dd:TypeDesc}{zz:Value}{bt:Nat}[hx:Qqq (ev L x) (some (.pointer (some p)))][ht:Qqq (P.underlying t) (some dd)][hd:Qqq (Po dd) true][hz:Qqx P t zz c.length bt](hp':CJ H p c)(hs:Le H (hp w)):Bu P L w (.load t x) ty (.agg c.toArray):=by
 have hd:=hd.e
 intro w' hw ρ hρ dst pos af g;obtain⟨inf,h1,h2,h3,a⟩:=hz.e.parts;have hload:=run_loadCellsFrom (P:=P) (p:=p) w' c.length 0 c #[] Z (fun j u hu=>by rw[Qzd];exact cell_of (hs.ext hw) (hp'.2 j u hu))
 cases dd <;> simp only[Po,Qxj]at hd <;>
  simp[execOp,hρ x _ hx.e,Instr.loadAt,Instr.sureAddr,loadVar,isAgg,run_underlying ht.e,loadCells,sizeOf,typeInfo,h1,h3,hload]
theorem Wi[Dr]{p:Addr}{fs:Array Field}{f:Nat}{fd:Field}{zz:Value}{sz bt:Nat}(hx:ev L x=some (.pointer (some p)))(ht:P.underlying t=some (.struct fs))(hf:fs[f]? = some fd)(hz:Zr P fd.type zz sz bt)(hne:sz≠0):
  Bu P L w (.fieldAddr t x f) ty (.pointer (some (p.add fd.offset))):=by
 intro w' hw ρ hρ dst pos af g;obtain⟨inf,h1,h2,h3,a⟩:=hz.parts;simp[execOp,hρ x _ hx,Instr.fieldAt,run_underlying ht,hf,Instr.sureAddr,fieldPlace,sizeOf,typeInfo,h1,h3,hne]
theorem Af[Dr]{p:Addr}{fs:Array Field}{f:Nat}{fd:Field}{zz:Value}{sz bt:Nat}(hx:ev L x=some (.pointer (some p)))(ht:P.underlying t=some (.struct fs))(hf:fs[f]? = some fd)(hz:Zr P fd.type zz sz bt)(hne:sz≠0:=by decide):
  Bu P L w (.fieldAddr t x f) ty (.pointer (some (p.add fd.offset))):=Wi hx ht hf hz hne
theorem AL.sub{l:List α}(hv:AL r H v l)(lo hi:Nat)(h1:lo<=hi)(h2:hi<=l.length):∃a cap,v=.slice a l.length cap/\AL r H (.slice (if cap=lo then a else a.map (·.add (lo * r.sz))) (hi - lo) (cap - lo)) ((l.drop lo).take (hi - lo)):=by
 obtain⟨a,cap,rfl,h2',h3,b,d⟩:=hv.ex;refine⟨a,cap,Z,?_⟩;have hlen:((l.drop lo).take (hi - lo)).length=hi - lo:=by simp;omega
 refine⟨_,cap - lo,by rw[hlen],by rw[hlen];omega,by omega,?_,?_⟩
 ·intro ha
  split at ha
  ·rename_i e;omega
  ·cases a with
   | none=>have:=b Z;omega
   | some A=>cases ha
 ·intro A hA hne
  have hpos:lo<hi:=by
   rcases QzX lo hi with h | h
   ·exact h
   ·exfalso;apply hne;simp;omega
  rw[if_neg U]at hA
  cases a with
  | none=>cases hA
  | some A0=>
   cases hA
   obtain⟨hs,hh⟩:=d A0 Z (fun e=>by subst e;simp at h2;omega);refine⟨LV hs _,fun i z hz=>?_⟩;rw[QxK]at hz
   split at hz
   ·rw[List.getElem?_drop]at hz;obtain⟨c,hc,hcell⟩:=hh (lo+i) z hz;refine⟨c,hc,fun j u hu=>?_⟩;rw[KW hs,show lo * r.sz+(i * r.sz+j)=(lo+i) * r.sz+j from by rw[QzZ];omega];exact hcell j u hu
   ·cases hz
def YH(L:Env)(lo:Option Operand)(a:Nat):Prop:=match lo with | some o=>∃k,ev L o=some (.int k (a:Int)) | none=>a=0
def Xr(L:Env)(hi:Option Operand)(b m:Nat):Prop:=match hi with | some o=>∃k,ev L o=some (.int k (b:Int)) | none=>b=m
theorem Tq[Dr]{l:List α}{lo hi:Option Operand}{zz:Value}{bt:Nat}(hx:ev L x=some v)(ht:P.underlying t=some (.slice e))(he:Zr P e zz r.sz bt)(hv:AL r H v l)(a b:Nat)
  (ha:YH L lo a) (hb:Xr L hi b l.length) (h1:a<=b) (h2:b<=l.length) :
  ∃v',AL r H v' ((l.drop a).take (b - a))/\∀w,Bu P L w (.slice t x lo hi none) ty v':=by
 obtain⟨A,cap,d,hsub⟩:=hv.sub a b h1 h2;refine⟨_,hsub,fun w w' _ ρ hρ dst pos af g=>?_⟩;obtain⟨inf,c,s,i,u⟩:=he.parts;obtain⟨A',cap',j,n,o,p,q⟩:=hv.ex;have hcc:cap=cap':=by rw[d]at j;cases j;rfl
 have hbc:b<=cap:=by omega
 subst d;have y:(b:Int)<=(cap:Int):=by omega
 have z:(a:Int)<=(b:Int):=by omega
 cases lo with
 | none=>
  simp only[YH]at ha;subst ha
  cases hi with
  | none=>
   simp only[Xr]at hb;subst hb;simp[execOp,hρ x _ hx,Instr.sliceAt,run_underlying ht,Instr.slice,Instr.sliceBounds,sizeOf,typeInfo,c]
  | some f=>
   obtain⟨m,hb⟩:=hb;simp[execOp,hρ x _ hx,hρ f _ hb,Instr.sliceAt,run_underlying ht,Instr.slice,Instr.sliceBounds,Instr.sliceBound,asIntOf,sizeOf,typeInfo,c,hbc]
 | some k=>
  obtain⟨k1,ha⟩:=ha
  cases hi with
  | none=>
   simp only[Xr]at hb;subst hb;simp[execOp,hρ x _ hx,hρ k _ ha,Instr.sliceAt,run_underlying ht,Instr.slice,Instr.sliceBounds,Instr.sliceBound,asIntOf,sizeOf,typeInfo,c,i,h1]
  | some f=>
   obtain⟨m,hb⟩:=hb;simp[execOp,hρ x _ hx,hρ k _ ha,hρ f _ hb,Instr.sliceAt,run_underlying ht,Instr.slice,Instr.sliceBounds,Instr.sliceBound,asIntOf,sizeOf,typeInfo,c,i,hbc,h1]
theorem getD_some{β:Type}[Inhabited β]{l:List β}{m:Nat}(h:m<l.length):l[m]? = some (l.getD m Qq1):=by simp[h]
theorem Bf[Dr][Inhabited α]{l:List α}{k:IntKind}{i:Int}{zz:Value}{bt:Nat}[hx:Qqq (ev L x) (some v)][hy:Qqq (ev L y) (some (.int k i))][ht:Qqq (P.underlying t) (some (.slice e))][he:Qqx P e zz r.sz bt](hv:AL r H v l)(m:Nat)(hm:i=(m:Int))(hlt:m<l.length)[hn:Qqq (Qzz d n.n) true]
  (h:∀p c,r.rel H (l.getD m Qq1) c->CJ H p c->S P n ops Q rest ((d,.pointer (some p))::L) w):S P n ops Q (⟨some d,.indexAddr t x y,ty,pos,af,none⟩::rest) L w:=by
 obtain⟨p,c,h1,h2,h3⟩:=P4 (P:=P) (ty:=ty) hx.e hy.e ht.e he.e hv m hm (getD_some hlt);exact Ag (h3 w) (hn:=⟨hn.e⟩) (h p c h1 h2)
theorem Fl[Dr][Inhabited α]{lo:List Oper}{ix:Nat}{tr:Tr}{l:List α}{k:IntKind}{i:Int}{zz:Value}{bt:Nat}(ho:HL lo ix=some ⟨some d,.indexAddr t x y,ty,pos,af,none⟩)(hx:ev L x=some v)(hy:ev L y=some (.int k i))(ht:P.underlying t=some (.slice e))[he:Qqx P e zz r.sz bt](hv:AL r H v l)(m:Nat)(hm:i=(m:Int))(hlt:m<l.length)(hn:Qzz d n.n=true)
  (h:∀p c,r.rel H (l.getD m Qq1) c->CJ H p c->D P n lo Q tr ((d,.pointer (some p))::L) w):D P n lo Q (.q ix tr) L w:=by
 obtain⟨p,c,h1,h2,h3⟩:=P4 (P:=P) (ty:=ty) hx hy ht he.e hv m hm (getD_some hlt);exact B9 ho (h3 w) hn (h p c h1 h2)
theorem HM[Dr][Inhabited α]{lo:List Oper}{ix:Nat}{tr:Tr}{l:List α}{k:IntKind}{i:Int}{zz:Value}{bt j s:Nat}{want b:Bool}{oj:Oper}(ho:HL lo ix=some ⟨some d,.indexAddr t x y,ty,pos,af,some (j,want)⟩)(hj:HL lo j=some oj)(hd:oj.dst=some s)(hb:gt L s=some (.bool b))(hw:b=want)
  (hx:ev L x=some v) (hy:ev L y=some (.int k i)) (ht:P.underlying t=some (.slice e)) [he:Qqx P e zz r.sz bt] (hv:AL r H v l) (m:Nat) (hm:i=(m:Int)) (hlt:m<l.length) (hn:Qzz d n.n=true)
  (h:∀p c,r.rel H (l.getD m Qq1) c->CJ H p c->D P n lo Q tr ((d,.pointer (some p))::L) w):D P n lo Q (.q ix tr) L w:=by
 obtain⟨p,c,h1,h2,h3⟩:=P4 (P:=P) (ty:=ty) hx hy ht he.e hv m hm (getD_some hlt);exact CE ho (h3 w) hj hd hb hw hn (h p c h1 h2)
theorem Rl[Dr]{l:List α}{lo hi:Option Operand}{zz:Value}{bt:Nat}(hx:ev L x=some v)(ht:P.underlying t=some (.slice e))(he:Zr P e zz r.sz bt)(hv:AL r H v l)(a b:Nat)
  (ha:YH L lo a) (hb:Xr L hi b l.length) (hab:a<=b/\b<=l.length) (hn:Qzz d n.n=true)
  (h:∀v',AL r H v' ((l.drop a).take (b - a))->S P n ops Q rest ((d,v')::L) w):S P n ops Q (⟨some d,.slice t x lo hi none,ty,pos,af,none⟩::rest) L w:=by
 obtain⟨v',h1,h2⟩:=Tq (P:=P) (ty:=ty) hx ht he hv a b ha hb hab.1 hab.2;exact Ag (h2 w) (hn:=⟨hn⟩) (h v' h1)
theorem Rm[Dr]{lop:List Oper}{ix:Nat}{tr:Tr}{l:List α}{lo hi:Option Operand}{zz:Value}{bt:Nat}(ho:HL lop ix=some ⟨some d,.slice t x lo hi none,ty,pos,af,none⟩)(hx:ev L x=some v)(ht:P.underlying t=some (.slice e))(he:Zr P e zz r.sz bt)(hv:AL r H v l)(a b:Nat)
  (ha:YH L lo a) (hb:Xr L hi b l.length) (hab:a<=b/\b<=l.length) (hn:Qzz d n.n=true)
  (h:∀v',AL r H v' ((l.drop a).take (b - a))->D P n lop Q tr ((d,v')::L) w):D P n lop Q (.q ix tr) L w:=by
 obtain⟨v',h1,h2⟩:=Tq (P:=P) (ty:=ty) hx ht he hv a b ha hb hab.1 hab.2;exact B9 ho (h2 w) hn (h v' h1)
theorem AL.one{l:List α}(h:AL r H v l):v.oneCell'=true:=by obtain⟨a,c,rfl⟩:=h.header;rfl
end
end Go.E
namespace Go.E
open Go Go.RowKit
theorem Mx:∀u∈([]:Qq5),u.oneCell'=true:=fun _ h=>by cases h
theorem BP{v:Value}{l:Qq5}(hv:v.oneCell'=true)(hl:∀u∈l,u.oneCell'=true):∀u∈v::l,u.oneCell'=true:=fun u hu=>by
 cases hu with
 | head=>exact hv
 | tail _ h=>exact hl u h
theorem BT{l:Qq5}(h:l.map Value.oneCell'=l.map fun _=>true):∀u∈l,u.oneCell'=true:=by
 induction l with
 | nil=>exact Mx
 | cons v l ih=>exact BP (List.cons.inj h).1 (ih (List.cons.inj h).2)
theorem Ej[Dr](w:World)(o:Obj):Ext w (w.alloc o):=⟨(Below.refl _ _).alloc (Qzx _) o,fun _=>Qzx _⟩
theorem RV[Dr]{w w':World}(hd:w.drawn<=w'.drawn)(h:w.grownBy w' none):Ext w w':=⟨⟨h.os,h.tape,h.output,h.size,fun k hk=>h.block k hk Qqc⟩,fun _=>hd⟩
def RW:Qq5->Nat->Value->Qq5
 | [],_,_=>[]
 | _::l,0,v=>v::l
 | u::l,i+1,v=>u::RW l i v
theorem Rn:∀(l:Qq5) (i:Nat) (v:Value),RW l i v=l.set i v
 | [],_,_=>by simp[RW]
 | _::_,0,_=>by simp[RW]
 | _::l,i+1,v=>by simp[RW,Rn l i v]
section
variable {P:Program}{n:Sz}{ops:Array Oper}{Q:Exit->Act->World->Prop}{L:Env}{w w0:World}{O:List BN}{rest:List Oper}
 {d:Nat}{ty:TypeId}{pos:String}{af:Array Edge}{α:Type}{r:Rp α}{H:PH}{x y:Operand}{v:Value}{t e:TypeId}
theorem QL{z:Value}{sz bt:Nat}(hz:Zr P t z sz bt)(w:World)(ρ:Operand->Value)(o:Oper)(ho:o.op=.alloc t):(execOp ρ o).run P w=.ok (.value (.pointer (some ⟨w.heap.size,0,none⟩))) (w.alloc (.cells z.cells t)):=by
 obtain⟨inf,h1,h2,h3,a⟩:=hz.parts;simp[execOp,ho,Instr.alloc,zeroValue,typeInfo,h1,h2,newVar,newRow]
theorem Ro[Dr]{cs:Qq5}(hL:AW w0 O w):AW w0 (.box w.heap.size cs t::O) (w.alloc (.cells cs.toArray t)):=
 hL.new (Ej _ _) (heap_alloc_new w _) (fun b hb=>by cases hb;exact Qzx _)
theorem OF[Dr]{cs:Qq5}(hL:AW w0 O w):Le (fz w O) (fz (w.alloc (.cells cs.toArray t)) (.box w.heap.size cs t::O)):=
 PG hL (Ej _ _) (fun b hb=>by cases hb;exact Qzx _)
theorem AZ[Dr]{z:Value}{sz bt:Nat}{cs:Qq5}(hz:Zr P t z sz bt)(hc:z.cells.toList=cs)[hn:Qqq (Qzz d n.n) true](hL:AW w0 O w)
  (h:∀w' b,AW w0 (.box b cs t::O) w'->Le (fz w O) (fz w' (.box b cs t::O))->Ext w w'->S P n ops Q rest ((d,.pointer (some ⟨b,0,none⟩))::L) w'):S P n ops Q (⟨some d,.alloc t,ty,pos,af,none⟩::rest) L w:=by
 subst hc;refine E3 hn.e (fun ρ _=>QL hz w ρ _ Z) ?_;have e:(Obj.cells z.cells t:Obj)=.cells z.cells.toList.toArray t:=by simp
 rw[e];exact h _ _ (Ro hL) (OF hL) (Ej _ _)
theorem Cj[Dr]{cs:Qq5}(hx:ev L x=some v)(hc:v.cells.toList=cs)[hn:Qqq (Qzz d n.n) true](hL:AW w0 O w)
  (h:∀w' b,AW w0 (.box b cs t::O) w'->Le (fz w O) (fz w' (.box b cs t::O))->Ext w w'->S P n ops Q rest ((d,.pointer (some ⟨b,0,none⟩))::L) w'):S P n ops Q (⟨some d,.box t x,ty,pos,af,none⟩::rest) L w:=by
 subst hc;refine E3 (v:=.pointer (some ⟨w.heap.size,0,none⟩)) (w':=w.alloc (.cells v.cells t)) hn.e (fun ρ hρ=>by simp[execOp,hρ x _ hx,Instr.box,newVar,newRow]) ?_;have e:(Obj.cells v.cells t:Obj)=.cells v.cells.toList.toArray t:=by simp
 rw[e];exact h _ _ (Ro hL) (OF hL) (Ej _ _)
theorem Bo[Dr]{i b:Nat}{cs:Qq5}{t':TypeId}(hL:AW w0 O w)(hi:D5 O i=some (.box b cs t')):CJ (hp w) ⟨b,0,none⟩ cs:=
 ⟨Z,fun j u hu=>by
  have:=hL.at hi;rw[Addr.add_lit,Qzd,RO,cell_of_row w b j _ _ _ this]
  simpa using hu⟩
theorem PM:∀(cs:Qq5) (o:Nat) (u:Value),nth cs o=some u->∃c,cs.drop o=u::c
 | _::cs,0,u,h=>by simp only[nth,Option.some.injEq]at h;subst h;exact⟨cs,Z⟩
 | _::cs,o+1,u,h=>PM cs o u h
theorem U9[Dr](i:Nat){b off:Nat}{cs:Qq5}{t':TypeId}{u:Value}{dd:TypeDesc}(hx:ev L x=some (.pointer (some ⟨b,off,none⟩)))(ht:P.underlying t=some dd)(hd:NT dd=true)(hL:AW w0 O w)(hi:D5 O i=some (.box b cs t'))(hu:nth cs off=some u):Bu P L w (.load t x) ty u:=by
 obtain⟨c,hc⟩:=PM cs off u hu;have h1:=(Bo hL hi).add off;rw[hc,Addr.add_lit,Qzd]at h1;exact AX (hx:=⟨hx⟩) (ht:=⟨ht⟩) (hd:=⟨hd⟩) h1 (Le.refl _)
theorem Ae[Dr](i:Nat){b off:Nat}{cs:Qq5}{t':TypeId}{u:Value}{dd:TypeDesc}(hx:ev L x=some (.pointer (some ⟨b,off,none⟩)))[ht:Qqq (P.underlying t) (some dd)][hd:Qqq (NT dd) true](hL:AW w0 O w)(hp:(D5 O i,nth cs off)=(some (.box b cs t'),some u)):Bu P L w (.load t x) ty u:=by
 simp only[Prod.mk.injEq]at hp;exact U9 i hx ht.e hd.e hL hp.1 hp.2
theorem Ax[Dr](i:Nat){b:Nat}{cs:Qq5}{t':TypeId}{dd:TypeDesc}{zz:Value}{bt:Nat}(hx:ev L x=some (.pointer (some ⟨b,0,none⟩)))[ht:Qqq (P.underlying t) (some dd)][hd:Qqq (Po dd) true](hz:Zr P t zz cs.length bt)(hL:AW w0 O w)(hi:D5 O i=some (.box b cs t')):Bu P L w (.load t x) ty (.agg cs.toArray):=
 Ce (hx:=⟨hx⟩) (ht:=⟨ht.e⟩) (hd:=⟨hd.e⟩) (hz:=⟨hz⟩) (Bo hL hi) (Le.refl _)
theorem Mn(w:World)(g:Nat)(cur cs:Array Value)(t:TypeId)(hg:w.heap[g]? = some (.cells cur t (0,0))):(w.setRow g cs).heap[g]? = some (.cells cs t (0,0)):=setRow_heap w g cur cs t (0,0) hg
theorem Lk(w:World)(g:Nat)(cs:Array Value):w.grownBy (w.setRow g cs) (some g):=
 ⟨Z,Z,Z,by simp,fun k _ hk=>setRow_other w g k _ (fun e=>hk (by simp[e]))⟩
theorem QM[Dr](i:Nat){b:Nat}{cs vs:Qq5}{t':TypeId}{zz:Value}{bt:Nat}(hx:ev L x=some (.pointer (some ⟨b,0,none⟩)))(hy:ev L y=some v)(hc:v.cells.toList=vs)(hz:Zr P t zz vs.length bt)(hL:AW w0 O w)(hi:D5 O i=some (.box b cs t'))(hlen:cs.length=vs.length)(h1:∀u∈vs,u.oneCell'=true)
  (h:∀w',AW w0 (Di O i (.box b vs t')) w'->Le (fz w O) (fz w' (Di O i (.box b vs t')))->S P n ops Q rest L w'):S P n ops Q (⟨none,.store t x y,ty,pos,af,none⟩::rest) L w:=by
 subst hc;obtain⟨inf,a,d,c,f⟩:=hz.parts;have hb:w.heap[b]? = some (.cells cs.toArray t' (0,0)):=hL.at hi;have hst:=run_storeCells_at P b 0 t' v.cells.toList 0 cs.toArray w hb (by simp at hlen ⊢;omega) h1;simp only[Qzd,List.take_zero,List.nil_append]at hst;have hdrop:cs.drop v.cells.toList.length=[]:=by simp at hlen ⊢;omega
 simp only[hdrop,List.append_nil,Array.toArray_toList]at hst;have hsz:v.cells.size=inf.size:=by rw[c];simp
 refine PC (w':=w.setRow b v.cells) (fun ρ hρ=>by
  simp[execOp,hρ x _ hx,hρ y _ hy,Instr.storeAt,Instr.sureAddr,storeVar,sizeOf,typeInfo,a,hsz,hst]) ?_
 have hg:=Lk w b v.cells
 have hok:BN.ok (w.setRow b v.cells) (.box b v.cells.toList t'):=by
  show(w.setRow b v.cells).heap[b]? = _
  simpa using Mn w b cs.toArray v.cells t' hb
 exact h _ (hL.LU hi (Qzx _) hg hok (fun b' e=>.inl e)) (Hv hL hi hg (fun b' e=>.inl e))
theorem A7[Dr](i:Nat){b:Nat}{cs vs:Qq5}{t':TypeId}{zz:Value}{bt:Nat}(hq:(ev L x,ev L y,v.cells.toList)=(some (.pointer (some ⟨b,0,none⟩)),some v,vs))[hz:Qqx P t zz vs.length bt](hL:AW w0 O w)(hp:(D5 O i,cs.length)=(some (.box b cs t'),vs.length))
  (h:∀w',AW w0 (Di O i (.box b vs t')) w'->Le (fz w O) (fz w' (Di O i (.box b vs t')))->S P n ops Q rest L w')(h1:∀u∈vs,u.oneCell'=true:=by exact BT Z):S P n ops Q (⟨none,.store t x y,ty,pos,af,none⟩::rest) L w:=by
 simp only[Prod.mk.injEq]at hq hp;exact QM i hq.1 hq.2.1 hq.2.2 hz.e hL hp.1 hp.2 h1 h
theorem AY[Dr](i:Nat){b off:Nat}{cs:Qq5}{t':TypeId}{zz:Value}{bt:Nat}(hx:ev L x=some (.pointer (some ⟨b,off,none⟩)))(hy:ev L y=some v)(hv:v.oneCell'=true)[hz:Qqx P t zz 1 bt](hL:AW w0 O w)(hi:D5 O i=some (.box b cs t'))(hlt:Qzz off cs.length=true)
  (h:∀w',AW w0 (Di O i (.box b (RW cs off v) t')) w'->Le (fz w O) (fz w' (Di O i (.box b (RW cs off v) t')))->S P n ops Q rest L w'):S P n ops Q (⟨none,.store t x y,ty,pos,af,none⟩::rest) L w:=by
 obtain⟨inf,a,d,c,f⟩:=hz.e.parts;have hb:w.heap[b]? = some (.cells cs.toArray t' (0,0)):=hL.at hi;have hlt':=Na hlt;have hvc:v.cells = #[v]:=by cases v <;> simp_all [Value.cells,Value.oneCell']
 have hst:=run_storeCells_at P b off t' [v] 0 cs.toArray w hb (by simp;omega) (by simpa using hv);have hcell:w.cell? ⟨b,off,none⟩=some cs[off]:=by rw[cell_of_row w b off _ _ _ hb];simp[hlt']
 have hfz:w.frozen? ⟨b,off,none⟩=false:=frozen_of_row w b off _ _ hb
 refine PC (w':=w.setCell ⟨b,off,none⟩ v) (fun ρ hρ=>by
  simp[execOp,hρ x _ hx,hρ y _ hy,Instr.storeAt,Instr.sureAddr,storeVar,sizeOf,typeInfo,a,c,hvc,storeCells,run_store,hv,Addr.add_zero',hcell,hfz]) ?_
 have hsame:=heap_setCell_same w b off cs.toArray t' v hb;have hg:w.grownBy (w.setCell ⟨b,off,none⟩ v) (some b):=⟨Z,Z,Z,by simp,fun k _ hk=>heap_setCell_other w ⟨b,off,none⟩ k v (fun e=>hk (by simp[e]))⟩
 have hok:BN.ok (w.setCell ⟨b,off,none⟩ v) (.box b (RW cs off v) t'):=by
  show(w.setCell ⟨b,off,none⟩ v).heap[b]? = _
  rw[hsame,Rn];simp
 exact h _ (hL.LU hi (Qzx _) hg hok (fun b' e=>.inl e)) (Hv hL hi hg (fun b' e=>.inl e))
theorem Bv[Dr]{f:FuncId}{args:List Operand}{vs:Qq5}{at_:Array TypeId}{R:Value->World->Prop}[ha:Qqq (RJ L args) (some vs)][hn:Qqq (Qzz d n.n) true](hL:AW w0 O w)(hok:Ok P f vs w (fun v w'=>Ext w w'/\R v w'))
  (h:∀v w',R v w'->Ext w w'->AW w0 O w'->Le (fz w O) (fz w' O)->S P n ops Q rest ((d,v)::L) w'):S P n ops Q (⟨some d,.call ⟨.value (.func f),args.toArray,at_⟩,ty,pos,af,none⟩::rest) L w:=
 BO (ha:=⟨ha.e⟩) (hn:=⟨hn.e⟩) hok fun v w' ⟨hx,hR⟩=>h v w' hR hx (hL.call hx) (Bd hL hx)
theorem A6[Dr]{f:FuncId}{args:List Operand}{vs:Qq5}{at_:Array TypeId}{v:Value}[ha:Qqq (RJ L args) (some vs)][hn:Qqq (Qzz d n.n) true](hL:AW w0 O w)(hok:Ok P f vs w (fun u w'=>Ext w w'/\u=v))
  (h:∀w',Ext w w'->AW w0 O w'->Le (fz w O) (fz w' O)->S P n ops Q rest ((d,v)::L) w'):S P n ops Q (⟨some d,.call ⟨.value (.func f),args.toArray,at_⟩,ty,pos,af,none⟩::rest) L w:=
 Bv (R:=fun u _=>u=v) (ha:=⟨ha.e⟩) (hn:=⟨hn.e⟩) hL hok fun u w' hu hx h1 h2=>by subst hu;exact h w' hx h1 h2
def Wj(L:Env):List (Nat×Operand)->Option (List (Nat×Value))
 | []=>some []
 | (i,x)::l=>match ev L x,Wj L l with
  | some v,some vs=>some ((i,v)::vs)
  | _,_=>none
theorem SE.Wk{ρ:Operand->Value}(h:SE L ρ):∀(l:List (Nat×Operand)) (vs:List (Nat×Value)),Wj L l=some vs->l.map (fun(i,x)=>(i,ρ x))=vs
 | [],vs,e=>by simp only[Wj,Option.some.injEq]at e;simpa using e
 | (i,x)::l,vs,e=>by
  unfold Wj at e
  split at e
  ·rename_i v us h1 h2;cases e;simp[h x v h1,SE.Wk h l us h2]
  ·cases e
theorem B7[Dr]{ps:List (Nat×Operand)}{vs:List (Nat×Value)}{u:Value}[hp:Qqq (Wj L ps) (some vs)](hr:∀w,(Instr.build t vs.toArray).run P w=.ok u w):Bu P L w (.build t ps.toArray) ty u:=by
 intro w' _ ρ hρ dst pos af g;have e:=hρ.Wk _ _ hp.e;have e':(ps.toArray.map fun(i,x)=>(i,ρ x))=vs.toArray:=by rw[<- e];simp
 simp[execOp,e',hr w',-List.map_toArray]
def Src(H:PH)(sz:Nat)(v:Value)(m:Nat)(news:Qq5):Prop:=
 news.length=m * sz/\∃a cap,v=.slice a m cap/\m<=cap/\cap<=maxLen/\(a=none->cap=0)/\∀A,a=some A->m≠0->A.spot=none/\∀j u,news[j]? = some u->I6 H (A.add j)=some u
theorem Src.mono{H':PH}{sz m:Nat}{news:Qq5}(h:Src H sz v m news)(hs:Le H H'):Src H' sz v m news:=by
 obtain⟨h1,a,cap,h2,h3,c,d,b⟩:=h;exact⟨h1,a,cap,h2,h3,c,d,fun A hA hm=>⟨(b A hA hm).1,fun j u hu=>JO hs ((b A hA hm).2 j u hu)⟩⟩
theorem AL.elems{l:List α}(hv:AL r H v l):∃news,A5 r H l news/\Src H r.sz v l.length news:=by
 obtain⟨a,cap,h1,h2,h3,e,f⟩:=hv.ex
 cases a with
 | none=>
  have:l.length=0:=by have:=e Z;omega
  have:l=[]:=Qz0 this;subst this;exact⟨[],.nil,by simp,none,cap,h1,h2,h3,e,fun A hA=>by cases hA⟩
 | some A=>
  by_cases hl:l=[]
  ·subst hl;exact⟨[],.nil,by simp,some A,cap,h1,h2,h3,e,fun _ _ hm=>absurd Z hm⟩
  obtain⟨hs,hh⟩:=f A Z hl
  have key:∀(m:List α) (k:Nat),(∀i x,m[i]? = some x->∃c,r.rel H x c/\∀j u,c[j]? = some u->I6 H (A.add ((k+i) * r.sz+j))=some u)->
    ∃news,A5 r H m news/\∀j u,news[j]? = some u->I6 H (A.add (k * r.sz+j))=some u:=by
   intro m
   induction m with
   | nil=>intro k _;exact⟨[],.nil,fun j u hu=>by cases hu⟩
   | cons x m ih=>
    intro k hm;obtain⟨c,hc,hcell⟩:=hm 0 x Qqc;obtain⟨news,b,d⟩:=ih (k+1) (fun i y hy=>by have:=hm (i+1) y (by simpa using hy);rwa [show k+(i+1)=k+1+i from by omega]at this);refine⟨c++news,.cons hc b,fun j u hu=>?_⟩
    rcases QzX j c.length with hj | hj
    ·rw[List.getElem?_append_left hj]at hu;have:=hcell j u hu
     rwa [Nat.add_zero]at this
    ·rw[List.getElem?_append_right hj]at hu;have:=d _ u hu;rw[r.len hc]at this hj;rw[show k * r.sz+j=(k+1) * r.sz+(j - r.sz)from by rw[QzZ];omega];exact this
  obtain⟨news,b,d⟩:=key l 0 (fun i x hx=>by rw[Qzd];exact hh i x hx);refine⟨news,b,b.len,some A,cap,h1,h2,h3,e,fun A' hA' _=>?_⟩
  cases hA'
  exact⟨hs,fun j u hu=>by have:=d j u hu;rwa [Qxx,Qzd]at this⟩
theorem SJ{l:List α}{news:Qq5}(he:A5 r H l news)(h:Src H r.sz v l.length news):AL r H v l:=by
 obtain⟨h1,a,cap,h2,h3,b,d,f⟩:=h;refine⟨a,cap,h2,h3,b,d,fun A hA hl=>?_⟩;obtain⟨hs,hh⟩:=f A hA (fun e=>hl (Qz0 e));refine⟨hs,fun i x hx=>?_⟩;obtain⟨c,hc,hcell⟩:=he.at i x hx;exact⟨c,hc,fun j u hu=>hh _ u (hcell j u hu)⟩
theorem SK[Dr]{i sz bt m k:Nat}{zz u:Value}{xs news:Qq5}(ht:P.underlying t=some (.slice e))(hz:Zr P e zz sz bt)(hzs:zz.cells.size=sz)(hsz:0<sz)(hL:AW w0 O w)(hi:D5 O i=some (.row v e sz m xs))(hs:Src (hp w) sz u k news)(h1:∀c∈news,c.oneCell'=true)
  (hby:(m+k) * bt<=140737488355328) (hm:m+k<=9223372036854775807) :
  ∃v' w',(Builtin.append_ #[t,t] ty #[v,u]).run P w=.ok v' w'/\AW w0 (Di O i (.row v' e sz (m+k) (xs++news))) w'/\Le (fz w O) (fz w' (Di O i (.row v' e sz (m+k) (xs++news)))):=by
 obtain⟨inf,f,l,n,o⟩:=hz.parts;have hown:w.ownsRow 0 e sz v m xs:=hL.at hi;obtain⟨hl,a,cap,hu,s,x,p,q⟩:=hs;have r:m+k<=maxLen:=by unfold maxLen;omega
 have fin:∀v' w',w.drawn<=w'.drawn->w'.ownsRow 0 e sz v' (m+k) (xs++news)->w.grownBy w' v.ownBlock->(∀b,v'.ownBlock=some b->v.ownBlock=some b\/w.heap.size<=b)->
   AW w0 (Di O i (.row v' e sz (m+k) (xs++news))) w'/\Le (fz w O) (fz w' (Di O i (.row v' e sz (m+k) (xs++news)))):=fun v' w' hdr h2 h3 hb=>
  ⟨hL.LU hi hdr h3 h2 hb,Hv (r':=.row v' e sz (m+k) (xs++news)) hL hi h3 hb⟩
 by_cases h:k=0
 ·subst h;have hn:news=[]:=Qz0 (by simpa using hl);subst hn;refine⟨v,w,?_,?_⟩
  ·obtain⟨va,vc,rfl⟩:=Lj hown
   have hle:m<=vc:=by
    rcases hown.2 with ⟨he,hn⟩ | ⟨g,cap,cur,he,_,_,hnc,_⟩
    ·cases he;omega
    ·cases he;exact hnc
   subst hu
   cases a with
   | none=>cases va <;> simp[Builtin.append_,run_underlying ht,sizeOf,typeInfo,f,Builtin.lenOf,Builtin.firstCells,hle,storeCells]
   | some A=>cases va <;> simp[Builtin.append_,run_underlying ht,sizeOf,typeInfo,f,Builtin.lenOf,Builtin.firstCells,hle,storeCells,loadCells,loadCellsFrom]
  ·have:=fin v w (Qzx _) (by simpa using hown) (World.grownBy.refl w _) (fun b hb=>.inl hb);exact this
 ·cases a with
  | none=>have:=p Z;omega
  | some A=>
   subst hu;obtain⟨hspot,hcell⟩:=q A Z h;obtain⟨v',w',hr,h2,h3,y⟩:=run_append_own (P:=P) w 0 t ty e inf zz sz bt ht f l n o hzs hsz v m xs hown A k cap news hl (fun j c hc=>hcell j c hc) h1 r hby (Qzb _);refine⟨v',w',hr,fin v' w' (OE _ _ _ _ hr) h2 h3 fun b hb=>?_⟩;subst n;subst o
   rcases hown.2 with ⟨rfl,rfl⟩ | ⟨g,cp,cur,rfl,hbg,hg,hnc,hcm,hcs,htake⟩
   ·have d:=run_append_nil (P:=P) w t ty e inf zz ht f l A k cap news hl (fun j c hc=>hcell j c hc) U U (by simp only[Qzd]at hby;omega);rw[hr]at d;simp only[Result.ok.injEq]at d;rw[d.1]at hb
    right;cases hb;exact Qzx _
   ·by_cases hroom:m+k<=cp
    ·have hfit:m * inf.size+news.length<=cur.size:=by rw[hl,hcs,<- QzZ];exact Nat.mul_le_mul_right _ hroom
     have d:=run_append_room (P:=P) w t ty e inf ht f g m cp cur hg A k cap news hl (fun j c hc=>hcell j c hc) h1 hroom hfit;rw[hr]at d;simp only[Result.ok.injEq]at d;rw[d.1]at hb
     left;exact hb
    ·have holds:∀j u,xs[j]? = some u->w.cell? ((⟨g,0,none⟩:Addr).add j)=some u:=hown.cells (g:=g) Z;have d:=run_append_grow (P:=P) w t ty e inf zz ht f l ⟨g,0,none⟩ m cp xs hown.1 holds A k cap news hl (fun j c hc=>hcell j c hc) U U (growslice_fits U hby);rw[hr]at d;simp only[Result.ok.injEq]at d;rw[d.1]at hb
     right;cases hb;exact Qzx _
theorem UA[Dr](i:Nat){sz bt m k:Nat}{zz u:Value}{xs news:Qq5}(hx:ev L x=some v)(hy:ev L y=some u)(ht:P.underlying t=some (.slice e))(hz:Zr P e zz sz bt)(hzs:zz.cells.size=sz)(hsz:0<sz)(hn:Qzz d n.n=true)(hL:AW w0 O w)(hi:D5 O i=some (.row v e sz m xs))(hs:Src (hp w) sz u k news)(h1:∀c∈news,c.oneCell'=true)
  (hby:(m+k) * bt<=140737488355328/\m+k<=9223372036854775807)
  (h:∀v' w',AW w0 (Di O i (.row v' e sz (m+k) (xs++news))) w'->Le (fz w O) (fz w' (Di O i (.row v' e sz (m+k) (xs++news))))->S P n ops Q rest ((d,v')::L) w') :
  S P n ops Q (⟨some d,.call ⟨.builtin .append,#[x,y],#[t,t]⟩,ty,pos,af,none⟩::rest) L w:=by
 obtain⟨v',w',hr,hL',hle⟩:=SK (ty:=ty) ht hz hzs hsz hL hi hs h1 hby.1 hby.2;refine E3 (v:=v') (w':=w') hn (fun ρ hρ=>?_) (h v' w' hL' hle);simp[execOp,resolve,invoke,builtin,hρ x _ hx,hρ y _ hy,hr]
theorem M4[Dr]{w':World}{sz m:Nat}{xs:Qq5}(hL:AW w0 O w)(hx:Ext w w')(ho:w'.ownsRow w.heap.size e sz v m xs):AW w0 (.row v e sz m xs::O) w'/\Le (fz w O) (fz w' (.row v e sz m xs::O)):=by
 have hb:∀b,BN.block (.row v e sz m xs)=some b->w.heap.size<=b:=fun b hb=>(ho.lt b hb).1;exact⟨hL.new hx (M0 ho (fun _ _=>Qzb _)) hb,PG hL hx hb⟩
theorem Ts[Dr](hL:AW w0 O w)(e:TypeId)(sz:Nat):AW w0 (.row (.slice none 0 0) e sz 0 []::O) w/\Le (fz w O) (fz w (.row (.slice none 0 0) e sz 0 []::O)):=
 M4 hL (Ext.refl w) (World.ownsRow_nil w _ e sz)
theorem XK[Dr]{bt m:Nat}{k k':IntKind}{zz:Value}{c c':Int}(hx:ev L x=some (.int k c))(hy:ev L y=some (.int k' c'))(hcc:c=m/\c'=m)(ht:P.underlying t=some (.slice e))(hz:Zr P e zz 1 bt)(hzc:zz.cells = #[zz])(hn:Qzz d n.n=true)(hL:AW w0 O w)(hm:bt * m<=281474976710656/\m<=9223372036854775807)
  (h:∀v' w',Ext w w'->AW w0 (.row v' e 1 m (Qzw m zz)::O) w'->Le (fz w O) (fz w' (.row v' e 1 m (Qzw m zz)::O))->S P n ops Q rest ((d,v')::L) w') :
  S P n ops Q (⟨some d,.makeSlice t x y,ty,pos,af,none⟩::rest) L w:=by
 obtain⟨inf,a,b,f,g⟩:=hz.parts;obtain⟨rfl,rfl⟩:=hcc;obtain⟨w',hr,ho,hg⟩:=run_make_full (P:=P) w w.heap.size t e inf zz 1 ht a b f k k' m (by rw[g];exact hm.1) (by unfold maxLen;omega) (Qzx _);rw[hzc,Qzy,toList_madeCells_one]at ho;have hx':=RV (OE _ _ _ _ hr) hg;obtain⟨h1,h2⟩:=M4 hL hx' ho;exact E3 hn (fun ρ hρ=>by simp[execOp,hρ x _ hx,hρ y _ hy,hr]) (h _ _ hx' h1 h2)
theorem Xs[Dr]{ps:List (Nat×Operand)}{vs:List (Nat×Value)}{len sz:Nat}{cs:Qq5}(hp':Wj L ps=some vs)(hr:∀w,(Instr.buildSlice t len vs.toArray).run P w=.ok (.slice (some ⟨w.heap.size,0,none⟩) len len) (w.alloc (.cells cs.toArray e)))(hc:cs.length=len * sz)(hlen:len<=9223372036854775807)(hn:Qzz d n.n=true)(hL:AW w0 O w)
  (h:∀u w',Ext w w'->AW w0 O w'->Le (fz w O) (fz w' O)->Src (nw w w') sz u len cs->w'.ownsRow w.heap.size e sz u len cs->S P n ops Q rest ((d,u)::L) w') :
  S P n ops Q (⟨some d,.buildSlice t len ps.toArray,ty,pos,af,none⟩::rest) L w:=by
 have hx:=Ej w (.cells cs.toArray e);refine E3 hn (fun ρ hρ=>?_) (h _ _ hx (hL.call hx) (Bd hL hx) ⟨hc,some ⟨w.heap.size,0,none⟩,len,Z,Qzx _,by unfold maxLen;omega,(fun e=>by cases e),fun A hA _=>?_⟩ ?_)
 ·have a:=hρ.Wk _ _ hp';have e':(ps.toArray.map fun(i,x)=>(i,ρ x))=vs.toArray:=by rw[<- a];simp
  simp[execOp,e',hr w,-List.map_toArray]
 ·cases hA
  refine⟨Z,fun j u hu=>?_⟩;simp only[Addr.add_lit,Qzd,I6,nw,Qzx,if_true,heap_alloc_new]
  simpa using hu
 ·have:=World.ownsRow_lit (base:=w.heap.size) (e:=e) (size:=sz) w cs.toArray len (Qzx _) (by unfold maxLen;omega) (by simpa using hc)
  simpa using this
def J0(v:Value)(k:Nat)(p:Addr):Prop:=v.ownBlock=some p.block/\p.off=k/\p.spot=none
theorem RX[Dr](i:Nat){sz bt m:Nat}{zz:Value}{xs:Qq5}{k:IntKind}{c:Int}(hx:ev L x=some v)(hy:ev L y=some (.int k c))(ht:P.underlying t=some (.slice e))(hz:Zr P e zz sz bt)(hL:AW w0 O w)(hi:D5 O i=some (.row v e sz m xs))(j:Nat)(hj:c=(j:Int))(hlt:j<m):
  ∃p,J0 v (j * sz) p/\∀w,Bu P L w (.indexAddr t x y) ty (.pointer (some p)):=by
 obtain⟨inf,a,d,b,f⟩:=hz.parts;have hown:w.ownsRow 0 e sz v m xs:=hL.at hi
 rcases hown.2 with ⟨rfl,rfl⟩ | ⟨g,cp,cur,rfl,hbg,hg,hnc,hcm,hcs,htake⟩
 ·omega
 ·subst hj;refine⟨⟨g,j * sz,none⟩,⟨Z,Z,Z⟩,fun w w' _ ρ hρ dst pos af gd=>?_⟩;have l:(0:Int)<=(j:Int)/\(j:Int)<(m:Int):=by omega
  simp[execOp,hρ x _ hx,hρ y _ hy,Instr.indexAt,asIntOf,run_underlying ht,sizeOf,typeInfo,a,b,hlt,Addr.add_lit]
theorem Ck[Dr](i:Nat){sz bt m:Nat}{zz:Value}{xs:Qq5}{k:IntKind}{c:Int}(hx:ev L x=some v)[hy:Qqq (ev L y) (some (.int k c))](ht:P.underlying t=some (.slice e))(hz:Zr P e zz sz bt)(hL:AW w0 O w)(hi:D5 O i=some (.row v e sz m xs))(j:Nat)(hj:c=(j:Int))(hlt:j<m)[hn:Qqq (Qzz d n.n) true]
  (h:∀p,J0 v (j * sz) p->S P n ops Q rest ((d,.pointer (some p))::L) w):S P n ops Q (⟨some d,.indexAddr t x y,ty,pos,af,none⟩::rest) L w:=by
 obtain⟨p,h1,h2⟩:=RX (P:=P) (ty:=ty) i hx hy.e ht hz hL hi j hj hlt;exact Ag (h2 w) (hn:=⟨hn.e⟩) (h p h1)
theorem Oq[Dr]{lo:List Oper}{ix:Nat}{tr:Tr}(i:Nat){sz bt m:Nat}{zz:Value}{xs:Qq5}{k:IntKind}{c:Int}(ho:HL lo ix=some ⟨some d,.indexAddr t x y,ty,pos,af,none⟩)(hx:ev L x=some v)(hy:ev L y=some (.int k c))(ht:P.underlying t=some (.slice e))(hz:Zr P e zz sz bt)(hL:AW w0 O w)(hi:D5 O i=some (.row v e sz m xs))(j:Nat)(hj:c=(j:Int))(hlt:j<m)(hn:Qzz d n.n=true)
  (h:∀p,J0 v (j * sz) p->D P n lo Q tr ((d,.pointer (some p))::L) w):D P n lo Q (.q ix tr) L w:=by
 obtain⟨p,h1,h2⟩:=RX (P:=P) (ty:=ty) i hx hy ht hz hL hi j hj hlt;exact B9 ho (h2 w) hn (h p h1)
theorem PN[Dr]{i sz m k:Nat}{xs:Qq5}{p:Addr}{u:Value}{e':TypeId}(hL:AW w0 O w)(hi:D5 O i=some (.row v e' sz m xs))(hp':J0 v k p)(hu:xs[k]? = some u):w.cell? p=some u:=by
 have hown:w.ownsRow 0 e' sz v m xs:=hL.at hi;obtain⟨h1,h2,h3⟩:=hp';obtain⟨b,o,s⟩:=p;simp only at h1 h2 h3;subst h2;subst h3;have hc:=hown.cells h1 o u hu
 rwa [Addr.add_lit,Qzd]at hc
theorem Ie[Dr](i:Nat){sz m k:Nat}{xs:Qq5}{p:Addr}{u:Value}{dd:TypeDesc}{e':TypeId}[hx:Qqq (ev L x) (some (.pointer (some p)))][ht:Qqq (P.underlying t) (some dd)][hd:Qqq (NT dd) true](hL:AW w0 O w)[hi:Qqq (D5 O i) (some (.row v e' sz m xs))](hp':J0 v k p)(hu:xs[k]? = some u):Bu P L w (.load t x) ty u:=by
 have hd:=hd.e
 intro w' hw ρ hρ dst pos af g;have hcell:=PN (hL.call hw) hi.e hp' hu
 cases dd <;> simp only[NT,Qxj]at hd <;>
  simp[execOp,hρ x _ hx.e,Instr.loadAt,Instr.sureAddr,loadVar,isAgg,run_underlying ht.e,hcell]
theorem PO[Dr](i:Nat){sz bt m k:Nat}{zz u:Value}{xs:Qq5}{p:Addr}{e':TypeId}(hx:ev L x=some (.pointer (some p)))(hy:ev L y=some u)(hv:u.oneCell'=true)(hz:Zr P t zz 1 bt)(hL:AW w0 O w)(hi:D5 O i=some (.row v e' sz m xs))(hp':J0 v k p)(hlt:k<xs.length)
  (h:∀w',AW w0 (Di O i (.row v e' sz m (xs.set k u))) w'->Le (fz w O) (fz w' (Di O i (.row v e' sz m (xs.set k u))))->S P n ops Q rest L w'):S P n ops Q (⟨none,.store t x y,ty,pos,af,none⟩::rest) L w:=by
 obtain⟨inf,a,d,c,f⟩:=hz.parts;have hown:w.ownsRow 0 e' sz v m xs:=hL.at hi;have hcell:=PN hL hi hp' (List.getElem?_eq_getElem hlt);obtain⟨h1,h2,h3⟩:=hp';obtain⟨b,o,s⟩:=p;simp only at h1 h2 h3;subst h2;subst h3
 rcases hown.2 with ⟨rfl,rfl⟩ | ⟨g,cp,cur,rfl,hbg,hg,hnc,hcm,hcs,htake⟩
 ·simp[Value.ownBlock]at h1
 ·simp only[Value.ownBlock,Option.some.injEq]at h1;subst h1;have hst:=hown.stored o u;have hfz:w.frozen? ⟨g,o,none⟩=false:=hown.frozenAt o;have hvc:u.cells = #[u]:=by cases u <;> simp_all [Value.cells,Value.oneCell']
  refine PC (w':=w.setCell ⟨g,o,none⟩ u) (fun ρ hρ=>by
   simp[execOp,hρ x _ hx,hρ y _ hy,Instr.storeAt,Instr.sureAddr,storeVar,sizeOf,typeInfo,a,c,hvc,storeCells,run_store,hv,Addr.add_zero',hcell,hfz]) ?_
  exact h _ (hL.LU hi (by rw[drawn_setCell];exact Qzx _) hst.2 hst.1 (fun b e=>.inl e)) (Hv (r':=.row (.slice (some ⟨g,0,none⟩) m cp) e' sz m (xs.set o u)) hL hi hst.2 (fun b e=>.inl e))
theorem AW.Z5[Dr]{i:Nat}{l:List α}{xs:Qq5}{e':TypeId}(hL:AW w0 O w)(hi:D5 O i=some (.row v e' r.sz l.length xs))(he:A5 r (fz w O) l xs):AL r (hp w) v l:=
 M1 (hL.at hi) he (U5 w O) (fun _k _ _o ho=>ho)
theorem Own.take[Dr]{w':World}{l:List α}(hL:AW w0 O w)(hx:Ext w w')(h:Own e r w w' v l):∃xs,AW w0 (.row v e r.sz l.length xs::O) w'/\Le (fz w O) (fz w' (.row v e r.sz l.length xs::O))/\A5 r (fz w' (.row v e r.sz l.length xs::O)) l xs:=by
 obtain⟨xs,h1,h2⟩:=h;obtain⟨h3,a⟩:=M4 hL hx h1;exact⟨xs,h3,a,h2.mono (RP hL)⟩
end
theorem row_one{w:World}{v:Value}{e:TypeId}{sz n:Nat}{xs:Qq5}(h:BN.ok w (.row v e sz n xs)):v.oneCell'=true:=by
 obtain⟨a,c,rfl⟩:=Lj (b:=0) h;rfl
theorem UB{α:Type}{r:Rp α}{f:α->Value}(hf:∀H x c,r.rel H x c->c=[f x]){H:PH}{l:List α}{xs:Qq5}(h:A5 r H l xs):xs=l.map f:=by
 induction h with
 | nil=>rfl
 | cons h _ ih=>rw[hf _ _ _ h,ih];rfl
def bv(b:UInt8):Value:=.int .u8 (b.toNat:Int)
theorem RY{H:PH}{l:Qq3}{xs:Qq5}(h:A5 Rp.byte H l xs):xs=l.map bv:=UB (fun _ _ _ h=>h) h
def nf(w0 w:World)(O:List BN):PH:=fun b=>if w0.heap.size<=b then fz w O b else none
theorem Wl{w0 w w':World}{O O':List BN}(h:Le (fz w O) (fz w' O')):Le (nf w0 w O) (nf w0 w' O'):=fun b o e=>by
 unfold nf at e ⊢
 split at e
 ·rename_i hb;rw[if_pos hb];exact h b o e
 ·cases e
theorem Xt{w0 w:World}{O:List BN}:Le (nf w0 w O) (fz w O):=fun b o e=>by
 unfold nf at e
 split at e
 ·exact e
 ·cases e
theorem Xu{w0 w:World}{O:List BN}:Le (nf w0 w O) (nw w0 w):=fun b o e=>by
 unfold nf at e
 split at e
 ·rename_i hb;unfold nw;rw[if_pos hb];exact U5 w O b o e
 ·cases e
theorem YO[Dr]{w0 w w':World}{O:List BN}(h:AW w0 O w):Le (nw w w') (nf w0 w' O):=fun b o e=>by
 have h1:=Xo (w':=w') h b o e;unfold nw at e
 split at e
 ·rename_i hb;unfold nf;rw[if_pos (Qz2 h.ext.size hb)];exact h1
 ·cases e
theorem XL{w0 w:World}{O:List BN}{i:Nat}{v:Value}{e:TypeId}{sz n:Nat}{xs:Qq5}(hi:D5 O i=some (.row v e sz n xs)):Le (nf w0 w O) (NM w0 w v):=fun b o h=>by
 have h1:=Xu b o h;have h2:=Xt b o h;unfold NM;rw[if_neg]
 ·exact h1
 ·intro hb;unfold fz at h2;rw[if_pos (Dq.2 ⟨_,(Ff hi).mem_iff.2 (.head _),hb⟩)]at h2
  cases h2
theorem G8(b:UInt8):IntKind.i64.wrap (b.toNat:Int)=(b.toNat:Int):=by
 have:=b.toNat_lt;exact wrap64 U U
section
variable {P:Program}{n:Sz}{ops:Array Oper}{Q:Exit->Act->World->Prop}{L:Env}{w w0:World}{O:List BN}{rest:List Oper}
 {d:Nat}{ty:TypeId}{pos:String}{af:Array Edge}{α:Type}{r:Rp α}{H:PH}{x y:Operand}{v:Value}{t t' e:TypeId}
theorem Q7[Dr]{op:BinOp}{k:IntKind}{a b c s:Int}(hx:ev L x=some (.int k a))(hy:ev L y=some (.int k b))(ho:YM op a b=some c)(hw:k.wrap c=s):Bu P L w (.binOp op t x y t') ty (.int k s):=by
 intro w' _ ρ hρ dst pos af g;subst hw
 cases op <;> simp only[YM,Option.some.injEq,reduceCtorEq]at ho <;> subst ho <;>
  simp[execOp,hρ x _ hx,hρ y _ hy,eqGuard,binOp,Op.intArith]
theorem XM[Dr]{op:BinOp}{a b c:Int}(hx:ev L x=some (.int .i64 a))(hy:ev L y=some (.int .i64 b))(ho:YM op a b=some c)(h1 : -9223372036854775808<=c/\c<=9223372036854775807):Bu P L w (.binOp op t x y t') ty (.int .i64 c):=
 Q7 hx hy ho (wrap64 h1.1 h1.2)
theorem AA[Dr]{op:BinOp}{a b c:Int}[hq:Qqq (ev L x,ev L y,YM op a b) ((some (.int .i64 a),some (.int .i64 b),some c))](h1 : -9223372036854775808<=c/\c<=9223372036854775807):Bu P L w (.binOp op t x y t') ty (.int .i64 c):=by
 have hq:=hq.e
 simp only[Prod.mk.injEq]at hq;exact XM hq.1 hq.2.1 hq.2.2 h1
theorem Sa[Dr]{a b:Int}[hx:Qqq (ev L x) (some (.int .i64 a))][hy:Qqq (ev L y) (some (.int .i64 b))](h1:0<=a/\a<=9223372036854775807/\0<b):Bu P L w (.binOp .quo t x y t') ty (.int .i64 (a / b)):=by
 intro w' _ ρ hρ dst pos af g;have hb:b≠0:=by omega
 have⟨c,d⟩:=VY h1.1 h1.2.2;simp[execOp,hρ x _ hx.e,hρ y _ hy.e,eqGuard,binOp,Op.intDiv,hb,U3 h1.1,wrap64 (x:=a / b) U U]
theorem Tt[Dr]{a b:Int}{k:IntKind}(hx:ev L x=some (.int k a))(hy:ev L y=some (.int k b))(h1:0<=a/\0<b):Bu P L w (.binOp .rem t x y t') ty (.int k (a % b)):=by
 intro w' _ ρ hρ dst pos af g;have hb:b≠0:=by omega
 simp[execOp,hρ x _ hx,hρ y _ hy,eqGuard,binOp,Op.intDiv,hb,U4 h1.1]
theorem EA[Dr]{k k':IntKind}{a s:Int}{u:TypeDesc}[hs:Qqq (P.underlying t) (some u)][ht:Qqq (P.underlying t') (some (.int k))][hx:Qqq (ev L x) (some (.int k' a))](hw:k.wrap a=s):Bu P L w (.convert t t' x) ty (.int k s):=by
 intro w' _ ρ hρ dst pos af g;subst hw;simp[execOp,hρ x _ hx.e,convert,run_underlying hs.e,run_underlying ht.e,Conv.intToInt]
def YP:BinOp->UInt8->UInt8->Option UInt8
 | .xor,a,b=>some (a ^^^ b)
 | .and,a,b=>some (a &&& b)
 | .or,a,b=>some (a ||| b)
 | _,_,_=>none
theorem ofInt8(a:UInt8):Qze 8 (a.toNat:Int)=a.toBitVec:=by
 apply BitVec.eq_of_toNat_eq;have:=a.toNat_lt;simp
theorem SN[Dr]{op:BinOp}{a b c:UInt8}(hx:ev L x=some (.int .u8 (a.toNat:Int)))(hy:ev L y=some (.int .u8 (b.toNat:Int)))(ho:YP op a b=some c):Bu P L w (.binOp op t x y t') ty (.int .u8 (c.toNat:Int)):=by
 intro w' _ ρ hρ dst pos af g;have hc:=c.toNat_lt
 cases op <;> simp only[YP,Option.some.injEq,reduceCtorEq]at ho <;> subst ho
 ·have e:(Op.intBits .and .u8 (a.toNat:Int) (b.toNat:Int)).run P w'=.ok (.int .u8 ((a &&& b).toNat:Int)) w':=by
   show Result.ok (Value.int .u8 (IntKind.u8.wrap ((Qze 8 (a.toNat:Int) &&& Qze 8 (b.toNat:Int)).toNat:Int))) w'=_
   rw[ofInt8,ofInt8,show(a.toBitVec &&& b.toBitVec).toNat=(a &&& b).toNat from Z,SH U U]
  simp only[execOp,hρ x _ hx,hρ y _ hy,eqGuard,binOp,Sem.run_bind,ne_eq,not_true_eq_false,if_false,Qxu,if_true,Sem.run_pure,Result.andThen_ok,e]
 ·have e:(Op.intBits .or .u8 (a.toNat:Int) (b.toNat:Int)).run P w'=.ok (.int .u8 ((a ||| b).toNat:Int)) w':=by
   show Result.ok (Value.int .u8 (IntKind.u8.wrap ((Qze 8 (a.toNat:Int) ||| Qze 8 (b.toNat:Int)).toNat:Int))) w'=_
   rw[ofInt8,ofInt8,show(a.toBitVec ||| b.toBitVec).toNat=(a ||| b).toNat from Z,SH U U]
  simp only[execOp,hρ x _ hx,hρ y _ hy,eqGuard,binOp,Sem.run_bind,ne_eq,not_true_eq_false,if_false,Qxu,if_true,Sem.run_pure,Result.andThen_ok,e]
 ·have e:(Op.intBits .xor .u8 (a.toNat:Int) (b.toNat:Int)).run P w'=.ok (.int .u8 ((a ^^^ b).toNat:Int)) w':=by
   show Result.ok (Value.int .u8 (IntKind.u8.wrap ((Qze 8 (a.toNat:Int) ^^^ Qze 8 (b.toNat:Int)).toNat:Int))) w'=_
   rw[ofInt8,ofInt8,show(a.toBitVec ^^^ b.toBitVec).toNat=(a ^^^ b).toNat from Z,SH U U]
  simp only[execOp,hρ x _ hx,hρ y _ hy,eqGuard,binOp,Sem.run_bind,ne_eq,not_true_eq_false,if_false,Qxu,if_true,Sem.run_pure,Result.andThen_ok,e]
def UC:BinOp->Nat->Nat->Option Nat
 | .xor,a,b=>some (a ^^^ b)
 | .and,a,b=>some (a &&& b)
 | .or,a,b=>some (a ||| b)
 | _,_,_=>none
theorem Wm[Dr]{op:BinOp}{a b c:Nat}{p q:Int}(hx:ev L x=some (.int .i64 p))(hy:ev L y=some (.int .i64 q))(hpa:p=a)(hqb:q=b)(ho:UC op a b=some c)(ha:a<2 ^ 63)(hb:b<2 ^ 63):Bu P L w (.binOp op t x y t') ty (.int .i64 (c:Int)):=by
 intro w' _ ρ hρ dst pos af g;subst hpa;subst hqb;have ea:(Qze 64 (a:Int)).toNat=a:=by simp;omega
 have eb:(Qze 64 (b:Int)).toNat=b:=by simp;omega
 cases op <;> simp only[UC,Option.some.injEq,reduceCtorEq]at ho <;> subst ho
 ·have hlt:a &&& b<2 ^ 63:=Nat.and_lt_two_pow _ hb
  have e:(Op.intBits .and .i64 (a:Int) (b:Int)).run P w'=.ok (.int .i64 ((a &&& b:Nat):Int)) w':=by
   show Result.ok (Value.int .i64 (IntKind.i64.wrap ((Qze 64 (a:Int) &&& Qze 64 (b:Int)).toNat:Int))) w'=_
   rw[BitVec.toNat_and,ea,eb,wrap64 U U]
  simp only[execOp,hρ x _ hx,hρ y _ hy,eqGuard,binOp,Sem.run_bind,ne_eq,not_true_eq_false,if_false,Qxu,if_true,Sem.run_pure,Result.andThen_ok,e]
 ·have hlt:a ||| b<2 ^ 63:=Nat.or_lt_two_pow ha hb
  have e:(Op.intBits .or .i64 (a:Int) (b:Int)).run P w'=.ok (.int .i64 ((a ||| b:Nat):Int)) w':=by
   show Result.ok (Value.int .i64 (IntKind.i64.wrap ((Qze 64 (a:Int) ||| Qze 64 (b:Int)).toNat:Int))) w'=_
   rw[BitVec.toNat_or,ea,eb,wrap64 U U]
  simp only[execOp,hρ x _ hx,hρ y _ hy,eqGuard,binOp,Sem.run_bind,ne_eq,not_true_eq_false,if_false,Qxu,if_true,Sem.run_pure,Result.andThen_ok,e]
 ·have hlt:a ^^^ b<2 ^ 63:=Nat.xor_lt_two_pow ha hb
  have e:(Op.intBits .xor .i64 (a:Int) (b:Int)).run P w'=.ok (.int .i64 ((a ^^^ b:Nat):Int)) w':=by
   show Result.ok (Value.int .i64 (IntKind.i64.wrap ((Qze 64 (a:Int) ^^^ Qze 64 (b:Int)).toNat:Int))) w'=_
   rw[BitVec.toNat_xor,ea,eb,wrap64 U U]
  simp only[execOp,hρ x _ hx,hρ y _ hy,eqGuard,binOp,Sem.run_bind,ne_eq,not_true_eq_false,if_false,Qxu,if_true,Sem.run_pure,Result.andThen_ok,e]
theorem Sb[Dr]{k k':IntKind}{a s m:Int}{c:Nat}[hx:Qqq (ev L x) (some (.int k a))][hy:Qqq (ev L y) (some (.int k' (c:Int)))][hm:Qqq ((2:Int) ^ c) m](hc:c<=k.bits)(hw:k.wrap (a * m)=s):Bu P L w (.binOp .shl t x y t') ty (.int k s):=by
 have hm:=hm.e
 intro w' _ ρ hρ dst pos af g;subst hm;subst hw;have : ¬((c:Int)<0):=by omega
 simp[execOp,hρ x _ hx.e,hρ y _ hy.e,eqGuard,binOp,Op.shift,this,Nat.min_eq_left hc]
theorem Ot[Dr]{k k':IntKind}{a m:Int}{c:Nat}(hx:ev L x=some (.int k a))(hy:ev L y=some (.int k' (c:Int)))(hm:(2:Int) ^ c=m)(hc:c<=k.bits):Bu P L w (.binOp .shr t x y t') ty (.int k (a / m)):=by
 intro w' _ ρ hρ dst pos af g;subst hm;have : ¬((c:Int)<0):=by omega
 have e:a.fdiv (2 ^ c)=a / 2 ^ c:=Int.fdiv_eq_ediv_of_nonneg a (by exact Int.le_of_lt (Int.pow_pos Qqb));simp[execOp,hρ x _ hx,hρ y _ hy,eqGuard,binOp,Op.shift,this,Nat.min_eq_left hc,e]
theorem Xv[Dr]{xs ys:Array Value}{q:Bool}[hx:Qqq (ev L x) (some (.agg xs))][hy:Qqq (ev L y) (some (.agg ys))](hg:P.eqGuardType P.depth t=false)(he:∀w,(Op.equalIn 10000 t (.agg xs) (.agg ys)).run P w=.ok q w):Bu P L w (.binOp .eql t x y t') ty (.bool q):=by
 intro w' _ ρ hρ dst pos af g;simp[execOp,hρ x _ hx.e,hρ y _ hy.e,run_eqGuard_agg w' .eql t x y xs ys hg,run_eql_struct,he w']
theorem MP[Dr]{xs ys:Array Value}{q:Bool}[hx:Qqq (ev L x) (some (.agg xs))][hy:Qqq (ev L y) (some (.agg ys))](hg:P.eqGuardType P.depth t=false)(he:∀w,(Op.equalIn 10000 t (.agg xs) (.agg ys)).run P w=.ok q w):Bu P L w (.binOp .neq t x y t') ty (.bool (!q)):=by
 intro w' _ ρ hρ dst pos af g;simp[execOp,hρ x _ hx.e,hρ y _ hy.e,run_eqGuard_agg w' .neq t x y xs ys hg,run_neq_struct,he w']
theorem XN {f0 f1 : Field}{d f : IntKind} (ht : P.underlying t = some (.struct (P.fieldsOf t))) (hp : P.stoodInHeld t = false) (hf : (P.fieldsOf t).toList = [f0, f1]) (g : f0.name ≠ "_" /\ f0.offset = 0) (h1 : f1.name ≠ "_" /\ f1.offset = 1)
  (h:P.underlying f0.type=some (.int d)) (i:P.underlying f1.type=some (.int f)) (a b c e:Int) (w:World) :
  (Op.equalIn 10000 t (.agg #[.int d a,.int f b]) (.agg #[.int d c,.int f e])).run P w=.ok (decide (a=c/\b=e)) w:=by
 rw[run_equalIn_struct w 9999 t _ _ ht hp,hf]
 have key:∀dd:Nat,(Op.eqFields (dd+1) #[.int d a,.int f b] #[.int d c,.int f e] [f0,f1]).run P w=.ok (decide (a=c/\b=e)) w:=by
  intro dd
  by_cases j:a=c <;> by_cases k:b=e <;>
   simp[Op.eqFields,g.1,h1.1,g.2,h1.2,part,isAgg,run_underlying h,run_underlying i,run_equalIn_int w dd _ _ _ _ _ h,run_equalIn_int w dd _ _ _ _ _ i,j,k]
 exact key 9998
theorem foldl_push:∀(l:Qq3) (s:ByteArray),(l.map (fun b=>((b.toNat:Nat):Int))).foldl (fun r n=>r.push (Qzv n.toNat)) s=⟨s.data++l.toArray⟩
 | [],s=>by simp
 | b::l,s=>by
  rw[List.map_cons,List.foldl_cons,foldl_push l];simp[ByteArray.push]
theorem Tu[Dr]{l:Qq3}[hx:Qqq (ev L x) (some v)][ht:Qqq (P.underlying t) (some (.slice e))][he:Qqq (P.underlying e) (some (.int .u8))][ht':Qqq (P.underlying t') (some .string)](hv:AL .byte H v l)(hs:Le H (hp w)):Bu P L w (.convert t t' x) ty (.string ⟨l.toArray⟩):=by
 intro w' hw ρ hρ dst pos af g;obtain⟨news,c,d⟩:=hv.elems;obtain rfl:=RY c;obtain⟨h1,a,cap,rfl,h3,k,f,i⟩:=d
 cases a with
 | none=>
  have:l.length=0:=by have:=f Z;omega
  have:l=[]:=Qz0 this;subst this;simp[execOp,hρ x _ hx.e,run_convert_bytes_string w' t t' e none _ cap ht.e he.e ht'.e,Conv.bytesToString]
  rfl
 | some A=>
  have hload:(loadCells A l.length).run P w'=.ok ((l.map (fun b=>((b.toNat:Nat):Int))).map (Value.int .u8)).toArray w':=by
   by_cases hl:l.length=0
   ·have:l=[]:=Qz0 hl;subst this;simp[loadCells,loadCellsFrom]
   ·have:=run_loadCellsFrom (P:=P) (p:=A) w' l.length 0 (l.map bv) #[] Qqc (fun j u hu=>by rw[Qzd];exact cell_of (hs.ext hw) ((i A Z hl).2 j u hu));unfold loadCells;rw[this];simp[bv,Function.comp_def]
  have hb:=run_bytesToString w' A l.length cap _ hload;rw[foldl_push]at hb;simp[execOp,hρ x _ hx.e,run_convert_bytes_string w' t t' e (some A) _ cap ht.e he.e ht'.e,hb]
theorem Ll[Dr]{l m:Qq3}(hx:ev L x=some (.string ⟨l.toArray⟩))(hy:ev L y=some (.string ⟨m.toArray⟩)):Bu P L w (.binOp .eql t x y t') ty (.bool (decide (l=m))):=by
 intro w' _ ρ hρ dst pos af g;have e:(l==m)=decide (l=m):=by rw[Bool.eq_iff_iff];simp
 simp[execOp,hρ x _ hx,hρ y _ hy,eqGuard,binOp,Op.stringOp,e]
theorem TV{f:FuncId}{args:List Operand}{vs:Qq5}{at_:Array TypeId}{dst:Option Tmp}{cap:Qq5}{fo:Operand}(hc:Mk P f)(hf:ev L fo=some (.func (.func f) #[] cap.toArray))(ha:RJ L args=some vs)(ρ:Operand->Value)(hρ:SE L ρ):
  (execOp ρ ⟨dst,.call ⟨.value fo,args.toArray,at_⟩,ty,pos,af,none⟩).run P w=.ok (.enter f (vs++cap).toArray) w:=by
 obtain ⟨fn, c, h1, h2, h3⟩ := hc;have a := hρ.map _ _ ha;have h2' : ¬fn.name = "runtime.NumGoroutine" := by simpa using h2
 simp[execOp,resolve,hρ fo _ hf,Deferred.ofValue,a,invoke,callFunc,h1,h2',h3]
theorem BU{f:FuncId}{args:List Operand}{vs:Qq5}{at_:Array TypeId}{cap:Qq5}{fo:Operand}{R:Value->World->Prop}(hf:ev L fo=some (.func (.func f) #[] cap.toArray))(ha:RJ L args=some vs)[hn:Qqq (Qzz d n.n) true](hok:Ok P f (vs++cap) w R)
  (h:∀v w',R v w'->S P n ops Q rest ((d,v)::L) w'):S P n ops Q (⟨some d,.call ⟨.value fo,args.toArray,at_⟩,ty,pos,af,none⟩::rest) L w:=
 TS Z fun a fr=>by
  unfold Oper.wp;rw[TV hok.1 hf ha _ fr.Rj];refine hok.2.mono fun e w' ⟨v,he,hv⟩=>?_;subst he;exact h v w' hv _ (fr.put hn.e)
inductive Rr (P:Program) (L:Env) (w:World):ResultVar->Value->Prop
 | tmp {t:Nat}{v:Value} (h:gt L t=some v):Rr P L w (.tmp t) v
 | cell {s t:Nat}{b:Nat}{cs:Qq5}{zz:Value}{bt:Nat}{dd:TypeDesc} (h:gt L s=some (.pointer (some ⟨b,0,none⟩))) (ht:P.underlying t=some dd) (hd:Po dd=true) (hz:Zr P t zz cs.length bt) (hp':CJ (hp w) ⟨b,0,none⟩ cs):Rr P L w (.cell s t) (.agg cs.toArray)
def OG(tmps:Array Value):ResultVar->Sem Value
 | .tmp t=>pure (tmps.getD t undef)
 | .cell a t=>do loadVar t (<- asAddr (tmps.getD a undef))
theorem HN(fn:Func)(tmps:Array Value):results fn tmps=(do let vs <- fn.results.mapM (OG tmps);pure (if h:vs.size=1 then vs[0]else .tuple vs)):=by
 unfold results
 congr 1
theorem Rr.run{a:Act}{q:ResultVar}(fr:Fr n a L)(h:Rr P L w q v):(OG a.tmps q).run P w=.ok v w:=by
 cases h with
 | tmp h=>have:=fr.get _ _ h;simp[OG,Qz9,this]
 | cell h ht hd hz hp'=>
  rename_i s t b cs zz bt dd;have:=fr.get _ _ h;obtain⟨inf,c,e,d,f⟩:=hz.parts;have hload:=run_loadCellsFrom (P:=P) (p:=⟨b,0,none⟩) w cs.length 0 cs #[] Z (fun j u hu=>by rw[Qzd];exact hp'.2 j u hu)
  cases dd <;> simp only[Po,Qxj]at hd <;>
   simp[OG,Qz9,this,asAddr,loadVar,isAgg,run_underlying ht,loadCells,sizeOf,typeInfo,c,d,hload]
theorem DO{k₀:Nat}{fn:Func}{R:Value->World->Prop}{q:ResultVar}[hl:Qqq fn.results (#[q])](h:Rr P L w q v)(hR:R v w):At ⟨k₀,[]⟩ (Ml P fn R) .ret L w:=
 fun a fr=>⟨fr.defers,v,by rw[HN,hl.e];simp[h.run fr],v,Z,hR⟩
theorem IS{k₀:Nat}{fn:Func}{R:Value->World->Prop}{q q':ResultVar}{v':Value}[hl:Qqq fn.results (#[q,q'])](h:Rr P L w q v)(h':Rr P L w q' v')(hR:R (.tuple #[v,v']) w):At ⟨k₀,[]⟩ (Ml P fn R) .ret L w:=
 fun a fr=>⟨fr.defers,_,by rw[HN,hl.e];simp[h.run fr,h'.run fr],_,Z,hR⟩
theorem P5{k₀:Nat}{fn:Func}{R:Value->World->Prop}{q q' q'':ResultVar}{v' v'':Value}[hl:Qqq fn.results (#[q,q',q''])](h:Rr P L w q v)(h':Rr P L w q' v')(h'':Rr P L w q'' v'')(hR:R (.tuple #[v,v',v'']) w):At ⟨k₀,[]⟩ (Ml P fn R) .ret L w:=
 fun a fr=>⟨fr.defers,_,by rw[HN,hl.e];simp[h.run fr,h'.run fr,h''.run fr],_,Z,hR⟩
theorem Wn{k₀:Nat}{fn:Func}{R:Value->World->Prop}[hl:Qqq fn.results (#[])](hR:R (.tuple #[]) w):At ⟨k₀,[]⟩ (Ml P fn R) .ret L w:=
 fun _a fr=>⟨fr.defers,_,results_none hl.e _ _ _,_,Z,hR⟩
theorem Et{k₀:Nat}{fn:Func}{R:Value->World->Prop}[hl:Qqq fn.results (#[])](hR:R (.tuple #[]) w):At ⟨k₀,[]⟩ (Ml P fn R) .normal L w:=
 fun _a fr=>⟨fr.defers,_,results_none hl.e _ _ _,_,Z,hR⟩
end
end Go.E
namespace Go.E
open Go Go.RowKit
def MY(n:Nat)(done:List Nat):Array Bool:=done.foldr (fun i a=>a.setIfInBounds i true) (Qxw n false)
section
variable {P:Program}{n:Sz}{l:List Oper}{Q:Exit->Act->World->Prop}{L:Env}{w:World}{y:Code}{fuel:Nat}{m:Nat}{done:List Nat}
theorem TW{i:Nat}{o:Oper}{K:Act->World->Prop}{a:Act}(ho:HL l i=some o)(h:wpList P l.toArray (Exit.then K Q) [o] a w)(_hQ:∀e a w,e≠.normal->Exit.then K Q e a w->Q e a w):wpOp P l.toArray Q i K a w:=by
 have ho':l.toArray[i]? = some o:=by rw[Gf]at ho;simpa using ho
 unfold wpOp;simp only[ho'];simp only[wpList]at h
 split
 ·rename_i hw;rw[if_pos hw]at h
  rcases h with h | ⟨h1,h2⟩
  ·left
   unfold Oper.wp at h ⊢;generalize (execOp a.eval o).run P w=r at h ⊢
   cases r with
   | ok nx w'=>
    cases nx <;> simp only[Oper.upon]at h ⊢
    case value v=>exact h
    case skip=>exact h
    case defer=>exact h
    case enter f args=>
     exact h.mono fun e w'' he=>by
      cases e with
      | returned v=>exact he
      | panicked ch=>exact he
      | outgrown=>exact he
    case row=>exact h
   | halt hh w'=>cases hh <;> simp only[Oper.upon]at h ⊢ <;> exact h
  ·exact .inr ⟨h1,h2⟩
 ·rename_i hw;rw[if_neg hw]at h;exact h
end
section
variable {P:Program}{n:Sz}{lo:List Oper}{Q:Exit->Act->World->Prop}{L:Env}{w w0:World}{O:List BN}{tr:Tr}{ix:Nat}
 {d:Nat}{ty:TypeId}{pos:String}{af:Array Edge}{α:Type}{r:Rp α}{x y:Operand}{v:Value}{t e:TypeId}
theorem Le.mono{A B C:PH}(h:Le A B)(k:Le B C):Le A C:=h.trans k
theorem AW.pick[Dr]{i:Nat}{q:BN}(h:AW w0 O w)(hi:D5 O i=some q):AW w0 (q::Mm O i) w:=h.perm (Ff hi).symm
end
end Go.E
namespace Go.E
open Go Go.RowKit
section
variable {P:Program}{L:Env}{w:World}{x y:Operand}{ty t t':TypeId}
end
def un(A B:PH):PH:=fun b=>match B b with
 | some o=>some o
 | none=>A b
theorem PQ{A B C:PH}(hA:Le A C)(hB:Le B C):Le (un A B) C:=fun b o e=>by
 unfold un at e
 cases h:B b with
 | some o'=>rw[h]at e;cases e;exact hB b o h
 | none=>rw[h]at e;exact hA b o e
theorem HO{A B:PH}:Le B (un A B):=fun b o e=>by unfold un;rw[e]
theorem GP{w w':World}{A:PH}(hA:Le A (hp w)):Le A (un A (nw w w')):=fun b o e=>by
 have hb:b<w.heap.size:=lt_of_heap (hA b o e);unfold un nw;rw[if_neg U];exact e
end Go.E
end
noncomputable section
namespace Go.L
abbrev BH(x:Int):Prop:=-9223372036854775808<=x/\x<=9223372036854775807
def Bb{α:Type}(p:Prop)[Decidable p](k:Option α):Option α:=if p then k else none
theorem HP{α:Type}{p:Prop}[Decidable p]{k:Option α}{e:α}(h:Bb p k=some e):p/\k=some e:=by
 unfold Bb at h
 split at h
 ·rename_i hp;exact⟨hp,h⟩
 ·cases h
theorem An{α:Type}{p:Prop}[Decidable p]{k:Option α}(h:p:=by omega):Bb p k=k:=by unfold Bb;rw[if_pos h]
theorem bind_some{α β:Type}{m:Option α}{f:α->Option β}{e:β}(h:m.bind f=some e):∃x,m=some x/\f x=some e:=Option.bind_eq_some_iff.1 h
theorem A3{α:Type}{p G:Prop}[Decidable p]{k:Option α}{e:α}(h:Bb p k=some e)(f:p->k=some e->G):G:=f (HP h).1 (HP h).2
theorem Av{α β:Type}{G:Prop}{m:Option α}{f:α->Option β}{e:β}(h:m.bind f=some e)(k:∀x,m=some x->f x=some e->G):G:=by
 obtain⟨x,h1,h2⟩:=bind_some h;exact k x h1 h2
theorem LD{α:Type}{b:Bool}{x y:Option α}{e:α}(hb:b=true)(h:(if b then x else y)=some e):x=some e:=by rw[if_pos hb]at h;exact h
theorem LF{α:Type}{b:Bool}{x y:Option α}{e:α}(hb:b=false)(h:(if b then x else y)=some e):y=some e:=by rw[if_neg (by rw[hb];decide)]at h;exact h
theorem MQ{α:Type}{p:Prop}[Decidable p]{x y:Option α}{e:α}(hb:p)(h:(if p then x else y)=some e):x=some e:=by rw[if_pos hb]at h;exact h
theorem MR{α:Type}{p:Prop}[Decidable p]{x y:Option α}{e:α}(hb : ¬p)(h:(if p then x else y)=some e):y=some e:=by rw[if_neg hb]at h;exact h
section
variable {σ ρ:Type}
def FW(b:σ->Option (σ⊕ρ)):Nat->σ->Option ρ
 | 0,_=>none
 | n+1,s=>(b s).bind fun e=>match e with | .inl s'=>FW b n s' | .inr r=>some r
def BW(b:σ->Option (σ⊕ρ))(n:Nat)(r:ρ):σ⊕ρ->Prop
 | .inl s=>FW b n s=some r
 | .inr x=>x=r
theorem Ba{b:σ->Option (σ⊕ρ)}{n:Nat}{s:σ}{r:ρ}(h:FW b n s=some r):∃m e,n=m+1/\b s=some e/\BW b m r e:=by
 cases n with
 | zero=>cases h
 | succ m=>
  obtain⟨e,h1,h2⟩:=Option.bind_eq_some_iff.1 h;refine⟨m,e,Z,h1,?_⟩
  cases e with
  | inl s'=>exact h2
  | inr x=>exact Option.some.inj h2
theorem BW.out{b:σ->Option (σ⊕ρ)}{n:Nat}{r:ρ}{e:σ⊕ρ}{m:Option ρ}(h:m.map Sum.inr=some e)(hm:BW b n r e):m=some r:=by
 cases m with
 | none=>cases h
 | some x=>cases h;exact congrArg some hm
theorem BW.again{b:σ->Option (σ⊕ρ)}{n:Nat}{r:ρ}{e:σ⊕ρ}{s:σ}(h:some (Sum.inl s)=some e)(hm:BW b n r e):FW b n s=some r:=by cases h;exact hm
theorem PR{b:σ->Option (σ⊕ρ)}:∀{n:Nat}{s:σ}{r:ρ} (k:Nat),FW b n s=some r->FW b (n+k) s=some r
 | 0,_,_,_,h=>by cases h
 | n+1,s,r,k,h=>by
  obtain⟨m,e,hm,h1,h2⟩:=Ba h;obtain rfl:n=m:=by omega
  rw[show n+1+k=(n+k)+1 by omega,FW,h1]
  cases e with
  | inl s'=>exact PR k h2
  | inr x=>exact congrArg some h2
theorem Wo{b:σ->Option (σ⊕ρ)}{n m:Nat}{s:σ}{r q:ρ}(h:FW b n s=some r)(k:FW b m s=some q):r=q:=by
 have h1:=PR m h;have h2:=PR n k;rw[Nat.add_comm]at h2;exact Option.some.inj (h1.symm.trans h2)
noncomputable def run(b:σ->Option (σ⊕ρ))(s:σ):Option ρ:=
 open Classical in if h : ∃r, ∃n, FW b n s = some r then some h.choose else none
theorem Rs{b:σ->Option (σ⊕ρ)}{n:Nat}{s:σ}{r:ρ}(h:FW b n s=some r):run b s=some r:=by
 have hx:∃r,∃n,FW b n s=some r:=⟨r,n,h⟩;unfold run;rw[dif_pos hx];obtain⟨m,hm⟩:=hx.choose_spec;rw[Wo hm h]
theorem Bc{b:σ->Option (σ⊕ρ)}{s:σ}{r:ρ}(h:run b s=some r):∃n,FW b n s=some r:=by
 unfold run at h
 split at h
 ·rename_i hx
  cases h
  exact hx.choose_spec
 ·cases h
theorem BK{b:σ->Option (σ⊕ρ)}{s s':σ}(h:b s=some (.inl s')):run b s=run b s':=by
 cases hr:run b s' with
 | some r=>
  obtain⟨n,hn⟩:=Bc hr;exact Rs (n:=n+1) (by rw[FW,h];exact hn)
 | none=>
  cases hs:run b s with
  | none=>rfl
  | some r=>
   obtain⟨n,hn⟩:=Bc hs;obtain⟨m,e,_,h1,h2⟩:=Ba hn;rw[h]at h1;cases h1;rw[Rs h2]at hr;cases hr
theorem BA{b:σ->Option (σ⊕ρ)}{s:σ}{m:Option ρ}(h:b s=m.map .inr):run b s=m:=by
 cases m with
 | some r=>exact Rs (n:=1) (by rw[FW,h];rfl)
 | none=>
  cases hs:run b s with
  | none=>rfl
  | some r=>
   obtain⟨n,hn⟩:=Bc hs;obtain⟨m,e,_,h1,h2⟩:=Ba hn;rw[h]at h1;cases h1
theorem JP(b:σ->Option (σ⊕ρ))(st:Nat->σ)(k:Nat)(m:Option ρ)(step:∀i,i<k->b (st i)=some (.inl (st (i+1))))(last:b (st k)=m.map .inr)(i:Nat)(hi:i<=k):run b (st i)=m:=by
 have key:∀d i,i+d=k->run b (st i)=m:=by
  intro d
  induction d with
  | zero=>intro i h;rw[Nat.add_zero]at h;subst h;exact BA last
  | succ d ih=>intro i h;rw[BK (step i U)];exact ih (i+1) U
 exact key (k - i) i U
end
def u8(a:Int):UInt8:=Qzv (a % 256).toNat
theorem Sc(a:Int):((u8 a).toNat:Int)=a % 256:=by
 unfold u8;rw[QxJ];omega
end Go.L
namespace Go.E
open Go Go.RowKit
def gz(H:PH)(w0 w:World)(O:List BN):PH:=un H (nf w0 w O)
section
variable {H:PH}{w0 w w':World}{O O':List BN}
theorem Pg{A B:PH}(hA:Le A (hp w0))(hB:∀b o,B b=some o->w0.heap.size<=b):Le A (un A B):=fun b o e=>by
 have hb:b<w0.heap.size:=lt_of_heap (hA b o e);unfold un
 cases h:B b with
 | none=>exact e
 | some o'=>have:=hB b o' h;omega
theorem YQ{b:Nat}{o:Obj}(h:nf w0 w O b=some o):w0.heap.size<=b:=by
 unfold nf at h
 split at h
 ·assumption
 ·cases h
theorem Ai(hH:Le H (hp w0):=by exact hH):Le H (gz H w0 w O):=Pg hH (fun _ _ h=>YQ h)
theorem Ou:Le (nf w0 w O) (gz H w0 w O):=HO
theorem Q8{A B C:PH}(hA:Le A (un A C))(h:Le B C):Le (un A B) (un A C):=PQ hA (h.trans HO)
theorem Ac(h:Le (fz w O) (fz w' O'))(hH:Le H (hp w0):=by exact hH):Le (gz H w0 w O) (gz H w0 w' O'):=Q8  Ai (Wl h)
theorem Xw[Dr](hH:Le H (hp w0))(hL:AW w0 O w):Le (gz H w0 w O) (fz w O):=PQ (hH.trans hL.YN) Xt
theorem Ao[Dr](hL:AW w0 O w)(hH:Le H (hp w0):=by exact hH):Le (gz H w0 w O) (hp w):=(Xw hH hL).trans (U5 _ _)
theorem SP[Dr](hL:AW w0 O w):Le (nw w w') (gz H w0 w' O):=(YO hL).trans HO
theorem DN[Dr](hL:AW w0 O w)(hx:Ext w w')(hH:Le H (hp w0):=by exact hH):Le (un (gz H w0 w O) (nw w w')) (gz H w0 w' O):=PQ (Ac (Bd hL hx)) (SP hL)
theorem GQ(hH:Le H (hp w0)):Le (gz H w0 w O) (un H (nw w0 w)):=PQ (GP hH) (Xu.trans HO)
theorem AW.rG[Dr](_:AW w0 O w)(H:PH):Le (gz H w0 w O) (gz H w0 w O):=Le.refl _
end
def Cv{α:Type}(e:TypeId)(r:Rp α)(H:PH)(w w':World)(v:Value)(l:List α):Prop:=
 ∃xs,w'.ownsRow w.heap.size e r.sz v l.length xs/\A5 r (un H (NM w w' v)) l xs
section
variable {α:Type}{e:TypeId}{r:Rp α}{H:PH}{w0 w w':World}{O:List BN}{v:Value}{l:List α}{i:Nat}{xs:Qq5}
theorem Sd{b:Nat}{o:Obj}(h:NM w w' v b=some o):w.heap.size<=b:=by
 unfold NM nw at h
 split at h
 ·cases h
 ·split at h
  ·assumption
  ·cases h
theorem Cv.vec(hH:Le H (hp w))(h:Cv e r H w w' v l):AL r (un H (nw w w')) v l:=by
 obtain⟨xs,h1,h2⟩:=h;refine M1 h1 h2 (PQ (GP hH) (RQ.trans HO)) fun k hk o ho=>?_;have:=(h1.lt k hk).1;apply HO;unfold nw;rw[if_pos this];exact ho
theorem Cv.Dj[Dr](h:Cv e r (gz H w0 w O) w w' v l)(hH:Le H (hp w0))(hL:AW w0 O w)(hx:Ext w w'):AL r (gz H w0 w' O) v l:=(h.vec (Ao hL)).mono (DN hL hx)
theorem Cv.take[Dr](h:Cv e r (gz H w0 w O) w w' v l)(hH:Le H (hp w0))(hL:AW w0 O w)(hx:Ext w w'):∃xs,AW w0 (.row v e r.sz l.length xs::O) w'/\Le (fz w O) (fz w' (.row v e r.sz l.length xs::O))/\A5 r (gz H w0 w' (.row v e r.sz l.length xs::O)) l xs:=by
 obtain⟨xs,h1,h2⟩:=h;obtain⟨h3,a⟩:=M4 hL hx h1;refine⟨xs,h3,a,h2.mono (PQ (Ac a) (fun b o hb=>Ou b o ?_))⟩;have hge:w0.heap.size<=b:=Qz2 hL.ext.size (Sd hb);unfold nf;rw[if_pos hge];exact RP hL b o hb
theorem Cv.nil{H:PH}:Cv e r H w w' (.slice none 0 0) ([]:List α):=⟨[],World.ownsRow_nil w' _ e _,.nil⟩
theorem AW.Hn[Dr](hL:AW w0 O w)(hH:Le H (hp w0))(hi:D5 O i=some (.row v e r.sz l.length xs))(he:A5 r (gz H w0 w O) l xs):Cv e r H w0 w v l:=
 ⟨xs,M0 (hL.at hi) (fun k hk=>hL.own _ ((Ff hi).mem_iff.2 (.head _)) k hk),he.mono (PQ (Pg hH (fun _ _ h=>Sd h)) ((XL hi).trans HO))⟩
theorem AW.Dj[Dr](hL:AW w0 O w)(hH:Le H (hp w0))(hi:D5 O i=some (.row v e r.sz l.length xs))(he:A5 r (gz H w0 w O) l xs):AL r (gz H w0 w (Mm O i)) v l:=
 M1 (hL.at hi) he (Ac (Ah hi)) (fun k hk o ho=>Ou k o (by
  unfold nf;rw[if_pos (hL.own _ ((Ff hi).mem_iff.2 (.head _)) k hk),PL hi hk hL.Wc];exact ho))
theorem AW.KA[Dr](hL:AW w0 O w)(hH:Le H (hp w0))(hi:D5 O i=some (.row v e r.sz l.length xs))(he:A5 r (gz H w0 w O) l xs):AL r (hp w) v l:=hL.Z5 hi (he.mono (Xw hH hL))
end
def Rp.st:Rp Qq3:=⟨1,fun _ x c=>c=[.string ⟨x.toArray⟩],fun h=>by simp[h],fun _ h=>h,fun h u hu=>by subst h;simp at hu;subst hu;rfl⟩
theorem A5.set{α:Type}{r:Rp α}{H:PH}{l:List α}{cs:Qq5}{x:α}{u:Value}(h:A5 r H l cs)(hx:r.rel H x [u]):∀i,i<l.length->A5 r H (l.set i x) (cs.set (i * r.sz) u):=by
 have hsz:r.sz=1:=(r.len hx).symm
 induction h with
 | nil=>intro i hi;cases hi
 | @cons y l c cs h t ih=>
  intro i hi;have hc:c.length=1:=by rw[r.len h,hsz]
  obtain⟨z,rfl⟩:=List.length_eq_one_iff.1 hc
  cases i with
  | zero=>rw[Qxx];exact .cons hx t
  | succ i=>
   rw[hsz,Qzy]at *;simp only[List.length_cons]at hi;have:=ih i U;rw[Qzy]at this;exact .cons h this
section
variable {P:Program}{n:Sz}{ops:Array Oper}{Q:Exit->Act->World->Prop}{L:Env}{w w0:World}{O:List BN}{rest:List Oper}
 {d:Nat}{ty:TypeId}{pos:String}{af:Array Edge}{α:Type}{r:Rp α}{x y:Operand}{v u:Value}{t t' e:TypeId}{H:PH}
abbrev Gx(bt n:Nat):Prop:=n * bt<=140737488355328/\n<=9223372036854775807
theorem BL[Dr](i:Nat){bt:Nat}{zz:Value}(l m:List α){xs:Qq5}(hx:ev L x=some v)[hy:Qqq (ev L y) (some u)](ht:P.underlying t=some (.slice e))[hz:Qqx P e zz r.sz bt][hzs:Qqq zz.cells.size r.sz][hn:Qqq (Qzz d n.n) true]
   (hL:AW w0 O w) (hi:D5 O i=some (.row v e r.sz l.length xs)) (he:A5 r (gz H w0 w O) l xs) (hm:AL r (gz H w0 w O) u m) (hby:Gx bt (l.length+m.length))
  (h:∀v' w' xs',AW w0 (Di O i (.row v' e r.sz (l++m).length xs')) w'->Le (fz w O) (fz w' (Di O i (.row v' e r.sz (l++m).length xs')))->A5 r (gz H w0 w' (Di O i (.row v' e r.sz (l++m).length xs'))) (l++m) xs'->S P n ops Q rest ((d,v')::L) w')(hsz:0<r.sz:=by decide)(hH:Le H (hp w0):=by exact hH):
  S P n ops Q (⟨some d,.call ⟨.builtin .append,#[x,y],#[t,t]⟩,ty,pos,af,none⟩::rest) L w:=by
 obtain⟨news,a,hs⟩:=hm.elems;refine UA i hx hy.e ht hz.e hzs.e hsz hn.e hL hi (hs.mono (Ao hL)) a.one hby fun v' w' h1 h2=>?_;rw[<- List.length_append]at h1 h2;exact h v' w' _ h1 h2 ((he.append a).mono (Ac h2))
theorem CO[Dr](i:Nat){bt k:Nat}(j:Nat){zz:Value}{l:List α}{xs:Qq5}{p:Addr}(z:α)[hx:Qqq (ev L x) (some (.pointer (some p)))][hy:Qqq (ev L y) (some u)](hu:u.oneCell'=true)[hz:Qqx P t zz 1 bt](hH:Le H (hp w0))(hL:AW w0 O w)(hi:D5 O i=some (.row v e r.sz l.length xs))(he:A5 r (gz H w0 w O) l xs)
  (hp':J0 v k p) [hk:Qqq k (j * r.sz)] (hj:j<l.length) (hz':r.rel (gz H w0 w O) z [u])
  (h:∀w' xs',AW w0 (Di O i (.row v e r.sz (l.set j z).length xs')) w'->Le (fz w O) (fz w' (Di O i (.row v e r.sz (l.set j z).length xs')))->A5 r (gz H w0 w' (Di O i (.row v e r.sz (l.set j z).length xs'))) (l.set j z) xs'->S P n ops Q rest L w') :
  S P n ops Q (⟨none,.store t x y,ty,pos,af,none⟩::rest) L w:=by
 have hk:=hk.e
 subst hk;have hlen:=he.len;have hsz:r.sz=1:=(r.len hz').symm;refine PO i hx.e hy.e hu hz.e hL hi hp' (by rw[hlen,hsz];omega) fun w' h1 h2=>?_;have a:l.length=(l.set j z).length:=by simp
 rw[a]at h1 h2;exact h w' _ h1 h2 ((he.set hz' j hj).mono (Ac h2))
theorem BV[Dr]{ps:List (Nat×Operand)}{vs:List (Nat×Value)}{cs:Qq5}(l:List α)[hp':Qqq (Wj L ps) (some vs)](hr:∀w,(Instr.buildSlice t l.length vs.toArray).run P w=.ok (.slice (some ⟨w.heap.size,0,none⟩) l.length l.length) (w.alloc (.cells cs.toArray e)))[hn:Qqq (Qzz d n.n) true](hL:AW w0 O w)(he:A5 r (gz H w0 w O) l cs)
  (h:∀u w',Ext w w'->AW w0 O w'->Le (fz w O) (fz w' O)->AL r (gz H w0 w' O) u l->S P n ops Q rest ((d,u)::L) w')(hlen:l.length<=9223372036854775807:=by exact Ch 1)(hH:Le H (hp w0):=by exact hH):
  S P n ops Q (⟨some d,.buildSlice t l.length ps.toArray,ty,pos,af,none⟩::rest) L w:=
 Xs (sz:=r.sz) hp'.e hr he.len hlen hn.e hL fun u w' hx hL' hle hs _=>h u w' hx hL' hle (SJ (he.mono (Ac hle)) (hs.mono (SP hL)))
theorem NU[Dr]{ps:List (Nat×Operand)}{vs:List (Nat×Value)}{cs:Qq5}(l:List α)[hp':Qqq (Wj L ps) (some vs)](hr:∀w,(Instr.buildSlice t l.length vs.toArray).run P w=.ok (.slice (some ⟨w.heap.size,0,none⟩) l.length l.length) (w.alloc (.cells cs.toArray e)))[hn:Qqq (Qzz d n.n) true](hlen:l.length<=9223372036854775807)(hH:Le H (hp w0))(hL:AW w0 O w)(he:A5 r (gz H w0 w O) l cs)
  (h:∀u w' xs,AW w0 (.row u e r.sz l.length xs::O) w'->Le (fz w O) (fz w' (.row u e r.sz l.length xs::O))->A5 r (gz H w0 w' (.row u e r.sz l.length xs::O)) l xs->S P n ops Q rest ((d,u)::L) w') :
  S P n ops Q (⟨some d,.buildSlice t l.length ps.toArray,ty,pos,af,none⟩::rest) L w:=
 Xs (sz:=r.sz) hp'.e hr he.len hlen hn.e hL fun u w' hx _ _ _ ho=>by
  obtain⟨h1,h2⟩:=M4 hL hx ho;exact h u w' _ h1 h2 (he.mono (Ac h2))
theorem Rt[Dr]{bt:Nat}{k k':IntKind}{zz:Value}{c c':Int}{z:α}[hx:Qqq (ev L x) (some (.int k c))][hy:Qqq (ev L y) (some (.int k' c'))][hcc:Qqq c' c](ht:P.underlying t=some (.slice e))[hz:Qqx P e zz r.sz bt][hzc:Qqq zz.cells (#[zz])](hrz:∀G,r.rel G z [zz])[hn:Qqq (Qzz d n.n) true](_hH:Le H (hp w0))(hL:AW w0 O w)(hm:0<=c/\(bt:Int) * c<=281474976710656/\c<=9223372036854775807)
  (h:∀v' w' xs,AW w0 (.row v' e r.sz (Qzw c.toNat z).length xs::O) w'->Le (fz w O) (fz w' (.row v' e r.sz (Qzw c.toNat z).length xs::O))->A5 r (gz H w0 w' (.row v' e r.sz (Qzw c.toNat z).length xs::O)) (Qzw c.toNat z) xs->S P n ops Q rest ((d,v')::L) w') :
  S P n ops Q (⟨some d,.makeSlice t x y,ty,pos,af,none⟩::rest) L w:=by
 have hcc:=hcc.e
 have hz:=hz.e
 have hsz:r.sz=1:=(r.len (hrz H)).symm;obtain⟨m,rfl⟩:=QzD hm.1;subst hcc;rw[hsz]at hz;refine XK (m:=m) hx.e hy.e ⟨Z,Z⟩ ht hz hzc.e hn.e hL ⟨by have:=hm.2.1;rw[<- Int.natCast_mul]at this;exact Int.ofNat_le.1 this,by omega⟩ fun v' w' _ h1 h2=>?_;have a:m=(Qzw (m:Int).toNat z).length:=by simp
 have b:BN.row v' e 1 m (Qzw m zz)=.row v' e r.sz (Qzw (m:Int).toNat z).length (Qzw m zz):=by rw[hsz,<- a]
 rw[b]at h1 h2;refine h v' w' _ h1 h2 ?_
 have key:∀(G:PH) (k:Nat),A5 r G (Qzw k z) (Qzw k zz):=fun G k=>by
  induction k with
  | zero=>exact .nil
  | succ k ih=>exact .cons (c:=[zz]) (hrz G) ih
 exact key _ _
end
section
variable {P:Program}{n:Sz}{lo:List Oper}{Q:Exit->Act->World->Prop}{L:Env}{w w0:World}{O:List BN}{tr:Tr}{ix:Nat}
 {d:Nat}{ty:TypeId}{pos:String}{af:Array Edge}{α:Type}{r:Rp α}{x y:Operand}{v:Value}{t e:TypeId}{H:PH}
theorem PS[Dr]{ps:List (Nat×Operand)}{vs:List (Nat×Value)}{cs:Qq5}(l:List α)(ho:HL lo ix=some ⟨some d,.buildSlice t l.length ps.toArray,ty,pos,af,none⟩)(hp':Wj L ps=some vs)(hr:∀w,(Instr.buildSlice t l.length vs.toArray).run P w=.ok (.slice (some ⟨w.heap.size,0,none⟩) l.length l.length) (w.alloc (.cells cs.toArray e)))(hn:Qzz d n.n=true)(hlen:l.length<=9223372036854775807)(hH:Le H (hp w0))(hL:AW w0 O w)(he:A5 r (gz H w0 w O) l cs)
  (h:∀u w' xs,AW w0 (.row u e r.sz l.length xs::O) w'->Le (fz w O) (fz w' (.row u e r.sz l.length xs::O))->A5 r (gz H w0 w' (.row u e r.sz l.length xs::O)) l xs->D P n lo Q tr ((d,u)::L) w'):D P n lo Q (.h ix tr) L w:=by
 refine Xq (R:=fun w1 u w'=>w'.ownsRow w1.heap.size e r.sz u l.length cs) ho hn (fun w1 a ρ hρ=>?_) (fun w1 u w' a b hR=>?_)
 ·have c:=hρ.Wk _ _ hp';have e':(ps.toArray.map fun(i,x)=>(i,ρ x))=vs.toArray:=by rw[<- c];simp
  refine⟨.slice (some ⟨w1.heap.size,0,none⟩) l.length l.length,w1.alloc (.cells cs.toArray e),by simp[execOp,e',hr w1,-List.map_toArray],Ej w1 (.cells cs.toArray e),?_⟩;have:=World.ownsRow_lit (base:=w1.heap.size) (e:=e) (size:=r.sz) w1 cs.toArray l.length (Qzx _) (by unfold maxLen;omega) (by simpa using he.len)
  simpa using this
 ·obtain⟨h1,h2⟩:=M4 (hL.call a) b hR;have hle:=(Bd hL a).trans h2;exact h u w' _ h1 hle (he.mono (Ac hle))
end
end Go.E
end
noncomputable section
namespace Go.E
open Go Go.RowKit
theorem AD{i:Int}{n:Nat}(h:0<=i/\i<(n:Int)):i.toNat<n:=by omega
theorem CT{i n:Int}(h:0<=i/\i<n):i=(i.toNat:Int):=(QzK h.1).symm
theorem TX{p:Prop}[Decidable p](h:(!decide p)=true): ¬p:=by simpa using h
theorem TY{p:Prop}[Decidable p](h:(!decide p)=false):p:=by simpa using h
section
variable {α:Type}{P:Program}{n:Sz}{Q:Exit->Act->World->Prop}{L:Env}{w:World}{x y:Code}{t:Operand}{A B:Option α}{e:α}
theorem Bi{b:Bool}[hc:Qqq (ev L t) (some (.bool b))](h:(if b then A else B)=some e)(ht:b=true->A=some e->W P n x Q L w)(hf:b=false->B=some e->W P n y Q L w):W P n (.cond t x y) Q L w:=
 SC hc.e (fun c=>ht c (Go.L.LD c h)) (fun c=>hf c (Go.L.LF c h))
theorem AS{p:Prop}[Decidable p][hc:Qqq (ev L t) (some (.bool (decide p)))](h:(if p then A else B)=some e)(ht:p->A=some e->W P n x Q L w)(hf : ¬p->B=some e->W P n y Q L w):W P n (.cond t x y) Q L w:=
 Z3 hc.e (fun c=>ht c (Go.L.MQ c h)) (fun c=>hf c (Go.L.MR c h))
theorem DP{p:Prop}[Decidable p][hc:Qqq (ev L t) (some (.bool (!decide p)))](h:(if p then A else B)=some e)(ht : ¬p->B=some e->W P n x Q L w)(hf:p->A=some e->W P n y Q L w):W P n (.cond t x y) Q L w:=
 YL hc.e (fun c=>ht c (Go.L.MR c h)) (fun c=>hf c (Go.L.MQ c h))
theorem Bg{ops:Array Oper}{rest:List Oper}(s:Nat){b:Bool}[hb:Qqq (gt L s) (some (.bool b))](h:(if b then A else B)=some e)(ht:b=true->A=some e->S P n ops Q rest L w)(hf:b=false->B=some e->S P n ops Q rest L w):S P n ops Q rest L w:=
 Bk hb.e (fun c=>ht c (Go.L.LD c h)) (fun c=>hf c (Go.L.LF c h))
theorem AQ{ops:Array Oper}{rest:List Oper}(s:Nat){p:Prop}[Decidable p][hb:Qqq (gt L s) (some (.bool (decide p)))](h:(if p then A else B)=some e)(ht:decide p=true->A=some e->S P n ops Q rest L w)(hf:decide p=false->B=some e->S P n ops Q rest L w):S P n ops Q rest L w:=
 Bk hb.e (fun c=>ht c (Go.L.MQ (of_decide_eq_true c) h)) (fun c=>hf c (Go.L.MR (of_decide_eq_false c) h))
theorem G9{ops:Array Oper}{rest:List Oper}(s:Nat){p:Prop}[Decidable p][hb:Qqq (gt L s) (some (.bool (!decide p)))](h:(if p then A else B)=some e)(ht:(!decide p)=true->B=some e->S P n ops Q rest L w)(hf:(!decide p)=false->A=some e->S P n ops Q rest L w):S P n ops Q rest L w:=
 Bk hb.e (fun c=>ht c (Go.L.MR (TX c) h)) (fun c=>hf c (Go.L.MQ (TY c) h))
end
theorem J0.add{v:Value}{k:Nat}{p:Addr}(h:J0 v k p)(j:Nat):J0 v (k+j) (p.add j):=by
 obtain⟨b,o,s⟩:=p;obtain⟨h1,h2,h3⟩:=h;simp only at h1 h2 h3;subst h3;exact⟨by simpa[Addr.add_lit]using h1,by simp[Addr.add_lit,h2],by simp[Addr.add_lit]⟩
def Plain{α:Type}(r:Rp α):Prop:=∀{H H':PH}{x:α}{c:Qq5},r.rel H x c->r.rel H' x c
theorem NV:Plain .byte:=fun h=>h
theorem A5.Ov{α:Type}{r:Rp α}(hp:Plain r){H H':PH}{l:List α}{cs:Qq5}(h:A5 r H l cs):A5 r H' l cs:=by
 induction h with
 | nil=>exact .nil
 | cons h _ ih=>exact .cons (hp h) ih
theorem Cv.Ov{α:Type}{e:TypeId}{r:Rp α}{H1 H2:PH}{w w':World}{v:Value}{l:List α}(h:Cv e r H1 w w' v l)(hp:Plain r):Cv e r H2 w w' v l:=by
 obtain⟨xs,h1,h2⟩:=h;exact⟨xs,h1,h2.Ov hp⟩
section
variable {P:Program}{L:Env}{w:World}{x y z:Operand}{ty t t' t'' e:TypeId}
theorem Gm(a:Int):IntKind.u8.wrap a=((Go.L.u8 a).toNat:Int):=by rw[P3,Go.L.Sc]
def Z6:BinOp->UInt8->UInt8->Option UInt8
 | .add,a,b=>some (a+b)
 | .sub,a,b=>some (a - b)
 | .mul,a,b=>some (a * b)
 | _,_,_=>none
theorem UD{op:BinOp}{a b c:UInt8}(h:Z6 op a b=some c):∃s,YM op (a.toNat:Int) (b.toNat:Int)=some s/\IntKind.u8.wrap s=(c.toNat:Int):=by
 have ha:=a.toNat_lt;have hb:=b.toNat_lt
 cases op <;> simp only[Z6,Option.some.injEq,reduceCtorEq]at h <;> subst h
 ·refine⟨_,Z,?_⟩;rw[P3,UInt8.toNat_add];omega
 ·refine⟨_,Z,?_⟩;rw[P3,UInt8.toNat_sub];omega
 ·refine⟨_,Z,?_⟩;rw[P3,UInt8.toNat_mul,<- Int.natCast_mul];omega
theorem Xx[Dr]{op:BinOp}{a b c:UInt8}(hx:ev L x=some (.int .u8 (a.toNat:Int)))(hy:ev L y=some (.int .u8 (b.toNat:Int)))(ho:Z6 op a b=some c):Bu P L w (.binOp op t x y t') ty (.int .u8 (c.toNat:Int)):=by
 obtain⟨s,h1,h2⟩:=UD ho;exact Q7 hx hy h1 h2
theorem OH[Dr]{op:BinOp}{c:Nat}{p q:Int}[hx:Qqq (ev L x) (some (.int .i64 p))][hy:Qqq (ev L y) (some (.int .i64 q))](ho:UC op p.toNat q.toNat=some c)(h:(0<=p/\p<2 ^ 63)/\(0<=q/\q<2 ^ 63)):Bu P L w (.binOp op t x y t') ty (.int .i64 (c:Int)):=
 Wm hx.e hy.e U U ho U U
theorem UE[Dr]{a:UInt8}{c:Nat}{k':IntKind}(hx:ev L x=some (.int .u8 (a.toNat:Int)))[hy:Qqq (ev L y) (some (.int k' (c:Int)))](hc:c<8):Bu P L w (.binOp .shr t x y t') ty (.int .u8 ((a >>> (Qzv c)).toNat:Int)):=by
 have h:=Ot (P:=P) (w:=w) (t:=t) (t':=t') (ty:=ty) hx hy.e Z (show c<=IntKind.u8.bits by simp[IntKind.bits];omega)
 have e:(a.toNat:Int) / 2 ^ c=((a >>> (Qzv c)).toNat:Int):=by
  rw[UInt8.toNat_shiftRight,QxJ,Nat.mod_eq_of_lt (show c<2 ^ 8 by omega),Nat.mod_eq_of_lt hc,Nat.shiftRight_eq_div_pow];simp
 rw[e]at h;exact h
theorem Ru[Dr]{a c:Int}{k':IntKind}(hx:ev L x=some (.int .i64 a))[hy:Qqq (ev L y) (some (.int k' c))](hc:0<=c/\c<=63):Bu P L w (.binOp .shr t x y t') ty (.int .i64 (a / 2 ^ c.toNat)):=by
 obtain⟨m,rfl⟩:=QzD hc.1;exact Ot hx hy.e Z (by simp[IntKind.bits];omega)
theorem Lm[Dr]{l:Qq3}(hx:ev L x=some (.string ⟨l.toArray⟩))[ht:Qqq (P.underlying t) (some .string)]:Bu P L w (.call ⟨.builtin .len,#[x],#[t]⟩) ty (.int .i64 (l.length:Int)):=by
 intro w' _ ρ hρ dst pos af g;have:(ByteArray.mk l.toArray).size=l.length:=by simp[Qxk]
 simp[execOp,resolve,hρ x _ hx,invoke,builtin,Builtin.len_,run_underlying ht.e,goInt,this]
theorem NN[Dr]{l m:Qq3}(hx:ev L x=some (.string ⟨l.toArray⟩))(hy:ev L y=some (.string ⟨m.toArray⟩)):Bu P L w (.binOp .neq t x y t') ty (.bool (!decide (l=m))):=by
 intro w' _ ρ hρ dst pos af g;have e:(l==m)=decide (l=m):=by rw[Bool.eq_iff_iff];simp
 simp[execOp,hρ x _ hx,hρ y _ hy,eqGuard,binOp,Op.stringOp,e]
theorem PT[Dr]{l m:Qq3}[hx:Qqq (ev L x) (some (.string ⟨l.toArray⟩))][hy:Qqq (ev L y) (some (.string ⟨m.toArray⟩))](h:l.length+m.length<=9223372036854775807):Bu P L w (.binOp .add t x y t') ty (.string ⟨(l++m).toArray⟩):=by
 intro w' _ ρ hρ dst pos af g;have a:(ByteArray.mk l.toArray).size=l.length:=by simp[Qxk]
 have b:(ByteArray.mk m.toArray).size=m.length:=by simp[Qxk]
 have c:ByteArray.mk l.toArray++ByteArray.mk m.toArray=ByteArray.mk (l++m).toArray:=by
  apply ByteArray.ext;simp
 have d : ¬(IntKind.i64.max<((l.length+m.length:Nat):Int)):=by
  have:IntKind.i64.max=9223372036854775807:=by decide
  omega
 simp only[execOp,hρ x _ hx.e,hρ y _ hy.e,eqGuard,binOp,Op.stringOp,a,b,c];simp;omega
theorem YR[Dr]{a b:Int}(hx:ev L x=some (.int .i64 a))(hy:ev L y=some (.int .i64 b)):Bu P L w (.call ⟨.builtin .min,#[x,y],#[t,t']⟩) ty (.int .i64 (min a b)):=by
 intro w' _ ρ hρ dst pos af g;simp[execOp,resolve,hρ x _ hx,hρ y _ hy,invoke,builtin,Builtin.min_,Builtin.min2]
 by_cases h:b<a
 ·simp[h,show min a b=b by omega]
 ·simp[h,show min a b=a by omega]
end
section
variable {P:Program}{n:Sz}{ops:Array Oper}{Q:Exit->Act->World->Prop}{L:Env}{w w0:World}{O:List BN}{rest:List Oper}{lop:List Oper}{ix:Nat}{tr:Tr}
 {d:Nat}{ty:TypeId}{pos:String}{af:Array Edge}{α:Type}{r:Rp α}{x a b:Operand}{v:Value}{t e:TypeId}{H:PH}{l:List α}{k k':IntKind}{i j:Int}{zz:Value}{bt:Nat}
theorem UF[Dr][hx:Qqq (ev L x) (some v)][ha:Qqq (ev L a) (some (.int k i))][hb:Qqq (ev L b) (some (.int k' j))][ht:Qqq (P.underlying t) (some (.slice e))][he:Qqx P e zz r.sz bt](hv:AL r H v l)(hc:0<=i/\i<=j/\j<=(l.length:Int))[hn:Qqq (Qzz d n.n) true]
  (h:∀v',AL r H v' ((l.drop i.toNat).take (j.toNat - i.toNat))->S P n ops Q rest ((d,v')::L) w):S P n ops Q (⟨some d,.slice t x (some a) (some b) none,ty,pos,af,none⟩::rest) L w:=
 Rl hx.e ht.e he.e hv i.toNat j.toNat ⟨k,by rw[QzK U];exact ha.e⟩ ⟨k',by rw[QzK U];exact hb.e⟩ U hn.e h
theorem DQ[Dr][hx:Qqq (ev L x) (some v)][ha:Qqq (ev L a) (some (.int k i))][ht:Qqq (P.underlying t) (some (.slice e))][he:Qqx P e zz r.sz bt](hv:AL r H v l)(hc:0<=i/\i<=(l.length:Int))[hn:Qqq (Qzz d n.n) true]
  (h:∀v',AL r H v' (l.drop i.toNat)->S P n ops Q rest ((d,v')::L) w):S P n ops Q (⟨some d,.slice t x (some a) none none,ty,pos,af,none⟩::rest) L w:=
 Rl hx.e ht.e he.e hv i.toNat l.length ⟨k,by rw[QzK U];exact ha.e⟩ Z U hn.e fun v' h'=>h v' (by rwa [Qz3 Qqc]at h')
theorem J1[Dr][hx:Qqq (ev L x) (some v)][hb:Qqq (ev L b) (some (.int k' j))][ht:Qqq (P.underlying t) (some (.slice e))][he:Qqx P e zz r.sz bt](hv:AL r H v l)(hc:0<=j/\j<=(l.length:Int))[hn:Qqq (Qzz d n.n) true]
  (h:∀v',AL r H v' (l.take j.toNat)->S P n ops Q rest ((d,v')::L) w):S P n ops Q (⟨some d,.slice t x none (some b) none,ty,pos,af,none⟩::rest) L w:=
 Rl hx.e ht.e he.e hv 0 j.toNat Z ⟨k',by rw[QzK U];exact hb.e⟩ U hn.e fun v' h'=>h v' (by simpa using h')
theorem UG[Dr](ho:HL lop ix=some ⟨some d,.slice t x (some a) (some b) none,ty,pos,af,none⟩)(hx:ev L x=some v)[ha:Qqq (ev L a) (some (.int k i))][hb:Qqq (ev L b) (some (.int k' j))](ht:P.underlying t=some (.slice e))[he:Qqx P e zz r.sz bt](hv:AL r H v l)(hc:0<=i/\i<=j/\j<=(l.length:Int))(hn:Qzz d n.n=true)
  (h:∀v',AL r H v' ((l.drop i.toNat).take (j.toNat - i.toNat))->D P n lop Q tr ((d,v')::L) w):D P n lop Q (.q ix tr) L w:=
 Rm ho hx ht he.e hv i.toNat j.toNat ⟨k,by rw[QzK U];exact ha.e⟩ ⟨k',by rw[QzK U];exact hb.e⟩ U hn h
theorem PU[Dr](ho:HL lop ix=some ⟨some d,.slice t x (some a) none none,ty,pos,af,none⟩)(hx:ev L x=some v)[ha:Qqq (ev L a) (some (.int k i))](ht:P.underlying t=some (.slice e))[he:Qqx P e zz r.sz bt](hv:AL r H v l)(hc:0<=i/\i<=(l.length:Int))(hn:Qzz d n.n=true)
  (h:∀v',AL r H v' (l.drop i.toNat)->D P n lop Q tr ((d,v')::L) w):D P n lop Q (.q ix tr) L w:=
 Rm ho hx ht he.e hv i.toNat l.length ⟨k,by rw[QzK U];exact ha.e⟩ Z U hn fun v' h'=>h v' (by rwa [Qz3 Qqc]at h')
theorem UH[Dr](ho:HL lop ix=some ⟨some d,.slice t x none (some b) none,ty,pos,af,none⟩)(hx:ev L x=some v)[hb:Qqq (ev L b) (some (.int k' j))](ht:P.underlying t=some (.slice e))[he:Qqx P e zz r.sz bt](hv:AL r H v l)(hc:0<=j/\j<=(l.length:Int))(hn:Qzz d n.n=true)
  (h:∀v',AL r H v' (l.take j.toNat)->D P n lop Q tr ((d,v')::L) w):D P n lop Q (.q ix tr) L w:=
 Rm ho hx ht he.e hv 0 j.toNat Z ⟨k',by rw[QzK U];exact hb.e⟩ U hn fun v' h'=>h v' (by simpa using h')
theorem N7[Dr]{z:Value}{sz:Nat}{cs:Qq5}(ho:HL lop ix=some ⟨some d,.alloc t,ty,pos,af,none⟩)(hz:Zr P t z sz bt)(hc:z.cells.toList=cs)(hn:Qzz d n.n=true)(hL:AW w0 O w)
  (h:∀w' b,AW w0 (.box b cs t::O) w'->Le (fz w O) (fz w' (.box b cs t::O))->D P n lop Q tr ((d,.pointer (some ⟨b,0,none⟩))::L) w'):D P n lop Q (.h ix tr) L w:=by
 subst hc;refine Xq (R:=fun w1 u w'=>u=.pointer (some ⟨w1.heap.size,0,none⟩)/\w'=w1.alloc (.cells z.cells.toList.toArray t)) ho hn (fun w1 a ρ hρ=>?_) (fun w1 u w' a e hR=>?_)
 ·refine⟨_,_,QL hz w1 ρ _ Z,Ej _ _,Z,by simp⟩
 ·obtain⟨rfl,rfl⟩:=hR;have c:=hL.call a;exact h _ _ (Ro c) ((Bd hL a).trans (OF c))
end
end Go.E
namespace Go.E
open Go Go.RowKit
theorem A5.c1{α:Type}{r:Rp α}{H:PH}{x:α}{l:List α}{a:Value}{cs:Qq5}(h:r.rel H x [a])(t:A5 r H l cs):A5 r H (x::l) (a::cs):=.cons (c:=[a]) h t
theorem A5.c2{α:Type}{r:Rp α}{H:PH}{x:α}{l:List α}{a b:Value}{cs:Qq5}(h:r.rel H x [a,b])(t:A5 r H l cs):A5 r H (x::l) (a::b::cs):=.cons (c:=[a,b]) h t
theorem A5.c3{α:Type}{r:Rp α}{H:PH}{x:α}{l:List α}{a b d:Value}{cs:Qq5}(h:r.rel H x [a,b,d])(t:A5 r H l cs):A5 r H (x::l) (a::b::d::cs):=.cons (c:=[a,b,d]) h t
theorem A5.c4{α:Type}{r:Rp α}{H:PH}{x:α}{l:List α}{a b d e:Value}{cs:Qq5}(h:r.rel H x [a,b,d,e])(t:A5 r H l cs):A5 r H (x::l) (a::b::d::e::cs):=.cons (c:=[a,b,d,e]) h t
theorem A5.c5{α:Type}{r:Rp α}{H:PH}{x:α}{l:List α}{a b d e f:Value}{cs:Qq5}(h:r.rel H x [a,b,d,e,f])(t:A5 r H l cs):A5 r H (x::l) (a::b::d::e::f::cs):=.cons (c:=[a,b,d,e,f]) h t
theorem A5.c6{α:Type}{r:Rp α}{H:PH}{x:α}{l:List α}{a b d e f g:Value}{cs:Qq5}(h:r.rel H x [a,b,d,e,f,g])(t:A5 r H l cs):A5 r H (x::l) (a::b::d::e::f::g::cs):=.cons (c:=[a,b,d,e,f,g]) h t
theorem A5.c7{α:Type}{r:Rp α}{H:PH}{x:α}{l:List α}{a b d e f g i:Value}{cs:Qq5}(h:r.rel H x [a,b,d,e,f,g,i])(t:A5 r H l cs):A5 r H (x::l) (a::b::d::e::f::g::i::cs):=.cons (c:=[a,b,d,e,f,g,i]) h t
theorem A5.c8{α:Type}{r:Rp α}{H:PH}{x:α}{l:List α}{a b d e f g i j:Value}{cs:Qq5}(h:r.rel H x [a,b,d,e,f,g,i,j])(t:A5 r H l cs):A5 r H (x::l) (a::b::d::e::f::g::i::j::cs):=.cons (c:=[a,b,d,e,f,g,i,j]) h t
theorem CF[Dr]{α:Type}(r:Rp α){w0 w:World}{O:List BN}(H:PH)(e:TypeId)(hL:AW w0 O w):
  AW w0 (.row (.slice none 0 0) e r.sz ([]:List α).length []::O) w/\Le (fz w O) (fz w (.row (.slice none 0 0) e r.sz ([]:List α).length []::O))/\A5 r (gz H w0 w (.row (.slice none 0 0) e r.sz ([]:List α).length []::O)) [] []:=
 ⟨(Ts hL e r.sz).1,(Ts hL e r.sz).2,.nil⟩
def GR(Q:Exit->Act->World->Prop):Prop:=∀c a (d:Option Tmp) (v:Value) w,Q (.panic c) (a.put d v) w->Q (.panic c) a w
section
variable {P:Program}{n:Sz}{Q:Exit->Act->World->Prop}
theorem Gy{fn:Func}{R:Value->World->Prop}:GR (Ml P fn R):=fun _ _ d _ _ h=>by cases d <;> exact h
theorem OI{y:Code}(h:GR Q):GR (OB P y Q):=fun c a d v w k=>h c a d v w k
theorem IB{σ:Type}{I:σ->Env}{R:σ->World->Prop}(h:GR Q):GR (Uy n I R Q):=fun c a d v w k=>h c a d v w k
theorem LG{σ:Type}{I:σ->Env}{R:σ->World->Prop}{μ:σ->Nat}{x:σ}(h:GR Q):GR (QH n I R μ x Q):=fun c a d v w k=>h c a d v w k
theorem D6{id:Nat}(h:GR Q):GR (Exit.inBlock id Q):=fun c a d v w k=>h c a d v w k
end
section
variable {P:Program}{n:Sz}{m fuel:Nat}{l:List Oper}{Q:Exit->Act->World->Prop}{L:Env}{w w0:World}{done:List Nat}{i d:Nat}{op:Op}{ty:TypeId}{pos:String}{af:Array Edge}
def NW(l:List Oper)(m:Nat)(done:List Nat)(i:Nat):Bool:=
 Region.noSelect l.toArray&&Region.free .any l.toArray (MY m done) i&&(Region.ready .any l.toArray (MY m done)).contains i
end
section
variable {P:Program}{n:Sz}{m fuel:Nat}{lo:List Oper}{Q:Exit->Act->World->Prop}{L:Env}{w w0:World}{done:List Nat}{i d:Nat}{ty:TypeId}{pos:String}{af:Array Edge}{α:Type}{r:Rp α}{H:PH}{x y:Operand}{v:Value}{t e:TypeId}{O:List BN}
end
end Go.E
namespace Go.E
open Go Go.RowKit
theorem AW.Z7[Dr]{w0 w w':World}{O:List BN}{g:Nat}(h:AW w0 O w)(hg:w.grownBy w' (some g))(hdr:w.drawn<=w'.drawn)(hge:w0.heap.size<=g)(hno:owned O g=false):AW w0 O w':=by
 have hs:∀r∈O,∀b,r.block=some b->w'.heap[b]? = w.heap[b]?:=fun r hr b hb=>by
  refine hg.block b ((h.res r hr).lt hb) (fun e=>?_);have e':b=g:=by simpa[eq_comm]using e
  have:owned O b=true:=Dq.2 ⟨r,hr,hb⟩;rw[e',hno]at this;cases this
 refine⟨⟨⟨hg.os.trans h.ext.os,hg.tape.trans h.ext.tape,hg.output.trans h.ext.output,Qz2 h.ext.size hg.size,fun k hk=>?_⟩,fun o=>Qz2 (h.ext.drawn o) hdr⟩,fun r hr=>(h.res r hr).same (hs r hr),h.own,h.Wc⟩
 have hne : ¬(some k=some g):=fun e=>by
  have e':k=g:=by simpa using e
  omega
 rw[hg.block k (Nat.lt_of_lt_of_le hk h.ext.size) hne];exact h.ext.block k hk
section
variable {P:Program}{L:Env}{w:World}{x y:Operand}{ty t t':TypeId}
theorem YS[Dr]{a b:Bool}(hx:ev L x=some (.bool a))(hy:ev L y=some (.bool b))[ht:Qqq (P.underlying t) (some .bool)]:Bu P L w (.binOp .eql t x y t') ty (.bool (a==b)):=by
 intro w' _ ρ hρ dst pos af g;have key:∀dd:Nat,(Op.equalIn (dd+1) t (.bool a) (.bool b)).run P w'=.ok (a==b) w':=fun dd=>by simp[Op.equalIn,run_underlying ht.e]
 have c:(Op.equal t (.bool a) (.bool b)).run P w'=.ok (a==b) w':=key 9999;simp[execOp,hρ x _ hx,hρ y _ hy,eqGuard,binOp,c]
end
theorem cells_one{v:Value}(h:v.oneCell'=true):v.cells.toList=[v]:=by cases v <;> simp_all [Value.cells,Value.oneCell']
section
variable {P:Program}{n:Sz}{ops:Array Oper}{Q:Exit->Act->World->Prop}{L:Env}{w w0:World}{O:List BN}{rest:List Oper}{d:Nat}{ty:TypeId}{pos:String}{af:Array Edge}{x:Operand}{v:Value}{t e:TypeId}{H:PH}
theorem Nh[Dr](hx:ev L x=some v)(h1:v.oneCell'=true)[hn:Qqq (Qzz d n.n) true](hL:AW w0 O w)
  (h:∀w' b,AW w0 (.box b [v] t::O) w'->Le (fz w O) (fz w' (.box b [v] t::O))->Ext w w'->S P n ops Q rest ((d,.pointer (some ⟨b,0,none⟩))::L) w'):S P n ops Q (⟨some d,.box t x,ty,pos,af,none⟩::rest) L w:=
 Cj hx (cells_one h1) (hn:=⟨hn.e⟩) hL h
theorem YT[Dr](i:Nat){l:Qq3}{xs:Qq5}(hx:ev L x=some v)(ht:P.underlying t=some (.slice e))(he:P.underlying e=some (.int .u8))[hn:Qqq (Qzz d n.n) true](_hH:Le H (hp w0))(hL:AW w0 O w)(hi:D5 O i=some (.row v e 1 l.length xs))(hel:A5 .byte (gz H w0 w O) l xs)(hne:l≠[])
  (h:∀w',AW w0 (Mm O i) w'->Le (fz w O) (fz w' (Mm O i))->AL .byte (gz H w0 w' (Mm O i)) v l->S P n ops Q rest ((d,v)::L) w') :
  S P n ops Q (⟨some d,.convert t t x,ty,pos,af,none⟩::rest) L w:=by
 have hown:w.ownsRow 0 e 1 v l.length xs:=hL.at hi
 rcases hown.2 with ⟨_,a⟩ | ⟨g,cap,cur,rfl,hb,hg,hnc,hcm,hcs,htake⟩
 ·exact absurd (Qz0 a) hne
 have hgl:=lt_of_heap hg
 have hfr:w.freeze ⟨g,cur.size,none⟩ 1={w with heap:=w.heap.setIfInBounds g (.cells cur e (cur.size,cur.size+1))}:=by
  unfold World.freeze;rw[if_neg Qqb]
  congr 1
  apply Array.ext_getElem?;intro k;rw[Array.getElem?_modify,QxC]
  by_cases hk:g=k
  ·subst hk;rw[if_pos Z,if_pos Z,if_pos hgl,hg];rfl
  ·rw[if_neg hk,if_neg hk]
 have hrun:(convert t t (.slice (some ⟨g,0,none⟩) l.length cap)).run P w=.ok (.slice (some ⟨g,0,none⟩) l.length cap) (w.freeze ⟨g,cur.size,none⟩ 1):=by
  simp[convert,run_underlying ht,run_underlying he,markStringish,shape,freeze,Sem.run,World.shape?,hg]
 rw[hfr]at hrun
 have hgr:w.grownBy {w with heap:=w.heap.setIfInBounds g (.cells cur e (cur.size,cur.size+1))} (some g):=
  ⟨Z,Z,Z,by simp,fun k _ hne=>by
   show(w.heap.setIfInBounds g _)[k]? = _
   rw[QxC,if_neg (fun e=>hne (by rw[e]))]⟩
 have hmem:BN.row (.slice (some ⟨g,0,none⟩) l.length cap) e 1 l.length xs∈O:=(Ff hi).mem_iff.2 (.head _);have hge:w0.heap.size<=g:=hL.own _ hmem g Z
 have hno:owned (Mm O i) g=false:=by
  cases hc:owned (Mm O i) g with
  | false=>rfl
  | true=>
   obtain⟨r,hr,hb'⟩:=Dq.1 hc;have hd:=QxX.1 (hL.perm (Ff hi).symm).Wc;exact absurd hb' (hd.1 r hr g Z)
 have hL':=(hL.AR hi).Z7 hgr (Qzx _) hge hno
 have hle:Le (fz w O) (fz {w with heap:=w.heap.setIfInBounds g (.cells cur e (cur.size,cur.size+1))} (Mm O i)):=fun b o hbo=>by
  have hbg:b≠g:=fun e=>by
   subst e;unfold fz at hbo;rw[if_pos (Dq.2 ⟨_,hmem,Z⟩)]at hbo
   cases hbo
  have h1:=Ah (w:=w) hi b o hbo;unfold fz at h1 ⊢
  split at h1
  ·cases h1
  ·rename_i ho;rw[if_neg ho]
   show(w.heap.setIfInBounds g _)[b]? = some o
   rw[QxC,if_neg (fun e=>hbg e.symm)];exact h1
 refine E3 hn.e (fun ρ hρ=>by simp[execOp,hρ x _ hx,hrun]) (h _ hL' hle ?_);refine⟨some ⟨g,0,none⟩,cap,Z,hnc,hcm,(fun h=>by cases h),fun A hA _=>?_⟩
 cases hA
 refine⟨Z,fun j y hy=>?_⟩;obtain⟨c,hc,hcell⟩:=hel.at j y hy;refine⟨c,hc,fun k u hu=>?_⟩;have h1:=hcell k u hu;rw[<- htake,QxK]at h1
 split at h1
 ·have hgz:gz H w0 {w with heap:=w.heap.setIfInBounds g (.cells cur e (cur.size,cur.size+1))} (Mm O i) g=some (.cells cur e (cur.size,cur.size+1)):=by
   apply Ou;unfold nf fz;rw[if_pos hge,hno]
   show(w.heap.setIfInBounds g _)[g]? = _
   rw[QxC,if_pos Z,if_pos hgl]
  simp only[Addr.add_lit,Qzd,I6,hgz]
  simpa using h1
 ·cases h1
end
theorem CJ.part{H:PH}{p:Addr}{c:Qq5}(h:CJ H p c)(m:Nat):CJ H p (c.take m):=
 ⟨h.1,fun j u hu=>h.2 j u (by
  rw[QxK]at hu
  split at hu
  ·exact hu
  ·cases hu)⟩
section
variable {P:Program}{L:Env}{w w0:World}{O:List BN}{x:Operand}{ty t:TypeId}{H:PH}
theorem SQ{α:Type}{r:Rp α}{v:Value}{l:List α}(h:AL r H v l):(v=.slice none 0 0/\l=[])\/∃A n c,v=.slice (some A) n c:=by
 obtain⟨a,cap,h1,h2,_,b,_⟩:=h.ex
 cases a with
 | none=>
  have hc:=b Z;have hl:l.length=0:=by omega
  left
  rw[h1,hl,hc];exact⟨Z,Qz0 hl⟩
 | some A=>exact .inr ⟨A,_,_,h1⟩
theorem SR[Dr]{y:Operand}{e t':TypeId}[hx:Qqq (ev L x) (some (.slice none 0 0))][hy:Qqq (ev L y) (some (.slice none 0 0))][ht:Qqq (P.underlying t) (some (.slice e))]:Bu P L w (.binOp .eql t x y t') ty (.bool true):=by
 intro w' _ ρ hρ dst pos af g;have key:∀dd:Nat,(Op.equalIn (dd+1) t (.slice none 0 0) (.slice none 0 0)).run P w'=.ok true w':=fun dd=>by simp[Op.equalIn,run_underlying ht.e]
 have a:(Op.equal t (.slice none 0 0) (.slice none 0 0)).run P w'=.ok true w':=key 9999;simp[execOp,hρ x _ hx.e,hρ y _ hy.e,eqGuard,binOp,a]
theorem SS[Dr]{v:Value}{y:Operand}{e t':TypeId}[hx:Qqq (ev L x) (some v)][hy:Qqq (ev L y) (some (.slice none 0 0))][ht:Qqq (P.underlying t) (some (.slice e))](hv:∃A n c,v=.slice (some A) n c):Bu P L w (.binOp .eql t x y t') ty (.bool false):=by
 obtain⟨A,n,c,rfl⟩:=hv;intro w' _ ρ hρ dst pos af g;have key:∀dd:Nat,(Op.equalIn (dd+1) t (.slice (some A) n c) (.slice none 0 0)).run P w'=.ok false w':=fun dd=>by simp[Op.equalIn,run_underlying ht.e]
 have a:(Op.equal t (.slice (some A) n c) (.slice none 0 0)).run P w'=.ok false w':=key 9999;simp[execOp,hρ x _ hx.e,hρ y _ hy.e,eqGuard,binOp,a]
theorem SU[Dr]{α:Type}(r:Rp α){e:TypeId}(hL:AW w0 O w)(hH:Le H (hp w0)):Cv e r H w0 w (.slice none 0 0) ([]:List α):=
 (CF r H e hL).1.Hn (i:=0) hH Z (CF r H e hL).2.2
end
end Go.E
namespace Go.E
open Go Go.RowKit
section
variable {P:Program}{n:Sz}{ops:Array Oper}{Q:Exit->Act->World->Prop}{L:Env}{w w0:World}{O:List BN}{rest:List Oper}{d:Nat}{ty:TypeId}{pos:String}{af:Array Edge}{x y:Operand}{t tn e:TypeId}{H:PH}
theorem Xy[Dr]{a:Option Addr}{m c:Nat}(hx:ev L x=some (.slice a m c))[ht:Qqq (P.underlying t) (some (.slice e))]:Bu P L w (.call ⟨.builtin .cap,#[x],#[t]⟩) ty (.int .i64 (c:Int)):=by
 intro w' _ ρ hρ dst pos af g;simp[execOp,resolve,invoke,builtin,hρ x _ hx,Builtin.cap_,run_underlying ht.e]
 rfl
theorem Wp[Dr]{k kn:IntKind}{zz:Value}{bt m:Nat}[hx:Qqq (ev L x) (some (.slice none 0 0))](hy:ev L y=some (.int k (m:Int)))(ht:P.underlying t=some (.slice e))[htn:Qqq (P.underlying tn) (some (.int kn))][hz:Qqx P e zz 1 bt][hzc:Qqq zz.cells (#[zz])][hn:Qqq (Qzz d n.n) true](c:0<m)(a:(m:Int)<=9223372036854775807)(b:m * bt<=281474976710656)
  (h:∀g cap cur w',Ext w w'->w.heap.size<=g->w'.heap[g]? = some (.cells cur e (0,0))->cap<=maxLen->cur.size=cap->S P n ops Q rest ((d,.slice (some ⟨g,0,none⟩) m cap)::L) w') :
  S P n ops Q (⟨some d,.call ⟨.builtin .append,#[x,y],#[t,tn]⟩,ty,pos,af,none⟩::rest) L w:=by
 obtain⟨inf,f,i,j,l⟩:=hz.e.parts;have hr:=Lib.run_append_nil_zeros (P:=P) w t tn ty e inf zz k kn ht htn.e f i m c (by rw[j];decide) a (by rw[l];exact b);have hge:=grownCap_ge w m 0 e;have hsz:∀k,(Builtin.zeroCells zz.cells k).size=k:=fun k=>by rw[hzc.e];simp[Builtin.zeroCells]
 refine E3 (v:=.slice (some ⟨w.heap.size,0,none⟩) m (grownCap w m 0 e)) (w':=w.drew.alloc (.cells (Builtin.zeroCells zz.cells m++Builtin.zeroCells zz.cells (grownCap w m 0 e - m)) e)) hn.e (fun ρ hρ=>by simp[execOp,resolve,invoke,builtin,hρ x _ hx.e,hρ y _ hy,hr]) (h _ _ (Builtin.zeroCells zz.cells m++Builtin.zeroCells zz.cells (grownCap w m 0 e - m)) _ ?_ (Qzx _) ?_ (grownCap_le_maxLen w m 0 e (by unfold maxLen;omega)) ?_)
 ·exact(show Ext w w.drew from LC).trans (Ej _ _)
 ·show(w.heap.push _)[w.heap.size]? = _
  simp
 ·rw[Array.size_append,hsz,hsz];omega
theorem XO[Dr]{g m cap:Nat}{k:IntKind}{zz:Value}{bt:Nat}(hx:ev L x=some (.slice (some ⟨g,0,none⟩) m cap))[hy:Qqq (ev L y) (some (.int k 0))][ht:Qqq (P.underlying t) (some (.slice e))][hz:Qqx P e zz 1 bt]:Bu P L w (.slice t x none (some y) none) ty (.slice (some ⟨g,0,none⟩) 0 cap):=by
 obtain⟨inf,a,_,_,_⟩:=hz.e.parts;intro w' _ ρ hρ dst pos af gd;simp[execOp,hρ x _ hx,hρ y _ hy.e,Instr.sliceAt,run_underlying ht.e,Instr.slice,Instr.sliceBounds,Instr.sliceBound,asIntOf,sizeOf,typeInfo,a];exact fun _=>by rw[Addr.add_lit]
theorem SV[Dr]{k:IntKind}{zz:Value}{bt:Nat}[hx:Qqq (ev L x) (some (.slice none 0 0))][hy:Qqq (ev L y) (some (.int k 0))][ht:Qqq (P.underlying t) (some (.slice e))][hz:Qqx P e zz 1 bt]:Bu P L w (.slice t x none (some y) none) ty (.slice none 0 0):=by
 obtain⟨inf,a,_,_,_⟩:=hz.e.parts;intro w' _ ρ hρ dst pos af gd;simp[execOp,hρ x _ hx.e,hρ y _ hy.e,Instr.sliceAt,run_underlying ht.e,Instr.slice,Instr.sliceBounds,Instr.sliceBound,asIntOf,sizeOf,typeInfo,a]
theorem LW[Dr]{l:Qq3}{k:IntKind}{i:Int}[hx:Qqq (ev L x) (some (.string ⟨l.toArray⟩))][hy:Qqq (ev L y) (some (.int k i))][ht:Qqq (P.underlying t) (some .string)](hi:0<=i/\i<(l.length:Int)):Bu P L w (.index t x y) ty (.int .u8 ((l.getD i.toNat Qq1).toNat:Int)):=by
 intro w' _ ρ hρ dst pos af g;have h1:i.toNat<l.length:=by omega
 have h2:(⟨l.toArray⟩:ByteArray)[i.toNat]? = some (l.getD i.toNat Qq1):=by
  have hb:i.toNat<(⟨l.toArray⟩:ByteArray).size:=h1;rw[show l.getD i.toNat Qq1=(⟨l.toArray⟩:ByteArray)[i.toNat] by rw[Qz7,List.getElem?_eq_getElem h1];rfl];simp[hb]
 simp[execOp,hρ x _ hx.e,hρ y _ hy.e,Instr.index,asIntOf,run_underlying ht.e,hi.1,h2]
end
end Go.E
namespace Go.E
open Go Go.RowKit
section
variable {P:Program}{n:Sz}{m fuel:Nat}{l:List Oper}{Q:Exit->Act->World->Prop}{L:Env}{w w0:World}{done:List Nat}{i d:Nat}{op:Op}{ty:TypeId}{pos:String}{af:Array Edge}
end
end Go.E
namespace Go.E
open Go Go.RowKit
section
variable {P:Program}{L:Env}{w:World}{x y:Operand}{ty:TypeId}{H H':PH}{u v:Value}
end
end Go.E
namespace Go.E
open Go Go.RowKit
section
variable {P:Program}{L:Env}{w:World}{x y:Operand}{ty t t' e:TypeId}
theorem Se[Dr]{a c:Int}{k':IntKind}[hx:Qqq (ev L x) (some (.int .i64 a))][hy:Qqq (ev L y) (some (.int k' c))](hc:(0<=c/\c<=63)/\Go.L.BH (a * 2 ^ c.toNat)):Bu P L w (.binOp .shl t x y t') ty (.int .i64 (a * 2 ^ c.toNat)):=by
 obtain⟨⟨b,h1⟩,h2⟩:=hc;obtain⟨m,rfl⟩:=QzD b;rw[Int.toNat_natCast]at h2 ⊢;exact Sb (hx:=⟨hx.e⟩) (hy:=⟨hy.e⟩) (by simp[IntKind.bits];omega) (wrap64 h2.1 h2.2)
theorem AV[Dr]{p:Addr}(hx:ev L x=some (.pointer (some p))):Bu P L w (.nilCheck x) ty (.pointer (some p)):=by
 intro w' _ ρ hρ dst pos af g;simp[execOp,hρ x _ hx]
end
section
variable {P:Program}{n:Sz}{ops:Array Oper}{Q:Exit->Act->World->Prop}{L:Env}{w w0:World}{O:List BN}{rest:List Oper}{d:Nat}{ty:TypeId}{pos:String}{af:Array Edge}{x:Operand}{t t' e:TypeId}{H:PH}
theorem TZ[Dr](w:World)(e:TypeId){l:Qq3}(hl:l.length<=9223372036854775807):Ext w (Lib.bytesWorld w e ⟨l.toArray⟩)/\AL .byte (nw w (Lib.bytesWorld w e ⟨l.toArray⟩)) (.slice (some ⟨w.heap.size,0,none⟩) l.length (grownCap w l.length 0 e)) l:=by
 have hs:(ByteArray.mk l.toArray).size=l.length:=by simp[Qxk]
 refine⟨⟨⟨Z,Z,Z,?_,fun k hk=>?_⟩,fun _=>(by first | exact Qzx _ | exact Nat.le_succ _)⟩,⟨some ⟨w.heap.size,0,none⟩,_,Z,grownCap_ge _ _ _ _,grownCap_le_maxLen _ _ _ _ (by unfold maxLen;omega),(fun h=>by cases h),fun A hA _=>?_⟩⟩
 ·rw[Lib.bytesWorld_size];omega
 ·exact Lib.bytesWorld_at_old w e _ k hk
 ·cases hA
  refine⟨Z,fun i b hb=>⟨_,Z,fun j u hu=>?_⟩⟩;have hi:=(Qxq.1 hb).1
  cases j with
  | zero=>
   simp only[List.getElem?_cons_zero,Option.some.injEq]at hu;subst hu
   show I6 _ (Addr.add ⟨w.heap.size,0,none⟩ (i * 1+0))=_
   have:=Lib.bytesWorld_cell w e ⟨l.toArray⟩ i (by rw[hs];exact hi);simp only[Addr.add_lit,Qzd,Qzy,Nat.add_zero,I6,nw,Qzx,if_true];unfold World.cell? at this;rw[show(l.toArray.toList.getD i 0)=b by simp[Qz7,hb]]at this;exact this
  | succ j=>cases hu
theorem YU[Dr]{l:Qq3}{u:TypeDesc}[hx:Qqq (ev L x) (some (.string ⟨l.toArray⟩))][ht:Qqq (P.underlying t) (some u)][ht':Qqq (P.underlying t') (some (.slice e))][he:Qqq (P.underlying e) (some (.int .u8))][hn:Qqq (Qzz d n.n) true](hL:AW w0 O w)(hl:l.length<=9223372036854775807)
  (h:∀v w',Ext w w'->AW w0 O w'->Le (fz w O) (fz w' O)->AL .byte (gz H w0 w' O) v l->S P n ops Q rest ((d,v)::L) w'):S P n ops Q (⟨some d,.convert t t' x,ty,pos,af,none⟩::rest) L w:=by
 obtain⟨h1,h2⟩:=TZ w e hl;have hs:(ByteArray.mk l.toArray).size=l.length:=by simp[Qxk]
 refine E3 (v:=.slice (some ⟨w.heap.size,0,none⟩) l.length (grownCap w l.length 0 e)) (w':=Lib.bytesWorld w e ⟨l.toArray⟩) hn.e (fun ρ hρ=>?_) (h _ _ h1 (hL.call h1) (Bd hL h1) (h2.mono (SP hL)));have:=Lib.run_convert_string_bytes (P:=P) w t t' e ⟨l.toArray⟩ ht.e ht'.e he.e;rw[hs]at this;simp[execOp,hρ x _ hx.e,this]
end
def Tv(O:List BN)(i:Nat):List BN:=match D5 O i with | some q=>q::Mm O i | none=>O
def Rv:List BN->List Nat->List BN
 | O,[]=>O
 | O,i::l=>Rv (Tv O i) l
theorem SW(O:List BN)(i:Nat):O.Perm (Tv O i):=by
 unfold Tv
 split
 ·rename_i q hq;exact Ff hq
 ·exact List.Perm.refl _
theorem Ni:∀(l:List Nat) (O:List BN),O.Perm (Rv O l)
 | [],_O=>List.Perm.refl _
 | i::l,O=>(SW O i).trans (Ni l (Tv O i))
theorem AW.Bn[Dr]{w0 w:World}{O O':List BN}(l:List Nat)(h:AW w0 O w)(e:Rv O l=O'):AW w0 O' w:=e ▸ h.perm (Ni l O).symm
theorem AJ[Dr]{w0 w:World}{O O':List BN}(l:List Nat)(_:AW w0 O w)(_:AW w0 O' w)(e:Rv O l=O'):Le (fz w O) (fz w O'):=by
 rw[<- e,Kg (Ni l O).symm];exact Le.refl _
abbrev DE[Dr](w0:World)(O:List BN)(w:World)(P:List BN->Prop):Prop:=AW w0 O w/\P O
end Go.E
end
noncomputable section
namespace Go.L
def Z1{α β:Type}(x:Option α)(ex:Option β)(k:α->Option β):Option β:=match x with
 | none=>ex
 | some y=>k y
end Go.L
namespace Go.E
open Go Go.RowKit
abbrev ZH(v:Value):List PanicEntry:=[{v:=v,recovered:=false}]
abbrev XP(v:Value):List PanicEntry:=[{v:=v,recovered:=true}]
def ZR(pv:Value)(R:Option Value->World->Prop):Ending->World->Prop
 | .returned v,w=>R (some v) w
 | .panicked c,w=>c=ZH pv/\R none w
 | .outgrown,_=>False
def Z8(P:Program)(f:FuncId)(args:Qq5)(w:World)(pv:Value)(R:Option Value->World->Prop):Prop:=
 Mk P f/\Calls P f args.toArray w (ZR pv R)
theorem Z8.mono{P:Program}{f:FuncId}{args:Qq5}{w:World}{pv:Value}{R R':Option Value->World->Prop}(h:Z8 P f args w pv R)(hr:∀v w',R v w'->R' v w'):Z8 P f args w pv R':=
 ⟨h.1,h.2.mono fun e w' k=>by
  cases e with
  | returned v=>exact hr _ _ k
  | panicked c=>exact⟨k.1,hr _ _ k.2⟩
  | outgrown=>exact k⟩
def Xz(P:Program)(fn:Func)(R:Value->World->Prop):Exit->Act->World->Prop:=bodyPostD P fn (Rq R)
theorem Rw{args:Qq5}{L:Env}{k:Nat}(hk:Nat.ble args.length k=true)(hL:Mz 0 args=L):Fr ⟨k,[]⟩ {tmps:=args.toArray++Qxw (k - args.toArray.size) undef,defers:=[]} L:=by
 have hk':args.length<=k:=by simpa[Nat.ble_eq]using hk
 refine⟨?_,Z,?_⟩
 ·simp;omega
 ·intro t v ht;subst hL;have⟨_,h2⟩:=OC args 0 t v ht;simp only[Nat.sub_zero]at h2;have hlt:t<args.length:=(Qxq.1 h2).1;simp only[QxZ];rw[Array.getElem?_append_left (by simpa using hlt)]
  simpa using h2
theorem QN{P:Program}{f:FuncId}{fn:Func}{c:Code}{args:Qq5}{w:World}{R:Value->World->Prop}{n:Nat}(L:Env)
  (hf : P.funcs[f]? = some fn) [hname:Qqq (fn.name == "runtime.NumGoroutine") false] (hb : fn.body = some c) (hn : fn.ntmps = n) (hk : Nat.ble args.length n = true) (hL : Mz 0 args = L)
  (h:W P ⟨n,[]⟩ c (Xz P fn R) L w):Ok P f args w R:=
 ⟨⟨fn,c,hf,hname.e,hb⟩,calls_of_wp_defers hf hb (h _ (by rw[hn];exact Rw hk hL))⟩
section
variable {P:Program}{n:Sz}{ops:Array Oper}{Q:Exit->Act->World->Prop}{L:Env}{w:World}{rest:List Oper}{d:Nat}{dst:Option Tmp}{ty:TypeId}{pos:String}{af:Array Edge}{pv:Value}
theorem UI{t:TypeId}{ms:Array (String×TypeId)}{w:World}(ht:P.underlying t=some (.interface ms))(x:Value)(hx:x=.nilIface\/∃u v,x=.iface u v):(Op.equal t x .nilIface).run P w=.ok (match x with | .nilIface=>true | _=>false) w:=by
 unfold Op.equal;obtain⟨d,hd⟩:∃d,Op.maxDepth=d+1:=⟨9999,Z⟩;rw[hd]
 rcases hx with rfl | ⟨u,v,rfl⟩ <;> simp[Op.equalIn,run_underlying ht]
theorem YV[Dr]{t t':TypeId}{x:Operand}{u:TypeId}{v:Value}{w:World}{ms:Array (String×TypeId)}[hx:Qqq (ev L x) (some (.iface u v))][ht:Qqq (P.underlying t) (some (.interface ms))]:Bu P L w (.binOp .neq t x (.const .nilIface) t') ty (.bool true):=fun w' _ ρ hρ dst pos af g=>by
 have hy:ρ (.const .nilIface)=.nilIface:=hρ _ _ Z;simp[execOp,hρ x _ hx.e,hy,eqGuard,binOp,UI ht.e (.iface u v) (.inr ⟨u,v,Z⟩)]
theorem YW[Dr]{t t':TypeId}{x:Operand}{w:World}{ms:Array (String×TypeId)}[hx:Qqq (ev L x) (some .nilIface)][ht:Qqq (P.underlying t) (some (.interface ms))]:Bu P L w (.binOp .neq t x (.const .nilIface) t') ty (.bool false):=fun w' _ ρ hρ dst pos af g=>by
 have hy:ρ (.const .nilIface)=.nilIface:=hρ _ _ Z;simp[execOp,hρ x _ hx.e,hy,eqGuard,binOp,UI ht.e .nilIface (.inl Z)]
abbrev YI(g:FuncId)(cap:Qq5):Deferred:={target:=.fn (.func g) cap.toArray,args:=#[]}
theorem Tw{k:Nat}{ds:List Deferred}{g:FuncId}{cap:Qq5}{fo:Operand}(hf:ev L fo=some (.func (.func g) #[] cap.toArray))(h:S P ⟨k,YI g cap::ds⟩ ops Q rest L w):
  S P ⟨k,ds⟩ ops Q (⟨none,.defer ⟨.value fo,#[],#[]⟩,ty,pos,af,none⟩::rest) L w:=
 TS Z fun a fr=>by
  unfold Oper.wp
  have e:(execOp a.eval ⟨none,.defer ⟨.value fo,#[],#[]⟩,ty,pos,af,none⟩).run P w=.ok (.defer (YI g cap)) w:=by
   simp[execOp,resolve,fr.Rj fo _ hf,Deferred.ofValue]
  rw[e];refine h _ ⟨fr.size,?_,fr.get⟩
  show YI g cap::a.defers=_
  rw[fr.defers]
def YX(P:Program)(g:FuncId)(cap:Qq5)(u u':FrameMode)(w:World)(R:World->Prop):Prop:=
 Mk P g/\CallsD P g cap.toArray u w (fun e a w'=>(∃v,e=.returned v)/\a=u'/\R w')
theorem SX{fn:Func}{tmps:Array Value}{R:Ending->World->Prop}{g:FuncId}{cap:Qq5}{u u':FrameMode}{Rd:World->Prop}(hu:u≠.run)(hs:settle u'=.returning)(h:YX P g cap u u' w Rd)
  (hr:∀w',Rd w'->∃v,(results fn tmps).run P w'=.ok v w'/\R (.returned v) w'):Leaves P fn tmps R [YI g cap] u w:=by
 obtain ⟨fn', c, h1, h2, h3⟩ := h.1;have h2' : ¬fn'.name = "runtime.NumGoroutine" := by simpa using h2
 refine leaves_cons (f:=g) (args:=cap.toArray) hu (by simp[invoke,callFunc,h1,h2',h3]) (h.2.mono fun e b w' ⟨⟨v,he⟩,a,hR⟩=>?_);subst he;subst a;simp only[hs,Leaves];exact hr w' hR
theorem Tx{k:Nat}{fn:Func}{R:Value->World->Prop}{g:FuncId}{cap:Qq5}{Rd:World->Prop}(h:YX P g cap .returning .returning w Rd)
  (hr:∀w',Rd w'->∀a,Fr ⟨k,[YI g cap]⟩ a L->∃v,(results fn a.tmps).run P w'=.ok v w'/\R v w'):At ⟨k,[YI g cap]⟩ (Xz P fn R) .ret L w:=fun a fr=>by
 show Leaves P fn a.tmps (Rq R) a.defers .returning w
 rw[fr.defers];exact SX Qqc Z h fun w' hR=>by obtain⟨v,h1,h2⟩:=hr w' hR a fr;exact⟨v,h1,v,Z,h2⟩
theorem UJ{fn:Func}{q q':ResultVar}{v v':Value}{a:Act}(hl:fn.results = #[q,q'])(h:Rr P L w q v)(h':Rr P L w q' v')(fr:Fr n a L):(results fn a.tmps).run P w=.ok (.tuple #[v,v']) w:=by
 rw[HN,hl];simp[h.run fr,h'.run fr]
inductive UK (pv:Value):FrameMode->FrameMode->Value->Prop
 | no:UK pv .returning .returning .nilIface
 | yes:UK pv (.panicking (ZH pv)) (.panicking (XP pv)) pv
end
end Go.E
namespace Go.E
open Go Go.RowKit
def Mo(Q:Exit->Act->World->Prop):Prop:=∀a w,¬Q .outgrown a w
section
variable {P:Program}{n:Sz}{Q:Exit->Act->World->Prop}{L:Env}{w:World}
theorem J2{fn:Func}{R:Value->World->Prop}:Mo (Ml P fn R):=fun _ _ ⟨_,h,_⟩=>by cases h
theorem FX{y:Code}(h:Mo Q):Mo (OB P y Q):=fun a w k=>h a w k
theorem J3{σ:Type}{I:σ->Env}{R:σ->World->Prop}{μ:σ->Nat}{x:σ}(h:Mo Q):Mo (QH n I R μ x Q):=fun a w k=>h a w k
theorem CP{id:Nat}(h:Mo Q):Mo (Exit.inBlock id Q):=fun a w k=>h a w k
theorem Ty{c:Code}(h:W P n c (Exit.noGoto Q) L w):W P n (.scope c) Q L w:=fun a fr=>wp_scope_straight (h a fr)
theorem J4(h:At n Q .ret L w):At n (Exit.noGoto Q) .ret L w:=h
end
def VS(F:Fence):Prop:=F=Fence.wide\/∃l,F=Fence.wide.inRound l
theorem VS.fn{F:Fence}(h:VS F)(f:FuncId):F.fn f:=by rcases h with rfl | ⟨l,rfl⟩ <;> exact trivial
theorem VS.dep{F:Fence}(h:VS F):F.depth=none:=by rcases h with rfl | ⟨l,rfl⟩ <;> rfl
theorem VS.calls{F:Fence}(h:VS F){n:Nat}{P:Program}{f:FuncId}{args:Array Value}{w:World}{R:Ending->World->Prop}(k:Calls P f args w R):CallsIn F n P f args w R:=by
 rcases h with rfl | ⟨l,rfl⟩
 ·exact callsIn_wide.2 k
 ·exact(callsIn_wide.2 k).inRound l
theorem VS.rows{F:Fence}(h:VS F){n:Nat}{P:Program}{row:String}{args:Array Value}{w:World}{R:Value->World->Prop}(k:Rows P row args w R):RowsIn F n P row args w R:=by
 intro c cs _;obtain⟨v,w',hR,hs⟩:=k c cs;refine⟨v,w',hR,?_⟩
 rcases h with rfl | ⟨l,rfl⟩
 ·exact stepsIn_wide.2 hs
 ·rw[fenced_inRound];exact stepsIn_wide.2 hs
def M5:Op->Bool
 | .defer _=>true
 | _=>false
theorem UL{o:Op}(h:M5 o=false):∀c,o≠.defer c:=fun c e=>by subst e;cases h
section
variable {P:Program}{n:Sz}{ops:Array Oper}{Q:Exit->Act->World->Prop}{L:Env}{w:World}{rest:List Oper}
theorem PV{F:Fence}(hF:VS F){o:Oper}(hd:M5 o.op=false){next:Act->World->Prop}{a:Act}(h:o.wp P a w next Q):o.wpIn F 0 P a w next Q:=by
 refine⟨fun f _=>hF.fn f,?_⟩;rw[Oper.semAt_eq _ _ _ (UL hd)];unfold Oper.wp at h;generalize (execOp a.eval o).run P w=r at h ⊢;have b:F.depth.isSome=true->1<=0:=fun e=>by rw[hF.dep]at e;cases e
 cases r with
 | ok nx w'=>
  cases nx <;> simp only[Oper.upon]at h <;> simp only[Oper.uponIn]
  case value v=>exact h
  case skip=>exact h
  case defer d=>exact h
  case enter f args=>exact⟨b,(hF.calls h).mono fun e w' k=>by cases e <;> exact k⟩
  case row row args=>exact⟨b,hF.rows h⟩
 | halt x w'=>cases x <;> simp only[Oper.upon]at h <;> simp only[Oper.uponIn];exact h
theorem Jl{F:Fence}(hF:VS F)(hq:Mo Q):∀(l:List Oper) (a:Act) (w:World),l.all (fun o=>!M5 o.op)=true->wpList P ops Q l a w->wpListIn F 0 P ops Q l a w
 | [],_,_,_,h=>h
 | o::l,a,w,hd,h=>by
  simp only[List.all_cons,Qza,Bool.not_eq_true']at hd;simp only[wpList]at h;simp only[wpListIn]
  split
  ·rename_i hw;rw[if_pos hw]at h
   rcases h with h | ⟨_,a',w',h⟩
   ·have h1:=PV hF hd.1 h;exact Oper.wpIn_mono (fun a w k=>Jl hF hq l a w (by simpa using hd.2) k) h1
   ·exact absurd h (hq a' w')
  ·rename_i hw;rw[if_neg hw]at h;exact⟨fun f _=>hF.fn f,Jl hF hq l _ _ (by simpa using hd.2) h⟩
def SY(P:Program)(n:Sz)(ops:Array Oper)(Q:Exit->Act->World->Prop)(l:List Oper)(L:Env)(w:World):Prop:=∀a,Fr n a L->wpListIn Fence.wide 0 P ops Q l a w
def yQ(P:Program)(ops:Array Oper)(Q:Exit->Act->World->Prop)(rest:List Oper):Exit->Act->World->Prop:=Exit.then (fun a w=>wpListIn Fence.wide 0 P ops Q rest a w) Q
theorem XQ{id:Nat}{l:List Oper}(h:SY P n l.toArray Q l L w):W P n (.region id l.toArray false) Q L w:=fun a fr=>(wpIn_wide (n:=0)).1 (wpIn_region_lit (h a fr))
theorem XR{id:Nat}{l:List Oper}{y:Code}(h:SY P n l.toArray (OB P y Q) l L w):W P n (.seq (.region id l.toArray false) y) Q L w:=AM (XQ h)
theorem Ua{y:Code}(h:W P n y Q L w):SY P n ops (OB P y Q) [] L w:=fun a fr=>h a fr
theorem Nj{o:Oper}(hq:Mo Q)[hd:Qqq (M5 o.op) false](h:S P n ops (yQ P ops Q rest) [o] L w):SY P n ops Q (o::rest) L w:=fun a fr=>by
 have h1:=h a fr;simp only[wpList]at h1;simp only[wpListIn]
 split
 ·rename_i hw;rw[if_pos hw]at h1
  rcases h1 with h1 | ⟨_,a',w',h1⟩
  ·have h2:=PV (.inl Z) hd.e h1
   have hm:∀{r:Result Next},o.uponIn Fence.wide 0 P a (fun a w=>yQ P ops Q rest .normal a w) (yQ P ops Q rest) r->o.uponIn Fence.wide 0 P a (wpListIn Fence.wide 0 P ops Q rest) Q r:=by
    intro r hr
    cases r with
    | ok nx w'=>cases nx <;> exact hr
    | halt x w'=>cases x <;> exact hr
   exact⟨h2.1,hm h2.2⟩
  ·exact absurd h1 (hq a' w')
 ·rename_i hw;rw[if_neg hw]at h1;exact⟨fun _ _=>trivial,h1⟩
theorem J5(h:SY P n ops Q rest L w):S P n ops (yQ P ops Q rest) [] L w:=fun a fr=>h a fr
end
def WR(P:Program)(l:Nat)(n:Sz)(c:Code)(Q:Exit->Act->World->Prop)(L:Env)(w:World):Prop:=∀a,Fr n a L->c.wpIn (Fence.wide.inRound l) 0 P Q a w
section
variable {P:Program}{j:Nat}{n:Sz}{Q:Exit->Act->World->Prop}{L:Env}{w:World}
theorem OJ{id:Nat}{l:List Oper}(hd:l.all (fun o=>!M5 o.op)=true)(hq:Mo Q)(h:S P n l.toArray Q l L w):WR P j n (.region id l.toArray false) Q L w:=fun a fr=>
 wpIn_region_lit (Jl (.inr ⟨j,Z⟩) hq l a w hd (h a fr))
theorem Sf{id:Nat}{c:Code}(h:WR P j n c (Exit.inBlock id Q) L w):WR P j n (.block id c) Q L w:=fun a fr=>wpIn_block (h a fr)
theorem AW.putAt[Dr]{a:World}{O:List BN}{i b:Nat}{o:Obj}(o':Obj)(hL:AW a O w)(hi:D5 O i=some (.obj b o)):AW a (Di O i (.obj b o')) (w.putObj b o')/\Le (fz w O) (fz (w.putObj b o') (Di O i (.obj b o'))):=by
 have hg:w.grownBy (w.putObj b o') (some b):=⟨Z,Z,Z,by simp,fun k _ hk=>World.putObj_heap_other (fun e=>hk (by rw[e]))⟩;have hlt:b<w.heap.size:=(hL.at hi).lt Z;exact⟨hL.LU hi (Qzx _) hg (World.putObj_heap_same hlt) (fun k e=>.inl e),Hv hL hi hg (fun k e=>.inl e)⟩
def XS(P:Program)(l:Nat)(body:Code)(R:Ending->World->Prop):Exit->Act->World->Prop:=
 Exit.then (fun a₁ w₁=>∃w₂,(Instr.beginRound l).run P w₁=.ok () w₂/\body.wpIn (Fence.wide.inRound l) 0 P (roundPost P l R) a₁ w₂) (fun _ _ _=>False)
theorem Tz{l:Nat}{body:Code}{R:Ending->World->Prop}:Mo (XS P l body R):=fun _ _ h=>h
theorem UM{l:Nat}{R:Ending->World->Prop}:Mo (roundPost P l R):=fun _ _ h=>h
theorem Sg[Dr]{l i:Nat}{rec:Loop}{body:Code}{R:Ending->World->Prop}{b:World}{O:List BN}(hst:rec.state=.ready)(hL:AW b O w)(hi:D5 O i=some (.obj l (.loop rec)))
  (h:∀w',AW b (Di O i (.obj l (.loop {rec with state:=.busy}))) w'->Le (fz w O) (fz w' (Di O i (.obj l (.loop {rec with state:=.busy}))))->WR P l n body (roundPost P l R) L w'):At n (XS P l body R) .normal L w:=fun a fr=>by
 have h1:=hL.at hi;have hp:=hL.putAt (.loop {rec with state:=.busy}) hi;exact⟨_,run_beginRound h1 hst,h _ hp.1 hp.2 a fr⟩
theorem Ow[Dr]{l i:Nat}{rec:Loop}{R:Ending->World->Prop}{b:World}{O:List BN}(hL:AW b O w)(hi:D5 O i=some (.obj l (.loop rec)))
  (h:∀w',AW b (Di O i (.obj l (.loop {rec with state:=.ready,pending:=none}))) w'->Le (fz w O) (fz w' (Di O i (.obj l (.loop {rec with state:=.ready,pending:=none}))))->R (.returned (.bool true)) w'):At n (roundPost P l R) .normal L w:=fun a _=>by
 have h1:=hL.at hi;have hp:=hL.putAt (.loop {rec with state:=.ready,pending:=none}) hi;exact⟨_,_,run_endRound none h1,h _ hp.1 hp.2⟩
def UN(P:Program)(fn:Func)(R:Value->World->Prop):Exit->Act->World->Prop:=bodyPostM Fence.wide 0 P fn (Rq R)
theorem QO{f:FuncId}{fn:Func}{c:Code}{args:Qq5}{R:Value->World->Prop}{k:Nat}(L:Env)
  (hf : P.funcs[f]? = some fn) [hname:Qqq (fn.name == "runtime.NumGoroutine") false] (hb : fn.body = some c) (hn : fn.ntmps = k) (hk : Nat.ble args.length k = true) (hL : Mz 0 args = L)
  (h:W P ⟨k,[]⟩ c (UN P fn R) L w):Ok P f args w R:=
 ⟨⟨fn,c,hf,hname.e,hb⟩,callsIn_wide.1 (callsIn_of_wp_marks hf hb trivial ((wpIn_wide (n:=0)).2 (h _ (by rw[hn];exact Rw hk hL))))⟩
end
end Go.E
end
noncomputable section
namespace Go.E
open Go Go.RowKit
structure Nb (α:Type) where
 pre:α->Qq5
 ZS:α->Qq3
 ZI:α->Qq3->α
 sz:Nat
 len:∀x,(pre x).length+1=sz
 one:∀x,∀u∈pre x,u.oneCell'=true
 ZT:∀x d,pre (ZI x d)=pre x
 ZU:∀x d,ZS (ZI x d)=d
def Nb.b:Nb Qq3:=⟨fun _=>[],fun x=>x,fun _ d=>d,1,fun _=>Z,(fun _ _ h=>by cases h),fun _ _=>Z,fun _ _=>Z⟩
def Nb.s:Nb (Int×Qq3):=⟨fun x=>[.int .i64 x.1],fun x=>x.2,fun x d=>(x.1,d),2,fun _=>Z,(fun _ u h=>by simp at h;subst h;rfl),fun _ _=>Z,fun _ _=>Z⟩
section
variable {α:Type} (N:Nb α) (e:TypeId)
end
section
variable {α:Type}{N:Nb α}{e:TypeId}
end
section
variable {P:Program}{n:Sz}{ops:Array Oper}{Q:Exit->Act->World->Prop}{L:Env}{w w0:World}{O:List BN}{rest:List Oper}
 {d:Nat}{ty:TypeId}{pos:String}{af:Array Edge}{α:Type} [Inhabited α] {N:Nb α}{x y:Operand}{vo:Value}{t e eo:TypeId}{A:List BN}{l:List α}{vs:Qq5}
end
section
variable {P:Program}{n:Sz}{ops:Array Oper}{Q:Exit->Act->World->Prop}{L:Env}{w w0:World}{rest:List Oper}
 {d d':Nat}{ty ty':TypeId}{pos pos':String}{af af':Array Edge}{α:Type}{N:Nb α}{x:Operand}{v vo:Value}{t e eo:TypeId}{H:PH}{l:List α}{vs:Qq5}
end
section
variable {w w' w0:World}{A T O O':List BN}{α:Type}{N:Nb α}{r:Rp α}{vo:Value}{e eo:TypeId}{H:PH}{l:List α}{vs:Qq5}
end
end Go.E
namespace Go.E
open Go Go.RowKit
def mE{κ:Type}(enc:κ->Value):Nat->List κ->Qq5->List MapEntry
 | i,k::l,v::vs=>⟨enc k,v,i⟩::mE enc (i+1) l vs
 | _,_,_=>[]
section
variable {κ:Type}{enc:κ->Value}{k:κ}
end
structure ZJ (P:Program) {κ:Type} [DecidableEq κ] (kt:TypeId) (enc:κ->Value):Prop where
 check:∀(b:Bool) (k:κ) w,(Instr.checkKey b 10000 kt (enc k)).run P w=.ok () w
 bits:∀k,Instr.sameBits 10000 (enc k) (enc k)=true
 find:∃dd,P.underlying kt=some dd/\((∀a b,Instr.sameNow dd (enc a) (enc b)=some (decide (a=b)))\/
  ((∀a b,Instr.sameNow dd (enc a) (enc b)=none)/\∀a b w,(Op.equal kt (enc a) (enc b)).run P w=.ok (decide (a=b)) w))
section
variable {P:Program}{κ:Type} [DecidableEq κ] {kt t et:TypeId}{enc:κ->Value}{k:κ}
end
section
variable {κ β:Type} [DecidableEq κ] {k:κ}{z:Value}{enc:κ->Value}{ev':β->Value}
end
section
variable {P:Program}{n:Sz}{ops:Array Oper}{Q:Exit->Act->World->Prop}{L:Env}{w w0:World}{O:List BN}{rest:List Oper}{d:Nat}{ty t kt et:TypeId}{pos:String}{af:Array Edge}{x y x':Operand}
 {κ β:Type} [DecidableEq κ] {enc:κ->Value}{ev':β->Value}{l:List (κ×β)}{k:κ}{H:PH}
omit [DecidableEq κ] in
end
section
variable {κ α:Type} (cw:α->Qq5) (e:TypeId) (sz:Nat)
end
section
variable {κ α:Type}{cw:α->Qq5}{e:TypeId}{sz:Nat}
end
section
variable {P:Program}{n:Sz}{ops:Array Oper}{Q:Exit->Act->World->Prop}{L:Env}{w w0:World}{O:List BN}{rest:List Oper}{d:Nat}{ty ty' t mt kt et e:TypeId}{pos pos':String}{af af':Array Edge}{x y x' m':Operand}
 {κ α:Type} [DecidableEq κ] {enc:κ->Value}{cw:α->Qq5}{sz:Nat}{l:List (κ×List α)}{vs:Qq5}{k:κ}{H:PH}{A:List BN}
end
def XT{κ β:Type}(enc:κ->Value)(r:Rp β)(H:PH)(v:Value)(l:List (κ×β)):Prop:=
 ∃b vs,v=.map (some b)/\H b=some (.map (mE enc 0 (l.map Prod.fst) vs).toArray l.length)/\l.length=vs.length/\∀i x,l[i]? = some x->r.rel H x.2 [vs.getD i Qq1]
theorem XT.mono{κ β:Type}{enc:κ->Value}{r:Rp β}{H H':PH}{v:Value}{l:List (κ×β)}(h:XT enc r H v l)(hs:Le H H'):XT enc r H' v l:=by
 obtain⟨b,vs,h1,h2,h3,a⟩:=h;exact⟨b,vs,h1,hs _ _ h2,h3,fun i x hx=>r.mono hs (a i x hx)⟩
section
variable {P:Program}{L:Env}{w w0:World}{ty t kt et e:TypeId}{x y:Operand}{κ α:Type} [DecidableEq κ] {enc:κ->Value}{cw:α->Qq5}{r:Rp α}{sz:Nat}{l:List (κ×List α)}{vs:Qq5}{k:κ}{H:PH}{A:List BN}
omit [DecidableEq κ] in
end
section
variable {P:Program}{n:Sz}{ops:Array Oper}{Q:Exit->Act->World->Prop}{L:Env}{w:World}{rest:List Oper}{d:Nat}{ty t kt et:TypeId}{pos:String}{af:Array Edge}{x y:Operand}
 {κ α:Type} [DecidableEq κ] {enc:κ->Value}{r:Rp α}{l:List (κ×List α)}{k:κ}{H:PH}{v:Value}
end
end Go.E
namespace Go.E
open Go Go.RowKit
def PW(ops:Array Oper)(j:Nat):Bool:=match ops[j]? with
 | some oj=>(QzE ops.size).all fun k=>k==j||oj.after.any fun e=>Region.binds .any e&&e.on==k
 | none=>false
theorem Ub{ops:Array Oper}{i j:Nat}{oj:Oper}(hj:ops[j]? = some oj)(hi:i<ops.size)(hne:i≠j)(hnot:∀e∈oj.after,Region.binds .any e=true->e.on≠i):PW ops j=false:=by
 unfold PW;rw[hj];simp only
 cases h:(QzE ops.size).all (fun k=>k==j||oj.after.any fun e=>Region.binds .any e&&e.on==k)with
 | false=>rfl
 | true=>
  have h1:=Qxe.1 h i (List.mem_range.2 hi);simp only[Qxd,beq_iff_eq,hne,false_or]at h1;obtain⟨e,he,hb⟩:=Array.any_eq_true'.1 h1;simp only[Qza,beq_iff_eq]at hb;exact absurd hb.2 (hnot e he hb.1)
def VT(ops:Array Oper)(j k:Nat):Bool:=match ops[j]? with
 | some oj=>oj.after.any fun e=>Region.binds .any e&&e.on==k
 | none=>false
def T0(ops:Array Oper)(j:Nat):List Nat->Bool
 | []=>true
 | x::r=>(VT ops j x||r.any fun y=>VT ops y x)&&T0 ops j r
def QP(ops:Array Oper)(j:Nat)(c:List Nat):Bool:=T0 ops j c&&(QzE ops.size).all fun k=>k==j||c.contains k||VT ops k j
def Z2(ops:Array Oper)(listed:Array Bool):Prop:=∀k x,VT ops k x=true->listed.getD k true=true->listed.getD x true=true
def YJ(ops:Array Oper)(listed:Array Bool):Bool:=Nat.ble listed.size ops.size&&(QzE ops.size).all fun k=>!(listed.getD k true)||(QzE ops.size).all fun x=>!(VT ops k x)||listed.getD x true
theorem UO{ops:Array Oper}{listed:Array Bool}(h:YJ ops listed=true):Z2 ops listed:=fun k x hd hk=>by
 simp only[YJ,Qza,Qxe,List.mem_range,Qxd,Bool.not_eq_true']at h
 have hk':k<ops.size:=by
  rcases QzX k ops.size with h1 | h1
  ·exact h1
  ·simp[VT,QxB h1]at hd
 rcases QzX x ops.size with hx | hx
 ·rcases h.2 k hk' with h1 | h1
  ·rw[h1]at hk;cases hk
  ·rcases h1 x hx with h2 | h2
   ·rw[h2]at hd;cases hd
   ·exact h2
 ·have:=Nat.le_of_ble_eq_true h.1;rw[Qz9,QxB U];rfl
theorem T1{l:Array Bool}{k:Nat}(h:l.getD k false=true):l.getD k true=true:=by
 rw[Qz9]at *
 cases hq:l[k]? with
 | none=>rfl
 | some b=>rw[hq]at h;exact h
theorem Ph{ops:Array Oper}{listed:Array Bool}{j:Nat}(hc:Z2 ops listed)(hj:∀x,VT ops j x=true->listed.getD x true=true):∀(c:List Nat),T0 ops j c=true->∀x∈c,listed.getD x true=true
 | [],_,x,hx=>by cases hx
 | y::r,h,x,hx=>by
  simp only[T0,Qza,Qxd,List.any_eq_true]at h;have ih:=Ph hc hj r h.2
  rcases List.mem_cons.1 hx with rfl | hx
  ·rcases h.1 with h1 | ⟨z,hz,h1⟩
   ·exact hj _ h1
   ·exact hc z _ h1 (ih z hz)
  ·exact ih x hx
section
variable (Inv:World->Prop) (P:Program) (ops:Array Oper) (Q:Exit->Act->World->Prop)
def LX:Nat->Array Bool->Act->World->Prop
 | 0,listed,a,w=>Region.ready .any ops listed=[]/\Q .normal a w
 | m+1,listed,a,w=>(Region.ready .any ops listed=[]->Q .normal a w)/\
  ∀i∈Region.ready .any ops listed,wpOp P ops Q i (fun a' w'=>(PW ops i=true\/(∃c,QP ops i c=true)\/Inv w')/\LX m (listed.setIfInBounds i true) a' w') a w
def J6(o:Oper)(v:Value)(a:Act):Prop:=
 (Region.wanted o (yielded ops a.tmps)=true/\∀w,Inv w->(execOp a.eval o).run P w=.ok (.value v) w)\/
 (Region.wanted o (yielded ops a.tmps)=false/\v=undef)
end
section
variable {Inv:World->Prop}{P:Program}{ops:Array Oper}{Q:Exit->Act->World->Prop}
theorem PX:∀(m:Nat) (listed:Array Bool) (a:Act) (w:World),LX Inv P ops Q m listed a w->wpAny P .any ops Q m listed a w
 | 0,_,_,_,h=>h
 | m+1,_listed,_a,_w,h=>⟨h.1,fun i hi=>wpOp_mono (fun _a' _w' k=>PX m _ _ _ k.2) (h.2 i hi)⟩
theorem J6.same{o:Oper}{v:Value}{a a':Act}(hy:J6 Inv P ops o v a)(he:execOp a'.eval o=execOp a.eval o)(hw:Region.wanted o (yielded ops a'.tmps)=Region.wanted o (yielded ops a.tmps)):J6 Inv P ops o v a':=by
 unfold J6 at *;rw[he,hw];exact hy
theorem J6.op{i:Nat}{o:Oper}{v:Value}{a:Act}{w:World}(hi:ops[i]? = some o)(hy:J6 Inv P ops o v a)(hw:Inv w){K:Act->World->Prop}(h:K (a.put o.dst v) w):wpOp P ops Q i K a w:=by
 unfold wpOp;simp only[hi]
 rcases hy with ⟨h1,hv⟩ | ⟨h1,rfl⟩
 ·simp only[h1,if_true,Oper.wp,hv w hw,Oper.upon];exact .inl h
 ·simp only[h1,Qxj,if_false];exact h
theorem Wq{j:Nat}{oi oj:Oper}{v:Value}(hj:ops[j]? = some oj)(hap:oi.apart ops oj=true)(hsi:∀cs b,oi.op≠.select cs b)(hsj:∀cs b,oj.op≠.select cs b)
  (hQ:∀c a w,Q (.panic c) (a.put oi.dst v) w->Q (.panic c) a w) {K:Act->World->Prop}{a:Act}{w:World} (hy:J6 Inv P ops oi v a) (h:wpOp P ops Q j K (a.put oi.dst v) w) :
  wpOp P ops Q j (fun a' w'=>J6 Inv P ops oi v a'/\K (a'.put oi.dst v) w') a w:=by
 obtain⟨h1,h2,h3⟩:=Oper.apart_spec hap;have keep:∀a,J6 Inv P ops oi v a->∀u,J6 Inv P ops oi v (a.put oj.dst u):=fun a hy u=>hy.same (execOp_put oi hsi a oj.dst u h3) (wanted_put oi a oj.dst u h3);unfold wpOp at *;simp only[hj]at *;rw[wanted_put oj a oi.dst v h1]at h
 split
 ·rename_i hw;simp only[hw,if_true]at h
  rcases h with h | ⟨ha,hl⟩
  case inr=>exact .inr ⟨by unfold Oper.asks at *;rw[execOp_put oj hsj a oi.dst v h1]at ha;exact ha,hl⟩
  refine .inl ?_;unfold Oper.wp at *;rw[execOp_put oj hsj a oi.dst v h1]at h;generalize (execOp a.eval oj).run P w=r at *
  cases r with
  | ok x w'=>
   cases x <;> simp only[Oper.upon]at h ⊢
   case value u=>exact⟨keep a hy u,by rw[<- Act.put_comm a v u h2];exact h⟩
   case skip=>exact⟨keep a hy _,by rw[<- Act.put_comm a v undef h2];exact h⟩
   case defer d=>
    refine⟨keep {a with defers:=d::a.defers} (hy.same Z Z) _,?_⟩;rw[<- Act.put_comm _ v undef h2,<- Act.put_defers];exact h
   case enter f args=>
    refine h.mono fun e w'' he=>?_
    cases e with
    | returned u=>exact⟨keep a hy u,by rw[<- Act.put_comm a v u h2];exact he⟩
    | panicked c=>exact hQ _ _ _ he
    | outgrown=>exact he
   case row row args=>exact Rows.mono h fun u w'' he=>⟨keep a hy u,by rw[<- Act.put_comm a v u h2];exact he⟩
  | halt x w'=>
   cases x <;> simp only[Oper.upon]at h ⊢
   case panic u=>exact hQ _ _ _ h
 ·rename_i hw;simp only[hw]at h;exact⟨keep a hy _,by rw[<- Act.put_comm a v undef h2];exact h⟩
theorem NX{i:Nat}{oi:Oper}{v:Value}(hi:ops[i]? = some oi)(hsel:∀(j:Nat) (o:Oper) cs b,ops[j]? = some o->o.op≠.select cs b)(hQ:∀c a w,Q (.panic c) (a.put oi.dst v) w->Q (.panic c) a w):
  ∀
   (m:Nat) (listed:Array Bool) (a:Act) (w:World),
   (∀j oj,ops[j]? = some oj->j≠i->listed.getD j true=false->(∀e∈oj.after,Region.binds .any e=true->e.on≠i)->oi.apart ops oj=true)->
   i∈Region.ready .any ops listed->Z2 ops listed->Inv w->J6 Inv P ops oi v a->LX Inv P ops Q m (listed.setIfInBounds i true) (a.put oi.dst v) w->LX Inv P ops Q (m+1) listed a w:=by
 intro m
 induction m with
 | zero=>
  intro listed a w _ hr _ hw hy H;refine⟨fun h=>(by rw[h]at hr;cases hr),fun j hj=>?_⟩
  by_cases hji:j=i
  ·subst hji;exact hy.op hi hw ⟨.inr (.inr hw),H⟩
  ·have:=ready_mono hj hji;rw[H.1]at this
   cases this
 | succ m ih=>
  intro listed a w hfree hr hcl hw hy H;refine⟨fun h=>(by rw[h]at hr;cases hr),fun j hj=>?_⟩
  by_cases hji:j=i
  ·subst hji;exact hy.op hi hw ⟨.inr (.inr hw),H⟩
  ·have h1:=H.2 j (ready_mono hj hji);obtain⟨hjun,oj,hoj,hall⟩:=mem_ready.1 hj
   have hnot:∀e∈oj.after,Region.binds .any e=true->e.on≠i:=fun e he hb heq=>by
    have h1:=hall e he hb;have d:=(mem_ready.1 hr).1;rw[heq]at h1
    rcases QzX i listed.size with h' | h'
    ·simp[h']at d h1;rw[d]at h1;cases h1
    ·simp[QxB h']at h1
   have h2:=Wq hoj (hfree j oj hoj hji hjun hnot) (fun cs b=>hsel i oi cs b hi) (fun cs b=>hsel j oj cs b hoj) hQ hy h1
   have hfree':∀k ok,ops[k]? = some ok->k≠i->(listed.setIfInBounds j true).getD k true=false->
     (∀e∈ok.after,Region.binds .any e=true->e.on≠i)->oi.apart ops ok=true:=fun k ok hk hki hun hno=>by
    refine hfree k ok hk hki ?_ hno
    by_cases hjk:j=k
    ·subst hjk;exact hjun
    ·rw[getD_set_ne true hjk]at hun;exact hun
   have hri:i∈Region.ready .any ops (listed.setIfInBounds j true):=ready_mono hr (Ne.symm hji);refine wpOp_mono (fun a' w' ⟨hy',hI,hk⟩=>?_) h2
   have hset:LX Inv P ops Q m ((listed.setIfInBounds j true).setIfInBounds i true) (a'.put oi.dst v) w':=by
    rw[Array.setIfInBounds_comm _ _ hji];exact hk
   have hi':=(Qx0.1 hi).1
   have hjd:∀x,VT ops j x=true->listed.getD x true=true:=fun x hx=>by
    simp only[VT,hoj]at hx;obtain⟨e,he,hb⟩:=Array.any_eq_true'.1 hx;simp only[Qza,beq_iff_eq]at hb;rw[<- hb.2];exact T1 (hall e he hb.1)
   have hiun:=(mem_ready.1 hr).1
   have hI':Inv w':=by
    rcases hI.resolve_left (by rw[Ub hoj hi' (Ne.symm hji) hnot];simp)with ⟨c,hc⟩ | hI
    ·exfalso
     simp only[QP,Qza,Qxe,List.mem_range,Qxd,beq_iff_eq]at hc
     rcases hc.2 i hi' with (h3 | h3) | h3
     ·exact hji h3.symm
     ·have f:=Ph hcl hjd c hc.1 i (by simpa using h3);rw[hiun]at f;cases f
     ·obtain⟨_,oi',hoi',hall'⟩:=mem_ready.1 hr;simp only[VT,hoi']at h3;obtain⟨e,he,hb⟩:=Array.any_eq_true'.1 h3;simp only[Qza,beq_iff_eq]at hb;have g:=T1 (hall' e he hb.1);rw[hb.2,hjun]at g;cases g
    ·exact hI
   have hcl':Z2 ops (listed.setIfInBounds j true):=fun k x hd hk=>by
    by_cases hxj:x=j
    ·subst hxj;rw[Qz9,QxC]
     by_cases hs:x<listed.size
     ·simp[hs]
     ·simp[QxB (Nat.le_of_not_lt hs),hs]
    ·rw[getD_set_ne true (Ne.symm hxj)]
     by_cases hkj:k=j
     ·subst hkj;exact hjd x hd
     ·rw[getD_set_ne true (Ne.symm hkj)]at hk;exact hcl k x hd hk
   exact⟨.inr (.inr hI'),ih _ a' w' hfree' hri hcl' hI' hy' hset⟩
end
def X0(Inv:World->Prop)(P:Program)(l:List Oper)(Q:Exit->Act->World->Prop)(fuel i:Nat)(listed:Array Bool):Exit->Act->World->Prop:=Exit.then (fun a w=>(PW l.toArray i=true\/(∃c,QP l.toArray i c=true)\/Inv w)/\LX Inv P l.toArray Q fuel listed a w) Q
def Nw(Inv:World->Prop)(P:Program)(n:Sz)(l:List Oper)(Q:Exit->Act->World->Prop)(fuel:Nat)(listed:Array Bool)(L:Env)(w:World):Prop:=∀a,Fr n a L->LX Inv P l.toArray Q fuel listed a w
section
variable {Inv:World->Prop}{P:Program}{n:Sz}{l:List Oper}{Q:Exit->Act->World->Prop}{L:Env}{w:World}{y:Code}{fuel:Nat}{m:Nat}{done:List Nat}
theorem UP[Dr]{id:Nat}(Inv:World->World->Prop)(hm:P.follows .mixedOrders=true)(hl:l.length=m)(h:∀w',Ext w w'->Nw (Inv w') P n l Q m (MY m []) L w'):W P n (.region id l.toArray true) Q L w:=fun a fr=>by
 refine wp_region_any hm ?_;have:=PX _ _ _ _ (h _ LC a fr);subst hl
 simpa[MY]using this
theorem UQ{i:Nat}{o:Oper}(ho:HL l i=some o)(h:S P n l.toArray (X0 Inv P l Q fuel i (MY m (i::done))) [o] L w):
  ∀a,Fr n a L->wpOp P l.toArray Q i (fun a' w'=>(PW l.toArray i=true\/(∃c,QP l.toArray i c=true)\/Inv w')/\LX Inv P l.toArray Q fuel ((MY m done).setIfInBounds i true) a' w') a w:=
 fun a fr=>TW ho (h a fr) (fun e a w hne he=>by cases e <;> first | exact absurd Z hne | exact he)
theorem Sh{rs:List Nat}{listed:Array Bool}{a:Act}(hr:Region.ready .any l.toArray listed=rs)(hne:rs≠[])
  (h:∀i∈rs,wpOp P l.toArray Q i (fun a' w'=>(PW l.toArray i=true\/(∃c,QP l.toArray i c=true)\/Inv w')/\LX Inv P l.toArray Q fuel (listed.setIfInBounds i true) a' w') a w):LX Inv P l.toArray Q (fuel+1) listed a w:=
 ⟨fun e=>by rw[hr]at e;exact absurd e hne,fun i hi=>h i (by rw[<- hr];exact hi)⟩
theorem CK(i:Nat){o:Oper}(ho:HL l i=some o)(h:S P n l.toArray (X0 Inv P l Q fuel i (MY m (i::done))) [o] L w)(hr:Region.ready .any l.toArray (MY m done)=[i]:=by kernel_rfl):Nw Inv P n l Q (fuel+1) (MY m done) L w:=
 fun a fr=>Sh hr Qqc fun k hk=>by
  obtain rfl:k=i:=by simpa using hk
  exact UQ ho h a fr
theorem Q3(i j:Nat){o p:Oper}(ho:HL l i=some o)(hp:HL l j=some p)(h:S P n l.toArray (X0 Inv P l Q fuel i (MY m (i::done))) [o] L w)(h':S P n l.toArray (X0 Inv P l Q fuel j (MY m (j::done))) [p] L w)(hr:Region.ready .any l.toArray (MY m done)=[i,j]:=by kernel_rfl):Nw Inv P n l Q (fuel+1) (MY m done) L w:=
 fun a fr=>Sh hr Qqc fun k hk=>by
  have hk':k=i\/k=j:=by simpa using hk
  rcases hk' with rfl | rfl
  ·exact UQ ho h a fr
  ·exact UQ hp h' a fr
theorem XU{i:Nat}(hI:Inv w)(h:Nw Inv P n l Q fuel (MY m done) L w):S P n l.toArray (X0 Inv P l Q fuel i (MY m done)) [] L w:=fun a fr=>⟨.inr (.inr hI),h a fr⟩
theorem En{i:Nat}(h:Nw Inv P n l Q fuel (MY m done) L w)(hl:PW l.toArray i=true:=by kernel_rfl):S P n l.toArray (X0 Inv P l Q fuel i (MY m done)) [] L w:=fun a fr=>⟨.inl hl,h a fr⟩
theorem H5{i:Nat}(c:List Nat)(h:Nw Inv P n l Q fuel (MY m done) L w)(hl:QP l.toArray i c=true:=by kernel_rfl):S P n l.toArray (X0 Inv P l Q fuel i (MY m done)) [] L w:=fun a fr=>⟨.inr (.inl ⟨c,hl⟩),h a fr⟩
theorem Cq(h:At n Q .normal L w)(hr:Region.ready .any l.toArray (MY m done)=[]:=by kernel_rfl):Nw Inv P n l Q 0 (MY m done) L w:=fun a fr=>⟨hr,h a fr⟩
theorem Nk(s:Nat){b:Bool}{listed:Array Bool}(_hb:gt L s=some (.bool b))(h1:b=true->Nw Inv P n l Q fuel listed L w)(h2:b=false->Nw Inv P n l Q fuel listed L w):Nw Inv P n l Q fuel listed L w:=by
 cases b
 ·exact h2 Z
 ·exact h1 Z
variable {d:Nat}{op:Op}{ty:TypeId}{pos:String}{af:Array Edge}
theorem Aw[Dr](i:Nat){v:Value}(hq:GR Q)(hI:Inv w)(ho:HL l i=some ⟨some d,op,ty,pos,af,none⟩)(hr:∀w,Inv w->Bu P L w op ty v)(hn:Qzz d n.n=true)
  (h:Nw Inv P n l Q fuel (MY m (i::done)) ((d,v)::L) w)(hc:(NW l m done i&&YJ l.toArray (MY m done))=true:=by kernel_rfl):Nw Inv P n l Q (fuel+1) (MY m done) L w:=fun a fr=>by
 simp only[NW,Qza]at hc;obtain⟨⟨⟨h1,h2⟩,h3⟩,b⟩:=hc;have ho':l.toArray[i]? = some ⟨some d,op,ty,pos,af,none⟩:=by rw[Gf]at ho;simpa using ho
 exact NX (v:=v) ho' (Region.noSelect_spec h1) (fun c a w k=>hq c a _ _ w k) _ _ a w (Region.free_spec ho' h2) (by simpa using h3) (UO b) hI
  (.inl ⟨by simp[Region.wanted],fun w' hw'=>hr w' hw' w' (Ext.refl _) _ fr.Rj _ _ _ _⟩) (h _ (fr.put hn))
theorem ES[Dr](i:Nat){v:Value}{j s:Nat}{want b:Bool}{oj:Oper}(hq:GR Q)(hI:Inv w)(ho:HL l i=some ⟨some d,op,ty,pos,af,some (j,want)⟩)(hj:HL l j=some oj)(hd:oj.dst=some s)(hb:gt L s=some (.bool b))(hw:b=want)(hr:∀w,Inv w->Bu P L w op ty v)(hn:Qzz d n.n=true)
  (h:Nw Inv P n l Q fuel (MY m (i::done)) ((d,v)::L) w)(hc:(NW l m done i&&YJ l.toArray (MY m done))=true:=by kernel_rfl):Nw Inv P n l Q (fuel+1) (MY m done) L w:=fun a fr=>by
 simp only[NW,Qza]at hc;obtain⟨⟨⟨h1,h2⟩,h3⟩,f⟩:=hc;have ho':l.toArray[i]? = some ⟨some d,op,ty,pos,af,some (j,want)⟩:=by rw[Gf]at ho;simpa using ho
 have hj':l.toArray[j]? = some oj:=by rw[Gf]at hj;simpa using hj
 have hy:yielded l.toArray a.tmps j=some b:=by simp only[yielded,hj',Qq9,hd,fr.get s _ hb]
 refine NX (v:=v) ho' (Region.noSelect_spec h1) (fun c a w k=>hq c a _ _ w k) _ _ a w (Region.free_spec ho' h2) (by simpa using h3) (UO f) hI
  (.inl ⟨by simp[Region.wanted,hy,hw],fun w' hw'=>?_⟩) (h _ (fr.put hn))
 have e:execOp a.eval ⟨some d,op,ty,pos,af,some (j,want)⟩=execOp a.eval ⟨some d,op,ty,pos,af,none⟩:=Z;rw[e];exact hr w' hw' w' (Ext.refl _) _ fr.Rj _ _ _ _
theorem JK(i:Nat){j s:Nat}{want b:Bool}{oj:Oper}(hq:GR Q)(hI:Inv w)(ho:HL l i=some ⟨some d,op,ty,pos,af,some (j,want)⟩)(hj:HL l j=some oj)(hd:oj.dst=some s)(hb:gt L s=some (.bool b))(hw:b = !want)(hn:Qzz d n.n=true)
  (h:Nw Inv P n l Q fuel (MY m (i::done)) ((d,undef)::L) w)(hc:(NW l m done i&&YJ l.toArray (MY m done))=true:=by kernel_rfl):Nw Inv P n l Q (fuel+1) (MY m done) L w:=fun a fr=>by
 simp only[NW,Qza]at hc;obtain⟨⟨⟨h1,h2⟩,h3⟩,e⟩:=hc;have ho':l.toArray[i]? = some ⟨some d,op,ty,pos,af,some (j,want)⟩:=by rw[Gf]at ho;simpa using ho
 have hj':l.toArray[j]? = some oj:=by rw[Gf]at hj;simpa using hj
 have hy:yielded l.toArray a.tmps j=some b:=by simp only[yielded,hj',Qq9,hd,fr.get s _ hb]
 exact NX (v:=undef) ho' (Region.noSelect_spec h1) (fun c a w k=>hq c a _ _ w k) _ _ a w (Region.free_spec ho' h2) (by simpa using h3) (UO e) hI
  (.inr ⟨by simp[Region.wanted,hy,hw],Z⟩) (h _ (fr.put hn))
theorem UR{w:World}{b:Nat}{cs:Qq5}{t:TypeId}(h:w.heap[b]? = some (.cells cs.toArray t (0,0))):CJ (hp w) ⟨b,0,none⟩ cs:=
 ⟨Z,fun j u hu=>by
  show I6 (hp w) (Addr.add ⟨b,0,none⟩ j)=some u
  simp only[Addr.add_lit,I6,hp,h]
  simpa using hu⟩
theorem EB[Dr]{b off:Nat}{cs:Qq5}{t t':TypeId}{x:Operand}{u:Value}{dd:TypeDesc}(hx:ev L x=some (.pointer (some ⟨b,off,none⟩)))[ht:Qqq (P.underlying t) (some dd)][hd:Qqq (NT dd) true](h:w.heap[b]? = some (.cells cs.toArray t' (0,0)))(hu:nth cs off=some u):Bu P L w (.load t x) ty u:=by
 have h1:=(UR h).add off;obtain⟨c,hc⟩:=PM cs off u hu;rw[hc]at h1;simp only[Addr.add_lit,Qzd]at h1;exact AX (hx:=⟨hx⟩) (ht:=⟨ht.e⟩) (hd:=⟨hd.e⟩) h1 (Le.refl _)
theorem Ku[Dr]{b:Nat}{cs:Qq5}{t t':TypeId}{x:Operand}{dd:TypeDesc}{zz:Value}{bt:Nat}[hx:Qqq (ev L x) (some (.pointer (some ⟨b,0,none⟩)))][ht:Qqq (P.underlying t) (some dd)][hd:Qqq (Po dd) true][hz:Qqx P t zz cs.length bt](h:w.heap[b]? = some (.cells cs.toArray t' (0,0))):Bu P L w (.load t x) ty (.agg cs.toArray):=
 Ce (hx:=⟨hx.e⟩) (ht:=⟨ht.e⟩) (hd:=⟨hd.e⟩) (hz:=⟨hz.e⟩) (UR h) (Le.refl _)
end
end Go.E
namespace Go.E
open Go Go.RowKit
section
variable {P:Program}{L:Env}{w w0:World}{O:List BN}{x y:Operand}{ty t t' e src dst u T:TypeId}{b:Nat}{cs:Qq5}
end
def ZK(b:Nat)(v:Value):Prop:=v=.pointer none\/v=.pointer (some ⟨b,0,none⟩)
theorem ZK.one{b:Nat}{v:Value}(h:ZK b v):v.oneCell'=true:=by rcases h with rfl | rfl <;> rfl
section
variable {P:Program}{n:Sz}{ops:Array Oper}{Q:Exit->Act->World->Prop}{L:Env}{w w0:World}{O:List BN}{rest:List Oper}{d:Nat}{ty pt it e:TypeId}{pos:String}{af:Array Edge}{x y:Operand}{H:PH}
theorem Si[Dr]{t:TypeId}{v:Value}(i:Nat){sz m k:Nat}{xs c:Qq5}{p:Addr}{dd:TypeDesc}{zz:Value}{bt:Nat}{e':TypeId}[hx:Qqq (ev L x) (some (.pointer (some p)))][ht:Qqq (P.underlying t) (some dd)][hd:Qqq (Po dd) true][hz:Qqx P t zz c.length bt](hL:AW w0 O w)
  [hi:Qqq (D5 O i) (some (.row v e' sz m xs))] (hp':J0 v k p) (hu:∀j u,c[j]? = some u->xs[k+j]? = some u):Bu P L w (.load t x) ty (.agg c.toArray):=
 Ce (hx:=⟨hx.e⟩) (ht:=⟨ht.e⟩) (hd:=⟨hd.e⟩) (hz:=⟨hz.e⟩) ⟨hp'.2.2,fun j u h=>PN hL hi.e (hp'.add j) (hu j u h)⟩ (Le.refl _)
end
end Go.E
end
