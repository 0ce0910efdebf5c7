/- Texts of a claim, merged. -/
import Derived.Shelf.SlGeneric
import Derived.Shelf.Strings.Split
import Derived.Shelf.Strings.OnBuilder
import Derived.Shelf.GgClosure.StringsRunes
import Derived.Shelf.Strings.Runes
import Derived.Shelf.Strconv.Itoa3
import Derived.Shelf.Strconv.AtoiAll
import Derived.Ground.NamesProg
import Derived.Ground.Names2Prog
import Derived.Ground.Names7Prog
import Derived.Ground.GgwProg
import Derived.Ground.GgzProg
import Derived.Ground.SlsfProg
import Derived.Shelf.Strings.Fields
import Derived.Sort.EncStr
import Derived.Test.YtfgomcdgmihmpaaGreatDoorProg
import Derived.WalkKit
import Derived.ProofKit
import Derived.StillTail
import Derived.Laws.StructEq
import Derived.Lib.AppendZeros
import Derived.Lib.Bytealg
import Derived.Laws.Externs
import Derived.Lib.ConvBytes
import Derived.Recover
import Derived.RangeFuncSeq
import Derived.RangeFuncLeaves
import Derived.RangeFuncCalls
import Derived.OrdersIn
import Derived.Scope
import Derived.Lib.Builder
import Derived.Lib.UnsafeStr
open Option renaming bind_some->QqC,isNone_iff_eq_none->QxX
open Nat renaming le_refl->Qq0,blt->QqE,zero_add->Qq8,zero_le->Qq7,mul_one->Qzw,add_mul->Qzy,le_trans->QzK,lt_or_ge->Qzd,beq->Qzb,eq_of_beq_eq_true->Qxw,zero_mul->Qz4
open UInt8 renaming ofNat->Qq2
open List renaming replicate->Qq3,eq_nil_of_length_eq_zero->Qzf,getD_eq_getElem?_getD->QzX,getElem?_eq_some_iff->Qz0,mem_append->QzC,pairwise_cons->Qxv,range->Qze,all_eq_true->Qxx,getElem?_take->Qxe,size_toArray->Qxy
open Bool renaming and_eq_true->Qq4,false_eq_true->Qz3,not_false->Qz6,or_eq_true->Qz5
open BitVec renaming ofInt->Qzz
open Array renaming getD_eq_getD_getElem?->QzE,getElem?_setIfInBounds->Qxb,replicate->QzD,getElem?_eq_none->Qxa,getElem?_eq_some_iff->QxK
open Int renaming toNat_of_nonneg->QzZ,eq_ofNat_of_zero_le->Qz1
open ByteArray renaming size->Qz2
set_option linter.unusedVariables false
set_option linter.unusedSimpArgs false
class ZZ{α:Sort _}(a:α)(b:outParam α):Prop where e:a=b
instance{α:Sort _}(a:α):ZZ a a:=⟨rfl⟩
theorem Z{α:Sort _}{a:α}:a=a:=rfl
theorem U{p:Prop}(h:p:=by omega):p:=h
theorem V{p:Prop}(h:p:=by kernel_rfl):p:=h
theorem Z7{p:Prop}(h:p:=by decide):p:=h
theorem Z8{p:Prop}(h:p:=by simp):p:=h
noncomputable abbrev Qqf{α:Type _}[Inhabited α]:α:=default
abbrev QqZ:=List UInt8
abbrev QqX:=List Int
abbrev QqK:=List Go.Value
abbrev QqJ:=Int×Int
abbrev QqA:=List QqZ
noncomputable section
namespace Go.Proofs
open Go.Shelf
set_option maxRecDepth 100000
def Tryz.Ko:Go.Shelf.Ren:=⟨fun | 146=>35 | 221=>86 | 268=>118 | 138=>119 | 143=>120 | 195=>144 | 197=>145 | 218=>146 | 219=>85 | 260=>171 | 217=>114 | 225=>115 | 224=>116 | 267=>117 | 266=>142 | 314=>143 | n=>n,fun | 9=>9 | 31=>31 | 3=>3 | 4=>4 | 0=>0 | 105=>201 | 21=>21 | 5=>5 | 46=>77 | 119=>141 | 139=>245 | 138=>244 | 146=>198 | 51=>178 | n=>n,fun | 1=>1 | 3=>5 | 4=>6 | n=>n⟩
theorem Tryz.OS:Go.Proofs.Lays.n146 Tryz.prog Tryz.Ko:=by repeat' first|kernel_rfl|constructor|intro _
def Tryz.O0:Go.Shelf.Ren:=⟨fun | 156=>132 | 165=>163 | 166=>164 | 169=>165 | 240=>181 | 241=>182 | 276=>190 | 277=>191 | n=>n,fun | 31=>31 | 9=>9 | 3=>3 | 4=>4 | 0=>0 | 20=>20 | 72=>225 | 76=>147 | 70=>223 | 37=>22 | 75=>146 | 127=>242 | 164=>254 | 5=>5 | 80=>30 | n=>n,fun | n=>n⟩
theorem Tryz.Sw:Go.Proofs.Lays.n156 Tryz.prog Tryz.O0:=by repeat' first|kernel_rfl|constructor|intro _
def Tryz.Tk:Go.Shelf.Ren:=⟨fun | 17=>80 | 15=>111 | 20=>140 | n=>n,fun | 9=>9 | 23=>136 | 4=>4 | 3=>3 | 0=>0 | 21=>21 | n=>n,fun | n=>n⟩
theorem Tryz.XE:Go.Proofs.LaysGw.n17 Tryz.prog Tryz.Tk:=by repeat' first|kernel_rfl|constructor|intro _
def Tryz.PZ:Go.Shelf.Ren:=⟨fun | 137=>89 | 217=>114 | 266=>142 | n=>n,fun | 9=>9 | 5=>5 | 3=>3 | n=>n,fun | n=>n⟩
theorem Tryz.Wq:Go.Proofs.Lays.n137 Tryz.prog Tryz.PZ:=by repeat' first|kernel_rfl|constructor|intro _
def Tryz.QU:Go.Shelf.Ren:=⟨fun | 171=>92 | 243=>124 | 246=>154 | 283=>175 | 284=>176 | 285=>177 | 286=>178 | 129=>186 | 317=>185 | 318=>187 | 319=>188 | 320=>189 | 337=>192 | 338=>193 | n=>n,fun | 3=>3 | 9=>9 | 2=>2 | 4=>4 | 171=>237 | 0=>0 | 53=>163 | 37=>22 | 5=>5 | 173=>240 | 212=>251 | 51=>178 | 20=>20 | 213=>252 | 46=>77 | 232=>257 | 233=>258 | n=>n,fun | 17=>7 | 18=>8 | 19=>9 | n=>n⟩
theorem Tryz.Vu:Go.Proofs.LaysM.n171 Tryz.prog Tryz.QU:=by repeat' first|kernel_rfl|constructor|intro _
def Tryz.LZ:Go.Shelf.Ren:=⟨fun | 172=>91 | 244=>122 | 245=>123 | 247=>149 | 279=>150 | 280=>151 | 281=>152 | 282=>153 | 287=>172 | 316=>173 | 171=>92 | 205=>174 | 321=>183 | 322=>184 | 243=>124 | 246=>154 | 283=>175 | 284=>176 | 285=>177 | 286=>178 | 129=>186 | 317=>185 | 318=>187 | 319=>188 | 320=>189 | 337=>192 | 338=>193 | n=>n,fun | 9=>9 | 3=>3 | 75=>146 | 76=>147 | 4=>4 | 5=>5 | 167=>214 | 37=>22 | 0=>0 | 85=>215 | 2=>2 | 168=>217 | 53=>163 | 175=>231 | 46=>77 | 210=>235 | 127=>242 | 145=>249 | 143=>247 | 21=>21 | 171=>237 | 173=>240 | 212=>251 | 51=>178 | 20=>20 | 213=>252 | 232=>257 | 233=>258 | 80=>30 | n=>n,fun | 15=>3 | 16=>4 | 17=>7 | 18=>8 | 19=>9 | n=>n⟩
theorem Tryz.Qz:Go.Proofs.LaysC.n172 Tryz.prog Tryz.LZ:=by repeat' first|kernel_rfl|constructor|intro _
def Tryz.PM:Go.Shelf.Ren:=⟨fun | 157=>38 | 229=>87 | 199=>88 | 261=>121 | 311=>147 | 312=>148 | n=>n,fun | 9=>9 | 31=>31 | 3=>3 | 5=>5 | 4=>4 | 119=>141 | 0=>0 | 40=>136 | 152=>175 | 21=>21 | 154=>177 | 51=>178 | 141=>180 | 196=>206 | 193=>203 | 198=>209 | 49=>207 | 194=>204 | 201=>212 | 226=>229 | 46=>77 | 227=>230 | n=>n,fun | 0=>0 | 6=>2 | n=>n⟩
theorem Tryz.Tl:Go.Proofs.Lays.n157 Tryz.prog Tryz.PM:=by repeat' first|kernel_rfl|constructor|intro _
end Go.Proofs
end
noncomputable section
namespace Go.E
open Go
abbrev Env:=List (Nat×Value)
def gt:Env->Nat->Option Value
 | [],_=>none
 | (k,v)::L,t=>bif Qzb k t then some v else gt L t
def ev(L:Env):Operand->Option Value
 | .tmp t=>gt L t
 | .const v=>some v
 | .global g=>some (.pointer (some ⟨g,0,none⟩))
 | .func f=>some (.func (.func f) #[] #[])
def QV(L:Env):List Operand->Option QqK
 | []=>some []
 | x::xs=>match ev L x,QV L xs with
  | some v,some vs=>some (v::vs)
  | _,_=>none
structure Sz where
 n:Nat
 d:List Deferred
structure Fr (n:Sz) (a:Act) (L:Env):Prop where
 size:a.tmps.size=n.n
 defers:a.defers=n.d
 get:∀t v,gt L t=some v->a.tmps[t]? = some v
theorem Lz{k t:Nat}{v:Value}{L:Env}:gt ((k,v)::L) t=if k=t then some v else gt L t:=by
 show(bif Qzb k t then some v else gt L t)=_
 by_cases h:k=t
 ·subst h;simp
 ·have:Qzb k t=false:=by
   cases hb:Qzb k t with
   | true=>exact absurd (Qxw hb) h
   | false=>rfl
  rw[this,if_neg h];rfl
theorem Fr.eval{n:Sz}{a:Act}{L:Env}(h:Fr n a L){x:Operand}{v:Value}(hx:ev L x=some v):a.eval x=v:=by
 cases x with
 | tmp t=>simp only[ev]at hx;have:=h.get t v hx;simp[Act.eval,QzE,this]
 | const u=>simp only[ev,Option.some.injEq]at hx;simpa[Act.eval]using hx
 | func f=>simp only[ev,Option.some.injEq]at hx;simpa[Act.eval]using hx
 | _=>simp only[ev,Option.some.injEq]at hx;simpa[Act.eval]using hx
theorem Fr.put{n:Sz}{a:Act}{L:Env}(h:Fr n a L){d:Nat}{v:Value}(hd:QqE d n.n=true):Fr n (a.put (some d) v) ((d,v)::L):=by
 have hd':d<n.n:=by simpa[Nat.blt_eq]using hd
 refine⟨by simp[Act.put,h.size],by simp[Act.put,h.defers],fun t u ht=>?_⟩;rw[Lz]at ht
 by_cases e:d=t
 ·subst e;rw[if_pos Z]at ht
  cases ht
  simp[Act.put,h.size,hd']
 ·rw[if_neg e]at ht;have:=h.get t u ht;simp only[Act.put];rw[Array.getElem?_setIfInBounds_ne e];exact this
theorem Bw(n:Nat)(h:n<=9223372036854775807:=by decide):n<=9223372036854775807:=h
def Sub(L' L:Env):Prop:=∀t v,gt L' t=some v->gt L t=some v
theorem Sub.refl(L:Env):Sub L L:=fun _ _ h=>h
theorem Sub.nil(L:Env):Sub [] L:=fun _ _ h=>by cases h
theorem Sub.cons{t:Nat}{v:Value}{L' L:Env}(hg:gt L t=some v)(h:Sub L' L):Sub ((t,v)::L') L:=fun t' u hu=>by
 rw[Lz]at hu
 by_cases e:t=t'
 ·subst e;rw[if_pos Z]at hu;cases hu;exact hg
 ·rw[if_neg e]at hu;exact h t' u hu
def ga(L:Env):Env->List (Option Value)
 | []=>[]
 | (t,_)::r=>gt L t::ga L r
def va:Env->List (Option Value)
 | []=>[]
 | (_,v)::r=>some v::va r
theorem Sub.of{L:Env}:∀{L':Env},ga L L'=va L'->Sub L' L
 | [],_=>Sub.nil L
 | (_,_)::_,h=>Sub.cons (List.cons.inj h).1 (Sub.of (List.cons.inj h).2)
theorem Sub.int{t:Nat}{k:IntKind}{x y:Int}{L' L:Env}(hg:gt L t=some (.int k x))(he:x=y)(h:Sub L' L):Sub ((t,.int k y)::L') L:=.cons (he ▸ hg) h
theorem Fr.sub{n:Sz}{a:Act}{L L':Env}(h:Fr n a L)(hs:Sub L' L):Fr n a L':=⟨h.size,h.defers,fun t v ht=>h.get t v (hs t v ht)⟩
def W(P:Program)(n:Sz)(c:Code)(Q:Exit->Act->World->Prop)(L:Env)(w:World):Prop:=∀a,Fr n a L->c.wp P Q a w
def S(P:Program)(n:Sz)(ops:Array Oper)(Q:Exit->Act->World->Prop)(l:List Oper)(L:Env)(w:World):Prop:=∀a,Fr n a L->wpList P ops Q l a w
def At(n:Sz)(Q:Exit->Act->World->Prop)(e:Exit)(L:Env)(w:World):Prop:=∀a,Fr n a L->Q e a w
def OT(P:Program)(y:Code)(Q:Exit->Act->World->Prop):Exit->Act->World->Prop:=Exit.then (y.wp P Q) Q
def TN{σ:Type}(n:Sz)(I:σ->Env)(R:σ->World->Prop)(Q:Exit->Act->World->Prop):Exit->Act->World->Prop:=
 Exit.then (fun a w=>∃s,Fr n a (I s)/\R s w) Q
def QW{σ:Type}(n:Sz)(I:σ->Env)(R:σ->World->Prop)(μ:σ->Nat)(x:σ)(Q:Exit->Act->World->Prop):Exit->Act->World->Prop:=
 Exit.then (fun a w=>∃s,Fr n a (I s)/\R s w/\μ s<μ x) Q
section
variable {P:Program}{n:Sz}{Q:Exit->Act->World->Prop}{L:Env}{w:World}{x y c:Code}
theorem W.sub{L':Env}(h:W P n c Q L' w)(hs:Sub L' L):W P n c Q L w:=fun a fr=>h a (fr.sub hs)
theorem S.sub{ops:Array Oper}{l:List Oper}{L':Env}(h:S P n ops Q l L' w)(hs:Sub L' L):S P n ops Q l L w:=fun a fr=>h a (fr.sub hs)
theorem AN(h:W P n x (OT P y Q) L w):W P n (.seq x y) Q L w:=fun a fr=>wp_seq (h a fr)
theorem A5(h:At n Q .normal L w):W P n .skip Q L w:=fun a fr=>wp_skip (h a fr)
theorem Ay(h:At n Q .ret L w):W P n .ret Q L w:=fun a fr=>wp_ret (h a fr)
theorem BA{id:Nat}(h:At n Q (.exit id) L w):W P n (.exit id) Q L w:=fun a fr=>wp_exit (h a fr)
theorem AA{id:Nat}(h:W P n c (Exit.inBlock id Q) L w):W P n (.block id c) Q L w:=fun a fr=>wp_block (h a fr)
theorem A2{id:Nat}{l:List Oper}(h:S P n l.toArray Q l L w):W P n (.region id l.toArray false) Q L w:=fun a fr=>wp_region_lit (h a fr)
theorem Av{id:Nat}{l:List Oper}(h:S P n l.toArray (OT P y Q) l L w):W P n (.seq (.region id l.toArray false) y) Q L w:=AN (A2 h)
theorem RL{t:Operand}{b:Bool}(hc:ev L t=some (.bool b))(ht:b=true->W P n x Q L w)(hf:b=false->W P n y Q L w):W P n (.cond t x y) Q L w:=
 fun a fr=>wp_cond_split (fr.eval hc) (fun e=>ht e a fr) (fun e=>hf e a fr)
theorem Yz{t:Operand}{p:Prop}[Decidable p](hc:ev L t=some (.bool (decide p)))(ht:p->W P n x Q L w)(hf : ¬p->W P n y Q L w):W P n (.cond t x y) Q L w:=
 RL hc (fun e=>ht (of_decide_eq_true e)) (fun e=>hf (of_decide_eq_false e))
theorem XF{t:Operand}{p:Prop}[Decidable p](hc:ev L t=some (.bool (!decide p)))(ht : ¬p->W P n x Q L w)(hf:p->W P n y Q L w):W P n (.cond t x y) Q L w:=
 RL hc (fun e=>ht (by simpa using e)) (fun e=>hf (by simpa using e))
theorem Fb{t:Operand}[hc:ZZ (ev L t) (some (.bool true))](h:W P n x Q L w):W P n (.cond t x y) Q L w:=fun a fr=>wp_cond_true (fr.eval hc.e) (h a fr)
theorem Ht{t:Operand}[hc:ZZ (ev L t) (some (.bool false))](h:W P n y Q L w):W P n (.cond t x y) Q L w:=fun a fr=>wp_cond_false (fr.eval hc.e) (h a fr)
theorem BB(σ:Type)(I:σ->Env)(R:σ->World->Prop)(μ:σ->Nat)(d:σ)(hs:ga L (I d)=va (I d))(hR:R d w)
  (round:∀s w,R s w->W P n c (QW n I R μ s Q) (I s) w):W P n (.loop c) Q L w:=by
 intro a fr b k cs
 have key:∀m s a w,μ s=m->Fr n a (I s)->R s w->
   ∃e a' w',Q e a' w'/\Arrives P (lone (b.at a (.code c::.inLoop c::k)) cs w) b k cs e a' w':=by
  intro m
  induction m using Nat.strongRecOn with
  | _ m ih=>
   intro s a w hm fr hR;obtain⟨e,a₁,w₁,hq,harr⟩:=round s w hR a fr b (.inLoop c::k) cs
   cases e with
   | normal=>
    obtain⟨s',fr',hR',hlt⟩:=hq;obtain⟨e₂,a₂,w₂,hq₂,harr₂⟩:=ih (μ s') (hm ▸ hlt) s' a₁ w₁ Z fr' hR';exact⟨e₂,a₂,w₂,hq₂,.of_steps (Steps.trans harr (.one step_inLoop)) harr₂⟩
   | exit id=>exact⟨_,a₁,w₁,hq,.pass (x:=.inLoop c) Z (fun _ _=>.inl Z8) harr⟩
   | goto l=>exact⟨_,a₁,w₁,hq,.pass (x:=.inLoop c) Z (fun _ _=>.inl Z8) harr⟩
   | ret=>exact⟨_,a₁,w₁,hq,.pass (x:=.inLoop c) Z (fun _ _=>.inl Z8) harr⟩
   | panic ch=>exact⟨_,a₁,w₁,hq,.pass (x:=.inLoop c) Z (fun _ _=>.inl Z8) harr⟩
   | outgrown=>exact⟨_,a₁,w₁,hq,.pass (x:=.inLoop c) Z (fun _ _=>.inl Z8) harr⟩
 obtain⟨e,a',w',hq,harr⟩:=key _ d a w Z (fr.sub (Sub.of hs)) hR;exact⟨e,a',w',hq,.of_steps (.one step_loop) harr⟩
theorem Bs(σ:Type)(I:σ->Env)(R:σ->World->Prop)(b:W P n x (TN n I R Q) L w)(h2:∀s w,R s w->W P n y Q (I s) w):W P n (.seq x y) Q L w:=
 fun a fr=>wp_seq (wp_mono (b a fr) fun e a' w' q=>by
  cases e with
  | normal=>obtain⟨s,fr',hR⟩:=q;exact h2 s w' hR a' fr'
  | exit id=>exact q
  | goto l=>exact q
  | ret=>exact q
  | panic ch=>exact q
  | outgrown=>exact q)
theorem A3(h:W P n y Q L w):At n (OT P y Q) .normal L w:=h
theorem A7{σ:Type}{I:σ->Env}{R:σ->World->Prop}(s:σ)[hs:ZZ (ga L (I s)) (va (I s))](hR:R s w):At n (TN n I R Q) .normal L w:=fun _ fr=>⟨s,fr.sub (Sub.of hs.e),hR⟩
theorem AS{σ:Type}{I:σ->Env}{R:σ->World->Prop}{μ:σ->Nat}{a:σ}(s:σ)[hs:ZZ (ga L (I s)) (va (I s))](hR:R s w)(hm:μ s<μ a:=by exact Nat.lt_succ_self _):At n (QW n I R μ a Q) .normal L w:=
 fun _ fr=>⟨s,fr.sub (Sub.of hs.e),hR,hm⟩
theorem AB{id:Nat}(h:At n Q .normal L w):At n (Exit.inBlock id Q) .normal L w:=h
theorem Bu{id:Nat}(h:At n Q .normal L w):At n (Exit.inBlock id Q) (.exit id) L w:=fun a fr=>by simpa[Exit.inBlock]using h a fr
theorem AP{id:Nat}(h:At n Q (.exit id) L w):At n (OT P y Q) (.exit id) L w:=h
theorem AJ{σ:Type}{I:σ->Env}{R:σ->World->Prop}{μ:σ->Nat}{a:σ}{id:Nat}(h:At n Q (.exit id) L w):At n (QW n I R μ a Q) (.exit id) L w:=h
theorem AE(h:At n Q .ret L w):At n (OT P y Q) .ret L w:=h
theorem BC{σ:Type}{I:σ->Env}{R:σ->World->Prop}(h:At n Q .ret L w):At n (TN n I R Q) .ret L w:=h
theorem BQ{σ:Type}{I:σ->Env}{R:σ->World->Prop}{μ:σ->Nat}{a:σ}(h:At n Q .ret L w):At n (QW n I R μ a Q) .ret L w:=h
theorem A1{id:Nat}(h:At n Q .ret L w):At n (Exit.inBlock id Q) .ret L w:=h
end
def Lm (P : Program) (f : FuncId) : Prop := ∃fn c, P.funcs[f]? = some fn /\ (fn.name == "runtime.NumGoroutine") = false /\ fn.body = some c
def Rq(R:Value->World->Prop):Ending->World->Prop:=fun e w'=>∃v,e=.returned v/\R v w'
def Ok(P:Program)(f:FuncId)(args:QqK)(w:World)(R:Value->World->Prop):Prop:=
 Lm P f/\Calls P f args.toArray w (Rq R)
theorem Ok.mono{P:Program}{f:FuncId}{args:QqK}{w:World}{R R':Value->World->Prop}(h:Ok P f args w R)(hr:∀v w',R v w'->R' v w'):Ok P f args w R':=
 ⟨h.1,h.2.mono fun _ w' ⟨v,he,hv⟩=>⟨v,he,hr v w' hv⟩⟩
def L2:Nat->QqK->Env
 | _,[]=>[]
 | k,v::l=>(k,v)::L2 (k+1) l
theorem NW:∀(l:QqK) (k t:Nat) (v:Value),gt (L2 k l) t=some v->k<=t/\l[t - k]? = some v
 | [],_,_,_,h=>by cases h
 | u::l,k,t,v,h=>by
  simp only[L2,Lz]at h
  by_cases e:k=t
  ·subst e;rw[if_pos Z]at h;cases h;simp
  ·rw[if_neg e]at h;have⟨a,h2⟩:=NW l (k+1) t v h;refine⟨by omega,?_⟩;have:t - k=(t - (k+1))+1:=by omega
   rw[this,List.getElem?_cons_succ];exact h2
def Ma(P:Program)(fn:Func)(R:Value->World->Prop):Exit->Act->World->Prop:=bodyPost P fn (Rq R)
theorem BF{P:Program}{f:FuncId}{fn:Func}{c:Code}{args:QqK}{w:World}{R:Value->World->Prop}{n:Nat}(L:Env)
  (hf : P.funcs[f]? = some fn) [hname:ZZ (fn.name == "runtime.NumGoroutine") false] (hb : fn.body = some c) (hn : fn.ntmps = n) (hk : Nat.ble args.length n = true) (hL : L2 0 args = L)
  (h:W P ⟨n,[]⟩ c (Ma P fn R) L w):Ok P f args w R:=by
 refine⟨⟨fn,c,hf,hname.e,hb⟩,calls_of_wp hf hb ?_⟩;have hk':args.length<=n:=by simpa[Nat.ble_eq]using hk
 refine h _ ⟨?_,Z,?_⟩
 ·simp[hn];omega
 ·intro t v ht;subst hL;have⟨_,h2⟩:=NW args 0 t v ht;simp only[Nat.sub_zero]at h2;have hlt:t<args.length:=(Qz0.1 h2).1;simp only[Qxy];rw[Array.getElem?_append_left (by simpa using hlt)]
  simpa using h2
def N6:List ResultVar->Env->Option Value
 | [.tmp t],L=>gt L t
 | [.tmp t,.tmp u],L=>match gt L t,gt L u with | some a,some b=>some (.tuple #[a,b]) | _,_=>none
 | [.tmp t,.tmp u,.tmp s],L=>match gt L t,gt L u,gt L s with | some a,some b,some c=>some (.tuple #[a,b,c]) | _,_,_=>none
 | _,_=>none
theorem RM{P:Program}{fn:Func}{n:Sz}{a:Act}{L:Env}{w:World}{l:List ResultVar}{v:Value}(fr:Fr n a L)(hl:fn.results=l.toArray)(h:N6 l L=some v):
  (results fn a.tmps).run P w=.ok v w:=by
 unfold N6 at h
 split at h
 ·rename_i t;rw[results_tmp hl];have:=fr.get t v h;simp[QzE,this]
 ·rename_i t u
  split at h
  ·rename_i x y b h2;cases h;rw[results_tmp2 hl];have c:=fr.get t x b;have d:=fr.get u y h2;simp[QzE,c,d]
  ·cases h
 ·rename_i t u s
  split at h
  ·rename_i x y z b h2 h3;cases h;rw[results_tmp3 hl];have c:=fr.get t x b;have d:=fr.get u y h2;have e:=fr.get s z h3;simp[QzE,c,d,e]
  ·cases h
 ·cases h
theorem Vv{P:Program}{fn:Func}{R:Value->World->Prop}{n:Nat}{L:Env}{w:World}{l:List ResultVar}{v:Value}(hl:fn.results=l.toArray)(h:N6 l L=some v)(hR:R v w):At ⟨n,[]⟩ (Ma P fn R) .ret L w:=
 fun _ fr=>⟨fr.defers,v,RM fr hl h,v,Z,hR⟩
theorem Ak{P:Program}{fn:Func}{R:Value->World->Prop}{n:Nat}{L:Env}{w:World}{l:List ResultVar}{v:Value}(hq:(fn.results,N6 l L)=(l.toArray,some v))(hR:R v w):At ⟨n,[]⟩ (Ma P fn R) .ret L w:=
 Vv (Prod.mk.inj hq).1 (Prod.mk.inj hq).2 hR
section
variable {P:Program}{n:Sz}{ops:Array Oper}{Q:Exit->Act->World->Prop}{L:Env}{w:World}{rest:List Oper}
 {d:Nat}{ty:TypeId}{pos:String}{af:Array Edge}
def RN(L:Env)(ρ:Operand->Value):Prop:=∀x u,ev L x=some u->ρ x=u
theorem Fr.PN{a:Act}(fr:Fr n a L):RN L a.eval:=fun _ _ h=>fr.eval h
theorem RN.map{ρ:Operand->Value}(h:RN L ρ):∀(l:List Operand) (vs:QqK),QV L l=some vs->l.map ρ=vs
 | [],vs,e=>by simp only[QV,Option.some.injEq]at e;simpa using e
 | x::l,vs,e=>by
  unfold QV at e
  split at e
  ·rename_i v us a h2;cases e;simp[h x v a,RN.map h l us h2]
  ·cases e
theorem AQ(h:At n Q .normal L w):S P n ops Q [] L w:=fun a fr=>h a fr
theorem Am{y:Code}(h:W P n y Q L w):S P n ops (OT P y Q) [] L w:=fun a fr=>h a fr
theorem Tm{o:Oper}(hg:o.guard=none)(h:∀a,Fr n a L->o.wp P a w (wpList P ops Q rest) Q):S P n ops Q (o::rest) L w:=
 fun a fr=>by
  unfold wpList;rw[if_pos (by simp[Region.wanted,hg])];exact .inl (h a fr)
theorem EO{o:Oper}{v:Value}{w':World}[hg:ZZ o.guard none][hd:ZZ o.dst (some d)](hn:QqE d n.n=true)
  (hrun:∀ρ,RN L ρ->(execOp ρ o).run P w=.ok (.value v) w') (h:S P n ops Q rest ((d,v)::L) w'):S P n ops Q (o::rest) L w:=
 Tm hg.e fun a fr=>by
  unfold Oper.wp;rw[hrun _ fr.PN]
  show wpList P ops Q rest (a.put o.dst v) w'
  rw[hd.e];exact h _ (fr.put hn)
theorem QX{o:Oper}{v:Value}{w':World}[hg:ZZ o.guard none][hd:ZZ o.dst none]
  (hrun:∀ρ,RN L ρ->(execOp ρ o).run P w=.ok (.value v) w') (h:S P n ops Q rest L w'):S P n ops Q (o::rest) L w:=
 Tm hg.e fun a fr=>by
  unfold Oper.wp;rw[hrun _ fr.PN]
  show wpList P ops Q rest (a.put o.dst v) w'
  rw[hd.e];exact h _ fr
theorem N7{o:Oper}(w':World)[hg:ZZ o.guard none][hd:ZZ o.dst none]
  (hrun:∀ρ,RN L ρ->(execOp ρ o).run P w=.ok .skip w') (h:S P n ops Q rest L w'):S P n ops Q (o::rest) L w:=
 Tm hg.e fun a fr=>by
  unfold Oper.wp;rw[hrun _ fr.PN]
  show wpList P ops Q rest (a.put o.dst undef) w'
  rw[hd.e];exact h _ fr
theorem Qa{dst:Option Tmp}{op:Op}{j:Nat}{want b:Bool}{t:Nat}(hj:((ops[j]?).bind (·.dst))=some t)(hb:gt L t=some (.bool b))(hw:b=want)
  (h:S P n ops Q (⟨dst,op,ty,pos,af,none⟩::rest) L w):S P n ops Q (⟨dst,op,ty,pos,af,some (j,want)⟩::rest) L w:=fun a fr=>by
 have c:=h a fr;simp only[wpList]at c ⊢;have hy:yielded ops a.tmps j=some b:=by simp[yielded,hj,fr.get t _ hb]
 have hwant:Region.wanted ⟨dst,op,ty,pos,af,some (j,want)⟩ (yielded ops a.tmps)=true:=by simp[Region.wanted,hy,hw]
 rw[if_pos hwant];have d:Region.wanted ⟨dst,op,ty,pos,af,none⟩ (yielded ops a.tmps)=true:=by simp[Region.wanted]
 rw[if_pos d]at c;exact c
theorem OU{op:Op}{j:Nat}{want b:Bool}{t:Nat}(hj:((ops[j]?).bind (·.dst))=some t)(hb:gt L t=some (.bool b))(hw:b = !want)(hn:QqE d n.n=true)
  (h:S P n ops Q rest ((d,undef)::L) w):S P n ops Q (⟨some d,op,ty,pos,af,some (j,want)⟩::rest) L w:=fun a fr=>by
 simp only[wpList];have hy:yielded ops a.tmps j=some b:=by simp[yielded,hj,fr.get t _ hb]
 have hwant:Region.wanted ⟨some d,op,ty,pos,af,some (j,want)⟩ (yielded ops a.tmps)=false:=by simp[Region.wanted,hy,hw]
 rw[hwant];exact h _ (fr.put hn)
theorem Aa{dst:Option Tmp}{op:Op}{j:Nat}{want b:Bool}{t:Nat}[hq:ZZ (((ops[j]?).bind (·.dst),gt L t)) ((some t,some (.bool b)))](hw:b=want)
  (h:S P n ops Q (⟨dst,op,ty,pos,af,none⟩::rest) L w):S P n ops Q (⟨dst,op,ty,pos,af,some (j,want)⟩::rest) L w:=Qa (Prod.mk.inj hq.e).1 (Prod.mk.inj hq.e).2 hw h
theorem Ac{op:Op}{j:Nat}{want b:Bool}{t:Nat}[hq:ZZ (((ops[j]?).bind (·.dst),gt L t)) ((some t,some (.bool b)))](hw:b = !want)[hn:ZZ (QqE d n.n) true]
  (h:S P n ops Q rest ((d,undef)::L) w):S P n ops Q (⟨some d,op,ty,pos,af,some (j,want)⟩::rest) L w:=OU (Prod.mk.inj hq.e).1 (Prod.mk.inj hq.e).2 hw hn.e h
theorem Au{op:Op}{j:Nat}{want:Bool}{t:Nat}[hj:ZZ (((ops[j]?).bind (·.dst))) (some t)][hb:ZZ (gt L t) (some undef)][hn:ZZ (QqE d n.n) true]
  (h:S P n ops Q rest ((d,undef)::L) w):S P n ops Q (⟨some d,op,ty,pos,af,some (j,want)⟩::rest) L w:=fun a fr=>by
 simp only[wpList];have hy:yielded ops a.tmps j=none:=by simp[yielded,hj.e,fr.get t _ hb.e,undef]
 have hwant:Region.wanted ⟨some d,op,ty,pos,af,some (j,want)⟩ (yielded ops a.tmps)=false:=by simp[Region.wanted,hy]
 rw[hwant];exact h _ (fr.put hn.e)
end
end Go.E
namespace Go.E
open Go
def nth:QqK->Nat->Option Value
 | [],_=>none
 | v::_,0=>some v
 | _::l,i+1=>nth l i
theorem TO:∀(l:QqK) (i:Nat),nth l i=l[i]?
 | [],_=>rfl
 | _::_,0=>rfl
 | _::l,i+1=>by simpa[nth]using TO l i
def WJ:BinOp->Int->Int->Option Bool
 | .eql,a,b=>some (decide (a=b))
 | .neq,a,b=>some (!decide (a=b))
 | .lss,a,b=>some (decide (a<b))
 | .leq,a,b=>some (decide (a<=b))
 | .gtr,a,b=>some (decide (b<a))
 | .geq,a,b=>some (decide (b<=a))
 | _,_,_=>none
def TP:IntKind->IntKind->Bool
 | .i8,.i8 | .i16,.i16 | .i32,.i32 | .i64,.i64 | .u8,.u8 | .u16,.u16 | .u32,.u32 | .u64,.u64=>true
 | _,_=>false
theorem TQ:∀{a b:IntKind},TP a b=true->a=b
 | .i8,.i8,_=>rfl | .i16,.i16,_=>rfl | .i32,.i32,_=>rfl | .i64,.i64,_=>rfl
 | .u8,.u8,_=>rfl | .u16,.u16,_=>rfl | .u32,.u32,_=>rfl | .u64,.u64,_=>rfl
def pu(L:Env):Op->Option Value
 | .move x=>ev L x
 | .assign x=>ev L x
 | .extract x i=>match ev L x with
  | some (.tuple vs)=>nth vs.toList i
  | _=>none
 | .binOp op _ x y _=>match ev L x,ev L y with
  | some (.int k a),some (.int k' b)=>bif TP k k' then(match WJ op a b with | some r=>some (.bool r) | none=>none)else none
  | _,_=>none
 | .unOp .not _ x=>match ev L x with
  | some (.bool b)=>some (.bool (!b))
  | _=>none
 | .makeFunc fn first captured=>match QV L first.toList,QV L captured.toList with
  | some a,some b=>some (.func fn a.toArray b.toArray)
  | _,_=>none
 | .pick c a b=>match ev L c with
  | some (.bool true)=>ev L a
  | some (.bool false)=>ev L b
  | _=>none
 | _=>none
section
variable {P:Program}{n:Sz}{ops:Array Oper}{Q:Exit->Act->World->Prop}{L:Env}{w:World}{rest:List Oper}
 {d:Nat}{ty:TypeId}{pos:String}{af:Array Edge}
theorem RO{op:BinOp}{t:TypeId}{x y:Operand}{k:IntKind}{a b:Int}{r:Bool}(h:WJ op a b=some r):
  (do eqGuard op t x y (.int k a) (.int k b);binOp op t (.int k a) (.int k b)).run P w=.ok (.bool r) w:=by
 cases op <;> simp only[WJ,Option.some.injEq,reduceCtorEq]at h <;> subst h <;>
  simp[eqGuard,binOp,Op.intCmp,GT.gt,GE.ge,bne,BEq.beq]
theorem RP{op:Op}{v:Value}{dst:Option Tmp}(h:pu L op=some v)(ρ:Operand->Value)(hρ:RN L ρ):
  (execOp ρ ⟨dst,op,ty,pos,af,none⟩).run P w=.ok (.value v) w:=by
 unfold pu at h
 split at h
 ·rename_i x;simp[execOp,hρ x v h]
 ·rename_i x;simp[execOp,hρ x v h]
 ·rename_i x i
  split at h
  ·rename_i vs hx;rw[TO]at h;have h':vs[i]? = some v:=by simpa using h
   simp[execOp,hρ x _ hx,Instr.extract,h']
  ·cases h
 ·rename_i op t x y t'
  split at h
  ·rename_i k a k' b hx hy
   cases hk:TP k k' with
   | false=>rw[hk]at h;cases h
   | true=>
    rw[hk]at h;obtain rfl:=TQ hk;simp only[cond_true]at h
    split at h
    ·rename_i r hr
     cases h
     have:=RO (P:=P) (w:=w) (t:=t) (x:=x) (y:=y) (k:=k) hr;simp only[execOp,hρ x _ hx,hρ y _ hy];simp only[Sem.run_bind]at this ⊢;rw[this]
     rfl
    ·cases h
  ·cases h
 ·rename_i t x
  split at h
  ·rename_i b hx;cases h;simp[execOp,hρ x _ hx,Op.unary]
  ·cases h
 ·rename_i fn first captured
  split at h
  ·rename_i a b d h2
   cases h
   have e:=hρ.map _ _ d;have f:=hρ.map _ _ h2;have f1:first.map ρ=a.toArray:=by apply Array.ext';simpa using e
   have f2:captured.map ρ=b.toArray:=by apply Array.ext';simpa using f
   simp[execOp,Instr.makeFunc,f1,f2]
  ·cases h
 ·rename_i c a b
  split at h
  ·rename_i hc;simp[execOp,hρ c _ hc,hρ a _ h,asBool]
  ·rename_i hc;simp[execOp,hρ c _ hc,hρ b _ h,asBool]
  ·cases h
 ·cases h
def Na(n:Sz)(o:Oper)(L:Env):Option Env:=
 match o with
 | ⟨some d,op,_,_,_,none⟩=>match pu L op with
  | some v=>bif QqE d n.n then some ((d,v)::L)else none
  | none=>none
 | _=>none
def Vw(n:Sz):Nat->List Oper->Env->Option (List Oper×Env)
 | 0,l,L=>some (l,L)
 | k+1,o::l,L=>match Na n o L with
  | some L'=>Vw n k l L'
  | none=>none
 | _+1,[],_=>none
theorem QY{o:Oper}{L':Env}(h:Na n o L=some L')(hS:S P n ops Q rest L' w):S P n ops Q (o::rest) L w:=by
 unfold Na at h
 split at h
 ·rename_i d op t ps aft
  split at h
  ·rename_i v hv
   cases hd:QqE d n.n with
   | false=>rw[hd]at h;cases h
   | true=>rw[hd]at h;cases h;exact EO hd (RP hv) hS
  ·cases h
 ·cases h
theorem Ws:∀(k:Nat) {l l':List Oper}{L L':Env} (_:Vw n k l L=some (l',L')) (_:S P n ops Q l' L' w),S P n ops Q l L w
 | 0,l,l',L,L',h,hS=>by simp only[Vw,Option.some.injEq,Prod.mk.injEq]at h;obtain⟨rfl,rfl⟩:=h;exact hS
 | k+1,[],l',L,L',h,hS=>by simp only[Vw,reduceCtorEq]at h
 | k+1,o::l,l',L,L',h,hS=>by
  simp only[Vw]at h
  split at h
  ·rename_i L1 a;exact QY a (Ws k h hS)
  ·cases h
theorem Aw(k:Nat){l l':List Oper}{L L':Env}(h:Vw n k l L=some (l',L'))(hS:S P n ops Q l' L' w):S P n ops Q l L w:=Ws k h hS
theorem A4(k:Nat){l:List Oper}{L L':Env}{y:Code}(h:Vw n k l L=some ([],L'))(hW:W P n y Q L' w):S P n ops (OT P y Q) l L w:=Aw k h (Am hW)
theorem BN{id:Nat}{l l':List Oper}{L L':Env}{y:Code}(k:Nat)(h:Vw n k l L=some (l',L'))(hS:S P n l.toArray (OT P y Q) l' L' w):W P n (.seq (.region id l.toArray false) y) Q L w:=Av (Aw k h hS)
theorem AI{id:Nat}{l:List Oper}{L L':Env}{y:Code}(k:Nat)(h:Vw n k l L=some ([],L'))(hW:W P n y Q L' w):W P n (.seq (.region id l.toArray false) y) Q L w:=Av (A4 k h hW)
theorem wrap64{x:Int}(a : -9223372036854775808<=x)(h2:x<=9223372036854775807):IntKind.i64.wrap x=x:=by
 simp only[IntKind.wrap,IntKind.bits,IntKind.signed,Bool.true_and,decide_eq_true_eq,ge_iff_le]
 split <;> omega
theorem RQ{x:Int}(a:0<=x)(h2:x<256):IntKind.u8.wrap x=x:=by
 simp only[IntKind.wrap,IntKind.bits,IntKind.signed,Bool.false_and,Qz3,if_false];omega
theorem OL{x:Int}:IntKind.u8.wrap x=x % 256:=by
 simp only[IntKind.wrap,IntKind.bits,IntKind.signed,Bool.false_and,Qz3,if_false];omega
def XG:BinOp->Int->Int->Option Int
 | .add,a,b=>some (a+b)
 | .sub,a,b=>some (a - b)
 | .mul,a,b=>some (a * b)
 | _,_,_=>none
theorem TR{a b:Int}(ha:0<=a):a.tmod b=a % b:=Int.tmod_eq_emod_of_nonneg ha
theorem N8{f:FuncId}{args:List Operand}{vs:QqK}{at_:Array TypeId}{dst:Option Tmp}(hc:Lm P f)(ha:QV L args=some vs)(ρ:Operand->Value)(hρ:RN L ρ):
  (execOp ρ ⟨dst,.call ⟨.value (.func f),args.toArray,at_⟩,ty,pos,af,none⟩).run P w=.ok (.enter f vs.toArray) w:=by
 obtain ⟨fn, c, a, h2, h3⟩ := hc;have b : ρ (.func f) = .func (.func f) #[] #[] := hρ _ _ rfl;have d := hρ.map _ _ ha;have h2' : ¬fn.name = "runtime.NumGoroutine" := by simpa using h2
 simp[execOp,resolve,b,Deferred.ofValue,d,invoke,callFunc,a,h2',h3]
theorem BR{f:FuncId}{args:List Operand}{vs:QqK}{at_:Array TypeId}{R:Value->World->Prop}[ha:ZZ (QV L args) (some vs)][hn:ZZ (QqE d n.n) true](hok:Ok P f vs w R)
  (h:∀v w',R v w'->S P n ops Q rest ((d,v)::L) w'):S P n ops Q (⟨some d,.call ⟨.value (.func f),args.toArray,at_⟩,ty,pos,af,none⟩::rest) L w:=
 Tm Z fun a fr=>by
  unfold Oper.wp;rw[N8 hok.1 ha.e _ fr.PN];refine hok.2.mono fun e w' ⟨v,he,hv⟩=>?_;subst he;exact h v w' hv _ (fr.put hn.e)
def Sx(n:Sz)(j:Nat)(want:Bool)(L0:Env):Nat->List Oper->Env->Option (List Oper×Env)
 | 0,l,L=>some (l,L)
 | k+1,⟨some d,op,ty,pos,af,some (j',want')⟩::l,L=>
  bif Qzb j j'&&(want==want')&&(gt L0 d).isNone then
   match Na n ⟨some d,op,ty,pos,af,none⟩ L with
   | some L'=>Sx n j want L0 k l L'
   | none=>none
  else none
 | _+1,_,_=>none
theorem O1{j:Nat}{want:Bool}{t:Nat}{L0:Env}(hj:((ops[j]?).bind (·.dst))=some t):∀(k:Nat) {l l':List Oper}{L L':Env},gt L t=some (.bool want)->gt L0 t=some (.bool want)->Sx n j want L0 k l L=some (l',L')->
  S P n ops Q l' L' w->S P n ops Q l L w:=by
 intro k
 induction k with
 | zero=>intro l l' L L' _ _ h hS;simp only[Sx,Option.some.injEq,Prod.mk.injEq]at h;obtain⟨rfl,rfl⟩:=h;exact hS
 | succ k ih=>
  intro l l' L L' hb b h hS
  match l,h with
  | [],h=>cases h
  | ⟨none,_,_,_,_,_⟩::l,h=>cases h
  | ⟨some d,op,ty,pos,af,none⟩::l,h=>cases h
  | ⟨some d,op,ty,pos,af,some (j',want')⟩::l,h=>
   simp only[Sx]at h
   cases hc:(Qzb j j'&&(want==want')&&(gt L0 d).isNone)with
   | false=>rw[hc]at h;cases h
   | true=>
    rw[hc]at h;simp only[Qq4,QxX]at hc;obtain⟨⟨c1,c2⟩,c3⟩:=hc;obtain rfl:=Qxw c1;obtain rfl:want=want':=by simpa using c2
    simp only[cond_true]at h
    split at h
    ·rename_i L1 a;refine Qa hj hb Z (QY a (ih ?_ b h hS));simp only[Na]at a
     split at a
     ·rename_i v hv
      cases hd:QqE d n.n with
      | false=>rw[hd]at a;cases a
      | true=>
       rw[hd]at a;cases a;rw[Lz]
       by_cases e:d=t
       ·subst e;rw[b]at c3;cases c3
       ·rw[if_neg e];exact hb
     ·cases a
    ·cases h
theorem OV{j:Nat}{want:Bool}{t:Nat}{L0:Env}(hj:((ops[j]?).bind (·.dst))=some t):∀(k:Nat) {l l':List Oper}{L L' M:Env},Sub L0 M->gt L0 t=some (.bool (!want))->Sx n j want L0 k l L=some (l',L')->
  (∀M',Sub L0 M'->S P n ops Q l' M' w)->S P n ops Q l M w:=by
 intro k
 induction k with
 | zero=>intro l l' L L' M hM _ h hS;simp only[Sx,Option.some.injEq,Prod.mk.injEq]at h;obtain⟨rfl,rfl⟩:=h;exact hS M hM
 | succ k ih=>
  intro l l' L L' M hM b h hS
  match l,h with
  | [],h=>cases h
  | ⟨none,_,_,_,_,_⟩::l,h=>cases h
  | ⟨some d,op,ty,pos,af,none⟩::l,h=>cases h
  | ⟨some d,op,ty,pos,af,some (j',want')⟩::l,h=>
   simp only[Sx]at h
   cases hc:(Qzb j j'&&(want==want')&&(gt L0 d).isNone)with
   | false=>rw[hc]at h;cases h
   | true=>
    rw[hc]at h;simp only[Qq4,QxX]at hc;obtain⟨⟨c1,c2⟩,c3⟩:=hc;obtain rfl:=Qxw c1;obtain rfl:want=want':=by simpa using c2
    simp only[cond_true]at h
    split at h
    ·rename_i L1 a
     have hd:QqE d n.n=true:=by
      simp only[Na]at a
      split at a
      ·cases hd:QqE d n.n with
       | false=>rw[hd]at a;cases a
       | true=>rfl
      ·cases a
     refine OU hj (hM t _ b) Z hd (ih (fun t' v hv=>?_) b h hS);rw[Lz]
     by_cases e:d=t'
     ·subst e;rw[hv]at c3;cases c3
     ·rw[if_neg e];exact hM t' v hv
    ·cases h
theorem Sub.both{t:Nat}{v:Value}{L L':Env}(h:Sub L L'):Sub ((t,v)::L) ((t,v)::L'):=fun t' u hu=>by
 rw[Lz]at hu ⊢
 by_cases e:t=t'
 ·rw[if_pos e]at hu ⊢;exact hu
 ·rw[if_neg e]at hu ⊢;exact h t' u hu
theorem Sy{j:Nat}{want:Bool}{L0:Env}:∀(k:Nat) {l l':List Oper}{L L':Env},Sub L0 L->Sx n j want L0 k l L=some (l',L')->Sub L0 L':=by
 intro k
 induction k with
 | zero=>intro l l' L L' hM h;simp only[Sx,Option.some.injEq,Prod.mk.injEq]at h;obtain⟨rfl,rfl⟩:=h;exact hM
 | succ k ih=>
  intro l l' L L' hM h
  match l,h with
  | [],h=>cases h
  | ⟨none,_,_,_,_,_⟩::l,h=>cases h
  | ⟨some d,op,ty,pos,af,none⟩::l,h=>cases h
  | ⟨some d,op,ty,pos,af,some (j',want')⟩::l,h=>
   simp only[Sx]at h
   cases hc:(Qzb j j'&&(want==want')&&(gt L0 d).isNone)with
   | false=>rw[hc]at h;cases h
   | true=>
    rw[hc]at h;simp only[Qq4,QxX]at hc;obtain⟨⟨c1,c2⟩,c3⟩:=hc;simp only[cond_true]at h
    split at h
    ·rename_i L1 a;refine ih ?_ h;simp only[Na]at a
     split at a
     ·rename_i v hv
      cases hd:QqE d n.n with
      | false=>rw[hd]at a;cases a
      | true=>
       rw[hd]at a;cases a;intro t' u hu;rw[Lz]
       by_cases e:d=t'
       ·subst e;rw[hu]at c3;cases c3
       ·rw[if_neg e];exact hM t' u hu
     ·cases a
    ·cases h
theorem Sub.ev{L M:Env}(hM:Sub L M){x:Operand}{v:Value}(hx:ev L x=some v):ev M x=some v:=by
 cases x with
 | tmp t=>exact hM t v hx
 | const _=>exact hx
 | func _=>exact hx
 | _=>exact hx
theorem S0(k j:Nat){t:Nat}{b r s:Bool}{c x y:Operand}{l l':List Oper}{L1:Env}(hj:((ops[j]?).bind (·.dst))=some t)(hb:gt L t=some (.bool b))
  (hg:Sx n j true L k l L=some (⟨some d,.pick c x y,ty,pos,af,none⟩::l',L1)) (hc:ev L c=some (.bool b)) (hx:ev L1 x=some (.bool r)) (hy:ev L y=some (.bool s)) (hn:QqE d n.n=true)
  (h:S P n ops Q l' ((d,.bool (bif b then r else s))::L) w):S P n ops Q l L w:=by
 have hsub:Sub L L1:=Sy k (Sub.refl L) hg
 cases b with
 | true=>
  refine O1 (L0:=L) hj k hb hb hg<|EO hn (v:=.bool r) (w':=w) (fun ρ hρ=>by simp[execOp,hρ c _ (Sub.ev hsub hc),hρ x _ hx,asBool])<|S.sub h hsub.both
 | false=>
  refine OV (L0:=L) (want:=true) hj k (Sub.refl L) hb hg fun M hM=>EO hn (v:=.bool s) (w':=w) (fun ρ hρ=>by simp[execOp,hρ c _ (Sub.ev hM hc),hρ y _ (Sub.ev hM hy),asBool])<|S.sub h hM.both
theorem L3(k j:Nat){t:Nat}{b r s:Bool}{c x y:Operand}{l l':List Oper}{L1:Env}(hj:((ops[j]?).bind (·.dst))=some t)(hb:gt L t=some (.bool b))
  (hg:Sx n j false L k l L=some (⟨some d,.pick c x y,ty,pos,af,none⟩::l',L1)) (hc:ev L c=some (.bool b)) (hx:ev L x=some (.bool r)) (hy:ev L1 y=some (.bool s)) (hn:QqE d n.n=true)
  (h:S P n ops Q l' ((d,.bool (bif b then r else s))::L) w):S P n ops Q l L w:=by
 have hsub:Sub L L1:=Sy k (Sub.refl L) hg
 cases b with
 | false=>
  refine O1 (L0:=L) hj k hb hb hg<|EO hn (v:=.bool s) (w':=w) (fun ρ hρ=>by simp[execOp,hρ c _ (Sub.ev hsub hc),hρ y _ hy,asBool])<|S.sub h hsub.both
 | true=>
  refine OV (L0:=L) (want:=false) hj k (Sub.refl L) hb hg fun M hM=>EO hn (v:=.bool r) (w':=w) (fun ρ hρ=>by simp[execOp,hρ c _ (Sub.ev hM hc),hρ x _ (Sub.ev hM hx),asBool])<|S.sub h hM.both
theorem Vx{p q:Prop}[Decidable p][Decidable q]:(bif decide p then decide q else false)=decide (p/\q):=by by_cases hp:p <;> simp[hp]
theorem WK{p q:Prop}[Decidable p][Decidable q]:(bif decide p then true else decide q)=decide (p\/q):=by by_cases hp:p <;> simp[hp]
theorem S1(k j:Nat){t:Nat}{p q:Prop}[Decidable p][Decidable q]{c x:Operand}{l l':List Oper}{L1:Env}(hj:((ops[j]?).bind (·.dst))=some t)(hb:gt L t=some (.bool (decide p)))
  (hg:Sx n j true L k l L=some (⟨some d,.pick c x (.const (.bool false)),ty,pos,af,none⟩::l',L1)) (hc:ev L c=some (.bool (decide p))) (hx:ev L1 x=some (.bool (decide q))) (hn:QqE d n.n=true)
  (h:S P n ops Q l' ((d,.bool (decide (p/\q)))::L) w):S P n ops Q l L w:=
 S0 k j hj hb hg hc hx Z hn (by rw[Vx];exact h)
theorem WL(k j:Nat){t:Nat}{p q:Prop}[Decidable p][Decidable q]{c y:Operand}{l l':List Oper}{L1:Env}(hj:((ops[j]?).bind (·.dst))=some t)(hb:gt L t=some (.bool (decide p)))
  (hg:Sx n j false L k l L=some (⟨some d,.pick c (.const (.bool true)) y,ty,pos,af,none⟩::l',L1)) (hc:ev L c=some (.bool (decide p))) (hy:ev L1 y=some (.bool (decide q))) (hn:QqE d n.n=true)
  (h:S P n ops Q l' ((d,.bool (decide (p\/q)))::L) w):S P n ops Q l L w:=
 L3 k j hj hb hg hc Z hy hn (by rw[WK];exact h)
end
theorem drawn_setCell(w:World)(a:Addr)(v:Value):(w.setCell a v).drawn=w.drawn:=by
 unfold World.setCell
 split <;> rfl
theorem Q0(w:World)(a:Addr)(n:Nat):(w.freeze a n).drawn=w.drawn:=by
 unfold World.freeze
 split <;> rfl
theorem O8{p:Program}{w a:World}{at_:Addr}{u:TypeId}{k:Addr}{v:Value}{atomic:Bool}{l:List Addr}(h:w.viewStore p at_ u k v atomic=.ok (a,l)):a.drawn=w.drawn:=by
 unfold World.viewStore at h;simp only[bind,Except.bind,pure,Except.pure,throwThe,MonadExceptOf.throw,MonadExcept.throw]at h
 repeat' split at h
 all_goals first
  | (cases h;done)
  | (cases h;rfl)
theorem OW{p:Program}{w b:World}{a:Addr}{v:Value}{atomic:Bool}{l:List Addr}(h:w.farStore p a v atomic=.ok (b,l)):b.drawn=w.drawn:=by
 unfold World.farStore at h
 split at h
 ·split at h
  ·rename_i r hr;cases h;exact O8 hr
  ·cases h
 ·cases h
theorem NX{α:Type}:∀(q:Ask α) (w:World),w.drawn<=(w.ask q).2.drawn
 | .done a,w=>Qq0 _
 | .ask what range k,w=>by
  unfold World.ask;simp only
  split
  ·exact NX (k 0) w
  ·exact QzK (Nat.le_succ _) (NX _ {w with drawn:=w.drawn+1})
theorem Tn(w:World)(c:Sys):w.drawn<=(w.sys c).2.drawn:=by
 unfold World.sys;have:=NX (Kernel.perform c w.os) w
 split
 ·exact Qq0 _
 ·rename_i r os a _ e;rw[e]at this;exact this
theorem NY{α:Type}{p:Program}:∀(s:Sem α) (w:World) (a:α) (w':World),s.run p w=.ok a w'->w.drawn<=w'.drawn:=by
 intro s
 induction s with
 | pure a=>intro w x w' h;cases h;exact Qq0 _
 | load m a k ih=>
  intro w x w' h;unfold Sem.run at h
  split at h
  ·exact ih _ _ _ _ h
  ·split at h
   ·exact ih _ _ _ _ h
   ·cases h
 | store m a v k ih=>
  intro w x w' h
  cases v <;> simp only[Sem.run]at h
  all_goals first
   | (cases h;done)
   | (
    split at h
    ·split at h
     ·cases h
     ·have:=ih _ _ _ h;rwa [drawn_setCell]at this
    ·split at h
     ·rename_i hf;have b:=ih _ _ _ h;rw[OW hf]at b;exact b
     ·cases h)
 | new o k ih=>intro w x w' h;exact ih _ {w with heap:=w.heap.push o} _ _ h
 | shape r k ih=>intro w x w' h;exact ih _ _ _ _ h
 | freeze a n k ih=>intro w x w' h;have:=ih _ _ _ h;rwa [Q0]at this
 | frozen a k ih=>intro w x w' h;exact ih _ _ _ _ h
 | getObj r k ih=>
  intro w x w' h;unfold Sem.run at h
  split at h
  ·cases h
  ·exact ih _ _ _ _ h
  ·cases h
 | setObj r o k ih=>
  intro w x w' h;unfold Sem.run at h
  split at h
  ·cases h
  ·exact ih {w with heap:=w.heap.setIfInBounds r o} _ _ h
  ·cases h
 | choose q k ih=>
  intro w x w' h;unfold Sem.run at h
  split at h
  ·exact ih _ _ _ _ h
  ·have:=ih _ _ _ _ h;simp only at this;omega
 | sys c k ih=>
  intro w x w' h;refine QzK ?_ (ih _ _ _ _ h);exact Tn w c
 | program k ih=>intro w x w' h;exact ih _ _ _ _ h
 | mark m k ih=>intro w x w' h;exact ih _ _ _ h
 | halt h=>intro w x w' h;cases h
end Go.E
namespace Go.E
open Go Go.RowKit
class Dr where
 on:Bool
structure Ext [Dr] (w w':World):Prop extends Below w.heap.size w w' where
 drawn:Dr.on=true->w.drawn<=w'.drawn
theorem Ext.refl[Dr](w:World):Ext w w:=⟨Below.refl _ _,fun _=>Qq0 _⟩
theorem Ext.trans[Dr]{a b c:World}(h:Ext a b)(k:Ext b c):Ext a c:=⟨Below.trans h.toBelow (Below.mono k.toBelow h.size),fun o=>QzK (h.drawn o) (k.drawn o)⟩
abbrev PH:=Nat->Option Obj
def Le(A B:PH):Prop:=∀b o,A b=some o->B b=some o
theorem Le.refl(A:PH):Le A A:=fun _ _ h=>h
theorem Le.trans{A B C:PH}(h:Le A B)(k:Le B C):Le A C:=fun b o e=>k b o (h b o e)
def hp(w:World):PH:=fun b=>w.heap[b]?
def nw(w w':World):PH:=fun b=>if w.heap.size<=b then w'.heap[b]? else none
theorem lt_of_heap{w:World}{b:Nat}{o:Obj}(h:w.heap[b]? = some o):b<w.heap.size:=(QxK.1 h).1
theorem Ext.le[Dr]{w w':World}(h:Ext w w'):Le (hp w) (hp w'):=fun b o e=>by
 have:b<w.heap.size:=lt_of_heap e
 show w'.heap[b]? = some o
 rw[h.block b this];exact e
theorem Le.ext[Dr]{A:PH}{w w':World}(h:Le A (hp w))(hx:Ext w w'):Le A (hp w'):=h.trans hx.le
def GZ(H:PH)(a:Addr):Option Value:=
 match H a.block with
 | some (.cells c _ _)=>if a.spot.isSome then none else c[a.off]?
 | _=>none
theorem QZ(w:World)(a:Addr):GZ (hp w) a=w.cell? a:=Z
theorem Jn{A B:PH}(h:Le A B){a:Addr}{v:Value}(e:GZ A a=some v):GZ B a=some v:=by
 unfold GZ at e ⊢
 split at e
 ·rename_i c t f hc;rw[h _ _ hc];exact e
 ·cases e
theorem cell_of{H:PH}{w:World}(h:Le H (hp w)){a:Addr}{v:Value}(e:GZ H a=some v):w.cell? a=some v:=Jn h e
structure Rp (α:Type) where
 sz:Nat
 rel:PH->α->QqK->Prop
 len:∀{H x c},rel H x c->c.length=sz
 mono:∀{H H' x c},Le H H'->rel H x c->rel H' x c
 one:∀{H x c},rel H x c->∀u∈c,u.oneCell'=true
def EG(H:PH)(p:Addr)(c:QqK):Prop:=p.spot=none/\∀j u,c[j]? = some u->GZ H (p.add j)=some u
structure AD {α:Type} (r:Rp α) (H:PH) (v:Value) (l:List α):Prop where
 ex:∃a cap,v=.slice a l.length cap/\l.length<=cap/\cap<=maxLen/\(a=none->cap=0)/\
  ∀A,a=some A->l≠[]->A.spot=none/\∀i x,l[i]? = some x->∃c,r.rel H x c/\∀j u,c[j]? = some u->GZ H (A.add (i * r.sz+j))=some u
theorem AD.mono{α:Type}{r:Rp α}{H H':PH}{v:Value}{l:List α}(h:AD r H v l)(hs:Le H H'):AD r H' v l:=by
 obtain⟨a,cap,b,h2,h3,d,e⟩:=h.ex;refine⟨a,cap,b,h2,h3,d,fun A hA hl=>?_⟩;obtain⟨f,g⟩:=e A hA hl;refine⟨f,fun i x hx=>?_⟩;obtain⟨c,hc,hcell⟩:=g i x hx;exact⟨c,r.mono hs hc,fun j u hu=>Jn hs (hcell j u hu)⟩
theorem AD.nil{α:Type}(r:Rp α)(H:PH):AD r H (.slice none 0 0) ([]:List α):=
 ⟨none,0,Z,Qq0 _,Qq7 _,fun _=>Z,fun _ h=>by cases h⟩
theorem AD.header{α:Type}{r:Rp α}{H:PH}{v:Value}{l:List α}(h:AD r H v l):∃a cap,v=.slice a l.length cap:=by
 obtain⟨a,cap,b,_⟩:=h.ex;exact⟨a,cap,b⟩
def Rp.int(k:IntKind):Rp Int:=⟨1,fun _ x c=>c=[.int k x],fun h=>by simp[h],fun _ h=>h,fun h u hu=>by subst h;simp at hu;subst hu;rfl⟩
def Rp.byte:Rp UInt8:=⟨1,fun _ x c=>c=[.int .u8 (x.toNat:Int)],fun h=>by simp[h],fun _ h=>h,fun h u hu=>by subst h;simp at hu;subst hu;rfl⟩
def Rp.bool:Rp Bool:=⟨1,fun _ x c=>c=[.bool x],fun h=>by simp[h],fun _ h=>h,fun h u hu=>by subst h;simp at hu;subst hu;rfl⟩
def Rp.vec{α:Type}(r:Rp α):Rp (List α):=⟨1,fun H x c=>∃v,c=[v]/\AD r H v x,fun h=>by obtain⟨v,h,_⟩:=h;simp[h],fun hs h=>by obtain⟨v,h,hv⟩:=h;exact⟨v,h,hv.mono hs⟩,
 fun h u hu=>by obtain⟨v,h,hv⟩:=h;subst h;simp at hu;subst hu;obtain⟨a,cap,e⟩:=hv.header;subst e;rfl⟩
def Rp.pair{α β:Type}(r:Rp α)(s:Rp β):Rp (α×β):=⟨r.sz+s.sz,fun H x c=>∃c1 c2,c=c1++c2/\r.rel H x.1 c1/\s.rel H x.2 c2,
 fun h=>by obtain⟨c1,c2,e,a,h2⟩:=h;simp[e,r.len a,s.len h2],
 fun hs h=>by obtain⟨c1,c2,e,a,h2⟩:=h;exact⟨c1,c2,e,r.mono hs a,s.mono hs h2⟩,
 fun h u hu=>by
  obtain⟨c1,c2,e,a,h2⟩:=h;subst e
  rcases QzC.1 hu with hu | hu
  ·exact r.one a u hu
  ·exact s.one h2 u hu⟩
inductive BS where
 | box (b:Nat) (cs:QqK) (t:TypeId)
 | row (v:Value) (e:TypeId) (sz n:Nat) (xs:QqK)
 | obj (b:Nat) (o:Obj)
abbrev Ha(l O:List BS):List BS:=l++O
def BS.block:BS->Option Nat
 | .box b _ _=>some b
 | .row v _ _ _ _=>v.ownBlock
 | .obj b _=>some b
def BS.ok(w:World):BS->Prop
 | .box b cs t=>w.heap[b]? = some (.cells cs.toArray t (0,0))
 | .row v e sz n xs=>w.ownsRow 0 e sz v n xs
 | .obj b o=>w.heap[b]? = some o
theorem BS.ok.lt{w:World}{r:BS}(h:r.ok w){b:Nat}(hb:r.block=some b):b<w.heap.size:=by
 cases r with
 | box b' cs t=>cases hb;exact lt_of_heap h
 | row v e sz n xs=>exact(World.ownsRow.lt h b hb).2
 | obj b' o=>cases hb;exact lt_of_heap h
theorem BS.ok.same{w w':World}{r:BS}(h:r.ok w)(hs:∀b,r.block=some b->w'.heap[b]? = w.heap[b]?):r.ok w':=by
 cases r with
 | box b cs t=>show w'.heap[b]? = _;rw[hs b Z];exact h
 | obj b o=>show w'.heap[b]? = _;rw[hs b Z];exact h
 | row v e sz n xs=>
  refine⟨h.1,?_⟩
  rcases h.2 with hn | ⟨g,cap,cur,rfl,hb,hgg,rest⟩
  ·exact .inl hn
  ·refine .inr ⟨g,cap,cur,Z,hb,?_,rest⟩;rw[hs g Z];exact hgg
theorem BS.ok.ext[Dr]{w w':World}{r:BS}(h:r.ok w)(hx:Ext w w'):r.ok w':=h.same fun b hb=>hx.block b (h.lt hb)
def owned(O:List BS)(b:Nat):Bool:=O.any fun r=>r.block==some b
theorem Dm{O:List BS}{b:Nat}:owned O b=true↔∃r∈O,r.block=some b:=by simp[owned]
def fz(w:World)(O:List BS):PH:=fun b=>if owned O b then none else w.heap[b]?
theorem TS(w:World)(O:List BS):Le (fz w O) (hp w):=fun b o e=>by
 unfold fz at e
 split at e
 ·cases e
 ·exact e
structure AZ [Dr] (a:World) (O:List BS) (w:World):Prop where
 ext:Ext a w
 res:∀r∈O,r.ok w
 own:∀r∈O,∀b,r.block=some b->a.heap.size<=b
 Vy:O.Pairwise fun r s=>∀b,r.block=some b->s.block≠some b
theorem AZ.start[Dr](w:World):AZ w [] w:=⟨Ext.refl w,(fun _ h=>by cases h),(fun _ h=>by cases h),List.Pairwise.nil⟩
theorem AL[Dr]{P:Program}{f:FuncId}{fn:Func}{c:Code}{args:QqK}{w:World}{R:Value->World->Prop}(n:Nat)(L:Env)
  (hf : P.funcs[f]? = some fn) (hq : (fn.name == "runtime.NumGoroutine", fn.body, fn.ntmps, Nat.ble args.length n, L2 0 args) = (false, some c, n, true, L))
  (h:AZ w [] w->W P ⟨n,[]⟩ c (Ma P fn R) L w):Ok P f args w R:=by
 simp only[Prod.mk.injEq]at hq;exact BF L hf (hname:=⟨hq.1⟩) hq.2.1 hq.2.2.1 hq.2.2.2.1 hq.2.2.2.2 (h (AZ.start w))
theorem AZ.arg[Dr]{a w:World}{O:List BS}(h:AZ a O w):Le (hp a) (hp w):=h.ext.le
theorem AZ.lt[Dr]{a w:World}{O:List BS}(h:AZ a O w){b:Nat}(hb:owned O b=true):b<w.heap.size:=by
 obtain⟨r,hr,e⟩:=Dm.1 hb;exact(h.res r hr).lt e
theorem AZ.XH[Dr]{a w:World}{O:List BS}(h:AZ a O w):Le (hp a) (fz w O):=fun b o e=>by
 unfold fz;rw[if_neg]
 ·exact h.arg b o e
 ·intro ho;obtain⟨r,hr,e'⟩:=Dm.1 ho;have:=h.own r hr b e';have:=lt_of_heap (w:=a) e;omega
theorem AZ.call[Dr]{a w w':World}{O:List BS}(h:AZ a O w)(hx:Ext w w'):AZ a O w':=
 ⟨h.ext.trans hx,fun r hr=>(h.res r hr).ext hx,h.own,h.Vy⟩
theorem Ba[Dr]{a w w':World}{O:List BS}(_h:AZ a O w)(hx:Ext w w'):Le (fz w O) (fz w' O):=fun b o e=>by
 unfold fz at e ⊢
 split at e
 ·cases e
 ·rename_i ho;rw[if_neg ho];exact hx.le b o e
theorem Wt[Dr]{a w w':World}{O:List BS}(h:AZ a O w):Le (nw w w') (fz w' O):=fun b o e=>by
 unfold nw at e
 split at e
 ·rename_i hb;unfold fz;rw[if_neg]
  ·exact e
  ·intro ho;have:=h.lt ho;omega
 ·cases e
theorem AZ.drop[Dr]{a w:World}{O:List BS}{r:BS}(h:AZ a (r::O) w):AZ a O w:=
 ⟨h.ext,fun s hs=>h.res s (.tail _ hs),fun s hs=>h.own s (.tail _ hs),(Qxv.1 h.Vy).2⟩
theorem Vz{w:World}{O:List BS}{r:BS}:Le (fz w (r::O)) (fz w O):=fun b o e=>by
 unfold fz at e ⊢
 split at e
 ·cases e
 ·rename_i ho;rw[if_neg]
  ·exact e
  ·intro h;apply ho;obtain⟨s,hs,e'⟩:=Dm.1 h;exact Dm.2 ⟨s,.tail _ hs,e'⟩
theorem AZ.perm[Dr]{a w:World}{O O':List BS}(h:AZ a O w)(hp:O'.Perm O):AZ a O' w:=
 ⟨h.ext,fun r hr=>h.res r (hp.mem_iff.1 hr),fun r hr=>h.own r (hp.mem_iff.1 hr),
  (hp.symm.pairwise h.Vy (fun {_x _y} hxy b hb hx=>hxy b hx hb))⟩
theorem J9{w:World}{O O':List BS}(hp:O'.Perm O):fz w O'=fz w O:=by
 funext b
 unfold fz
 have:owned O' b=owned O b:=by
  rw[Bool.eq_iff_iff,Dm,Dm];exact⟨fun⟨r,h,e⟩=>⟨r,hp.mem_iff.1 h,e⟩,fun⟨r,h,e⟩=>⟨r,hp.mem_iff.2 h,e⟩⟩
 rw[this]
theorem AZ.Y0[Dr]{a w w':World}{O:List BS}{r r':BS}(h:AZ a (r::O) w)(hdr:w.drawn<=w'.drawn)(hg:w.grownBy w' r.block)(hok:r'.ok w')(hb:∀b,r'.block=some b->r.block=some b\/w.heap.size<=b):AZ a (r'::O) w':=by
 have hh:=Qxv.1 h.Vy
 have hsame:∀s∈O,∀b,s.block=some b->w'.heap[b]? = w.heap[b]?:=fun s hs b e=>by
  refine hg.block b ((h.res s (.tail _ hs)).lt e) (fun e'=>?_);exact hh.1 s hs b e'.symm e
 refine⟨⟨⟨hg.os.trans h.ext.os,hg.tape.trans h.ext.tape,hg.output.trans h.ext.output,QzK h.ext.size hg.size,fun k hk=>?_⟩,fun o=>QzK (h.ext.drawn o) hdr⟩,fun s hs=>?_,fun s hs b e=>?_,?_⟩
 ·rw[hg.block k (Nat.lt_of_lt_of_le hk h.ext.size) (fun e=>?_)]
  ·exact h.ext.block k hk
  ·have:=h.own r (.head _) k e.symm;omega
 ·cases hs with
  | head=>exact hok
  | tail _ hs=>exact(h.res s (.tail _ hs)).same (hsame s hs)
 ·cases hs with
  | head=>
   rcases hb b e with e' | e'
   ·exact h.own r (.head _) b e'
   ·exact QzK h.ext.size e'
  | tail _ hs=>exact h.own s (.tail _ hs) b e
 ·refine Qxv.2 ⟨fun s hs b e e'=>?_,hh.2⟩
  rcases hb b e with e'' | e''
  ·exact hh.1 s hs b e'' e'
  ·have:=(h.res s (.tail _ hs)).lt e';omega
theorem V0[Dr]{c w w':World}{O:List BS}{r r':BS}(_h:AZ c (r::O) w)(hg:w.grownBy w' r.block)(hb:∀b,r'.block=some b->r.block=some b\/w.heap.size<=b):Le (fz w (r::O)) (fz w' (r'::O)):=fun b o e=>by
 unfold fz at e ⊢
 split at e
 ·cases e
 ·rename_i ho;have hlt:=lt_of_heap e;have hnr:r.block≠some b:=fun e'=>ho (Dm.2 ⟨r,.head _,e'⟩);rw[if_neg]
  ·rw[hg.block b hlt (fun e'=>hnr e'.symm)];exact e
  ·intro hc;obtain⟨s,hs,e'⟩:=Dm.1 hc
   cases hs with
   | head=>
    rcases hb b e' with a | a
    ·exact hnr a
    ·omega
   | tail _ hs=>exact ho (Dm.2 ⟨s,.tail _ hs,e'⟩)
theorem AZ.new[Dr]{a w w':World}{O:List BS}{r:BS}(h:AZ a O w)(hx:Ext w w')(hok:r.ok w')(hb:∀b,r.block=some b->w.heap.size<=b):AZ a (r::O) w':=by
 have h':=h.call hx;refine⟨h'.ext,fun s hs=>?_,fun s hs b e=>?_,Qxv.2 ⟨fun s hs b e e'=>?_,h.Vy⟩⟩
 ·cases hs with
  | head=>exact hok
  | tail _ hs=>exact h'.res s hs
 ·cases hs with
  | head=>exact QzK h.ext.size (hb b e)
  | tail _ hs=>exact h.own s hs b e
 ·have:=hb b e;have:=(h.res s hs).lt e';omega
theorem OX[Dr]{a w w':World}{O:List BS}{r:BS}(_h:AZ a O w)(hx:Ext w w')(hb:∀b,r.block=some b->w.heap.size<=b):Le (fz w O) (fz w' (r::O)):=fun b o e=>by
 unfold fz at e ⊢
 split at e
 ·cases e
 ·rename_i ho;have hlt:=lt_of_heap e;rw[if_neg]
  ·exact hx.le b o e
  ·intro hc;obtain⟨s,hs,e'⟩:=Dm.1 hc
   cases hs with
   | head=>have:=hb b e';omega
   | tail _ hs=>exact ho (Dm.2 ⟨s,hs,e'⟩)
def MR(w w':World)(v:Value):PH:=fun b=>if v.ownBlock=some b then none else nw w w' b
theorem Ra[Dr]{c w w':World}{O:List BS}{v:Value}{e:TypeId}{sz n:Nat}{xs:QqK}(h:AZ c O w):Le (MR w w' v) (fz w' (.row v e sz n xs::O)):=fun b o hb=>by
 unfold MR at hb
 split at hb
 ·cases hb
 ·rename_i hne;have a:=Wt (w':=w') h b o hb;unfold fz at a ⊢
  split at a
  ·cases a
  ·rename_i ho;rw[if_neg]
   ·exact a
   ·intro hc;obtain⟨s,hs,e'⟩:=Dm.1 hc
    cases hs with
    | head=>exact hne e'
    | tail _ hs=>exact ho (Dm.2 ⟨s,hs,e'⟩)
theorem Rb{w w':World}{v:Value}:Le (MR w w' v) (nw w w'):=fun b o hb=>by
 unfold MR at hb
 split at hb
 ·cases hb
 ·exact hb
inductive A6 {α:Type} (r:Rp α) (H:PH):List α->QqK->Prop
 | nil:A6 r H [] []
 | cons {x:α}{l:List α}{c cs:QqK} (h:r.rel H x c) (t:A6 r H l cs):A6 r H (x::l) (c++cs)
section
variable {α:Type}{r:Rp α}{H H':PH}
theorem A6.mono{l:List α}{cs:QqK}(h:A6 r H l cs)(hs:Le H H'):A6 r H' l cs:=by
 induction h with
 | nil=>exact .nil
 | cons h _ ih=>exact .cons (r.mono hs h) ih
theorem A6.len{l:List α}{cs:QqK}(h:A6 r H l cs):cs.length=l.length * r.sz:=by
 induction h with
 | nil=>simp
 | cons h _ ih=>simp[ih,r.len h,Qzy,Nat.add_comm]
theorem A6.one{l:List α}{cs:QqK}(h:A6 r H l cs):∀u∈cs,u.oneCell'=true:=by
 induction h with
 | nil=>simp
 | cons h _ ih=>intro u hu;rcases QzC.1 hu with hu | hu;exact r.one h u hu;exact ih u hu
theorem A6.append{l m:List α}{cs ds:QqK}(h:A6 r H l cs)(k:A6 r H m ds):A6 r H (l++m) (cs++ds):=by
 induction h with
 | nil=>exact k
 | cons h _ ih=>rw[List.cons_append,List.append_assoc];exact .cons h ih
theorem A6.at{l:List α}{cs:QqK}(h:A6 r H l cs):∀i x,l[i]? = some x->∃c,r.rel H x c/\∀j u,c[j]? = some u->cs[i * r.sz+j]? = some u:=by
 induction h with
 | nil=>intro i x hx;cases hx
 | @cons y l c cs h _ ih=>
  intro i x hx
  cases i with
  | zero=>
   simp only[List.getElem?_cons_zero,Option.some.injEq]at hx;subst hx;refine⟨c,h,fun j u hu=>?_⟩;rw[Qz4,Qq8,List.getElem?_append_left (Qz0.1 hu).1];exact hu
  | succ i=>
   simp only[List.getElem?_cons_succ]at hx;obtain⟨d,hd,hh⟩:=ih i x hx;refine⟨d,hd,fun j u hu=>?_⟩;rw[List.getElem?_append_right (by rw[r.len h,Qzy];omega),r.len h];rw[show(i+1) * r.sz+j - r.sz=i * r.sz+j from by rw[Qzy];omega];exact hh j u hu
end
def Own{α:Type}(e:TypeId)(r:Rp α)(w w':World)(v:Value)(l:List α):Prop:=
 ∃xs,w'.ownsRow w.heap.size e r.sz v l.length xs/\A6 r (MR w w' v) l xs
theorem L4{w:World}{b b':Nat}{e:TypeId}{sz n:Nat}{v:Value}{xs:QqK}(h:w.ownsRow b e sz v n xs)(hb:∀k,v.ownBlock=some k->b'<=k):w.ownsRow b' e sz v n xs:=by
 refine⟨h.1,?_⟩
 rcases h.2 with hn | ⟨g,cap,cur,rfl,hbg,hgg,rest⟩
 ·exact .inl hn
 ·exact .inr ⟨g,cap,cur,Z,hb g Z,hgg,rest⟩
theorem L5{α:Type}{r:Rp α}{w:World}{b:Nat}{e:TypeId}{v:Value}{l:List α}{xs:QqK}{H H':PH}(h:w.ownsRow b e r.sz v l.length xs)(he:A6 r H l xs)(hs:Le H H')
  (hb:∀k,v.ownBlock=some k->∀o,w.heap[k]? = some o->H' k=some o):AD r H' v l:=by
 rcases h.2 with ⟨rfl,hn⟩ | ⟨g,cap,cur,rfl,hbg,hgg,hnc,hcm,hcs,htake⟩
 ·have:l=[]:=Qzf hn;subst this;exact AD.nil r H'
 ·refine⟨some ⟨g,0,none⟩,cap,Z,hnc,hcm,(fun h=>by cases h),fun A hA _=>?_⟩
  cases hA
  refine⟨Z,fun i x hx=>?_⟩;obtain⟨c,hc,hcell⟩:=he.at i x hx;refine⟨c,r.mono hs hc,fun j u hu=>?_⟩;have a:=hcell j u hu;rw[<- htake,Qxe]at a
  split at a
  ·simp only[Addr.add_lit,Qq8,GZ];rw[hb g Z _ hgg]
   simpa using a
  ·cases a
theorem Own.vec{α:Type}{e:TypeId}{r:Rp α}{w w':World}{v:Value}{l:List α}(h:Own e r w w' v l):AD r (nw w w') v l:=by
 obtain⟨xs,a,h2⟩:=h;refine L5 a h2 Rb fun k hk o ho=>?_;have:=(a.lt k hk).1;unfold nw;rw[if_pos this];exact ho
end Go.E
namespace Go.E
open Go Go.RowKit
inductive Tr where
 | tail (k:Nat)
 | q (i:Nat) (t:Tr)
 | h (i:Nat) (t:Tr)
 | h2 (i:Nat) (t:Tr) (j:Nat) (u:Tr)
 | h3 (i:Nat) (t:Tr) (j:Nat) (u:Tr) (l:Nat) (v:Tr)
def ZX:Nat->Nat->Tr->Tr
 |_,0,t=>t
 |i,n+1,t=>.q i (ZX (i+1) n t)
def Tr.count:Tr->Nat
 | .tail _=>0
 | .q _ t=>t.count+1
 | .h _ t=>t.count+1
 | .h2 _ t _ _=>t.count+1
 | .h3 _ t _ _ _ _=>t.count+1
def Tr.last:Tr->Nat
 | .tail k=>k
 | .q _ t=>t.last
 | .h _ t=>t.last
 | .h2 _ t _ _=>t.last
 | .h3 _ t _ _ _ _=>t.last
def chainB(ops:Array Oper):Nat->Nat->Array Bool->Bool
 | 0,_,listed=>Region.ready .any ops listed==[]
 | m+1,k,listed=>Region.ready .any ops listed==[k]&&chainB ops m (k+1) (listed.setIfInBounds k true)
def Bi(ops:Array Oper):Tr->Array Bool->Bool
 | .tail k,listed=>chainB ops (ops.size - k) k listed
 | .q i t,listed=>(Region.ready .any ops listed).contains i&&Region.free .any ops listed i&&QqE i t.last&&Bi ops t (listed.setIfInBounds i true)
 | .h i t,listed=>Region.ready .any ops listed==[i]&&QqE i t.last&&Bi ops t (listed.setIfInBounds i true)
 | .h2 i t j u,listed=>Region.ready .any ops listed==[i,j]&&QqE i t.last&&QqE j t.last&&t.count==u.count&&t.last==u.last&&Bi ops t (listed.setIfInBounds i true)&&Bi ops u (listed.setIfInBounds j true)
 | .h3 i t j u l v,listed=>Region.ready .any ops listed==[i,j,l]&&QqE i t.last&&QqE j t.last&&QqE l t.last&&t.count==u.count&&t.last==u.last&&t.count==v.count&&t.last==v.last&&Bi ops t (listed.setIfInBounds i true)&&Bi ops u (listed.setIfInBounds j true)&&Bi ops v (listed.setIfInBounds l true)
section
variable (P:Program) (ops:Array Oper)
def PO(a:Act)(o:Oper)(K:Act->World->Prop):Result Next->Prop
 | .ok (.value v) w'=>K (a.put o.dst v) w'
 | .ok .skip w'=>K (a.put o.dst undef) w'
 | .ok (.enter f args) w'=>Calls P f args w' (fun e w''=>∃v,e=.returned v/\K (a.put o.dst v) w'')
 | _=>False
def Rc(o:Oper)(K:Act->World->Prop)(a:Act)(w:World):Prop:=
 if Region.wanted o (yielded ops a.tmps)then PO P a o K ((execOp a.eval o).run P w)else K (a.put o.dst undef) w
def yx[Dr](o:Oper)(v:Value)(a:Act)(w:World):Prop:=
 (Region.wanted o (yielded ops a.tmps)=true/\∀w',Ext w w'->match(execOp a.eval o).run P w' with
  | .ok (.value u) w''=>w''=w'/\u=v
  | .ok (.enter f args) w''=>w''=w'/\Calls P f args w' (fun e b=>e=.returned v/\Ext w' b)
  | _=>False)\/
 (Region.wanted o (yielded ops a.tmps)=false/\v=undef)
def X[Dr](Q:Exit->Act->World->Prop):Tr->World->Act->World->Prop
 | .tail k,_,a,w=>∀w',Ext w w'->wpOps P ops Q (List.range' k (ops.size - k)) a w'
 | .q i t,b,a,w=>∃o v,ops[i]? = some o/\yx P ops o v a b/\X Q t b (a.put o.dst v) w
 | .h i t,b,a,w=>∃o,ops[i]? = some o/\∀w',Ext w w'->Rc P ops o (fun a'' w''=>∃b',Ext b b'/\Ext b' w''/\X Q t b' a'' w'') a w'
 | .h2 i t j u,b,a,w=>(∃o,ops[i]? = some o/\∀w',Ext w w'->Rc P ops o (fun a'' w''=>∃b',Ext b b'/\Ext b' w''/\X Q t b' a'' w'') a w')/\
   (∃o,ops[j]? = some o/\∀w',Ext w w'->Rc P ops o (fun a'' w''=>∃b',Ext b b'/\Ext b' w''/\X Q u b' a'' w'') a w')
 | .h3 i t j u l v,b,a,w=>(∃o,ops[i]? = some o/\∀w',Ext w w'->Rc P ops o (fun a'' w''=>∃b',Ext b b'/\Ext b' w''/\X Q t b' a'' w'') a w')/\
   (∃o,ops[j]? = some o/\∀w',Ext w w'->Rc P ops o (fun a'' w''=>∃b',Ext b b'/\Ext b' w''/\X Q u b' a'' w'') a w')/\
   (∃o,ops[l]? = some o/\∀w',Ext w w'->Rc P ops o (fun a'' w''=>∃b',Ext b b'/\Ext b' w''/\X Q v b' a'' w'') a w')
def Y[Dr](Q:Exit->Act->World->Prop)(k:Nat)(b:World):Nat->Array Bool->Act->World->Prop
 | 0,listed,a,w=>chainB ops (ops.size - k) k listed=true/\∀w',Ext w w'->wpOps P ops Q (List.range' k (ops.size - k)) a w'
 | m
  + 1,listed,a,w=>Region.ready .any ops listed≠[]/\∀w',Ext w w'->∀i∈Region.ready .any ops listed,∃o,ops[i]? = some o/\
  Rc P ops o (fun a'' w''=>Ext b w''/\Y Q k b m (listed.setIfInBounds i true) a'' w'') a w'
end
section
variable {P:Program}{ops:Array Oper}{Q:Exit->Act->World->Prop}
theorem To{a:Act}{o:Oper}{K K':Act->World->Prop}(h:∀a w,K a w->K' a w):∀{r:Result Next},PO P a o K r->PO P a o K' r:=by
 intro r hr
 cases r with
 | ok nx w'=>
  cases nx <;> simp only[PO]at hr ⊢
  case value v=>exact h _ _ hr
  case skip=>exact h _ _ hr
  case enter f args=>exact hr.mono fun e w'' ⟨v,he,hv⟩=>⟨v,he,h _ _ hv⟩
 | halt x w'=>simp only[PO]at hr
theorem JI{o:Oper}{K K':Act->World->Prop}(h:∀a w,K a w->K' a w){a:Act}{w:World}(hh:Rc P ops o K a w):Rc P ops o K' a w:=by
 unfold Rc at hh ⊢
 split
 ·rename_i hw;rw[if_pos hw]at hh;exact To h hh
 ·rename_i hw;rw[if_neg hw]at hh;exact h _ _ hh
theorem Re{i:Nat}{o:Oper}(hi:ops[i]? = some o){K:Act->World->Prop}{a:Act}{w:World}(h:Rc P ops o K a w):wpOp P ops Q i K a w:=by
 unfold wpOp;simp only[hi];unfold Rc at h
 split
 ·rename_i hw;rw[if_pos hw]at h;refine .inl ?_;unfold Oper.wp;generalize (execOp a.eval o).run P w=r at h ⊢
  cases r with
  | ok nx w'=>
   cases nx <;> simp only[PO]at h <;> simp only[Oper.upon]
   case value v=>exact h
   case skip=>exact h
   case enter f args=>exact h.mono fun e w'' ⟨v,he,hv⟩=>by subst he;exact hv
  | halt x w'=>simp only[PO]at h
 ·rename_i hw;rw[if_neg hw]at h;exact h
theorem Qb[Dr]{o:Oper}{v:Value}{a:Act}{w w':World}(h:yx P ops o v a w)(hx:Ext w w'){K:Act->World->Prop}(hK:∀w'',Ext w' w''->K (a.put o.dst v) w''):Rc P ops o K a w':=by
 unfold Rc
 rcases h with ⟨hw,h⟩ | ⟨hw,rfl⟩
 ·rw[if_pos hw];have b:=h w' hx;generalize (execOp a.eval o).run P w'=r at b ⊢
  cases r with
  | ok nx c=>
   cases nx <;> simp only at b <;> simp only[PO]
   case value u=>obtain⟨rfl,rfl⟩:=b;exact hK _ (Ext.refl _)
   case enter f args=>obtain⟨rfl,b⟩:=b;exact b.mono fun e w'' ⟨he,hv⟩=>⟨v,he,hK _ hv⟩
  | halt x c=>simp only at b
 ·rw[if_neg (by simp[hw])];exact hK _ (Ext.refl _)
theorem WM[Dr]{o oj:Oper}{v u:Value}{a:Act}{w:World}(hs:∀cs b,o.op≠.select cs b)(h3:∀d,oj.dst=some d->d∉o.looksAt ops)(h:yx P ops o v a w):yx P ops o v (a.put oj.dst u) w:=by
 unfold yx at h ⊢;rw[wanted_put o a oj.dst u h3,execOp_put (ops:=ops) o hs a oj.dst u h3];exact h
def Rf(ops:Array Oper)(k:Nat):Prop:=∀listed,HeadInv .any ops k listed->∀i,i<k->listed.getD i true=false->∀t,k<=t->t∉Region.ready .any ops listed
theorem Rg{k:Nat}(h:ops.size<=k\/(Region.sinkB .any ops k=true/\Region.chainB .any ops k=true)):Rf ops k:=by
 intro listed inv i hi hun t ht hr
 rcases Qzd k ops.size with hk | hk
 ·rcases h with h | ⟨a,h2⟩
  ·omega
  ·exact tail_waits a h2 hk inv _ i Z hi hun t ht hr
 ·obtain⟨_,o,ho,_⟩:=mem_ready.1 hr;have:=(QxK.1 ho).1;omega
theorem Rh{m k:Nat}{listed:Array Bool}(h:chainB ops m k listed=true):∀j∈Region.ready .any ops listed,j=k:=by
 intro j hj
 cases m with
 | zero=>simp only[chainB,beq_iff_eq]at h;rw[h]at hj;cases hj
 | succ m=>simp only[chainB,Qq4,beq_iff_eq]at h;rw[h.1]at hj;simpa using hj
theorem Nc[Dr]{k:Nat}{b b':World}(hb:Ext b b'):∀(m:Nat) (listed:Array Bool) (a:Act) (w:World),Y P ops Q k b' m listed a w->Y P ops Q k b m listed a w
 | 0,_,_,_,h=>h
 | m
  + 1,listed,a,w,h=>⟨h.1,fun w' hx i hi=>by
  obtain⟨o,ho,c⟩:=h.2 w' hx i hi;exact⟨o,ho,JI (fun a'' w'' ⟨d,e⟩=>⟨hb.trans d,Nc hb m _ _ _ e⟩) c⟩⟩
theorem V1[Dr]{b:World}{k i:Nat}{oi:Oper}{v:Value}(hw:Rf ops k)(hi:ops[i]? = some oi)(hik:i<k)(hsel:∀(j:Nat) (o:Oper) cs b,ops[j]? = some o->o.op≠.select cs b):
  ∀
   (m:Nat) (listed:Array Bool) (a:Act) (w:World),HeadInv .any ops k listed->
   (∀j oj,ops[j]? = some oj->j≠i->listed.getD j true=false->(∀e∈oj.after,Region.binds .any e=true->e.on≠i)->oi.apart ops oj=true)->
   i∈Region.ready .any ops listed->Ext b w->yx P ops oi v a b->
   Y P ops Q k b m (listed.setIfInBounds i true) (a.put oi.dst v) w->Y P ops Q k b (m+1) listed a w:=by
 intro m
 induction m with
 | zero=>
  intro listed a w inv hfree hr hb hy H;refine⟨fun h=>(by rw[h]at hr;cases hr),fun w' hx j hj=>?_⟩
  have hji:j=i:=by
   refine Decidable.byContradiction fun hne=>?_;have:=Rh H.1 j (ready_mono hj hne);subst this;exact hw listed inv i hik (mem_ready.1 hr).1 j (Qq0 _) hj
  subst hji;exact⟨oi,hi,Qb hy (hb.trans hx) fun w'' hx'=>⟨(hb.trans hx).trans hx',H.1,fun d h3=>H.2 d ((hx.trans hx').trans h3)⟩⟩
 | succ m ih=>
  intro listed a w inv hfree hr hb hy H;refine⟨fun h=>(by rw[h]at hr;cases hr),fun w' hx j hj=>?_⟩
  by_cases hji:j=i
  ·subst hji;refine⟨oi,hi,Qb hy (hb.trans hx) fun w'' hx'=>⟨(hb.trans hx).trans hx',H.1,fun d h3=>H.2 d ((hx.trans hx').trans h3)⟩⟩
  ·obtain⟨oj,hoj,c⟩:=H.2 w' hx j (ready_mono hj hji);refine⟨oj,hoj,?_⟩;obtain⟨hjun,oj',hoj',hall⟩:=mem_ready.1 hj;obtain rfl:oj=oj':=Option.some.inj (hoj.symm.trans hoj')
   have hnot:∀e∈oj.after,Region.binds .any e=true->e.on≠i:=fun e he hb heq=>by
    have c:=hall e he hb;have g:=(mem_ready.1 hr).1;rw[heq]at c
    rcases Qzd i listed.size with h' | h'
    ·simp[h']at g c;rw[g]at c;cases c
    ·simp[Qxa h']at c
   obtain⟨l,n,p⟩:=Oper.apart_spec (hfree j oj hoj hji hjun hnot);have hsj:=fun cs b=>hsel j oj cs b hoj;have hsi:=fun cs b=>hsel i oi cs b hi
   have hjk:j<k:=by
    rcases Qzd j k with h | h
    ·exact h
    ·exact absurd hj (hw listed inv i hik (mem_ready.1 hr).1 j h)
   have hfree':∀k' ok,ops[k']? = some ok->k'≠i->(listed.setIfInBounds j true).getD k' true=false->
     (∀e∈ok.after,Region.binds .any e=true->e.on≠i)->oi.apart ops ok=true:=fun k' ok hk hki hun hno=>by
    refine hfree k' ok hk hki ?_ hno
    by_cases hjk:j=k'
    ·subst hjk;exact hjun
    ·rw[getD_set_ne true hjk]at hun;exact hun
   have next:∀u w'',Ext b w''->Y P ops Q k b m ((listed.setIfInBounds i true).setIfInBounds j true) ((a.put oi.dst v).put oj.dst u) w''->Y P ops Q k b (m+1) (listed.setIfInBounds j true) (a.put oj.dst u) w'':=by
    intro u w'' hx' hY;refine ih (listed.setIfInBounds j true) (a.put oj.dst u) w'' (inv.set hj hjk) hfree' (ready_mono hr (Ne.symm hji)) hx' (WM hsi p hy) ?_;rw[Array.setIfInBounds_comm _ _ hji,<- Act.put_comm a v u n];exact hY
   unfold Rc at c ⊢;rw[wanted_put oj a oi.dst v l,execOp_put (ops:=ops) oj hsj a oi.dst v l]at c
   split
   ·rename_i hw;rw[if_pos hw]at c;generalize (execOp a.eval oj).run P w'=r at c ⊢
    cases r with
    | ok nx q=>
     cases nx <;> simp only[PO]at c ⊢
     case value u=>exact⟨c.1,next _ _ c.1 c.2⟩
     case skip=>exact⟨c.1,next _ _ c.1 c.2⟩
     case enter f args=>exact c.mono fun e w'' ⟨u,he,hu⟩=>⟨u,he,hu.1,next _ _ hu.1 hu.2⟩
    | halt x q=>simp only[PO]at c
   ·rename_i hw;rw[if_neg hw]at c;exact⟨c.1,next _ _ c.1 c.2⟩
theorem Mb{i j:Nat}(h:QqE i j=true):i<j:=by simpa[Nat.blt_eq]using h
theorem L6[Dr]{k:Nat}(hw:Rf ops k)(hsel:∀(j:Nat) (o:Oper) cs b,ops[j]? = some o->o.op≠.select cs b):
  ∀(t:Tr) (listed:Array Bool) (b:World) (a:Act) (w:World),t.last=k->HeadInv .any ops k listed->Bi ops t listed=true->Ext b w->X P ops Q t b a w->Y P ops Q k b t.count listed a w
 | .tail k',listed,b,a,w,hk,inv,hc,hb,h=>by
  obtain rfl:k'=k:=hk;exact⟨hc,h⟩
 | .q i t,listed,b,a,w,hk,inv,hc,hb,h=>by
  simp only[Bi,Qq4]at hc;obtain⟨⟨⟨c1,c2⟩,c3⟩,c4⟩:=hc;obtain⟨o,v,ho,hy,hX⟩:=h;have hr:i∈Region.ready .any ops listed:=by simpa using c1
  have hlt:i<k:=by rw[<- hk];exact Mb c3
  exact V1 hw ho hlt hsel t.count listed a w inv (fun j oj=>Region.free_spec ho c2 j oj) hr hb hy (L6 hw hsel t _ _ _ _ hk (inv.set hr hlt) c4 hb hX)
 | .h i t,listed,b,a,w,hk,inv,hc,hb,h=>by
  simp only[Bi,Qq4,beq_iff_eq]at hc;obtain⟨⟨c1,c3⟩,c4⟩:=hc;obtain⟨o,ho,hX⟩:=h;have hr:i∈Region.ready .any ops listed:=by simp[c1]
  have hlt:i<k:=by rw[<- hk];exact Mb c3
  refine⟨by simp[c1],fun w' hx j hj=>?_⟩;obtain rfl:j=i:=by simpa[c1]using hj
  exact⟨o,ho,JI (fun a'' w'' ⟨b',c,d,e⟩=>⟨c.trans d,Nc c _ _ _ _ (L6 hw hsel t _ b' _ _ hk (inv.set hr hlt) c4 d e)⟩) (hX w' hx)⟩
 | .h2 i t j u,listed,b,a,w,hk,inv,hc,hb,h=>by
  simp only[Bi,Qq4,beq_iff_eq]at hc;obtain⟨⟨⟨⟨⟨⟨c1,c3⟩,c3'⟩,c5⟩,c6⟩,c4⟩,c4'⟩:=hc;obtain⟨⟨o,ho,hX⟩,⟨o',ho',hX'⟩⟩:=h;have hr:i∈Region.ready .any ops listed:=by simp[c1]
  have hr':j∈Region.ready .any ops listed:=by simp[c1]
  have hlt:i<k:=by rw[<- hk];exact Mb c3
  have hlt':j<k:=by rw[<- hk];exact Mb c3'
  have hk':u.last=k:=by rw[<- c6];exact hk
  refine⟨by simp[c1],fun w' hx l hl=>?_⟩;have hl':l=i\/l=j:=by simpa[c1]using hl
  rcases hl' with rfl | rfl
  ·exact⟨o,ho,JI (fun a'' w'' ⟨b',c,d,e⟩=>⟨c.trans d,Nc c _ _ _ _ (L6 hw hsel t _ b' _ _ hk (inv.set hr hlt) c4 d e)⟩) (hX w' hx)⟩
  ·refine⟨o',ho',JI (fun a'' w'' ⟨b',c,d,e⟩=>⟨c.trans d,?_⟩) (hX' w' hx)⟩;have:=Nc c _ _ _ _ (L6 hw hsel u _ b' _ _ hk' (inv.set hr' hlt') c4' d e)
   show Y P ops Q k b t.count _ _ _
   rw[c5];exact this
 | .h3 i t j u m v,listed,b,a,w,hk,inv,hc,hb,h=>by
  simp only[Bi,Qq4,beq_iff_eq]at hc;obtain⟨⟨⟨⟨⟨⟨⟨⟨⟨⟨c1,c3⟩,c3'⟩,c3''⟩,c5⟩,c6⟩,c7⟩,c8⟩,c4⟩,c4'⟩,c4''⟩:=hc;obtain⟨⟨o,ho,hX⟩,⟨o',ho',hX'⟩,⟨o'',ho'',hX''⟩⟩:=h;have hr:i∈Region.ready .any ops listed:=by simp[c1]
  have hr':j∈Region.ready .any ops listed:=by simp[c1]
  have hr'':m∈Region.ready .any ops listed:=by simp[c1]
  have hlt:i<k:=by rw[<- hk];exact Mb c3
  have hlt':j<k:=by rw[<- hk];exact Mb c3'
  have hlt'':m<k:=by rw[<- hk];exact Mb c3''
  have hk':u.last=k:=by rw[<- c6];exact hk
  have hk'':v.last=k:=by rw[<- c8];exact hk
  refine⟨by simp[c1],fun w' hx l hl=>?_⟩;have hl':l=i\/l=j\/l=m:=by simpa[c1]using hl
  rcases hl' with rfl | rfl | rfl
  ·exact⟨o,ho,JI (fun a'' w'' ⟨b',c,d,e⟩=>⟨c.trans d,Nc c _ _ _ _ (L6 hw hsel t _ b' _ _ hk (inv.set hr hlt) c4 d e)⟩) (hX w' hx)⟩
  ·refine⟨o',ho',JI (fun a'' w'' ⟨b',c,d,e⟩=>⟨c.trans d,?_⟩) (hX' w' hx)⟩;have:=Nc c _ _ _ _ (L6 hw hsel u _ b' _ _ hk' (inv.set hr' hlt') c4' d e)
   show Y P ops Q k b t.count _ _ _
   rw[c5];exact this
  ·refine⟨o'',ho'',JI (fun a'' w'' ⟨b',c,d,e⟩=>⟨c.trans d,?_⟩) (hX'' w' hx)⟩;have:=Nc c _ _ _ _ (L6 hw hsel v _ b' _ _ hk'' (inv.set hr'' hlt'') c4'' d e)
   show Y P ops Q k b t.count _ _ _
   rw[c7];exact this
theorem Mc:∀(m k:Nat) (listed:Array Bool) (a:Act) (w:World),chainB ops m k listed=true->wpOps P ops Q (List.range' k m) a w->wpAny P .any ops Q m listed a w
 | 0,k,listed,a,w,h,hw=>by
  simp only[chainB,beq_iff_eq]at h;exact⟨h,by simpa[wpOps]using hw⟩
 | m+1,k,listed,a,w,h,hw=>by
  simp only[chainB,Qq4,beq_iff_eq]at h;refine wpAny_all h.1 Z8 fun i hi=>?_;obtain rfl:i=k:=by simpa using hi
  rw[List.range'_succ,wpOps_cons]at hw;exact wpOp_mono (fun a' w' h'=>Mc m (i+1) _ a' w' h.2 h') hw
theorem Nd[Dr]{k:Nat}{b:World}:∀(m:Nat) (listed:Array Bool) (a:Act) (w:World),Y P ops Q k b m listed a w->wpAny P .any ops Q (m+(ops.size - k)) listed a w
 | 0,listed,a,w,h=>by rw[Qq8];exact Mc _ k listed a w h.1 (h.2 w (Ext.refl w))
 | m+1,listed,a,w,h=>by
  rw[show m+1+(ops.size - k)=(m+(ops.size - k))+1 by omega];refine⟨fun c=>absurd c h.1,fun i hi=>?_⟩;obtain⟨o,ho,hx⟩:=h.2 w (Ext.refl w) i hi;exact Re ho (JI (fun a' w' h'=>Nd m _ a' w' h'.2) hx)
theorem MS(k:Nat):HeadInv .any ops k (QzD ops.size false):=
 ⟨by simp,(fun j oj _ hl=>by rw[getD_replicate_false]at hl;cases hl),fun t _ ht=>by simp[ht]⟩
def L7(l:List Oper)(t:Tr):Bool:=
 Region.noSelect l.toArray&&(Nat.ble l.length t.last||(Region.sinkB .any l.toArray t.last&&Region.chainB .any l.toArray t.last))&&Bi l.toArray t (QzD l.length false)&&Qzb (t.count+(l.length - t.last)) l.length
theorem IH[Dr]{w:World}:Ext w {w with drawn:=w.drawn+1}:=⟨⟨Z,Z,Z,Qq0 _,fun _ _=>Z⟩,fun _=>Nat.le_succ _⟩
theorem TT[Dr]{id:Nat}{l:List Oper}{a:Act}{w:World}(t:Tr)(hm:P.follows .mixedOrders=true)(hc:L7 l t=true)(h:X P l.toArray Q t {w with drawn:=w.drawn+1} a {w with drawn:=w.drawn+1}):(Code.region id l.toArray true).wp P Q a w:=by
 simp only[L7,Qq4,Qz5]at hc;obtain⟨⟨⟨c1,c2⟩,c3⟩,c4⟩:=hc
 have hw:Rf l.toArray t.last:=Rg (by
  rcases c2 with c2 | c2
  ·left;simpa[Nat.ble_eq]using c2
  ·right;exact c2)
 have hlen:=Qxw c4;have hY:=L6 hw (Region.noSelect_spec c1) t (QzD l.toArray.size false) _ a _ Z (MS _) (by simpa using c3) (Ext.refl _) h;have:=Nd _ _ _ _ hY;refine wp_region_any hm ?_;have e:t.count+(l.toArray.size - t.last)=l.toArray.size:=by simpa using hlen
 rw[e]at this;exact this
end
def FO:List Oper->Nat->Option Oper
 | [],_=>none
 | o::_,0=>some o
 | _::l,i+1=>FO l i
theorem EP:∀(l:List Oper) (i:Nat),FO l i=l[i]?
 | [],_=>rfl
 | _::_,0=>rfl
 | _::l,i+1=>by simpa[FO]using EP l i
def Qc:Nat->List Oper->List Oper
 | 0,l=>l
 | _+1,[]=>[]
 | k+1,_::l=>Qc k l
theorem Ri:∀(k:Nat) (l:List Oper),Qc k l=l.drop k
 | 0,_=>by simp[Qc]
 | _+1,[]=>by simp[Qc]
 | k+1,_::l=>by simpa[Qc]using Ri k l
def D[Dr](P:Program)(n:Sz)(l:List Oper)(Q:Exit->Act->World->Prop)(t:Tr)(L:Env)(w:World):Prop:=∀a,Fr n a L->X P l.toArray Q t w a w
def B2[Dr](P:Program)(L:Env)(w:World)(op:Op)(ty:TypeId)(v:Value):Prop:=
 ∀w',Ext w w'->∀ρ,RN L ρ->∀dst pos af g,(execOp ρ ⟨dst,op,ty,pos,af,g⟩).run P w'=.ok (.value v) w'
section
variable {P:Program}{n:Sz}{l:List Oper}{Q:Exit->Act->World->Prop}{L:Env}{w:World}{t u:Tr}{i j:Nat}
 {d:Nat}{op:Op}{ty:TypeId}{pos:String}{af:Array Edge}{y:Code}
theorem S2[Dr]{id:Nat}(t:Tr)(hm:P.follows .mixedOrders=true)(hc:L7 l t=true)(h:D P n l Q t L {w with drawn:=w.drawn+1}):W P n (.region id l.toArray true) Q L w:=
 fun a fr=>TT t hm hc (h a fr)
theorem Dq[Dr]{id:Nat}(t:Tr)(hm:P.follows .mixedOrders=true)(hc:L7 l t=true)(h:∀w',Ext w w'->D P n l (OT P y Q) t L w'):W P n (.seq (.region id l.toArray true) y) Q L w:=
 AN (S2 t hm hc (h _ IH))
theorem L8[Dr]{id:Nat}(t:Tr)(hm:P.follows .mixedOrders=true)(hc:L7 l t=true)(h:∀w',Ext w w'->D P n l Q t L w'):W P n (.region id l.toArray true) Q L w:=
 S2 t hm hc (h _ IH)
theorem B9[Dr]{v:Value}(ho:FO l i=some ⟨some d,op,ty,pos,af,none⟩)(hr:B2 P L w op ty v)(hn:QqE d n.n=true)(h:D P n l Q t ((d,v)::L) w):D P n l Q (.q i t) L w:=fun a fr=>by
 refine⟨_,v,by rw[EP]at ho;simpa using ho,.inl ⟨by simp[Region.wanted],fun w' hx=>?_⟩,h _ (fr.put hn)⟩;rw[hr w' hx _ fr.PN];exact⟨Z,Z⟩
theorem D4[Dr]{v:Value}{j:Nat}{want b:Bool}{s:Nat}{oj:Oper}(ho:FO l i=some ⟨some d,op,ty,pos,af,some (j,want)⟩)(hr:B2 P L w op ty v)(hj:FO l j=some oj)(hd:oj.dst=some s)(hb:gt L s=some (.bool b))(hw:b=want)(hn:QqE d n.n=true)
  (h:D P n l Q t ((d,v)::L) w):D P n l Q (.q i t) L w:=fun a fr=>by
 have hj':l.toArray[j]? = some oj:=by rw[EP]at hj;simpa using hj
 have hy:yielded l.toArray a.tmps j=some b:=by simp only[yielded,hj',QqC,hd,fr.get s _ hb]
 refine⟨_,v,by rw[EP]at ho;simpa using ho,.inl ⟨by simp[Region.wanted,hy,hw],fun w' hx=>?_⟩,h _ (fr.put hn)⟩;rw[hr w' hx _ fr.PN];exact⟨Z,Z⟩
theorem MG[Dr]{j:Nat}{want b:Bool}{s:Nat}{oj:Oper}(ho:FO l i=some ⟨some d,op,ty,pos,af,some (j,want)⟩)(hj:FO l j=some oj)(hd:oj.dst=some s)(hb:gt L s=some (.bool b))(hw:b = !want)(hn:QqE d n.n=true)
  (h:D P n l Q t ((d,undef)::L) w):D P n l Q (.q i t) L w:=fun a fr=>by
 have hj':l.toArray[j]? = some oj:=by rw[EP]at hj;simpa using hj
 have hy:yielded l.toArray a.tmps j=some b:=by simp only[yielded,hj',QqC,hd,fr.get s _ hb]
 exact⟨_,undef,by rw[EP]at ho;simpa using ho,.inr ⟨by simp[Region.wanted,hy,hw],Z⟩,h _ (fr.put hn)⟩
theorem Ad[Dr]{v:Value}(h:pu L op=some v):B2 P L w op ty v:=fun _ _ ρ hρ dst pos af _=>RP (dst:=dst) (pos:=pos) (af:=af) h ρ hρ
def V2(n:Sz)(l:List Oper):Nat->Tr->Env->Option (Tr×Env)
 | 0,t,L=>some (t,L)
 | k+1,.q i t,L=>match FO l i with
  | some ⟨some d,op,_,_,_,none⟩=>match pu L op with
   | some v=>bif QqE d n.n then V2 n l k t ((d,v)::L)else none
   | none=>none
  | _=>none
 | _+1,_,_=>none
theorem Wu[Dr]:∀(k:Nat) {t t':Tr}{L L':Env},V2 n l k t L=some (t',L')->D P n l Q t' L' w->D P n l Q t L w
 | 0,t,t',L,L',h,hD=>by simp only[V2,Option.some.injEq,Prod.mk.injEq]at h;obtain⟨rfl,rfl⟩:=h;exact hD
 | k+1,.tail _,t',L,L',h,hD=>by simp only[V2,reduceCtorEq]at h
 | k+1,.h _ _,t',L,L',h,hD=>by simp only[V2,reduceCtorEq]at h
 | k+1,.h2 _ _ _ _,t',L,L',h,hD=>by simp only[V2,reduceCtorEq]at h
 | k+1,.h3 _ _ _ _ _ _,t',L,L',h,hD=>by simp only[V2,reduceCtorEq]at h
 | k+1,.q i t,t',L,L',h,hD=>by
  simp only[V2]at h
  split at h
  ·rename_i d op ty pos af ho
   split at h
   ·rename_i v hv
    cases hd:QqE d n.n with
    | false=>rw[hd]at h;cases h
    | true=>rw[hd]at h;exact B9 ho (Ad hv) hd (Wu k h hD)
   ·cases h
  ·cases h
theorem BW[Dr](k:Nat){t t':Tr}{L L':Env}(h:V2 n l k t L=some (t',L'))(hD:D P n l Q t' L' w):D P n l Q t L w:=Wu k h hD
theorem HP[Dr]{f:FuncId}{args:List Operand}{vs:QqK}{at_:Array TypeId}{v:Value}(ho:FO l i=some ⟨some d,.call ⟨.value (.func f),args.toArray,at_⟩,ty,pos,af,none⟩)(ha:QV L args=some vs)(hn:QqE d n.n=true)
  (hok:∀w',Ext w w'->Ok P f vs w' (fun u w''=>Ext w' w''/\u=v)) (h:D P n l Q t ((d,v)::L) w):D P n l Q (.q i t) L w:=fun a fr=>by
 refine⟨_,v,by rw[EP]at ho;simpa using ho,.inl ⟨by simp[Region.wanted],fun w' hx=>?_⟩,h _ (fr.put hn)⟩;rw[N8 (hok w' hx).1 ha _ fr.PN];exact⟨Z,(hok w' hx).2.mono fun e w'' ⟨u,he,hx',hu⟩=>⟨by rw[he,hu],hx'⟩⟩
theorem S3[Dr]{f:FuncId}{args:List Operand}{vs:QqK}{at_:Array TypeId}{v:Value}{j:Nat}{want b:Bool}{s:Nat}{oj:Oper}(ho:FO l i=some ⟨some d,.call ⟨.value (.func f),args.toArray,at_⟩,ty,pos,af,some (j,want)⟩)
  (hj:FO l j=some oj) (hd:oj.dst=some s) (hb:gt L s=some (.bool b)) (hw:b=want) (ha:QV L args=some vs) (hn:QqE d n.n=true)
  (hok:∀w',Ext w w'->Ok P f vs w' (fun u w''=>Ext w' w''/\u=v)) (h:D P n l Q t ((d,v)::L) w):D P n l Q (.q i t) L w:=fun a fr=>by
 have hj':l.toArray[j]? = some oj:=by rw[EP]at hj;simpa using hj
 have hy:yielded l.toArray a.tmps j=some b:=by simp only[yielded,hj',QqC,hd,fr.get s _ hb]
 refine⟨_,v,by rw[EP]at ho;simpa using ho,.inl ⟨by simp[Region.wanted,hy,hw],fun w' hx=>?_⟩,h _ (fr.put hn)⟩;have hrun:=N8 (P:=P) (w:=w') (ty:=ty) (pos:=pos) (af:=af) (at_:=at_) (dst:=some d) (hok w' hx).1 ha _ fr.PN;have e:execOp a.eval ⟨some d,.call ⟨.value (.func f),args.toArray,at_⟩,ty,pos,af,some (j,want)⟩=execOp a.eval ⟨some d,.call ⟨.value (.func f),args.toArray,at_⟩,ty,pos,af,none⟩:=Z;rw[e,hrun];exact⟨Z,(hok w' hx).2.mono fun e w'' ⟨u,he,hx',hu⟩=>⟨by rw[he,hu],hx'⟩⟩
theorem F1[Dr]{f:FuncId}{args:List Operand}{vs:QqK}{at_:Array TypeId}{R:World->Value->World->Prop}(ho:FO l i=some ⟨some d,.call ⟨.value (.func f),args.toArray,at_⟩,ty,pos,af,none⟩)(ha:QV L args=some vs)(hn:QqE d n.n=true)
  (hok:∀w',Ext w w'->Ok P f vs w' (fun u w''=>Ext w' w''/\R w' u w'')) (h:∀w' v w'',Ext w w'->Ext w' w''->R w' v w''->D P n l Q t ((d,v)::L) w''):D P n l Q (.h i t) L w:=fun a fr=>by
 refine⟨_,by rw[EP]at ho;simpa using ho,fun w' hx=>?_⟩;unfold Rc;rw[if_pos (by simp[Region.wanted]),N8 (hok w' hx).1 ha _ fr.PN];exact(hok w' hx).2.mono fun e w'' ⟨v,he,b,h2⟩=>⟨v,he,w'',hx.trans b,Ext.refl _,h w' v w'' hx b h2 _ (fr.put hn)⟩
theorem TU[Dr]{R:World->Value->World->Prop}(ho:FO l i=some ⟨some d,op,ty,pos,af,none⟩)(hn:QqE d n.n=true)
  (hok:∀w',Ext w w'->∀ρ,RN L ρ->∃v w'',(execOp ρ ⟨some d,op,ty,pos,af,none⟩).run P w'=.ok (.value v) w''/\Ext w' w''/\R w' v w'') (h:∀w' v w'',Ext w w'->Ext w' w''->R w' v w''->D P n l Q t ((d,v)::L) w''):D P n l Q (.h i t) L w:=fun a fr=>by
 refine⟨_,by rw[EP]at ho;simpa using ho,fun w' hx=>?_⟩;obtain⟨v,w'',hrun,b,h2⟩:=hok w' hx _ fr.PN;unfold Rc;rw[if_pos (by simp[Region.wanted]),hrun];exact⟨w'',hx.trans b,Ext.refl _,h w' v w'' hx b h2 _ (fr.put hn)⟩
theorem Tp[Dr](b:D P n l Q (.h i t) L w)(h2:D P n l Q (.h j u) L w):D P n l Q (.h2 i t j u) L w:=fun a fr=>⟨b a fr,h2 a fr⟩
theorem BM[Dr]{k:Nat}(h:∀w',Ext w w'->S P n l.toArray Q (Qc k l) L w'):D P n l Q (.tail k) L w:=fun a fr=>fun w' hx=>by
 have:=h w' hx a fr;rw[Ri]at this;have e:=wpOps_eq_wpList (P:=P) (ops:=l.toArray) (Q:=Q) (l.drop k) k (fun j=>by simp);rw[List.length_drop]at e
 show wpOps P l.toArray Q (List.range' k (l.toArray.size - k)) a w'
 rw[Qxy,e];exact this
theorem IP[Dr](s:Nat){b:Bool}(_hb:gt L s=some (.bool b))(a:b=true->D P n l Q t L w)(h2:b=false->D P n l Q t L w):D P n l Q t L w:=by
 cases b
 ·exact h2 Z
 ·exact a Z
theorem Bl{ops:Array Oper}{rest:List Oper}{s:Nat}{b:Bool}(_hb:gt L s=some (.bool b))(a:b=true->S P n ops Q rest L w)(h2:b=false->S P n ops Q rest L w):S P n ops Q rest L w:=by
 cases b
 ·exact h2 Z
 ·exact a Z
theorem Aj[Dr]{c x y:Operand}{b:Bool}{v:Value}[hc:ZZ (ev L c) (some (.bool b))](hb:b=true)(hx:ev L x=some v):B2 P L w (.pick c x y) ty v:=fun w' _ ρ hρ dst pos af g=>by
 subst hb;simp[execOp,hρ c _ hc.e,hρ x _ hx,asBool]
theorem An[Dr]{c x y:Operand}{b:Bool}{v:Value}[hc:ZZ (ev L c) (some (.bool b))](hb:b=false)(hx:ev L y=some v):B2 P L w (.pick c x y) ty v:=fun w' _ ρ hρ dst pos af g=>by
 subst hb;simp[execOp,hρ c _ hc.e,hρ y _ hx,asBool]
theorem Ah[Dr]{ops:Array Oper}{rest:List Oper}{v:Value}(hr:B2 P L w op ty v)[hn:ZZ (QqE d n.n) true](h:S P n ops Q rest ((d,v)::L) w):S P n ops Q (⟨some d,op,ty,pos,af,none⟩::rest) L w:=
 EO hn.e (fun ρ hρ=>hr w (Ext.refl w) ρ hρ _ _ _ _) h
end
end Go.E
end
noncomputable section
namespace Go.E
open Go Go.RowKit
def Zr(P:Program)(t:TypeId)(z:Value)(sz bt:Nat):Prop:=(P.info? t).map (fun i=>(i.zero,i.size,i.bytes))=some (some z,sz,bt)
class Qqq(P:Program)(t:TypeId)(z:outParam Value)(s b:outParam Nat):Prop where e:Zr P t z s b
theorem Zr.parts{P:Program}{t:TypeId}{z:Value}{sz bt:Nat}(h:Zr P t z sz bt):∃i,P.info? t=some i/\i.zero=some z/\i.size=sz/\i.bytes=bt:=by
 unfold Zr at h
 cases hi:P.info? t with
 | none=>rw[hi]at h;cases h
 | some i=>rw[hi]at h;simp at h;exact⟨i,Z,h.1,h.2.1,h.2.2⟩
def Nf:TypeDesc->Bool
 | .struct _ | .array _ _=>false
 | _=>true
def OY:TypeDesc->Bool
 | .struct _ | .array _ _=>true
 | _=>false
def DW:List BS->Nat->Option BS
 | [],_=>none
 | r::_,0=>some r
 | _::l,i+1=>DW l i
def DX:List BS->Nat->BS->List BS
 | [],_,_=>[]
 | _::l,0,s=>s::l
 | r::l,i+1,s=>r::DX l i s
def Ln:List BS->Nat->List BS
 | [],_=>[]
 | _::l,0=>l
 | r::l,i+1=>r::Ln l i
theorem EH:∀{O:List BS}{i:Nat}{r:BS},DW O i=some r->O.Perm (r::Ln O i)
 | r::l,0,s,h=>by simp only[DW,Option.some.injEq]at h;subst h;exact List.Perm.refl _
 | r::l,i+1,s,h=>((EH (O:=l) (i:=i) h).cons r).trans (List.Perm.swap _ _ _)
theorem OZ:∀{O:List BS}{i:Nat}{r:BS} (s:BS),DW O i=some r->(DX O i s).Perm (s::Ln O i)
 | _r::_l,0,_,_s,_h=>List.Perm.refl _
 | r::l,i+1,_,s,h=>((OZ (O:=l) (i:=i) s h).cons r).trans (List.Perm.swap _ _ _)
section
variable {w0 w w':World}{O:List BS}{r r':BS}{i:Nat}
theorem AZ.at[Dr](h:AZ w0 O w)(hi:DW O i=some r):r.ok w:=h.res r ((EH hi).mem_iff.2 (.head _))
theorem AZ.Lb[Dr](h:AZ w0 O w)(hi:DW O i=some r)(hdr:w.drawn<=w'.drawn)(hg:w.grownBy w' r.block)(hok:r'.ok w')(hb:∀b,r'.block=some b->r.block=some b\/w.heap.size<=b):AZ w0 (DX O i r') w':=
 ((h.perm (EH hi).symm).Y0 hdr hg hok hb).perm (OZ r' hi)
theorem GA[Dr](h:AZ w0 O w)(hi:DW O i=some r)(hg:w.grownBy w' r.block)(hb:∀b,r'.block=some b->r.block=some b\/w.heap.size<=b):Le (fz w O) (fz w' (DX O i r')):=by
 rw[J9 (OZ r' hi),J9 (EH hi)];exact V0 (h.perm (EH hi).symm) hg hb
theorem AZ.AM[Dr](h:AZ w0 O w)(hi:DW O i=some r):AZ w0 (Ln O i) w:=(h.perm (EH hi).symm).drop
theorem Ae(hi:DW O i=some r):Le (fz w O) (fz w (Ln O i)):=by
 rw[J9 (EH hi)];exact Vz
theorem Pa{k:Nat}(hi:DW O i=some r)(hb:r.block=some k)(hdis:O.Pairwise fun r s=>∀b,r.block=some b->s.block≠some b):fz w (Ln O i) k=w.heap[k]?:=by
 unfold fz;rw[if_neg];intro ho;obtain⟨s,hs,e⟩:=Dm.1 ho;have:=(EH hi).pairwise hdis (fun {x y} hxy b hb hx=>hxy b hx hb);exact(Qxv.1 this).1 s hs k hb e
end
section
variable {P:Program}{n:Sz}{ops:Array Oper}{Q:Exit->Act->World->Prop}{L:Env}{w w0:World}{O:List BS}{rest:List Oper}
 {d:Nat}{ty:TypeId}{pos:String}{af:Array Edge}{α:Type}{r:Rp α}{H:PH}{x y:Operand}{v:Value}{t e:TypeId}
theorem AX[Dr]{l:List α}[hx:ZZ (ev L x) (some v)][ht:ZZ (P.underlying t) (some (.slice e))](hv:AD r H v l):B2 P L w (.call ⟨.builtin .len,#[x],#[t]⟩) ty (.int .i64 (l.length:Int)):=by
 obtain⟨a,cap,rfl⟩:=hv.header;intro w' _ ρ hρ dst pos af g;simp[execOp,resolve,hρ x _ hx.e,invoke,builtin,Builtin.len_,run_underlying ht.e,goInt]
theorem RR[Dr]{a:Option Addr}{m cap:Nat}(hx:ev L x=some (.slice a m cap))(ht:P.underlying t=some (.slice e)):B2 P L w (.call ⟨.builtin .len,#[x],#[t]⟩) ty (.int .i64 (m:Int)):=by
 intro w' _ ρ hρ dst pos af g;simp[execOp,resolve,hρ x _ hx,invoke,builtin,Builtin.len_,run_underlying ht,goInt]
theorem K1{b sz m:Nat}{xs:QqK}(h:w.ownsRow b e sz v m xs):∃a cap,v=.slice a m cap:=by
 rcases h.2 with ⟨rfl,hn⟩ | ⟨g,cap,cur,rfl,_⟩
 ·exact⟨none,0,by rw[hn]⟩
 ·exact⟨_,_,Z⟩
theorem Pb[Dr](i:Nat){sz m:Nat}{xs:QqK}{e':TypeId}(hx:ev L x=some v)[ht:ZZ (P.underlying t) (some (.slice e))](hL:AZ w0 O w)(hi:DW O i=some (.row v e' sz m xs)):B2 P L w (.call ⟨.builtin .len,#[x],#[t]⟩) ty (.int .i64 (m:Int)):=by
 obtain⟨a,cap,rfl⟩:=K1 (hL.at hi);exact RR hx ht.e
theorem Kp{A:Addr}(h:A.spot=none)(i j:Nat):(A.add i).add j=A.add (i+j):=by
 obtain⟨b,o,s⟩:=A
 cases h
 simp[Addr.add_lit,Nat.add_assoc]
theorem Ld{A:Addr}(h:A.spot=none)(i:Nat):(A.add i).spot=none:=by
 obtain⟨b,o,s⟩:=A
 cases h
 simp[Addr.add_lit]
theorem EG.add{p:Addr}{c:QqK}(h:EG H p c)(k:Nat):EG H (p.add k) (c.drop k):=
 ⟨Ld h.1 k,fun j u hu=>by rw[Kp h.1];exact h.2 (k+j) u (by simpa using hu)⟩
theorem EG.mono{H':PH}{p:Addr}{c:QqK}(h:EG H p c)(hs:Le H H'):EG H' p c:=⟨h.1,fun j u hu=>Jn hs (h.2 j u hu)⟩
theorem AD.ptr{l:List α}(hv:AD r H v l)(m:Nat){z:α}(hl:l[m]? = some z):∃(a:Addr) (cap:Nat) (c:QqK),v=.slice (some a) l.length cap/\r.rel H z c/\EG H (a.add (m * r.sz)) c:=by
 obtain⟨a,cap,b,h2,h3,d,f⟩:=hv.ex;have hlt:m<l.length:=(Qz0.1 hl).1
 cases a with
 | none=>have:=d Z;omega
 | some A=>
  obtain⟨hs,hh⟩:=f A Z (fun e=>by subst e;simp at hlt);obtain⟨c,hc,hcell⟩:=hh m z hl;exact⟨A,cap,c,b,hc,Ld hs _,fun j u hu=>by rw[Kp hs];exact hcell j u hu⟩
theorem Q1[Dr]{l:List α}{k:IntKind}{i:Int}{zz:Value}{bt:Nat}(hx:ev L x=some v)(hy:ev L y=some (.int k i))(ht:P.underlying t=some (.slice e))(he:Zr P e zz r.sz bt)(hv:AD r H v l)(m:Nat)(hm:i=(m:Int)){z:α}(hl:l[m]? = some z):
  ∃p c,r.rel H z c/\EG H p c/\∀w,B2 P L w (.indexAddr t x y) ty (.pointer (some p)):=by
 obtain⟨a,cap,c,rfl,hc,hp⟩:=hv.ptr m hl;refine⟨_,c,hc,hp,fun w w' _ ρ hρ dst pos af g=>?_⟩;obtain⟨inf,b,h2,h3,d⟩:=he.parts;have hlt:m<l.length:=(Qz0.1 hl).1;subst hm;have f:(0:Int)<=(m:Int)/\(m:Int)<(l.length:Int):=by omega
 simp[execOp,hρ x _ hx,hρ y _ hy,Instr.indexAt,asIntOf,run_underlying ht,sizeOf,typeInfo,b,h3,hlt]
theorem AV[Dr]{p:Addr}{u:Value}{c:QqK}{dd:TypeDesc}[hx:ZZ (ev L x) (some (.pointer (some p)))][ht:ZZ (P.underlying t) (some dd)][hd:ZZ (Nf dd) true](hp':EG H p (u::c))(hs:Le H (hp w)):B2 P L w (.load t x) ty u:=by
 have hd:=hd.e
 intro w' hw ρ hρ dst pos af g
 have hcell:w'.cell? p=some u:=by
  have:=hp'.2 0 u Z8;rw[Addr.add_zero']at this;exact cell_of (hs.ext hw) this
 cases dd <;> simp only[Nf,Qz3]at hd <;>
  simp[execOp,hρ x _ hx.e,Instr.loadAt,Instr.sureAddr,loadVar,isAgg,run_underlying ht.e,hcell]
theorem run_loadCellsFrom{p:Addr}(w:World):∀(m i:Nat) (c:QqK) (acc:Array Value),c.length=m->(∀j u,c[j]? = some u->w.cell? (p.add (i+j))=some u)->
  (loadCellsFrom p i m acc).run P w=.ok (acc++c.toArray) w
 | 0,i,c,acc,hl,_=>by
  have:c=[]:=Qzf hl;subst this;simp[loadCellsFrom]
 | m+1,i,[],acc,hl,_=>by simp at hl
 | m+1,i,u::c,acc,hl,h=>by
  have a:w.cell? (p.add i)=some u:=by simpa using h 0 u Z8
  have ih:=run_loadCellsFrom w m (i+1) c (acc.push u) (by simpa using hl) (fun j v hv=>by have:=h (j+1) v (by simpa using hv);rwa [show i+(j+1)=i+1+j from by omega]at this);simp[loadCellsFrom,a,ih]
theorem Cq[Dr]{p:Addr}{c:QqK}{dd:TypeDesc}{zz:Value}{bt:Nat}[hx:ZZ (ev L x) (some (.pointer (some p)))][ht:ZZ (P.underlying t) (some dd)][hd:ZZ (OY dd) true][hz:Qqq P t zz c.length bt](hp':EG H p c)(hs:Le H (hp w)):B2 P L w (.load t x) ty (.agg c.toArray):=by
 have hd:=hd.e
 intro w' hw ρ hρ dst pos af g;obtain⟨inf,a,h2,h3,b⟩:=hz.e.parts;have hload:=run_loadCellsFrom (P:=P) (p:=p) w' c.length 0 c #[] Z (fun j u hu=>by rw[Qq8];exact cell_of (hs.ext hw) (hp'.2 j u hu))
 cases dd <;> simp only[OY,Qz3]at hd <;>
  simp[execOp,hρ x _ hx.e,Instr.loadAt,Instr.sureAddr,loadVar,isAgg,run_underlying ht.e,loadCells,sizeOf,typeInfo,a,h3,hload]
theorem V3[Dr]{p:Addr}{fs:Array Field}{f:Nat}{fd:Field}{zz:Value}{sz bt:Nat}(hx:ev L x=some (.pointer (some p)))(ht:P.underlying t=some (.struct fs))(hf:fs[f]? = some fd)(hz:Zr P fd.type zz sz bt)(hne:sz≠0):
  B2 P L w (.fieldAddr t x f) ty (.pointer (some (p.add fd.offset))):=by
 intro w' hw ρ hρ dst pos af g;obtain⟨inf,a,h2,h3,b⟩:=hz.parts;simp[execOp,hρ x _ hx,Instr.fieldAt,run_underlying ht,hf,Instr.sureAddr,fieldPlace,sizeOf,typeInfo,a,h3,hne]
theorem Af[Dr]{p:Addr}{fs:Array Field}{f:Nat}{fd:Field}{zz:Value}{sz bt:Nat}(hx:ev L x=some (.pointer (some p)))(ht:P.underlying t=some (.struct fs))(hf:fs[f]? = some fd)(hz:Zr P fd.type zz sz bt)(hne:sz≠0:=by decide):
  B2 P L w (.fieldAddr t x f) ty (.pointer (some (p.add fd.offset))):=V3 hx ht hf hz hne
theorem AD.sub{l:List α}(hv:AD r H v l)(lo hi:Nat)(f:lo<=hi)(h2:hi<=l.length):∃a cap,v=.slice a l.length cap/\AD r H (.slice (if cap=lo then a else a.map (·.add (lo * r.sz))) (hi - lo) (cap - lo)) ((l.drop lo).take (hi - lo)):=by
 obtain⟨a,cap,rfl,h2',h3,b,d⟩:=hv.ex;refine⟨a,cap,Z,?_⟩;have hlen:((l.drop lo).take (hi - lo)).length=hi - lo:=by simp;omega
 refine⟨_,cap - lo,by rw[hlen],by rw[hlen];omega,by omega,?_,?_⟩
 ·intro ha
  split at ha
  ·rename_i e;omega
  ·cases a with
   | none=>have:=b Z;omega
   | some A=>cases ha
 ·intro A hA hne
  have hpos:lo<hi:=by
   rcases Qzd lo hi with h | h
   ·exact h
   ·exfalso;apply hne;simp;omega
  rw[if_neg U]at hA
  cases a with
  | none=>cases hA
  | some A0=>
   cases hA
   obtain⟨hs,hh⟩:=d A0 Z (fun e=>by subst e;simp at h2;omega);refine⟨Ld hs _,fun i z hz=>?_⟩;rw[Qxe]at hz
   split at hz
   ·rw[List.getElem?_drop]at hz;obtain⟨c,hc,hcell⟩:=hh (lo+i) z hz;refine⟨c,hc,fun j u hu=>?_⟩;rw[Kp hs,show lo * r.sz+(i * r.sz+j)=(lo+i) * r.sz+j from by rw[Qzy];omega];exact hcell j u hu
   ·cases hz
def X9(L:Env)(lo:Option Operand)(a:Nat):Prop:=match lo with | some o=>∃k,ev L o=some (.int k (a:Int)) | none=>a=0
def Wv(L:Env)(hi:Option Operand)(b m:Nat):Prop:=match hi with | some o=>∃k,ev L o=some (.int k (b:Int)) | none=>b=m
theorem S4[Dr]{l:List α}{lo hi:Option Operand}{zz:Value}{bt:Nat}(hx:ev L x=some v)(ht:P.underlying t=some (.slice e))(he:Zr P e zz r.sz bt)(hv:AD r H v l)(a b:Nat)
  (ha:X9 L lo a) (hb:Wv L hi b l.length) (f:a<=b) (h2:b<=l.length) :
  ∃v',AD r H v' ((l.drop a).take (b - a))/\∀w,B2 P L w (.slice t x lo hi none) ty v':=by
 obtain⟨A,cap,d,hsub⟩:=hv.sub a b f h2;refine⟨_,hsub,fun w w' _ ρ hρ dst pos af g=>?_⟩;obtain⟨inf,c,u,j,y⟩:=he.parts;obtain⟨A',cap',k,o,p,q,s⟩:=hv.ex;have hcc:cap=cap':=by rw[d]at k;cases k;rfl
 have hbc:b<=cap:=by omega
 subst d;have z:(b:Int)<=(cap:Int):=by omega
 have e3:(a:Int)<=(b:Int):=by omega
 cases lo with
 | none=>
  simp only[X9]at ha;subst ha
  cases hi with
  | none=>
   simp only[Wv]at hb;subst hb;simp[execOp,hρ x _ hx,Instr.sliceAt,run_underlying ht,Instr.slice,Instr.sliceBounds,sizeOf,typeInfo,c]
  | some i=>
   obtain⟨n,hb⟩:=hb;simp[execOp,hρ x _ hx,hρ i _ hb,Instr.sliceAt,run_underlying ht,Instr.slice,Instr.sliceBounds,Instr.sliceBound,asIntOf,sizeOf,typeInfo,c,hbc]
 | some m=>
  obtain⟨k1,ha⟩:=ha
  cases hi with
  | none=>
   simp only[Wv]at hb;subst hb;simp[execOp,hρ x _ hx,hρ m _ ha,Instr.sliceAt,run_underlying ht,Instr.slice,Instr.sliceBounds,Instr.sliceBound,asIntOf,sizeOf,typeInfo,c,j,f]
  | some i=>
   obtain⟨n,hb⟩:=hb;simp[execOp,hρ x _ hx,hρ m _ ha,hρ i _ hb,Instr.sliceAt,run_underlying ht,Instr.slice,Instr.sliceBounds,Instr.sliceBound,asIntOf,sizeOf,typeInfo,c,j,hbc,f]
theorem getD_some{β:Type}[Inhabited β]{l:List β}{m:Nat}(h:m<l.length):l[m]? = some (l.getD m Qqf):=by simp[h]
theorem Bb[Dr][Inhabited α]{l:List α}{k:IntKind}{i:Int}{zz:Value}{bt:Nat}[hx:ZZ (ev L x) (some v)][hy:ZZ (ev L y) (some (.int k i))][ht:ZZ (P.underlying t) (some (.slice e))][he:Qqq P e zz r.sz bt](hv:AD r H v l)(m:Nat)(hm:i=(m:Int))(hlt:m<l.length)[hn:ZZ (QqE d n.n) true]
  (h:∀p c,r.rel H (l.getD m Qqf) c->EG H p c->S P n ops Q rest ((d,.pointer (some p))::L) w):S P n ops Q (⟨some d,.indexAddr t x y,ty,pos,af,none⟩::rest) L w:=by
 obtain⟨p,c,a,h2,h3⟩:=Q1 (P:=P) (ty:=ty) hx.e hy.e ht.e he.e hv m hm (getD_some hlt);exact Ah (h3 w) (hn:=⟨hn.e⟩) (h p c a h2)
theorem DJ[Dr][Inhabited α]{lo:List Oper}{ix:Nat}{tr:Tr}{l:List α}{k:IntKind}{i:Int}{zz:Value}{bt:Nat}(ho:FO lo ix=some ⟨some d,.indexAddr t x y,ty,pos,af,none⟩)(hx:ev L x=some v)(hy:ev L y=some (.int k i))(ht:P.underlying t=some (.slice e))[he:Qqq P e zz r.sz bt](hv:AD r H v l)(m:Nat)(hm:i=(m:Int))(hlt:m<l.length)(hn:QqE d n.n=true)
  (h:∀p c,r.rel H (l.getD m Qqf) c->EG H p c->D P n lo Q tr ((d,.pointer (some p))::L) w):D P n lo Q (.q ix tr) L w:=by
 obtain⟨p,c,a,h2,h3⟩:=Q1 (P:=P) (ty:=ty) hx hy ht he.e hv m hm (getD_some hlt);exact B9 ho (h3 w) hn (h p c a h2)
theorem JJ[Dr][Inhabited α]{lo:List Oper}{ix:Nat}{tr:Tr}{l:List α}{k:IntKind}{i:Int}{zz:Value}{bt j s:Nat}{want b:Bool}{oj:Oper}(ho:FO lo ix=some ⟨some d,.indexAddr t x y,ty,pos,af,some (j,want)⟩)(hj:FO lo j=some oj)(hd:oj.dst=some s)(hb:gt L s=some (.bool b))(hw:b=want)
  (hx:ev L x=some v) (hy:ev L y=some (.int k i)) (ht:P.underlying t=some (.slice e)) [he:Qqq P e zz r.sz bt] (hv:AD r H v l) (m:Nat) (hm:i=(m:Int)) (hlt:m<l.length) (hn:QqE d n.n=true)
  (h:∀p c,r.rel H (l.getD m Qqf) c->EG H p c->D P n lo Q tr ((d,.pointer (some p))::L) w):D P n lo Q (.q ix tr) L w:=by
 obtain⟨p,c,a,h2,h3⟩:=Q1 (P:=P) (ty:=ty) hx hy ht he.e hv m hm (getD_some hlt);exact D4 ho (h3 w) hj hd hb hw hn (h p c a h2)
theorem S5[Dr]{l:List α}{lo hi:Option Operand}{zz:Value}{bt:Nat}(hx:ev L x=some v)(ht:P.underlying t=some (.slice e))(he:Zr P e zz r.sz bt)(hv:AD r H v l)(a b:Nat)
  (ha:X9 L lo a) (hb:Wv L hi b l.length) (hab:a<=b/\b<=l.length) (hn:QqE d n.n=true)
  (h:∀v',AD r H v' ((l.drop a).take (b - a))->S P n ops Q rest ((d,v')::L) w):S P n ops Q (⟨some d,.slice t x lo hi none,ty,pos,af,none⟩::rest) L w:=by
 obtain⟨v',c,h2⟩:=S4 (P:=P) (ty:=ty) hx ht he hv a b ha hb hab.1 hab.2;exact Ah (h2 w) (hn:=⟨hn⟩) (h v' c)
theorem S6[Dr]{lop:List Oper}{ix:Nat}{tr:Tr}{l:List α}{lo hi:Option Operand}{zz:Value}{bt:Nat}(ho:FO lop ix=some ⟨some d,.slice t x lo hi none,ty,pos,af,none⟩)(hx:ev L x=some v)(ht:P.underlying t=some (.slice e))(he:Zr P e zz r.sz bt)(hv:AD r H v l)(a b:Nat)
  (ha:X9 L lo a) (hb:Wv L hi b l.length) (hab:a<=b/\b<=l.length) (hn:QqE d n.n=true)
  (h:∀v',AD r H v' ((l.drop a).take (b - a))->D P n lop Q tr ((d,v')::L) w):D P n lop Q (.q ix tr) L w:=by
 obtain⟨v',c,h2⟩:=S4 (P:=P) (ty:=ty) hx ht he hv a b ha hb hab.1 hab.2;exact B9 ho (h2 w) hn (h v' c)
theorem AD.one{l:List α}(h:AD r H v l):v.oneCell'=true:=by obtain⟨a,c,rfl⟩:=h.header;rfl
end
end Go.E
namespace Go.E
open Go Go.RowKit
theorem Gr:∀u∈([]:QqK),u.oneCell'=true:=fun _ h=>by cases h
theorem Be{v:Value}{l:QqK}(hv:v.oneCell'=true)(hl:∀u∈l,u.oneCell'=true):∀u∈v::l,u.oneCell'=true:=fun u hu=>by
 cases hu with
 | head=>exact hv
 | tail _ h=>exact hl u h
theorem B7{l:QqK}(h:l.map Value.oneCell'=l.map fun _=>true):∀u∈l,u.oneCell'=true:=by
 induction l with
 | nil=>exact Gr
 | cons v l ih=>exact Be (List.cons.inj h).1 (ih (List.cons.inj h).2)
theorem D5[Dr](w:World)(o:Obj):Ext w (w.alloc o):=⟨(Below.refl _ _).alloc (Qq0 _) o,fun _=>Qq0 _⟩
theorem Rj[Dr]{w w':World}(hd:w.drawn<=w'.drawn)(h:w.grownBy w' none):Ext w w':=⟨⟨h.os,h.tape,h.output,h.size,fun k hk=>h.block k hk Z8⟩,fun _=>hd⟩
def Rk:QqK->Nat->Value->QqK
 | [],_,_=>[]
 | _::l,0,v=>v::l
 | u::l,i+1,v=>u::Rk l i v
theorem Q2:∀(l:QqK) (i:Nat) (v:Value),Rk l i v=l.set i v
 | [],_,_=>by simp[Rk]
 | _::_,0,_=>by simp[Rk]
 | _::l,i+1,v=>by simp[Rk,Q2 l i v]
section
variable {P:Program}{n:Sz}{ops:Array Oper}{Q:Exit->Act->World->Prop}{L:Env}{w w0:World}{O:List BS}{rest:List Oper}
 {d:Nat}{ty:TypeId}{pos:String}{af:Array Edge}{α:Type}{r:Rp α}{H:PH}{x y:Operand}{v:Value}{t e:TypeId}
theorem Qd{z:Value}{sz bt:Nat}(hz:Zr P t z sz bt)(w:World)(ρ:Operand->Value)(o:Oper)(ho:o.op=.alloc t):(execOp ρ o).run P w=.ok (.value (.pointer (some ⟨w.heap.size,0,none⟩))) (w.alloc (.cells z.cells t)):=by
 obtain⟨inf,a,h2,h3,b⟩:=hz.parts;simp[execOp,ho,Instr.alloc,zeroValue,typeInfo,a,h2,newVar,newRow]
theorem Q3[Dr]{cs:QqK}(hL:AZ w0 O w):AZ w0 (.box w.heap.size cs t::O) (w.alloc (.cells cs.toArray t)):=
 hL.new (D5 _ _) (heap_alloc_new w _) (fun b hb=>by cases hb;exact Qq0 _)
theorem NZ[Dr]{cs:QqK}(hL:AZ w0 O w):Le (fz w O) (fz (w.alloc (.cells cs.toArray t)) (.box w.heap.size cs t::O)):=
 OX hL (D5 _ _) (fun b hb=>by cases hb;exact Qq0 _)
theorem AG[Dr]{z:Value}{sz bt:Nat}{cs:QqK}(hz:Zr P t z sz bt)(hc:z.cells.toList=cs)[hn:ZZ (QqE d n.n) true](hL:AZ w0 O w)
  (h:∀w' b,AZ w0 (.box b cs t::O) w'->Le (fz w O) (fz w' (.box b cs t::O))->Ext w w'->S P n ops Q rest ((d,.pointer (some ⟨b,0,none⟩))::L) w'):S P n ops Q (⟨some d,.alloc t,ty,pos,af,none⟩::rest) L w:=by
 subst hc;refine EO hn.e (fun ρ _=>Qd hz w ρ _ Z) ?_;have e:(Obj.cells z.cells t:Obj)=.cells z.cells.toList.toArray t:=by simp
 rw[e];exact h _ _ (Q3 hL) (NZ hL) (D5 _ _)
theorem C1[Dr]{cs:QqK}(hx:ev L x=some v)(hc:v.cells.toList=cs)[hn:ZZ (QqE d n.n) true](hL:AZ w0 O w)
  (h:∀w' b,AZ w0 (.box b cs t::O) w'->Le (fz w O) (fz w' (.box b cs t::O))->Ext w w'->S P n ops Q rest ((d,.pointer (some ⟨b,0,none⟩))::L) w'):S P n ops Q (⟨some d,.box t x,ty,pos,af,none⟩::rest) L w:=by
 subst hc;refine EO (v:=.pointer (some ⟨w.heap.size,0,none⟩)) (w':=w.alloc (.cells v.cells t)) hn.e (fun ρ hρ=>by simp[execOp,hρ x _ hx,Instr.box,newVar,newRow]) ?_;have e:(Obj.cells v.cells t:Obj)=.cells v.cells.toList.toArray t:=by simp
 rw[e];exact h _ _ (Q3 hL) (NZ hL) (D5 _ _)
theorem B0[Dr]{i b:Nat}{cs:QqK}{t':TypeId}(hL:AZ w0 O w)(hi:DW O i=some (.box b cs t')):EG (hp w) ⟨b,0,none⟩ cs:=
 ⟨Z,fun j u hu=>by
  have:=hL.at hi;rw[Addr.add_lit,Qq8,QZ,cell_of_row w b j _ _ _ this]
  simpa using hu⟩
theorem Pc:∀(cs:QqK) (o:Nat) (u:Value),nth cs o=some u->∃c,cs.drop o=u::c
 | _::cs,0,u,h=>by simp only[nth,Option.some.injEq]at h;subst h;exact⟨cs,Z⟩
 | _::cs,o+1,u,h=>Pc cs o u h
theorem TV[Dr](i:Nat){b off:Nat}{cs:QqK}{t':TypeId}{u:Value}{dd:TypeDesc}(hx:ev L x=some (.pointer (some ⟨b,off,none⟩)))(ht:P.underlying t=some dd)(hd:Nf dd=true)(hL:AZ w0 O w)(hi:DW O i=some (.box b cs t'))(hu:nth cs off=some u):B2 P L w (.load t x) ty u:=by
 obtain⟨c,hc⟩:=Pc cs off u hu;have a:=(B0 hL hi).add off;rw[hc,Addr.add_lit,Qq8]at a;exact AV (hx:=⟨hx⟩) (ht:=⟨ht⟩) (hd:=⟨hd⟩) a (Le.refl _)
theorem Ag[Dr](i:Nat){b off:Nat}{cs:QqK}{t':TypeId}{u:Value}{dd:TypeDesc}(hx:ev L x=some (.pointer (some ⟨b,off,none⟩)))[ht:ZZ (P.underlying t) (some dd)][hd:ZZ (Nf dd) true](hL:AZ w0 O w)(hp:(DW O i,nth cs off)=(some (.box b cs t'),some u)):B2 P L w (.load t x) ty u:=by
 simp only[Prod.mk.injEq]at hp;exact TV i hx ht.e hd.e hL hp.1 hp.2
theorem Az[Dr](i:Nat){b:Nat}{cs:QqK}{t':TypeId}{dd:TypeDesc}{zz:Value}{bt:Nat}(hx:ev L x=some (.pointer (some ⟨b,0,none⟩)))[ht:ZZ (P.underlying t) (some dd)][hd:ZZ (OY dd) true](hz:Zr P t zz cs.length bt)(hL:AZ w0 O w)(hi:DW O i=some (.box b cs t')):B2 P L w (.load t x) ty (.agg cs.toArray):=
 Cq (hx:=⟨hx⟩) (ht:=⟨ht.e⟩) (hd:=⟨hd.e⟩) (hz:=⟨hz⟩) (B0 hL hi) (Le.refl _)
theorem Jo(w:World)(g:Nat)(cur cs:Array Value)(t:TypeId)(hg:w.heap[g]? = some (.cells cur t (0,0))):(w.setRow g cs).heap[g]? = some (.cells cs t (0,0)):=setRow_heap w g cur cs t (0,0) hg
theorem K2(w:World)(g:Nat)(cs:Array Value):w.grownBy (w.setRow g cs) (some g):=
 ⟨Z,Z,Z,by simp,fun k _ hk=>setRow_other w g k _ (fun e=>hk (by simp[e]))⟩
theorem Qe[Dr](i:Nat){b:Nat}{cs vs:QqK}{t':TypeId}{zz:Value}{bt:Nat}(hx:ev L x=some (.pointer (some ⟨b,0,none⟩)))(hy:ev L y=some v)(hc:v.cells.toList=vs)(hz:Zr P t zz vs.length bt)(hL:AZ w0 O w)(hi:DW O i=some (.box b cs t'))(hlen:cs.length=vs.length)(a:∀u∈vs,u.oneCell'=true)
  (h:∀w',AZ w0 (DX O i (.box b vs t')) w'->Le (fz w O) (fz w' (DX O i (.box b vs t')))->S P n ops Q rest L w'):S P n ops Q (⟨none,.store t x y,ty,pos,af,none⟩::rest) L w:=by
 subst hc;obtain⟨inf,c,f,d,g⟩:=hz.parts;have hb:w.heap[b]? = some (.cells cs.toArray t' (0,0)):=hL.at hi;have hst:=run_storeCells_at P b 0 t' v.cells.toList 0 cs.toArray w hb (by simp at hlen ⊢;omega) a;simp only[Qq8,List.take_zero,List.nil_append]at hst;have hdrop:cs.drop v.cells.toList.length=[]:=by simp at hlen ⊢;omega
 simp only[hdrop,List.append_nil,Array.toArray_toList]at hst;have hsz:v.cells.size=inf.size:=by rw[d];simp
 refine N7 (w.setRow b v.cells) (fun ρ hρ=>by
  simp[execOp,hρ x _ hx,hρ y _ hy,Instr.storeAt,Instr.sureAddr,storeVar,sizeOf,typeInfo,c,hsz,hst]) ?_
 have hg:=K2 w b v.cells
 have hok:BS.ok (w.setRow b v.cells) (.box b v.cells.toList t'):=by
  show(w.setRow b v.cells).heap[b]? = _
  simpa using Jo w b cs.toArray v.cells t' hb
 exact h _ (hL.Lb hi (Qq0 _) hg hok (fun b' e=>.inl e)) (GA hL hi hg (fun b' e=>.inl e))
theorem Ar[Dr](i:Nat){b:Nat}{cs vs:QqK}{t':TypeId}{zz:Value}{bt:Nat}(hq:(ev L x,ev L y,v.cells.toList)=(some (.pointer (some ⟨b,0,none⟩)),some v,vs))[hz:Qqq P t zz vs.length bt](hL:AZ w0 O w)(hp:(DW O i,cs.length)=(some (.box b cs t'),vs.length))
  (h:∀w',AZ w0 (DX O i (.box b vs t')) w'->Le (fz w O) (fz w' (DX O i (.box b vs t')))->S P n ops Q rest L w')(a:∀u∈vs,u.oneCell'=true:=by exact B7 Z):S P n ops Q (⟨none,.store t x y,ty,pos,af,none⟩::rest) L w:=by
 simp only[Prod.mk.injEq]at hq hp;exact Qe i hq.1 hq.2.1 hq.2.2 hz.e hL hp.1 hp.2 a h
theorem Bc[Dr](i:Nat){b off:Nat}{cs:QqK}{t':TypeId}{zz:Value}{bt:Nat}(hx:ev L x=some (.pointer (some ⟨b,off,none⟩)))(hy:ev L y=some v)(hv:v.oneCell'=true)[hz:Qqq P t zz 1 bt](hL:AZ w0 O w)(hi:DW O i=some (.box b cs t'))(hlt:QqE off cs.length=true)
  (h:∀w',AZ w0 (DX O i (.box b (Rk cs off v) t')) w'->Le (fz w O) (fz w' (DX O i (.box b (Rk cs off v) t')))->S P n ops Q rest L w'):S P n ops Q (⟨none,.store t x y,ty,pos,af,none⟩::rest) L w:=by
 obtain⟨inf,a,d,c,f⟩:=hz.e.parts;have hb:w.heap[b]? = some (.cells cs.toArray t' (0,0)):=hL.at hi;have hlt':=Mb hlt;have hvc:v.cells = #[v]:=by cases v <;> simp_all [Value.cells,Value.oneCell']
 have hst:=run_storeCells_at P b off t' [v] 0 cs.toArray w hb (by simp;omega) (by simpa using hv);have hcell:w.cell? ⟨b,off,none⟩=some cs[off]:=by rw[cell_of_row w b off _ _ _ hb];simp[hlt']
 have hfz:w.frozen? ⟨b,off,none⟩=false:=frozen_of_row w b off _ _ hb
 refine N7 (w.setCell ⟨b,off,none⟩ v) (fun ρ hρ=>by
  simp[execOp,hρ x _ hx,hρ y _ hy,Instr.storeAt,Instr.sureAddr,storeVar,sizeOf,typeInfo,a,c,hvc,storeCells,run_store,hv,Addr.add_zero',hcell,hfz]) ?_
 have hsame:=heap_setCell_same w b off cs.toArray t' v hb;have hg:w.grownBy (w.setCell ⟨b,off,none⟩ v) (some b):=⟨Z,Z,Z,by simp,fun k _ hk=>heap_setCell_other w ⟨b,off,none⟩ k v (fun e=>hk (by simp[e]))⟩
 have hok:BS.ok (w.setCell ⟨b,off,none⟩ v) (.box b (Rk cs off v) t'):=by
  show(w.setCell ⟨b,off,none⟩ v).heap[b]? = _
  rw[hsame,Q2];simp
 exact h _ (hL.Lb hi (Qq0 _) hg hok (fun b' e=>.inl e)) (GA hL hi hg (fun b' e=>.inl e))
theorem Bh[Dr]{f:FuncId}{args:List Operand}{vs:QqK}{at_:Array TypeId}{R:Value->World->Prop}[ha:ZZ (QV L args) (some vs)][hn:ZZ (QqE d n.n) true](hL:AZ w0 O w)(hok:Ok P f vs w (fun v w'=>Ext w w'/\R v w'))
  (h:∀v w',R v w'->Ext w w'->AZ w0 O w'->Le (fz w O) (fz w' O)->S P n ops Q rest ((d,v)::L) w'):S P n ops Q (⟨some d,.call ⟨.value (.func f),args.toArray,at_⟩,ty,pos,af,none⟩::rest) L w:=
 BR (ha:=⟨ha.e⟩) (hn:=⟨hn.e⟩) hok fun v w' ⟨hx,hR⟩=>h v w' hR hx (hL.call hx) (Ba hL hx)
theorem A9[Dr]{f:FuncId}{args:List Operand}{vs:QqK}{at_:Array TypeId}{v:Value}[ha:ZZ (QV L args) (some vs)][hn:ZZ (QqE d n.n) true](hL:AZ w0 O w)(hok:Ok P f vs w (fun u w'=>Ext w w'/\u=v))
  (h:∀w',Ext w w'->AZ w0 O w'->Le (fz w O) (fz w' O)->S P n ops Q rest ((d,v)::L) w'):S P n ops Q (⟨some d,.call ⟨.value (.func f),args.toArray,at_⟩,ty,pos,af,none⟩::rest) L w:=
 Bh (R:=fun u _=>u=v) (ha:=⟨ha.e⟩) (hn:=⟨hn.e⟩) hL hok fun u w' hu hx a h2=>by subst hu;exact h w' hx a h2
def Vr(L:Env):List (Nat×Operand)->Option (List (Nat×Value))
 | []=>some []
 | (i,x)::l=>match ev L x,Vr L l with
  | some v,some vs=>some ((i,v)::vs)
  | _,_=>none
theorem RN.TW{ρ:Operand->Value}(h:RN L ρ):∀(l:List (Nat×Operand)) (vs:List (Nat×Value)),Vr L l=some vs->l.map (fun(i,x)=>(i,ρ x))=vs
 | [],vs,e=>by simp only[Vr,Option.some.injEq]at e;simpa using e
 | (i,x)::l,vs,e=>by
  unfold Vr at e
  split at e
  ·rename_i v us a h2;cases e;simp[h x v a,RN.TW h l us h2]
  ·cases e
theorem Bk[Dr]{ps:List (Nat×Operand)}{vs:List (Nat×Value)}{u:Value}[hp:ZZ (Vr L ps) (some vs)](hr:∀w,(Instr.build t vs.toArray).run P w=.ok u w):B2 P L w (.build t ps.toArray) ty u:=by
 intro w' _ ρ hρ dst pos af g;have e:=hρ.TW _ _ hp.e;have e':(ps.toArray.map fun(i,x)=>(i,ρ x))=vs.toArray:=by rw[<- e];simp
 simp[execOp,e',hr w',-List.map_toArray]
def Src(H:PH)(sz:Nat)(v:Value)(m:Nat)(news:QqK):Prop:=
 news.length=m * sz/\∃a cap,v=.slice a m cap/\m<=cap/\cap<=maxLen/\(a=none->cap=0)/\∀A,a=some A->m≠0->A.spot=none/\∀j u,news[j]? = some u->GZ H (A.add j)=some u
theorem Src.mono{H':PH}{sz m:Nat}{news:QqK}(h:Src H sz v m news)(hs:Le H H'):Src H' sz v m news:=by
 obtain⟨c,a,cap,h2,h3,d,e,b⟩:=h;exact⟨c,a,cap,h2,h3,d,e,fun A hA hm=>⟨(b A hA hm).1,fun j u hu=>Jn hs ((b A hA hm).2 j u hu)⟩⟩
theorem AD.elems{l:List α}(hv:AD r H v l):∃news,A6 r H l news/\Src H r.sz v l.length news:=by
 obtain⟨a,cap,f,h2,h3,e,g⟩:=hv.ex
 cases a with
 | none=>
  have:l.length=0:=by have:=e Z;omega
  have:l=[]:=Qzf this;subst this;exact⟨[],.nil,by simp,none,cap,f,h2,h3,e,fun A hA=>by cases hA⟩
 | some A=>
  by_cases hl:l=[]
  ·subst hl;exact⟨[],.nil,by simp,some A,cap,f,h2,h3,e,fun _ _ hm=>absurd Z hm⟩
  obtain⟨hs,hh⟩:=g A Z hl
  have key:∀(m:List α) (k:Nat),(∀i x,m[i]? = some x->∃c,r.rel H x c/\∀j u,c[j]? = some u->GZ H (A.add ((k+i) * r.sz+j))=some u)->
    ∃news,A6 r H m news/\∀j u,news[j]? = some u->GZ H (A.add (k * r.sz+j))=some u:=by
   intro m
   induction m with
   | nil=>intro k _;exact⟨[],.nil,fun j u hu=>by cases hu⟩
   | cons x m ih=>
    intro k hm;obtain⟨c,hc,hcell⟩:=hm 0 x Z8;obtain⟨news,b,d⟩:=ih (k+1) (fun i y hy=>by have:=hm (i+1) y (by simpa using hy);rwa [show k+(i+1)=k+1+i from by omega]at this);refine⟨c++news,.cons hc b,fun j u hu=>?_⟩
    rcases Qzd j c.length with hj | hj
    ·rw[List.getElem?_append_left hj]at hu;have:=hcell j u hu
     rwa [Nat.add_zero]at this
    ·rw[List.getElem?_append_right hj]at hu;have:=d _ u hu;rw[r.len hc]at this hj;rw[show k * r.sz+j=(k+1) * r.sz+(j - r.sz)from by rw[Qzy];omega];exact this
  obtain⟨news,b,d⟩:=key l 0 (fun i x hx=>by rw[Qq8];exact hh i x hx);refine⟨news,b,b.len,some A,cap,f,h2,h3,e,fun A' hA' _=>?_⟩
  cases hA'
  exact⟨hs,fun j u hu=>by have:=d j u hu;rwa [Qz4,Qq8]at this⟩
theorem Pd{l:List α}{news:QqK}(he:A6 r H l news)(h:Src H r.sz v l.length news):AD r H v l:=by
 obtain⟨g,a,cap,h2,h3,b,d,f⟩:=h;refine⟨a,cap,h2,h3,b,d,fun A hA hl=>?_⟩;obtain⟨hs,hh⟩:=f A hA (fun e=>hl (Qzf e));refine⟨hs,fun i x hx=>?_⟩;obtain⟨c,hc,hcell⟩:=he.at i x hx;exact⟨c,hc,fun j u hu=>hh _ u (hcell j u hu)⟩
theorem RS[Dr]{i sz bt m k:Nat}{zz u:Value}{xs news:QqK}(ht:P.underlying t=some (.slice e))(hz:Zr P e zz sz bt)(hzs:zz.cells.size=sz)(hsz:0<sz)(hL:AZ w0 O w)(hi:DW O i=some (.row v e sz m xs))(hs:Src (hp w) sz u k news)(n:∀c∈news,c.oneCell'=true)
  (hby:(m+k) * bt<=140737488355328) (hm:m+k<=9223372036854775807) :
  ∃v' w',(Builtin.append_ #[t,t] ty #[v,u]).run P w=.ok v' w'/\AZ w0 (DX O i (.row v' e sz (m+k) (xs++news))) w'/\Le (fz w O) (fz w' (DX O i (.row v' e sz (m+k) (xs++news)))):=by
 obtain⟨inf,f,l,o,p⟩:=hz.parts;have hown:w.ownsRow 0 e sz v m xs:=hL.at hi;obtain⟨hl,a,cap,hu,x,y,q,r⟩:=hs;have s:m+k<=maxLen:=by unfold maxLen;omega
 have fin:∀v' w',w.drawn<=w'.drawn->w'.ownsRow 0 e sz v' (m+k) (xs++news)->w.grownBy w' v.ownBlock->(∀b,v'.ownBlock=some b->v.ownBlock=some b\/w.heap.size<=b)->
   AZ w0 (DX O i (.row v' e sz (m+k) (xs++news))) w'/\Le (fz w O) (fz w' (DX O i (.row v' e sz (m+k) (xs++news)))):=fun v' w' hdr h2 h3 hb=>
  ⟨hL.Lb hi hdr h3 h2 hb,GA (r':=.row v' e sz (m+k) (xs++news)) hL hi h3 hb⟩
 by_cases h:k=0
 ·subst h;have hn:news=[]:=Qzf (by simpa using hl);subst hn;refine⟨v,w,?_,?_⟩
  ·obtain⟨va,vc,rfl⟩:=K1 hown
   have hle:m<=vc:=by
    rcases hown.2 with ⟨he,hn⟩ | ⟨g,cap,cur,he,_,_,hnc,_⟩
    ·cases he;omega
    ·cases he;exact hnc
   subst hu
   cases a with
   | none=>cases va <;> simp[Builtin.append_,run_underlying ht,sizeOf,typeInfo,f,Builtin.lenOf,Builtin.firstCells,hle,storeCells]
   | some A=>cases va <;> simp[Builtin.append_,run_underlying ht,sizeOf,typeInfo,f,Builtin.lenOf,Builtin.firstCells,hle,storeCells,loadCells,loadCellsFrom]
  ·have:=fin v w (Qq0 _) (by simpa using hown) (World.grownBy.refl w _) (fun b hb=>.inl hb);exact this
 ·cases a with
  | none=>have:=q Z;omega
  | some A=>
   subst hu;obtain⟨hspot,hcell⟩:=r A Z h;obtain⟨v',w',hr,h2,h3,z⟩:=run_append_own (P:=P) w 0 t ty e inf zz sz bt ht f l o p hzs hsz v m xs hown A k cap news hl (fun j c hc=>hcell j c hc) n s hby (Qq7 _);refine⟨v',w',hr,fin v' w' (NY _ _ _ _ hr) h2 h3 fun b hb=>?_⟩;subst o;subst p
   rcases hown.2 with ⟨rfl,rfl⟩ | ⟨g,cp,cur,rfl,hbg,hg,hnc,hcm,hcs,htake⟩
   ·have d:=run_append_nil (P:=P) w t ty e inf zz ht f l A k cap news hl (fun j c hc=>hcell j c hc) U U (by simp only[Qq8]at hby;omega);rw[hr]at d;simp only[Result.ok.injEq]at d;rw[d.1]at hb
    right;cases hb;exact Qq0 _
   ·by_cases hroom:m+k<=cp
    ·have hfit:m * inf.size+news.length<=cur.size:=by rw[hl,hcs,<- Qzy];exact Nat.mul_le_mul_right _ hroom
     have d:=run_append_room (P:=P) w t ty e inf ht f g m cp cur hg A k cap news hl (fun j c hc=>hcell j c hc) n hroom hfit;rw[hr]at d;simp only[Result.ok.injEq]at d;rw[d.1]at hb
     left;exact hb
    ·have holds:∀j u,xs[j]? = some u->w.cell? ((⟨g,0,none⟩:Addr).add j)=some u:=hown.cells (g:=g) Z;have d:=run_append_grow (P:=P) w t ty e inf zz ht f l ⟨g,0,none⟩ m cp xs hown.1 holds A k cap news hl (fun j c hc=>hcell j c hc) U U (growslice_fits U hby);rw[hr]at d;simp only[Result.ok.injEq]at d;rw[d.1]at hb
     right;cases hb;exact Qq0 _
theorem TX[Dr](i:Nat){sz bt m k:Nat}{zz u:Value}{xs news:QqK}(hx:ev L x=some v)(hy:ev L y=some u)(ht:P.underlying t=some (.slice e))(hz:Zr P e zz sz bt)(hzs:zz.cells.size=sz)(hsz:0<sz)(hn:QqE d n.n=true)(hL:AZ w0 O w)(hi:DW O i=some (.row v e sz m xs))(hs:Src (hp w) sz u k news)(a:∀c∈news,c.oneCell'=true)
  (hby:(m+k) * bt<=140737488355328/\m+k<=9223372036854775807)
  (h:∀v' w',AZ w0 (DX O i (.row v' e sz (m+k) (xs++news))) w'->Le (fz w O) (fz w' (DX O i (.row v' e sz (m+k) (xs++news))))->S P n ops Q rest ((d,v')::L) w') :
  S P n ops Q (⟨some d,.call ⟨.builtin .append,#[x,y],#[t,t]⟩,ty,pos,af,none⟩::rest) L w:=by
 obtain⟨v',w',hr,hL',hle⟩:=RS (ty:=ty) ht hz hzs hsz hL hi hs a hby.1 hby.2;refine EO (v:=v') (w':=w') hn (fun ρ hρ=>?_) (h v' w' hL' hle);simp[execOp,resolve,invoke,builtin,hρ x _ hx,hρ y _ hy,hr]
theorem L9[Dr]{w':World}{sz m:Nat}{xs:QqK}(hL:AZ w0 O w)(hx:Ext w w')(ho:w'.ownsRow w.heap.size e sz v m xs):AZ w0 (.row v e sz m xs::O) w'/\Le (fz w O) (fz w' (.row v e sz m xs::O)):=by
 have hb:∀b,BS.block (.row v e sz m xs)=some b->w.heap.size<=b:=fun b hb=>(ho.lt b hb).1;exact⟨hL.new hx (L4 ho (fun _ _=>Qq7 _)) hb,OX hL hx hb⟩
theorem S7[Dr](hL:AZ w0 O w)(e:TypeId)(sz:Nat):AZ w0 (.row (.slice none 0 0) e sz 0 []::O) w/\Le (fz w O) (fz w (.row (.slice none 0 0) e sz 0 []::O)):=
 L9 hL (Ext.refl w) (World.ownsRow_nil w _ e sz)
theorem WN[Dr]{bt m:Nat}{k k':IntKind}{zz:Value}{c c':Int}(hx:ev L x=some (.int k c))(hy:ev L y=some (.int k' c'))(hcc:c=m/\c'=m)(ht:P.underlying t=some (.slice e))(hz:Zr P e zz 1 bt)(hzc:zz.cells = #[zz])(hn:QqE d n.n=true)(hL:AZ w0 O w)(hm:bt * m<=281474976710656/\m<=9223372036854775807)
  (h:∀v' w',Ext w w'->AZ w0 (.row v' e 1 m (Qq3 m zz)::O) w'->Le (fz w O) (fz w' (.row v' e 1 m (Qq3 m zz)::O))->S P n ops Q rest ((d,v')::L) w') :
  S P n ops Q (⟨some d,.makeSlice t x y,ty,pos,af,none⟩::rest) L w:=by
 obtain⟨inf,a,b,f,g⟩:=hz.parts;obtain⟨rfl,rfl⟩:=hcc;obtain⟨w',hr,ho,hg⟩:=run_make_full (P:=P) w w.heap.size t e inf zz 1 ht a b f k k' m (by rw[g];exact hm.1) (by unfold maxLen;omega) (Qq0 _);rw[hzc,Qzw,toList_madeCells_one]at ho;have hx':=Rj (NY _ _ _ _ hr) hg;obtain⟨i,h2⟩:=L9 hL hx' ho;exact EO hn (fun ρ hρ=>by simp[execOp,hρ x _ hx,hρ y _ hy,hr]) (h _ _ hx' i h2)
theorem Ww[Dr]{ps:List (Nat×Operand)}{vs:List (Nat×Value)}{len sz:Nat}{cs:QqK}(hp':Vr L ps=some vs)(hr:∀w,(Instr.buildSlice t len vs.toArray).run P w=.ok (.slice (some ⟨w.heap.size,0,none⟩) len len) (w.alloc (.cells cs.toArray e)))(hc:cs.length=len * sz)(hlen:len<=9223372036854775807)(hn:QqE d n.n=true)(hL:AZ w0 O w)
  (h:∀u w',Ext w w'->AZ w0 O w'->Le (fz w O) (fz w' O)->Src (nw w w') sz u len cs->w'.ownsRow w.heap.size e sz u len cs->S P n ops Q rest ((d,u)::L) w') :
  S P n ops Q (⟨some d,.buildSlice t len ps.toArray,ty,pos,af,none⟩::rest) L w:=by
 have hx:=D5 w (.cells cs.toArray e);refine EO hn (fun ρ hρ=>?_) (h _ _ hx (hL.call hx) (Ba hL hx) ⟨hc,some ⟨w.heap.size,0,none⟩,len,Z,Qq0 _,by unfold maxLen;omega,(fun e=>by cases e),fun A hA _=>?_⟩ ?_)
 ·have a:=hρ.TW _ _ hp';have e':(ps.toArray.map fun(i,x)=>(i,ρ x))=vs.toArray:=by rw[<- a];simp
  simp[execOp,e',hr w,-List.map_toArray]
 ·cases hA
  refine⟨Z,fun j u hu=>?_⟩;simp only[Addr.add_lit,Qq8,GZ,nw,Qq0,if_true,heap_alloc_new]
  simpa using hu
 ·have:=World.ownsRow_lit (base:=w.heap.size) (e:=e) (size:=sz) w cs.toArray len (Qq0 _) (by unfold maxLen;omega) (by simpa using hc)
  simpa using this
def IQ(v:Value)(k:Nat)(p:Addr):Prop:=v.ownBlock=some p.block/\p.off=k/\p.spot=none
theorem Rl[Dr](i:Nat){sz bt m:Nat}{zz:Value}{xs:QqK}{k:IntKind}{c:Int}(hx:ev L x=some v)(hy:ev L y=some (.int k c))(ht:P.underlying t=some (.slice e))(hz:Zr P e zz sz bt)(hL:AZ w0 O w)(hi:DW O i=some (.row v e sz m xs))(j:Nat)(hj:c=(j:Int))(hlt:j<m):
  ∃p,IQ v (j * sz) p/\∀w,B2 P L w (.indexAddr t x y) ty (.pointer (some p)):=by
 obtain⟨inf,a,d,b,f⟩:=hz.parts;have hown:w.ownsRow 0 e sz v m xs:=hL.at hi
 rcases hown.2 with ⟨rfl,rfl⟩ | ⟨g,cp,cur,rfl,hbg,hg,hnc,hcm,hcs,htake⟩
 ·omega
 ·subst hj;refine⟨⟨g,j * sz,none⟩,⟨Z,Z,Z⟩,fun w w' _ ρ hρ dst pos af gd=>?_⟩;have l:(0:Int)<=(j:Int)/\(j:Int)<(m:Int):=by omega
  simp[execOp,hρ x _ hx,hρ y _ hy,Instr.indexAt,asIntOf,run_underlying ht,sizeOf,typeInfo,a,b,hlt,Addr.add_lit]
theorem Hb[Dr](i:Nat){sz bt m:Nat}{zz:Value}{xs:QqK}{k:IntKind}{c:Int}(hx:ev L x=some v)[hy:ZZ (ev L y) (some (.int k c))](ht:P.underlying t=some (.slice e))(hz:Zr P e zz sz bt)(hL:AZ w0 O w)(hi:DW O i=some (.row v e sz m xs))(j:Nat)(hj:c=(j:Int))(hlt:j<m)[hn:ZZ (QqE d n.n) true]
  (h:∀p,IQ v (j * sz) p->S P n ops Q rest ((d,.pointer (some p))::L) w):S P n ops Q (⟨some d,.indexAddr t x y,ty,pos,af,none⟩::rest) L w:=by
 obtain⟨p,a,h2⟩:=Rl (P:=P) (ty:=ty) i hx hy.e ht hz hL hi j hj hlt;exact Ah (h2 w) (hn:=⟨hn.e⟩) (h p a)
theorem N9[Dr]{lo:List Oper}{ix:Nat}{tr:Tr}(i:Nat){sz bt m:Nat}{zz:Value}{xs:QqK}{k:IntKind}{c:Int}(ho:FO lo ix=some ⟨some d,.indexAddr t x y,ty,pos,af,none⟩)(hx:ev L x=some v)(hy:ev L y=some (.int k c))(ht:P.underlying t=some (.slice e))(hz:Zr P e zz sz bt)(hL:AZ w0 O w)(hi:DW O i=some (.row v e sz m xs))(j:Nat)(hj:c=(j:Int))(hlt:j<m)(hn:QqE d n.n=true)
  (h:∀p,IQ v (j * sz) p->D P n lo Q tr ((d,.pointer (some p))::L) w):D P n lo Q (.q ix tr) L w:=by
 obtain⟨p,a,h2⟩:=Rl (P:=P) (ty:=ty) i hx hy ht hz hL hi j hj hlt;exact B9 ho (h2 w) hn (h p a)
theorem Pe[Dr]{i sz m k:Nat}{xs:QqK}{p:Addr}{u:Value}{e':TypeId}(hL:AZ w0 O w)(hi:DW O i=some (.row v e' sz m xs))(hp':IQ v k p)(hu:xs[k]? = some u):w.cell? p=some u:=by
 have hown:w.ownsRow 0 e' sz v m xs:=hL.at hi;obtain⟨a,h2,h3⟩:=hp';obtain⟨b,o,s⟩:=p;simp only at a h2 h3;subst h2;subst h3;have hc:=hown.cells a o u hu
 rwa [Addr.add_lit,Qq8]at hc
theorem V4[Dr](i:Nat){sz m k:Nat}{xs:QqK}{p:Addr}{u:Value}{dd:TypeDesc}{e':TypeId}[hx:ZZ (ev L x) (some (.pointer (some p)))][ht:ZZ (P.underlying t) (some dd)][hd:ZZ (Nf dd) true](hL:AZ w0 O w)[hi:ZZ (DW O i) (some (.row v e' sz m xs))](hp':IQ v k p)(hu:xs[k]? = some u):B2 P L w (.load t x) ty u:=by
 have hd:=hd.e
 intro w' hw ρ hρ dst pos af g;have hcell:=Pe (hL.call hw) hi.e hp' hu
 cases dd <;> simp only[Nf,Qz3]at hd <;>
  simp[execOp,hρ x _ hx.e,Instr.loadAt,Instr.sureAddr,loadVar,isAgg,run_underlying ht.e,hcell]
theorem Pf[Dr](i:Nat){sz bt m k:Nat}{zz u:Value}{xs:QqK}{p:Addr}{e':TypeId}(hx:ev L x=some (.pointer (some p)))(hy:ev L y=some u)(hv:u.oneCell'=true)(hz:Zr P t zz 1 bt)(hL:AZ w0 O w)(hi:DW O i=some (.row v e' sz m xs))(hp':IQ v k p)(hlt:k<xs.length)
  (h:∀w',AZ w0 (DX O i (.row v e' sz m (xs.set k u))) w'->Le (fz w O) (fz w' (DX O i (.row v e' sz m (xs.set k u))))->S P n ops Q rest L w'):S P n ops Q (⟨none,.store t x y,ty,pos,af,none⟩::rest) L w:=by
 obtain⟨inf,c,f,d,j⟩:=hz.parts;have hown:w.ownsRow 0 e' sz v m xs:=hL.at hi;have hcell:=Pe hL hi hp' (List.getElem?_eq_getElem hlt);obtain⟨a,h2,h3⟩:=hp';obtain⟨b,o,s⟩:=p;simp only at a h2 h3;subst h2;subst h3
 rcases hown.2 with ⟨rfl,rfl⟩ | ⟨g,cp,cur,rfl,hbg,hg,hnc,hcm,hcs,htake⟩
 ·simp[Value.ownBlock]at a
 ·simp only[Value.ownBlock,Option.some.injEq]at a;subst a;have hst:=hown.stored o u;have hfz:w.frozen? ⟨g,o,none⟩=false:=hown.frozenAt o;have hvc:u.cells = #[u]:=by cases u <;> simp_all [Value.cells,Value.oneCell']
  refine N7 (w.setCell ⟨g,o,none⟩ u) (fun ρ hρ=>by
   simp[execOp,hρ x _ hx,hρ y _ hy,Instr.storeAt,Instr.sureAddr,storeVar,sizeOf,typeInfo,c,d,hvc,storeCells,run_store,hv,Addr.add_zero',hcell,hfz]) ?_
  exact h _ (hL.Lb hi (by rw[drawn_setCell];exact Qq0 _) hst.2 hst.1 (fun b e=>.inl e)) (GA (r':=.row (.slice (some ⟨g,0,none⟩) m cp) e' sz m (xs.set o u)) hL hi hst.2 (fun b e=>.inl e))
theorem AZ.Y1[Dr]{i:Nat}{l:List α}{xs:QqK}{e':TypeId}(hL:AZ w0 O w)(hi:DW O i=some (.row v e' r.sz l.length xs))(he:A6 r (fz w O) l xs):AD r (hp w) v l:=
 L5 (hL.at hi) he (TS w O) (fun _k _ _o ho=>ho)
theorem Own.take[Dr]{w':World}{l:List α}(hL:AZ w0 O w)(hx:Ext w w')(h:Own e r w w' v l):∃xs,AZ w0 (.row v e r.sz l.length xs::O) w'/\Le (fz w O) (fz w' (.row v e r.sz l.length xs::O))/\A6 r (fz w' (.row v e r.sz l.length xs::O)) l xs:=by
 obtain⟨xs,a,h2⟩:=h;obtain⟨h3,b⟩:=L9 hL hx a;exact⟨xs,h3,b,h2.mono (Ra hL)⟩
end
theorem row_one{w:World}{v:Value}{e:TypeId}{sz n:Nat}{xs:QqK}(h:BS.ok w (.row v e sz n xs)):v.oneCell'=true:=by
 obtain⟨a,c,rfl⟩:=K1 (b:=0) h;rfl
theorem Rm{α:Type}{r:Rp α}{f:α->Value}(hf:∀H x c,r.rel H x c->c=[f x]){H:PH}{l:List α}{xs:QqK}(h:A6 r H l xs):xs=l.map f:=by
 induction h with
 | nil=>rfl
 | cons h _ ih=>rw[hf _ _ _ h,ih];rfl
def bv(b:UInt8):Value:=.int .u8 (b.toNat:Int)
theorem Rn{H:PH}{l:QqZ}{xs:QqK}(h:A6 Rp.byte H l xs):xs=l.map bv:=Rm (fun _ _ _ h=>h) h
def nf(w0 w:World)(O:List BS):PH:=fun b=>if w0.heap.size<=b then fz w O b else none
theorem V5{w0 w w':World}{O O':List BS}(h:Le (fz w O) (fz w' O')):Le (nf w0 w O) (nf w0 w' O'):=fun b o e=>by
 unfold nf at e ⊢
 split at e
 ·rename_i hb;rw[if_pos hb];exact h b o e
 ·cases e
theorem Wx{w0 w:World}{O:List BS}:Le (nf w0 w O) (fz w O):=fun b o e=>by
 unfold nf at e
 split at e
 ·exact e
 ·cases e
theorem Wy{w0 w:World}{O:List BS}:Le (nf w0 w O) (nw w0 w):=fun b o e=>by
 unfold nf at e
 split at e
 ·rename_i hb;unfold nw;rw[if_pos hb];exact TS w O b o e
 ·cases e
theorem XI[Dr]{w0 w w':World}{O:List BS}(h:AZ w0 O w):Le (nw w w') (nf w0 w' O):=fun b o e=>by
 have a:=Wt (w':=w') h b o e;unfold nw at e
 split at e
 ·rename_i hb;unfold nf;rw[if_pos (QzK h.ext.size hb)];exact a
 ·cases e
theorem WO{w0 w:World}{O:List BS}{i:Nat}{v:Value}{e:TypeId}{sz n:Nat}{xs:QqK}(hi:DW O i=some (.row v e sz n xs)):Le (nf w0 w O) (MR w0 w v):=fun b o h=>by
 have a:=Wy b o h;have h2:=Wx b o h;unfold MR;rw[if_neg]
 ·exact a
 ·intro hb;unfold fz at h2;rw[if_pos (Dm.2 ⟨_,(EH hi).mem_iff.2 (.head _),hb⟩)]at h2
  cases h2
theorem Gf(b:UInt8):IntKind.i64.wrap (b.toNat:Int)=(b.toNat:Int):=by
 have:=b.toNat_lt;exact wrap64 U U
section
variable {P:Program}{n:Sz}{ops:Array Oper}{Q:Exit->Act->World->Prop}{L:Env}{w w0:World}{O:List BS}{rest:List Oper}
 {d:Nat}{ty:TypeId}{pos:String}{af:Array Edge}{α:Type}{r:Rp α}{H:PH}{x y:Operand}{v:Value}{t t' e:TypeId}
theorem XJ[Dr]{op:BinOp}{k:IntKind}{a b c s:Int}(hx:ev L x=some (.int k a))(hy:ev L y=some (.int k b))(ho:XG op a b=some c)(hw:k.wrap c=s):B2 P L w (.binOp op t x y t') ty (.int k s):=by
 intro w' _ ρ hρ dst pos af g;subst hw
 cases op <;> simp only[XG,Option.some.injEq,reduceCtorEq]at ho <;> subst ho <;>
  simp[execOp,hρ x _ hx,hρ y _ hy,eqGuard,binOp,Op.intArith]
theorem WQ[Dr]{op:BinOp}{a b c:Int}(hx:ev L x=some (.int .i64 a))(hy:ev L y=some (.int .i64 b))(ho:XG op a b=some c)(d : -9223372036854775808<=c/\c<=9223372036854775807):B2 P L w (.binOp op t x y t') ty (.int .i64 c):=
 XJ hx hy ho (wrap64 d.1 d.2)
theorem AH[Dr]{op:BinOp}{a b c:Int}[hq:ZZ (ev L x,ev L y,XG op a b) ((some (.int .i64 a),some (.int .i64 b),some c))](d : -9223372036854775808<=c/\c<=9223372036854775807):B2 P L w (.binOp op t x y t') ty (.int .i64 c):=by
 have hq:=hq.e
 simp only[Prod.mk.injEq]at hq;exact WQ hq.1 hq.2.1 hq.2.2 d
theorem Ro[Dr]{a b:Int}{k:IntKind}(hx:ev L x=some (.int k a))(hy:ev L y=some (.int k b))(c:0<=a/\0<b):B2 P L w (.binOp .rem t x y t') ty (.int k (a % b)):=by
 intro w' _ ρ hρ dst pos af g;have hb:b≠0:=by omega
 simp[execOp,hρ x _ hx,hρ y _ hy,eqGuard,binOp,Op.intDiv,hb,TR c.1]
theorem Fc[Dr]{k k':IntKind}{a s:Int}{u:TypeDesc}[hs:ZZ (P.underlying t) (some u)][ht:ZZ (P.underlying t') (some (.int k))][hx:ZZ (ev L x) (some (.int k' a))](hw:k.wrap a=s):B2 P L w (.convert t t' x) ty (.int k s):=by
 intro w' _ ρ hρ dst pos af g;subst hw;simp[execOp,hρ x _ hx.e,convert,run_underlying hs.e,run_underlying ht.e,Conv.intToInt]
def XK:BinOp->UInt8->UInt8->Option UInt8
 | .xor,a,b=>some (a ^^^ b)
 | .and,a,b=>some (a &&& b)
 | .or,a,b=>some (a ||| b)
 | _,_,_=>none
theorem ofInt8(a:UInt8):Qzz 8 (a.toNat:Int)=a.toBitVec:=by
 apply BitVec.eq_of_toNat_eq;have:=a.toNat_lt;simp
theorem RT[Dr]{op:BinOp}{a b c:UInt8}(hx:ev L x=some (.int .u8 (a.toNat:Int)))(hy:ev L y=some (.int .u8 (b.toNat:Int)))(ho:XK op a b=some c):B2 P L w (.binOp op t x y t') ty (.int .u8 (c.toNat:Int)):=by
 intro w' _ ρ hρ dst pos af g;have hc:=c.toNat_lt
 cases op <;> simp only[XK,Option.some.injEq,reduceCtorEq]at ho <;> subst ho
 ·have e:(Op.intBits .and .u8 (a.toNat:Int) (b.toNat:Int)).run P w'=.ok (.int .u8 ((a &&& b).toNat:Int)) w':=by
   show Result.ok (Value.int .u8 (IntKind.u8.wrap ((Qzz 8 (a.toNat:Int) &&& Qzz 8 (b.toNat:Int)).toNat:Int))) w'=_
   rw[ofInt8,ofInt8,show(a.toBitVec &&& b.toBitVec).toNat=(a &&& b).toNat from Z,RQ U U]
  simp only[execOp,hρ x _ hx,hρ y _ hy,eqGuard,binOp,Sem.run_bind,ne_eq,not_true_eq_false,if_false,Qz6,if_true,Sem.run_pure,Result.andThen_ok,e]
 ·have e:(Op.intBits .or .u8 (a.toNat:Int) (b.toNat:Int)).run P w'=.ok (.int .u8 ((a ||| b).toNat:Int)) w':=by
   show Result.ok (Value.int .u8 (IntKind.u8.wrap ((Qzz 8 (a.toNat:Int) ||| Qzz 8 (b.toNat:Int)).toNat:Int))) w'=_
   rw[ofInt8,ofInt8,show(a.toBitVec ||| b.toBitVec).toNat=(a ||| b).toNat from Z,RQ U U]
  simp only[execOp,hρ x _ hx,hρ y _ hy,eqGuard,binOp,Sem.run_bind,ne_eq,not_true_eq_false,if_false,Qz6,if_true,Sem.run_pure,Result.andThen_ok,e]
 ·have e:(Op.intBits .xor .u8 (a.toNat:Int) (b.toNat:Int)).run P w'=.ok (.int .u8 ((a ^^^ b).toNat:Int)) w':=by
   show Result.ok (Value.int .u8 (IntKind.u8.wrap ((Qzz 8 (a.toNat:Int) ^^^ Qzz 8 (b.toNat:Int)).toNat:Int))) w'=_
   rw[ofInt8,ofInt8,show(a.toBitVec ^^^ b.toBitVec).toNat=(a ^^^ b).toNat from Z,RQ U U]
  simp only[execOp,hρ x _ hx,hρ y _ hy,eqGuard,binOp,Sem.run_bind,ne_eq,not_true_eq_false,if_false,Qz6,if_true,Sem.run_pure,Result.andThen_ok,e]
def TY:BinOp->Nat->Nat->Option Nat
 | .xor,a,b=>some (a ^^^ b)
 | .and,a,b=>some (a &&& b)
 | .or,a,b=>some (a ||| b)
 | _,_,_=>none
theorem V6[Dr]{op:BinOp}{a b c:Nat}{p q:Int}(hx:ev L x=some (.int .i64 p))(hy:ev L y=some (.int .i64 q))(hpa:p=a)(hqb:q=b)(ho:TY op a b=some c)(ha:a<2 ^ 63)(hb:b<2 ^ 63):B2 P L w (.binOp op t x y t') ty (.int .i64 (c:Int)):=by
 intro w' _ ρ hρ dst pos af g;subst hpa;subst hqb;have ea:(Qzz 64 (a:Int)).toNat=a:=by simp;omega
 have eb:(Qzz 64 (b:Int)).toNat=b:=by simp;omega
 cases op <;> simp only[TY,Option.some.injEq,reduceCtorEq]at ho <;> subst ho
 ·have hlt:a &&& b<2 ^ 63:=Nat.and_lt_two_pow _ hb
  have e:(Op.intBits .and .i64 (a:Int) (b:Int)).run P w'=.ok (.int .i64 ((a &&& b:Nat):Int)) w':=by
   show Result.ok (Value.int .i64 (IntKind.i64.wrap ((Qzz 64 (a:Int) &&& Qzz 64 (b:Int)).toNat:Int))) w'=_
   rw[BitVec.toNat_and,ea,eb,wrap64 U U]
  simp only[execOp,hρ x _ hx,hρ y _ hy,eqGuard,binOp,Sem.run_bind,ne_eq,not_true_eq_false,if_false,Qz6,if_true,Sem.run_pure,Result.andThen_ok,e]
 ·have hlt:a ||| b<2 ^ 63:=Nat.or_lt_two_pow ha hb
  have e:(Op.intBits .or .i64 (a:Int) (b:Int)).run P w'=.ok (.int .i64 ((a ||| b:Nat):Int)) w':=by
   show Result.ok (Value.int .i64 (IntKind.i64.wrap ((Qzz 64 (a:Int) ||| Qzz 64 (b:Int)).toNat:Int))) w'=_
   rw[BitVec.toNat_or,ea,eb,wrap64 U U]
  simp only[execOp,hρ x _ hx,hρ y _ hy,eqGuard,binOp,Sem.run_bind,ne_eq,not_true_eq_false,if_false,Qz6,if_true,Sem.run_pure,Result.andThen_ok,e]
 ·have hlt:a ^^^ b<2 ^ 63:=Nat.xor_lt_two_pow ha hb
  have e:(Op.intBits .xor .i64 (a:Int) (b:Int)).run P w'=.ok (.int .i64 ((a ^^^ b:Nat):Int)) w':=by
   show Result.ok (Value.int .i64 (IntKind.i64.wrap ((Qzz 64 (a:Int) ^^^ Qzz 64 (b:Int)).toNat:Int))) w'=_
   rw[BitVec.toNat_xor,ea,eb,wrap64 U U]
  simp only[execOp,hρ x _ hx,hρ y _ hy,eqGuard,binOp,Sem.run_bind,ne_eq,not_true_eq_false,if_false,Qz6,if_true,Sem.run_pure,Result.andThen_ok,e]
theorem Pg[Dr]{k k':IntKind}{a s m:Int}{c:Nat}[hx:ZZ (ev L x) (some (.int k a))][hy:ZZ (ev L y) (some (.int k' (c:Int)))][hm:ZZ ((2:Int) ^ c) m](hc:c<=k.bits)(hw:k.wrap (a * m)=s):B2 P L w (.binOp .shl t x y t') ty (.int k s):=by
 have hm:=hm.e
 intro w' _ ρ hρ dst pos af g;subst hm;subst hw;have : ¬((c:Int)<0):=by omega
 simp[execOp,hρ x _ hx.e,hρ y _ hy.e,eqGuard,binOp,Op.shift,this,Nat.min_eq_left hc]
theorem Rr[Dr]{k k':IntKind}{a m:Int}{c:Nat}(hx:ev L x=some (.int k a))(hy:ev L y=some (.int k' (c:Int)))(hm:(2:Int) ^ c=m)(hc:c<=k.bits):B2 P L w (.binOp .shr t x y t') ty (.int k (a / m)):=by
 intro w' _ ρ hρ dst pos af g;subst hm;have : ¬((c:Int)<0):=by omega
 have e:a.fdiv (2 ^ c)=a / 2 ^ c:=Int.fdiv_eq_ediv_of_nonneg a (by exact Int.le_of_lt (Int.pow_pos Z7));simp[execOp,hρ x _ hx,hρ y _ hy,eqGuard,binOp,Op.shift,this,Nat.min_eq_left hc,e]
theorem XL[Dr]{xs ys:Array Value}{q:Bool}[hx:ZZ (ev L x) (some (.agg xs))][hy:ZZ (ev L y) (some (.agg ys))](hg:P.eqGuardType P.depth t=false)(he:∀w,(Op.equalIn 10000 t (.agg xs) (.agg ys)).run P w=.ok q w):B2 P L w (.binOp .eql t x y t') ty (.bool q):=by
 intro w' _ ρ hρ dst pos af g;simp[execOp,hρ x _ hx.e,hρ y _ hy.e,run_eqGuard_agg w' .eql t x y xs ys hg,run_eql_struct,he w']
theorem KS[Dr]{xs ys:Array Value}{q:Bool}[hx:ZZ (ev L x) (some (.agg xs))][hy:ZZ (ev L y) (some (.agg ys))](hg:P.eqGuardType P.depth t=false)(he:∀w,(Op.equalIn 10000 t (.agg xs) (.agg ys)).run P w=.ok q w):B2 P L w (.binOp .neq t x y t') ty (.bool (!q)):=by
 intro w' _ ρ hρ dst pos af g;simp[execOp,hρ x _ hx.e,hρ y _ hy.e,run_eqGuard_agg w' .neq t x y xs ys hg,run_neq_struct,he w']
theorem WS {f0 f1 : Field}{d f : IntKind} (ht : P.underlying t = some (.struct (P.fieldsOf t))) (hp : P.stoodInHeld t = false) (hf : (P.fieldsOf t).toList = [f0, f1]) (g : f0.name ≠ "_" /\ f0.offset = 0) (h : f1.name ≠ "_" /\ f1.offset = 1)
  (i:P.underlying f0.type=some (.int d)) (j:P.underlying f1.type=some (.int f)) (a b c e:Int) (w:World) :
  (Op.equalIn 10000 t (.agg #[.int d a,.int f b]) (.agg #[.int d c,.int f e])).run P w=.ok (decide (a=c/\b=e)) w:=by
 rw[run_equalIn_struct w 9999 t _ _ ht hp,hf]
 have key:∀dd:Nat,(Op.eqFields (dd+1) #[.int d a,.int f b] #[.int d c,.int f e] [f0,f1]).run P w=.ok (decide (a=c/\b=e)) w:=by
  intro dd
  by_cases k:a=c <;> by_cases l:b=e <;>
   simp[Op.eqFields,g.1,h.1,g.2,h.2,part,isAgg,run_underlying i,run_underlying j,run_equalIn_int w dd _ _ _ _ _ i,run_equalIn_int w dd _ _ _ _ _ j,k,l]
 exact key 9998
theorem foldl_push:∀(l:QqZ) (s:ByteArray),(l.map (fun b=>((b.toNat:Nat):Int))).foldl (fun r n=>r.push (Qq2 n.toNat)) s=⟨s.data++l.toArray⟩
 | [],s=>by simp
 | b::l,s=>by
  rw[List.map_cons,List.foldl_cons,foldl_push l];simp[ByteArray.push]
theorem S8[Dr]{l:QqZ}[hx:ZZ (ev L x) (some v)][ht:ZZ (P.underlying t) (some (.slice e))][he:ZZ (P.underlying e) (some (.int .u8))][ht':ZZ (P.underlying t') (some .string)](hv:AD .byte H v l)(hs:Le H (hp w)):B2 P L w (.convert t t' x) ty (.string ⟨l.toArray⟩):=by
 intro w' hw ρ hρ dst pos af g;obtain⟨news,c,d⟩:=hv.elems;obtain rfl:=Rn c;obtain⟨k,a,cap,rfl,h3,m,f,i⟩:=d
 cases a with
 | none=>
  have:l.length=0:=by have:=f Z;omega
  have:l=[]:=Qzf this;subst this;simp[execOp,hρ x _ hx.e,run_convert_bytes_string w' t t' e none _ cap ht.e he.e ht'.e,Conv.bytesToString]
  rfl
 | some A=>
  have hload:(loadCells A l.length).run P w'=.ok ((l.map (fun b=>((b.toNat:Nat):Int))).map (Value.int .u8)).toArray w':=by
   by_cases hl:l.length=0
   ·have:l=[]:=Qzf hl;subst this;simp[loadCells,loadCellsFrom]
   ·have:=run_loadCellsFrom (P:=P) (p:=A) w' l.length 0 (l.map bv) #[] Z8 (fun j u hu=>by rw[Qq8];exact cell_of (hs.ext hw) ((i A Z hl).2 j u hu));unfold loadCells;rw[this];simp[bv,Function.comp_def]
  have hb:=run_bytesToString w' A l.length cap _ hload;rw[foldl_push]at hb;simp[execOp,hρ x _ hx.e,run_convert_bytes_string w' t t' e (some A) _ cap ht.e he.e ht'.e,hb]
theorem Kn[Dr]{l m:QqZ}(hx:ev L x=some (.string ⟨l.toArray⟩))(hy:ev L y=some (.string ⟨m.toArray⟩)):B2 P L w (.binOp .eql t x y t') ty (.bool (decide (l=m))):=by
 intro w' _ ρ hρ dst pos af g;have e:(l==m)=decide (l=m):=by rw[Bool.eq_iff_iff];simp
 simp[execOp,hρ x _ hx,hρ y _ hy,eqGuard,binOp,Op.stringOp,e]
theorem Tq{f:FuncId}{args:List Operand}{vs:QqK}{at_:Array TypeId}{dst:Option Tmp}{cap:QqK}{fo:Operand}(hc:Lm P f)(hf:ev L fo=some (.func (.func f) #[] cap.toArray))(ha:QV L args=some vs)(ρ:Operand->Value)(hρ:RN L ρ):
  (execOp ρ ⟨dst,.call ⟨.value fo,args.toArray,at_⟩,ty,pos,af,none⟩).run P w=.ok (.enter f (vs++cap).toArray) w:=by
 obtain ⟨fn, c, a, h2, h3⟩ := hc;have b := hρ.map _ _ ha;have h2' : ¬fn.name = "runtime.NumGoroutine" := by simpa using h2
 simp[execOp,resolve,hρ fo _ hf,Deferred.ofValue,b,invoke,callFunc,a,h2',h3]
theorem BD{f:FuncId}{args:List Operand}{vs:QqK}{at_:Array TypeId}{cap:QqK}{fo:Operand}{R:Value->World->Prop}(hf:ev L fo=some (.func (.func f) #[] cap.toArray))(ha:QV L args=some vs)[hn:ZZ (QqE d n.n) true](hok:Ok P f (vs++cap) w R)
  (h:∀v w',R v w'->S P n ops Q rest ((d,v)::L) w'):S P n ops Q (⟨some d,.call ⟨.value fo,args.toArray,at_⟩,ty,pos,af,none⟩::rest) L w:=
 Tm Z fun a fr=>by
  unfold Oper.wp;rw[Tq hok.1 hf ha _ fr.PN];refine hok.2.mono fun e w' ⟨v,he,hv⟩=>?_;subst he;exact h v w' hv _ (fr.put hn.e)
inductive Ts (P:Program) (L:Env) (w:World):ResultVar->Value->Prop
 | tmp {t:Nat}{v:Value} (h:gt L t=some v):Ts P L w (.tmp t) v
 | cell {s t:Nat}{b:Nat}{cs:QqK}{zz:Value}{bt:Nat}{dd:TypeDesc} (h:gt L s=some (.pointer (some ⟨b,0,none⟩))) (ht:P.underlying t=some dd) (hd:OY dd=true) (hz:Zr P t zz cs.length bt) (hp':EG (hp w) ⟨b,0,none⟩ cs):Ts P L w (.cell s t) (.agg cs.toArray)
def Oa(tmps:Array Value):ResultVar->Sem Value
 | .tmp t=>pure (tmps.getD t undef)
 | .cell a t=>do loadVar t (<- asAddr (tmps.getD a undef))
theorem K3(fn:Func)(tmps:Array Value):results fn tmps=(do let vs <- fn.results.mapM (Oa tmps);pure (if h:vs.size=1 then vs[0]else .tuple vs)):=by
 unfold results
 congr 1
theorem Ts.run{a:Act}{q:ResultVar}(fr:Fr n a L)(h:Ts P L w q v):(Oa a.tmps q).run P w=.ok v w:=by
 cases h with
 | tmp h=>have:=fr.get _ _ h;simp[Oa,QzE,this]
 | cell h ht hd hz hp'=>
  rename_i s t b cs zz bt dd;have:=fr.get _ _ h;obtain⟨inf,c,e,d,f⟩:=hz.parts;have hload:=run_loadCellsFrom (P:=P) (p:=⟨b,0,none⟩) w cs.length 0 cs #[] Z (fun j u hu=>by rw[Qq8];exact hp'.2 j u hu)
  cases dd <;> simp only[OY,Qz3]at hd <;>
   simp[Oa,QzE,this,asAddr,loadVar,isAgg,run_underlying ht,loadCells,sizeOf,typeInfo,c,d,hload]
theorem Eo{k₀:Nat}{fn:Func}{R:Value->World->Prop}{q:ResultVar}[hl:ZZ fn.results (#[q])](h:Ts P L w q v)(hR:R v w):At ⟨k₀,[]⟩ (Ma P fn R) .ret L w:=
 fun a fr=>⟨fr.defers,v,by rw[K3,hl.e];simp[h.run fr],v,Z,hR⟩
theorem FF{k₀:Nat}{fn:Func}{R:Value->World->Prop}{q q':ResultVar}{v':Value}[hl:ZZ fn.results (#[q,q'])](h:Ts P L w q v)(h':Ts P L w q' v')(hR:R (.tuple #[v,v']) w):At ⟨k₀,[]⟩ (Ma P fn R) .ret L w:=
 fun a fr=>⟨fr.defers,_,by rw[K3,hl.e];simp[h.run fr,h'.run fr],_,Z,hR⟩
theorem NA{k₀:Nat}{fn:Func}{R:Value->World->Prop}{q q' q'':ResultVar}{v' v'':Value}[hl:ZZ fn.results (#[q,q',q''])](h:Ts P L w q v)(h':Ts P L w q' v')(h'':Ts P L w q'' v'')(hR:R (.tuple #[v,v',v'']) w):At ⟨k₀,[]⟩ (Ma P fn R) .ret L w:=
 fun a fr=>⟨fr.defers,_,by rw[K3,hl.e];simp[h.run fr,h'.run fr,h''.run fr],_,Z,hR⟩
theorem Es{k₀:Nat}{fn:Func}{R:Value->World->Prop}[hl:ZZ fn.results (#[])](hR:R (.tuple #[]) w):At ⟨k₀,[]⟩ (Ma P fn R) .normal L w:=
 fun _a fr=>⟨fr.defers,_,results_none hl.e _ _ _,_,Z,hR⟩
end
end Go.E
namespace Go.E
open Go Go.RowKit
def Jp(n:Nat)(done:List Nat):Array Bool:=done.foldr (fun i a=>a.setIfInBounds i true) (QzD n false)
section
variable {P:Program}{n:Sz}{l:List Oper}{Q:Exit->Act->World->Prop}{L:Env}{w:World}{y:Code}{fuel:Nat}{m:Nat}{done:List Nat}
theorem Tt{i:Nat}{o:Oper}{K:Act->World->Prop}{a:Act}(ho:FO l i=some o)(h:wpList P l.toArray (Exit.then K Q) [o] a w)(_hQ:∀e a w,e≠.normal->Exit.then K Q e a w->Q e a w):wpOp P l.toArray Q i K a w:=by
 have ho':l.toArray[i]? = some o:=by rw[EP]at ho;simpa using ho
 unfold wpOp;simp only[ho'];simp only[wpList]at h
 split
 ·rename_i hw;rw[if_pos hw]at h
  rcases h with h | ⟨b,h2⟩
  ·left
   unfold Oper.wp at h ⊢;generalize (execOp a.eval o).run P w=r at h ⊢
   cases r with
   | ok nx w'=>
    cases nx <;> simp only[Oper.upon]at h ⊢
    case value v=>exact h
    case skip=>exact h
    case defer=>exact h
    case enter f args=>
     exact h.mono fun e w'' he=>by
      cases e with
      | returned v=>exact he
      | panicked ch=>exact he
      | outgrown=>exact he
    case row=>exact h
   | halt hh w'=>cases hh <;> simp only[Oper.upon]at h ⊢ <;> exact h
  ·exact .inr ⟨b,h2⟩
 ·rename_i hw;rw[if_neg hw]at h;exact h
end
section
variable {P:Program}{n:Sz}{lo:List Oper}{Q:Exit->Act->World->Prop}{L:Env}{w w0:World}{O:List BS}{tr:Tr}{ix:Nat}
 {d:Nat}{ty:TypeId}{pos:String}{af:Array Edge}{α:Type}{r:Rp α}{x y:Operand}{v:Value}{t e:TypeId}
theorem Le.mono{A B C:PH}(h:Le A B)(k:Le B C):Le A C:=h.trans k
theorem AZ.pick[Dr]{i:Nat}{q:BS}(h:AZ w0 O w)(hi:DW O i=some q):AZ w0 (q::Ln O i) w:=h.perm (EH hi).symm
end
end Go.E
namespace Go.E
open Go Go.RowKit
section
variable {P:Program}{L:Env}{w:World}{x y:Operand}{ty t t':TypeId}
end
def un(A B:PH):PH:=fun b=>match B b with
 | some o=>some o
 | none=>A b
theorem Ph{A B C:PH}(hA:Le A C)(hB:Le B C):Le (un A B) C:=fun b o e=>by
 unfold un at e
 cases h:B b with
 | some o'=>rw[h]at e;cases e;exact hB b o h
 | none=>rw[h]at e;exact hA b o e
theorem Hc{A B:PH}:Le B (un A B):=fun b o e=>by unfold un;rw[e]
theorem I1{w w':World}{A:PH}(hA:Le A (hp w)):Le A (un A (nw w w')):=fun b o e=>by
 have hb:b<w.heap.size:=lt_of_heap (hA b o e);unfold un nw;rw[if_neg U];exact e
end Go.E
end
noncomputable section
namespace Go.L
abbrev BX(x:Int):Prop:=-9223372036854775808<=x/\x<=9223372036854775807
def Bi{α:Type}(p:Prop)[Decidable p](k:Option α):Option α:=if p then k else none
theorem Hd{α:Type}{p:Prop}[Decidable p]{k:Option α}{e:α}(h:Bi p k=some e):p/\k=some e:=by
 unfold Bi at h
 split at h
 ·rename_i hp;exact⟨hp,h⟩
 ·cases h
theorem Ao{α:Type}{p:Prop}[Decidable p]{k:Option α}(h:p:=by omega):Bi p k=k:=by unfold Bi;rw[if_pos h]
theorem bind_some{α β:Type}{m:Option α}{f:α->Option β}{e:β}(h:m.bind f=some e):∃x,m=some x/\f x=some e:=Option.bind_eq_some_iff.1 h
theorem A8{α:Type}{p G:Prop}[Decidable p]{k:Option α}{e:α}(h:Bi p k=some e)(f:p->k=some e->G):G:=f (Hd h).1 (Hd h).2
theorem Ax{α β:Type}{G:Prop}{m:Option α}{f:α->Option β}{e:β}(h:m.bind f=some e)(k:∀x,m=some x->f x=some e->G):G:=by
 obtain⟨x,a,h2⟩:=bind_some h;exact k x a h2
theorem Lo{α:Type}{b:Bool}{x y:Option α}{e:α}(hb:b=true)(h:(if b then x else y)=some e):x=some e:=by rw[if_pos hb]at h;exact h
theorem Lp{α:Type}{b:Bool}{x y:Option α}{e:α}(hb:b=false)(h:(if b then x else y)=some e):y=some e:=by rw[if_neg (by rw[hb];decide)]at h;exact h
theorem MT{α:Type}{p:Prop}[Decidable p]{x y:Option α}{e:α}(hb:p)(h:(if p then x else y)=some e):x=some e:=by rw[if_pos hb]at h;exact h
theorem MU{α:Type}{p:Prop}[Decidable p]{x y:Option α}{e:α}(hb : ¬p)(h:(if p then x else y)=some e):y=some e:=by rw[if_neg hb]at h;exact h
section
variable {σ ρ:Type}
def FX(b:σ->Option (σ⊕ρ)):Nat->σ->Option ρ
 | 0,_=>none
 | n+1,s=>(b s).bind fun e=>match e with | .inl s'=>FX b n s' | .inr r=>some r
def Ct(b:σ->Option (σ⊕ρ))(n:Nat)(r:ρ):σ⊕ρ->Prop
 | .inl s=>FX b n s=some r
 | .inr x=>x=r
theorem Bd{b:σ->Option (σ⊕ρ)}{n:Nat}{s:σ}{r:ρ}(h:FX b n s=some r):∃m e,n=m+1/\b s=some e/\Ct b m r e:=by
 cases n with
 | zero=>cases h
 | succ m=>
  obtain⟨e,a,h2⟩:=Option.bind_eq_some_iff.1 h;refine⟨m,e,Z,a,?_⟩
  cases e with
  | inl s'=>exact h2
  | inr x=>exact Option.some.inj h2
theorem Ct.out{b:σ->Option (σ⊕ρ)}{n:Nat}{r:ρ}{e:σ⊕ρ}{m:Option ρ}(h:m.map Sum.inr=some e)(hm:Ct b n r e):m=some r:=by
 cases m with
 | none=>cases h
 | some x=>cases h;exact congrArg some hm
theorem Ct.again{b:σ->Option (σ⊕ρ)}{n:Nat}{r:ρ}{e:σ⊕ρ}{s:σ}(h:some (Sum.inl s)=some e)(hm:Ct b n r e):FX b n s=some r:=by cases h;exact hm
theorem Pj{b:σ->Option (σ⊕ρ)}:∀{n:Nat}{s:σ}{r:ρ} (k:Nat),FX b n s=some r->FX b (n+k) s=some r
 | 0,_,_,_,h=>by cases h
 | n+1,s,r,k,h=>by
  obtain⟨m,e,hm,a,h2⟩:=Bd h;obtain rfl:n=m:=by omega
  rw[show n+1+k=(n+k)+1 by omega,FX,a]
  cases e with
  | inl s'=>exact Pj k h2
  | inr x=>exact congrArg some h2
theorem V7{b:σ->Option (σ⊕ρ)}{n m:Nat}{s:σ}{r q:ρ}(h:FX b n s=some r)(k:FX b m s=some q):r=q:=by
 have a:=Pj m h;have h2:=Pj n k;rw[Nat.add_comm]at h2;exact Option.some.inj (a.symm.trans h2)
noncomputable def run(b:σ->Option (σ⊕ρ))(s:σ):Option ρ:=
 open Classical in if h : ∃r, ∃n, FX b n s = some r then some h.choose else none
theorem Q4{b:σ->Option (σ⊕ρ)}{n:Nat}{s:σ}{r:ρ}(h:FX b n s=some r):run b s=some r:=by
 have hx:∃r,∃n,FX b n s=some r:=⟨r,n,h⟩;unfold run;rw[dif_pos hx];obtain⟨m,hm⟩:=hx.choose_spec;rw[V7 hm h]
theorem Bf{b:σ->Option (σ⊕ρ)}{s:σ}{r:ρ}(h:run b s=some r):∃n,FX b n s=some r:=by
 unfold run at h
 split at h
 ·rename_i hx
  cases h
  exact hx.choose_spec
 ·cases h
theorem BT{b:σ->Option (σ⊕ρ)}{s s':σ}(h:b s=some (.inl s')):run b s=run b s':=by
 cases hr:run b s' with
 | some r=>
  obtain⟨n,hn⟩:=Bf hr;exact Q4 (n:=n+1) (by rw[FX,h];exact hn)
 | none=>
  cases hs:run b s with
  | none=>rfl
  | some r=>
   obtain⟨n,hn⟩:=Bf hs;obtain⟨m,e,_,a,h2⟩:=Bd hn;rw[h]at a;cases a;rw[Q4 h2]at hr;cases hr
theorem BY{b:σ->Option (σ⊕ρ)}{s:σ}{m:Option ρ}(h:b s=m.map .inr):run b s=m:=by
 cases m with
 | some r=>exact Q4 (n:=1) (by rw[FX,h];rfl)
 | none=>
  cases hs:run b s with
  | none=>rfl
  | some r=>
   obtain⟨n,hn⟩:=Bf hs;obtain⟨m,e,_,a,h2⟩:=Bd hn;rw[h]at a;cases a
theorem Hu(b:σ->Option (σ⊕ρ))(st:Nat->σ)(k:Nat)(m:Option ρ)(step:∀i,i<k->b (st i)=some (.inl (st (i+1))))(last:b (st k)=m.map .inr)(i:Nat)(hi:i<=k):run b (st i)=m:=by
 have key:∀d i,i+d=k->run b (st i)=m:=by
  intro d
  induction d with
  | zero=>intro i h;rw[Nat.add_zero]at h;subst h;exact BY last
  | succ d ih=>intro i h;rw[BT (step i U)];exact ih (i+1) U
 exact key (k - i) i U
end
def u8(a:Int):UInt8:=Qq2 (a % 256).toNat
theorem Rs(a:Int):((u8 a).toNat:Int)=a % 256:=by
 unfold u8;rw[UInt8.toNat_ofNat'];omega
end Go.L
namespace Go.E
open Go Go.RowKit
def gz(H:PH)(w0 w:World)(O:List BS):PH:=un H (nf w0 w O)
section
variable {H:PH}{w0 w w':World}{O O':List BS}
theorem O2{A B:PH}(hA:Le A (hp w0))(hB:∀b o,B b=some o->w0.heap.size<=b):Le A (un A B):=fun b o e=>by
 have hb:b<w0.heap.size:=lt_of_heap (hA b o e);unfold un
 cases h:B b with
 | none=>exact e
 | some o'=>have:=hB b o' h;omega
theorem XM{b:Nat}{o:Obj}(h:nf w0 w O b=some o):w0.heap.size<=b:=by
 unfold nf at h
 split at h
 ·assumption
 ·cases h
theorem Ai(hH:Le H (hp w0):=by exact hH):Le H (gz H w0 w O):=O2 hH (fun _ _ h=>XM h)
theorem NB:Le (nf w0 w O) (gz H w0 w O):=Hc
theorem PQ{A B C:PH}(hA:Le A (un A C))(h:Le B C):Le (un A B) (un A C):=Ph hA (h.trans Hc)
theorem Ab(h:Le (fz w O) (fz w' O'))(hH:Le H (hp w0):=by exact hH):Le (gz H w0 w O) (gz H w0 w' O'):=PQ  Ai (V5 h)
theorem Wz[Dr](hH:Le H (hp w0))(hL:AZ w0 O w):Le (gz H w0 w O) (fz w O):=Ph (hH.trans hL.XH) Wx
theorem Al[Dr](hL:AZ w0 O w)(hH:Le H (hp w0):=by exact hH):Le (gz H w0 w O) (hp w):=(Wz hH hL).trans (TS _ _)
theorem Q5[Dr](hL:AZ w0 O w):Le (nw w w') (gz H w0 w' O):=(XI hL).trans Hc
theorem B8[Dr](hL:AZ w0 O w)(hx:Ext w w')(hH:Le H (hp w0):=by exact hH):Le (un (gz H w0 w O) (nw w w')) (gz H w0 w' O):=Ph (Ab (Ba hL hx)) (Q5 hL)
theorem IS(hH:Le H (hp w0)):Le (gz H w0 w O) (un H (nw w0 w)):=Ph (I1 hH) (Wy.trans Hc)
theorem AZ.rG[Dr](_:AZ w0 O w)(H:PH):Le (gz H w0 w O) (gz H w0 w O):=Le.refl _
end
def CE{α:Type}(e:TypeId)(r:Rp α)(H:PH)(w w':World)(v:Value)(l:List α):Prop:=
 ∃xs,w'.ownsRow w.heap.size e r.sz v l.length xs/\A6 r (un H (MR w w' v)) l xs
section
variable {α:Type}{e:TypeId}{r:Rp α}{H:PH}{w0 w w':World}{O:List BS}{v:Value}{l:List α}{i:Nat}{xs:QqK}
theorem Rt{b:Nat}{o:Obj}(h:MR w w' v b=some o):w.heap.size<=b:=by
 unfold MR nw at h
 split at h
 ·cases h
 ·split at h
  ·assumption
  ·cases h
theorem CE.vec(hH:Le H (hp w))(h:CE e r H w w' v l):AD r (un H (nw w w')) v l:=by
 obtain⟨xs,a,h2⟩:=h;refine L5 a h2 (Ph (I1 hH) (Rb.trans Hc)) fun k hk o ho=>?_;have:=(a.lt k hk).1;apply Hc;unfold nw;rw[if_pos this];exact ho
theorem CE.Cu[Dr](h:CE e r (gz H w0 w O) w w' v l)(hH:Le H (hp w0))(hL:AZ w0 O w)(hx:Ext w w'):AD r (gz H w0 w' O) v l:=(h.vec (Al hL)).mono (B8 hL hx)
theorem CE.take[Dr](h:CE e r (gz H w0 w O) w w' v l)(hH:Le H (hp w0))(hL:AZ w0 O w)(hx:Ext w w'):∃xs,AZ w0 (.row v e r.sz l.length xs::O) w'/\Le (fz w O) (fz w' (.row v e r.sz l.length xs::O))/\A6 r (gz H w0 w' (.row v e r.sz l.length xs::O)) l xs:=by
 obtain⟨xs,c,h2⟩:=h;obtain⟨h3,a⟩:=L9 hL hx c;refine⟨xs,h3,a,h2.mono (Ph (Ab a) (fun b o hb=>NB b o ?_))⟩;have hge:w0.heap.size<=b:=QzK hL.ext.size (Rt hb);unfold nf;rw[if_pos hge];exact Ra hL b o hb
theorem CE.nil{H:PH}:CE e r H w w' (.slice none 0 0) ([]:List α):=⟨[],World.ownsRow_nil w' _ e _,.nil⟩
theorem AZ.Hv[Dr](hL:AZ w0 O w)(hH:Le H (hp w0))(hi:DW O i=some (.row v e r.sz l.length xs))(he:A6 r (gz H w0 w O) l xs):CE e r H w0 w v l:=
 ⟨xs,L4 (hL.at hi) (fun k hk=>hL.own _ ((EH hi).mem_iff.2 (.head _)) k hk),he.mono (Ph (O2 hH (fun _ _ h=>Rt h)) ((WO hi).trans Hc))⟩
theorem AZ.Cu[Dr](hL:AZ w0 O w)(hH:Le H (hp w0))(hi:DW O i=some (.row v e r.sz l.length xs))(he:A6 r (gz H w0 w O) l xs):AD r (gz H w0 w (Ln O i)) v l:=
 L5 (hL.at hi) he (Ab (Ae hi)) (fun k hk o ho=>NB k o (by
  unfold nf;rw[if_pos (hL.own _ ((EH hi).mem_iff.2 (.head _)) k hk),Pa hi hk hL.Vy];exact ho))
theorem AZ.KM[Dr](hL:AZ w0 O w)(hH:Le H (hp w0))(hi:DW O i=some (.row v e r.sz l.length xs))(he:A6 r (gz H w0 w O) l xs):AD r (hp w) v l:=hL.Y1 hi (he.mono (Wz hH hL))
end
def Rp.st:Rp QqZ:=⟨1,fun _ x c=>c=[.string ⟨x.toArray⟩],fun h=>by simp[h],fun _ h=>h,fun h u hu=>by subst h;simp at hu;subst hu;rfl⟩
theorem A6.set{α:Type}{r:Rp α}{H:PH}{l:List α}{cs:QqK}{x:α}{u:Value}(h:A6 r H l cs)(hx:r.rel H x [u]):∀i,i<l.length->A6 r H (l.set i x) (cs.set (i * r.sz) u):=by
 have hsz:r.sz=1:=(r.len hx).symm
 induction h with
 | nil=>intro i hi;cases hi
 | @cons y l c cs h t ih=>
  intro i hi;have hc:c.length=1:=by rw[r.len h,hsz]
  obtain⟨z,rfl⟩:=List.length_eq_one_iff.1 hc
  cases i with
  | zero=>rw[Qz4];exact .cons hx t
  | succ i=>
   rw[hsz,Qzw]at *;simp only[List.length_cons]at hi;have:=ih i U;rw[Qzw]at this;exact .cons h this
section
variable {P:Program}{n:Sz}{ops:Array Oper}{Q:Exit->Act->World->Prop}{L:Env}{w w0:World}{O:List BS}{rest:List Oper}
 {d:Nat}{ty:TypeId}{pos:String}{af:Array Edge}{α:Type}{r:Rp α}{x y:Operand}{v u:Value}{t t' e:TypeId}{H:PH}
abbrev Gg(bt n:Nat):Prop:=n * bt<=140737488355328/\n<=9223372036854775807
theorem Ca[Dr](i:Nat){bt:Nat}{zz:Value}(l m:List α){xs:QqK}(hx:ev L x=some v)[hy:ZZ (ev L y) (some u)](ht:P.underlying t=some (.slice e))[hz:Qqq P e zz r.sz bt][hzs:ZZ zz.cells.size r.sz][hn:ZZ (QqE d n.n) true]
   (hL:AZ w0 O w) (hi:DW O i=some (.row v e r.sz l.length xs)) (he:A6 r (gz H w0 w O) l xs) (hm:AD r (gz H w0 w O) u m) (hby:Gg bt (l.length+m.length))
  (h:∀v' w' xs',AZ w0 (DX O i (.row v' e r.sz (l++m).length xs')) w'->Le (fz w O) (fz w' (DX O i (.row v' e r.sz (l++m).length xs')))->A6 r (gz H w0 w' (DX O i (.row v' e r.sz (l++m).length xs'))) (l++m) xs'->S P n ops Q rest ((d,v')::L) w')(hsz:0<r.sz:=by decide)(hH:Le H (hp w0):=by exact hH):
  S P n ops Q (⟨some d,.call ⟨.builtin .append,#[x,y],#[t,t]⟩,ty,pos,af,none⟩::rest) L w:=by
 obtain⟨news,a,hs⟩:=hm.elems;refine TX i hx hy.e ht hz.e hzs.e hsz hn.e hL hi (hs.mono (Al hL)) a.one hby fun v' w' b h2=>?_;rw[<- List.length_append]at b h2;exact h v' w' _ b h2 ((he.append a).mono (Ab h2))
theorem He[Dr](i:Nat){bt k:Nat}(j:Nat){zz:Value}{l:List α}{xs:QqK}{p:Addr}(z:α)[hx:ZZ (ev L x) (some (.pointer (some p)))](hy:ev L y=some u)(hu:u.oneCell'=true)[hz:Qqq P t zz 1 bt](hH:Le H (hp w0))(hL:AZ w0 O w)(hi:DW O i=some (.row v e r.sz l.length xs))(he:A6 r (gz H w0 w O) l xs)
  (hp':IQ v k p) [hk:ZZ k (j * r.sz)] (hj:j<l.length) (hz':r.rel (gz H w0 w O) z [u])
  (h:∀w' xs',AZ w0 (DX O i (.row v e r.sz (l.set j z).length xs')) w'->Le (fz w O) (fz w' (DX O i (.row v e r.sz (l.set j z).length xs')))->A6 r (gz H w0 w' (DX O i (.row v e r.sz (l.set j z).length xs'))) (l.set j z) xs'->S P n ops Q rest L w') :
  S P n ops Q (⟨none,.store t x y,ty,pos,af,none⟩::rest) L w:=by
 have hk:=hk.e
 subst hk;have hlen:=he.len;have hsz:r.sz=1:=(r.len hz').symm;refine Pf i hx.e hy hu hz.e hL hi hp' (by rw[hlen,hsz];omega) fun w' a h2=>?_;have b:l.length=(l.set j z).length:=by simp
 rw[b]at a h2;exact h w' _ a h2 ((he.set hz' j hj).mono (Ab h2))
theorem Br[Dr]{ps:List (Nat×Operand)}{vs:List (Nat×Value)}{cs:QqK}(l:List α)[hp':ZZ (Vr L ps) (some vs)][hn:ZZ (QqE d n.n) true](hlen:l.length<=9223372036854775807)(hL:AZ w0 O w)(he:A6 r (gz H w0 w O) l cs)
  (h:∀u w',Ext w w'->AZ w0 O w'->Le (fz w O) (fz w' O)->AD r (gz H w0 w' O) u l->S P n ops Q rest ((d,u)::L) w')(hr:∀w,(Instr.buildSlice t l.length vs.toArray).run P w=.ok (.slice (some ⟨w.heap.size,0,none⟩) l.length l.length) (w.alloc (.cells cs.toArray e)):=by exact fun _=>ES _ _ _ _ _ _ _ _ _ _ _ _ _ _ _ _)(hH:Le H (hp w0):=by exact hH):
  S P n ops Q (⟨some d,.buildSlice t l.length ps.toArray,ty,pos,af,none⟩::rest) L w:=
 Ww (sz:=r.sz) hp'.e hr he.len hlen hn.e hL fun u w' hx hL' hle hs _=>h u w' hx hL' hle (Pd (he.mono (Ab hle)) (hs.mono (Q5 hL)))
theorem Ob[Dr]{ps:List (Nat×Operand)}{vs:List (Nat×Value)}{cs:QqK}(l:List α)[hp':ZZ (Vr L ps) (some vs)](hr:∀w,(Instr.buildSlice t l.length vs.toArray).run P w=.ok (.slice (some ⟨w.heap.size,0,none⟩) l.length l.length) (w.alloc (.cells cs.toArray e)))[hn:ZZ (QqE d n.n) true](hlen:l.length<=9223372036854775807)(hH:Le H (hp w0))(hL:AZ w0 O w)(he:A6 r (gz H w0 w O) l cs)
  (h:∀u w' xs,AZ w0 (.row u e r.sz l.length xs::O) w'->Le (fz w O) (fz w' (.row u e r.sz l.length xs::O))->A6 r (gz H w0 w' (.row u e r.sz l.length xs::O)) l xs->S P n ops Q rest ((d,u)::L) w') :
  S P n ops Q (⟨some d,.buildSlice t l.length ps.toArray,ty,pos,af,none⟩::rest) L w:=
 Ww (sz:=r.sz) hp'.e hr he.len hlen hn.e hL fun u w' hx _ _ _ ho=>by
  obtain⟨a,h2⟩:=L9 hL hx ho;exact h u w' _ a h2 (he.mono (Ab h2))
theorem S9[Dr]{bt:Nat}{k k':IntKind}{zz:Value}{c c':Int}{z:α}[hx:ZZ (ev L x) (some (.int k c))][hy:ZZ (ev L y) (some (.int k' c'))][hcc:ZZ c' c](ht:P.underlying t=some (.slice e))[hz:Qqq P e zz r.sz bt][hzc:ZZ zz.cells (#[zz])](hrz:∀G,r.rel G z [zz])[hn:ZZ (QqE d n.n) true](_hH:Le H (hp w0))(hL:AZ w0 O w)(hm:0<=c/\(bt:Int) * c<=281474976710656/\c<=9223372036854775807)
  (h:∀v' w' xs,AZ w0 (.row v' e r.sz (Qq3 c.toNat z).length xs::O) w'->Le (fz w O) (fz w' (.row v' e r.sz (Qq3 c.toNat z).length xs::O))->A6 r (gz H w0 w' (.row v' e r.sz (Qq3 c.toNat z).length xs::O)) (Qq3 c.toNat z) xs->S P n ops Q rest ((d,v')::L) w') :
  S P n ops Q (⟨some d,.makeSlice t x y,ty,pos,af,none⟩::rest) L w:=by
 have hcc:=hcc.e
 have hz:=hz.e
 have hsz:r.sz=1:=(r.len (hrz H)).symm;obtain⟨m,rfl⟩:=Qz1 hm.1;subst hcc;rw[hsz]at hz;refine WN (m:=m) hx.e hy.e ⟨Z,Z⟩ ht hz hzc.e hn.e hL ⟨by have:=hm.2.1;rw[<- Int.natCast_mul]at this;exact Int.ofNat_le.1 this,by omega⟩ fun v' w' _ a h2=>?_;have b:m=(Qq3 (m:Int).toNat z).length:=by simp
 have f:BS.row v' e 1 m (Qq3 m zz)=.row v' e r.sz (Qq3 (m:Int).toNat z).length (Qq3 m zz):=by rw[hsz,<- b]
 rw[f]at a h2;refine h v' w' _ a h2 ?_
 have key:∀(G:PH) (k:Nat),A6 r G (Qq3 k z) (Qq3 k zz):=fun G k=>by
  induction k with
  | zero=>exact .nil
  | succ k ih=>exact .cons (c:=[zz]) (hrz G) ih
 exact key _ _
end
section
variable {P:Program}{n:Sz}{lo:List Oper}{Q:Exit->Act->World->Prop}{L:Env}{w w0:World}{O:List BS}{tr:Tr}{ix:Nat}
 {d:Nat}{ty:TypeId}{pos:String}{af:Array Edge}{α:Type}{r:Rp α}{x y:Operand}{v:Value}{t e:TypeId}{H:PH}
theorem Md[Dr]{ps:List (Nat×Operand)}{vs:List (Nat×Value)}{cs:QqK}(l:List α)(ho:FO lo ix=some ⟨some d,.buildSlice t l.length ps.toArray,ty,pos,af,none⟩)(hp':Vr L ps=some vs)(hr:∀w,(Instr.buildSlice t l.length vs.toArray).run P w=.ok (.slice (some ⟨w.heap.size,0,none⟩) l.length l.length) (w.alloc (.cells cs.toArray e)))(hn:QqE d n.n=true)(hlen:l.length<=9223372036854775807)(hH:Le H (hp w0))(hL:AZ w0 O w)(he:A6 r (gz H w0 w O) l cs)
  (h:∀u w',Ext w w'->AZ w0 O w'->Le (fz w O) (fz w' O)->AD r (gz H w0 w' O) u l->D P n lo Q tr ((d,u)::L) w'):D P n lo Q (.h ix tr) L w:=by
 refine TU (R:=fun b u w'=>Src (nw b w') r.sz u l.length cs) ho hn (fun b a ρ hρ=>?_) (fun b u w' a c hR=>?_)
 ·have g:=hρ.TW _ _ hp';have e':(ps.toArray.map fun(i,x)=>(i,ρ x))=vs.toArray:=by rw[<- g];simp
  refine⟨_,_,by simp[execOp,e',hr b,-List.map_toArray],D5 b (.cells cs.toArray e),he.len,some ⟨b.heap.size,0,none⟩,l.length,Z,Qq0 _,by unfold maxLen;omega,(fun e=>by cases e),fun A hA _=>?_⟩
  cases hA
  refine⟨Z,fun j u hu=>?_⟩;simp only[Addr.add_lit,Qq8,GZ,nw,Qq0,if_true,heap_alloc_new]
  simpa using hu
 ·have f:=hL.call a;have hle:=(Ba hL a).trans (Ba f c);exact h u w' (a.trans c) (f.call c) hle (Pd (he.mono (Ab hle)) (hR.mono (Q5 f)))
theorem RU[Dr]{ps:List (Nat×Operand)}{vs:List (Nat×Value)}{cs:QqK}{l:List α}(ho:FO lo ix=some ⟨some d,.buildSlice t l.length ps.toArray,ty,pos,af,none⟩)(hp':Vr L ps=some vs)(hr:∀w,(Instr.buildSlice t l.length vs.toArray).run P w=.ok (.slice (some ⟨w.heap.size,0,none⟩) l.length l.length) (w.alloc (.cells cs.toArray e)))(hn:QqE d n.n=true)(hlen:l.length<=9223372036854775807)(hH:Le H (hp w0))(hL:AZ w0 O w)(he:A6 r (gz H w0 w O) l cs)
  (h:∀u w' xs,AZ w0 (.row u e r.sz l.length xs::O) w'->Le (fz w O) (fz w' (.row u e r.sz l.length xs::O))->A6 r (gz H w0 w' (.row u e r.sz l.length xs::O)) l xs->D P n lo Q tr ((d,u)::L) w'):D P n lo Q (.h ix tr) L w:=by
 refine TU (R:=fun a u w'=>w'.ownsRow a.heap.size e r.sz u l.length cs) ho hn (fun a b ρ hρ=>?_) (fun a u w' b c hR=>?_)
 ·have f:=hρ.TW _ _ hp';have e':(ps.toArray.map fun(i,x)=>(i,ρ x))=vs.toArray:=by rw[<- f];simp
  refine⟨.slice (some ⟨a.heap.size,0,none⟩) l.length l.length,a.alloc (.cells cs.toArray e),by simp[execOp,e',hr a,-List.map_toArray],D5 a (.cells cs.toArray e),?_⟩;have:=World.ownsRow_lit (base:=a.heap.size) (e:=e) (size:=r.sz) a cs.toArray l.length (Qq0 _) (by unfold maxLen;omega) (by simpa using he.len)
  simpa using this
 ·obtain⟨g,h2⟩:=L9 (hL.call b) c hR;have hle:=(Ba hL b).trans h2;exact h u w' _ g hle (he.mono (Ab hle))
end
end Go.E
end
noncomputable section
namespace Go.E
open Go Go.RowKit
theorem AK{i:Int}{n:Nat}(h:0<=i/\i<(n:Int)):i.toNat<n:=by omega
theorem Dw{i n:Int}(h:0<=i/\i<n):i=(i.toNat:Int):=(QzZ h.1).symm
theorem Tu{p:Prop}[Decidable p](h:(!decide p)=true): ¬p:=by simpa using h
theorem Tv{p:Prop}[Decidable p](h:(!decide p)=false):p:=by simpa using h
section
variable {α:Type}{P:Program}{n:Sz}{Q:Exit->Act->World->Prop}{L:Env}{w:World}{x y:Code}{t:Operand}{A B:Option α}{e:α}
theorem Bm{b:Bool}[hc:ZZ (ev L t) (some (.bool b))](h:(if b then A else B)=some e)(ht:b=true->A=some e->W P n x Q L w)(hf:b=false->B=some e->W P n y Q L w):W P n (.cond t x y) Q L w:=
 RL hc.e (fun c=>ht c (Go.L.Lo c h)) (fun c=>hf c (Go.L.Lp c h))
theorem AY{p:Prop}[Decidable p][hc:ZZ (ev L t) (some (.bool (decide p)))](h:(if p then A else B)=some e)(ht:p->A=some e->W P n x Q L w)(hf : ¬p->B=some e->W P n y Q L w):W P n (.cond t x y) Q L w:=
 Yz hc.e (fun c=>ht c (Go.L.MT c h)) (fun c=>hf c (Go.L.MU c h))
theorem DI{p:Prop}[Decidable p][hc:ZZ (ev L t) (some (.bool (!decide p)))](h:(if p then A else B)=some e)(ht : ¬p->B=some e->W P n x Q L w)(hf:p->A=some e->W P n y Q L w):W P n (.cond t x y) Q L w:=
 XF hc.e (fun c=>ht c (Go.L.MU c h)) (fun c=>hf c (Go.L.MT c h))
theorem Bj{ops:Array Oper}{rest:List Oper}(s:Nat){b:Bool}[hb:ZZ (gt L s) (some (.bool b))](h:(if b then A else B)=some e)(ht:b=true->A=some e->S P n ops Q rest L w)(hf:b=false->B=some e->S P n ops Q rest L w):S P n ops Q rest L w:=
 Bl hb.e (fun c=>ht c (Go.L.Lo c h)) (fun c=>hf c (Go.L.Lp c h))
theorem AU{ops:Array Oper}{rest:List Oper}(s:Nat){p:Prop}[Decidable p][hb:ZZ (gt L s) (some (.bool (decide p)))](h:(if p then A else B)=some e)(ht:decide p=true->A=some e->S P n ops Q rest L w)(hf:decide p=false->B=some e->S P n ops Q rest L w):S P n ops Q rest L w:=
 Bl hb.e (fun c=>ht c (Go.L.MT (of_decide_eq_true c) h)) (fun c=>hf c (Go.L.MU (of_decide_eq_false c) h))
theorem FG{ops:Array Oper}{rest:List Oper}(s:Nat){p:Prop}[Decidable p][hb:ZZ (gt L s) (some (.bool (!decide p)))](h:(if p then A else B)=some e)(ht:(!decide p)=true->B=some e->S P n ops Q rest L w)(hf:(!decide p)=false->A=some e->S P n ops Q rest L w):S P n ops Q rest L w:=
 Bl hb.e (fun c=>ht c (Go.L.MU (Tu c) h)) (fun c=>hf c (Go.L.MT (Tv c) h))
end
theorem IQ.add{v:Value}{k:Nat}{p:Addr}(h:IQ v k p)(j:Nat):IQ v (k+j) (p.add j):=by
 obtain⟨b,o,s⟩:=p;obtain⟨a,h2,h3⟩:=h;simp only at a h2 h3;subst h3;exact⟨by simpa[Addr.add_lit]using a,by simp[Addr.add_lit,h2],by simp[Addr.add_lit]⟩
section
variable {P:Program}{L:Env}{w:World}{x y z:Operand}{ty t t' t'' e:TypeId}
theorem Hf(a:Int):IntKind.u8.wrap a=((Go.L.u8 a).toNat:Int):=by rw[OL,Go.L.Rs]
def Y2:BinOp->UInt8->UInt8->Option UInt8
 | .add,a,b=>some (a+b)
 | .sub,a,b=>some (a - b)
 | .mul,a,b=>some (a * b)
 | _,_,_=>none
theorem TZ{op:BinOp}{a b c:UInt8}(h:Y2 op a b=some c):∃s,XG op (a.toNat:Int) (b.toNat:Int)=some s/\IntKind.u8.wrap s=(c.toNat:Int):=by
 have ha:=a.toNat_lt;have hb:=b.toNat_lt
 cases op <;> simp only[Y2,Option.some.injEq,reduceCtorEq]at h <;> subst h
 ·refine⟨_,Z,?_⟩;rw[OL,UInt8.toNat_add];omega
 ·refine⟨_,Z,?_⟩;rw[OL,UInt8.toNat_sub];omega
 ·refine⟨_,Z,?_⟩;rw[OL,UInt8.toNat_mul,<- Int.natCast_mul];omega
theorem W0[Dr]{op:BinOp}{a b c:UInt8}(hx:ev L x=some (.int .u8 (a.toNat:Int)))(hy:ev L y=some (.int .u8 (b.toNat:Int)))(ho:Y2 op a b=some c):B2 P L w (.binOp op t x y t') ty (.int .u8 (c.toNat:Int)):=by
 obtain⟨s,d,h2⟩:=TZ ho;exact XJ hx hy d h2
theorem Ng[Dr]{op:BinOp}{c:Nat}{p q:Int}[hx:ZZ (ev L x) (some (.int .i64 p))][hy:ZZ (ev L y) (some (.int .i64 q))](ho:TY op p.toNat q.toNat=some c)(h:(0<=p/\p<2 ^ 63)/\(0<=q/\q<2 ^ 63)):B2 P L w (.binOp op t x y t') ty (.int .i64 (c:Int)):=
 V6 hx.e hy.e U U ho U U
theorem Ua[Dr]{a:UInt8}{c:Nat}{k':IntKind}(hx:ev L x=some (.int .u8 (a.toNat:Int)))[hy:ZZ (ev L y) (some (.int k' (c:Int)))](hc:c<8):B2 P L w (.binOp .shr t x y t') ty (.int .u8 ((a >>> (Qq2 c)).toNat:Int)):=by
 have h:=Rr (P:=P) (w:=w) (t:=t) (t':=t') (ty:=ty) hx hy.e Z (show c<=IntKind.u8.bits by simp[IntKind.bits];omega)
 have e:(a.toNat:Int) / 2 ^ c=((a >>> (Qq2 c)).toNat:Int):=by
  rw[UInt8.toNat_shiftRight,UInt8.toNat_ofNat',Nat.mod_eq_of_lt (show c<2 ^ 8 by omega),Nat.mod_eq_of_lt hc,Nat.shiftRight_eq_div_pow];simp
 rw[e]at h;exact h
theorem RV[Dr]{a c:Int}{k':IntKind}(hx:ev L x=some (.int .i64 a))[hy:ZZ (ev L y) (some (.int k' c))](hc:0<=c/\c<=63):B2 P L w (.binOp .shr t x y t') ty (.int .i64 (a / 2 ^ c.toNat)):=by
 obtain⟨m,rfl⟩:=Qz1 hc.1;exact Rr hx hy.e Z (by simp[IntKind.bits];omega)
theorem K4[Dr]{l:QqZ}(hx:ev L x=some (.string ⟨l.toArray⟩))[ht:ZZ (P.underlying t) (some .string)]:B2 P L w (.call ⟨.builtin .len,#[x],#[t]⟩) ty (.int .i64 (l.length:Int)):=by
 intro w' _ ρ hρ dst pos af g;have:(ByteArray.mk l.toArray).size=l.length:=by simp[Qz2]
 simp[execOp,resolve,hρ x _ hx,invoke,builtin,Builtin.len_,run_underlying ht.e,goInt,this]
theorem Me[Dr]{l m:QqZ}(hx:ev L x=some (.string ⟨l.toArray⟩))(hy:ev L y=some (.string ⟨m.toArray⟩)):B2 P L w (.binOp .neq t x y t') ty (.bool (!decide (l=m))):=by
 intro w' _ ρ hρ dst pos af g;have e:(l==m)=decide (l=m):=by rw[Bool.eq_iff_iff];simp
 simp[execOp,hρ x _ hx,hρ y _ hy,eqGuard,binOp,Op.stringOp,e]
theorem NC[Dr]{l m:QqZ}[hx:ZZ (ev L x) (some (.string ⟨l.toArray⟩))][hy:ZZ (ev L y) (some (.string ⟨m.toArray⟩))](h:l.length+m.length<=9223372036854775807):B2 P L w (.binOp .add t x y t') ty (.string ⟨(l++m).toArray⟩):=by
 intro w' _ ρ hρ dst pos af g;have c:(ByteArray.mk l.toArray).size=l.length:=by simp[Qz2]
 have f:(ByteArray.mk m.toArray).size=m.length:=by simp[Qz2]
 have o:ByteArray.mk l.toArray++ByteArray.mk m.toArray=ByteArray.mk (l++m).toArray:=by
  apply ByteArray.ext;simp
 have p : ¬(IntKind.i64.max<((l.length+m.length:Nat):Int)):=by
  have:IntKind.i64.max=9223372036854775807:=by decide
  omega
 simp only[execOp,hρ x _ hx.e,hρ y _ hy.e,eqGuard,binOp,Op.stringOp,c,f,o];simp;omega
end
section
variable {P:Program}{n:Sz}{ops:Array Oper}{Q:Exit->Act->World->Prop}{L:Env}{w w0:World}{O:List BS}{rest:List Oper}{lop:List Oper}{ix:Nat}{tr:Tr}
 {d:Nat}{ty:TypeId}{pos:String}{af:Array Edge}{α:Type}{r:Rp α}{x a b:Operand}{v:Value}{t e:TypeId}{H:PH}{l:List α}{k k':IntKind}{i j:Int}{zz:Value}{bt:Nat}
theorem G7[Dr][hx:ZZ (ev L x) (some v)][ha:ZZ (ev L a) (some (.int k i))][ht:ZZ (P.underlying t) (some (.slice e))][he:Qqq P e zz r.sz bt](hv:AD r H v l)(hc:0<=i/\i<=(l.length:Int))[hn:ZZ (QqE d n.n) true]
  (h:∀v',AD r H v' (l.drop i.toNat)->S P n ops Q rest ((d,v')::L) w):S P n ops Q (⟨some d,.slice t x (some a) none none,ty,pos,af,none⟩::rest) L w:=
 S5 hx.e ht.e he.e hv i.toNat l.length ⟨k,by rw[QzZ U];exact ha.e⟩ Z U hn.e fun v' h'=>h v' (by rwa [List.take_of_length_le Z8]at h')
theorem Lq[Dr][hx:ZZ (ev L x) (some v)][hb:ZZ (ev L b) (some (.int k' j))][ht:ZZ (P.underlying t) (some (.slice e))][he:Qqq P e zz r.sz bt](hv:AD r H v l)(hc:0<=j/\j<=(l.length:Int))[hn:ZZ (QqE d n.n) true]
  (h:∀v',AD r H v' (l.take j.toNat)->S P n ops Q rest ((d,v')::L) w):S P n ops Q (⟨some d,.slice t x none (some b) none,ty,pos,af,none⟩::rest) L w:=
 S5 hx.e ht.e he.e hv 0 j.toNat Z ⟨k',by rw[QzZ U];exact hb.e⟩ U hn.e fun v' h'=>h v' (by simpa using h')
theorem Ru[Dr](ho:FO lop ix=some ⟨some d,.slice t x (some a) (some b) none,ty,pos,af,none⟩)(hx:ev L x=some v)[ha:ZZ (ev L a) (some (.int k i))][hb:ZZ (ev L b) (some (.int k' j))](ht:P.underlying t=some (.slice e))[he:Qqq P e zz r.sz bt](hv:AD r H v l)(hc:0<=i/\i<=j/\j<=(l.length:Int))(hn:QqE d n.n=true)
  (h:∀v',AD r H v' ((l.drop i.toNat).take (j.toNat - i.toNat))->D P n lop Q tr ((d,v')::L) w):D P n lop Q (.q ix tr) L w:=
 S6 ho hx ht he.e hv i.toNat j.toNat ⟨k,by rw[QzZ U];exact ha.e⟩ ⟨k',by rw[QzZ U];exact hb.e⟩ U hn h
theorem Ub[Dr](ho:FO lop ix=some ⟨some d,.slice t x none (some b) none,ty,pos,af,none⟩)(hx:ev L x=some v)[hb:ZZ (ev L b) (some (.int k' j))](ht:P.underlying t=some (.slice e))[he:Qqq P e zz r.sz bt](hv:AD r H v l)(hc:0<=j/\j<=(l.length:Int))(hn:QqE d n.n=true)
  (h:∀v',AD r H v' (l.take j.toNat)->D P n lop Q tr ((d,v')::L) w):D P n lop Q (.q ix tr) L w:=
 S6 ho hx ht he.e hv 0 j.toNat Z ⟨k',by rw[QzZ U];exact hb.e⟩ U hn fun v' h'=>h v' (by simpa using h')
theorem MB[Dr]{z:Value}{sz:Nat}{cs:QqK}(ho:FO lop ix=some ⟨some d,.alloc t,ty,pos,af,none⟩)(hz:Zr P t z sz bt)(hc:z.cells.toList=cs)(hn:QqE d n.n=true)(hL:AZ w0 O w)
  (h:∀w' b,AZ w0 (.box b cs t::O) w'->Le (fz w O) (fz w' (.box b cs t::O))->D P n lop Q tr ((d,.pointer (some ⟨b,0,none⟩))::L) w'):D P n lop Q (.h ix tr) L w:=by
 subst hc;refine TU (R:=fun a u w'=>u=.pointer (some ⟨a.heap.size,0,none⟩)/\w'=a.alloc (.cells z.cells.toList.toArray t)) ho hn (fun a c ρ hρ=>?_) (fun a u w' c f hR=>?_)
 ·refine⟨_,_,Qd hz a ρ _ Z,D5 _ _,Z,by simp⟩
 ·obtain⟨rfl,rfl⟩:=hR;have e:=hL.call c;exact h _ _ (Q3 e) ((Ba hL c).trans (NZ e))
end
end Go.E
namespace Go.E
open Go Go.RowKit
theorem A6.c1{α:Type}{r:Rp α}{H:PH}{x:α}{l:List α}{a:Value}{cs:QqK}(h:r.rel H x [a])(t:A6 r H l cs):A6 r H (x::l) (a::cs):=.cons (c:=[a]) h t
theorem A6.c2{α:Type}{r:Rp α}{H:PH}{x:α}{l:List α}{a b:Value}{cs:QqK}(h:r.rel H x [a,b])(t:A6 r H l cs):A6 r H (x::l) (a::b::cs):=.cons (c:=[a,b]) h t
theorem A6.c3{α:Type}{r:Rp α}{H:PH}{x:α}{l:List α}{a b d:Value}{cs:QqK}(h:r.rel H x [a,b,d])(t:A6 r H l cs):A6 r H (x::l) (a::b::d::cs):=.cons (c:=[a,b,d]) h t
theorem A6.c4{α:Type}{r:Rp α}{H:PH}{x:α}{l:List α}{a b d e:Value}{cs:QqK}(h:r.rel H x [a,b,d,e])(t:A6 r H l cs):A6 r H (x::l) (a::b::d::e::cs):=.cons (c:=[a,b,d,e]) h t
theorem A6.c5{α:Type}{r:Rp α}{H:PH}{x:α}{l:List α}{a b d e f:Value}{cs:QqK}(h:r.rel H x [a,b,d,e,f])(t:A6 r H l cs):A6 r H (x::l) (a::b::d::e::f::cs):=.cons (c:=[a,b,d,e,f]) h t
theorem A6.c6{α:Type}{r:Rp α}{H:PH}{x:α}{l:List α}{a b d e f g:Value}{cs:QqK}(h:r.rel H x [a,b,d,e,f,g])(t:A6 r H l cs):A6 r H (x::l) (a::b::d::e::f::g::cs):=.cons (c:=[a,b,d,e,f,g]) h t
theorem A6.c7{α:Type}{r:Rp α}{H:PH}{x:α}{l:List α}{a b d e f g i:Value}{cs:QqK}(h:r.rel H x [a,b,d,e,f,g,i])(t:A6 r H l cs):A6 r H (x::l) (a::b::d::e::f::g::i::cs):=.cons (c:=[a,b,d,e,f,g,i]) h t
theorem A6.c8{α:Type}{r:Rp α}{H:PH}{x:α}{l:List α}{a b d e f g i j:Value}{cs:QqK}(h:r.rel H x [a,b,d,e,f,g,i,j])(t:A6 r H l cs):A6 r H (x::l) (a::b::d::e::f::g::i::j::cs):=.cons (c:=[a,b,d,e,f,g,i,j]) h t
theorem CH[Dr]{α:Type}(r:Rp α){w0 w:World}{O:List BS}(H:PH)(e:TypeId)(hL:AZ w0 O w):
  AZ w0 (.row (.slice none 0 0) e r.sz ([]:List α).length []::O) w/\Le (fz w O) (fz w (.row (.slice none 0 0) e r.sz ([]:List α).length []::O))/\A6 r (gz H w0 w (.row (.slice none 0 0) e r.sz ([]:List α).length []::O)) [] []:=
 ⟨(S7 hL e r.sz).1,(S7 hL e r.sz).2,.nil⟩
def Gs(Q:Exit->Act->World->Prop):Prop:=∀c a (d:Option Tmp) (v:Value) w,Q (.panic c) (a.put d v) w->Q (.panic c) a w
section
variable {P:Program}{n:Sz}{Q:Exit->Act->World->Prop}
theorem ER{fn:Func}{R:Value->World->Prop}:Gs (Ma P fn R):=fun _ _ d _ _ h=>by cases d <;> exact h
theorem K5{y:Code}(h:Gs Q):Gs (OT P y Q):=fun c a d v w k=>h c a d v w k
theorem FP{σ:Type}{I:σ->Env}{R:σ->World->Prop}(h:Gs Q):Gs (TN n I R Q):=fun c a d v w k=>h c a d v w k
theorem LA{σ:Type}{I:σ->Env}{R:σ->World->Prop}{μ:σ->Nat}{x:σ}(h:Gs Q):Gs (QW n I R μ x Q):=fun c a d v w k=>h c a d v w k
theorem Ec{id:Nat}(h:Gs Q):Gs (Exit.inBlock id Q):=fun c a d v w k=>h c a d v w k
end
section
variable {P:Program}{n:Sz}{m fuel:Nat}{l:List Oper}{Q:Exit->Act->World->Prop}{L:Env}{w w0:World}{done:List Nat}{i d:Nat}{op:Op}{ty:TypeId}{pos:String}{af:Array Edge}
def Mf(l:List Oper)(m:Nat)(done:List Nat)(i:Nat):Bool:=
 Region.noSelect l.toArray&&Region.free .any l.toArray (Jp m done) i&&(Region.ready .any l.toArray (Jp m done)).contains i
end
section
variable {P:Program}{n:Sz}{m fuel:Nat}{lo:List Oper}{Q:Exit->Act->World->Prop}{L:Env}{w w0:World}{done:List Nat}{i d:Nat}{ty:TypeId}{pos:String}{af:Array Edge}{α:Type}{r:Rp α}{H:PH}{x y:Operand}{v:Value}{t e:TypeId}{O:List BS}
end
end Go.E
namespace Go.E
open Go Go.RowKit
theorem AZ.Y3[Dr]{w0 w w':World}{O:List BS}{g:Nat}(h:AZ w0 O w)(hg:w.grownBy w' (some g))(hdr:w.drawn<=w'.drawn)(hge:w0.heap.size<=g)(hno:owned O g=false):AZ w0 O w':=by
 have hs:∀r∈O,∀b,r.block=some b->w'.heap[b]? = w.heap[b]?:=fun r hr b hb=>by
  refine hg.block b ((h.res r hr).lt hb) (fun e=>?_);have e':b=g:=by simpa[eq_comm]using e
  have:owned O b=true:=Dm.2 ⟨r,hr,hb⟩;rw[e',hno]at this;cases this
 refine⟨⟨⟨hg.os.trans h.ext.os,hg.tape.trans h.ext.tape,hg.output.trans h.ext.output,QzK h.ext.size hg.size,fun k hk=>?_⟩,fun o=>QzK (h.ext.drawn o) hdr⟩,fun r hr=>(h.res r hr).same (hs r hr),h.own,h.Vy⟩
 have hne : ¬(some k=some g):=fun e=>by
  have e':k=g:=by simpa using e
  omega
 rw[hg.block k (Nat.lt_of_lt_of_le hk h.ext.size) hne];exact h.ext.block k hk
section
variable {P:Program}{L:Env}{w:World}{x y:Operand}{ty t t':TypeId}
theorem XN[Dr]{a b:Bool}(hx:ev L x=some (.bool a))(hy:ev L y=some (.bool b))[ht:ZZ (P.underlying t) (some .bool)]:B2 P L w (.binOp .eql t x y t') ty (.bool (a==b)):=by
 intro w' _ ρ hρ dst pos af g;have key:∀dd:Nat,(Op.equalIn (dd+1) t (.bool a) (.bool b)).run P w'=.ok (a==b) w':=fun dd=>by simp[Op.equalIn,run_underlying ht.e]
 have c:(Op.equal t (.bool a) (.bool b)).run P w'=.ok (a==b) w':=key 9999;simp[execOp,hρ x _ hx,hρ y _ hy,eqGuard,binOp,c]
end
theorem cells_one{v:Value}(h:v.oneCell'=true):v.cells.toList=[v]:=by cases v <;> simp_all [Value.cells,Value.oneCell']
section
variable {P:Program}{n:Sz}{ops:Array Oper}{Q:Exit->Act->World->Prop}{L:Env}{w w0:World}{O:List BS}{rest:List Oper}{d:Nat}{ty:TypeId}{pos:String}{af:Array Edge}{x:Operand}{v:Value}{t e:TypeId}{H:PH}
theorem Pk[Dr](hx:ev L x=some v)(a:v.oneCell'=true)[hn:ZZ (QqE d n.n) true](hL:AZ w0 O w)
  (h:∀w' b,AZ w0 (.box b [v] t::O) w'->Le (fz w O) (fz w' (.box b [v] t::O))->Ext w w'->S P n ops Q rest ((d,.pointer (some ⟨b,0,none⟩))::L) w'):S P n ops Q (⟨some d,.box t x,ty,pos,af,none⟩::rest) L w:=
 C1 hx (cells_one a) (hn:=⟨hn.e⟩) hL h
theorem XO[Dr](i:Nat){l:QqZ}{xs:QqK}(hx:ev L x=some v)(ht:P.underlying t=some (.slice e))(he:P.underlying e=some (.int .u8))[hn:ZZ (QqE d n.n) true](_hH:Le H (hp w0))(hL:AZ w0 O w)(hi:DW O i=some (.row v e 1 l.length xs))(hel:A6 .byte (gz H w0 w O) l xs)(hne:l≠[])
  (h:∀w',AZ w0 (Ln O i) w'->Le (fz w O) (fz w' (Ln O i))->AD .byte (gz H w0 w' (Ln O i)) v l->S P n ops Q rest ((d,v)::L) w') :
  S P n ops Q (⟨some d,.convert t t x,ty,pos,af,none⟩::rest) L w:=by
 have hown:w.ownsRow 0 e 1 v l.length xs:=hL.at hi
 rcases hown.2 with ⟨_,f⟩ | ⟨g,cap,cur,rfl,hb,hg,hnc,hcm,hcs,htake⟩
 ·exact absurd (Qzf f) hne
 have hgl:=lt_of_heap hg
 have hfr:w.freeze ⟨g,cur.size,none⟩ 1={w with heap:=w.heap.setIfInBounds g (.cells cur e (cur.size,cur.size+1))}:=by
  unfold World.freeze;rw[if_neg Z7]
  congr 1
  apply Array.ext_getElem?;intro k;rw[Array.getElem?_modify,Qxb]
  by_cases hk:g=k
  ·subst hk;rw[if_pos Z,if_pos Z,if_pos hgl,hg];rfl
  ·rw[if_neg hk,if_neg hk]
 have hrun:(convert t t (.slice (some ⟨g,0,none⟩) l.length cap)).run P w=.ok (.slice (some ⟨g,0,none⟩) l.length cap) (w.freeze ⟨g,cur.size,none⟩ 1):=by
  simp[convert,run_underlying ht,run_underlying he,markStringish,shape,freeze,Sem.run,World.shape?,hg]
 rw[hfr]at hrun
 have hgr:w.grownBy {w with heap:=w.heap.setIfInBounds g (.cells cur e (cur.size,cur.size+1))} (some g):=
  ⟨Z,Z,Z,by simp,fun k _ hne=>by
   show(w.heap.setIfInBounds g _)[k]? = _
   rw[Qxb,if_neg (fun e=>hne (by rw[e]))]⟩
 have hmem:BS.row (.slice (some ⟨g,0,none⟩) l.length cap) e 1 l.length xs∈O:=(EH hi).mem_iff.2 (.head _);have hge:w0.heap.size<=g:=hL.own _ hmem g Z
 have hno:owned (Ln O i) g=false:=by
  cases hc:owned (Ln O i) g with
  | false=>rfl
  | true=>
   obtain⟨r,hr,hb'⟩:=Dm.1 hc;have hd:=Qxv.1 (hL.perm (EH hi).symm).Vy;exact absurd hb' (hd.1 r hr g Z)
 have hL':=(hL.AM hi).Y3 hgr (Qq0 _) hge hno
 have hle:Le (fz w O) (fz {w with heap:=w.heap.setIfInBounds g (.cells cur e (cur.size,cur.size+1))} (Ln O i)):=fun b o hbo=>by
  have hbg:b≠g:=fun e=>by
   subst e;unfold fz at hbo;rw[if_pos (Dm.2 ⟨_,hmem,Z⟩)]at hbo
   cases hbo
  have a:=Ae (w:=w) hi b o hbo;unfold fz at a ⊢
  split at a
  ·cases a
  ·rename_i ho;rw[if_neg ho]
   show(w.heap.setIfInBounds g _)[b]? = some o
   rw[Qxb,if_neg (fun e=>hbg e.symm)];exact a
 refine EO hn.e (fun ρ hρ=>by simp[execOp,hρ x _ hx,hrun]) (h _ hL' hle ?_);refine⟨some ⟨g,0,none⟩,cap,Z,hnc,hcm,(fun h=>by cases h),fun A hA _=>?_⟩
 cases hA
 refine⟨Z,fun j y hy=>?_⟩;obtain⟨c,hc,hcell⟩:=hel.at j y hy;refine⟨c,hc,fun k u hu=>?_⟩;have a:=hcell k u hu;rw[<- htake,Qxe]at a
 split at a
 ·have hgz:gz H w0 {w with heap:=w.heap.setIfInBounds g (.cells cur e (cur.size,cur.size+1))} (Ln O i) g=some (.cells cur e (cur.size,cur.size+1)):=by
   apply NB;unfold nf fz;rw[if_pos hge,hno]
   show(w.heap.setIfInBounds g _)[g]? = _
   rw[Qxb,if_pos Z,if_pos hgl]
  simp only[Addr.add_lit,Qq8,GZ,hgz]
  simpa using a
 ·cases a
end
theorem EG.part{H:PH}{p:Addr}{c:QqK}(h:EG H p c)(m:Nat):EG H p (c.take m):=
 ⟨h.1,fun j u hu=>h.2 j u (by
  rw[Qxe]at hu
  split at hu
  ·exact hu
  ·cases hu)⟩
section
variable {P:Program}{L:Env}{w w0:World}{O:List BS}{x:Operand}{ty t:TypeId}{H:PH}
theorem Rv[Dr](i m:Nat){b off:Nat}{cs c:QqK}{t':TypeId}{dd:TypeDesc}{zz:Value}{bt:Nat}(hx:ev L x=some (.pointer (some ⟨b,off,none⟩)))[ht:ZZ (P.underlying t) (some dd)][hd:ZZ (OY dd) true](hz:Zr P t zz c.length bt)(hL:AZ w0 O w)(hi:DW O i=some (.box b cs t'))(hc:(cs.drop off).take m=c):B2 P L w (.load t x) ty (.agg c.toArray):=by
 have a:=((B0 hL hi).add off).part m;rw[hc,Addr.add_lit,Qq8]at a;exact Cq (hx:=⟨hx⟩) (ht:=⟨ht.e⟩) (hd:=⟨hd.e⟩) (hz:=⟨hz⟩) a (Le.refl _)
theorem RW{α:Type}{r:Rp α}{v:Value}{l:List α}(h:AD r H v l):(v=.slice none 0 0/\l=[])\/∃A n c,v=.slice (some A) n c:=by
 obtain⟨a,cap,b,h2,_,d,_⟩:=h.ex
 cases a with
 | none=>
  have hc:=d Z;have hl:l.length=0:=by omega
  left
  rw[b,hl,hc];exact⟨Z,Qzf hl⟩
 | some A=>exact .inr ⟨A,_,_,b⟩
theorem RX[Dr]{y:Operand}{e t':TypeId}[hx:ZZ (ev L x) (some (.slice none 0 0))][hy:ZZ (ev L y) (some (.slice none 0 0))][ht:ZZ (P.underlying t) (some (.slice e))]:B2 P L w (.binOp .eql t x y t') ty (.bool true):=by
 intro w' _ ρ hρ dst pos af g;have key:∀dd:Nat,(Op.equalIn (dd+1) t (.slice none 0 0) (.slice none 0 0)).run P w'=.ok true w':=fun dd=>by simp[Op.equalIn,run_underlying ht.e]
 have a:(Op.equal t (.slice none 0 0) (.slice none 0 0)).run P w'=.ok true w':=key 9999;simp[execOp,hρ x _ hx.e,hρ y _ hy.e,eqGuard,binOp,a]
theorem RY[Dr]{v:Value}{y:Operand}{e t':TypeId}[hx:ZZ (ev L x) (some v)][hy:ZZ (ev L y) (some (.slice none 0 0))][ht:ZZ (P.underlying t) (some (.slice e))](hv:∃A n c,v=.slice (some A) n c):B2 P L w (.binOp .eql t x y t') ty (.bool false):=by
 obtain⟨A,n,c,rfl⟩:=hv;intro w' _ ρ hρ dst pos af g;have key:∀dd:Nat,(Op.equalIn (dd+1) t (.slice (some A) n c) (.slice none 0 0)).run P w'=.ok false w':=fun dd=>by simp[Op.equalIn,run_underlying ht.e]
 have a:(Op.equal t (.slice (some A) n c) (.slice none 0 0)).run P w'=.ok false w':=key 9999;simp[execOp,hρ x _ hx.e,hρ y _ hy.e,eqGuard,binOp,a]
theorem Sa[Dr]{α:Type}(r:Rp α){e:TypeId}(hL:AZ w0 O w)(hH:Le H (hp w0)):CE e r H w0 w (.slice none 0 0) ([]:List α):=
 (CH r H e hL).1.Hv (i:=0) hH Z (CH r H e hL).2.2
end
end Go.E
namespace Go.E
open Go Go.RowKit
section
variable {P:Program}{n:Sz}{ops:Array Oper}{Q:Exit->Act->World->Prop}{L:Env}{w w0:World}{O:List BS}{rest:List Oper}{d:Nat}{ty:TypeId}{pos:String}{af:Array Edge}{x y:Operand}{t tn e:TypeId}{H:PH}
theorem W2[Dr]{a:Option Addr}{m c:Nat}(hx:ev L x=some (.slice a m c))[ht:ZZ (P.underlying t) (some (.slice e))]:B2 P L w (.call ⟨.builtin .cap,#[x],#[t]⟩) ty (.int .i64 (c:Int)):=by
 intro w' _ ρ hρ dst pos af g;simp[execOp,resolve,invoke,builtin,hρ x _ hx,Builtin.cap_,run_underlying ht.e]
 rfl
theorem V8[Dr]{k kn:IntKind}{zz:Value}{bt m:Nat}[hx:ZZ (ev L x) (some (.slice none 0 0))](hy:ev L y=some (.int k (m:Int)))(ht:P.underlying t=some (.slice e))[htn:ZZ (P.underlying tn) (some (.int kn))][hz:Qqq P e zz 1 bt][hzc:ZZ zz.cells (#[zz])][hn:ZZ (QqE d n.n) true](c:0<m)(a:(m:Int)<=9223372036854775807)(b:m * bt<=281474976710656)
  (h:∀g cap cur w',Ext w w'->w.heap.size<=g->w'.heap[g]? = some (.cells cur e (0,0))->cap<=maxLen->cur.size=cap->S P n ops Q rest ((d,.slice (some ⟨g,0,none⟩) m cap)::L) w') :
  S P n ops Q (⟨some d,.call ⟨.builtin .append,#[x,y],#[t,tn]⟩,ty,pos,af,none⟩::rest) L w:=by
 obtain⟨inf,f,i,j,l⟩:=hz.e.parts;have hr:=Lib.run_append_nil_zeros (P:=P) w t tn ty e inf zz k kn ht htn.e f i m c (by rw[j];decide) a (by rw[l];exact b);have hge:=grownCap_ge w m 0 e;have hsz:∀k,(Builtin.zeroCells zz.cells k).size=k:=fun k=>by rw[hzc.e];simp[Builtin.zeroCells]
 refine EO (v:=.slice (some ⟨w.heap.size,0,none⟩) m (grownCap w m 0 e)) (w':=w.drew.alloc (.cells (Builtin.zeroCells zz.cells m++Builtin.zeroCells zz.cells (grownCap w m 0 e - m)) e)) hn.e (fun ρ hρ=>by simp[execOp,resolve,invoke,builtin,hρ x _ hx.e,hρ y _ hy,hr]) (h _ _ (Builtin.zeroCells zz.cells m++Builtin.zeroCells zz.cells (grownCap w m 0 e - m)) _ ?_ (Qq0 _) ?_ (grownCap_le_maxLen w m 0 e (by unfold maxLen;omega)) ?_)
 ·exact(show Ext w w.drew from IH).trans (D5 _ _)
 ·show(w.heap.push _)[w.heap.size]? = _
  simp
 ·rw[Array.size_append,hsz,hsz];omega
theorem WT[Dr]{g m cap:Nat}{k:IntKind}{zz:Value}{bt:Nat}(hx:ev L x=some (.slice (some ⟨g,0,none⟩) m cap))[hy:ZZ (ev L y) (some (.int k 0))][ht:ZZ (P.underlying t) (some (.slice e))][hz:Qqq P e zz 1 bt]:B2 P L w (.slice t x none (some y) none) ty (.slice (some ⟨g,0,none⟩) 0 cap):=by
 obtain⟨inf,a,_,_,_⟩:=hz.e.parts;intro w' _ ρ hρ dst pos af gd;simp[execOp,hρ x _ hx,hρ y _ hy.e,Instr.sliceAt,run_underlying ht.e,Instr.slice,Instr.sliceBounds,Instr.sliceBound,asIntOf,sizeOf,typeInfo,a];exact fun _=>by rw[Addr.add_lit]
theorem Sb[Dr]{k:IntKind}{zz:Value}{bt:Nat}[hx:ZZ (ev L x) (some (.slice none 0 0))][hy:ZZ (ev L y) (some (.int k 0))][ht:ZZ (P.underlying t) (some (.slice e))][hz:Qqq P e zz 1 bt]:B2 P L w (.slice t x none (some y) none) ty (.slice none 0 0):=by
 obtain⟨inf,a,_,_,_⟩:=hz.e.parts;intro w' _ ρ hρ dst pos af gd;simp[execOp,hρ x _ hx.e,hρ y _ hy.e,Instr.sliceAt,run_underlying ht.e,Instr.slice,Instr.sliceBounds,Instr.sliceBound,asIntOf,sizeOf,typeInfo,a]
theorem Lf[Dr]{l:QqZ}{k:IntKind}{i:Int}[hx:ZZ (ev L x) (some (.string ⟨l.toArray⟩))][hy:ZZ (ev L y) (some (.int k i))][ht:ZZ (P.underlying t) (some .string)](hi:0<=i/\i<(l.length:Int)):B2 P L w (.index t x y) ty (.int .u8 ((l.getD i.toNat Qqf).toNat:Int)):=by
 intro w' _ ρ hρ dst pos af g;have a:i.toNat<l.length:=by omega
 have h2:(⟨l.toArray⟩:ByteArray)[i.toNat]? = some (l.getD i.toNat Qqf):=by
  have hb:i.toNat<(⟨l.toArray⟩:ByteArray).size:=a;rw[show l.getD i.toNat Qqf=(⟨l.toArray⟩:ByteArray)[i.toNat] by rw[QzX,List.getElem?_eq_getElem a];rfl];simp[hb]
 simp[execOp,hρ x _ hx.e,hρ y _ hy.e,Instr.index,asIntOf,run_underlying ht.e,hi.1,h2]
end
end Go.E
namespace Go.E
open Go Go.RowKit
section
variable {P:Program}{n:Sz}{m fuel:Nat}{l:List Oper}{Q:Exit->Act->World->Prop}{L:Env}{w w0:World}{done:List Nat}{i d:Nat}{op:Op}{ty:TypeId}{pos:String}{af:Array Edge}
end
end Go.E
namespace Go.E
open Go Go.RowKit
section
variable {P:Program}{L:Env}{w:World}{x y:Operand}{ty:TypeId}{H H':PH}{u v:Value}
end
end Go.E
namespace Go.E
open Go Go.RowKit
section
variable {P:Program}{L:Env}{w:World}{x y:Operand}{ty t t' e:TypeId}
theorem Uc[Dr]{a c:Int}{k':IntKind}[hx:ZZ (ev L x) (some (.int .i64 a))][hy:ZZ (ev L y) (some (.int k' c))](hc:(0<=c/\c<=63)/\Go.L.BX (a * 2 ^ c.toNat)):B2 P L w (.binOp .shl t x y t') ty (.int .i64 (a * 2 ^ c.toNat)):=by
 obtain⟨⟨b,d⟩,h2⟩:=hc;obtain⟨m,rfl⟩:=Qz1 b;rw[Int.toNat_natCast]at h2 ⊢;exact Pg (hx:=⟨hx.e⟩) (hy:=⟨hy.e⟩) (by simp[IntKind.bits];omega) (wrap64 h2.1 h2.2)
theorem AW[Dr]{p:Addr}(hx:ev L x=some (.pointer (some p))):B2 P L w (.nilCheck x) ty (.pointer (some p)):=by
 intro w' _ ρ hρ dst pos af g;simp[execOp,hρ x _ hx]
end
section
variable {P:Program}{n:Sz}{ops:Array Oper}{Q:Exit->Act->World->Prop}{L:Env}{w w0:World}{O:List BS}{rest:List Oper}{d:Nat}{ty:TypeId}{pos:String}{af:Array Edge}{x:Operand}{t t' e:TypeId}{H:PH}
theorem Tw[Dr](w:World)(e:TypeId){l:QqZ}(hl:l.length<=9223372036854775807):Ext w (Lib.bytesWorld w e ⟨l.toArray⟩)/\AD .byte (nw w (Lib.bytesWorld w e ⟨l.toArray⟩)) (.slice (some ⟨w.heap.size,0,none⟩) l.length (grownCap w l.length 0 e)) l:=by
 have hs:(ByteArray.mk l.toArray).size=l.length:=by simp[Qz2]
 refine⟨⟨⟨Z,Z,Z,?_,fun k hk=>?_⟩,fun _=>(by first | exact Qq0 _ | exact Nat.le_succ _)⟩,⟨some ⟨w.heap.size,0,none⟩,_,Z,grownCap_ge _ _ _ _,grownCap_le_maxLen _ _ _ _ (by unfold maxLen;omega),(fun h=>by cases h),fun A hA _=>?_⟩⟩
 ·rw[Lib.bytesWorld_size];omega
 ·exact Lib.bytesWorld_at_old w e _ k hk
 ·cases hA
  refine⟨Z,fun i b hb=>⟨_,Z,fun j u hu=>?_⟩⟩;have hi:=(Qz0.1 hb).1
  cases j with
  | zero=>
   simp only[List.getElem?_cons_zero,Option.some.injEq]at hu;subst hu
   show GZ _ (Addr.add ⟨w.heap.size,0,none⟩ (i * 1+0))=_
   have:=Lib.bytesWorld_cell w e ⟨l.toArray⟩ i (by rw[hs];exact hi);simp only[Addr.add_lit,Qq8,Qzw,Nat.add_zero,GZ,nw,Qq0,if_true];unfold World.cell? at this;rw[show(l.toArray.toList.getD i 0)=b by simp[QzX,hb]]at this;exact this
  | succ j=>cases hu
theorem XP[Dr]{l:QqZ}{u:TypeDesc}[hx:ZZ (ev L x) (some (.string ⟨l.toArray⟩))][ht:ZZ (P.underlying t) (some u)][ht':ZZ (P.underlying t') (some (.slice e))][he:ZZ (P.underlying e) (some (.int .u8))][hn:ZZ (QqE d n.n) true](hL:AZ w0 O w)(hl:l.length<=9223372036854775807)
  (h:∀v w',Ext w w'->AZ w0 O w'->Le (fz w O) (fz w' O)->AD .byte (gz H w0 w' O) v l->S P n ops Q rest ((d,v)::L) w'):S P n ops Q (⟨some d,.convert t t' x,ty,pos,af,none⟩::rest) L w:=by
 obtain⟨a,h2⟩:=Tw w e hl;have hs:(ByteArray.mk l.toArray).size=l.length:=by simp[Qz2]
 refine EO (v:=.slice (some ⟨w.heap.size,0,none⟩) l.length (grownCap w l.length 0 e)) (w':=Lib.bytesWorld w e ⟨l.toArray⟩) hn.e (fun ρ hρ=>?_) (h _ _ a (hL.call a) (Ba hL a) (h2.mono (Q5 hL)));have:=Lib.run_convert_string_bytes (P:=P) w t t' e ⟨l.toArray⟩ ht.e ht'.e he.e;rw[hs]at this;simp[execOp,hρ x _ hx.e,this]
end
def SA(O:List BS)(i:Nat):List BS:=match DW O i with | some q=>q::Ln O i | none=>O
def Q6:List BS->List Nat->List BS
 | O,[]=>O
 | O,i::l=>Q6 (SA O i) l
theorem Sc(O:List BS)(i:Nat):O.Perm (SA O i):=by
 unfold SA
 split
 ·rename_i q hq;exact EH hq
 ·exact List.Perm.refl _
theorem Mg:∀(l:List Nat) (O:List BS),O.Perm (Q6 O l)
 | [],_O=>List.Perm.refl _
 | i::l,O=>(Sc O i).trans (Mg l (SA O i))
theorem AZ.Bo[Dr]{w0 w:World}{O O':List BS}(l:List Nat)(h:AZ w0 O w)(e:Q6 O l=O'):AZ w0 O' w:=e ▸ h.perm (Mg l O).symm
theorem AF[Dr]{w0 w:World}{O O':List BS}(l:List Nat)(_:AZ w0 O w)(_:AZ w0 O' w)(e:Q6 O l=O'):Le (fz w O) (fz w O'):=by
 rw[<- e,J9 (Mg l O).symm];exact Le.refl _
abbrev DK[Dr](w0:World)(O:List BS)(w:World)(P:List BS->Prop):Prop:=AZ w0 O w/\P O
end Go.E
end
noncomputable section
namespace Go.L
def Yw{α β:Type}(x:Option α)(ex:Option β)(k:α->Option β):Option β:=match x with
 | none=>ex
 | some y=>k y
end Go.L
namespace Go.E
open Go Go.RowKit
abbrev YE(v:Value):List PanicEntry:=[{v:=v,recovered:=false}]
abbrev WU(v:Value):List PanicEntry:=[{v:=v,recovered:=true}]
def YL(pv:Value)(R:Option Value->World->Prop):Ending->World->Prop
 | .returned v,w=>R (some v) w
 | .panicked c,w=>c=YE pv/\R none w
 | .outgrown,_=>False
def Y4(P:Program)(f:FuncId)(args:QqK)(w:World)(pv:Value)(R:Option Value->World->Prop):Prop:=
 Lm P f/\Calls P f args.toArray w (YL pv R)
theorem Y4.mono{P:Program}{f:FuncId}{args:QqK}{w:World}{pv:Value}{R R':Option Value->World->Prop}(h:Y4 P f args w pv R)(hr:∀v w',R v w'->R' v w'):Y4 P f args w pv R':=
 ⟨h.1,h.2.mono fun e w' k=>by
  cases e with
  | returned v=>exact hr _ _ k
  | panicked c=>exact⟨k.1,hr _ _ k.2⟩
  | outgrown=>exact k⟩
def W3(P:Program)(fn:Func)(R:Value->World->Prop):Exit->Act->World->Prop:=bodyPostD P fn (Rq R)
theorem Q7{args:QqK}{L:Env}{k:Nat}(hk:Nat.ble args.length k=true)(hL:L2 0 args=L):Fr ⟨k,[]⟩ {tmps:=args.toArray++QzD (k - args.toArray.size) undef,defers:=[]} L:=by
 have hk':args.length<=k:=by simpa[Nat.ble_eq]using hk
 refine⟨?_,Z,?_⟩
 ·simp;omega
 ·intro t v ht;subst hL;have⟨_,h2⟩:=NW args 0 t v ht;simp only[Nat.sub_zero]at h2;have hlt:t<args.length:=(Qz0.1 h2).1;simp only[Qxy];rw[Array.getElem?_append_left (by simpa using hlt)]
  simpa using h2
theorem Qf{P:Program}{f:FuncId}{fn:Func}{c:Code}{args:QqK}{w:World}{R:Value->World->Prop}{n:Nat}(L:Env)
  (hf : P.funcs[f]? = some fn) [hname:ZZ (fn.name == "runtime.NumGoroutine") false] (hb : fn.body = some c) (hn : fn.ntmps = n) (hk : Nat.ble args.length n = true) (hL : L2 0 args = L)
  (h:W P ⟨n,[]⟩ c (W3 P fn R) L w):Ok P f args w R:=
 ⟨⟨fn,c,hf,hname.e,hb⟩,calls_of_wp_defers hf hb (h _ (by rw[hn];exact Q7 hk hL))⟩
section
variable {P:Program}{n:Sz}{ops:Array Oper}{Q:Exit->Act->World->Prop}{L:Env}{w:World}{rest:List Oper}{d:Nat}{dst:Option Tmp}{ty:TypeId}{pos:String}{af:Array Edge}{pv:Value}
theorem Ud{t:TypeId}{ms:Array (String×TypeId)}{w:World}(ht:P.underlying t=some (.interface ms))(x:Value)(hx:x=.nilIface\/∃u v,x=.iface u v):(Op.equal t x .nilIface).run P w=.ok (match x with | .nilIface=>true | _=>false) w:=by
 unfold Op.equal;obtain⟨d,hd⟩:∃d,Op.maxDepth=d+1:=⟨9999,Z⟩;rw[hd]
 rcases hx with rfl | ⟨u,v,rfl⟩ <;> simp[Op.equalIn,run_underlying ht]
theorem XQ[Dr]{t t':TypeId}{x:Operand}{u:TypeId}{v:Value}{w:World}{ms:Array (String×TypeId)}[hx:ZZ (ev L x) (some (.iface u v))][ht:ZZ (P.underlying t) (some (.interface ms))]:B2 P L w (.binOp .neq t x (.const .nilIface) t') ty (.bool true):=fun w' _ ρ hρ dst pos af g=>by
 have hy:ρ (.const .nilIface)=.nilIface:=hρ _ _ Z;simp[execOp,hρ x _ hx.e,hy,eqGuard,binOp,Ud ht.e (.iface u v) (.inr ⟨u,v,Z⟩)]
theorem XR[Dr]{t t':TypeId}{x:Operand}{w:World}{ms:Array (String×TypeId)}[hx:ZZ (ev L x) (some .nilIface)][ht:ZZ (P.underlying t) (some (.interface ms))]:B2 P L w (.binOp .neq t x (.const .nilIface) t') ty (.bool false):=fun w' _ ρ hρ dst pos af g=>by
 have hy:ρ (.const .nilIface)=.nilIface:=hρ _ _ Z;simp[execOp,hρ x _ hx.e,hy,eqGuard,binOp,Ud ht.e .nilIface (.inl Z)]
abbrev XA(g:FuncId)(cap:QqK):Deferred:={target:=.fn (.func g) cap.toArray,args:=#[]}
theorem SC{k:Nat}{ds:List Deferred}{g:FuncId}{cap:QqK}{fo:Operand}(hf:ev L fo=some (.func (.func g) #[] cap.toArray))(h:S P ⟨k,XA g cap::ds⟩ ops Q rest L w):
  S P ⟨k,ds⟩ ops Q (⟨none,.defer ⟨.value fo,#[],#[]⟩,ty,pos,af,none⟩::rest) L w:=
 Tm Z fun a fr=>by
  unfold Oper.wp
  have e:(execOp a.eval ⟨none,.defer ⟨.value fo,#[],#[]⟩,ty,pos,af,none⟩).run P w=.ok (.defer (XA g cap)) w:=by
   simp[execOp,resolve,fr.PN fo _ hf,Deferred.ofValue]
  rw[e];refine h _ ⟨fr.size,?_,fr.get⟩
  show XA g cap::a.defers=_
  rw[fr.defers]
def XS(P:Program)(g:FuncId)(cap:QqK)(u u':FrameMode)(w:World)(R:World->Prop):Prop:=
 Lm P g/\CallsD P g cap.toArray u w (fun e a w'=>(∃v,e=.returned v)/\a=u'/\R w')
theorem Sd{fn:Func}{tmps:Array Value}{R:Ending->World->Prop}{g:FuncId}{cap:QqK}{u u':FrameMode}{Rd:World->Prop}(hu:u≠.run)(hs:settle u'=.returning)(h:XS P g cap u u' w Rd)
  (hr:∀w',Rd w'->∃v,(results fn tmps).run P w'=.ok v w'/\R (.returned v) w'):Leaves P fn tmps R [XA g cap] u w:=by
 obtain ⟨fn', c, b, h2, h3⟩ := h.1;have h2' : ¬fn'.name = "runtime.NumGoroutine" := by simpa using h2
 refine leaves_cons (f:=g) (args:=cap.toArray) hu (by simp[invoke,callFunc,b,h2',h3]) (h.2.mono fun e d w' ⟨⟨v,he⟩,a,hR⟩=>?_);subst he;subst a;simp only[hs,Leaves];exact hr w' hR
theorem SD{k:Nat}{fn:Func}{R:Value->World->Prop}{g:FuncId}{cap:QqK}{Rd:World->Prop}(h:XS P g cap .returning .returning w Rd)
  (hr:∀w',Rd w'->∀a,Fr ⟨k,[XA g cap]⟩ a L->∃v,(results fn a.tmps).run P w'=.ok v w'/\R v w'):At ⟨k,[XA g cap]⟩ (W3 P fn R) .ret L w:=fun a fr=>by
 show Leaves P fn a.tmps (Rq R) a.defers .returning w
 rw[fr.defers];exact Sd Z8 Z h fun w' hR=>by obtain⟨v,b,h2⟩:=hr w' hR a fr;exact⟨v,b,v,Z,h2⟩
theorem Rw{fn:Func}{q q':ResultVar}{v v':Value}{a:Act}(hl:fn.results = #[q,q'])(h:Ts P L w q v)(h':Ts P L w q' v')(fr:Fr n a L):(results fn a.tmps).run P w=.ok (.tuple #[v,v']) w:=by
 rw[K3,hl];simp[h.run fr,h'.run fr]
inductive Ue (pv:Value):FrameMode->FrameMode->Value->Prop
 | no:Ue pv .returning .returning .nilIface
 | yes:Ue pv (.panicking (YE pv)) (.panicking (WU pv)) pv
end
end Go.E
namespace Go.E
open Go Go.RowKit
def JK(Q:Exit->Act->World->Prop):Prop:=∀a w,¬Q .outgrown a w
section
variable {P:Program}{n:Sz}{Q:Exit->Act->World->Prop}{L:Env}{w:World}
theorem MC{fn:Func}{R:Value->World->Prop}:JK (Ma P fn R):=fun _ _ ⟨_,h,_⟩=>by cases h
theorem Oc{y:Code}(h:JK Q):JK (OT P y Q):=fun a w k=>h a w k
theorem Od{σ:Type}{I:σ->Env}{R:σ->World->Prop}(h:JK Q):JK (TN n I R Q):=fun a w k=>h a w k
theorem Uf{id:Nat}(h:JK Q):JK (Exit.inBlock id Q):=fun a w k=>h a w k
theorem SE{c:Code}(h:W P n c (Exit.noGoto Q) L w):W P n (.scope c) Q L w:=fun a fr=>wp_scope_straight (h a fr)
theorem IT(h:At n Q .ret L w):At n (Exit.noGoto Q) .ret L w:=h
end
def TK(F:Fence):Prop:=F=Fence.wide\/∃l,F=Fence.wide.inRound l
theorem TK.fn{F:Fence}(h:TK F)(f:FuncId):F.fn f:=by rcases h with rfl | ⟨l,rfl⟩ <;> exact trivial
theorem TK.dep{F:Fence}(h:TK F):F.depth=none:=by rcases h with rfl | ⟨l,rfl⟩ <;> rfl
theorem TK.calls{F:Fence}(h:TK F){n:Nat}{P:Program}{f:FuncId}{args:Array Value}{w:World}{R:Ending->World->Prop}(k:Calls P f args w R):CallsIn F n P f args w R:=by
 rcases h with rfl | ⟨l,rfl⟩
 ·exact callsIn_wide.2 k
 ·exact(callsIn_wide.2 k).inRound l
theorem TK.rows{F:Fence}(h:TK F){n:Nat}{P:Program}{row:String}{args:Array Value}{w:World}{R:Value->World->Prop}(k:Rows P row args w R):RowsIn F n P row args w R:=by
 intro c cs _;obtain⟨v,w',hR,hs⟩:=k c cs;refine⟨v,w',hR,?_⟩
 rcases h with rfl | ⟨l,rfl⟩
 ·exact stepsIn_wide.2 hs
 ·rw[fenced_inRound];exact stepsIn_wide.2 hs
def Ig:Op->Bool
 | .defer _=>true
 | _=>false
theorem Ug{o:Op}(h:Ig o=false):∀c,o≠.defer c:=fun c e=>by subst e;cases h
section
variable {P:Program}{n:Sz}{ops:Array Oper}{Q:Exit->Act->World->Prop}{L:Env}{w:World}{rest:List Oper}
theorem Nh{F:Fence}(hF:TK F){o:Oper}(hd:Ig o.op=false){next:Act->World->Prop}{a:Act}(h:o.wp P a w next Q):o.wpIn F 0 P a w next Q:=by
 refine⟨fun f _=>hF.fn f,?_⟩;rw[Oper.semAt_eq _ _ _ (Ug hd)];unfold Oper.wp at h;generalize (execOp a.eval o).run P w=r at h ⊢;have b:F.depth.isSome=true->1<=0:=fun e=>by rw[hF.dep]at e;cases e
 cases r with
 | ok nx w'=>
  cases nx <;> simp only[Oper.upon]at h <;> simp only[Oper.uponIn]
  case value v=>exact h
  case skip=>exact h
  case defer d=>exact h
  case enter f args=>exact⟨b,(hF.calls h).mono fun e w' k=>by cases e <;> exact k⟩
  case row row args=>exact⟨b,hF.rows h⟩
 | halt x w'=>cases x <;> simp only[Oper.upon]at h <;> simp only[Oper.uponIn];exact h
theorem I2{F:Fence}(hF:TK F)(hq:JK Q):∀(l:List Oper) (a:Act) (w:World),l.all (fun o=>!Ig o.op)=true->wpList P ops Q l a w->wpListIn F 0 P ops Q l a w
 | [],_,_,_,h=>h
 | o::l,a,w,hd,h=>by
  simp only[List.all_cons,Qq4,Bool.not_eq_true']at hd;simp only[wpList]at h;simp only[wpListIn]
  split
  ·rename_i hw;rw[if_pos hw]at h
   rcases h with h | ⟨_,a',w',h⟩
   ·have b:=Nh hF hd.1 h;exact Oper.wpIn_mono (fun a w k=>I2 hF hq l a w (by simpa using hd.2) k) b
   ·exact absurd h (hq a' w')
  ·rename_i hw;rw[if_neg hw]at h;exact⟨fun f _=>hF.fn f,I2 hF hq l _ _ (by simpa using hd.2) h⟩
def SY(P:Program)(n:Sz)(ops:Array Oper)(Q:Exit->Act->World->Prop)(l:List Oper)(L:Env)(w:World):Prop:=∀a,Fr n a L->wpListIn Fence.wide 0 P ops Q l a w
def yQ(P:Program)(ops:Array Oper)(Q:Exit->Act->World->Prop)(rest:List Oper):Exit->Act->World->Prop:=Exit.then (fun a w=>wpListIn Fence.wide 0 P ops Q rest a w) Q
theorem Qg{o:Oper}(hq:JK Q)[hd:ZZ (Ig o.op) false](h:S P n ops (yQ P ops Q rest) [o] L w):SY P n ops Q (o::rest) L w:=fun a fr=>by
 have b:=h a fr;simp only[wpList]at b;simp only[wpListIn]
 split
 ·rename_i hw;rw[if_pos hw]at b
  rcases b with b | ⟨_,a',w',b⟩
  ·have h2:=Nh (.inl Z) hd.e b
   have hm:∀{r:Result Next},o.uponIn Fence.wide 0 P a (fun a w=>yQ P ops Q rest .normal a w) (yQ P ops Q rest) r->o.uponIn Fence.wide 0 P a (wpListIn Fence.wide 0 P ops Q rest) Q r:=by
    intro r hr
    cases r with
    | ok nx w'=>cases nx <;> exact hr
    | halt x w'=>cases x <;> exact hr
   exact⟨h2.1,hm h2.2⟩
  ·exact absurd b (hq a' w')
 ·rename_i hw;rw[if_neg hw]at b;exact⟨fun _ _=>trivial,b⟩
theorem MD(h:SY P n ops Q rest L w):S P n ops (yQ P ops Q rest) [] L w:=fun a fr=>h a fr
theorem Rx{d l:Nat}{fo:Operand}{args:List Operand}{vs:QqK}{at_:Array TypeId}{ty:TypeId}{pos:String}{af:Array Edge}{R:World->Prop}[hf:ZZ (ev L fo) (some (.func (.yield l) #[] #[]))][ha:ZZ (QV L args) (some vs)][hn:ZZ (QqE d n.n) true]
  (hy:YieldAt Fence.wide 0 P l vs.toArray w (fun e w'=>e=.returned (.bool true)/\R w')) (h:∀w',R w'->SY P n ops Q rest ((d,.bool true)::L) w'):SY P n ops Q (⟨some d,.call ⟨.value fo,args.toArray,at_⟩,ty,pos,af,none⟩::rest) L w:=fun a fr=>by
 obtain⟨fn,tmps,assign,body,hrun,hround⟩:=hy;simp only[wpListIn];rw[if_pos (by simp[Region.wanted])];refine⟨fun _ _=>trivial,?_⟩;have b:=fr.PN.map _ _ ha.e
 have e:(Oper.semAt Fence.wide.round a.eval ⟨some d,.call ⟨.value fo,args.toArray,at_⟩,ty,pos,af,none⟩).run P w=.ok (.round l fn tmps assign body) w:=by
  rw[Oper.semAt_eq _ _ _ (fun c h=>by cases h)];simp[execOp,resolve,fr.PN fo _ hf.e,Deferred.ofValue,invoke,b,hrun]
 rw[e];refine⟨fun h=>by simp[Fence.wide]at h,hround.mono fun e w' ⟨he,hR⟩=>?_⟩;subst he;exact h w' hR _ (fr.put hn.e)
end
def WR(P:Program)(l:Nat)(n:Sz)(c:Code)(Q:Exit->Act->World->Prop)(L:Env)(w:World):Prop:=∀a,Fr n a L->c.wpIn (Fence.wide.inRound l) 0 P Q a w
section
variable {P:Program}{j:Nat}{n:Sz}{Q:Exit->Act->World->Prop}{L:Env}{w:World}
theorem Qh{id:Nat}{l:List Oper}(hd:l.all (fun o=>!Ig o.op)=true)(hq:JK Q)(h:S P n l.toArray Q l L w):WR P j n (.region id l.toArray false) Q L w:=fun a fr=>
 wpIn_region_lit (I2 (.inr ⟨j,Z⟩) hq l a w hd (h a fr))
theorem Uh{id:Nat}{c:Code}(h:WR P j n c (Exit.inBlock id Q) L w):WR P j n (.block id c) Q L w:=fun a fr=>wpIn_block (h a fr)
theorem AZ.putAt[Dr]{a:World}{O:List BS}{i b:Nat}{o:Obj}(o':Obj)(hL:AZ a O w)(hi:DW O i=some (.obj b o)):AZ a (DX O i (.obj b o')) (w.putObj b o')/\Le (fz w O) (fz (w.putObj b o') (DX O i (.obj b o'))):=by
 have hg:w.grownBy (w.putObj b o') (some b):=⟨Z,Z,Z,by simp,fun k _ hk=>World.putObj_heap_other (fun e=>hk (by rw[e]))⟩;have hlt:b<w.heap.size:=(hL.at hi).lt Z;exact⟨hL.Lb hi (Qq0 _) hg (World.putObj_heap_same hlt) (fun k e=>.inl e),GA hL hi hg (fun k e=>.inl e)⟩
def WV(P:Program)(l:Nat)(body:Code)(R:Ending->World->Prop):Exit->Act->World->Prop:=
 Exit.then (fun a₁ w₁=>∃w₂,(Instr.beginRound l).run P w₁=.ok () w₂/\body.wpIn (Fence.wide.inRound l) 0 P (roundPost P l R) a₁ w₂) (fun _ _ _=>False)
theorem V9{l:Nat}{body:Code}{R:Ending->World->Prop}:JK (WV P l body R):=fun _ _ h=>h
theorem Ui{l:Nat}{R:Ending->World->Prop}:JK (roundPost P l R):=fun _ _ h=>h
theorem Uj[Dr]{l i:Nat}{rec:Loop}{body:Code}{R:Ending->World->Prop}{b:World}{O:List BS}(hst:rec.state=.ready)(hL:AZ b O w)(hi:DW O i=some (.obj l (.loop rec)))
  (h:∀w',AZ b (DX O i (.obj l (.loop {rec with state:=.busy}))) w'->Le (fz w O) (fz w' (DX O i (.obj l (.loop {rec with state:=.busy}))))->WR P l n body (roundPost P l R) L w'):At n (WV P l body R) .normal L w:=fun a fr=>by
 have c:=hL.at hi;have hp:=hL.putAt (.loop {rec with state:=.busy}) hi;exact⟨_,run_beginRound c hst,h _ hp.1 hp.2 a fr⟩
theorem Kq[Dr]{l:Nat}(i:Nat){rec:Loop}{R:Ending->World->Prop}{b:World}{O:List BS}(hL:AZ b O w)(hi:DW O i=some (.obj l (.loop rec)))
  (h:∀w',AZ b (DX O i (.obj l (.loop {rec with state:=.ready,pending:=none}))) w'->Le (fz w O) (fz w' (DX O i (.obj l (.loop {rec with state:=.ready,pending:=none}))))->R (.returned (.bool true)) w'):At n (roundPost P l R) .normal L w:=fun a _=>by
 have c:=hL.at hi;have hp:=hL.putAt (.loop {rec with state:=.ready,pending:=none}) hi;exact⟨_,_,run_endRound none c,h _ hp.1 hp.2⟩
theorem VA[Dr]{g:FuncId}{cap:QqK}{go:Operand}{ps:Array Tmp}{assign body:Code}(hg:ev L go=some (.func (.func g) #[] cap.toArray))(hc:Lm P g){f:World}{O:List BS}(hL:AZ f O w)
  (h:∀(a:Act),Fr n a L->∀(fn:FuncId) (l D:Nat) (m:World) (rec:Loop),rec={state:=.ready,pending:=none,fn,tmps:=a.tmps,params:=ps,assign,body,defers:=D}->
   AZ f (.obj l (.loop rec)::.obj D (.deferred (some []))::O) m->Le (fz w O) (fz m (.obj l (.loop rec)::.obj D (.deferred (some []))::O))->
   Calls P g (#[.func (.yield l) #[] #[]]++cap.toArray) m (fun e o=>(∃v,e=.returned v)/\∃O',AZ f (.obj l (.loop rec)::O') o/\
    ∀
     p,AZ f (.obj l (.loop {rec with state:=.exhausted})::O') p->Le (fz o (.obj l (.loop rec)::O')) (fz p (.obj l (.loop {rec with state:=.exhausted})::O'))->
     At ⟨n.n,{target:=.collected D,args:=#[]}::n.d⟩ Q .normal L p)):W P n (.rangeFunc go ps assign body) Q L w:=fun a fr=>by
 refine (wpIn_wide (n := 0)).1 (wpIn_rangeFunc fun fn _ => ?_);obtain ⟨fn', c, t, h2, h3⟩ := hc;have h2' : ¬fn'.name = "runtime.NumGoroutine" := by simpa using h2
 have q:=hL.new (r:=.obj w.heap.size (.deferred (some []))) (D5 w (.deferred (some []))) (show(w.alloc _).heap[w.heap.size]? = _ from World.alloc_heap_new w _) (fun b hb=>by cases hb;exact Qq0 _);have f1:=OX hL (r:=.obj w.heap.size (.deferred (some []))) (D5 w (.deferred (some []))) (fun b hb=>by cases hb;exact Qq0 _);have hs:(w.alloc (.deferred (some []))).heap.size=w.heap.size+1:=by simp
 have s:=q.new (r:=.obj (w.heap.size+1) (.loop {state:=.ready,pending:=none,fn,tmps:=a.tmps,params:=ps,assign,body,defers:=w.heap.size})) (D5 _ _)
  (by rw[<- hs];exact World.alloc_heap_new _ _) (fun b hb=>by cases hb;exact Nat.le_of_eq hs)
 have f2:=OX q (r:=.obj (w.heap.size+1) (.loop {state:=.ready,pending:=none,fn,tmps:=a.tmps,params:=ps,assign,body,defers:=w.heap.size})) (D5 _ (.loop {state:=.ready,pending:=none,fn,tmps:=a.tmps,params:=ps,assign,body,defers:=w.heap.size}))
  (fun b hb=>by cases hb;exact Nat.le_of_eq hs)
 obtain⟨W1,j⟩:∃W1,W1=(w.alloc (.deferred (some []))).alloc (.loop {state:=.ready,pending:=none,fn,tmps:=a.tmps,params:=ps,assign,body,defers:=w.heap.size}):=⟨_,Z⟩;rw[<- j]at s f2;have hcall:=h a fr fn (w.heap.size+1) w.heap.size W1 _ Z s (f1.trans f2);refine⟨w.heap.size+1,[{target:=.collected w.heap.size,args:=#[]}],W1,{target:=.fn (.func g) cap.toArray,args:=#[.func (.yield (w.heap.size+1)) #[] #[]]},W1,g,#[.func (.yield (w.heap.size+1)) #[] #[]]++cap.toArray,W1,by rw[j];exact run_enterLoop_outer _ _ _ _ _,?_,fun _ _=>trivial,?_,fun e=>by simp[Fence.wide]at e,?_⟩
 ·have hgo:=fr.PN go _ hg;simp only[resolve,hgo];simp[Deferred.ofValue,Act.eval]
 ·simp[invoke,callFunc,t,h2',h3]
 ·refine(callsIn_wide.2 hcall).mono fun e o ⟨⟨v,he⟩,O',k,hk⟩=>?_;subst he;have hp:=k.putAt (i:=0) (.loop {state:=.exhausted,pending:=none,fn,tmps:=a.tmps,params:=ps,assign,body,defers:=w.heap.size}) Z;refine⟨none,_,run_endLoop (k.at (i:=0) Z) Z8,?_⟩;exact hk _ hp.1 hp.2 {a with defers:=[{target:=.collected w.heap.size,args:=#[]}]++a.defers} ⟨fr.size,by rw[fr.defers];rfl,fr.get⟩
def W4(P:Program)(fn:Func)(R:Value->World->Prop):Exit->Act->World->Prop:=bodyPostM Fence.wide 0 P fn (Rq R)
theorem Tx{f:FuncId}{fn:Func}{c:Code}{args:QqK}{R:Value->World->Prop}{k:Nat}(L:Env)
  (hf : P.funcs[f]? = some fn) [hname:ZZ (fn.name == "runtime.NumGoroutine") false] (hb : fn.body = some c) (hn : fn.ntmps = k) (hk : Nat.ble args.length k = true) (hL : L2 0 args = L)
  (h:W P ⟨k,[]⟩ c (W4 P fn R) L w):Ok P f args w R:=
 ⟨⟨fn,c,hf,hname.e,hb⟩,callsIn_wide.1 (callsIn_of_wp_marks hf hb trivial ((wpIn_wide (n:=0)).2 (h _ (by rw[hn];exact Q7 hk hL))))⟩
end
end Go.E
end
noncomputable section
namespace Go.E
open Go Go.RowKit
structure Nb (α:Type) where
 pre:α->QqK
 YM:α->QqZ
 LB:α->QqZ->α
 sz:Nat
 len:∀x,(pre x).length+1=sz
 one:∀x,∀u∈pre x,u.oneCell'=true
 YN:∀x d,pre (LB x d)=pre x
 YO:∀x d,YM (LB x d)=d
def Nb.b:Nb QqZ:=⟨fun _=>[],fun x=>x,fun _ d=>d,1,fun _=>Z,(fun _ _ h=>by cases h),fun _ _=>Z,fun _ _=>Z⟩
def Nb.s:Nb (Int×QqZ):=⟨fun x=>[.int .i64 x.1],fun x=>x.2,fun x d=>(x.1,d),2,fun _=>Z,(fun _ u h=>by simp at h;subst h;rfl),fun _ _=>Z,fun _ _=>Z⟩
section
variable {α:Type} (N:Nb α) (e:TypeId)
end
section
variable {α:Type}{N:Nb α}{e:TypeId}
end
section
variable {P:Program}{n:Sz}{ops:Array Oper}{Q:Exit->Act->World->Prop}{L:Env}{w w0:World}{O:List BS}{rest:List Oper}
 {d:Nat}{ty:TypeId}{pos:String}{af:Array Edge}{α:Type} [Inhabited α] {N:Nb α}{x y:Operand}{vo:Value}{t e eo:TypeId}{A:List BS}{l:List α}{vs:QqK}
end
section
variable {P:Program}{n:Sz}{ops:Array Oper}{Q:Exit->Act->World->Prop}{L:Env}{w w0:World}{rest:List Oper}
 {d d':Nat}{ty ty':TypeId}{pos pos':String}{af af':Array Edge}{α:Type}{N:Nb α}{x:Operand}{v vo:Value}{t e eo:TypeId}{H:PH}{l:List α}{vs:QqK}
end
section
variable {w w' w0:World}{A T O O':List BS}{α:Type}{N:Nb α}{r:Rp α}{vo:Value}{e eo:TypeId}{H:PH}{l:List α}{vs:QqK}
end
end Go.E
namespace Go.E
open Go Go.RowKit
def mE{κ:Type}(enc:κ->Value):Nat->List κ->QqK->List MapEntry
 | i,k::l,v::vs=>⟨enc k,v,i⟩::mE enc (i+1) l vs
 | _,_,_=>[]
section
variable {κ:Type}{enc:κ->Value}{k:κ}
end
structure YF (P:Program) {κ:Type} [DecidableEq κ] (kt:TypeId) (enc:κ->Value):Prop where
 check:∀(b:Bool) (k:κ) w,(Instr.checkKey b 10000 kt (enc k)).run P w=.ok () w
 bits:∀k,Instr.sameBits 10000 (enc k) (enc k)=true
 find:∃dd,P.underlying kt=some dd/\((∀a b,Instr.sameNow dd (enc a) (enc b)=some (decide (a=b)))\/
  ((∀a b,Instr.sameNow dd (enc a) (enc b)=none)/\∀a b w,(Op.equal kt (enc a) (enc b)).run P w=.ok (decide (a=b)) w))
section
variable {P:Program}{κ:Type} [DecidableEq κ] {kt t et:TypeId}{enc:κ->Value}{k:κ}
end
section
variable {κ β:Type} [DecidableEq κ] {k:κ}{z:Value}{enc:κ->Value}{ev':β->Value}
end
section
variable {P:Program}{n:Sz}{ops:Array Oper}{Q:Exit->Act->World->Prop}{L:Env}{w w0:World}{O:List BS}{rest:List Oper}{d:Nat}{ty t kt et:TypeId}{pos:String}{af:Array Edge}{x y x':Operand}
 {κ β:Type} [DecidableEq κ] {enc:κ->Value}{ev':β->Value}{l:List (κ×β)}{k:κ}{H:PH}
omit [DecidableEq κ] in
end
section
variable {κ α:Type} (cw:α->QqK) (e:TypeId) (sz:Nat)
end
section
variable {κ α:Type}{cw:α->QqK}{e:TypeId}{sz:Nat}
end
section
variable {P:Program}{n:Sz}{ops:Array Oper}{Q:Exit->Act->World->Prop}{L:Env}{w w0:World}{O:List BS}{rest:List Oper}{d:Nat}{ty ty' t mt kt et e:TypeId}{pos pos':String}{af af':Array Edge}{x y x' m':Operand}
 {κ α:Type} [DecidableEq κ] {enc:κ->Value}{cw:α->QqK}{sz:Nat}{l:List (κ×List α)}{vs:QqK}{k:κ}{H:PH}{A:List BS}
end
def WW{κ β:Type}(enc:κ->Value)(r:Rp β)(H:PH)(v:Value)(l:List (κ×β)):Prop:=
 ∃b vs,v=.map (some b)/\H b=some (.map (mE enc 0 (l.map Prod.fst) vs).toArray l.length)/\l.length=vs.length/\∀i x,l[i]? = some x->r.rel H x.2 [vs.getD i Qqf]
theorem WW.mono{κ β:Type}{enc:κ->Value}{r:Rp β}{H H':PH}{v:Value}{l:List (κ×β)}(h:WW enc r H v l)(hs:Le H H'):WW enc r H' v l:=by
 obtain⟨b,vs,a,h2,h3,c⟩:=h;exact⟨b,vs,a,hs _ _ h2,h3,fun i x hx=>r.mono hs (c i x hx)⟩
section
variable {P:Program}{L:Env}{w w0:World}{ty t kt et e:TypeId}{x y:Operand}{κ α:Type} [DecidableEq κ] {enc:κ->Value}{cw:α->QqK}{r:Rp α}{sz:Nat}{l:List (κ×List α)}{vs:QqK}{k:κ}{H:PH}{A:List BS}
omit [DecidableEq κ] in
end
section
variable {P:Program}{n:Sz}{ops:Array Oper}{Q:Exit->Act->World->Prop}{L:Env}{w:World}{rest:List Oper}{d:Nat}{ty t kt et:TypeId}{pos:String}{af:Array Edge}{x y:Operand}
 {κ α:Type} [DecidableEq κ] {enc:κ->Value}{r:Rp α}{l:List (κ×List α)}{k:κ}{H:PH}{v:Value}
end
end Go.E
namespace Go.E
open Go Go.RowKit
def Pm(ops:Array Oper)(j:Nat):Bool:=match ops[j]? with
 | some oj=>(Qze ops.size).all fun k=>k==j||oj.after.any fun e=>Region.binds .any e&&e.on==k
 | none=>false
theorem Ty{ops:Array Oper}{i j:Nat}{oj:Oper}(hj:ops[j]? = some oj)(hi:i<ops.size)(hne:i≠j)(hnot:∀e∈oj.after,Region.binds .any e=true->e.on≠i):Pm ops j=false:=by
 unfold Pm;rw[hj];simp only
 cases h:(Qze ops.size).all (fun k=>k==j||oj.after.any fun e=>Region.binds .any e&&e.on==k)with
 | false=>rfl
 | true=>
  have a:=Qxx.1 h i (List.mem_range.2 hi);simp only[Qz5,beq_iff_eq,hne,false_or]at a;obtain⟨e,he,hb⟩:=Array.any_eq_true'.1 a;simp only[Qq4,beq_iff_eq]at hb;exact absurd hb.2 (hnot e he hb.1)
def Vs(ops:Array Oper)(j k:Nat):Bool:=match ops[j]? with
 | some oj=>oj.after.any fun e=>Region.binds .any e&&e.on==k
 | none=>false
def SG(ops:Array Oper)(j:Nat):List Nat->Bool
 | []=>true
 | x::r=>(Vs ops j x||r.any fun y=>Vs ops y x)&&SG ops j r
def Qi(ops:Array Oper)(j:Nat)(c:List Nat):Bool:=SG ops j c&&(Qze ops.size).all fun k=>k==j||c.contains k||Vs ops k j
def Yx(ops:Array Oper)(listed:Array Bool):Prop:=∀k x,Vs ops k x=true->listed.getD k true=true->listed.getD x true=true
def XT(ops:Array Oper)(listed:Array Bool):Bool:=Nat.ble listed.size ops.size&&(Qze ops.size).all fun k=>!(listed.getD k true)||(Qze ops.size).all fun x=>!(Vs ops k x)||listed.getD x true
theorem Uk{ops:Array Oper}{listed:Array Bool}(h:XT ops listed=true):Yx ops listed:=fun k x hd hk=>by
 simp only[XT,Qq4,Qxx,List.mem_range,Qz5,Bool.not_eq_true']at h
 have hk':k<ops.size:=by
  rcases Qzd k ops.size with a | a
  ·exact a
  ·simp[Vs,Qxa a]at hd
 rcases Qzd x ops.size with hx | hx
 ·rcases h.2 k hk' with a | a
  ·rw[a]at hk;cases hk
  ·rcases a x hx with h2 | h2
   ·rw[h2]at hd;cases hd
   ·exact h2
 ·have:=Nat.le_of_ble_eq_true h.1;rw[QzE,Qxa U];rfl
theorem SH{l:Array Bool}{k:Nat}(h:l.getD k false=true):l.getD k true=true:=by
 rw[QzE]at *
 cases hq:l[k]? with
 | none=>rfl
 | some b=>rw[hq]at h;exact h
theorem O3{ops:Array Oper}{listed:Array Bool}{j:Nat}(hc:Yx ops listed)(hj:∀x,Vs ops j x=true->listed.getD x true=true):∀(c:List Nat),SG ops j c=true->∀x∈c,listed.getD x true=true
 | [],_,x,hx=>by cases hx
 | y::r,h,x,hx=>by
  simp only[SG,Qq4,Qz5,List.any_eq_true]at h;have ih:=O3 hc hj r h.2
  rcases List.mem_cons.1 hx with rfl | hx
  ·rcases h.1 with a | ⟨z,hz,a⟩
   ·exact hj _ a
   ·exact hc z _ a (ih z hz)
  ·exact ih x hx
section
variable (Inv:World->Prop) (P:Program) (ops:Array Oper) (Q:Exit->Act->World->Prop)
def Lg:Nat->Array Bool->Act->World->Prop
 | 0,listed,a,w=>Region.ready .any ops listed=[]/\Q .normal a w
 | m+1,listed,a,w=>(Region.ready .any ops listed=[]->Q .normal a w)/\
  ∀i∈Region.ready .any ops listed,wpOp P ops Q i (fun a' w'=>(Pm ops i=true\/(∃c,Qi ops i c=true)\/Inv w')/\Lg m (listed.setIfInBounds i true) a' w') a w
def IU(o:Oper)(v:Value)(a:Act):Prop:=
 (Region.wanted o (yielded ops a.tmps)=true/\∀w,Inv w->(execOp a.eval o).run P w=.ok (.value v) w)\/
 (Region.wanted o (yielded ops a.tmps)=false/\v=undef)
end
section
variable {Inv:World->Prop}{P:Program}{ops:Array Oper}{Q:Exit->Act->World->Prop}
theorem Pn:∀(m:Nat) (listed:Array Bool) (a:Act) (w:World),Lg Inv P ops Q m listed a w->wpAny P .any ops Q m listed a w
 | 0,_,_,_,h=>h
 | m+1,_listed,_a,_w,h=>⟨h.1,fun i hi=>wpOp_mono (fun _a' _w' k=>Pn m _ _ _ k.2) (h.2 i hi)⟩
theorem IU.same{o:Oper}{v:Value}{a a':Act}(hy:IU Inv P ops o v a)(he:execOp a'.eval o=execOp a.eval o)(hw:Region.wanted o (yielded ops a'.tmps)=Region.wanted o (yielded ops a.tmps)):IU Inv P ops o v a':=by
 unfold IU at *;rw[he,hw];exact hy
theorem IU.op{i:Nat}{o:Oper}{v:Value}{a:Act}{w:World}(hi:ops[i]? = some o)(hy:IU Inv P ops o v a)(hw:Inv w){K:Act->World->Prop}(h:K (a.put o.dst v) w):wpOp P ops Q i K a w:=by
 unfold wpOp;simp only[hi]
 rcases hy with ⟨b,hv⟩ | ⟨b,rfl⟩
 ·simp only[b,if_true,Oper.wp,hv w hw,Oper.upon];exact .inl h
 ·simp only[b,Qz3,if_false];exact h
theorem VB{j:Nat}{oi oj:Oper}{v:Value}(hj:ops[j]? = some oj)(hap:oi.apart ops oj=true)(hsi:∀cs b,oi.op≠.select cs b)(hsj:∀cs b,oj.op≠.select cs b)
  (hQ:∀c a w,Q (.panic c) (a.put oi.dst v) w->Q (.panic c) a w) {K:Act->World->Prop}{a:Act}{w:World} (hy:IU Inv P ops oi v a) (h:wpOp P ops Q j K (a.put oi.dst v) w) :
  wpOp P ops Q j (fun a' w'=>IU Inv P ops oi v a'/\K (a'.put oi.dst v) w') a w:=by
 obtain⟨g,h2,h3⟩:=Oper.apart_spec hap;have keep:∀a,IU Inv P ops oi v a->∀u,IU Inv P ops oi v (a.put oj.dst u):=fun a hy u=>hy.same (execOp_put oi hsi a oj.dst u h3) (wanted_put oi a oj.dst u h3);unfold wpOp at *;simp only[hj]at *;rw[wanted_put oj a oi.dst v g]at h
 split
 ·rename_i hw;simp only[hw,if_true]at h
  rcases h with h | ⟨ha,hl⟩
  case inr=>exact .inr ⟨by unfold Oper.asks at *;rw[execOp_put oj hsj a oi.dst v g]at ha;exact ha,hl⟩
  refine .inl ?_;unfold Oper.wp at *;rw[execOp_put oj hsj a oi.dst v g]at h;generalize (execOp a.eval oj).run P w=r at *
  cases r with
  | ok x w'=>
   cases x <;> simp only[Oper.upon]at h ⊢
   case value u=>exact⟨keep a hy u,by rw[<- Act.put_comm a v u h2];exact h⟩
   case skip=>exact⟨keep a hy _,by rw[<- Act.put_comm a v undef h2];exact h⟩
   case defer d=>
    refine⟨keep {a with defers:=d::a.defers} (hy.same Z Z) _,?_⟩;rw[<- Act.put_comm _ v undef h2,<- Act.put_defers];exact h
   case enter f args=>
    refine h.mono fun e w'' he=>?_
    cases e with
    | returned u=>exact⟨keep a hy u,by rw[<- Act.put_comm a v u h2];exact he⟩
    | panicked c=>exact hQ _ _ _ he
    | outgrown=>exact he
   case row row args=>exact Rows.mono h fun u w'' he=>⟨keep a hy u,by rw[<- Act.put_comm a v u h2];exact he⟩
  | halt x w'=>
   cases x <;> simp only[Oper.upon]at h ⊢
   case panic u=>exact hQ _ _ _ h
 ·rename_i hw;simp only[hw]at h;exact⟨keep a hy _,by rw[<- Act.put_comm a v undef h2];exact h⟩
theorem Ni{i:Nat}{oi:Oper}{v:Value}(hi:ops[i]? = some oi)(hsel:∀(j:Nat) (o:Oper) cs b,ops[j]? = some o->o.op≠.select cs b)(hQ:∀c a w,Q (.panic c) (a.put oi.dst v) w->Q (.panic c) a w):
  ∀
   (m:Nat) (listed:Array Bool) (a:Act) (w:World),
   (∀j oj,ops[j]? = some oj->j≠i->listed.getD j true=false->(∀e∈oj.after,Region.binds .any e=true->e.on≠i)->oi.apart ops oj=true)->
   i∈Region.ready .any ops listed->Yx ops listed->Inv w->IU Inv P ops oi v a->Lg Inv P ops Q m (listed.setIfInBounds i true) (a.put oi.dst v) w->Lg Inv P ops Q (m+1) listed a w:=by
 intro m
 induction m with
 | zero=>
  intro listed a w _ hr _ hw hy H;refine⟨fun h=>(by rw[h]at hr;cases hr),fun j hj=>?_⟩
  by_cases hji:j=i
  ·subst hji;exact hy.op hi hw ⟨.inr (.inr hw),H⟩
  ·have:=ready_mono hj hji;rw[H.1]at this
   cases this
 | succ m ih=>
  intro listed a w hfree hr hcl hw hy H;refine⟨fun h=>(by rw[h]at hr;cases hr),fun j hj=>?_⟩
  by_cases hji:j=i
  ·subst hji;exact hy.op hi hw ⟨.inr (.inr hw),H⟩
  ·have d:=H.2 j (ready_mono hj hji);obtain⟨hjun,oj,hoj,hall⟩:=mem_ready.1 hj
   have hnot:∀e∈oj.after,Region.binds .any e=true->e.on≠i:=fun e he hb heq=>by
    have d:=hall e he hb;have f:=(mem_ready.1 hr).1;rw[heq]at d
    rcases Qzd i listed.size with h' | h'
    ·simp[h']at f d;rw[f]at d;cases d
    ·simp[Qxa h']at d
   have h2:=VB hoj (hfree j oj hoj hji hjun hnot) (fun cs b=>hsel i oi cs b hi) (fun cs b=>hsel j oj cs b hoj) hQ hy d
   have hfree':∀k ok,ops[k]? = some ok->k≠i->(listed.setIfInBounds j true).getD k true=false->
     (∀e∈ok.after,Region.binds .any e=true->e.on≠i)->oi.apart ops ok=true:=fun k ok hk hki hun hno=>by
    refine hfree k ok hk hki ?_ hno
    by_cases hjk:j=k
    ·subst hjk;exact hjun
    ·rw[getD_set_ne true hjk]at hun;exact hun
   have hri:i∈Region.ready .any ops (listed.setIfInBounds j true):=ready_mono hr (Ne.symm hji);refine wpOp_mono (fun a' w' ⟨hy',hI,hk⟩=>?_) h2
   have hset:Lg Inv P ops Q m ((listed.setIfInBounds j true).setIfInBounds i true) (a'.put oi.dst v) w':=by
    rw[Array.setIfInBounds_comm _ _ hji];exact hk
   have hi':=(QxK.1 hi).1
   have hjd:∀x,Vs ops j x=true->listed.getD x true=true:=fun x hx=>by
    simp only[Vs,hoj]at hx;obtain⟨e,he,hb⟩:=Array.any_eq_true'.1 hx;simp only[Qq4,beq_iff_eq]at hb;rw[<- hb.2];exact SH (hall e he hb.1)
   have hiun:=(mem_ready.1 hr).1
   have hI':Inv w':=by
    rcases hI.resolve_left (by rw[Ty hoj hi' (Ne.symm hji) hnot];simp)with ⟨c,hc⟩ | hI
    ·exfalso
     simp only[Qi,Qq4,Qxx,List.mem_range,Qz5,beq_iff_eq]at hc
     rcases hc.2 i hi' with (h3 | h3) | h3
     ·exact hji h3.symm
     ·have g:=O3 hcl hjd c hc.1 i (by simpa using h3);rw[hiun]at g;cases g
     ·obtain⟨_,oi',hoi',hall'⟩:=mem_ready.1 hr;simp only[Vs,hoi']at h3;obtain⟨e,he,hb⟩:=Array.any_eq_true'.1 h3;simp only[Qq4,beq_iff_eq]at hb;have l:=SH (hall' e he hb.1);rw[hb.2,hjun]at l;cases l
    ·exact hI
   have hcl':Yx ops (listed.setIfInBounds j true):=fun k x hd hk=>by
    by_cases hxj:x=j
    ·subst hxj;rw[QzE,Qxb]
     by_cases hs:x<listed.size
     ·simp[hs]
     ·simp[Qxa (Nat.le_of_not_lt hs),hs]
    ·rw[getD_set_ne true (Ne.symm hxj)]
     by_cases hkj:k=j
     ·subst hkj;exact hjd x hd
     ·rw[getD_set_ne true (Ne.symm hkj)]at hk;exact hcl k x hd hk
   exact⟨.inr (.inr hI'),ih _ a' w' hfree' hri hcl' hI' hy' hset⟩
end
def Ul(Inv:World->Prop)(P:Program)(l:List Oper)(Q:Exit->Act->World->Prop)(fuel i:Nat)(listed:Array Bool):Exit->Act->World->Prop:=Exit.then (fun a w=>(Pm l.toArray i=true\/(∃c,Qi l.toArray i c=true)\/Inv w)/\Lg Inv P l.toArray Q fuel listed a w) Q
def Nw(Inv:World->Prop)(P:Program)(n:Sz)(l:List Oper)(Q:Exit->Act->World->Prop)(fuel:Nat)(listed:Array Bool)(L:Env)(w:World):Prop:=∀a,Fr n a L->Lg Inv P l.toArray Q fuel listed a w
section
variable {Inv:World->Prop}{P:Program}{n:Sz}{l:List Oper}{Q:Exit->Act->World->Prop}{L:Env}{w:World}{y:Code}{fuel:Nat}{m:Nat}{done:List Nat}
theorem Um[Dr]{id:Nat}(Inv:World->World->Prop)(hm:P.follows .mixedOrders=true)(hl:l.length=m)(h:∀w',Ext w w'->Nw (Inv w') P n l Q m (Jp m []) L w'):W P n (.region id l.toArray true) Q L w:=fun a fr=>by
 refine wp_region_any hm ?_;have:=Pn _ _ _ _ (h _ IH a fr);subst hl
 simpa[Jp]using this
theorem Qj{i:Nat}{o:Oper}(ho:FO l i=some o)(h:S P n l.toArray (Ul Inv P l Q fuel i (Jp m (i::done))) [o] L w):
  ∀a,Fr n a L->wpOp P l.toArray Q i (fun a' w'=>(Pm l.toArray i=true\/(∃c,Qi l.toArray i c=true)\/Inv w')/\Lg Inv P l.toArray Q fuel ((Jp m done).setIfInBounds i true) a' w') a w:=
 fun a fr=>Tt ho (h a fr) (fun e a w hne he=>by cases e <;> first | exact absurd Z hne | exact he)
theorem Po{rs:List Nat}{listed:Array Bool}{a:Act}(hr:Region.ready .any l.toArray listed=rs)(hne:rs≠[])
  (h:∀i∈rs,wpOp P l.toArray Q i (fun a' w'=>(Pm l.toArray i=true\/(∃c,Qi l.toArray i c=true)\/Inv w')/\Lg Inv P l.toArray Q fuel (listed.setIfInBounds i true) a' w') a w):Lg Inv P l.toArray Q (fuel+1) listed a w:=
 ⟨fun e=>by rw[hr]at e;exact absurd e hne,fun i hi=>h i (by rw[<- hr];exact hi)⟩
theorem BP(i:Nat){o:Oper}(ho:FO l i=some o)(h:S P n l.toArray (Ul Inv P l Q fuel i (Jp m (i::done))) [o] L w)(hr:Region.ready .any l.toArray (Jp m done)=[i]:=by kernel_rfl):Nw Inv P n l Q (fuel+1) (Jp m done) L w:=
 fun a fr=>Po hr Z8 fun k hk=>by
  obtain rfl:k=i:=by simpa using hk
  exact Qj ho h a fr
theorem Ls(i j:Nat){o p:Oper}(ho:FO l i=some o)(hp:FO l j=some p)(h:S P n l.toArray (Ul Inv P l Q fuel i (Jp m (i::done))) [o] L w)(h':S P n l.toArray (Ul Inv P l Q fuel j (Jp m (j::done))) [p] L w)(hr:Region.ready .any l.toArray (Jp m done)=[i,j]:=by kernel_rfl):Nw Inv P n l Q (fuel+1) (Jp m done) L w:=
 fun a fr=>Po hr Z8 fun k hk=>by
  have hk':k=i\/k=j:=by simpa using hk
  rcases hk' with rfl | rfl
  ·exact Qj ho h a fr
  ·exact Qj hp h' a fr
theorem XB(i j s:Nat){o p q:Oper}(ho:FO l i=some o)(hp:FO l j=some p)(hq:FO l s=some q)(h:S P n l.toArray (Ul Inv P l Q fuel i (Jp m (i::done))) [o] L w)(h':S P n l.toArray (Ul Inv P l Q fuel j (Jp m (j::done))) [p] L w)(h'':S P n l.toArray (Ul Inv P l Q fuel s (Jp m (s::done))) [q] L w)(hr:Region.ready .any l.toArray (Jp m done)=[i,j,s]:=by kernel_rfl):Nw Inv P n l Q (fuel+1) (Jp m done) L w:=
 fun a fr=>Po hr Z8 fun k hk=>by
  have hk':k=i\/k=j\/k=s:=by simpa using hk
  rcases hk' with rfl | rfl | rfl
  ·exact Qj ho h a fr
  ·exact Qj hp h' a fr
  ·exact Qj hq h'' a fr
theorem WX{i:Nat}(hI:Inv w)(h:Nw Inv P n l Q fuel (Jp m done) L w):S P n l.toArray (Ul Inv P l Q fuel i (Jp m done)) [] L w:=fun a fr=>⟨.inr (.inr hI),h a fr⟩
theorem B4{i:Nat}(h:Nw Inv P n l Q fuel (Jp m done) L w)(hl:Pm l.toArray i=true:=by kernel_rfl):S P n l.toArray (Ul Inv P l Q fuel i (Jp m done)) [] L w:=fun a fr=>⟨.inl hl,h a fr⟩
theorem GI{i:Nat}(c:List Nat)(h:Nw Inv P n l Q fuel (Jp m done) L w)(hl:Qi l.toArray i c=true:=by kernel_rfl):S P n l.toArray (Ul Inv P l Q fuel i (Jp m done)) [] L w:=fun a fr=>⟨.inr (.inl ⟨c,hl⟩),h a fr⟩
theorem Bz(h:At n Q .normal L w)(hr:Region.ready .any l.toArray (Jp m done)=[]:=by kernel_rfl):Nw Inv P n l Q 0 (Jp m done) L w:=fun a fr=>⟨hr,h a fr⟩
theorem Mh(s:Nat){b:Bool}{listed:Array Bool}(_hb:gt L s=some (.bool b))(a:b=true->Nw Inv P n l Q fuel listed L w)(h2:b=false->Nw Inv P n l Q fuel listed L w):Nw Inv P n l Q fuel listed L w:=by
 cases b
 ·exact h2 Z
 ·exact a Z
variable {d:Nat}{op:Op}{ty:TypeId}{pos:String}{af:Array Edge}
theorem Aq[Dr](i:Nat){v:Value}(hq:Gs Q)(hI:Inv w)(ho:FO l i=some ⟨some d,op,ty,pos,af,none⟩)(hr:∀w,Inv w->B2 P L w op ty v)(hn:QqE d n.n=true)
  (h:Nw Inv P n l Q fuel (Jp m (i::done)) ((d,v)::L) w)(hc:(Mf l m done i&&XT l.toArray (Jp m done))=true:=by kernel_rfl):Nw Inv P n l Q (fuel+1) (Jp m done) L w:=fun a fr=>by
 simp only[Mf,Qq4]at hc;obtain⟨⟨⟨b,h2⟩,h3⟩,e⟩:=hc;have ho':l.toArray[i]? = some ⟨some d,op,ty,pos,af,none⟩:=by rw[EP]at ho;simpa using ho
 exact Ni (v:=v) ho' (Region.noSelect_spec b) (fun c a w k=>hq c a _ _ w k) _ _ a w (Region.free_spec ho' h2) (by simpa using h3) (Uk e) hI
  (.inl ⟨by simp[Region.wanted],fun w' hw'=>hr w' hw' w' (Ext.refl _) _ fr.PN _ _ _ _⟩) (h _ (fr.put hn))
theorem E6[Dr](i:Nat){v:Value}{j s:Nat}{want b:Bool}{oj:Oper}(hq:Gs Q)(hI:Inv w)(ho:FO l i=some ⟨some d,op,ty,pos,af,some (j,want)⟩)(hj:FO l j=some oj)(hd:oj.dst=some s)(hb:gt L s=some (.bool b))(hw:b=want)(hr:∀w,Inv w->B2 P L w op ty v)(hn:QqE d n.n=true)
  (h:Nw Inv P n l Q fuel (Jp m (i::done)) ((d,v)::L) w)(hc:(Mf l m done i&&XT l.toArray (Jp m done))=true:=by kernel_rfl):Nw Inv P n l Q (fuel+1) (Jp m done) L w:=fun a fr=>by
 simp only[Mf,Qq4]at hc;obtain⟨⟨⟨f,h2⟩,h3⟩,g⟩:=hc;have ho':l.toArray[i]? = some ⟨some d,op,ty,pos,af,some (j,want)⟩:=by rw[EP]at ho;simpa using ho
 have hj':l.toArray[j]? = some oj:=by rw[EP]at hj;simpa using hj
 have hy:yielded l.toArray a.tmps j=some b:=by simp only[yielded,hj',QqC,hd,fr.get s _ hb]
 refine Ni (v:=v) ho' (Region.noSelect_spec f) (fun c a w k=>hq c a _ _ w k) _ _ a w (Region.free_spec ho' h2) (by simpa using h3) (Uk g) hI
  (.inl ⟨by simp[Region.wanted,hy,hw],fun w' hw'=>?_⟩) (h _ (fr.put hn))
 have e:execOp a.eval ⟨some d,op,ty,pos,af,some (j,want)⟩=execOp a.eval ⟨some d,op,ty,pos,af,none⟩:=Z;rw[e];exact hr w' hw' w' (Ext.refl _) _ fr.PN _ _ _ _
theorem Jj(i:Nat){j s:Nat}{want b:Bool}{oj:Oper}(hq:Gs Q)(hI:Inv w)(ho:FO l i=some ⟨some d,op,ty,pos,af,some (j,want)⟩)(hj:FO l j=some oj)(hd:oj.dst=some s)(hb:gt L s=some (.bool b))(hw:b = !want)(hn:QqE d n.n=true)
  (h:Nw Inv P n l Q fuel (Jp m (i::done)) ((d,undef)::L) w)(hc:(Mf l m done i&&XT l.toArray (Jp m done))=true:=by kernel_rfl):Nw Inv P n l Q (fuel+1) (Jp m done) L w:=fun a fr=>by
 simp only[Mf,Qq4]at hc;obtain⟨⟨⟨e,h2⟩,h3⟩,f⟩:=hc;have ho':l.toArray[i]? = some ⟨some d,op,ty,pos,af,some (j,want)⟩:=by rw[EP]at ho;simpa using ho
 have hj':l.toArray[j]? = some oj:=by rw[EP]at hj;simpa using hj
 have hy:yielded l.toArray a.tmps j=some b:=by simp only[yielded,hj',QqC,hd,fr.get s _ hb]
 exact Ni (v:=undef) ho' (Region.noSelect_spec e) (fun c a w k=>hq c a _ _ w k) _ _ a w (Region.free_spec ho' h2) (by simpa using h3) (Uk f) hI
  (.inr ⟨by simp[Region.wanted,hy,hw],Z⟩) (h _ (fr.put hn))
theorem Un{w:World}{b:Nat}{cs:QqK}{t:TypeId}(h:w.heap[b]? = some (.cells cs.toArray t (0,0))):EG (hp w) ⟨b,0,none⟩ cs:=
 ⟨Z,fun j u hu=>by
  show GZ (hp w) (Addr.add ⟨b,0,none⟩ j)=some u
  simp only[Addr.add_lit,GZ,hp,h]
  simpa using hu⟩
theorem CN[Dr]{b off:Nat}{cs:QqK}{t t':TypeId}{x:Operand}{u:Value}{dd:TypeDesc}(hx:ev L x=some (.pointer (some ⟨b,off,none⟩)))[ht:ZZ (P.underlying t) (some dd)][hd:ZZ (Nf dd) true](h:w.heap[b]? = some (.cells cs.toArray t' (0,0)))(hu:nth cs off=some u):B2 P L w (.load t x) ty u:=by
 have a:=(Un h).add off;obtain⟨c,hc⟩:=Pc cs off u hu;rw[hc]at a;simp only[Addr.add_lit,Qq8]at a;exact AV (hx:=⟨hx⟩) (ht:=⟨ht.e⟩) (hd:=⟨hd.e⟩) a (Le.refl _)
theorem IV[Dr]{b:Nat}{cs:QqK}{t t':TypeId}{x:Operand}{dd:TypeDesc}{zz:Value}{bt:Nat}[hx:ZZ (ev L x) (some (.pointer (some ⟨b,0,none⟩)))][ht:ZZ (P.underlying t) (some dd)][hd:ZZ (OY dd) true][hz:Qqq P t zz cs.length bt](h:w.heap[b]? = some (.cells cs.toArray t' (0,0))):B2 P L w (.load t x) ty (.agg cs.toArray):=
 Cq (hx:=⟨hx.e⟩) (ht:=⟨ht.e⟩) (hd:=⟨hd.e⟩) (hz:=⟨hz.e⟩) (Un h) (Le.refl _)
end
end Go.E
namespace Go.E
open Go Go.RowKit
section
variable {P:Program}{L:Env}{w w0:World}{O:List BS}{x y:Operand}{ty t t' e src dst u T:TypeId}{b:Nat}{cs:QqK}
end
def YG(b:Nat)(v:Value):Prop:=v=.pointer none\/v=.pointer (some ⟨b,0,none⟩)
theorem YG.one{b:Nat}{v:Value}(h:YG b v):v.oneCell'=true:=by rcases h with rfl | rfl <;> rfl
section
variable {P:Program}{n:Sz}{ops:Array Oper}{Q:Exit->Act->World->Prop}{L:Env}{w w0:World}{O:List BS}{rest:List Oper}{d:Nat}{ty pt it e:TypeId}{pos:String}{af:Array Edge}{x y:Operand}{H:PH}
theorem Ry[Dr]{t:TypeId}{v:Value}(i:Nat){sz m k:Nat}{xs c:QqK}{p:Addr}{dd:TypeDesc}{zz:Value}{bt:Nat}{e':TypeId}[hx:ZZ (ev L x) (some (.pointer (some p)))][ht:ZZ (P.underlying t) (some dd)][hd:ZZ (OY dd) true][hz:Qqq P t zz c.length bt](hL:AZ w0 O w)
  [hi:ZZ (DW O i) (some (.row v e' sz m xs))] (hp':IQ v k p) (hu:∀j u,c[j]? = some u->xs[k+j]? = some u):B2 P L w (.load t x) ty (.agg c.toArray):=
 Cq (hx:=⟨hx.e⟩) (ht:=⟨ht.e⟩) (hd:=⟨hd.e⟩) (hz:=⟨hz.e⟩) ⟨hp'.2.2,fun j u h=>Pe hL hi.e (hp'.add j) (hu j u h)⟩ (Le.refl _)
end
end Go.E
end
