/- Texts of a claim, merged. -/
import Derived.Shelf.SlGeneric
import Derived.Shelf.Strings.Split
import Derived.Shelf.Strings.OnBuilder
import Derived.Shelf.GgClosure.StringsRunes
import Derived.Shelf.Strings.Runes
import Derived.Shelf.Sort.Plain
import Derived.Shelf.Slices.In.SortNone
import Derived.Shelf.Slices.CompactI
import Derived.Shelf.SlSortCmp.NoneTotal
import Derived.Shelf.SlIter.Sorted
import Derived.Shelf.Spec.DecodeRune
import Derived.Shelf.Strconv.Itoa3
import Derived.Ground.NamesProg
import Derived.Ground.Names2Prog
import Derived.Ground.Names7Prog
import Derived.Ground.GgwProg
import Derived.Ground.GgzProg
import Derived.Ground.SlsfProg
import Derived.Test.YtopocbcekabkoaaGreatDoorProg
import Derived.WalkKit
import Derived.ProofKit
import Derived.StillTail
import Derived.Laws.StructEq
import Derived.Lib.AppendZeros
import Derived.Lib.Bytealg
import Derived.Laws.Externs
import Derived.Lib.ConvBytes
import Derived.Recover
import Derived.RangeFuncSeq
import Derived.RangeFuncLeaves
import Derived.RangeFuncCalls
import Derived.OrdersIn
import Derived.Scope
open Option renaming bind_some->Qzq,isNone_iff_eq_none->QjJ
open List renaming getD_eq_getElem?_getD->Qzj,getElem?_eq_getElem->Qzy,length_cons->Qzc,replicate->Qzv,getElem?_eq_some_iff->Qz6,eq_nil_of_length_eq_zero->Qxd,mem_append->QzK,take_of_length_le->Qxb,pairwise_cons->Qxx,getElem?_cons_zero->QkJ,getElem?_append_left->Qk4,range'->Qkq,getElem?_append_right->Qjb,getElem?_take->Qjc,size_toArray->Qjy
open Nat renaming le_refl->Qzu,blt->Qzw,zero_add->QzJ,mul_one->Qz9,zero_le->Qz5,le_trans->Qxy,lt_or_ge->Qxa,add_zero->Qxf,beq->QxA,add_mul->Qkf,eq_of_beq_eq_true->Qju
open Bool renaming and_eq_true->QzQ,eq_iff_iff->Qz7,false_eq_true->Qxk,not_false->QkB
open Array renaming getD_eq_getD_getElem?->Qke,getElem?_append_left->Qja,replicate->Qjd
open UInt8 renaming ofNat->Qz8
open Int renaming toNat_of_nonneg->Qx5,eq_ofNat_of_zero_le->Qx4
open BitVec renaming ofInt->QxE
open ByteArray renaming size->Qx6
set_option linter.unusedVariables false
set_option linter.unusedSimpArgs false
class Qqq{α:Sort _}(a:α)(b:outParam α):Prop where e:a=b
instance{α:Sort _}(a:α):Qqq a a:=⟨rfl⟩
theorem Z{α:Sort _}{a:α}:a=a:=rfl
theorem U{p:Prop}(h:p:=by omega):p:=h
theorem Qqb{p:Prop}(h:p:=by kernel_rfl):p:=h
theorem Qqc{p:Prop}(h:p:=by decide):p:=h
theorem Qqd{p:Prop}(h:p:=by simp):p:=h
noncomputable abbrev Qq2{α:Type _}[Inhabited α]:α:=default
abbrev Qq4:=List UInt8
abbrev Qq5:=List Int
abbrev Qq6:=List Go.Value
abbrev Qq7:=Int×Int
abbrev Qq8:=List Qq4
noncomputable section
namespace Go.Proofs
open Go.Shelf
set_option maxRecDepth 100000
theorem Ce {P : Program}{i : FuncId}{f B : Func} (h : P.funcs[i]? = some f) (hn : (f.name == "runtime.NumGoroutine") = false := by decide) (e : f = { B with name := f.name } := by kernel_rfl) : Bears P i B := ⟨f.name, hn, h.trans (congrArg some e)⟩
def Tryz.N2:Go.Shelf.Ren:=⟨fun | 146=>243 | 221=>264 | 268=>273 | 138=>274 | 143=>275 | 195=>278 | 197=>279 | 218=>280 | 219=>281 | 260=>282 | 217=>247 | 225=>204 | 224=>203 | 267=>283 | 266=>265 | 314=>284 | n=>n,fun | 9=>9 | 31=>26 | 3=>3 | 4=>4 | 0=>0 | 105=>246 | 21=>21 | 5=>5 | 46=>213 | 119=>305 | 139=>308 | 138=>307 | 146=>331 | 51=>251 | n=>n,fun | 1=>0 | 3=>1 | 4=>2 | n=>n⟩
theorem Tryz.We:Go.Proofs.Lays.n146 Tryz.prog Tryz.N2:=by repeat' first|kernel_rfl|constructor|intro _
def Tryz.Va:Go.Shelf.Ren:=⟨fun | 156=>85 | 165=>129 | 166=>130 | 169=>131 | 240=>170 | 241=>171 | 276=>223 | 277=>224 | n=>n,fun | 31=>26 | 9=>9 | 3=>3 | 4=>4 | 0=>0 | 20=>20 | 72=>216 | 76=>219 | 70=>214 | 37=>27 | 75=>218 | 127=>253 | 164=>285 | 5=>5 | 80=>221 | n=>n,fun | n=>n⟩
theorem Tryz.Ac3:Go.Proofs.Lays.n156 Tryz.prog Tryz.Va:=by repeat' first|kernel_rfl|constructor|intro _
def Tryz.Ad5:Go.Shelf.Ren:=⟨fun | 17=>110 | 15=>158 | 20=>200 | n=>n,fun | 9=>9 | 23=>197 | 4=>4 | 3=>3 | 0=>0 | 21=>21 | n=>n,fun | n=>n⟩
theorem Tryz.Akp:Go.Proofs.LaysGw.n17 Tryz.prog Tryz.Ad5:=by repeat' first|kernel_rfl|constructor|intro _
def Tryz.Ad6:Go.Shelf.Ren:=⟨fun | 137=>201 | 217=>247 | 266=>265 | n=>n,fun | 9=>9 | 5=>5 | 3=>3 | n=>n,fun | n=>n⟩
theorem Tryz.Akq:Go.Proofs.Lays.n137 Tryz.prog Tryz.Ad6:=by repeat' first|kernel_rfl|constructor|intro _
def Tryz.Ad7:Go.Shelf.Ren:=⟨fun | 190=>126 | 125=>128 | 258=>167 | 128=>168 | 129=>169 | 302=>214 | 303=>215 | 304=>216 | 305=>217 | 306=>218 | 307=>219 | 308=>220 | 309=>221 | 310=>222 | 333=>251 | 329=>235 | 330=>236 | 334=>252 | 335=>253 | 336=>254 | 344=>267 | n=>n,fun | 31=>26 | 9=>9 | 3=>3 | 46=>213 | 0=>0 | 51=>251 | 53=>245 | 4=>4 | 183=>257 | 182=>256 | 131=>102 | 5=>5 | 218=>292 | 222=>296 | 228=>313 | 229=>271 | n=>n,fun | n=>n⟩
theorem Tryz.AiK:Go.Proofs.Lays.n190 Tryz.prog Tryz.Ad7:=by repeat' first|kernel_rfl|constructor|intro _
def Tryz.Ad8:Go.Shelf.Ren:=⟨fun | 189=>90 | 125=>128 | 257=>136 | 128=>168 | 129=>169 | 294=>175 | 295=>176 | 296=>177 | 297=>178 | 298=>179 | 299=>180 | 216=>181 | 300=>182 | 301=>183 | 328=>234 | 329=>235 | 330=>236 | 331=>237 | 332=>238 | 215=>174 | 343=>258 | n=>n,fun | 28=>33 | 3=>3 | 46=>213 | 0=>0 | 51=>251 | 53=>245 | 4=>4 | 183=>257 | 182=>256 | 131=>102 | 5=>5 | 9=>9 | 218=>292 | 222=>296 | 228=>313 | 229=>271 | n=>n,fun | n=>n⟩
theorem Tryz.Ac4:Go.Proofs.Lays.n189 Tryz.prog Tryz.Ad8:=by repeat' first|kernel_rfl|constructor|intro _
def Tryz.Ad9:Go.Shelf.Ren:=⟨fun | 20=>91 | n=>n,fun | 22=>33 | 3=>3 | 4=>4 | 0=>0 | n=>n,fun | n=>n⟩
theorem Tryz.Ac5:Go.Proofs.Lays2.n20 Tryz.prog Tryz.Ad9:=by repeat' first|kernel_rfl|constructor|intro _
def Tryz.AdA:Go.Shelf.Ren:=⟨fun | 6=>132 | 15=>128 | 14=>172 | 28=>168 | 29=>169 | 20=>225 | 21=>226 | 22=>227 | 23=>228 | 24=>229 | 25=>230 | 26=>231 | 27=>232 | 46=>255 | 47=>235 | 48=>236 | 49=>256 | 50=>257 | 57=>268 | n=>n,fun | 22=>170 | 24=>125 | 25=>172 | 3=>3 | 39=>213 | 0=>0 | 53=>251 | 55=>245 | 4=>4 | 46=>257 | 45=>256 | 50=>102 | 5=>5 | 9=>9 | 66=>292 | 70=>296 | 76=>313 | 77=>271 | n=>n,fun | n=>n⟩
theorem Tryz.AiL:Go.Proofs.SlLaysF0.n6 Tryz.prog Tryz.AdA:=by apply Go.Proofs.SlLaysF0.n6.mk (f6:=Ce Tryz.func132) (f14:=Ce Tryz.func172) (f20:=Ce Tryz.func225) (f21:=Ce Tryz.func226) (f22:=Ce Tryz.func227) (f23:=Ce Tryz.func228) (f24:=Ce Tryz.func229) (f25:=Ce Tryz.func230) (f26:=Ce Tryz.func231) (f27:=Ce Tryz.func232) (f46:=Ce Tryz.func255) (f49:=Ce Tryz.func256) (f50:=Ce Tryz.func257) (f57:=Ce Tryz.func268)<;>first|kernel_rfl|(intro _;kernel_rfl)
def Tryz.AdB:Go.Shelf.Ren:=⟨fun | 6=>116 | 15=>128 | 14=>161 | 28=>168 | 29=>169 | 20=>205 | 21=>206 | 22=>207 | 23=>208 | 24=>209 | 25=>210 | 26=>211 | 27=>212 | 46=>248 | 47=>235 | 48=>236 | 49=>249 | 50=>250 | 57=>266 | n=>n,fun | 22=>33 | 24=>3 | 25=>202 | 3=>3 | 39=>213 | 0=>0 | 53=>251 | 55=>245 | 4=>4 | 46=>257 | 45=>256 | 50=>102 | 5=>5 | 9=>9 | 66=>292 | 70=>296 | 76=>313 | 77=>271 | n=>n,fun | n=>n⟩
theorem Tryz.Akr:Go.Proofs.SlLaysF.n6 Tryz.prog Tryz.AdB:=by apply Go.Proofs.SlLaysF.n6.mk (f6:=Ce Tryz.func116) (f14:=Ce Tryz.func161) (f20:=Ce Tryz.func205) (f21:=Ce Tryz.func206) (f22:=Ce Tryz.func207) (f23:=Ce Tryz.func208) (f24:=Ce Tryz.func209) (f25:=Ce Tryz.func210) (f26:=Ce Tryz.func211) (f27:=Ce Tryz.func212) (f46:=Ce Tryz.func248) (f49:=Ce Tryz.func249) (f50:=Ce Tryz.func250) (f57:=Ce Tryz.func266)<;>first|kernel_rfl|(intro _;kernel_rfl)
def Tryz.Abx:Go.Shelf.Ren:=⟨fun | 6=>116 | 15=>128 | 14=>161 | 28=>168 | 29=>169 | 20=>205 | 21=>206 | 22=>207 | 23=>208 | 24=>209 | 25=>210 | 26=>211 | 27=>212 | 46=>248 | 47=>235 | 48=>236 | 49=>249 | 50=>250 | 57=>266 | n=>n,fun | 22=>33 | 24=>3 | 25=>202 | 3=>3 | 39=>213 | 0=>0 | 53=>251 | 55=>245 | 4=>4 | 46=>257 | 45=>256 | 50=>102 | 5=>5 | 9=>9 | 66=>292 | 70=>296 | 76=>313 | 77=>271 | n=>n,fun | n=>n⟩
theorem Tryz.Ajq:Go.Proofs.SlLaysF0.n6 Tryz.prog Tryz.Abx:=by apply Go.Proofs.SlLaysF0.n6.mk (f6:=Ce Tryz.func116) (f14:=Ce Tryz.func161) (f20:=Ce Tryz.func205) (f21:=Ce Tryz.func206) (f22:=Ce Tryz.func207) (f23:=Ce Tryz.func208) (f24:=Ce Tryz.func209) (f25:=Ce Tryz.func210) (f26:=Ce Tryz.func211) (f27:=Ce Tryz.func212) (f46:=Ce Tryz.func248) (f49:=Ce Tryz.func249) (f50:=Ce Tryz.func250) (f57:=Ce Tryz.func266)<;>first|kernel_rfl|(intro _;kernel_rfl)
def Tryz.JE:Go.Shelf.Ren:=⟨fun | 32=>165 | 49=>213 | n=>n,fun | 30=>27 | 21=>21 | 3=>3 | 0=>0 | 5=>5 | 4=>4 | 33=>246 | 66=>305 | 25=>213 | 69=>308 | 68=>307 | n=>n,fun | 2=>1 | 3=>2 | n=>n⟩
theorem Tryz.Ae8:Go.Proofs.Lays7.n32 Tryz.prog Tryz.JE:=by repeat' first|kernel_rfl|constructor|intro _
def Tryz.XZ:Go.Shelf.Ren:=⟨fun | 7=>81 | 10=>127 | n=>n,fun | 23=>113 | 26=>9 | 3=>90 | 28=>161 | 0=>0 | 27=>160 | 33=>105 | 4=>4 | n=>n,fun | n=>n⟩
theorem Tryz.AiM:Go.Proofs.SlLaysZ.n7 Tryz.prog Tryz.XZ:=by apply Go.Proofs.SlLaysZ.n7.mk (f7:=Ce Tryz.func81) (f10:=Ce Tryz.func127)<;>first|kernel_rfl|(intro _;kernel_rfl)
def Tryz.Vb:Go.Shelf.Ren:=⟨fun | 6=>80 | 8=>125 | 9=>126 | 11=>166 | 13=>128 | 12=>167 | 23=>168 | 24=>169 | 14=>214 | 15=>215 | 16=>216 | 17=>217 | 18=>218 | 19=>219 | 20=>220 | 21=>221 | 22=>222 | 25=>251 | 26=>235 | 27=>236 | 28=>252 | 29=>253 | 30=>254 | 31=>267 | n=>n,fun | 26=>9 | 28=>161 | 24=>26 | 0=>0 | 3=>3 | 37=>213 | 48=>251 | 50=>245 | 4=>4 | 40=>257 | 39=>256 | 45=>102 | 5=>5 | 9=>9 | 51=>292 | 55=>296 | 57=>313 | 58=>271 | 33=>105 | n=>n,fun | n=>n⟩
theorem Tryz.Ahk:Go.Proofs.SlLaysZ.n6 Tryz.prog Tryz.Vb:=by apply Go.Proofs.SlLaysZ.n6.mk (f6:=Ce Tryz.func80) (f8:=Ce Tryz.func125) (f11:=Ce Tryz.func166)<;>first|kernel_rfl|(intro _;kernel_rfl)
def Tryz.ZQ:Go.Shelf.Ren:=⟨fun | 171=>140 | 243=>187 | 246=>242 | 283=>260 | 284=>261 | 285=>262 | 286=>263 | 129=>169 | 317=>269 | 318=>270 | 319=>271 | 320=>272 | 337=>276 | 338=>277 | n=>n,fun | 3=>3 | 9=>9 | 2=>2 | 4=>4 | 171=>316 | 0=>0 | 53=>245 | 37=>27 | 5=>5 | 173=>318 | 212=>325 | 51=>251 | 20=>20 | 213=>326 | 46=>213 | 232=>65 | 233=>330 | n=>n,fun | 17=>3 | 18=>4 | 19=>5 | n=>n⟩
theorem Tryz.Ahl:Go.Proofs.LaysM.n171 Tryz.prog Tryz.ZQ:=by repeat' first|kernel_rfl|constructor|intro _
end Go.Proofs
end
noncomputable section
namespace Go.E
open Go
abbrev Env:=List (Nat×Value)
def gt:Env->Nat->Option Value
 | [],_=>none
 | (k,v)::L,t=>bif QxA k t then some v else gt L t
def ev(L:Env):Operand->Option Value
 | .tmp t=>gt L t
 | .const v=>some v
 | .global g=>some (.pointer (some ⟨g,0,none⟩))
 | .func f=>some (.func (.func f) #[] #[])
def Vc(L:Env):List Operand->Option Qq6
 | []=>some []
 | x::xs=>match ev L x,Vc L xs with
  | some v,some vs=>some (v::vs)
  | _,_=>none
structure Sz where
 n:Nat
 d:List Deferred
structure Fr (n:Sz) (a:Act) (L:Env):Prop where
 size:a.tmps.size=n.n
 defers:a.defers=n.d
 get:∀t v,gt L t=some v->a.tmps[t]? = some v
theorem PW{k t:Nat}{v:Value}{L:Env}:gt ((k,v)::L) t=if k=t then some v else gt L t:=by
 show(bif QxA k t then some v else gt L t)=_
 by_cases h:k=t
 ·subst h;simp
 ·have:QxA k t=false:=by
   cases hb:QxA k t with
   | true=>exact absurd (Qju hb) h
   | false=>rfl
  rw[this,if_neg h];rfl
theorem Fr.eval{n:Sz}{a:Act}{L:Env}(h:Fr n a L){x:Operand}{v:Value}(hx:ev L x=some v):a.eval x=v:=by
 cases x with
 | tmp t=>simp only[ev]at hx;have:=h.get t v hx;simp[Act.eval,Qke,this]
 | const u=>simp only[ev,Option.some.injEq]at hx;simpa[Act.eval]using hx
 | func f=>simp only[ev,Option.some.injEq]at hx;simpa[Act.eval]using hx
 | _=>simp only[ev,Option.some.injEq]at hx;simpa[Act.eval]using hx
theorem Fr.put{n:Sz}{a:Act}{L:Env}(h:Fr n a L){d:Nat}{v:Value}(hd:Qzw d n.n=true):Fr n (a.put (some d) v) ((d,v)::L):=by
 have hd':d<n.n:=by simpa[Nat.blt_eq]using hd
 refine⟨by simp[Act.put,h.size],by simp[Act.put,h.defers],fun t u ht=>?_⟩;rw[PW]at ht
 by_cases e:d=t
 ·subst e;rw[if_pos Z]at ht
  cases ht
  simp[Act.put,h.size,hd']
 ·rw[if_neg e]at ht;have:=h.get t u ht;simp only[Act.put];rw[Array.getElem?_setIfInBounds_ne e];exact this
theorem B4(n:Nat)(h:n<=9223372036854775807:=by decide):n<=9223372036854775807:=h
def Sub(L' L:Env):Prop:=∀t v,gt L' t=some v->gt L t=some v
theorem Sub.refl(L:Env):Sub L L:=fun _ _ h=>h
theorem Sub.nil(L:Env):Sub [] L:=fun _ _ h=>by cases h
theorem Sub.cons{t:Nat}{v:Value}{L' L:Env}(hg:gt L t=some v)(h:Sub L' L):Sub ((t,v)::L') L:=fun t' u hu=>by
 rw[PW]at hu
 by_cases e:t=t'
 ·subst e;rw[if_pos Z]at hu;cases hu;exact hg
 ·rw[if_neg e]at hu;exact h t' u hu
def ga(L:Env):Env->List (Option Value)
 | []=>[]
 | (t,_)::r=>gt L t::ga L r
def va:Env->List (Option Value)
 | []=>[]
 | (_,v)::r=>some v::va r
theorem Sub.of{L:Env}:∀{L':Env},ga L L'=va L'->Sub L' L
 | [],_=>Sub.nil L
 | (_,_)::_,h=>Sub.cons (List.cons.inj h).1 (Sub.of (List.cons.inj h).2)
theorem Sub.int{t:Nat}{k:IntKind}{x y:Int}{L' L:Env}(hg:gt L t=some (.int k x))(he:x=y)(h:Sub L' L):Sub ((t,.int k y)::L') L:=.cons (he ▸ hg) h
theorem Fr.sub{n:Sz}{a:Act}{L L':Env}(h:Fr n a L)(hs:Sub L' L):Fr n a L':=⟨h.size,h.defers,fun t v ht=>h.get t v (hs t v ht)⟩
def W(P:Program)(n:Sz)(c:Code)(Q:Exit->Act->World->Prop)(L:Env)(w:World):Prop:=∀a,Fr n a L->c.wp P Q a w
def S(P:Program)(n:Sz)(ops:Array Oper)(Q:Exit->Act->World->Prop)(l:List Oper)(L:Env)(w:World):Prop:=∀a,Fr n a L->wpList P ops Q l a w
def At(n:Sz)(Q:Exit->Act->World->Prop)(e:Exit)(L:Env)(w:World):Prop:=∀a,Fr n a L->Q e a w
def Ut(P:Program)(y:Code)(Q:Exit->Act->World->Prop):Exit->Act->World->Prop:=Exit.then (y.wp P Q) Q
def Aby{σ:Type}(n:Sz)(I:σ->Env)(R:σ->World->Prop)(Q:Exit->Act->World->Prop):Exit->Act->World->Prop:=
 Exit.then (fun a w=>∃s,Fr n a (I s)/\R s w) Q
def Ya{σ:Type}(n:Sz)(I:σ->Env)(R:σ->World->Prop)(μ:σ->Nat)(x:σ)(Q:Exit->Act->World->Prop):Exit->Act->World->Prop:=
 Exit.then (fun a w=>∃s,Fr n a (I s)/\R s w/\μ s<μ x) Q
section
variable {P:Program}{n:Sz}{Q:Exit->Act->World->Prop}{L:Env}{w:World}{x y c:Code}
theorem W.sub{L':Env}(h:W P n c Q L' w)(hs:Sub L' L):W P n c Q L w:=fun a fr=>h a (fr.sub hs)
theorem S.sub{ops:Array Oper}{l:List Oper}{L':Env}(h:S P n ops Q l L' w)(hs:Sub L' L):S P n ops Q l L w:=fun a fr=>h a (fr.sub hs)
theorem A6(h:W P n x (Ut P y Q) L w):W P n (.seq x y) Q L w:=fun a fr=>wp_seq (h a fr)
theorem Au(h:At n Q .normal L w):W P n .skip Q L w:=fun a fr=>wp_skip (h a fr)
theorem Aw(h:At n Q .ret L w):W P n .ret Q L w:=fun a fr=>wp_ret (h a fr)
theorem Bf{id:Nat}(h:At n Q (.exit id) L w):W P n (.exit id) Q L w:=fun a fr=>wp_exit (h a fr)
theorem A2{id:Nat}(h:W P n c (Exit.inBlock id Q) L w):W P n (.block id c) Q L w:=fun a fr=>wp_block (h a fr)
theorem An{id:Nat}{l:List Oper}(h:S P n l.toArray Q l L w):W P n (.region id l.toArray false) Q L w:=fun a fr=>wp_region_lit (h a fr)
theorem Ao{id:Nat}{l:List Oper}(h:S P n l.toArray (Ut P y Q) l L w):W P n (.seq (.region id l.toArray false) y) Q L w:=A6 (An h)
theorem Abz{t:Operand}{b:Bool}(hc:ev L t=some (.bool b))(ht:b=true->W P n x Q L w)(hf:b=false->W P n y Q L w):W P n (.cond t x y) Q L w:=
 fun a fr=>wp_cond_split (fr.eval hc) (fun e=>ht e a fr) (fun e=>hf e a fr)
theorem Alj{t:Operand}{p:Prop}[Decidable p](hc:ev L t=some (.bool (decide p)))(ht:p->W P n x Q L w)(hf : ¬p->W P n y Q L w):W P n (.cond t x y) Q L w:=
 Abz hc (fun e=>ht (of_decide_eq_true e)) (fun e=>hf (of_decide_eq_false e))
theorem Aks{t:Operand}{p:Prop}[Decidable p](hc:ev L t=some (.bool (!decide p)))(ht : ¬p->W P n x Q L w)(hf:p->W P n y Q L w):W P n (.cond t x y) Q L w:=
 Abz hc (fun e=>ht (by simpa using e)) (fun e=>hf (by simpa using e))
theorem DS{t:Operand}[hc:Qqq (ev L t) (some (.bool true))](h:W P n x Q L w):W P n (.cond t x y) Q L w:=fun a fr=>wp_cond_true (fr.eval hc.e) (h a fr)
theorem Co{t:Operand}[hc:Qqq (ev L t) (some (.bool false))](h:W P n y Q L w):W P n (.cond t x y) Q L w:=fun a fr=>wp_cond_false (fr.eval hc.e) (h a fr)
theorem Bj(σ:Type)(I:σ->Env)(R:σ->World->Prop)(μ:σ->Nat)(d:σ)(hs:ga L (I d)=va (I d))(hR:R d w)
  (round:∀s w,R s w->W P n c (Ya n I R μ s Q) (I s) w):W P n (.loop c) Q L w:=by
 intro a fr b k cs
 have key:∀m s a w,μ s=m->Fr n a (I s)->R s w->
   ∃e a' w',Q e a' w'/\Arrives P (lone (b.at a (.code c::.inLoop c::k)) cs w) b k cs e a' w':=by
  intro m
  induction m using Nat.strongRecOn with
  | _ m ih=>
   intro s a w hm fr hR;obtain⟨e,a₁,w₁,hq,harr⟩:=round s w hR a fr b (.inLoop c::k) cs
   cases e with
   | normal=>
    obtain⟨s',fr',hR',hlt⟩:=hq;obtain⟨e₂,a₂,w₂,hq₂,harr₂⟩:=ih (μ s') (hm ▸ hlt) s' a₁ w₁ Z fr' hR';exact⟨e₂,a₂,w₂,hq₂,.of_steps (Steps.trans harr (.one step_inLoop)) harr₂⟩
   | exit id=>exact⟨_,a₁,w₁,hq,.pass (x:=.inLoop c) Z (fun _ _=>.inl Qqd) harr⟩
   | goto l=>exact⟨_,a₁,w₁,hq,.pass (x:=.inLoop c) Z (fun _ _=>.inl Qqd) harr⟩
   | ret=>exact⟨_,a₁,w₁,hq,.pass (x:=.inLoop c) Z (fun _ _=>.inl Qqd) harr⟩
   | panic ch=>exact⟨_,a₁,w₁,hq,.pass (x:=.inLoop c) Z (fun _ _=>.inl Qqd) harr⟩
   | outgrown=>exact⟨_,a₁,w₁,hq,.pass (x:=.inLoop c) Z (fun _ _=>.inl Qqd) harr⟩
 obtain⟨e,a',w',hq,harr⟩:=key _ d a w Z (fr.sub (Sub.of hs)) hR;exact⟨e,a',w',hq,.of_steps (.one step_loop) harr⟩
theorem Bb(σ:Type)(I:σ->Env)(R:σ->World->Prop)(b:W P n x (Aby n I R Q) L w)(h2:∀s w,R s w->W P n y Q (I s) w):W P n (.seq x y) Q L w:=
 fun a fr=>wp_seq (wp_mono (b a fr) fun e a' w' q=>by
  cases e with
  | normal=>obtain⟨s,fr',hR⟩:=q;exact h2 s w' hR a' fr'
  | exit id=>exact q
  | goto l=>exact q
  | ret=>exact q
  | panic ch=>exact q
  | outgrown=>exact q)
theorem Aq(h:W P n y Q L w):At n (Ut P y Q) .normal L w:=h
theorem A8{σ:Type}{I:σ->Env}{R:σ->World->Prop}(s:σ)[hs:Qqq (ga L (I s)) (va (I s))](hR:R s w):At n (Aby n I R Q) .normal L w:=fun _ fr=>⟨s,fr.sub (Sub.of hs.e),hR⟩
theorem AD{σ:Type}{I:σ->Env}{R:σ->World->Prop}{μ:σ->Nat}{a:σ}(s:σ)(hs:ga L (I s)=va (I s))(hR:R s w)(hm:μ s<μ a:=by exact Nat.lt_succ_self _):At n (Ya n I R μ a Q) .normal L w:=
 fun _ fr=>⟨s,fr.sub (Sub.of hs),hR,hm⟩
theorem Az{id:Nat}(h:At n Q .normal L w):At n (Exit.inBlock id Q) .normal L w:=h
theorem AY{id:Nat}(h:At n Q .normal L w):At n (Exit.inBlock id Q) (.exit id) L w:=fun a fr=>by simpa[Exit.inBlock]using h a fr
theorem LW{id id':Nat}[hne:Qqq (QxA id' id) false](h:At n Q (.exit id') L w):At n (Exit.inBlock id Q) (.exit id') L w:=have hne:=hne.e;fun a fr=>by
 have:id'≠id:=fun e=>by subst e;simp at hne
 simpa[Exit.inBlock,this]using h a fr
theorem A5{id:Nat}(h:At n Q (.exit id) L w):At n (Ut P y Q) (.exit id) L w:=h
theorem Ra{σ:Type}{I:σ->Env}{R:σ->World->Prop}{id:Nat}(h:At n Q (.exit id) L w):At n (Aby n I R Q) (.exit id) L w:=h
theorem A3{σ:Type}{I:σ->Env}{R:σ->World->Prop}{μ:σ->Nat}{a:σ}{id:Nat}(h:At n Q (.exit id) L w):At n (Ya n I R μ a Q) (.exit id) L w:=h
theorem Am(h:At n Q .ret L w):At n (Ut P y Q) .ret L w:=h
theorem AN{σ:Type}{I:σ->Env}{R:σ->World->Prop}(h:At n Q .ret L w):At n (Aby n I R Q) .ret L w:=h
theorem Bc{σ:Type}{I:σ->Env}{R:σ->World->Prop}{μ:σ->Nat}{a:σ}(h:At n Q .ret L w):At n (Ya n I R μ a Q) .ret L w:=h
theorem Al{id:Nat}(h:At n Q .ret L w):At n (Exit.inBlock id Q) .ret L w:=h
end
def Kh (P : Program) (f : FuncId) : Prop := ∃fn c, P.funcs[f]? = some fn /\ (fn.name == "runtime.NumGoroutine") = false /\ fn.body = some c
def Rq(R:Value->World->Prop):Ending->World->Prop:=fun e w'=>∃v,e=.returned v/\R v w'
def Ok(P:Program)(f:FuncId)(args:Qq6)(w:World)(R:Value->World->Prop):Prop:=
 Kh P f/\Calls P f args.toArray w (Rq R)
theorem Ok.mono{P:Program}{f:FuncId}{args:Qq6}{w:World}{R R':Value->World->Prop}(h:Ok P f args w R)(hr:∀v w',R v w'->R' v w'):Ok P f args w R':=
 ⟨h.1,h.2.mono fun _ w' ⟨v,he,hv⟩=>⟨v,he,hr v w' hv⟩⟩
def SU:Nat->Qq6->Env
 | _,[]=>[]
 | k,v::l=>(k,v)::SU (k+1) l
theorem Uu:∀(l:Qq6) (k t:Nat) (v:Value),gt (SU k l) t=some v->k<=t/\l[t - k]? = some v
 | [],_,_,_,h=>by cases h
 | u::l,k,t,v,h=>by
  simp only[SU,PW]at h
  by_cases e:k=t
  ·subst e;rw[if_pos Z]at h;cases h;simp
  ·rw[if_neg e]at h;have⟨a,h2⟩:=Uu l (k+1) t v h;refine⟨by omega,?_⟩;have:t - k=(t - (k+1))+1:=by omega
   rw[this,List.getElem?_cons_succ];exact h2
def Rb(P:Program)(fn:Func)(R:Value->World->Prop):Exit->Act->World->Prop:=bodyPost P fn (Rq R)
theorem Cj{P:Program}{f:FuncId}{fn:Func}{c:Code}{args:Qq6}{w:World}{R:Value->World->Prop}{n:Nat}(L:Env)
  (hf : P.funcs[f]? = some fn) [hname:Qqq (fn.name == "runtime.NumGoroutine") false] (hb : fn.body = some c) (hn : fn.ntmps = n) (hk : Nat.ble args.length n = true) (hL : SU 0 args = L)
  (h:W P ⟨n,[]⟩ c (Rb P fn R) L w):Ok P f args w R:=by
 refine⟨⟨fn,c,hf,hname.e,hb⟩,calls_of_wp hf hb ?_⟩;have hk':args.length<=n:=by simpa[Nat.ble_eq]using hk
 refine h _ ⟨?_,Z,?_⟩
 ·simp[hn];omega
 ·intro t v ht;subst hL;have⟨_,h2⟩:=Uu args 0 t v ht;simp only[Nat.sub_zero]at h2;have hlt:t<args.length:=(Qz6.1 h2).1;simp only[Qjy];rw[Qja (by simpa using hlt)]
  simpa using h2
def Rc:List ResultVar->Env->Option Value
 | [.tmp t],L=>gt L t
 | [.tmp t,.tmp u],L=>match gt L t,gt L u with | some a,some b=>some (.tuple #[a,b]) | _,_=>none
 | [.tmp t,.tmp u,.tmp s],L=>match gt L t,gt L u,gt L s with | some a,some b,some c=>some (.tuple #[a,b,c]) | _,_,_=>none
 | _,_=>none
theorem Wf{P:Program}{fn:Func}{n:Sz}{a:Act}{L:Env}{w:World}{l:List ResultVar}{v:Value}(fr:Fr n a L)(hl:fn.results=l.toArray)(h:Rc l L=some v):
  (results fn a.tmps).run P w=.ok v w:=by
 unfold Rc at h
 split at h
 ·rename_i t;rw[results_tmp hl];have:=fr.get t v h;simp[Qke,this]
 ·rename_i t u
  split at h
  ·rename_i x y b h2;cases h;rw[results_tmp2 hl];have c:=fr.get t x b;have d:=fr.get u y h2;simp[Qke,c,d]
  ·cases h
 ·rename_i t u s
  split at h
  ·rename_i x y z b h2 h3;cases h;rw[results_tmp3 hl];have c:=fr.get t x b;have d:=fr.get u y h2;have e:=fr.get s z h3;simp[Qke,c,d,e]
  ·cases h
 ·cases h
theorem VN{P:Program}{fn:Func}{R:Value->World->Prop}{n:Nat}{L:Env}{w:World}{l:List ResultVar}{v:Value}(hl:fn.results=l.toArray)(h:Rc l L=some v)(hR:R v w):At ⟨n,[]⟩ (Rb P fn R) .ret L w:=
 fun _ fr=>⟨fr.defers,v,Wf fr hl h,v,Z,hR⟩
theorem Ah{P:Program}{fn:Func}{R:Value->World->Prop}{n:Nat}{L:Env}{w:World}{l:List ResultVar}{v:Value}(hq:(fn.results,Rc l L)=(l.toArray,some v))(hR:R v w):At ⟨n,[]⟩ (Rb P fn R) .ret L w:=
 VN (Prod.mk.inj hq).1 (Prod.mk.inj hq).2 hR
section
variable {P:Program}{n:Sz}{ops:Array Oper}{Q:Exit->Act->World->Prop}{L:Env}{w:World}{rest:List Oper}
 {d:Nat}{ty:TypeId}{pos:String}{af:Array Edge}
def Rho(L:Env)(ρ:Operand->Value):Prop:=∀x u,ev L x=some u->ρ x=u
theorem Fr.Yb{a:Act}(fr:Fr n a L):Rho L a.eval:=fun _ _ h=>fr.eval h
theorem Rho.map{ρ:Operand->Value}(h:Rho L ρ):∀(l:List Operand) (vs:Qq6),Vc L l=some vs->l.map ρ=vs
 | [],vs,e=>by simp only[Vc,Option.some.injEq]at e;simpa using e
 | x::l,vs,e=>by
  unfold Vc at e
  split at e
  ·rename_i v us a h2;cases e;simp[h x v a,Rho.map h l us h2]
  ·cases e
theorem AE(h:At n Q .normal L w):S P n ops Q [] L w:=fun a fr=>h a fr
theorem Ad{y:Code}(h:W P n y Q L w):S P n ops (Ut P y Q) [] L w:=fun a fr=>h a fr
theorem XD{o:Oper}(hg:o.guard=none)(h:∀a,Fr n a L->o.wp P a w (wpList P ops Q rest) Q):S P n ops Q (o::rest) L w:=
 fun a fr=>by
  unfold wpList;rw[if_pos (by simp[Region.wanted,hg])];exact .inl (h a fr)
theorem Ei{o:Oper}{v:Value}{w':World}[hg:Qqq o.guard none][hd:Qqq o.dst (some d)](hn:Qzw d n.n=true)
  (hrun:∀ρ,Rho L ρ->(execOp ρ o).run P w=.ok (.value v) w') (h:S P n ops Q rest ((d,v)::L) w'):S P n ops Q (o::rest) L w:=
 XD hg.e fun a fr=>by
  unfold Oper.wp;rw[hrun _ fr.Yb]
  show wpList P ops Q rest (a.put o.dst v) w'
  rw[hd.e];exact h _ (fr.put hn)
theorem ZR{o:Oper}{v:Value}{w':World}[hg:Qqq o.guard none][hd:Qqq o.dst none]
  (hrun:∀ρ,Rho L ρ->(execOp ρ o).run P w=.ok (.value v) w') (h:S P n ops Q rest L w'):S P n ops Q (o::rest) L w:=
 XD hg.e fun a fr=>by
  unfold Oper.wp;rw[hrun _ fr.Yb]
  show wpList P ops Q rest (a.put o.dst v) w'
  rw[hd.e];exact h _ fr
theorem NO{o:Oper}(w':World)[hg:Qqq o.guard none][hd:Qqq o.dst none]
  (hrun:∀ρ,Rho L ρ->(execOp ρ o).run P w=.ok .skip w') (h:S P n ops Q rest L w'):S P n ops Q (o::rest) L w:=
 XD hg.e fun a fr=>by
  unfold Oper.wp;rw[hrun _ fr.Yb]
  show wpList P ops Q rest (a.put o.dst undef) w'
  rw[hd.e];exact h _ fr
theorem Yc{dst:Option Tmp}{op:Op}{j:Nat}{want b:Bool}{t:Nat}(hj:((ops[j]?).bind (·.dst))=some t)(hb:gt L t=some (.bool b))(hw:b=want)
  (h:S P n ops Q (⟨dst,op,ty,pos,af,none⟩::rest) L w):S P n ops Q (⟨dst,op,ty,pos,af,some (j,want)⟩::rest) L w:=fun a fr=>by
 have c:=h a fr;simp only[wpList]at c ⊢;have hy:yielded ops a.tmps j=some b:=by simp[yielded,hj,fr.get t _ hb]
 have hwant:Region.wanted ⟨dst,op,ty,pos,af,some (j,want)⟩ (yielded ops a.tmps)=true:=by simp[Region.wanted,hy,hw]
 rw[if_pos hwant];have d:Region.wanted ⟨dst,op,ty,pos,af,none⟩ (yielded ops a.tmps)=true:=by simp[Region.wanted]
 rw[if_pos d]at c;exact c
theorem Wg{op:Op}{j:Nat}{want b:Bool}{t:Nat}(hj:((ops[j]?).bind (·.dst))=some t)(hb:gt L t=some (.bool b))(hw:b = !want)(hn:Qzw d n.n=true)
  (h:S P n ops Q rest ((d,undef)::L) w):S P n ops Q (⟨some d,op,ty,pos,af,some (j,want)⟩::rest) L w:=fun a fr=>by
 simp only[wpList];have hy:yielded ops a.tmps j=some b:=by simp[yielded,hj,fr.get t _ hb]
 have hwant:Region.wanted ⟨some d,op,ty,pos,af,some (j,want)⟩ (yielded ops a.tmps)=false:=by simp[Region.wanted,hy,hw]
 rw[hwant];exact h _ (fr.put hn)
theorem Aa{dst:Option Tmp}{op:Op}{j:Nat}{want b:Bool}{t:Nat}[hq:Qqq (((ops[j]?).bind (·.dst),gt L t)) ((some t,some (.bool b)))](hw:b=want)
  (h:S P n ops Q (⟨dst,op,ty,pos,af,none⟩::rest) L w):S P n ops Q (⟨dst,op,ty,pos,af,some (j,want)⟩::rest) L w:=Yc (Prod.mk.inj hq.e).1 (Prod.mk.inj hq.e).2 hw h
theorem Ar{op:Op}{j:Nat}{want b:Bool}{t:Nat}[hq:Qqq (((ops[j]?).bind (·.dst),gt L t)) ((some t,some (.bool b)))](hw:b = !want)[hn:Qqq (Qzw d n.n) true]
  (h:S P n ops Q rest ((d,undef)::L) w):S P n ops Q (⟨some d,op,ty,pos,af,some (j,want)⟩::rest) L w:=Wg (Prod.mk.inj hq.e).1 (Prod.mk.inj hq.e).2 hw hn.e h
theorem BS{op:Op}{j:Nat}{want:Bool}{t:Nat}[hj:Qqq (((ops[j]?).bind (·.dst))) (some t)][hb:Qqq (gt L t) (some undef)][hn:Qqq (Qzw d n.n) true]
  (h:S P n ops Q rest ((d,undef)::L) w):S P n ops Q (⟨some d,op,ty,pos,af,some (j,want)⟩::rest) L w:=fun a fr=>by
 simp only[wpList];have hy:yielded ops a.tmps j=none:=by simp[yielded,hj.e,fr.get t _ hb.e,undef]
 have hwant:Region.wanted ⟨some d,op,ty,pos,af,some (j,want)⟩ (yielded ops a.tmps)=false:=by simp[Region.wanted,hy]
 rw[hwant];exact h _ (fr.put hn.e)
end
end Go.E
namespace Go.E
open Go
def nth:Qq6->Nat->Option Value
 | [],_=>none
 | v::_,0=>some v
 | _::l,i+1=>nth l i
theorem Ab0:∀(l:Qq6) (i:Nat),nth l i=l[i]?
 | [],_=>rfl
 | _::_,0=>rfl
 | _::l,i+1=>by simpa[nth]using Ab0 l i
def Ajr:BinOp->Int->Int->Option Bool
 | .eql,a,b=>some (decide (a=b))
 | .neq,a,b=>some (!decide (a=b))
 | .lss,a,b=>some (decide (a<b))
 | .leq,a,b=>some (decide (a<=b))
 | .gtr,a,b=>some (decide (b<a))
 | .geq,a,b=>some (decide (b<=a))
 | _,_,_=>none
def Pu:IntKind->IntKind->Bool
 | .i8,.i8 | .i16,.i16 | .i32,.i32 | .i64,.i64 | .u8,.u8 | .u16,.u16 | .u32,.u32 | .u64,.u64=>true
 | _,_=>false
theorem Ae9:∀{a b:IntKind},Pu a b=true->a=b
 | .i8,.i8,_=>rfl | .i16,.i16,_=>rfl | .i32,.i32,_=>rfl | .i64,.i64,_=>rfl
 | .u8,.u8,_=>rfl | .u16,.u16,_=>rfl | .u32,.u32,_=>rfl | .u64,.u64,_=>rfl
def pu(L:Env):Op->Option Value
 | .move x=>ev L x
 | .assign x=>ev L x
 | .extract x i=>match ev L x with
  | some (.tuple vs)=>nth vs.toList i
  | _=>none
 | .binOp op _ x y _=>match ev L x,ev L y with
  | some (.int k a),some (.int k' b)=>bif Pu k k' then(match Ajr op a b with | some r=>some (.bool r) | none=>none)else none
  | _,_=>none
 | .unOp .not _ x=>match ev L x with
  | some (.bool b)=>some (.bool (!b))
  | _=>none
 | .makeFunc fn first captured=>match Vc L first.toList,Vc L captured.toList with
  | some a,some b=>some (.func fn a.toArray b.toArray)
  | _,_=>none
 | .pick c a b=>match ev L c with
  | some (.bool true)=>ev L a
  | some (.bool false)=>ev L b
  | _=>none
 | _=>none
section
variable {P:Program}{n:Sz}{ops:Array Oper}{Q:Exit->Act->World->Prop}{L:Env}{w:World}{rest:List Oper}
 {d:Nat}{ty:TypeId}{pos:String}{af:Array Edge}
theorem Ab1{op:BinOp}{t:TypeId}{x y:Operand}{k:IntKind}{a b:Int}{r:Bool}(h:Ajr op a b=some r):
  (do eqGuard op t x y (.int k a) (.int k b);binOp op t (.int k a) (.int k b)).run P w=.ok (.bool r) w:=by
 cases op <;> simp only[Ajr,Option.some.injEq,reduceCtorEq]at h <;> subst h <;>
  simp[eqGuard,binOp,Op.intCmp,GT.gt,GE.ge,bne,BEq.beq]
theorem AeA{op:Op}{v:Value}{dst:Option Tmp}(h:pu L op=some v)(ρ:Operand->Value)(hρ:Rho L ρ):
  (execOp ρ ⟨dst,op,ty,pos,af,none⟩).run P w=.ok (.value v) w:=by
 unfold pu at h
 split at h
 ·rename_i x;simp[execOp,hρ x v h]
 ·rename_i x;simp[execOp,hρ x v h]
 ·rename_i x i
  split at h
  ·rename_i vs hx;rw[Ab0]at h;have h':vs[i]? = some v:=by simpa using h
   simp[execOp,hρ x _ hx,Instr.extract,h']
  ·cases h
 ·rename_i op t x y t'
  split at h
  ·rename_i k a k' b hx hy
   cases hk:Pu k k' with
   | false=>rw[hk]at h;cases h
   | true=>
    rw[hk]at h;obtain rfl:=Ae9 hk;simp only[cond_true]at h
    split at h
    ·rename_i r hr
     cases h
     have:=Ab1 (P:=P) (w:=w) (t:=t) (x:=x) (y:=y) (k:=k) hr;simp only[execOp,hρ x _ hx,hρ y _ hy];simp only[Sem.run_bind]at this ⊢;rw[this]
     rfl
    ·cases h
  ·cases h
 ·rename_i t x
  split at h
  ·rename_i b hx;cases h;simp[execOp,hρ x _ hx,Op.unary]
  ·cases h
 ·rename_i fn first captured
  split at h
  ·rename_i a b d h2
   cases h
   have e:=hρ.map _ _ d;have f:=hρ.map _ _ h2;have f1:first.map ρ=a.toArray:=by apply Array.ext';simpa using e
   have f2:captured.map ρ=b.toArray:=by apply Array.ext';simpa using f
   simp[execOp,Instr.makeFunc,f1,f2]
  ·cases h
 ·rename_i c a b
  split at h
  ·rename_i hc;simp[execOp,hρ c _ hc,hρ a _ h,asBool]
  ·rename_i hc;simp[execOp,hρ c _ hc,hρ b _ h,asBool]
  ·cases h
 ·cases h
def SV(n:Sz)(o:Oper)(L:Env):Option Env:=
 match o with
 | ⟨some d,op,_,_,_,none⟩=>match pu L op with
  | some v=>bif Qzw d n.n then some ((d,v)::L)else none
  | none=>none
 | _=>none
def puK(n:Sz):Nat->List Oper->Env->Option (List Oper×Env)
 | 0,l,L=>some (l,L)
 | k+1,o::l,L=>match SV n o L with
  | some L'=>puK n k l L'
  | none=>none
 | _+1,[],_=>none
theorem ZS{o:Oper}{L':Env}(h:SV n o L=some L')(hS:S P n ops Q rest L' w):S P n ops Q (o::rest) L w:=by
 unfold SV at h
 split at h
 ·rename_i d op t ps aft
  split at h
  ·rename_i v hv
   cases hd:Qzw d n.n with
   | false=>rw[hd]at h;cases h
   | true=>rw[hd]at h;cases h;exact Ei hd (AeA hv) hS
  ·cases h
 ·cases h
theorem AiN:∀(k:Nat) {l l':List Oper}{L L':Env} (_:puK n k l L=some (l',L')) (_:S P n ops Q l' L' w),S P n ops Q l L w
 | 0,l,l',L,L',h,hS=>by simp only[puK,Option.some.injEq,Prod.mk.injEq]at h;obtain⟨rfl,rfl⟩:=h;exact hS
 | k+1,[],l',L,L',h,hS=>by simp only[puK,reduceCtorEq]at h
 | k+1,o::l,l',L,L',h,hS=>by
  simp only[puK]at h
  split at h
  ·rename_i L1 a;exact ZS a (AiN k h hS)
  ·cases h
theorem As(k:Nat){l l':List Oper}{L L':Env}(h:puK n k l L=some (l',L'))(hS:S P n ops Q l' L' w):S P n ops Q l L w:=AiN k h hS
theorem AA(k:Nat){l:List Oper}{L L':Env}{y:Code}(h:puK n k l L=some ([],L'))(hW:W P n y Q L' w):S P n ops (Ut P y Q) l L w:=As k h (Ad hW)
theorem Bo{id:Nat}{l l':List Oper}{L L':Env}{y:Code}(k:Nat)(h:puK n k l L=some (l',L'))(hS:S P n l.toArray (Ut P y Q) l' L' w):W P n (.seq (.region id l.toArray false) y) Q L w:=Ao (As k h hS)
theorem A7{id:Nat}{l:List Oper}{L L':Env}{y:Code}(k:Nat)(h:puK n k l L=some ([],L'))(hW:W P n y Q L' w):W P n (.seq (.region id l.toArray false) y) Q L w:=Ao (AA k h hW)
theorem wrap64{x:Int}(a : -9223372036854775808<=x)(h2:x<=9223372036854775807):IntKind.i64.wrap x=x:=by
 simp only[IntKind.wrap,IntKind.bits,IntKind.signed,Bool.true_and,decide_eq_true_eq,ge_iff_le]
 split <;> omega
theorem Ab2{x:Int}(a:0<=x)(h2:x<256):IntKind.u8.wrap x=x:=by
 simp only[IntKind.wrap,IntKind.bits,IntKind.signed,Bool.false_and,Qxk,if_false];omega
theorem VO{x:Int}:IntKind.u8.wrap x=x % 256:=by
 simp only[IntKind.wrap,IntKind.bits,IntKind.signed,Bool.false_and,Qxk,if_false];omega
def arI:BinOp->Int->Int->Option Int
 | .add,a,b=>some (a+b)
 | .sub,a,b=>some (a - b)
 | .mul,a,b=>some (a * b)
 | _,_,_=>none
theorem AeB{a b:Int}(ha:0<=a):a.tdiv b=a / b:=Int.tdiv_eq_ediv_of_nonneg ha
theorem AeC{a b:Int}(ha:0<=a):a.tmod b=a % b:=Int.tmod_eq_emod_of_nonneg ha
theorem Ahn{a b:Int}(ha:0<=a)(hb:0<b):0<=a / b/\a / b<=a:=by
 refine⟨Int.ediv_nonneg ha U,?_⟩;exact Int.ediv_le_self b ha
theorem M8{f:FuncId}{args:List Operand}{vs:Qq6}{at_:Array TypeId}{dst:Option Tmp}(hc:Kh P f)(ha:Vc L args=some vs)(ρ:Operand->Value)(hρ:Rho L ρ):
  (execOp ρ ⟨dst,.call ⟨.value (.func f),args.toArray,at_⟩,ty,pos,af,none⟩).run P w=.ok (.enter f vs.toArray) w:=by
 obtain ⟨fn, c, a, h2, h3⟩ := hc;have b : ρ (.func f) = .func (.func f) #[] #[] := hρ _ _ rfl;have d := hρ.map _ _ ha;have h2' : ¬fn.name = "runtime.NumGoroutine" := by simpa using h2
 simp[execOp,resolve,b,Deferred.ofValue,d,invoke,callFunc,a,h2',h3]
theorem Fh{f:FuncId}{args:List Operand}{vs:Qq6}{at_:Array TypeId}{R:Value->World->Prop}[ha:Qqq (Vc L args) (some vs)][hn:Qqq (Qzw d n.n) true](hok:Ok P f vs w R)
  (h:∀v w',R v w'->S P n ops Q rest ((d,v)::L) w'):S P n ops Q (⟨some d,.call ⟨.value (.func f),args.toArray,at_⟩,ty,pos,af,none⟩::rest) L w:=
 XD Z fun a fr=>by
  unfold Oper.wp;rw[M8 hok.1 ha.e _ fr.Yb];refine hok.2.mono fun e w' ⟨v,he,hv⟩=>?_;subst he;exact h v w' hv _ (fr.put hn.e)
def puG(n:Sz)(j:Nat)(want:Bool)(L0:Env):Nat->List Oper->Env->Option (List Oper×Env)
 | 0,l,L=>some (l,L)
 | k+1,⟨some d,op,ty,pos,af,some (j',want')⟩::l,L=>
  bif QxA j j'&&(want==want')&&(gt L0 d).isNone then
   match SV n ⟨some d,op,ty,pos,af,none⟩ L with
   | some L'=>puG n j want L0 k l L'
   | none=>none
  else none
 | _+1,_,_=>none
theorem Ve{j:Nat}{want:Bool}{t:Nat}{L0:Env}(hj:((ops[j]?).bind (·.dst))=some t):∀(k:Nat) {l l':List Oper}{L L':Env},gt L t=some (.bool want)->gt L0 t=some (.bool want)->puG n j want L0 k l L=some (l',L')->
  S P n ops Q l' L' w->S P n ops Q l L w:=by
 intro k
 induction k with
 | zero=>intro l l' L L' _ _ h hS;simp only[puG,Option.some.injEq,Prod.mk.injEq]at h;obtain⟨rfl,rfl⟩:=h;exact hS
 | succ k ih=>
  intro l l' L L' hb b h hS
  match l,h with
  | [],h=>cases h
  | ⟨none,_,_,_,_,_⟩::l,h=>cases h
  | ⟨some d,op,ty,pos,af,none⟩::l,h=>cases h
  | ⟨some d,op,ty,pos,af,some (j',want')⟩::l,h=>
   simp only[puG]at h
   cases hc:(QxA j j'&&(want==want')&&(gt L0 d).isNone)with
   | false=>rw[hc]at h;cases h
   | true=>
    rw[hc]at h;simp only[QzQ,QjJ]at hc;obtain⟨⟨c1,c2⟩,c3⟩:=hc;obtain rfl:=Qju c1;obtain rfl:want=want':=by simpa using c2
    simp only[cond_true]at h
    split at h
    ·rename_i L1 a;refine Yc hj hb Z (ZS a (ih ?_ b h hS));simp only[SV]at a
     split at a
     ·rename_i v hv
      cases hd:Qzw d n.n with
      | false=>rw[hd]at a;cases a
      | true=>
       rw[hd]at a;cases a;rw[PW]
       by_cases e:d=t
       ·subst e;rw[b]at c3;cases c3
       ·rw[if_neg e];exact hb
     ·cases a
    ·cases h
theorem Wh{j:Nat}{want:Bool}{t:Nat}{L0:Env}(hj:((ops[j]?).bind (·.dst))=some t):∀(k:Nat) {l l':List Oper}{L L' M:Env},Sub L0 M->gt L0 t=some (.bool (!want))->puG n j want L0 k l L=some (l',L')->
  (∀M',Sub L0 M'->S P n ops Q l' M' w)->S P n ops Q l M w:=by
 intro k
 induction k with
 | zero=>intro l l' L L' M hM _ h hS;simp only[puG,Option.some.injEq,Prod.mk.injEq]at h;obtain⟨rfl,rfl⟩:=h;exact hS M hM
 | succ k ih=>
  intro l l' L L' M hM b h hS
  match l,h with
  | [],h=>cases h
  | ⟨none,_,_,_,_,_⟩::l,h=>cases h
  | ⟨some d,op,ty,pos,af,none⟩::l,h=>cases h
  | ⟨some d,op,ty,pos,af,some (j',want')⟩::l,h=>
   simp only[puG]at h
   cases hc:(QxA j j'&&(want==want')&&(gt L0 d).isNone)with
   | false=>rw[hc]at h;cases h
   | true=>
    rw[hc]at h;simp only[QzQ,QjJ]at hc;obtain⟨⟨c1,c2⟩,c3⟩:=hc;obtain rfl:=Qju c1;obtain rfl:want=want':=by simpa using c2
    simp only[cond_true]at h
    split at h
    ·rename_i L1 a
     have hd:Qzw d n.n=true:=by
      simp only[SV]at a
      split at a
      ·cases hd:Qzw d n.n with
       | false=>rw[hd]at a;cases a
       | true=>rfl
      ·cases a
     refine Wg hj (hM t _ b) Z hd (ih (fun t' v hv=>?_) b h hS);rw[PW]
     by_cases e:d=t'
     ·subst e;rw[hv]at c3;cases c3
     ·rw[if_neg e];exact hM t' v hv
    ·cases h
theorem Sub.both{t:Nat}{v:Value}{L L':Env}(h:Sub L L'):Sub ((t,v)::L) ((t,v)::L'):=fun t' u hu=>by
 rw[PW]at hu ⊢
 by_cases e:t=t'
 ·rw[if_pos e]at hu ⊢;exact hu
 ·rw[if_neg e]at hu ⊢;exact h t' u hu
theorem Ac7{j:Nat}{want:Bool}{L0:Env}:∀(k:Nat) {l l':List Oper}{L L':Env},Sub L0 L->puG n j want L0 k l L=some (l',L')->Sub L0 L':=by
 intro k
 induction k with
 | zero=>intro l l' L L' hM h;simp only[puG,Option.some.injEq,Prod.mk.injEq]at h;obtain⟨rfl,rfl⟩:=h;exact hM
 | succ k ih=>
  intro l l' L L' hM h
  match l,h with
  | [],h=>cases h
  | ⟨none,_,_,_,_,_⟩::l,h=>cases h
  | ⟨some d,op,ty,pos,af,none⟩::l,h=>cases h
  | ⟨some d,op,ty,pos,af,some (j',want')⟩::l,h=>
   simp only[puG]at h
   cases hc:(QxA j j'&&(want==want')&&(gt L0 d).isNone)with
   | false=>rw[hc]at h;cases h
   | true=>
    rw[hc]at h;simp only[QzQ,QjJ]at hc;obtain⟨⟨c1,c2⟩,c3⟩:=hc;simp only[cond_true]at h
    split at h
    ·rename_i L1 a;refine ih ?_ h;simp only[SV]at a
     split at a
     ·rename_i v hv
      cases hd:Qzw d n.n with
      | false=>rw[hd]at a;cases a
      | true=>
       rw[hd]at a;cases a;intro t' u hu;rw[PW]
       by_cases e:d=t'
       ·subst e;rw[hu]at c3;cases c3
       ·rw[if_neg e];exact hM t' u hu
     ·cases a
    ·cases h
theorem Sub.ev{L M:Env}(hM:Sub L M){x:Operand}{v:Value}(hx:ev L x=some v):ev M x=some v:=by
 cases x with
 | tmp t=>exact hM t v hx
 | const _=>exact hx
 | func _=>exact hx
 | _=>exact hx
theorem VP(k j:Nat){t:Nat}{b r s:Bool}{c x y:Operand}{l l':List Oper}{L1:Env}(hj:((ops[j]?).bind (·.dst))=some t)(hb:gt L t=some (.bool b))
  (hg:puG n j true L k l L=some (⟨some d,.pick c x y,ty,pos,af,none⟩::l',L1)) (hc:ev L c=some (.bool b)) (hx:ev L1 x=some (.bool r)) (hy:ev L y=some (.bool s)) (hn:Qzw d n.n=true)
  (h:S P n ops Q l' ((d,.bool (bif b then r else s))::L) w):S P n ops Q l L w:=by
 have hsub:Sub L L1:=Ac7 k (Sub.refl L) hg
 cases b with
 | true=>
  refine Ve (L0:=L) hj k hb hb hg<|Ei hn (v:=.bool r) (w':=w) (fun ρ hρ=>by simp[execOp,hρ c _ (Sub.ev hsub hc),hρ x _ hx,asBool])<|S.sub h hsub.both
 | false=>
  refine Wh (L0:=L) (want:=true) hj k (Sub.refl L) hb hg fun M hM=>Ei hn (v:=.bool s) (w':=w) (fun ρ hρ=>by simp[execOp,hρ c _ (Sub.ev hM hc),hρ y _ (Sub.ev hM hy),asBool])<|S.sub h hM.both
theorem Ac8(k j:Nat){t:Nat}{b r s:Bool}{c x y:Operand}{l l':List Oper}{L1:Env}(hj:((ops[j]?).bind (·.dst))=some t)(hb:gt L t=some (.bool b))
  (hg:puG n j false L k l L=some (⟨some d,.pick c x y,ty,pos,af,none⟩::l',L1)) (hc:ev L c=some (.bool b)) (hx:ev L x=some (.bool r)) (hy:ev L1 y=some (.bool s)) (hn:Qzw d n.n=true)
  (h:S P n ops Q l' ((d,.bool (bif b then r else s))::L) w):S P n ops Q l L w:=by
 have hsub:Sub L L1:=Ac7 k (Sub.refl L) hg
 cases b with
 | false=>
  refine Ve (L0:=L) hj k hb hb hg<|Ei hn (v:=.bool s) (w':=w) (fun ρ hρ=>by simp[execOp,hρ c _ (Sub.ev hsub hc),hρ y _ hy,asBool])<|S.sub h hsub.both
 | true=>
  refine Wh (L0:=L) (want:=false) hj k (Sub.refl L) hb hg fun M hM=>Ei hn (v:=.bool r) (w':=w) (fun ρ hρ=>by simp[execOp,hρ c _ (Sub.ev hM hc),hρ x _ (Sub.ev hM hx),asBool])<|S.sub h hM.both
theorem Aho{p q:Prop}[Decidable p][Decidable q]:(bif decide p then decide q else false)=decide (p/\q):=by by_cases hp:p <;> simp[hp]
theorem Ajs{p q:Prop}[Decidable p][Decidable q]:(bif decide p then true else decide q)=decide (p\/q):=by by_cases hp:p <;> simp[hp]
theorem Ns(k j:Nat){t:Nat}{p q:Prop}[Decidable p][Decidable q]{c x:Operand}{l l':List Oper}{L1:Env}(hj:((ops[j]?).bind (·.dst))=some t)(hb:gt L t=some (.bool (decide p)))
  (hg:puG n j true L k l L=some (⟨some d,.pick c x (.const (.bool false)),ty,pos,af,none⟩::l',L1)) (hc:ev L c=some (.bool (decide p))) (hx:ev L1 x=some (.bool (decide q))) (hn:Qzw d n.n=true)
  (h:S P n ops Q l' ((d,.bool (decide (p/\q)))::L) w):S P n ops Q l L w:=
 VP k j hj hb hg hc hx Z hn (by rw[Aho];exact h)
theorem Ab3(k j:Nat){t:Nat}{p q:Prop}[Decidable p][Decidable q]{c y:Operand}{l l':List Oper}{L1:Env}(hj:((ops[j]?).bind (·.dst))=some t)(hb:gt L t=some (.bool (decide p)))
  (hg:puG n j false L k l L=some (⟨some d,.pick c (.const (.bool true)) y,ty,pos,af,none⟩::l',L1)) (hc:ev L c=some (.bool (decide p))) (hy:ev L1 y=some (.bool (decide q))) (hn:Qzw d n.n=true)
  (h:S P n ops Q l' ((d,.bool (decide (p\/q)))::L) w):S P n ops Q l L w:=
 Ac8 k j hj hb hg hc Z hy hn (by rw[Ajs];exact h)
end
theorem drawn_setCell(w:World)(a:Addr)(v:Value):(w.setCell a v).drawn=w.drawn:=by
 unfold World.setCell
 split <;> rfl
theorem YK(w:World)(a:Addr)(n:Nat):(w.freeze a n).drawn=w.drawn:=by
 unfold World.freeze
 split <;> rfl
theorem V0{p:Program}{w a:World}{at_:Addr}{u:TypeId}{k:Addr}{v:Value}{atomic:Bool}{l:List Addr}(h:w.viewStore p at_ u k v atomic=.ok (a,l)):a.drawn=w.drawn:=by
 unfold World.viewStore at h;simp only[bind,Except.bind,pure,Except.pure,throwThe,MonadExceptOf.throw,MonadExcept.throw]at h
 repeat' split at h
 all_goals first
  | (cases h;done)
  | (cases h;rfl)
theorem Wi{p:Program}{w b:World}{a:Addr}{v:Value}{atomic:Bool}{l:List Addr}(h:w.farStore p a v atomic=.ok (b,l)):b.drawn=w.drawn:=by
 unfold World.farStore at h
 split at h
 ·split at h
  ·rename_i r hr;cases h;exact V0 hr
  ·cases h
 ·cases h
theorem Uv{α:Type}:∀(q:Ask α) (w:World),w.drawn<=(w.ask q).2.drawn
 | .done a,w=>Qzu _
 | .ask what range k,w=>by
  unfold World.ask;simp only
  split
  ·exact Uv (k 0) w
  ·exact Qxy (Nat.le_succ _) (Uv _ {w with drawn:=w.drawn+1})
theorem AdC(w:World)(c:Sys):w.drawn<=(w.sys c).2.drawn:=by
 unfold World.sys;have:=Uv (Kernel.perform c w.os) w
 split
 ·exact Qzu _
 ·rename_i r os a _ e;rw[e]at this;exact this
theorem Se{α:Type}{p:Program}:∀(s:Sem α) (w:World) (a:α) (w':World),s.run p w=.ok a w'->w.drawn<=w'.drawn:=by
 intro s
 induction s with
 | pure a=>intro w x w' h;cases h;exact Qzu _
 | load m a k ih=>
  intro w x w' h;unfold Sem.run at h
  split at h
  ·exact ih _ _ _ _ h
  ·split at h
   ·exact ih _ _ _ _ h
   ·cases h
 | store m a v k ih=>
  intro w x w' h
  cases v <;> simp only[Sem.run]at h
  all_goals first
   | (cases h;done)
   | (
    split at h
    ·split at h
     ·cases h
     ·have:=ih _ _ _ h;rwa [drawn_setCell]at this
    ·split at h
     ·rename_i hf;have b:=ih _ _ _ h;rw[Wi hf]at b;exact b
     ·cases h)
 | new o k ih=>intro w x w' h;exact ih _ {w with heap:=w.heap.push o} _ _ h
 | shape r k ih=>intro w x w' h;exact ih _ _ _ _ h
 | freeze a n k ih=>intro w x w' h;have:=ih _ _ _ h;rwa [YK]at this
 | frozen a k ih=>intro w x w' h;exact ih _ _ _ _ h
 | getObj r k ih=>
  intro w x w' h;unfold Sem.run at h
  split at h
  ·cases h
  ·exact ih _ _ _ _ h
  ·cases h
 | setObj r o k ih=>
  intro w x w' h;unfold Sem.run at h
  split at h
  ·cases h
  ·exact ih {w with heap:=w.heap.setIfInBounds r o} _ _ h
  ·cases h
 | choose q k ih=>
  intro w x w' h;unfold Sem.run at h
  split at h
  ·exact ih _ _ _ _ h
  ·have:=ih _ _ _ _ h;simp only at this;omega
 | sys c k ih=>
  intro w x w' h;refine Qxy ?_ (ih _ _ _ _ h);exact AdC w c
 | program k ih=>intro w x w' h;exact ih _ _ _ _ h
 | mark m k ih=>intro w x w' h;exact ih _ _ _ h
 | halt h=>intro w x w' h;cases h
end Go.E
namespace Go.E
open Go Go.RowKit
class Dr where
 on:Bool
structure Ext [Dr] (w w':World):Prop extends Below w.heap.size w w' where
 drawn:Dr.on=true->w.drawn<=w'.drawn
theorem Ext.refl[Dr](w:World):Ext w w:=⟨Below.refl _ _,fun _=>Qzu _⟩
theorem Ext.trans[Dr]{a b c:World}(h:Ext a b)(k:Ext b c):Ext a c:=⟨Below.trans h.toBelow (Below.mono k.toBelow h.size),fun o=>Qxy (h.drawn o) (k.drawn o)⟩
abbrev PH:=Nat->Option Obj
def Le(A B:PH):Prop:=∀b o,A b=some o->B b=some o
theorem Le.refl(A:PH):Le A A:=fun _ _ h=>h
theorem Le.trans{A B C:PH}(h:Le A B)(k:Le B C):Le A C:=fun b o e=>k b o (h b o e)
def hp(w:World):PH:=fun b=>w.heap[b]?
def nw(w w':World):PH:=fun b=>if w.heap.size<=b then w'.heap[b]? else none
theorem EJ{w:World}{b:Nat}{o:Obj}(h:w.heap[b]? = some o):b<w.heap.size:=(Array.getElem?_eq_some_iff.1 h).1
theorem Ext.le[Dr]{w w':World}(h:Ext w w'):Le (hp w) (hp w'):=fun b o e=>by
 have:b<w.heap.size:=EJ e
 show w'.heap[b]? = some o
 rw[h.block b this];exact e
theorem Le.ext[Dr]{A:PH}{w w':World}(h:Le A (hp w))(hx:Ext w w'):Le A (hp w'):=h.trans hx.le
def IW(H:PH)(a:Addr):Option Value:=
 match H a.block with
 | some (.cells c _ _)=>if a.spot.isSome then none else c[a.off]?
 | _=>none
theorem AeD(w:World)(a:Addr):IW (hp w) a=w.cell? a:=Z
theorem KJ{A B:PH}(h:Le A B){a:Addr}{v:Value}(e:IW A a=some v):IW B a=some v:=by
 unfold IW at e ⊢
 split at e
 ·rename_i c t f hc;rw[h _ _ hc];exact e
 ·cases e
theorem cell_of{H:PH}{w:World}(h:Le H (hp w)){a:Addr}{v:Value}(e:IW H a=some v):w.cell? a=some v:=KJ h e
structure Rp (α:Type) where
 sz:Nat
 rel:PH->α->Qq6->Prop
 len:∀{H x c},rel H x c->c.length=sz
 mono:∀{H H' x c},Le H H'->rel H x c->rel H' x c
 one:∀{H x c},rel H x c->∀u∈c,u.oneCell'=true
def Hy(H:PH)(p:Addr)(c:Qq6):Prop:=p.spot=none/\∀j u,c[j]? = some u->IW H (p.add j)=some u
structure AS {α:Type} (r:Rp α) (H:PH) (v:Value) (l:List α):Prop where
 ex:∃a cap,v=.slice a l.length cap/\l.length<=cap/\cap<=maxLen/\(a=none->cap=0)/\
  ∀A,a=some A->l≠[]->A.spot=none/\∀i x,l[i]? = some x->∃c,r.rel H x c/\∀j u,c[j]? = some u->IW H (A.add (i * r.sz+j))=some u
theorem AS.mono{α:Type}{r:Rp α}{H H':PH}{v:Value}{l:List α}(h:AS r H v l)(hs:Le H H'):AS r H' v l:=by
 obtain⟨a,cap,b,h2,h3,d,e⟩:=h.ex;refine⟨a,cap,b,h2,h3,d,fun A hA hl=>?_⟩;obtain⟨f,g⟩:=e A hA hl;refine⟨f,fun i x hx=>?_⟩;obtain⟨c,hc,hcell⟩:=g i x hx;exact⟨c,r.mono hs hc,fun j u hu=>KJ hs (hcell j u hu)⟩
theorem AS.nil{α:Type}(r:Rp α)(H:PH):AS r H (.slice none 0 0) ([]:List α):=
 ⟨none,0,Z,Qzu _,Qz5 _,fun _=>Z,fun _ h=>by cases h⟩
theorem AS.header{α:Type}{r:Rp α}{H:PH}{v:Value}{l:List α}(h:AS r H v l):∃a cap,v=.slice a l.length cap:=by
 obtain⟨a,cap,b,_⟩:=h.ex;exact⟨a,cap,b⟩
def Rp.int(k:IntKind):Rp Int:=⟨1,fun _ x c=>c=[.int k x],fun h=>by simp[h],fun _ h=>h,fun h u hu=>by subst h;simp at hu;subst hu;rfl⟩
def Rp.byte:Rp UInt8:=⟨1,fun _ x c=>c=[.int .u8 (x.toNat:Int)],fun h=>by simp[h],fun _ h=>h,fun h u hu=>by subst h;simp at hu;subst hu;rfl⟩
def Rp.bool:Rp Bool:=⟨1,fun _ x c=>c=[.bool x],fun h=>by simp[h],fun _ h=>h,fun h u hu=>by subst h;simp at hu;subst hu;rfl⟩
def Rp.vec{α:Type}(r:Rp α):Rp (List α):=⟨1,fun H x c=>∃v,c=[v]/\AS r H v x,fun h=>by obtain⟨v,h,_⟩:=h;simp[h],fun hs h=>by obtain⟨v,h,hv⟩:=h;exact⟨v,h,hv.mono hs⟩,
 fun h u hu=>by obtain⟨v,h,hv⟩:=h;subst h;simp at hu;subst hu;obtain⟨a,cap,e⟩:=hv.header;subst e;rfl⟩
def Rp.pair{α β:Type}(r:Rp α)(s:Rp β):Rp (α×β):=⟨r.sz+s.sz,fun H x c=>∃c1 c2,c=c1++c2/\r.rel H x.1 c1/\s.rel H x.2 c2,
 fun h=>by obtain⟨c1,c2,e,a,h2⟩:=h;simp[e,r.len a,s.len h2],
 fun hs h=>by obtain⟨c1,c2,e,a,h2⟩:=h;exact⟨c1,c2,e,r.mono hs a,s.mono hs h2⟩,
 fun h u hu=>by
  obtain⟨c1,c2,e,a,h2⟩:=h;subst e
  rcases QzK.1 hu with hu | hu
  ·exact r.one a u hu
  ·exact s.one h2 u hu⟩
inductive BV where
 | box (b:Nat) (cs:Qq6) (t:TypeId)
 | row (v:Value) (e:TypeId) (sz n:Nat) (xs:Qq6)
 | obj (b:Nat) (o:Obj)
abbrev Ha(l O:List BV):List BV:=l++O
def BV.block:BV->Option Nat
 | .box b _ _=>some b
 | .row v _ _ _ _=>v.ownBlock
 | .obj b _=>some b
def BV.ok(w:World):BV->Prop
 | .box b cs t=>w.heap[b]? = some (.cells cs.toArray t (0,0))
 | .row v e sz n xs=>w.ownsRow 0 e sz v n xs
 | .obj b o=>w.heap[b]? = some o
theorem BV.ok.lt{w:World}{r:BV}(h:r.ok w){b:Nat}(hb:r.block=some b):b<w.heap.size:=by
 cases r with
 | box b' cs t=>cases hb;exact EJ h
 | row v e sz n xs=>exact(World.ownsRow.lt h b hb).2
 | obj b' o=>cases hb;exact EJ h
theorem BV.ok.same{w w':World}{r:BV}(h:r.ok w)(hs:∀b,r.block=some b->w'.heap[b]? = w.heap[b]?):r.ok w':=by
 cases r with
 | box b cs t=>show w'.heap[b]? = _;rw[hs b Z];exact h
 | obj b o=>show w'.heap[b]? = _;rw[hs b Z];exact h
 | row v e sz n xs=>
  refine⟨h.1,?_⟩
  rcases h.2 with hn | ⟨g,cap,cur,rfl,hb,hgg,rest⟩
  ·exact .inl hn
  ·refine .inr ⟨g,cap,cur,Z,hb,?_,rest⟩;rw[hs g Z];exact hgg
theorem BV.ok.ext[Dr]{w w':World}{r:BV}(h:r.ok w)(hx:Ext w w'):r.ok w':=h.same fun b hb=>hx.block b (h.lt hb)
def owned(O:List BV)(b:Nat):Bool:=O.any fun r=>r.block==some b
theorem E7{O:List BV}{b:Nat}:owned O b=true↔∃r∈O,r.block=some b:=by simp[owned]
def fz(w:World)(O:List BV):PH:=fun b=>if owned O b then none else w.heap[b]?
theorem Ac9(w:World)(O:List BV):Le (fz w O) (hp w):=fun b o e=>by
 unfold fz at e
 split at e
 ·cases e
 ·exact e
structure Bk [Dr] (a:World) (O:List BV) (w:World):Prop where
 ext:Ext a w
 res:∀r∈O,r.ok w
 own:∀r∈O,∀b,r.block=some b->a.heap.size<=b
 dis:O.Pairwise fun r s=>∀b,r.block=some b->s.block≠some b
theorem Bk.start[Dr](w:World):Bk w [] w:=⟨Ext.refl w,(fun _ h=>by cases h),(fun _ h=>by cases h),List.Pairwise.nil⟩
theorem A4[Dr]{P:Program}{f:FuncId}{fn:Func}{c:Code}{args:Qq6}{w:World}{R:Value->World->Prop}(n:Nat)(L:Env)
  (hf : P.funcs[f]? = some fn) (hq : (fn.name == "runtime.NumGoroutine", fn.body, fn.ntmps, Nat.ble args.length n, SU 0 args) = (false, some c, n, true, L))
  (h:Bk w [] w->W P ⟨n,[]⟩ c (Rb P fn R) L w):Ok P f args w R:=by
 simp only[Prod.mk.injEq]at hq;exact Cj L hf (hname:=⟨hq.1⟩) hq.2.1 hq.2.2.1 hq.2.2.2.1 hq.2.2.2.2 (h (Bk.start w))
theorem Bk.arg[Dr]{a w:World}{O:List BV}(h:Bk a O w):Le (hp a) (hp w):=h.ext.le
theorem Bk.lt[Dr]{a w:World}{O:List BV}(h:Bk a O w){b:Nat}(hb:owned O b=true):b<w.heap.size:=by
 obtain⟨r,hr,e⟩:=E7.1 hb;exact(h.res r hr).lt e
theorem Bk.Aku[Dr]{a w:World}{O:List BV}(h:Bk a O w):Le (hp a) (fz w O):=fun b o e=>by
 unfold fz;rw[if_neg]
 ·exact h.arg b o e
 ·intro ho;obtain⟨r,hr,e'⟩:=E7.1 ho;have:=h.own r hr b e';have:=EJ (w:=a) e;omega
theorem Bk.call[Dr]{a w w':World}{O:List BV}(h:Bk a O w)(hx:Ext w w'):Bk a O w':=
 ⟨h.ext.trans hx,fun r hr=>(h.res r hr).ext hx,h.own,h.dis⟩
theorem AH[Dr]{a w w':World}{O:List BV}(_h:Bk a O w)(hx:Ext w w'):Le (fz w O) (fz w' O):=fun b o e=>by
 unfold fz at e ⊢
 split at e
 ·cases e
 ·rename_i ho;rw[if_neg ho];exact hx.le b o e
theorem AiO[Dr]{a w w':World}{O:List BV}(h:Bk a O w):Le (nw w w') (fz w' O):=fun b o e=>by
 unfold nw at e
 split at e
 ·rename_i hb;unfold fz;rw[if_neg]
  ·exact e
  ·intro ho;have:=h.lt ho;omega
 ·cases e
theorem Bk.drop[Dr]{a w:World}{O:List BV}{r:BV}(h:Bk a (r::O) w):Bk a O w:=
 ⟨h.ext,fun s hs=>h.res s (.tail _ hs),fun s hs=>h.own s (.tail _ hs),(Qxx.1 h.dis).2⟩
theorem Ahq{w:World}{O:List BV}{r:BV}:Le (fz w (r::O)) (fz w O):=fun b o e=>by
 unfold fz at e ⊢
 split at e
 ·cases e
 ·rename_i ho;rw[if_neg]
  ·exact e
  ·intro h;apply ho;obtain⟨s,hs,e'⟩:=E7.1 h;exact E7.2 ⟨s,.tail _ hs,e'⟩
theorem Bk.perm[Dr]{a w:World}{O O':List BV}(h:Bk a O w)(hp:O'.Perm O):Bk a O' w:=
 ⟨h.ext,fun r hr=>h.res r (hp.mem_iff.1 hr),fun r hr=>h.own r (hp.mem_iff.1 hr),
  (hp.symm.pairwise h.dis (fun {_x _y} hxy b hb hx=>hxy b hx hb))⟩
theorem JF{w:World}{O O':List BV}(hp:O'.Perm O):fz w O'=fz w O:=by
 funext b
 unfold fz
 have:owned O' b=owned O b:=by
  rw[Qz7,E7,E7];exact⟨fun⟨r,h,e⟩=>⟨r,hp.mem_iff.1 h,e⟩,fun⟨r,h,e⟩=>⟨r,hp.mem_iff.2 h,e⟩⟩
 rw[this]
theorem Bk.Alk[Dr]{a w w':World}{O:List BV}{r r':BV}(h:Bk a (r::O) w)(hdr:w.drawn<=w'.drawn)(hg:w.grownBy w' r.block)(hok:r'.ok w')(hb:∀b,r'.block=some b->r.block=some b\/w.heap.size<=b):Bk a (r'::O) w':=by
 have hh:=Qxx.1 h.dis
 have hsame:∀s∈O,∀b,s.block=some b->w'.heap[b]? = w.heap[b]?:=fun s hs b e=>by
  refine hg.block b ((h.res s (.tail _ hs)).lt e) (fun e'=>?_);exact hh.1 s hs b e'.symm e
 refine⟨⟨⟨hg.os.trans h.ext.os,hg.tape.trans h.ext.tape,hg.output.trans h.ext.output,Qxy h.ext.size hg.size,fun k hk=>?_⟩,fun o=>Qxy (h.ext.drawn o) hdr⟩,fun s hs=>?_,fun s hs b e=>?_,?_⟩
 ·rw[hg.block k (Nat.lt_of_lt_of_le hk h.ext.size) (fun e=>?_)]
  ·exact h.ext.block k hk
  ·have:=h.own r (.head _) k e.symm;omega
 ·cases hs with
  | head=>exact hok
  | tail _ hs=>exact(h.res s (.tail _ hs)).same (hsame s hs)
 ·cases hs with
  | head=>
   rcases hb b e with e' | e'
   ·exact h.own r (.head _) b e'
   ·exact Qxy h.ext.size e'
  | tail _ hs=>exact h.own s (.tail _ hs) b e
 ·refine Qxx.2 ⟨fun s hs b e e'=>?_,hh.2⟩
  rcases hb b e with e'' | e''
  ·exact hh.1 s hs b e'' e'
  ·have:=(h.res s (.tail _ hs)).lt e';omega
theorem Ahr[Dr]{c w w':World}{O:List BV}{r r':BV}(_h:Bk c (r::O) w)(hg:w.grownBy w' r.block)(hb:∀b,r'.block=some b->r.block=some b\/w.heap.size<=b):Le (fz w (r::O)) (fz w' (r'::O)):=fun b o e=>by
 unfold fz at e ⊢
 split at e
 ·cases e
 ·rename_i ho;have hlt:=EJ e;have hnr:r.block≠some b:=fun e'=>ho (E7.2 ⟨r,.head _,e'⟩);rw[if_neg]
  ·rw[hg.block b hlt (fun e'=>hnr e'.symm)];exact e
  ·intro hc;obtain⟨s,hs,e'⟩:=E7.1 hc
   cases hs with
   | head=>
    rcases hb b e' with a | a
    ·exact hnr a
    ·omega
   | tail _ hs=>exact ho (E7.2 ⟨s,.tail _ hs,e'⟩)
theorem Bk.new[Dr]{a w w':World}{O:List BV}{r:BV}(h:Bk a O w)(hx:Ext w w')(hok:r.ok w')(hb:∀b,r.block=some b->w.heap.size<=b):Bk a (r::O) w':=by
 have h':=h.call hx;refine⟨h'.ext,fun s hs=>?_,fun s hs b e=>?_,Qxx.2 ⟨fun s hs b e e'=>?_,h.dis⟩⟩
 ·cases hs with
  | head=>exact hok
  | tail _ hs=>exact h'.res s hs
 ·cases hs with
  | head=>exact Qxy h.ext.size (hb b e)
  | tail _ hs=>exact h.own s hs b e
 ·have:=hb b e;have:=(h.res s hs).lt e';omega
theorem SX[Dr]{a w w':World}{O:List BV}{r:BV}(_h:Bk a O w)(hx:Ext w w')(hb:∀b,r.block=some b->w.heap.size<=b):Le (fz w O) (fz w' (r::O)):=fun b o e=>by
 unfold fz at e ⊢
 split at e
 ·cases e
 ·rename_i ho;have hlt:=EJ e;rw[if_neg]
  ·exact hx.le b o e
  ·intro hc;obtain⟨s,hs,e'⟩:=E7.1 hc
   cases hs with
   | head=>have:=hb b e';omega
   | tail _ hs=>exact ho (E7.2 ⟨s,hs,e'⟩)
def SA(w w':World)(v:Value):PH:=fun b=>if v.ownBlock=some b then none else nw w w' b
theorem ZT[Dr]{c w w':World}{O:List BV}{v:Value}{e:TypeId}{sz n:Nat}{xs:Qq6}(h:Bk c O w):Le (SA w w' v) (fz w' (.row v e sz n xs::O)):=fun b o hb=>by
 unfold SA at hb
 split at hb
 ·cases hb
 ·rename_i hne;have a:=AiO (w':=w') h b o hb;unfold fz at a ⊢
  split at a
  ·cases a
  ·rename_i ho;rw[if_neg]
   ·exact a
   ·intro hc;obtain⟨s,hs,e'⟩:=E7.1 hc
    cases hs with
    | head=>exact hne e'
    | tail _ hs=>exact ho (E7.2 ⟨s,hs,e'⟩)
theorem ZU{w w':World}{v:Value}:Le (SA w w' v) (nw w w'):=fun b o hb=>by
 unfold SA at hb
 split at hb
 ·cases hb
 ·exact hb
inductive AK {α:Type} (r:Rp α) (H:PH):List α->Qq6->Prop
 | nil:AK r H [] []
 | cons {x:α}{l:List α}{c cs:Qq6} (h:r.rel H x c) (t:AK r H l cs):AK r H (x::l) (c++cs)
section
variable {α:Type}{r:Rp α}{H H':PH}
theorem AK.mono{l:List α}{cs:Qq6}(h:AK r H l cs)(hs:Le H H'):AK r H' l cs:=by
 induction h with
 | nil=>exact .nil
 | cons h _ ih=>exact .cons (r.mono hs h) ih
theorem AK.len{l:List α}{cs:Qq6}(h:AK r H l cs):cs.length=l.length * r.sz:=by
 induction h with
 | nil=>simp
 | cons h _ ih=>simp[ih,r.len h,Qkf,Nat.add_comm]
theorem AK.one{l:List α}{cs:Qq6}(h:AK r H l cs):∀u∈cs,u.oneCell'=true:=by
 induction h with
 | nil=>simp
 | cons h _ ih=>intro u hu;rcases QzK.1 hu with hu | hu;exact r.one h u hu;exact ih u hu
theorem AK.append{l m:List α}{cs ds:Qq6}(h:AK r H l cs)(k:AK r H m ds):AK r H (l++m) (cs++ds):=by
 induction h with
 | nil=>exact k
 | cons h _ ih=>rw[List.cons_append,List.append_assoc];exact .cons h ih
theorem AK.at{l:List α}{cs:Qq6}(h:AK r H l cs):∀i x,l[i]? = some x->∃c,r.rel H x c/\∀j u,c[j]? = some u->cs[i * r.sz+j]? = some u:=by
 induction h with
 | nil=>intro i x hx;cases hx
 | @cons y l c cs h _ ih=>
  intro i x hx
  cases i with
  | zero=>
   simp only[QkJ,Option.some.injEq]at hx;subst hx;refine⟨c,h,fun j u hu=>?_⟩;rw[Nat.zero_mul,QzJ,Qk4 (Qz6.1 hu).1];exact hu
  | succ i=>
   simp only[List.getElem?_cons_succ]at hx;obtain⟨d,hd,hh⟩:=ih i x hx;refine⟨d,hd,fun j u hu=>?_⟩;rw[Qjb (by rw[r.len h,Qkf];omega),r.len h];rw[show(i+1) * r.sz+j - r.sz=i * r.sz+j from by rw[Qkf];omega];exact hh j u hu
end
def Own{α:Type}(e:TypeId)(r:Rp α)(w w':World)(v:Value)(l:List α):Prop:=
 ∃xs,w'.ownsRow w.heap.size e r.sz v l.length xs/\AK r (SA w w' v) l xs
theorem Tz{w:World}{b b':Nat}{e:TypeId}{sz n:Nat}{v:Value}{xs:Qq6}(h:w.ownsRow b e sz v n xs)(hb:∀k,v.ownBlock=some k->b'<=k):w.ownsRow b' e sz v n xs:=by
 refine⟨h.1,?_⟩
 rcases h.2 with hn | ⟨g,cap,cur,rfl,hbg,hgg,rest⟩
 ·exact .inl hn
 ·exact .inr ⟨g,cap,cur,Z,hb g Z,hgg,rest⟩
theorem PX{α:Type}{r:Rp α}{w:World}{b:Nat}{e:TypeId}{v:Value}{l:List α}{xs:Qq6}{H H':PH}(h:w.ownsRow b e r.sz v l.length xs)(he:AK r H l xs)(hs:Le H H')
  (hb:∀k,v.ownBlock=some k->∀o,w.heap[k]? = some o->H' k=some o):AS r H' v l:=by
 rcases h.2 with ⟨rfl,hn⟩ | ⟨g,cap,cur,rfl,hbg,hgg,hnc,hcm,hcs,htake⟩
 ·have:l=[]:=Qxd hn;subst this;exact AS.nil r H'
 ·refine⟨some ⟨g,0,none⟩,cap,Z,hnc,hcm,(fun h=>by cases h),fun A hA _=>?_⟩
  cases hA
  refine⟨Z,fun i x hx=>?_⟩;obtain⟨c,hc,hcell⟩:=he.at i x hx;refine⟨c,r.mono hs hc,fun j u hu=>?_⟩;have a:=hcell j u hu;rw[<- htake,Qjc]at a
  split at a
  ·simp only[Addr.add_lit,QzJ,IW];rw[hb g Z _ hgg]
   simpa using a
  ·cases a
theorem Own.vec{α:Type}{e:TypeId}{r:Rp α}{w w':World}{v:Value}{l:List α}(h:Own e r w w' v l):AS r (nw w w') v l:=by
 obtain⟨xs,a,h2⟩:=h;refine PX a h2 ZU fun k hk o ho=>?_;have:=(a.lt k hk).1;unfold nw;rw[if_pos this];exact ho
end Go.E
namespace Go.E
open Go Go.RowKit
inductive Tr where
 | tail (k:Nat)
 | q (i:Nat) (t:Tr)
 | h (i:Nat) (t:Tr)
 | h2 (i:Nat) (t:Tr) (j:Nat) (u:Tr)
 | h3 (i:Nat) (t:Tr) (j:Nat) (u:Tr) (l:Nat) (v:Tr)
def Qqz:Nat->Nat->Tr->Tr
 |_,0,t=>t
 |i,n+1,t=>.q i (Qqz (i+1) n t)
def Tr.count:Tr->Nat
 | .tail _=>0
 | .q _ t=>t.count+1
 | .h _ t=>t.count+1
 | .h2 _ t _ _=>t.count+1
 | .h3 _ t _ _ _ _=>t.count+1
def Tr.last:Tr->Nat
 | .tail k=>k
 | .q _ t=>t.last
 | .h _ t=>t.last
 | .h2 _ t _ _=>t.last
 | .h3 _ t _ _ _ _=>t.last
def chainB(ops:Array Oper):Nat->Nat->Array Bool->Bool
 | 0,_,listed=>Region.ready .any ops listed==[]
 | m+1,k,listed=>Region.ready .any ops listed==[k]&&chainB ops m (k+1) (listed.setIfInBounds k true)
def AU(ops:Array Oper):Tr->Array Bool->Bool
 | .tail k,listed=>chainB ops (ops.size - k) k listed
 | .q i t,listed=>(Region.ready .any ops listed).contains i&&Region.free .any ops listed i&&Qzw i t.last&&AU ops t (listed.setIfInBounds i true)
 | .h i t,listed=>Region.ready .any ops listed==[i]&&Qzw i t.last&&AU ops t (listed.setIfInBounds i true)
 | .h2 i t j u,listed=>Region.ready .any ops listed==[i,j]&&Qzw i t.last&&Qzw j t.last&&t.count==u.count&&t.last==u.last&&AU ops t (listed.setIfInBounds i true)&&AU ops u (listed.setIfInBounds j true)
 | .h3 i t j u l v,listed=>Region.ready .any ops listed==[i,j,l]&&Qzw i t.last&&Qzw j t.last&&Qzw l t.last&&t.count==u.count&&t.last==u.last&&t.count==v.count&&t.last==v.last&&AU ops t (listed.setIfInBounds i true)&&AU ops u (listed.setIfInBounds j true)&&AU ops v (listed.setIfInBounds l true)
section
variable (P:Program) (ops:Array Oper)
def XE(a:Act)(o:Oper)(K:Act->World->Prop):Result Next->Prop
 | .ok (.value v) w'=>K (a.put o.dst v) w'
 | .ok .skip w'=>K (a.put o.dst undef) w'
 | .ok (.enter f args) w'=>Calls P f args w' (fun e w''=>∃v,e=.returned v/\K (a.put o.dst v) w'')
 | _=>False
def ZV(o:Oper)(K:Act->World->Prop)(a:Act)(w:World):Prop:=
 if Region.wanted o (yielded ops a.tmps)then XE P a o K ((execOp a.eval o).run P w)else K (a.put o.dst undef) w
def yx[Dr](o:Oper)(v:Value)(a:Act)(w:World):Prop:=
 (Region.wanted o (yielded ops a.tmps)=true/\∀w',Ext w w'->match(execOp a.eval o).run P w' with
  | .ok (.value u) w''=>w''=w'/\u=v
  | .ok (.enter f args) w''=>w''=w'/\Calls P f args w' (fun e b=>e=.returned v/\Ext w' b)
  | _=>False)\/
 (Region.wanted o (yielded ops a.tmps)=false/\v=undef)
def X[Dr](Q:Exit->Act->World->Prop):Tr->World->Act->World->Prop
 | .tail k,_,a,w=>∀w',Ext w w'->wpOps P ops Q (Qkq k (ops.size - k)) a w'
 | .q i t,b,a,w=>∃o v,ops[i]? = some o/\yx P ops o v a b/\X Q t b (a.put o.dst v) w
 | .h i t,b,a,w=>∃o,ops[i]? = some o/\∀w',Ext w w'->ZV P ops o (fun a'' w''=>∃b',Ext b b'/\Ext b' w''/\X Q t b' a'' w'') a w'
 | .h2 i t j u,b,a,w=>(∃o,ops[i]? = some o/\∀w',Ext w w'->ZV P ops o (fun a'' w''=>∃b',Ext b b'/\Ext b' w''/\X Q t b' a'' w'') a w')/\
   (∃o,ops[j]? = some o/\∀w',Ext w w'->ZV P ops o (fun a'' w''=>∃b',Ext b b'/\Ext b' w''/\X Q u b' a'' w'') a w')
 | .h3 i t j u l v,b,a,w=>(∃o,ops[i]? = some o/\∀w',Ext w w'->ZV P ops o (fun a'' w''=>∃b',Ext b b'/\Ext b' w''/\X Q t b' a'' w'') a w')/\
   (∃o,ops[j]? = some o/\∀w',Ext w w'->ZV P ops o (fun a'' w''=>∃b',Ext b b'/\Ext b' w''/\X Q u b' a'' w'') a w')/\
   (∃o,ops[l]? = some o/\∀w',Ext w w'->ZV P ops o (fun a'' w''=>∃b',Ext b b'/\Ext b' w''/\X Q v b' a'' w'') a w')
def Y[Dr](Q:Exit->Act->World->Prop)(k:Nat)(b:World):Nat->Array Bool->Act->World->Prop
 | 0,listed,a,w=>chainB ops (ops.size - k) k listed=true/\∀w',Ext w w'->wpOps P ops Q (Qkq k (ops.size - k)) a w'
 | m
  + 1,listed,a,w=>Region.ready .any ops listed≠[]/\∀w',Ext w w'->∀i∈Region.ready .any ops listed,∃o,ops[i]? = some o/\
  ZV P ops o (fun a'' w''=>Ext b w''/\Y Q k b m (listed.setIfInBounds i true) a'' w'') a w'
end
section
variable {P:Program}{ops:Array Oper}{Q:Exit->Act->World->Prop}
theorem AdD{a:Act}{o:Oper}{K K':Act->World->Prop}(h:∀a w,K a w->K' a w):∀{r:Result Next},XE P a o K r->XE P a o K' r:=by
 intro r hr
 cases r with
 | ok nx w'=>
  cases nx <;> simp only[XE]at hr ⊢
  case value v=>exact h _ _ hr
  case skip=>exact h _ _ hr
  case enter f args=>exact hr.mono fun e w'' ⟨v,he,hv⟩=>⟨v,he,h _ _ hv⟩
 | halt x w'=>simp only[XE]at hr
theorem M9{o:Oper}{K K':Act->World->Prop}(h:∀a w,K a w->K' a w){a:Act}{w:World}(hh:ZV P ops o K a w):ZV P ops o K' a w:=by
 unfold ZV at hh ⊢
 split
 ·rename_i hw;rw[if_pos hw]at hh;exact AdD h hh
 ·rename_i hw;rw[if_neg hw]at hh;exact h _ _ hh
theorem ZW{i:Nat}{o:Oper}(hi:ops[i]? = some o){K:Act->World->Prop}{a:Act}{w:World}(h:ZV P ops o K a w):wpOp P ops Q i K a w:=by
 unfold wpOp;simp only[hi];unfold ZV at h
 split
 ·rename_i hw;rw[if_pos hw]at h;refine .inl ?_;unfold Oper.wp;generalize (execOp a.eval o).run P w=r at h ⊢
  cases r with
  | ok nx w'=>
   cases nx <;> simp only[XE]at h <;> simp only[Oper.upon]
   case value v=>exact h
   case skip=>exact h
   case enter f args=>exact h.mono fun e w'' ⟨v,he,hv⟩=>by subst he;exact hv
  | halt x w'=>simp only[XE]at h
 ·rename_i hw;rw[if_neg hw]at h;exact h
theorem Yd[Dr]{o:Oper}{v:Value}{a:Act}{w w':World}(h:yx P ops o v a w)(hx:Ext w w'){K:Act->World->Prop}(hK:∀w'',Ext w' w''->K (a.put o.dst v) w''):ZV P ops o K a w':=by
 unfold ZV
 rcases h with ⟨hw,h⟩ | ⟨hw,rfl⟩
 ·rw[if_pos hw];have b:=h w' hx;generalize (execOp a.eval o).run P w'=r at b ⊢
  cases r with
  | ok nx c=>
   cases nx <;> simp only at b <;> simp only[XE]
   case value u=>obtain⟨rfl,rfl⟩:=b;exact hK _ (Ext.refl _)
   case enter f args=>obtain⟨rfl,b⟩:=b;exact b.mono fun e w'' ⟨he,hv⟩=>⟨v,he,hK _ hv⟩
  | halt x c=>simp only at b
 ·rw[if_neg (by simp[hw])];exact hK _ (Ext.refl _)
theorem Ajt[Dr]{o oj:Oper}{v u:Value}{a:Act}{w:World}(hs:∀cs b,o.op≠.select cs b)(h3:∀d,oj.dst=some d->d∉o.looksAt ops)(h:yx P ops o v a w):yx P ops o v (a.put oj.dst u) w:=by
 unfold yx at h ⊢;rw[wanted_put o a oj.dst u h3,execOp_put (ops:=ops) o hs a oj.dst u h3];exact h
def AcA(ops:Array Oper)(k:Nat):Prop:=∀listed,HeadInv .any ops k listed->∀i,i<k->listed.getD i true=false->∀t,k<=t->t∉Region.ready .any ops listed
theorem AeE{k:Nat}(h:ops.size<=k\/(Region.sinkB .any ops k=true/\Region.chainB .any ops k=true)):AcA ops k:=by
 intro listed inv i hi hun t ht hr
 rcases Qxa k ops.size with hk | hk
 ·rcases h with h | ⟨a,h2⟩
  ·omega
  ·exact tail_waits a h2 hk inv _ i Z hi hun t ht hr
 ·obtain⟨_,o,ho,_⟩:=mem_ready.1 hr;have:=(Array.getElem?_eq_some_iff.1 ho).1;omega
theorem ZX{m k:Nat}{listed:Array Bool}(h:chainB ops m k listed=true):∀j∈Region.ready .any ops listed,j=k:=by
 intro j hj
 cases m with
 | zero=>simp only[chainB,beq_iff_eq]at h;rw[h]at hj;cases hj
 | succ m=>simp only[chainB,QzQ,beq_iff_eq]at h;rw[h.1]at hj;simpa using hj
theorem SZ[Dr]{k:Nat}{b b':World}(hb:Ext b b'):∀(m:Nat) (listed:Array Bool) (a:Act) (w:World),Y P ops Q k b' m listed a w->Y P ops Q k b m listed a w
 | 0,_,_,_,h=>h
 | m
  + 1,listed,a,w,h=>⟨h.1,fun w' hx i hi=>by
  obtain⟨o,ho,c⟩:=h.2 w' hx i hi;exact⟨o,ho,M9 (fun a'' w'' ⟨d,e⟩=>⟨hb.trans d,SZ hb m _ _ _ e⟩) c⟩⟩
theorem Ahs[Dr]{b:World}{k i:Nat}{oi:Oper}{v:Value}(hw:AcA ops k)(hi:ops[i]? = some oi)(hik:i<k)(hsel:∀(j:Nat) (o:Oper) cs b,ops[j]? = some o->o.op≠.select cs b):
  ∀
   (m:Nat) (listed:Array Bool) (a:Act) (w:World),HeadInv .any ops k listed->
   (∀j oj,ops[j]? = some oj->j≠i->listed.getD j true=false->(∀e∈oj.after,Region.binds .any e=true->e.on≠i)->oi.apart ops oj=true)->
   i∈Region.ready .any ops listed->Ext b w->yx P ops oi v a b->
   Y P ops Q k b m (listed.setIfInBounds i true) (a.put oi.dst v) w->Y P ops Q k b (m+1) listed a w:=by
 intro m
 induction m with
 | zero=>
  intro listed a w inv hfree hr hb hy H;refine⟨fun h=>(by rw[h]at hr;cases hr),fun w' hx j hj=>?_⟩
  have hji:j=i:=by
   refine Decidable.byContradiction fun hne=>?_;have:=ZX H.1 j (ready_mono hj hne);subst this;exact hw listed inv i hik (mem_ready.1 hr).1 j (Qzu _) hj
  subst hji;exact⟨oi,hi,Yd hy (hb.trans hx) fun w'' hx'=>⟨(hb.trans hx).trans hx',H.1,fun d h3=>H.2 d ((hx.trans hx').trans h3)⟩⟩
 | succ m ih=>
  intro listed a w inv hfree hr hb hy H;refine⟨fun h=>(by rw[h]at hr;cases hr),fun w' hx j hj=>?_⟩
  by_cases hji:j=i
  ·subst hji;refine⟨oi,hi,Yd hy (hb.trans hx) fun w'' hx'=>⟨(hb.trans hx).trans hx',H.1,fun d h3=>H.2 d ((hx.trans hx').trans h3)⟩⟩
  ·obtain⟨oj,hoj,c⟩:=H.2 w' hx j (ready_mono hj hji);refine⟨oj,hoj,?_⟩;obtain⟨hjun,oj',hoj',hall⟩:=mem_ready.1 hj;obtain rfl:oj=oj':=Option.some.inj (hoj.symm.trans hoj')
   have hnot:∀e∈oj.after,Region.binds .any e=true->e.on≠i:=fun e he hb heq=>by
    have c:=hall e he hb;have g:=(mem_ready.1 hr).1;rw[heq]at c
    rcases Qxa i listed.size with h' | h'
    ·simp[h']at g c;rw[g]at c;cases c
    ·simp[Array.getElem?_eq_none h']at c
   obtain⟨l,n,p⟩:=Oper.apart_spec (hfree j oj hoj hji hjun hnot);have hsj:=fun cs b=>hsel j oj cs b hoj;have hsi:=fun cs b=>hsel i oi cs b hi
   have hjk:j<k:=by
    rcases Qxa j k with h | h
    ·exact h
    ·exact absurd hj (hw listed inv i hik (mem_ready.1 hr).1 j h)
   have hfree':∀k' ok,ops[k']? = some ok->k'≠i->(listed.setIfInBounds j true).getD k' true=false->
     (∀e∈ok.after,Region.binds .any e=true->e.on≠i)->oi.apart ops ok=true:=fun k' ok hk hki hun hno=>by
    refine hfree k' ok hk hki ?_ hno
    by_cases hjk:j=k'
    ·subst hjk;exact hjun
    ·rw[getD_set_ne true hjk]at hun;exact hun
   have next:∀u w'',Ext b w''->Y P ops Q k b m ((listed.setIfInBounds i true).setIfInBounds j true) ((a.put oi.dst v).put oj.dst u) w''->Y P ops Q k b (m+1) (listed.setIfInBounds j true) (a.put oj.dst u) w'':=by
    intro u w'' hx' hY;refine ih (listed.setIfInBounds j true) (a.put oj.dst u) w'' (inv.set hj hjk) hfree' (ready_mono hr (Ne.symm hji)) hx' (Ajt hsi p hy) ?_;rw[Array.setIfInBounds_comm _ _ hji,<- Act.put_comm a v u n];exact hY
   unfold ZV at c ⊢;rw[wanted_put oj a oi.dst v l,execOp_put (ops:=ops) oj hsj a oi.dst v l]at c
   split
   ·rename_i hw;rw[if_pos hw]at c;generalize (execOp a.eval oj).run P w'=r at c ⊢
    cases r with
    | ok nx q=>
     cases nx <;> simp only[XE]at c ⊢
     case value u=>exact⟨c.1,next _ _ c.1 c.2⟩
     case skip=>exact⟨c.1,next _ _ c.1 c.2⟩
     case enter f args=>exact c.mono fun e w'' ⟨u,he,hu⟩=>⟨u,he,hu.1,next _ _ hu.1 hu.2⟩
    | halt x q=>simp only[XE]at c
   ·rename_i hw;rw[if_neg hw]at c;exact⟨c.1,next _ _ c.1 c.2⟩
theorem Re{i j:Nat}(h:Qzw i j=true):i<j:=by simpa[Nat.blt_eq]using h
theorem Rf[Dr]{k:Nat}(hw:AcA ops k)(hsel:∀(j:Nat) (o:Oper) cs b,ops[j]? = some o->o.op≠.select cs b):
  ∀(t:Tr) (listed:Array Bool) (b:World) (a:Act) (w:World),t.last=k->HeadInv .any ops k listed->AU ops t listed=true->Ext b w->X P ops Q t b a w->Y P ops Q k b t.count listed a w
 | .tail k',listed,b,a,w,hk,inv,hc,hb,h=>by
  obtain rfl:k'=k:=hk;exact⟨hc,h⟩
 | .q i t,listed,b,a,w,hk,inv,hc,hb,h=>by
  simp only[AU,QzQ]at hc;obtain⟨⟨⟨c1,c2⟩,c3⟩,c4⟩:=hc;obtain⟨o,v,ho,hy,hX⟩:=h;have hr:i∈Region.ready .any ops listed:=by simpa using c1
  have hlt:i<k:=by rw[<- hk];exact Re c3
  exact Ahs hw ho hlt hsel t.count listed a w inv (fun j oj=>Region.free_spec ho c2 j oj) hr hb hy (Rf hw hsel t _ _ _ _ hk (inv.set hr hlt) c4 hb hX)
 | .h i t,listed,b,a,w,hk,inv,hc,hb,h=>by
  simp only[AU,QzQ,beq_iff_eq]at hc;obtain⟨⟨c1,c3⟩,c4⟩:=hc;obtain⟨o,ho,hX⟩:=h;have hr:i∈Region.ready .any ops listed:=by simp[c1]
  have hlt:i<k:=by rw[<- hk];exact Re c3
  refine⟨by simp[c1],fun w' hx j hj=>?_⟩;obtain rfl:j=i:=by simpa[c1]using hj
  exact⟨o,ho,M9 (fun a'' w'' ⟨b',c,d,e⟩=>⟨c.trans d,SZ c _ _ _ _ (Rf hw hsel t _ b' _ _ hk (inv.set hr hlt) c4 d e)⟩) (hX w' hx)⟩
 | .h2 i t j u,listed,b,a,w,hk,inv,hc,hb,h=>by
  simp only[AU,QzQ,beq_iff_eq]at hc;obtain⟨⟨⟨⟨⟨⟨c1,c3⟩,c3'⟩,c5⟩,c6⟩,c4⟩,c4'⟩:=hc;obtain⟨⟨o,ho,hX⟩,⟨o',ho',hX'⟩⟩:=h;have hr:i∈Region.ready .any ops listed:=by simp[c1]
  have hr':j∈Region.ready .any ops listed:=by simp[c1]
  have hlt:i<k:=by rw[<- hk];exact Re c3
  have hlt':j<k:=by rw[<- hk];exact Re c3'
  have hk':u.last=k:=by rw[<- c6];exact hk
  refine⟨by simp[c1],fun w' hx l hl=>?_⟩;have hl':l=i\/l=j:=by simpa[c1]using hl
  rcases hl' with rfl | rfl
  ·exact⟨o,ho,M9 (fun a'' w'' ⟨b',c,d,e⟩=>⟨c.trans d,SZ c _ _ _ _ (Rf hw hsel t _ b' _ _ hk (inv.set hr hlt) c4 d e)⟩) (hX w' hx)⟩
  ·refine⟨o',ho',M9 (fun a'' w'' ⟨b',c,d,e⟩=>⟨c.trans d,?_⟩) (hX' w' hx)⟩;have:=SZ c _ _ _ _ (Rf hw hsel u _ b' _ _ hk' (inv.set hr' hlt') c4' d e)
   show Y P ops Q k b t.count _ _ _
   rw[c5];exact this
 | .h3 i t j u m v,listed,b,a,w,hk,inv,hc,hb,h=>by
  simp only[AU,QzQ,beq_iff_eq]at hc;obtain⟨⟨⟨⟨⟨⟨⟨⟨⟨⟨c1,c3⟩,c3'⟩,c3''⟩,c5⟩,c6⟩,c7⟩,c8⟩,c4⟩,c4'⟩,c4''⟩:=hc;obtain⟨⟨o,ho,hX⟩,⟨o',ho',hX'⟩,⟨o'',ho'',hX''⟩⟩:=h;have hr:i∈Region.ready .any ops listed:=by simp[c1]
  have hr':j∈Region.ready .any ops listed:=by simp[c1]
  have hr'':m∈Region.ready .any ops listed:=by simp[c1]
  have hlt:i<k:=by rw[<- hk];exact Re c3
  have hlt':j<k:=by rw[<- hk];exact Re c3'
  have hlt'':m<k:=by rw[<- hk];exact Re c3''
  have hk':u.last=k:=by rw[<- c6];exact hk
  have hk'':v.last=k:=by rw[<- c8];exact hk
  refine⟨by simp[c1],fun w' hx l hl=>?_⟩;have hl':l=i\/l=j\/l=m:=by simpa[c1]using hl
  rcases hl' with rfl | rfl | rfl
  ·exact⟨o,ho,M9 (fun a'' w'' ⟨b',c,d,e⟩=>⟨c.trans d,SZ c _ _ _ _ (Rf hw hsel t _ b' _ _ hk (inv.set hr hlt) c4 d e)⟩) (hX w' hx)⟩
  ·refine⟨o',ho',M9 (fun a'' w'' ⟨b',c,d,e⟩=>⟨c.trans d,?_⟩) (hX' w' hx)⟩;have:=SZ c _ _ _ _ (Rf hw hsel u _ b' _ _ hk' (inv.set hr' hlt') c4' d e)
   show Y P ops Q k b t.count _ _ _
   rw[c5];exact this
  ·refine⟨o'',ho'',M9 (fun a'' w'' ⟨b',c,d,e⟩=>⟨c.trans d,?_⟩) (hX'' w' hx)⟩;have:=SZ c _ _ _ _ (Rf hw hsel v _ b' _ _ hk'' (inv.set hr'' hlt'') c4'' d e)
   show Y P ops Q k b t.count _ _ _
   rw[c7];exact this
theorem Rg:∀(m k:Nat) (listed:Array Bool) (a:Act) (w:World),chainB ops m k listed=true->wpOps P ops Q (Qkq k m) a w->wpAny P .any ops Q m listed a w
 | 0,k,listed,a,w,h,hw=>by
  simp only[chainB,beq_iff_eq]at h;exact⟨h,by simpa[wpOps]using hw⟩
 | m+1,k,listed,a,w,h,hw=>by
  simp only[chainB,QzQ,beq_iff_eq]at h;refine wpAny_all h.1 Qqd fun i hi=>?_;obtain rfl:i=k:=by simpa using hi
  rw[List.range'_succ,wpOps_cons]at hw;exact wpOp_mono (fun a' w' h'=>Rg m (i+1) _ a' w' h.2 h') hw
theorem Wj[Dr]{k:Nat}{b:World}:∀(m:Nat) (listed:Array Bool) (a:Act) (w:World),Y P ops Q k b m listed a w->wpAny P .any ops Q (m+(ops.size - k)) listed a w
 | 0,listed,a,w,h=>by rw[QzJ];exact Rg _ k listed a w h.1 (h.2 w (Ext.refl w))
 | m+1,listed,a,w,h=>by
  rw[show m+1+(ops.size - k)=(m+(ops.size - k))+1 by omega];refine⟨fun c=>absurd c h.1,fun i hi=>?_⟩;obtain⟨o,ho,hx⟩:=h.2 w (Ext.refl w) i hi;exact ZW ho (M9 (fun a' w' h'=>Wj m _ a' w' h'.2) hx)
theorem XF(k:Nat):HeadInv .any ops k (Qjd ops.size false):=
 ⟨by simp,(fun j oj _ hl=>by rw[getD_replicate_false]at hl;cases hl),fun t _ ht=>by simp[ht]⟩
def Wk(l:List Oper)(t:Tr):Bool:=
 Region.noSelect l.toArray&&(Nat.ble l.length t.last||(Region.sinkB .any l.toArray t.last&&Region.chainB .any l.toArray t.last))&&AU l.toArray t (Qjd l.length false)&&QxA (t.count+(l.length - t.last)) l.length
theorem MA[Dr]{w:World}:Ext w {w with drawn:=w.drawn+1}:=⟨⟨Z,Z,Z,Qzu _,fun _ _=>Z⟩,fun _=>Nat.le_succ _⟩
theorem AeF[Dr]{id:Nat}{l:List Oper}{a:Act}{w:World}(t:Tr)(hm:P.follows .mixedOrders=true)(hc:Wk l t=true)(h:X P l.toArray Q t {w with drawn:=w.drawn+1} a {w with drawn:=w.drawn+1}):(Code.region id l.toArray true).wp P Q a w:=by
 simp only[Wk,QzQ,Bool.or_eq_true]at hc;obtain⟨⟨⟨c1,c2⟩,c3⟩,c4⟩:=hc
 have hw:AcA l.toArray t.last:=AeE (by
  rcases c2 with c2 | c2
  ·left;simpa[Nat.ble_eq]using c2
  ·right;exact c2)
 have hlen:=Qju c4;have hY:=Rf hw (Region.noSelect_spec c1) t (Qjd l.toArray.size false) _ a _ Z (XF _) (by simpa using c3) (Ext.refl _) h;have:=Wj _ _ _ _ hY;refine wp_region_any hm ?_;have e:t.count+(l.toArray.size - t.last)=l.toArray.size:=by simpa using hlen
 rw[e]at this;exact this
end
def HF:List Oper->Nat->Option Oper
 | [],_=>none
 | o::_,0=>some o
 | _::l,i+1=>HF l i
theorem HN:∀(l:List Oper) (i:Nat),HF l i=l[i]?
 | [],_=>rfl
 | _::_,0=>rfl
 | _::l,i+1=>by simpa[HF]using HN l i
def Ye:Nat->List Oper->List Oper
 | 0,l=>l
 | _+1,[]=>[]
 | k+1,_::l=>Ye k l
theorem ZY:∀(k:Nat) (l:List Oper),Ye k l=l.drop k
 | 0,_=>by simp[Ye]
 | _+1,[]=>by simp[Ye]
 | k+1,_::l=>by simpa[Ye]using ZY k l
def D[Dr](P:Program)(n:Sz)(l:List Oper)(Q:Exit->Act->World->Prop)(t:Tr)(L:Env)(w:World):Prop:=∀a,Fr n a L->X P l.toArray Q t w a w
def B5[Dr](P:Program)(L:Env)(w:World)(op:Op)(ty:TypeId)(v:Value):Prop:=
 ∀w',Ext w w'->∀ρ,Rho L ρ->∀dst pos af g,(execOp ρ ⟨dst,op,ty,pos,af,g⟩).run P w'=.ok (.value v) w'
section
variable {P:Program}{n:Sz}{l:List Oper}{Q:Exit->Act->World->Prop}{L:Env}{w:World}{t u:Tr}{i j:Nat}
 {d:Nat}{op:Op}{ty:TypeId}{pos:String}{af:Array Edge}{y:Code}
theorem AcB[Dr]{id:Nat}(t:Tr)(hm:P.follows .mixedOrders=true)(hc:Wk l t=true)(h:D P n l Q t L {w with drawn:=w.drawn+1}):W P n (.region id l.toArray true) Q L w:=
 fun a fr=>AeF t hm hc (h a fr)
theorem BZ[Dr]{id:Nat}(t:Tr)(hm:P.follows .mixedOrders=true)(hc:Wk l t=true)(h:∀w',Ext w w'->D P n l (Ut P y Q) t L w'):W P n (.seq (.region id l.toArray true) y) Q L w:=
 A6 (AcB t hm hc (h _ MA))
theorem LX[Dr]{id:Nat}(t:Tr)(hm:P.follows .mixedOrders=true)(hc:Wk l t=true)(h:∀w',Ext w w'->D P n l Q t L w'):W P n (.region id l.toArray true) Q L w:=
 AcB t hm hc (h _ MA)
theorem B2[Dr]{v:Value}(ho:HF l i=some ⟨some d,op,ty,pos,af,none⟩)(hr:B5 P L w op ty v)(hn:Qzw d n.n=true)(h:D P n l Q t ((d,v)::L) w):D P n l Q (.q i t) L w:=fun a fr=>by
 refine⟨_,v,by rw[HN]at ho;simpa using ho,.inl ⟨by simp[Region.wanted],fun w' hx=>?_⟩,h _ (fr.put hn)⟩;rw[hr w' hx _ fr.Yb];exact⟨Z,Z⟩
theorem CM[Dr]{v:Value}{j:Nat}{want b:Bool}{s:Nat}{oj:Oper}(ho:HF l i=some ⟨some d,op,ty,pos,af,some (j,want)⟩)(hr:B5 P L w op ty v)(hj:HF l j=some oj)(hd:oj.dst=some s)(hb:gt L s=some (.bool b))(hw:b=want)(hn:Qzw d n.n=true)
  (h:D P n l Q t ((d,v)::L) w):D P n l Q (.q i t) L w:=fun a fr=>by
 have hj':l.toArray[j]? = some oj:=by rw[HN]at hj;simpa using hj
 have hy:yielded l.toArray a.tmps j=some b:=by simp only[yielded,hj',Qzq,hd,fr.get s _ hb]
 refine⟨_,v,by rw[HN]at ho;simpa using ho,.inl ⟨by simp[Region.wanted,hy,hw],fun w' hx=>?_⟩,h _ (fr.put hn)⟩;rw[hr w' hx _ fr.Yb];exact⟨Z,Z⟩
theorem NP[Dr]{j:Nat}{want b:Bool}{s:Nat}{oj:Oper}(ho:HF l i=some ⟨some d,op,ty,pos,af,some (j,want)⟩)(hj:HF l j=some oj)(hd:oj.dst=some s)(hb:gt L s=some (.bool b))(hw:b = !want)(hn:Qzw d n.n=true)
  (h:D P n l Q t ((d,undef)::L) w):D P n l Q (.q i t) L w:=fun a fr=>by
 have hj':l.toArray[j]? = some oj:=by rw[HN]at hj;simpa using hj
 have hy:yielded l.toArray a.tmps j=some b:=by simp only[yielded,hj',Qzq,hd,fr.get s _ hb]
 exact⟨_,undef,by rw[HN]at ho;simpa using ho,.inr ⟨by simp[Region.wanted,hy,hw],Z⟩,h _ (fr.put hn)⟩
theorem ZZ[Dr]{j:Nat}{want:Bool}{s:Nat}{oj:Oper}(ho:HF l i=some ⟨some d,op,ty,pos,af,some (j,want)⟩)(hj:HF l j=some oj)(hd:oj.dst=some s)(hb:gt L s=some undef)(hn:Qzw d n.n=true)
  (h:D P n l Q t ((d,undef)::L) w):D P n l Q (.q i t) L w:=fun a fr=>by
 have hj':l.toArray[j]? = some oj:=by rw[HN]at hj;simpa using hj
 have hy:yielded l.toArray a.tmps j=none:=by simp only[yielded,hj',Qzq,hd,fr.get s _ hb,undef]
 exact⟨_,undef,by rw[HN]at ho;simpa using ho,.inr ⟨by simp[Region.wanted,hy],Z⟩,h _ (fr.put hn)⟩
theorem Ai[Dr]{v:Value}(h:pu L op=some v):B5 P L w op ty v:=fun _ _ ρ hρ dst pos af _=>AeA (dst:=dst) (pos:=pos) (af:=af) h ρ hρ
def puD(n:Sz)(l:List Oper):Nat->Tr->Env->Option (Tr×Env)
 | 0,t,L=>some (t,L)
 | k+1,.q i t,L=>match HF l i with
  | some ⟨some d,op,_,_,_,none⟩=>match pu L op with
   | some v=>bif Qzw d n.n then puD n l k t ((d,v)::L)else none
   | none=>none
  | _=>none
 | _+1,_,_=>none
theorem AiP[Dr]:∀(k:Nat) {t t':Tr}{L L':Env},puD n l k t L=some (t',L')->D P n l Q t' L' w->D P n l Q t L w
 | 0,t,t',L,L',h,hD=>by simp only[puD,Option.some.injEq,Prod.mk.injEq]at h;obtain⟨rfl,rfl⟩:=h;exact hD
 | k+1,.tail _,t',L,L',h,hD=>by simp only[puD,reduceCtorEq]at h
 | k+1,.h _ _,t',L,L',h,hD=>by simp only[puD,reduceCtorEq]at h
 | k+1,.h2 _ _ _ _,t',L,L',h,hD=>by simp only[puD,reduceCtorEq]at h
 | k+1,.h3 _ _ _ _ _ _,t',L,L',h,hD=>by simp only[puD,reduceCtorEq]at h
 | k+1,.q i t,t',L,L',h,hD=>by
  simp only[puD]at h
  split at h
  ·rename_i d op ty pos af ho
   split at h
   ·rename_i v hv
    cases hd:Qzw d n.n with
    | false=>rw[hd]at h;cases h
    | true=>rw[hd]at h;exact B2 ho (Ai hv) hd (AiP k h hD)
   ·cases h
  ·cases h
theorem B9[Dr](k:Nat){t t':Tr}{L L':Env}(h:puD n l k t L=some (t',L'))(hD:D P n l Q t' L' w):D P n l Q t L w:=AiP k h hD
theorem Er[Dr]{f:FuncId}{args:List Operand}{vs:Qq6}{at_:Array TypeId}{v:Value}(ho:HF l i=some ⟨some d,.call ⟨.value (.func f),args.toArray,at_⟩,ty,pos,af,none⟩)(ha:Vc L args=some vs)(hn:Qzw d n.n=true)
  (hok:∀w',Ext w w'->Ok P f vs w' (fun u w''=>Ext w' w''/\u=v)) (h:D P n l Q t ((d,v)::L) w):D P n l Q (.q i t) L w:=fun a fr=>by
 refine⟨_,v,by rw[HN]at ho;simpa using ho,.inl ⟨by simp[Region.wanted],fun w' hx=>?_⟩,h _ (fr.put hn)⟩;rw[M8 (hok w' hx).1 ha _ fr.Yb];exact⟨Z,(hok w' hx).2.mono fun e w'' ⟨u,he,hx',hu⟩=>⟨by rw[he,hu],hx'⟩⟩
theorem Sf[Dr]{f:FuncId}{args:List Operand}{vs:Qq6}{at_:Array TypeId}{v:Value}{j:Nat}{want b:Bool}{s:Nat}{oj:Oper}(ho:HF l i=some ⟨some d,.call ⟨.value (.func f),args.toArray,at_⟩,ty,pos,af,some (j,want)⟩)
  (hj:HF l j=some oj) (hd:oj.dst=some s) (hb:gt L s=some (.bool b)) (hw:b=want) (ha:Vc L args=some vs) (hn:Qzw d n.n=true)
  (hok:∀w',Ext w w'->Ok P f vs w' (fun u w''=>Ext w' w''/\u=v)) (h:D P n l Q t ((d,v)::L) w):D P n l Q (.q i t) L w:=fun a fr=>by
 have hj':l.toArray[j]? = some oj:=by rw[HN]at hj;simpa using hj
 have hy:yielded l.toArray a.tmps j=some b:=by simp only[yielded,hj',Qzq,hd,fr.get s _ hb]
 refine⟨_,v,by rw[HN]at ho;simpa using ho,.inl ⟨by simp[Region.wanted,hy,hw],fun w' hx=>?_⟩,h _ (fr.put hn)⟩;have hrun:=M8 (P:=P) (w:=w') (ty:=ty) (pos:=pos) (af:=af) (at_:=at_) (dst:=some d) (hok w' hx).1 ha _ fr.Yb;have e:execOp a.eval ⟨some d,.call ⟨.value (.func f),args.toArray,at_⟩,ty,pos,af,some (j,want)⟩=execOp a.eval ⟨some d,.call ⟨.value (.func f),args.toArray,at_⟩,ty,pos,af,none⟩:=Z;rw[e,hrun];exact⟨Z,(hok w' hx).2.mono fun e w'' ⟨u,he,hx',hu⟩=>⟨by rw[he,hu],hx'⟩⟩
theorem BC[Dr]{f:FuncId}{args:List Operand}{vs:Qq6}{at_:Array TypeId}{R:World->Value->World->Prop}(ho:HF l i=some ⟨some d,.call ⟨.value (.func f),args.toArray,at_⟩,ty,pos,af,none⟩)(ha:Vc L args=some vs)(hn:Qzw d n.n=true)
  (hok:∀w',Ext w w'->Ok P f vs w' (fun u w''=>Ext w' w''/\R w' u w'')) (h:∀w' v w'',Ext w w'->Ext w' w''->R w' v w''->D P n l Q t ((d,v)::L) w''):D P n l Q (.h i t) L w:=fun a fr=>by
 refine⟨_,by rw[HN]at ho;simpa using ho,fun w' hx=>?_⟩;unfold ZV;rw[if_pos (by simp[Region.wanted]),M8 (hok w' hx).1 ha _ fr.Yb];exact(hok w' hx).2.mono fun e w'' ⟨v,he,b,h2⟩=>⟨v,he,w'',hx.trans b,Ext.refl _,h w' v w'' hx b h2 _ (fr.put hn)⟩
theorem AcC[Dr](R:World->Value->World->Prop)(ho:HF l i=some ⟨some d,op,ty,pos,af,none⟩)(hn:Qzw d n.n=true)
  (hok:∀w',Ext w w'->∀ρ,Rho L ρ->∃v w'',(execOp ρ ⟨some d,op,ty,pos,af,none⟩).run P w'=.ok (.value v) w''/\Ext w' w''/\R w' v w'') (h:∀w' v w'',Ext w w'->Ext w' w''->R w' v w''->D P n l Q t ((d,v)::L) w''):D P n l Q (.h i t) L w:=fun a fr=>by
 refine⟨_,by rw[HN]at ho;simpa using ho,fun w' hx=>?_⟩;obtain⟨v,w'',hrun,b,h2⟩:=hok w' hx _ fr.Yb;unfold ZV;rw[if_pos (by simp[Region.wanted]),hrun];exact⟨w'',hx.trans b,Ext.refl _,h w' v w'' hx b h2 _ (fr.put hn)⟩
theorem V1[Dr](b:D P n l Q (.h i t) L w)(h2:D P n l Q (.h j u) L w):D P n l Q (.h2 i t j u) L w:=fun a fr=>⟨b a fr,h2 a fr⟩
theorem All[Dr]{m:Nat}{v:Tr}(b:D P n l Q (.h i t) L w)(h2:D P n l Q (.h j u) L w)(h3:D P n l Q (.h m v) L w):D P n l Q (.h3 i t j u m v) L w:=fun a fr=>⟨b a fr,h2 a fr,h3 a fr⟩
theorem Bt[Dr]{k:Nat}(h:∀w',Ext w w'->S P n l.toArray Q (Ye k l) L w'):D P n l Q (.tail k) L w:=fun a fr=>fun w' hx=>by
 have:=h w' hx a fr;rw[ZY]at this;have e:=wpOps_eq_wpList (P:=P) (ops:=l.toArray) (Q:=Q) (l.drop k) k (fun j=>by simp);rw[List.length_drop]at e
 show wpOps P l.toArray Q (Qkq k (l.toArray.size - k)) a w'
 rw[Qjy,e];exact this
theorem HO[Dr](s:Nat){b:Bool}(_hb:gt L s=some (.bool b))(a:b=true->D P n l Q t L w)(h2:b=false->D P n l Q t L w):D P n l Q t L w:=by
 cases b
 ·exact h2 Z
 ·exact a Z
theorem D5{ops:Array Oper}{rest:List Oper}{s:Nat}{b:Bool}(_hb:gt L s=some (.bool b))(a:b=true->S P n ops Q rest L w)(h2:b=false->S P n ops Q rest L w):S P n ops Q rest L w:=by
 cases b
 ·exact h2 Z
 ·exact a Z
theorem AF[Dr]{c x y:Operand}{b:Bool}{v:Value}[hc:Qqq (ev L c) (some (.bool b))](hb:b=true)(hx:ev L x=some v):B5 P L w (.pick c x y) ty v:=fun w' _ ρ hρ dst pos af g=>by
 subst hb;simp[execOp,hρ c _ hc.e,hρ x _ hx,asBool]
theorem AG[Dr]{c x y:Operand}{b:Bool}{v:Value}[hc:Qqq (ev L c) (some (.bool b))](hb:b=false)(hx:ev L y=some v):B5 P L w (.pick c x y) ty v:=fun w' _ ρ hρ dst pos af g=>by
 subst hb;simp[execOp,hρ c _ hc.e,hρ y _ hx,asBool]
theorem Ag[Dr]{ops:Array Oper}{rest:List Oper}{v:Value}(hr:B5 P L w op ty v)[hn:Qqq (Qzw d n.n) true](h:S P n ops Q rest ((d,v)::L) w):S P n ops Q (⟨some d,op,ty,pos,af,none⟩::rest) L w:=
 Ei hn.e (fun ρ hρ=>hr w (Ext.refl w) ρ hρ _ _ _ _) h
end
end Go.E
end
noncomputable section
namespace Go.E
open Go Go.RowKit
def Zr(P:Program)(t:TypeId)(z:Value)(sz bt:Nat):Prop:=(P.info? t).map (fun i=>(i.zero,i.size,i.bytes))=some (some z,sz,bt)
class Qqx(P:Program)(t:TypeId)(z:outParam Value)(s b:outParam Nat):Prop where e:Zr P t z s b
theorem Zr.parts{P:Program}{t:TypeId}{z:Value}{sz bt:Nat}(h:Zr P t z sz bt):∃i,P.info? t=some i/\i.zero=some z/\i.size=sz/\i.bytes=bt:=by
 unfold Zr at h
 cases hi:P.info? t with
 | none=>rw[hi]at h;cases h
 | some i=>rw[hi]at h;simp at h;exact⟨i,Z,h.1,h.2.1,h.2.2⟩
def Ta:TypeDesc->Bool
 | .struct _ | .array _ _=>false
 | _=>true
def Aaa:TypeDesc->Bool
 | .struct _ | .array _ _=>true
 | _=>false
def Dz:List BV->Nat->Option BV
 | [],_=>none
 | r::_,0=>some r
 | _::l,i+1=>Dz l i
def CE:List BV->Nat->BV->List BV
 | [],_,_=>[]
 | _::l,0,s=>s::l
 | r::l,i+1,s=>r::CE l i s
def Pw:List BV->Nat->List BV
 | [],_=>[]
 | _::l,0=>l
 | r::l,i+1=>r::Pw l i
theorem Es:∀{O:List BV}{i:Nat}{r:BV},Dz O i=some r->O.Perm (r::Pw O i)
 | r::l,0,s,h=>by simp only[Dz,Option.some.injEq]at h;subst h;exact List.Perm.refl _
 | r::l,i+1,s,h=>((Es (O:=l) (i:=i) h).cons r).trans (List.Perm.swap _ _ _)
theorem Wl:∀{O:List BV}{i:Nat}{r:BV} (s:BV),Dz O i=some r->(CE O i s).Perm (s::Pw O i)
 | _r::_l,0,_,_s,_h=>List.Perm.refl _
 | r::l,i+1,_,s,h=>((Wl (O:=l) (i:=i) s h).cons r).trans (List.Perm.swap _ _ _)
section
variable {w0 w w':World}{O:List BV}{r r':BV}{i:Nat}
theorem Bk.at[Dr](h:Bk w0 O w)(hi:Dz O i=some r):r.ok w:=h.res r ((Es hi).mem_iff.2 (.head _))
theorem Bk.LY[Dr](h:Bk w0 O w)(hi:Dz O i=some r)(hdr:w.drawn<=w'.drawn)(hg:w.grownBy w' r.block)(hok:r'.ok w')(hb:∀b,r'.block=some b->r.block=some b\/w.heap.size<=b):Bk w0 (CE O i r') w':=
 ((h.perm (Es hi).symm).Alk hdr hg hok hb).perm (Wl r' hi)
theorem Gj[Dr](h:Bk w0 O w)(hi:Dz O i=some r)(hg:w.grownBy w' r.block)(hb:∀b,r'.block=some b->r.block=some b\/w.heap.size<=b):Le (fz w O) (fz w' (CE O i r')):=by
 rw[JF (Wl r' hi),JF (Es hi)];exact Ahr (h.perm (Es hi).symm) hg hb
theorem Bk.Bl[Dr](h:Bk w0 O w)(hi:Dz O i=some r):Bk w0 (Pw O i) w:=(h.perm (Es hi).symm).drop
theorem AB(hi:Dz O i=some r):Le (fz w O) (fz w (Pw O i)):=by
 rw[JF (Es hi)];exact Ahq
theorem Tb{k:Nat}(hi:Dz O i=some r)(hb:r.block=some k)(hdis:O.Pairwise fun r s=>∀b,r.block=some b->s.block≠some b):fz w (Pw O i) k=w.heap[k]?:=by
 unfold fz;rw[if_neg];intro ho;obtain⟨s,hs,e⟩:=E7.1 ho;have:=(Es hi).pairwise hdis (fun {x y} hxy b hb hx=>hxy b hx hb);exact(Qxx.1 this).1 s hs k hb e
end
section
variable {P:Program}{n:Sz}{ops:Array Oper}{Q:Exit->Act->World->Prop}{L:Env}{w w0:World}{O:List BV}{rest:List Oper}
 {d:Nat}{ty:TypeId}{pos:String}{af:Array Edge}{α:Type}{r:Rp α}{H:PH}{x y:Operand}{v:Value}{t e:TypeId}
theorem AZ[Dr]{l:List α}[hx:Qqq (ev L x) (some v)][ht:Qqq (P.underlying t) (some (.slice e))](hv:AS r H v l):B5 P L w (.call ⟨.builtin .len,#[x],#[t]⟩) ty (.int .i64 (l.length:Int)):=by
 obtain⟨a,cap,rfl⟩:=hv.header;intro w' _ ρ hρ dst pos af g;simp[execOp,resolve,hρ x _ hx.e,invoke,builtin,Builtin.len_,run_underlying ht.e,goInt]
theorem Wm[Dr]{a:Option Addr}{m cap:Nat}(hx:ev L x=some (.slice a m cap))[ht:Qqq (P.underlying t) (some (.slice e))]:B5 P L w (.call ⟨.builtin .len,#[x],#[t]⟩) ty (.int .i64 (m:Int)):=by
 intro w' _ ρ hρ dst pos af g;simp[execOp,resolve,hρ x _ hx,invoke,builtin,Builtin.len_,run_underlying ht.e,goInt]
theorem NQ{b sz m:Nat}{xs:Qq6}(h:w.ownsRow b e sz v m xs):∃a cap,v=.slice a m cap:=by
 rcases h.2 with ⟨rfl,hn⟩ | ⟨g,cap,cur,rfl,_⟩
 ·exact⟨none,0,by rw[hn]⟩
 ·exact⟨_,_,Z⟩
theorem Tc[Dr](i:Nat){sz m:Nat}{xs:Qq6}{e':TypeId}(hx:ev L x=some v)[ht:Qqq (P.underlying t) (some (.slice e))](hL:Bk w0 O w)(hi:Dz O i=some (.row v e' sz m xs)):B5 P L w (.call ⟨.builtin .len,#[x],#[t]⟩) ty (.int .i64 (m:Int)):=by
 obtain⟨a,cap,rfl⟩:=NQ (hL.at hi);exact Wm hx (ht:=⟨ht.e⟩)
theorem JG{A:Addr}(h:A.spot=none)(i j:Nat):(A.add i).add j=A.add (i+j):=by
 obtain⟨b,o,s⟩:=A
 cases h
 simp[Addr.add_lit,Nat.add_assoc]
theorem Mu{A:Addr}(h:A.spot=none)(i:Nat):(A.add i).spot=none:=by
 obtain⟨b,o,s⟩:=A
 cases h
 simp[Addr.add_lit]
theorem Hy.add{p:Addr}{c:Qq6}(h:Hy H p c)(k:Nat):Hy H (p.add k) (c.drop k):=
 ⟨Mu h.1 k,fun j u hu=>by rw[JG h.1];exact h.2 (k+j) u (by simpa using hu)⟩
theorem Hy.mono{H':PH}{p:Addr}{c:Qq6}(h:Hy H p c)(hs:Le H H'):Hy H' p c:=⟨h.1,fun j u hu=>KJ hs (h.2 j u hu)⟩
theorem AS.ptr{l:List α}(hv:AS r H v l)(m:Nat){z:α}(hl:l[m]? = some z):∃(a:Addr) (cap:Nat) (c:Qq6),v=.slice (some a) l.length cap/\r.rel H z c/\Hy H (a.add (m * r.sz)) c:=by
 obtain⟨a,cap,b,h2,h3,d,f⟩:=hv.ex;have hlt:m<l.length:=(Qz6.1 hl).1
 cases a with
 | none=>have:=d Z;omega
 | some A=>
  obtain⟨hs,hh⟩:=f A Z (fun e=>by subst e;simp at hlt);obtain⟨c,hc,hcell⟩:=hh m z hl;exact⟨A,cap,c,b,hc,Mu hs _,fun j u hu=>by rw[JG hs];exact hcell j u hu⟩
theorem YL[Dr]{l:List α}{k:IntKind}{i:Int}{zz:Value}{bt:Nat}(hx:ev L x=some v)(hy:ev L y=some (.int k i))(ht:P.underlying t=some (.slice e))(he:Zr P e zz r.sz bt)(hv:AS r H v l)(m:Nat)(hm:i=(m:Int)){z:α}(hl:l[m]? = some z):
  ∃p c,r.rel H z c/\Hy H p c/\∀w,B5 P L w (.indexAddr t x y) ty (.pointer (some p)):=by
 obtain⟨a,cap,c,rfl,hc,hp⟩:=hv.ptr m hl;refine⟨_,c,hc,hp,fun w w' _ ρ hρ dst pos af g=>?_⟩;obtain⟨inf,b,h2,h3,d⟩:=he.parts;have hlt:m<l.length:=(Qz6.1 hl).1;subst hm;have f:(0:Int)<=(m:Int)/\(m:Int)<(l.length:Int):=by omega
 simp[execOp,hρ x _ hx,hρ y _ hy,Instr.indexAt,asIntOf,run_underlying ht,sizeOf,typeInfo,b,h3,hlt]
theorem AT[Dr]{p:Addr}{u:Value}{c:Qq6}{dd:TypeDesc}[hx:Qqq (ev L x) (some (.pointer (some p)))][ht:Qqq (P.underlying t) (some dd)][hd:Qqq (Ta dd) true](hp':Hy H p (u::c))(hs:Le H (hp w)):B5 P L w (.load t x) ty u:=by
 have hd:=hd.e
 intro w' hw ρ hρ dst pos af g
 have hcell:w'.cell? p=some u:=by
  have:=hp'.2 0 u Qqd;rw[Addr.add_zero']at this;exact cell_of (hs.ext hw) this
 cases dd <;> simp only[Ta,Qxk]at hd <;>
  simp[execOp,hρ x _ hx.e,Instr.loadAt,Instr.sureAddr,loadVar,isAgg,run_underlying ht.e,hcell]
theorem run_loadCellsFrom{p:Addr}(w:World):∀(m i:Nat) (c:Qq6) (acc:Array Value),c.length=m->(∀j u,c[j]? = some u->w.cell? (p.add (i+j))=some u)->
  (loadCellsFrom p i m acc).run P w=.ok (acc++c.toArray) w
 | 0,i,c,acc,hl,_=>by
  have:c=[]:=Qxd hl;subst this;simp[loadCellsFrom]
 | m+1,i,[],acc,hl,_=>by simp at hl
 | m+1,i,u::c,acc,hl,h=>by
  have a:w.cell? (p.add i)=some u:=by simpa using h 0 u Qqd
  have ih:=run_loadCellsFrom w m (i+1) c (acc.push u) (by simpa using hl) (fun j v hv=>by have:=h (j+1) v (by simpa using hv);rwa [show i+(j+1)=i+1+j from by omega]at this);simp[loadCellsFrom,a,ih]
theorem BI[Dr]{p:Addr}{c:Qq6}{dd:TypeDesc}{zz:Value}{bt:Nat}[hx:Qqq (ev L x) (some (.pointer (some p)))][ht:Qqq (P.underlying t) (some dd)][hd:Qqq (Aaa dd) true][hz:Qqx P t zz c.length bt](hp':Hy H p c)(hs:Le H (hp w)):B5 P L w (.load t x) ty (.agg c.toArray):=by
 have hd:=hd.e
 intro w' hw ρ hρ dst pos af g;obtain⟨inf,a,h2,h3,b⟩:=hz.e.parts;have hload:=run_loadCellsFrom (P:=P) (p:=p) w' c.length 0 c #[] Z (fun j u hu=>by rw[QzJ];exact cell_of (hs.ext hw) (hp'.2 j u hu))
 cases dd <;> simp only[Aaa,Qxk]at hd <;>
  simp[execOp,hρ x _ hx.e,Instr.loadAt,Instr.sureAddr,loadVar,isAgg,run_underlying ht.e,loadCells,sizeOf,typeInfo,a,h3,hload]
theorem Ahu[Dr]{p:Addr}{fs:Array Field}{f:Nat}{fd:Field}{zz:Value}{sz bt:Nat}(hx:ev L x=some (.pointer (some p)))(ht:P.underlying t=some (.struct fs))(hf:fs[f]? = some fd)(hz:Zr P fd.type zz sz bt)(hne:sz≠0):
  B5 P L w (.fieldAddr t x f) ty (.pointer (some (p.add fd.offset))):=by
 intro w' hw ρ hρ dst pos af g;obtain⟨inf,a,h2,h3,b⟩:=hz.parts;simp[execOp,hρ x _ hx,Instr.fieldAt,run_underlying ht,hf,Instr.sureAddr,fieldPlace,sizeOf,typeInfo,a,h3,hne]
theorem Ae[Dr]{p:Addr}{fs:Array Field}{f:Nat}{fd:Field}{zz:Value}{sz bt:Nat}(hx:ev L x=some (.pointer (some p)))(ht:P.underlying t=some (.struct fs))(hf:fs[f]? = some fd)(hz:Zr P fd.type zz sz bt)(hne:sz≠0:=by decide):
  B5 P L w (.fieldAddr t x f) ty (.pointer (some (p.add fd.offset))):=Ahu hx ht hf hz hne
theorem Aju[Dr]{cs:Array Value}{fs:Array Field}{f:Nat}{fd:Field}{dd:TypeDesc}{u:Value}(hx:ev L x=some (.agg cs))(ht:P.underlying t=some (.struct fs))(hf:fs[f]? = some fd)(hd:P.underlying fd.type=some dd)(hp:Ta dd=true)(hu:nth cs.toList fd.offset=some u):
  B5 P L w (.field t x f) ty u:=by
 intro w' hw ρ hρ dst pos af g;rw[Ab0]at hu;have hu':cs[fd.offset]? = some u:=by simpa using hu
 cases dd <;> simp only[Ta,Qxk]at hp <;>
  simp[execOp,hρ x _ hx,Instr.field,run_underlying ht,hf,asAgg,part,isAgg,run_underlying hd,hu']
theorem AS.sub{l:List α}(hv:AS r H v l)(lo hi:Nat)(f:lo<=hi)(h2:hi<=l.length):∃a cap,v=.slice a l.length cap/\AS r H (.slice (if cap=lo then a else a.map (·.add (lo * r.sz))) (hi - lo) (cap - lo)) ((l.drop lo).take (hi - lo)):=by
 obtain⟨a,cap,rfl,h2',h3,b,d⟩:=hv.ex;refine⟨a,cap,Z,?_⟩;have hlen:((l.drop lo).take (hi - lo)).length=hi - lo:=by simp;omega
 refine⟨_,cap - lo,by rw[hlen],by rw[hlen];omega,by omega,?_,?_⟩
 ·intro ha
  split at ha
  ·rename_i e;omega
  ·cases a with
   | none=>have:=b Z;omega
   | some A=>cases ha
 ·intro A hA hne
  have hpos:lo<hi:=by
   rcases Qxa lo hi with h | h
   ·exact h
   ·exfalso;apply hne;simp;omega
  rw[if_neg U]at hA
  cases a with
  | none=>cases hA
  | some A0=>
   cases hA
   obtain⟨hs,hh⟩:=d A0 Z (fun e=>by subst e;simp at h2;omega);refine⟨Mu hs _,fun i z hz=>?_⟩;rw[Qjc]at hz
   split at hz
   ·rw[List.getElem?_drop]at hz;obtain⟨c,hc,hcell⟩:=hh (lo+i) z hz;refine⟨c,hc,fun j u hu=>?_⟩;rw[JG hs,show lo * r.sz+(i * r.sz+j)=(lo+i) * r.sz+j from by rw[Qkf];omega];exact hcell j u hu
   ·cases hz
def loB(L:Env)(lo:Option Operand)(a:Nat):Prop:=match lo with | some o=>∃k,ev L o=some (.int k (a:Int)) | none=>a=0
def hiB(L:Env)(hi:Option Operand)(b m:Nat):Prop:=match hi with | some o=>∃k,ev L o=some (.int k (b:Int)) | none=>b=m
theorem YM[Dr]{l:List α}{lo hi:Option Operand}{zz:Value}{bt:Nat}(hx:ev L x=some v)(ht:P.underlying t=some (.slice e))(he:Zr P e zz r.sz bt)(hv:AS r H v l)(a b:Nat)
  (ha:loB L lo a) (hb:hiB L hi b l.length) (f:a<=b) (h2:b<=l.length) :
  ∃v',AS r H v' ((l.drop a).take (b - a))/\∀w,B5 P L w (.slice t x lo hi none) ty v':=by
 obtain⟨A,cap,d,hsub⟩:=hv.sub a b f h2;refine⟨_,hsub,fun w w' _ ρ hρ dst pos af g=>?_⟩;obtain⟨inf,c,u,j,y⟩:=he.parts;obtain⟨A',cap',k,o,p,q,s⟩:=hv.ex;have hcc:cap=cap':=by rw[d]at k;cases k;rfl
 have hbc:b<=cap:=by omega
 subst d;have z:(b:Int)<=(cap:Int):=by omega
 have e3:(a:Int)<=(b:Int):=by omega
 cases lo with
 | none=>
  simp only[loB]at ha;subst ha
  cases hi with
  | none=>
   simp only[hiB]at hb;subst hb;simp[execOp,hρ x _ hx,Instr.sliceAt,run_underlying ht,Instr.slice,Instr.sliceBounds,sizeOf,typeInfo,c]
  | some i=>
   obtain⟨n,hb⟩:=hb;simp[execOp,hρ x _ hx,hρ i _ hb,Instr.sliceAt,run_underlying ht,Instr.slice,Instr.sliceBounds,Instr.sliceBound,asIntOf,sizeOf,typeInfo,c,hbc]
 | some m=>
  obtain⟨k1,ha⟩:=ha
  cases hi with
  | none=>
   simp only[hiB]at hb;subst hb;simp[execOp,hρ x _ hx,hρ m _ ha,Instr.sliceAt,run_underlying ht,Instr.slice,Instr.sliceBounds,Instr.sliceBound,asIntOf,sizeOf,typeInfo,c,j,f]
  | some i=>
   obtain⟨n,hb⟩:=hb;simp[execOp,hρ x _ hx,hρ m _ ha,hρ i _ hb,Instr.sliceAt,run_underlying ht,Instr.slice,Instr.sliceBounds,Instr.sliceBound,asIntOf,sizeOf,typeInfo,c,j,hbc,f]
theorem getD_some{β:Type}[Inhabited β]{l:List β}{m:Nat}(h:m<l.length):l[m]? = some (l.getD m Qq2):=by simp[h]
theorem AW[Dr][Inhabited α]{l:List α}{k:IntKind}{i:Int}{zz:Value}{bt:Nat}[hx:Qqq (ev L x) (some v)][hy:Qqq (ev L y) (some (.int k i))][ht:Qqq (P.underlying t) (some (.slice e))][he:Qqx P e zz r.sz bt](hv:AS r H v l)(m:Nat)(hm:i=(m:Int))(hlt:m<l.length)[hn:Qqq (Qzw d n.n) true]
  (h:∀p c,r.rel H (l.getD m Qq2) c->Hy H p c->S P n ops Q rest ((d,.pointer (some p))::L) w):S P n ops Q (⟨some d,.indexAddr t x y,ty,pos,af,none⟩::rest) L w:=by
 obtain⟨p,c,a,h2,h3⟩:=YL (P:=P) (ty:=ty) hx.e hy.e ht.e he.e hv m hm (getD_some hlt);exact Ag (h3 w) (hn:=⟨hn.e⟩) (h p c a h2)
theorem CP[Dr][Inhabited α]{lo:List Oper}{ix:Nat}{tr:Tr}{l:List α}{k:IntKind}{i:Int}{zz:Value}{bt:Nat}(ho:HF lo ix=some ⟨some d,.indexAddr t x y,ty,pos,af,none⟩)(hx:ev L x=some v)(hy:ev L y=some (.int k i))(ht:P.underlying t=some (.slice e))[he:Qqx P e zz r.sz bt](hv:AS r H v l)(m:Nat)(hm:i=(m:Int))(hlt:m<l.length)(hn:Qzw d n.n=true)
  (h:∀p c,r.rel H (l.getD m Qq2) c->Hy H p c->D P n lo Q tr ((d,.pointer (some p))::L) w):D P n lo Q (.q ix tr) L w:=by
 obtain⟨p,c,a,h2,h3⟩:=YL (P:=P) (ty:=ty) hx hy ht he.e hv m hm (getD_some hlt);exact B2 ho (h3 w) hn (h p c a h2)
theorem I2[Dr][Inhabited α]{lo:List Oper}{ix:Nat}{tr:Tr}{l:List α}{k:IntKind}{i:Int}{zz:Value}{bt j s:Nat}{want b:Bool}{oj:Oper}(ho:HF lo ix=some ⟨some d,.indexAddr t x y,ty,pos,af,some (j,want)⟩)(hj:HF lo j=some oj)(hd:oj.dst=some s)(hb:gt L s=some (.bool b))(hw:b=want)
  (hx:ev L x=some v) (hy:ev L y=some (.int k i)) (ht:P.underlying t=some (.slice e)) [he:Qqx P e zz r.sz bt] (hv:AS r H v l) (m:Nat) (hm:i=(m:Int)) (hlt:m<l.length) (hn:Qzw d n.n=true)
  (h:∀p c,r.rel H (l.getD m Qq2) c->Hy H p c->D P n lo Q tr ((d,.pointer (some p))::L) w):D P n lo Q (.q ix tr) L w:=by
 obtain⟨p,c,a,h2,h3⟩:=YL (P:=P) (ty:=ty) hx hy ht he.e hv m hm (getD_some hlt);exact CM ho (h3 w) hj hd hb hw hn (h p c a h2)
theorem YN[Dr]{l:List α}{lo hi:Option Operand}{zz:Value}{bt:Nat}(hx:ev L x=some v)(ht:P.underlying t=some (.slice e))(he:Zr P e zz r.sz bt)(hv:AS r H v l)(a b:Nat)
  (ha:loB L lo a) (hb:hiB L hi b l.length) (hab:a<=b/\b<=l.length) (hn:Qzw d n.n=true)
  (h:∀v',AS r H v' ((l.drop a).take (b - a))->S P n ops Q rest ((d,v')::L) w):S P n ops Q (⟨some d,.slice t x lo hi none,ty,pos,af,none⟩::rest) L w:=by
 obtain⟨v',c,h2⟩:=YM (P:=P) (ty:=ty) hx ht he hv a b ha hb hab.1 hab.2;exact Ag (h2 w) (hn:=⟨hn⟩) (h v' c)
theorem AcD[Dr]{lop:List Oper}{ix:Nat}{tr:Tr}{l:List α}{lo hi:Option Operand}{zz:Value}{bt:Nat}(ho:HF lop ix=some ⟨some d,.slice t x lo hi none,ty,pos,af,none⟩)(hx:ev L x=some v)(ht:P.underlying t=some (.slice e))(he:Zr P e zz r.sz bt)(hv:AS r H v l)(a b:Nat)
  (ha:loB L lo a) (hb:hiB L hi b l.length) (hab:a<=b/\b<=l.length) (hn:Qzw d n.n=true)
  (h:∀v',AS r H v' ((l.drop a).take (b - a))->D P n lop Q tr ((d,v')::L) w):D P n lop Q (.q ix tr) L w:=by
 obtain⟨v',c,h2⟩:=YM (P:=P) (ty:=ty) hx ht he hv a b ha hb hab.1 hab.2;exact B2 ho (h2 w) hn (h v' c)
theorem AS.one{l:List α}(h:AS r H v l):v.oneCell'=true:=by obtain⟨a,c,rfl⟩:=h.header;rfl
end
end Go.E
namespace Go.E
open Go Go.RowKit
theorem Ps:∀u∈([]:Qq6),u.oneCell'=true:=fun _ h=>by cases h
theorem CB{v:Value}{l:Qq6}(hv:v.oneCell'=true)(hl:∀u∈l,u.oneCell'=true):∀u∈v::l,u.oneCell'=true:=fun u hu=>by
 cases hu with
 | head=>exact hv
 | tail _ h=>exact hl u h
theorem AX{l:Qq6}(h:l.map Value.oneCell'=l.map fun _=>true):∀u∈l,u.oneCell'=true:=by
 induction l with
 | nil=>exact Ps
 | cons v l ih=>exact CB (List.cons.inj h).1 (ih (List.cons.inj h).2)
theorem CW[Dr](w:World)(o:Obj):Ext w (w.alloc o):=⟨(Below.refl _ _).alloc (Qzu _) o,fun _=>Qzu _⟩
theorem Rh[Dr]{w w':World}(hd:w.drawn<=w'.drawn)(h:w.grownBy w' none):Ext w w':=⟨⟨h.os,h.tape,h.output,h.size,fun k hk=>h.block k hk Qqd⟩,fun _=>hd⟩
def Aab:Qq6->Nat->Value->Qq6
 | [],_,_=>[]
 | _::l,0,v=>v::l
 | u::l,i+1,v=>u::Aab l i v
theorem AcE:∀(l:Qq6) (i:Nat) (v:Value),Aab l i v=l.set i v
 | [],_,_=>by simp[Aab]
 | _::_,0,_=>by simp[Aab]
 | _::l,i+1,v=>by simp[Aab,AcE l i v]
section
variable {P:Program}{n:Sz}{ops:Array Oper}{Q:Exit->Act->World->Prop}{L:Env}{w w0:World}{O:List BV}{rest:List Oper}
 {d:Nat}{ty:TypeId}{pos:String}{af:Array Edge}{α:Type}{r:Rp α}{H:PH}{x y:Operand}{v:Value}{t e:TypeId}
theorem Yf{z:Value}{sz bt:Nat}(hz:Zr P t z sz bt)(w:World)(ρ:Operand->Value)(o:Oper)(ho:o.op=.alloc t):(execOp ρ o).run P w=.ok (.value (.pointer (some ⟨w.heap.size,0,none⟩))) (w.alloc (.cells z.cells t)):=by
 obtain⟨inf,a,h2,h3,b⟩:=hz.parts;simp[execOp,ho,Instr.alloc,zeroValue,typeInfo,a,h2,newVar,newRow]
theorem YO[Dr]{cs:Qq6}(hL:Bk w0 O w):Bk w0 (.box w.heap.size cs t::O) (w.alloc (.cells cs.toArray t)):=
 hL.new (CW _ _) (heap_alloc_new w _) (fun b hb=>by cases hb;exact Qzu _)
theorem Uw[Dr]{cs:Qq6}(hL:Bk w0 O w):Le (fz w O) (fz (w.alloc (.cells cs.toArray t)) (.box w.heap.size cs t::O)):=
 SX hL (CW _ _) (fun b hb=>by cases hb;exact Qzu _)
theorem AO[Dr]{z:Value}{sz bt:Nat}{cs:Qq6}(hz:Zr P t z sz bt)(hc:z.cells.toList=cs)[hn:Qqq (Qzw d n.n) true](hL:Bk w0 O w)
  (h:∀w' b,Bk w0 (.box b cs t::O) w'->Le (fz w O) (fz w' (.box b cs t::O))->Ext w w'->S P n ops Q rest ((d,.pointer (some ⟨b,0,none⟩))::L) w'):S P n ops Q (⟨some d,.alloc t,ty,pos,af,none⟩::rest) L w:=by
 subst hc;refine Ei hn.e (fun ρ _=>Yf hz w ρ _ Z) ?_;have e:(Obj.cells z.cells t:Obj)=.cells z.cells.toList.toArray t:=by simp
 rw[e];exact h _ _ (YO hL) (Uw hL) (CW _ _)
theorem BM[Dr]{cs:Qq6}(hx:ev L x=some v)(hc:v.cells.toList=cs)[hn:Qqq (Qzw d n.n) true](hL:Bk w0 O w)
  (h:∀w' b,Bk w0 (.box b cs t::O) w'->Le (fz w O) (fz w' (.box b cs t::O))->Ext w w'->S P n ops Q rest ((d,.pointer (some ⟨b,0,none⟩))::L) w'):S P n ops Q (⟨some d,.box t x,ty,pos,af,none⟩::rest) L w:=by
 subst hc;refine Ei (v:=.pointer (some ⟨w.heap.size,0,none⟩)) (w':=w.alloc (.cells v.cells t)) hn.e (fun ρ hρ=>by simp[execOp,hρ x _ hx,Instr.box,newVar,newRow]) ?_;have e:(Obj.cells v.cells t:Obj)=.cells v.cells.toList.toArray t:=by simp
 rw[e];exact h _ _ (YO hL) (Uw hL) (CW _ _)
theorem AP[Dr]{i b:Nat}{cs:Qq6}{t':TypeId}(hL:Bk w0 O w)(hi:Dz O i=some (.box b cs t')):Hy (hp w) ⟨b,0,none⟩ cs:=
 ⟨Z,fun j u hu=>by
  have:=hL.at hi;rw[Addr.add_lit,QzJ,AeD,cell_of_row w b j _ _ _ this]
  simpa using hu⟩
theorem Wn:∀(cs:Qq6) (o:Nat) (u:Value),nth cs o=some u->∃c,cs.drop o=u::c
 | _::cs,0,u,h=>by simp only[nth,Option.some.injEq]at h;subst h;exact⟨cs,Z⟩
 | _::cs,o+1,u,h=>Wn cs o u h
theorem Ri[Dr](i:Nat){b off:Nat}{cs:Qq6}{t':TypeId}{u:Value}{dd:TypeDesc}(hx:ev L x=some (.pointer (some ⟨b,off,none⟩)))[ht:Qqq (P.underlying t) (some dd)][hd:Qqq (Ta dd) true](hL:Bk w0 O w)(hi:Dz O i=some (.box b cs t'))(hu:nth cs off=some u):B5 P L w (.load t x) ty u:=by
 obtain⟨c,hc⟩:=Wn cs off u hu;have a:=(AP hL hi).add off;rw[hc,Addr.add_lit,QzJ]at a;exact AT (hx:=⟨hx⟩) (ht:=⟨ht.e⟩) (hd:=⟨hd.e⟩) a (Le.refl _)
theorem Af[Dr](i:Nat){b off:Nat}{cs:Qq6}{t':TypeId}{u:Value}{dd:TypeDesc}(hx:ev L x=some (.pointer (some ⟨b,off,none⟩)))[ht:Qqq (P.underlying t) (some dd)][hd:Qqq (Ta dd) true](hL:Bk w0 O w)(hp:(Dz O i,nth cs off)=(some (.box b cs t'),some u)):B5 P L w (.load t x) ty u:=by
 simp only[Prod.mk.injEq]at hp;exact Ri i hx (ht:=⟨ht.e⟩) (hd:=⟨hd.e⟩) hL hp.1 hp.2
theorem AJ[Dr](i:Nat){b:Nat}{cs:Qq6}{t':TypeId}{dd:TypeDesc}{zz:Value}{bt:Nat}(hx:ev L x=some (.pointer (some ⟨b,0,none⟩)))[ht:Qqq (P.underlying t) (some dd)][hd:Qqq (Aaa dd) true](hz:Zr P t zz cs.length bt)(hL:Bk w0 O w)(hi:Dz O i=some (.box b cs t')):B5 P L w (.load t x) ty (.agg cs.toArray):=
 BI (hx:=⟨hx⟩) (ht:=⟨ht.e⟩) (hd:=⟨hd.e⟩) (hz:=⟨hz⟩) (AP hL hi) (Le.refl _)
theorem LZ(w:World)(g:Nat)(cur cs:Array Value)(t:TypeId)(hg:w.heap[g]? = some (.cells cur t (0,0))):(w.setRow g cs).heap[g]? = some (.cells cs t (0,0)):=setRow_heap w g cur cs t (0,0) hg
theorem NR(w:World)(g:Nat)(cs:Array Value):w.grownBy (w.setRow g cs) (some g):=
 ⟨Z,Z,Z,by simp,fun k _ hk=>setRow_other w g k _ (fun e=>hk (by simp[e]))⟩
theorem Ux[Dr](i:Nat){b:Nat}{cs vs:Qq6}{t':TypeId}{zz:Value}{bt:Nat}(hx:ev L x=some (.pointer (some ⟨b,0,none⟩)))(hy:ev L y=some v)(hc:v.cells.toList=vs)(hz:Zr P t zz vs.length bt)(hL:Bk w0 O w)(hi:Dz O i=some (.box b cs t'))(hlen:cs.length=vs.length)(a:∀u∈vs,u.oneCell'=true)
  (h:∀w',Bk w0 (CE O i (.box b vs t')) w'->Le (fz w O) (fz w' (CE O i (.box b vs t')))->S P n ops Q rest L w'):S P n ops Q (⟨none,.store t x y,ty,pos,af,none⟩::rest) L w:=by
 subst hc;obtain⟨inf,c,f,d,g⟩:=hz.parts;have hb:w.heap[b]? = some (.cells cs.toArray t' (0,0)):=hL.at hi;have hst:=run_storeCells_at P b 0 t' v.cells.toList 0 cs.toArray w hb (by simp at hlen ⊢;omega) a;simp only[QzJ,List.take_zero,List.nil_append]at hst;have hdrop:cs.drop v.cells.toList.length=[]:=by simp at hlen ⊢;omega
 simp only[hdrop,List.append_nil,Array.toArray_toList]at hst;have hsz:v.cells.size=inf.size:=by rw[d];simp
 refine NO (w.setRow b v.cells) (fun ρ hρ=>by
  simp[execOp,hρ x _ hx,hρ y _ hy,Instr.storeAt,Instr.sureAddr,storeVar,sizeOf,typeInfo,c,hsz,hst]) ?_
 have hg:=NR w b v.cells
 have hok:BV.ok (w.setRow b v.cells) (.box b v.cells.toList t'):=by
  show(w.setRow b v.cells).heap[b]? = _
  simpa using LZ w b cs.toArray v.cells t' hb
 exact h _ (hL.LY hi (Qzu _) hg hok (fun b' e=>.inl e)) (Gj hL hi hg (fun b' e=>.inl e))
theorem Ak[Dr](i:Nat){b:Nat}{cs vs:Qq6}{t':TypeId}{zz:Value}{bt:Nat}(hq:(ev L x,ev L y,v.cells.toList)=(some (.pointer (some ⟨b,0,none⟩)),some v,vs))[hz:Qqx P t zz vs.length bt](hL:Bk w0 O w)(hp:(Dz O i,cs.length)=(some (.box b cs t'),vs.length))
  (h:∀w',Bk w0 (CE O i (.box b vs t')) w'->Le (fz w O) (fz w' (CE O i (.box b vs t')))->S P n ops Q rest L w')(a:∀u∈vs,u.oneCell'=true:=by exact AX Z):S P n ops Q (⟨none,.store t x y,ty,pos,af,none⟩::rest) L w:=by
 simp only[Prod.mk.injEq]at hq hp;exact Ux i hq.1 hq.2.1 hq.2.2 hz.e hL hp.1 hp.2 a h
theorem BE[Dr](i:Nat){b off:Nat}{cs:Qq6}{t':TypeId}{zz:Value}{bt:Nat}(hx:ev L x=some (.pointer (some ⟨b,off,none⟩)))[hy:Qqq (ev L y) (some v)](hv:v.oneCell'=true)[hz:Qqx P t zz 1 bt](hL:Bk w0 O w)(hi:Dz O i=some (.box b cs t'))(hlt:Qzw off cs.length=true)
  (h:∀w',Bk w0 (CE O i (.box b (Aab cs off v) t')) w'->Le (fz w O) (fz w' (CE O i (.box b (Aab cs off v) t')))->S P n ops Q rest L w'):S P n ops Q (⟨none,.store t x y,ty,pos,af,none⟩::rest) L w:=by
 obtain⟨inf,a,d,c,f⟩:=hz.e.parts;have hb:w.heap[b]? = some (.cells cs.toArray t' (0,0)):=hL.at hi;have hlt':=Re hlt;have hvc:v.cells = #[v]:=by cases v <;> simp_all [Value.cells,Value.oneCell']
 have hst:=run_storeCells_at P b off t' [v] 0 cs.toArray w hb (by simp;omega) (by simpa using hv);have hcell:w.cell? ⟨b,off,none⟩=some cs[off]:=by rw[cell_of_row w b off _ _ _ hb];simp[hlt']
 have hfz:w.frozen? ⟨b,off,none⟩=false:=frozen_of_row w b off _ _ hb
 refine NO (w.setCell ⟨b,off,none⟩ v) (fun ρ hρ=>by
  simp[execOp,hρ x _ hx,hρ y _ hy.e,Instr.storeAt,Instr.sureAddr,storeVar,sizeOf,typeInfo,a,c,hvc,storeCells,run_store,hv,Addr.add_zero',hcell,hfz]) ?_
 have hsame:=heap_setCell_same w b off cs.toArray t' v hb;have hg:w.grownBy (w.setCell ⟨b,off,none⟩ v) (some b):=⟨Z,Z,Z,by simp,fun k _ hk=>heap_setCell_other w ⟨b,off,none⟩ k v (fun e=>hk (by simp[e]))⟩
 have hok:BV.ok (w.setCell ⟨b,off,none⟩ v) (.box b (Aab cs off v) t'):=by
  show(w.setCell ⟨b,off,none⟩ v).heap[b]? = _
  rw[hsame,AcE];simp
 exact h _ (hL.LY hi (Qzu _) hg hok (fun b' e=>.inl e)) (Gj hL hi hg (fun b' e=>.inl e))
theorem Br[Dr]{f:FuncId}{args:List Operand}{vs:Qq6}{at_:Array TypeId}{R:Value->World->Prop}[ha:Qqq (Vc L args) (some vs)][hn:Qqq (Qzw d n.n) true](hL:Bk w0 O w)(hok:Ok P f vs w (fun v w'=>Ext w w'/\R v w'))
  (h:∀v w',R v w'->Ext w w'->Bk w0 O w'->Le (fz w O) (fz w' O)->S P n ops Q rest ((d,v)::L) w'):S P n ops Q (⟨some d,.call ⟨.value (.func f),args.toArray,at_⟩,ty,pos,af,none⟩::rest) L w:=
 Fh (ha:=⟨ha.e⟩) (hn:=⟨hn.e⟩) hok fun v w' ⟨hx,hR⟩=>h v w' hR hx (hL.call hx) (AH hL hx)
theorem A9[Dr]{f:FuncId}{args:List Operand}{vs:Qq6}{at_:Array TypeId}{v:Value}[ha:Qqq (Vc L args) (some vs)][hn:Qqq (Qzw d n.n) true](hL:Bk w0 O w)(hok:Ok P f vs w (fun u w'=>Ext w w'/\u=v))
  (h:∀w',Ext w w'->Bk w0 O w'->Le (fz w O) (fz w' O)->S P n ops Q rest ((d,v)::L) w'):S P n ops Q (⟨some d,.call ⟨.value (.func f),args.toArray,at_⟩,ty,pos,af,none⟩::rest) L w:=
 Br (R:=fun u _=>u=v) (ha:=⟨ha.e⟩) (hn:=⟨hn.e⟩) hL hok fun u w' hu hx a h2=>by subst hu;exact h w' hx a h2
def evp(L:Env):List (Nat×Operand)->Option (List (Nat×Value))
 | []=>some []
 | (i,x)::l=>match ev L x,evp L l with
  | some v,some vs=>some ((i,v)::vs)
  | _,_=>none
theorem Rho.Ahx{ρ:Operand->Value}(h:Rho L ρ):∀(l:List (Nat×Operand)) (vs:List (Nat×Value)),evp L l=some vs->l.map (fun(i,x)=>(i,ρ x))=vs
 | [],vs,e=>by simp only[evp,Option.some.injEq]at e;simpa using e
 | (i,x)::l,vs,e=>by
  unfold evp at e
  split at e
  ·rename_i v us a h2;cases e;simp[h x v a,Rho.Ahx h l us h2]
  ·cases e
theorem Ba[Dr]{ps:List (Nat×Operand)}{vs:List (Nat×Value)}{u:Value}[hp:Qqq (evp L ps) (some vs)](hr:∀w,(Instr.build t vs.toArray).run P w=.ok u w):B5 P L w (.build t ps.toArray) ty u:=by
 intro w' _ ρ hρ dst pos af g;have e:=hρ.Ahx _ _ hp.e;have e':(ps.toArray.map fun(i,x)=>(i,ρ x))=vs.toArray:=by rw[<- e];simp
 simp[execOp,e',hr w',-List.map_toArray]
def Src(H:PH)(sz:Nat)(v:Value)(m:Nat)(news:Qq6):Prop:=
 news.length=m * sz/\∃a cap,v=.slice a m cap/\m<=cap/\cap<=maxLen/\(a=none->cap=0)/\∀A,a=some A->m≠0->A.spot=none/\∀j u,news[j]? = some u->IW H (A.add j)=some u
theorem Src.mono{H':PH}{sz m:Nat}{news:Qq6}(h:Src H sz v m news)(hs:Le H H'):Src H' sz v m news:=by
 obtain⟨c,a,cap,h2,h3,d,e,b⟩:=h;exact⟨c,a,cap,h2,h3,d,e,fun A hA hm=>⟨(b A hA hm).1,fun j u hu=>KJ hs ((b A hA hm).2 j u hu)⟩⟩
theorem AS.elems{l:List α}(hv:AS r H v l):∃news,AK r H l news/\Src H r.sz v l.length news:=by
 obtain⟨a,cap,f,h2,h3,e,g⟩:=hv.ex
 cases a with
 | none=>
  have:l.length=0:=by have:=e Z;omega
  have:l=[]:=Qxd this;subst this;exact⟨[],.nil,by simp,none,cap,f,h2,h3,e,fun A hA=>by cases hA⟩
 | some A=>
  by_cases hl:l=[]
  ·subst hl;exact⟨[],.nil,by simp,some A,cap,f,h2,h3,e,fun _ _ hm=>absurd Z hm⟩
  obtain⟨hs,hh⟩:=g A Z hl
  have key:∀(m:List α) (k:Nat),(∀i x,m[i]? = some x->∃c,r.rel H x c/\∀j u,c[j]? = some u->IW H (A.add ((k+i) * r.sz+j))=some u)->
    ∃news,AK r H m news/\∀j u,news[j]? = some u->IW H (A.add (k * r.sz+j))=some u:=by
   intro m
   induction m with
   | nil=>intro k _;exact⟨[],.nil,fun j u hu=>by cases hu⟩
   | cons x m ih=>
    intro k hm;obtain⟨c,hc,hcell⟩:=hm 0 x Qqd;obtain⟨news,b,d⟩:=ih (k+1) (fun i y hy=>by have:=hm (i+1) y (by simpa using hy);rwa [show k+(i+1)=k+1+i from by omega]at this);refine⟨c++news,.cons hc b,fun j u hu=>?_⟩
    rcases Qxa j c.length with hj | hj
    ·rw[Qk4 hj]at hu;have:=hcell j u hu
     rwa [Qxf]at this
    ·rw[Qjb hj]at hu;have:=d _ u hu;rw[r.len hc]at this hj;rw[show k * r.sz+j=(k+1) * r.sz+(j - r.sz)from by rw[Qkf];omega];exact this
  obtain⟨news,b,d⟩:=key l 0 (fun i x hx=>by rw[QzJ];exact hh i x hx);refine⟨news,b,b.len,some A,cap,f,h2,h3,e,fun A' hA' _=>?_⟩
  cases hA'
  exact⟨hs,fun j u hu=>by have:=d j u hu;rwa [Nat.zero_mul,QzJ]at this⟩
theorem Wo{l:List α}{news:Qq6}(he:AK r H l news)(h:Src H r.sz v l.length news):AS r H v l:=by
 obtain⟨g,a,cap,h2,h3,b,d,f⟩:=h;refine⟨a,cap,h2,h3,b,d,fun A hA hl=>?_⟩;obtain⟨hs,hh⟩:=f A hA (fun e=>hl (Qxd e));refine⟨hs,fun i x hx=>?_⟩;obtain⟨c,hc,hcell⟩:=he.at i x hx;exact⟨c,hc,fun j u hu=>hh _ u (hcell j u hu)⟩
theorem Ab4[Dr]{i sz bt m k:Nat}{zz u:Value}{xs news:Qq6}(ht:P.underlying t=some (.slice e))(hz:Zr P e zz sz bt)(hzs:zz.cells.size=sz)(hsz:0<sz)(hL:Bk w0 O w)(hi:Dz O i=some (.row v e sz m xs))(hs:Src (hp w) sz u k news)(n:∀c∈news,c.oneCell'=true)
  (hby:(m+k) * bt<=140737488355328) (hm:m+k<=9223372036854775807) :
  ∃v' w',(Builtin.append_ #[t,t] ty #[v,u]).run P w=.ok v' w'/\Bk w0 (CE O i (.row v' e sz (m+k) (xs++news))) w'/\Le (fz w O) (fz w' (CE O i (.row v' e sz (m+k) (xs++news)))):=by
 obtain⟨inf,f,l,o,p⟩:=hz.parts;have hown:w.ownsRow 0 e sz v m xs:=hL.at hi;obtain⟨hl,a,cap,hu,x,y,q,r⟩:=hs;have s:m+k<=maxLen:=by unfold maxLen;omega
 have fin:∀v' w',w.drawn<=w'.drawn->w'.ownsRow 0 e sz v' (m+k) (xs++news)->w.grownBy w' v.ownBlock->(∀b,v'.ownBlock=some b->v.ownBlock=some b\/w.heap.size<=b)->
   Bk w0 (CE O i (.row v' e sz (m+k) (xs++news))) w'/\Le (fz w O) (fz w' (CE O i (.row v' e sz (m+k) (xs++news)))):=fun v' w' hdr h2 h3 hb=>
  ⟨hL.LY hi hdr h3 h2 hb,Gj (r':=.row v' e sz (m+k) (xs++news)) hL hi h3 hb⟩
 by_cases h:k=0
 ·subst h;have hn:news=[]:=Qxd (by simpa using hl);subst hn;refine⟨v,w,?_,?_⟩
  ·obtain⟨va,vc,rfl⟩:=NQ hown
   have hle:m<=vc:=by
    rcases hown.2 with ⟨he,hn⟩ | ⟨g,cap,cur,he,_,_,hnc,_⟩
    ·cases he;omega
    ·cases he;exact hnc
   subst hu
   cases a with
   | none=>cases va <;> simp[Builtin.append_,run_underlying ht,sizeOf,typeInfo,f,Builtin.lenOf,Builtin.firstCells,hle,storeCells]
   | some A=>cases va <;> simp[Builtin.append_,run_underlying ht,sizeOf,typeInfo,f,Builtin.lenOf,Builtin.firstCells,hle,storeCells,loadCells,loadCellsFrom]
  ·have:=fin v w (Qzu _) (by simpa using hown) (World.grownBy.refl w _) (fun b hb=>.inl hb);exact this
 ·cases a with
  | none=>have:=q Z;omega
  | some A=>
   subst hu;obtain⟨hspot,hcell⟩:=r A Z h;obtain⟨v',w',hr,h2,h3,z⟩:=run_append_own (P:=P) w 0 t ty e inf zz sz bt ht f l o p hzs hsz v m xs hown A k cap news hl (fun j c hc=>hcell j c hc) n s hby (Qz5 _);refine⟨v',w',hr,fin v' w' (Se _ _ _ _ hr) h2 h3 fun b hb=>?_⟩;subst o;subst p
   rcases hown.2 with ⟨rfl,rfl⟩ | ⟨g,cp,cur,rfl,hbg,hg,hnc,hcm,hcs,htake⟩
   ·have d:=run_append_nil (P:=P) w t ty e inf zz ht f l A k cap news hl (fun j c hc=>hcell j c hc) U U (by simp only[QzJ]at hby;omega);rw[hr]at d;simp only[Result.ok.injEq]at d;rw[d.1]at hb
    right;cases hb;exact Qzu _
   ·by_cases hroom:m+k<=cp
    ·have hfit:m * inf.size+news.length<=cur.size:=by rw[hl,hcs,<- Qkf];exact Nat.mul_le_mul_right _ hroom
     have d:=run_append_room (P:=P) w t ty e inf ht f g m cp cur hg A k cap news hl (fun j c hc=>hcell j c hc) n hroom hfit;rw[hr]at d;simp only[Result.ok.injEq]at d;rw[d.1]at hb
     left;exact hb
    ·have holds:∀j u,xs[j]? = some u->w.cell? ((⟨g,0,none⟩:Addr).add j)=some u:=hown.cells (g:=g) Z;have d:=run_append_grow (P:=P) w t ty e inf zz ht f l ⟨g,0,none⟩ m cp xs hown.1 holds A k cap news hl (fun j c hc=>hcell j c hc) U U (growslice_fits U hby);rw[hr]at d;simp only[Result.ok.injEq]at d;rw[d.1]at hb
     right;cases hb;exact Qzu _
theorem Wp[Dr](i:Nat){sz bt m k:Nat}{zz u:Value}{xs news:Qq6}(hx:ev L x=some v)(hy:ev L y=some u)(ht:P.underlying t=some (.slice e))(hz:Zr P e zz sz bt)(hzs:zz.cells.size=sz)(hsz:0<sz)(hn:Qzw d n.n=true)(hL:Bk w0 O w)(hi:Dz O i=some (.row v e sz m xs))(hs:Src (hp w) sz u k news)(a:∀c∈news,c.oneCell'=true)
  (hby:(m+k) * bt<=140737488355328/\m+k<=9223372036854775807)
  (h:∀v' w',Bk w0 (CE O i (.row v' e sz (m+k) (xs++news))) w'->Le (fz w O) (fz w' (CE O i (.row v' e sz (m+k) (xs++news))))->S P n ops Q rest ((d,v')::L) w') :
  S P n ops Q (⟨some d,.call ⟨.builtin .append,#[x,y],#[t,t]⟩,ty,pos,af,none⟩::rest) L w:=by
 obtain⟨v',w',hr,hL',hle⟩:=Ab4 (ty:=ty) ht hz hzs hsz hL hi hs a hby.1 hby.2;refine Ei (v:=v') (w':=w') hn (fun ρ hρ=>?_) (h v' w' hL' hle);simp[execOp,resolve,invoke,builtin,hρ x _ hx,hρ y _ hy,hr]
theorem N3[Dr]{w':World}{sz m:Nat}{xs:Qq6}(hL:Bk w0 O w)(hx:Ext w w')(ho:w'.ownsRow w.heap.size e sz v m xs):Bk w0 (.row v e sz m xs::O) w'/\Le (fz w O) (fz w' (.row v e sz m xs::O)):=by
 have hb:∀b,BV.block (.row v e sz m xs)=some b->w.heap.size<=b:=fun b hb=>(ho.lt b hb).1;exact⟨hL.new hx (Tz ho (fun _ _=>Qz5 _)) hb,SX hL hx hb⟩
theorem VQ[Dr](hL:Bk w0 O w)(e:TypeId)(sz:Nat):Bk w0 (.row (.slice none 0 0) e sz 0 []::O) w/\Le (fz w O) (fz w (.row (.slice none 0 0) e sz 0 []::O)):=
 N3 hL (Ext.refl w) (World.ownsRow_nil w _ e sz)
theorem Ajw[Dr]{bt m:Nat}{k k':IntKind}{zz:Value}{c c':Int}(hx:ev L x=some (.int k c))(hy:ev L y=some (.int k' c'))(hcc:c=m/\c'=m)(ht:P.underlying t=some (.slice e))(hz:Zr P e zz 1 bt)(hzc:zz.cells = #[zz])(hn:Qzw d n.n=true)(hL:Bk w0 O w)(hm:bt * m<=281474976710656/\m<=9223372036854775807)
  (h:∀v' w',Ext w w'->Bk w0 (.row v' e 1 m (Qzv m zz)::O) w'->Le (fz w O) (fz w' (.row v' e 1 m (Qzv m zz)::O))->S P n ops Q rest ((d,v')::L) w') :
  S P n ops Q (⟨some d,.makeSlice t x y,ty,pos,af,none⟩::rest) L w:=by
 obtain⟨inf,a,b,f,g⟩:=hz.parts;obtain⟨rfl,rfl⟩:=hcc;obtain⟨w',hr,ho,hg⟩:=run_make_full (P:=P) w w.heap.size t e inf zz 1 ht a b f k k' m (by rw[g];exact hm.1) (by unfold maxLen;omega) (Qzu _);rw[hzc,Qz9,toList_madeCells_one]at ho;have hx':=Rh (Se _ _ _ _ hr) hg;obtain⟨i,h2⟩:=N3 hL hx' ho;exact Ei hn (fun ρ hρ=>by simp[execOp,hρ x _ hx,hρ y _ hy,hr]) (h _ _ hx' i h2)
theorem AiQ[Dr]{ps:List (Nat×Operand)}{vs:List (Nat×Value)}{len sz:Nat}{cs:Qq6}(hp':evp L ps=some vs)(hr:∀w,(Instr.buildSlice t len vs.toArray).run P w=.ok (.slice (some ⟨w.heap.size,0,none⟩) len len) (w.alloc (.cells cs.toArray e)))(hc:cs.length=len * sz)(hlen:len<=9223372036854775807)(hn:Qzw d n.n=true)(hL:Bk w0 O w)
  (h:∀u w',Ext w w'->Bk w0 O w'->Le (fz w O) (fz w' O)->Src (nw w w') sz u len cs->w'.ownsRow w.heap.size e sz u len cs->S P n ops Q rest ((d,u)::L) w') :
  S P n ops Q (⟨some d,.buildSlice t len ps.toArray,ty,pos,af,none⟩::rest) L w:=by
 have hx:=CW w (.cells cs.toArray e);refine Ei hn (fun ρ hρ=>?_) (h _ _ hx (hL.call hx) (AH hL hx) ⟨hc,some ⟨w.heap.size,0,none⟩,len,Z,Qzu _,by unfold maxLen;omega,(fun e=>by cases e),fun A hA _=>?_⟩ ?_)
 ·have a:=hρ.Ahx _ _ hp';have e':(ps.toArray.map fun(i,x)=>(i,ρ x))=vs.toArray:=by rw[<- a];simp
  simp[execOp,e',hr w,-List.map_toArray]
 ·cases hA
  refine⟨Z,fun j u hu=>?_⟩;simp only[Addr.add_lit,QzJ,IW,nw,Qzu,if_true,heap_alloc_new]
  simpa using hu
 ·have:=World.ownsRow_lit (base:=w.heap.size) (e:=e) (size:=sz) w cs.toArray len (Qzu _) (by unfold maxLen;omega) (by simpa using hc)
  simpa using this
def Rj(v:Value)(k:Nat)(p:Addr):Prop:=v.ownBlock=some p.block/\p.off=k/\p.spot=none
theorem AeG[Dr](i:Nat){sz bt m:Nat}{zz:Value}{xs:Qq6}{k:IntKind}{c:Int}(hx:ev L x=some v)(hy:ev L y=some (.int k c))(ht:P.underlying t=some (.slice e))(hz:Zr P e zz sz bt)(hL:Bk w0 O w)(hi:Dz O i=some (.row v e sz m xs))(j:Nat)(hj:c=(j:Int))(hlt:j<m):
  ∃p,Rj v (j * sz) p/\∀w,B5 P L w (.indexAddr t x y) ty (.pointer (some p)):=by
 obtain⟨inf,a,d,b,f⟩:=hz.parts;have hown:w.ownsRow 0 e sz v m xs:=hL.at hi
 rcases hown.2 with ⟨rfl,rfl⟩ | ⟨g,cp,cur,rfl,hbg,hg,hnc,hcm,hcs,htake⟩
 ·omega
 ·subst hj;refine⟨⟨g,j * sz,none⟩,⟨Z,Z,Z⟩,fun w w' _ ρ hρ dst pos af gd=>?_⟩;have l:(0:Int)<=(j:Int)/\(j:Int)<(m:Int):=by omega
  simp[execOp,hρ x _ hx,hρ y _ hy,Instr.indexAt,asIntOf,run_underlying ht,sizeOf,typeInfo,a,b,hlt,Addr.add_lit]
theorem Ki[Dr](i:Nat){sz bt m:Nat}{zz:Value}{xs:Qq6}{k:IntKind}{c:Int}(hx:ev L x=some v)[hy:Qqq (ev L y) (some (.int k c))](ht:P.underlying t=some (.slice e))(hz:Zr P e zz sz bt)(hL:Bk w0 O w)(hi:Dz O i=some (.row v e sz m xs))(j:Nat)(hj:c=(j:Int))(hlt:j<m)[hn:Qqq (Qzw d n.n) true]
  (h:∀p,Rj v (j * sz) p->S P n ops Q rest ((d,.pointer (some p))::L) w):S P n ops Q (⟨some d,.indexAddr t x y,ty,pos,af,none⟩::rest) L w:=by
 obtain⟨p,a,h2⟩:=AeG (P:=P) (ty:=ty) i hx hy.e ht hz hL hi j hj hlt;exact Ag (h2 w) (hn:=⟨hn.e⟩) (h p a)
theorem AeH[Dr]{i sz m k:Nat}{xs:Qq6}{p:Addr}{u:Value}{e':TypeId}(hL:Bk w0 O w)(hi:Dz O i=some (.row v e' sz m xs))(hp':Rj v k p)(hu:xs[k]? = some u):w.cell? p=some u:=by
 have hown:w.ownsRow 0 e' sz v m xs:=hL.at hi;obtain⟨a,h2,h3⟩:=hp';obtain⟨b,o,s⟩:=p;simp only at a h2 h3;subst h2;subst h3;have hc:=hown.cells a o u hu
 rwa [Addr.add_lit,QzJ]at hc
theorem AeI[Dr](i:Nat){sz bt m k:Nat}{zz u:Value}{xs:Qq6}{p:Addr}{e':TypeId}(hx:ev L x=some (.pointer (some p)))(hy:ev L y=some u)(hv:u.oneCell'=true)(hz:Zr P t zz 1 bt)(hL:Bk w0 O w)(hi:Dz O i=some (.row v e' sz m xs))(hp':Rj v k p)(hlt:k<xs.length)
  (h:∀w',Bk w0 (CE O i (.row v e' sz m (xs.set k u))) w'->Le (fz w O) (fz w' (CE O i (.row v e' sz m (xs.set k u))))->S P n ops Q rest L w'):S P n ops Q (⟨none,.store t x y,ty,pos,af,none⟩::rest) L w:=by
 obtain⟨inf,c,f,d,j⟩:=hz.parts;have hown:w.ownsRow 0 e' sz v m xs:=hL.at hi;have hcell:=AeH hL hi hp' (Qzy hlt);obtain⟨a,h2,h3⟩:=hp';obtain⟨b,o,s⟩:=p;simp only at a h2 h3;subst h2;subst h3
 rcases hown.2 with ⟨rfl,rfl⟩ | ⟨g,cp,cur,rfl,hbg,hg,hnc,hcm,hcs,htake⟩
 ·simp[Value.ownBlock]at a
 ·simp only[Value.ownBlock,Option.some.injEq]at a;subst a;have hst:=hown.stored o u;have hfz:w.frozen? ⟨g,o,none⟩=false:=hown.frozenAt o;have hvc:u.cells = #[u]:=by cases u <;> simp_all [Value.cells,Value.oneCell']
  refine NO (w.setCell ⟨g,o,none⟩ u) (fun ρ hρ=>by
   simp[execOp,hρ x _ hx,hρ y _ hy,Instr.storeAt,Instr.sureAddr,storeVar,sizeOf,typeInfo,c,d,hvc,storeCells,run_store,hv,Addr.add_zero',hcell,hfz]) ?_
  exact h _ (hL.LY hi (by rw[drawn_setCell];exact Qzu _) hst.2 hst.1 (fun b e=>.inl e)) (Gj (r':=.row (.slice (some ⟨g,0,none⟩) m cp) e' sz m (xs.set o u)) hL hi hst.2 (fun b e=>.inl e))
theorem Bk.Alm[Dr]{i:Nat}{l:List α}{xs:Qq6}{e':TypeId}(hL:Bk w0 O w)(hi:Dz O i=some (.row v e' r.sz l.length xs))(he:AK r (fz w O) l xs):AS r (hp w) v l:=
 PX (hL.at hi) he (Ac9 w O) (fun _k _ _o ho=>ho)
theorem Own.take[Dr]{w':World}{l:List α}(hL:Bk w0 O w)(hx:Ext w w')(h:Own e r w w' v l):∃xs,Bk w0 (.row v e r.sz l.length xs::O) w'/\Le (fz w O) (fz w' (.row v e r.sz l.length xs::O))/\AK r (fz w' (.row v e r.sz l.length xs::O)) l xs:=by
 obtain⟨xs,a,h2⟩:=h;obtain⟨h3,b⟩:=N3 hL hx a;exact⟨xs,h3,b,h2.mono (ZT hL)⟩
end
theorem row_one{w:World}{v:Value}{e:TypeId}{sz n:Nat}{xs:Qq6}(h:BV.ok w (.row v e sz n xs)):v.oneCell'=true:=by
 obtain⟨a,c,rfl⟩:=NQ (b:=0) h;rfl
theorem AeJ{α:Type}{r:Rp α}{f:α->Value}(hf:∀H x c,r.rel H x c->c=[f x]){H:PH}{l:List α}{xs:Qq6}(h:AK r H l xs):xs=l.map f:=by
 induction h with
 | nil=>rfl
 | cons h _ ih=>rw[hf _ _ _ h,ih];rfl
def bv(b:UInt8):Value:=.int .u8 (b.toNat:Int)
theorem Aac{H:PH}{l:Qq4}{xs:Qq6}(h:AK Rp.byte H l xs):xs=l.map bv:=AeJ (fun _ _ _ h=>h) h
def nf(w0 w:World)(O:List BV):PH:=fun b=>if w0.heap.size<=b then fz w O b else none
theorem Ahy{w0 w w':World}{O O':List BV}(h:Le (fz w O) (fz w' O')):Le (nf w0 w O) (nf w0 w' O'):=fun b o e=>by
 unfold nf at e ⊢
 split at e
 ·rename_i hb;rw[if_pos hb];exact h b o e
 ·cases e
theorem AiR{w0 w:World}{O:List BV}:Le (nf w0 w O) (fz w O):=fun b o e=>by
 unfold nf at e
 split at e
 ·exact e
 ·cases e
theorem AiS{w0 w:World}{O:List BV}:Le (nf w0 w O) (nw w0 w):=fun b o e=>by
 unfold nf at e
 split at e
 ·rename_i hb;unfold nw;rw[if_pos hb];exact Ac9 w O b o e
 ·cases e
theorem Akv[Dr]{w0 w w':World}{O:List BV}(h:Bk w0 O w):Le (nw w w') (nf w0 w' O):=fun b o e=>by
 have a:=AiO (w':=w') h b o e;unfold nw at e
 split at e
 ·rename_i hb;unfold nf;rw[if_pos (Qxy h.ext.size hb)];exact a
 ·cases e
theorem Ajx{w0 w:World}{O:List BV}{i:Nat}{v:Value}{e:TypeId}{sz n:Nat}{xs:Qq6}(hi:Dz O i=some (.row v e sz n xs)):Le (nf w0 w O) (SA w0 w v):=fun b o h=>by
 have a:=AiS b o h;have h2:=AiR b o h;unfold SA;rw[if_neg]
 ·exact a
 ·intro hb;unfold fz at h2;rw[if_pos (E7.2 ⟨_,(Es hi).mem_iff.2 (.head _),hb⟩)]at h2
  cases h2
theorem Hz(b:UInt8):IntKind.i64.wrap (b.toNat:Int)=(b.toNat:Int):=by
 have:=b.toNat_lt;exact wrap64 U U
section
variable {P:Program}{n:Sz}{ops:Array Oper}{Q:Exit->Act->World->Prop}{L:Env}{w w0:World}{O:List BV}{rest:List Oper}
 {d:Nat}{ty:TypeId}{pos:String}{af:Array Edge}{α:Type}{r:Rp α}{H:PH}{x y:Operand}{v:Value}{t t' e:TypeId}
theorem Akw[Dr]{op:BinOp}{k:IntKind}{a b c s:Int}(hx:ev L x=some (.int k a))(hy:ev L y=some (.int k b))(ho:arI op a b=some c)(hw:k.wrap c=s):B5 P L w (.binOp op t x y t') ty (.int k s):=by
 intro w' _ ρ hρ dst pos af g;subst hw
 cases op <;> simp only[arI,Option.some.injEq,reduceCtorEq]at ho <;> subst ho <;>
  simp[execOp,hρ x _ hx,hρ y _ hy,eqGuard,binOp,Op.intArith]
theorem Ajy[Dr]{op:BinOp}{a b c:Int}(hx:ev L x=some (.int .i64 a))(hy:ev L y=some (.int .i64 b))(ho:arI op a b=some c)(d : -9223372036854775808<=c/\c<=9223372036854775807):B5 P L w (.binOp op t x y t') ty (.int .i64 c):=
 Akw hx hy ho (wrap64 d.1 d.2)
theorem Ay[Dr]{op:BinOp}{a b c:Int}[hq:Qqq (ev L x,ev L y,arI op a b) ((some (.int .i64 a),some (.int .i64 b),some c))](d : -9223372036854775808<=c/\c<=9223372036854775807):B5 P L w (.binOp op t x y t') ty (.int .i64 c):=by
 have hq:=hq.e
 simp only[Prod.mk.injEq]at hq;exact Ajy hq.1 hq.2.1 hq.2.2 d
theorem Akx[Dr]{a b:Int}[hx:Qqq (ev L x) (some (.int .i64 a))][hy:Qqq (ev L y) (some (.int .i64 b))](c:0<=a/\a<=9223372036854775807/\0<b):B5 P L w (.binOp .quo t x y t') ty (.int .i64 (a / b)):=by
 intro w' _ ρ hρ dst pos af g;have hb:b≠0:=by omega
 have⟨d,e⟩:=Ahn c.1 c.2.2;simp[execOp,hρ x _ hx.e,hρ y _ hy.e,eqGuard,binOp,Op.intDiv,hb,AeB c.1,wrap64 (x:=a / b) U U]
theorem Aky[Dr]{a b:Int}{k:IntKind}(hx:ev L x=some (.int k a))(hy:ev L y=some (.int k b))(c:0<=a/\0<b):B5 P L w (.binOp .rem t x y t') ty (.int k (a % b)):=by
 intro w' _ ρ hρ dst pos af g;have hb:b≠0:=by omega
 simp[execOp,hρ x _ hx,hρ y _ hy,eqGuard,binOp,Op.intDiv,hb,AeC c.1]
theorem Gn[Dr]{k k':IntKind}{a s:Int}{u:TypeDesc}[hs:Qqq (P.underlying t) (some u)][ht:Qqq (P.underlying t') (some (.int k))][hx:Qqq (ev L x) (some (.int k' a))](hw:k.wrap a=s):B5 P L w (.convert t t' x) ty (.int k s):=by
 intro w' _ ρ hρ dst pos af g;subst hw;simp[execOp,hρ x _ hx.e,convert,run_underlying hs.e,run_underlying ht.e,Conv.intToInt]
def Akz:BinOp->UInt8->UInt8->Option UInt8
 | .xor,a,b=>some (a ^^^ b)
 | .and,a,b=>some (a &&& b)
 | .or,a,b=>some (a ||| b)
 | _,_,_=>none
theorem ofInt8(a:UInt8):QxE 8 (a.toNat:Int)=a.toBitVec:=by
 apply BitVec.eq_of_toNat_eq;have:=a.toNat_lt;simp
theorem AeK[Dr]{op:BinOp}{a b c:UInt8}(hx:ev L x=some (.int .u8 (a.toNat:Int)))(hy:ev L y=some (.int .u8 (b.toNat:Int)))(ho:Akz op a b=some c):B5 P L w (.binOp op t x y t') ty (.int .u8 (c.toNat:Int)):=by
 intro w' _ ρ hρ dst pos af g;have hc:=c.toNat_lt
 cases op <;> simp only[Akz,Option.some.injEq,reduceCtorEq]at ho <;> subst ho
 ·have e:(Op.intBits .and .u8 (a.toNat:Int) (b.toNat:Int)).run P w'=.ok (.int .u8 ((a &&& b).toNat:Int)) w':=by
   show Result.ok (Value.int .u8 (IntKind.u8.wrap ((QxE 8 (a.toNat:Int) &&& QxE 8 (b.toNat:Int)).toNat:Int))) w'=_
   rw[ofInt8,ofInt8,show(a.toBitVec &&& b.toBitVec).toNat=(a &&& b).toNat from Z,Ab2 U U]
  simp only[execOp,hρ x _ hx,hρ y _ hy,eqGuard,binOp,Sem.run_bind,ne_eq,not_true_eq_false,if_false,QkB,if_true,Sem.run_pure,Result.andThen_ok,e]
 ·have e:(Op.intBits .or .u8 (a.toNat:Int) (b.toNat:Int)).run P w'=.ok (.int .u8 ((a ||| b).toNat:Int)) w':=by
   show Result.ok (Value.int .u8 (IntKind.u8.wrap ((QxE 8 (a.toNat:Int) ||| QxE 8 (b.toNat:Int)).toNat:Int))) w'=_
   rw[ofInt8,ofInt8,show(a.toBitVec ||| b.toBitVec).toNat=(a ||| b).toNat from Z,Ab2 U U]
  simp only[execOp,hρ x _ hx,hρ y _ hy,eqGuard,binOp,Sem.run_bind,ne_eq,not_true_eq_false,if_false,QkB,if_true,Sem.run_pure,Result.andThen_ok,e]
 ·have e:(Op.intBits .xor .u8 (a.toNat:Int) (b.toNat:Int)).run P w'=.ok (.int .u8 ((a ^^^ b).toNat:Int)) w':=by
   show Result.ok (Value.int .u8 (IntKind.u8.wrap ((QxE 8 (a.toNat:Int) ^^^ QxE 8 (b.toNat:Int)).toNat:Int))) w'=_
   rw[ofInt8,ofInt8,show(a.toBitVec ^^^ b.toBitVec).toNat=(a ^^^ b).toNat from Z,Ab2 U U]
  simp only[execOp,hρ x _ hx,hρ y _ hy,eqGuard,binOp,Sem.run_bind,ne_eq,not_true_eq_false,if_false,QkB,if_true,Sem.run_pure,Result.andThen_ok,e]
def Ak0:BinOp->Nat->Nat->Option Nat
 | .xor,a,b=>some (a ^^^ b)
 | .and,a,b=>some (a &&& b)
 | .or,a,b=>some (a ||| b)
 | _,_,_=>none
theorem Ak1[Dr]{k k':IntKind}{a s m:Int}{c:Nat}(hx:ev L x=some (.int k a))[hy:Qqq (ev L y) (some (.int k' (c:Int)))](hm:(2:Int) ^ c=m)(hc:c<=k.bits)(hw:k.wrap (a * m)=s):B5 P L w (.binOp .shl t x y t') ty (.int k s):=by
 intro w' _ ρ hρ dst pos af g;subst hm;subst hw;have : ¬((c:Int)<0):=by omega
 simp[execOp,hρ x _ hx,hρ y _ hy.e,eqGuard,binOp,Op.shift,this,Nat.min_eq_left hc]
theorem Wq[Dr]{k k':IntKind}{a m:Int}{c:Nat}(hx:ev L x=some (.int k a))[hy:Qqq (ev L y) (some (.int k' (c:Int)))](hm:(2:Int) ^ c=m)(hc:c<=k.bits):B5 P L w (.binOp .shr t x y t') ty (.int k (a / m)):=by
 intro w' _ ρ hρ dst pos af g;subst hm;have : ¬((c:Int)<0):=by omega
 have e:a.fdiv (2 ^ c)=a / 2 ^ c:=Int.fdiv_eq_ediv_of_nonneg a (by exact Int.le_of_lt (Int.pow_pos Qqc));simp[execOp,hρ x _ hx,hρ y _ hy.e,eqGuard,binOp,Op.shift,this,Nat.min_eq_left hc,e]
theorem AeL[Dr]{xs ys:Array Value}{q:Bool}[hx:Qqq (ev L x) (some (.agg xs))][hy:Qqq (ev L y) (some (.agg ys))](hg:P.eqGuardType P.depth t=false)(he:∀w,(Op.equalIn 10000 t (.agg xs) (.agg ys)).run P w=.ok q w):B5 P L w (.binOp .eql t x y t') ty (.bool q):=by
 intro w' _ ρ hρ dst pos af g;simp[execOp,hρ x _ hx.e,hρ y _ hy.e,run_eqGuard_agg w' .eql t x y xs ys hg,run_eql_struct,he w']
theorem IX[Dr]{xs ys:Array Value}{q:Bool}[hx:Qqq (ev L x) (some (.agg xs))][hy:Qqq (ev L y) (some (.agg ys))](hg:P.eqGuardType P.depth t=false)(he:∀w,(Op.equalIn 10000 t (.agg xs) (.agg ys)).run P w=.ok q w):B5 P L w (.binOp .neq t x y t') ty (.bool (!q)):=by
 intro w' _ ρ hρ dst pos af g;simp[execOp,hρ x _ hx.e,hρ y _ hy.e,run_eqGuard_agg w' .neq t x y xs ys hg,run_neq_struct,he w']
theorem AeM {f0 f1 : Field}{d f : IntKind} (ht : P.underlying t = some (.struct (P.fieldsOf t))) (hp : P.stoodInHeld t = false) (hf : (P.fieldsOf t).toList = [f0, f1]) (g : f0.name ≠ "_" /\ f0.offset = 0) (h : f1.name ≠ "_" /\ f1.offset = 1)
  (i:P.underlying f0.type=some (.int d)) (j:P.underlying f1.type=some (.int f)) (a b c e:Int) (w:World) :
  (Op.equalIn 10000 t (.agg #[.int d a,.int f b]) (.agg #[.int d c,.int f e])).run P w=.ok (decide (a=c/\b=e)) w:=by
 rw[run_equalIn_struct w 9999 t _ _ ht hp,hf]
 have key:∀dd:Nat,(Op.eqFields (dd+1) #[.int d a,.int f b] #[.int d c,.int f e] [f0,f1]).run P w=.ok (decide (a=c/\b=e)) w:=by
  intro dd
  by_cases k:a=c <;> by_cases l:b=e <;>
   simp[Op.eqFields,g.1,h.1,g.2,h.2,part,isAgg,run_underlying i,run_underlying j,run_equalIn_int w dd _ _ _ _ _ i,run_equalIn_int w dd _ _ _ _ _ j,k,l]
 exact key 9998
theorem foldl_push:∀(l:Qq4) (s:ByteArray),(l.map (fun b=>((b.toNat:Nat):Int))).foldl (fun r n=>r.push (Qz8 n.toNat)) s=⟨s.data++l.toArray⟩
 | [],s=>by simp
 | b::l,s=>by
  rw[List.map_cons,List.foldl_cons,foldl_push l];simp[ByteArray.push]
theorem NS[Dr]{l:Qq4}[hx:Qqq (ev L x) (some v)][ht:Qqq (P.underlying t) (some (.slice e))][he:Qqq (P.underlying e) (some (.int .u8))][ht':Qqq (P.underlying t') (some .string)](hv:AS .byte H v l)(hs:Le H (hp w)):B5 P L w (.convert t t' x) ty (.string ⟨l.toArray⟩):=by
 intro w' hw ρ hρ dst pos af g;obtain⟨news,c,d⟩:=hv.elems;obtain rfl:=Aac c;obtain⟨k,a,cap,rfl,h3,m,f,i⟩:=d
 cases a with
 | none=>
  have:l.length=0:=by have:=f Z;omega
  have:l=[]:=Qxd this;subst this;simp[execOp,hρ x _ hx.e,run_convert_bytes_string w' t t' e none _ cap ht.e he.e ht'.e,Conv.bytesToString]
  rfl
 | some A=>
  have hload:(loadCells A l.length).run P w'=.ok ((l.map (fun b=>((b.toNat:Nat):Int))).map (Value.int .u8)).toArray w':=by
   by_cases hl:l.length=0
   ·have:l=[]:=Qxd hl;subst this;simp[loadCells,loadCellsFrom]
   ·have:=run_loadCellsFrom (P:=P) (p:=A) w' l.length 0 (l.map bv) #[] Qqd (fun j u hu=>by rw[QzJ];exact cell_of (hs.ext hw) ((i A Z hl).2 j u hu));unfold loadCells;rw[this];simp[bv,Function.comp_def]
  have hb:=run_bytesToString w' A l.length cap _ hload;rw[foldl_push]at hb;simp[execOp,hρ x _ hx.e,run_convert_bytes_string w' t t' e (some A) _ cap ht.e he.e ht'.e,hb]
theorem Kj[Dr]{l m:Qq4}(hx:ev L x=some (.string ⟨l.toArray⟩))(hy:ev L y=some (.string ⟨m.toArray⟩)):B5 P L w (.binOp .eql t x y t') ty (.bool (decide (l=m))):=by
 intro w' _ ρ hρ dst pos af g;have e:(l==m)=decide (l=m):=by rw[Qz7];simp
 simp[execOp,hρ x _ hx,hρ y _ hy,eqGuard,binOp,Op.stringOp,e]
theorem AdE{f:FuncId}{args:List Operand}{vs:Qq6}{at_:Array TypeId}{dst:Option Tmp}{cap:Qq6}{fo:Operand}(hc:Kh P f)(hf:ev L fo=some (.func (.func f) #[] cap.toArray))(ha:Vc L args=some vs)(ρ:Operand->Value)(hρ:Rho L ρ):
  (execOp ρ ⟨dst,.call ⟨.value fo,args.toArray,at_⟩,ty,pos,af,none⟩).run P w=.ok (.enter f (vs++cap).toArray) w:=by
 obtain ⟨fn, c, a, h2, h3⟩ := hc;have b := hρ.map _ _ ha;have h2' : ¬fn.name = "runtime.NumGoroutine" := by simpa using h2
 simp[execOp,resolve,hρ fo _ hf,Deferred.ofValue,b,invoke,callFunc,a,h2',h3]
theorem D6{f:FuncId}{args:List Operand}{vs:Qq6}{at_:Array TypeId}{cap:Qq6}{fo:Operand}{R:Value->World->Prop}(hf:ev L fo=some (.func (.func f) #[] cap.toArray))(ha:Vc L args=some vs)[hn:Qqq (Qzw d n.n) true](hok:Ok P f (vs++cap) w R)
  (h:∀v w',R v w'->S P n ops Q rest ((d,v)::L) w'):S P n ops Q (⟨some d,.call ⟨.value fo,args.toArray,at_⟩,ty,pos,af,none⟩::rest) L w:=
 XD Z fun a fr=>by
  unfold Oper.wp;rw[AdE hok.1 hf ha _ fr.Yb];refine hok.2.mono fun e w' ⟨v,he,hv⟩=>?_;subst he;exact h v w' hv _ (fr.put hn.e)
inductive Got (P:Program) (L:Env) (w:World):ResultVar->Value->Prop
 | tmp {t:Nat}{v:Value} (h:gt L t=some v):Got P L w (.tmp t) v
 | cell {s t:Nat}{b:Nat}{cs:Qq6}{zz:Value}{bt:Nat}{dd:TypeDesc} (h:gt L s=some (.pointer (some ⟨b,0,none⟩))) (ht:P.underlying t=some dd) (hd:Aaa dd=true) (hz:Zr P t zz cs.length bt) (hp':Hy (hp w) ⟨b,0,none⟩ cs):Got P L w (.cell s t) (.agg cs.toArray)
def YP(tmps:Array Value):ResultVar->Sem Value
 | .tmp t=>pure (tmps.getD t undef)
 | .cell a t=>do loadVar t (<- asAddr (tmps.getD a undef))
theorem Td(fn:Func)(tmps:Array Value):results fn tmps=(do let vs <- fn.results.mapM (YP tmps);pure (if h:vs.size=1 then vs[0]else .tuple vs)):=by
 unfold results
 congr 1
theorem Got.run{a:Act}{q:ResultVar}(fr:Fr n a L)(h:Got P L w q v):(YP a.tmps q).run P w=.ok v w:=by
 cases h with
 | tmp h=>have:=fr.get _ _ h;simp[YP,Qke,this]
 | cell h ht hd hz hp'=>
  rename_i s t b cs zz bt dd;have:=fr.get _ _ h;obtain⟨inf,c,e,d,f⟩:=hz.parts;have hload:=run_loadCellsFrom (P:=P) (p:=⟨b,0,none⟩) w cs.length 0 cs #[] Z (fun j u hu=>by rw[QzJ];exact hp'.2 j u hu)
  cases dd <;> simp only[Aaa,Qxk]at hd <;>
   simp[YP,Qke,this,asAddr,loadVar,isAgg,run_underlying ht,loadCells,sizeOf,typeInfo,c,d,hload]
theorem BX{k₀:Nat}{fn:Func}{R:Value->World->Prop}{q:ResultVar}[hl:Qqq fn.results (#[q])](h:Got P L w q v)(hR:R v w):At ⟨k₀,[]⟩ (Rb P fn R) .ret L w:=
 fun a fr=>⟨fr.defers,v,by rw[Td,hl.e];simp[h.run fr],v,Z,hR⟩
theorem Bv{k₀:Nat}{fn:Func}{R:Value->World->Prop}{q q':ResultVar}{v':Value}[hl:Qqq fn.results (#[q,q'])](h:Got P L w q v)(h':Got P L w q' v')(hR:R (.tuple #[v,v']) w):At ⟨k₀,[]⟩ (Rb P fn R) .ret L w:=
 fun a fr=>⟨fr.defers,_,by rw[Td,hl.e];simp[h.run fr,h'.run fr],_,Z,hR⟩
theorem YQ{k₀:Nat}{fn:Func}{R:Value->World->Prop}{q q' q'':ResultVar}{v' v'':Value}[hl:Qqq fn.results (#[q,q',q''])](h:Got P L w q v)(h':Got P L w q' v')(h'':Got P L w q'' v'')(hR:R (.tuple #[v,v',v'']) w):At ⟨k₀,[]⟩ (Rb P fn R) .ret L w:=
 fun a fr=>⟨fr.defers,_,by rw[Td,hl.e];simp[h.run fr,h'.run fr,h''.run fr],_,Z,hR⟩
theorem Ahz{k₀:Nat}{fn:Func}{R:Value->World->Prop}[hl:Qqq fn.results (#[])](hR:R (.tuple #[]) w):At ⟨k₀,[]⟩ (Rb P fn R) .ret L w:=
 fun _a fr=>⟨fr.defers,_,results_none hl.e _ _ _,_,Z,hR⟩
theorem Rk{k₀:Nat}{fn:Func}{R:Value->World->Prop}[hl:Qqq fn.results (#[])](hR:R (.tuple #[]) w):At ⟨k₀,[]⟩ (Rb P fn R) .normal L w:=
 fun _a fr=>⟨fr.defers,_,results_none hl.e _ _ _,_,Z,hR⟩
end
end Go.E
namespace Go.E
open Go Go.RowKit
def SB(n:Nat)(done:List Nat):Array Bool:=done.foldr (fun i a=>a.setIfInBounds i true) (Qjd n false)
section
variable {P:Program}{n:Sz}{l:List Oper}{Q:Exit->Act->World->Prop}{L:Env}{w:World}{y:Code}{fuel:Nat}{m:Nat}{done:List Nat}
theorem AdF{i:Nat}{o:Oper}{K:Act->World->Prop}{a:Act}(ho:HF l i=some o)(h:wpList P l.toArray (Exit.then K Q) [o] a w)(_hQ:∀e a w,e≠.normal->Exit.then K Q e a w->Q e a w):wpOp P l.toArray Q i K a w:=by
 have ho':l.toArray[i]? = some o:=by rw[HN]at ho;simpa using ho
 unfold wpOp;simp only[ho'];simp only[wpList]at h
 split
 ·rename_i hw;rw[if_pos hw]at h
  rcases h with h | ⟨b,h2⟩
  ·left
   unfold Oper.wp at h ⊢;generalize (execOp a.eval o).run P w=r at h ⊢
   cases r with
   | ok nx w'=>
    cases nx <;> simp only[Oper.upon]at h ⊢
    case value v=>exact h
    case skip=>exact h
    case defer=>exact h
    case enter f args=>
     exact h.mono fun e w'' he=>by
      cases e with
      | returned v=>exact he
      | panicked ch=>exact he
      | outgrown=>exact he
    case row=>exact h
   | halt hh w'=>cases hh <;> simp only[Oper.upon]at h ⊢ <;> exact h
  ·exact .inr ⟨b,h2⟩
 ·rename_i hw;rw[if_neg hw]at h;exact h
end
section
variable {P:Program}{n:Sz}{lo:List Oper}{Q:Exit->Act->World->Prop}{L:Env}{w w0:World}{O:List BV}{tr:Tr}{ix:Nat}
 {d:Nat}{ty:TypeId}{pos:String}{af:Array Edge}{α:Type}{r:Rp α}{x y:Operand}{v:Value}{t e:TypeId}
theorem Ajz[Dr]{bt m:Nat}{k k':IntKind}{zz:Value}{c c':Int}(ho:HF lo ix=some ⟨some d,.makeSlice t x y,ty,pos,af,none⟩)(hx:ev L x=some (.int k c))(hy:ev L y=some (.int k' c'))(hcc:c=m/\c'=m)(ht:P.underlying t=some (.slice e))(hz:Zr P e zz 1 bt)(hzc:zz.cells = #[zz])(hn:Qzw d n.n=true)(hL:Bk w0 O w)(hm:bt * m<=281474976710656/\m<=9223372036854775807)
  (h:∀v' w',Ext w w'->Bk w0 (.row v' e 1 m (Qzv m zz)::O) w'->Le (fz w O) (fz w' (.row v' e 1 m (Qzv m zz)::O))->D P n lo Q tr ((d,v')::L) w'):D P n lo Q (.h ix tr) L w:=by
 obtain⟨inf,g,i,j,l⟩:=hz.parts;obtain⟨rfl,rfl⟩:=hcc;refine AcC (fun b v' w'=>w'.ownsRow b.heap.size e 1 v' m (Qzv m zz)) ho hn (fun b a ρ hρ=>?_) (fun b v' w' a f hR=>?_)
 ·obtain⟨w',hr,ho',hg⟩:=run_make_full (P:=P) b b.heap.size t e inf zz 1 ht g i j k k' m (by rw[l];exact hm.1) (by unfold maxLen;omega) (Qzu _);rw[hzc,Qz9,toList_madeCells_one]at ho';exact⟨_,w',by simp[execOp,hρ x _ hx,hρ y _ hy,hr],Rh (Se _ _ _ _ hr) hg,ho'⟩
 ·obtain⟨o,h2⟩:=N3 (hL.call a) f hR;exact h v' w' (a.trans f) o ((AH hL a).trans h2)
theorem Le.mono{A B C:PH}(h:Le A B)(k:Le B C):Le A C:=h.trans k
theorem Bk.pick[Dr]{i:Nat}{q:BV}(h:Bk w0 O w)(hi:Dz O i=some q):Bk w0 (q::Pw O i) w:=h.perm (Es hi).symm
end
end Go.E
namespace Go.E
open Go Go.RowKit
section
variable {P:Program}{L:Env}{w:World}{x y:Operand}{ty t t':TypeId}
theorem AeN[Dr]{a b:Int}(hx:ev L x=some (.int .i64 a))(hy:ev L y=some (.int .i64 b)):B5 P L w (.call ⟨.builtin .max,#[x,y],#[t,t']⟩) ty (.int .i64 (max a b)):=by
 intro w' _ ρ hρ dst pos af g;simp[execOp,resolve,hρ x _ hx,hρ y _ hy,invoke,builtin,Builtin.max_,Builtin.max2]
 by_cases h:a<b
 ·simp[h,show max a b=b by omega]
 ·simp[h,show max a b=a by omega]
end
def un(A B:PH):PH:=fun b=>match B b with
 | some o=>some o
 | none=>A b
theorem Wr{A B C:PH}(hA:Le A C)(hB:Le B C):Le (un A B) C:=fun b o e=>by
 unfold un at e
 cases h:B b with
 | some o'=>rw[h]at e;cases e;exact hB b o h
 | none=>rw[h]at e;exact hA b o e
theorem GR{A B:PH}:Le B (un A B):=fun b o e=>by unfold un;rw[e]
theorem NT{w w':World}{A:PH}(hA:Le A (hp w)):Le A (un A (nw w w')):=fun b o e=>by
 have hb:b<w.heap.size:=EJ (hA b o e);unfold un nw;rw[if_neg U];exact e
end Go.E
end
noncomputable section
namespace Go.L
abbrev Bq(x:Int):Prop:=-9223372036854775808<=x/\x<=9223372036854775807
def AU{α:Type}(p:Prop)[Decidable p](k:Option α):Option α:=if p then k else none
theorem Gp{α:Type}{p:Prop}[Decidable p]{k:Option α}{e:α}(h:AU p k=some e):p/\k=some e:=by
 unfold AU at h
 split at h
 ·rename_i hp;exact⟨hp,h⟩
 ·cases h
theorem Ac{α:Type}{p:Prop}[Decidable p]{k:Option α}(h:p):AU p k=k:=by unfold AU;rw[if_pos h]
theorem bind_some{α β:Type}{m:Option α}{f:α->Option β}{e:β}(h:m.bind f=some e):∃x,m=some x/\f x=some e:=Option.bind_eq_some_iff.1 h
theorem Ax{α:Type}{p G:Prop}[Decidable p]{k:Option α}{e:α}(h:AU p k=some e)(f:p->k=some e->G):G:=f (Gp h).1 (Gp h).2
theorem A1{α β:Type}{G:Prop}{m:Option α}{f:α->Option β}{e:β}(h:m.bind f=some e)(k:∀x,m=some x->f x=some e->G):G:=by
 obtain⟨x,a,h2⟩:=bind_some h;exact k x a h2
theorem AcF{α:Type}{b:Bool}{x y:Option α}{e:α}(hb:b=true)(h:(if b then x else y)=some e):x=some e:=by rw[if_pos hb]at h;exact h
theorem AcG{α:Type}{b:Bool}{x y:Option α}{e:α}(hb:b=false)(h:(if b then x else y)=some e):y=some e:=by rw[if_neg (by rw[hb];decide)]at h;exact h
theorem OD{α:Type}{p:Prop}[Decidable p]{x y:Option α}{e:α}(hb:p)(h:(if p then x else y)=some e):x=some e:=by rw[if_pos hb]at h;exact h
theorem OE{α:Type}{p:Prop}[Decidable p]{x y:Option α}{e:α}(hb : ¬p)(h:(if p then x else y)=some e):y=some e:=by rw[if_neg hb]at h;exact h
section
variable {σ ρ:Type}
def DR(b:σ->Option (σ⊕ρ)):Nat->σ->Option ρ
 | 0,_=>none
 | n+1,s=>(b s).bind fun e=>match e with | .inl s'=>DR b n s' | .inr r=>some r
def Bw(b:σ->Option (σ⊕ρ))(n:Nat)(r:ρ):σ⊕ρ->Prop
 | .inl s=>DR b n s=some r
 | .inr x=>x=r
theorem AQ{b:σ->Option (σ⊕ρ)}{n:Nat}{s:σ}{r:ρ}(h:DR b n s=some r):∃m e,n=m+1/\b s=some e/\Bw b m r e:=by
 cases n with
 | zero=>cases h
 | succ m=>
  obtain⟨e,a,h2⟩:=Option.bind_eq_some_iff.1 h;refine⟨m,e,Z,a,?_⟩
  cases e with
  | inl s'=>exact h2
  | inr x=>exact Option.some.inj h2
theorem Bw.out{b:σ->Option (σ⊕ρ)}{n:Nat}{r:ρ}{e:σ⊕ρ}{m:Option ρ}(h:m.map Sum.inr=some e)(hm:Bw b n r e):m=some r:=by
 cases m with
 | none=>cases h
 | some x=>cases h;exact congrArg some hm
theorem Bw.again{b:σ->Option (σ⊕ρ)}{n:Nat}{r:ρ}{e:σ⊕ρ}{s:σ}(h:some (Sum.inl s)=some e)(hm:Bw b n r e):DR b n s=some r:=by cases h;exact hm
theorem Ws{b:σ->Option (σ⊕ρ)}:∀{n:Nat}{s:σ}{r:ρ} (k:Nat),DR b n s=some r->DR b (n+k) s=some r
 | 0,_,_,_,h=>by cases h
 | n+1,s,r,k,h=>by
  obtain⟨m,e,hm,a,h2⟩:=AQ h;obtain rfl:n=m:=by omega
  rw[show n+1+k=(n+k)+1 by omega,DR,a]
  cases e with
  | inl s'=>exact Ws k h2
  | inr x=>exact congrArg some h2
theorem Ah0{b:σ->Option (σ⊕ρ)}{n m:Nat}{s:σ}{r q:ρ}(h:DR b n s=some r)(k:DR b m s=some q):r=q:=by
 have a:=Ws m h;have h2:=Ws n k;rw[Nat.add_comm]at h2;exact Option.some.inj (a.symm.trans h2)
noncomputable def run(b:σ->Option (σ⊕ρ))(s:σ):Option ρ:=
 open Classical in if h : ∃r, ∃n, DR b n s = some r then some h.choose else none
theorem YR{b:σ->Option (σ⊕ρ)}{n:Nat}{s:σ}{r:ρ}(h:DR b n s=some r):run b s=some r:=by
 have hx:∃r,∃n,DR b n s=some r:=⟨r,n,h⟩;unfold run;rw[dif_pos hx];obtain⟨m,hm⟩:=hx.choose_spec;rw[Ah0 hm h]
theorem AR{b:σ->Option (σ⊕ρ)}{s:σ}{r:ρ}(h:run b s=some r):∃n,DR b n s=some r:=by
 unfold run at h
 split at h
 ·rename_i hx
  cases h
  exact hx.choose_spec
 ·cases h
theorem Bh{b:σ->Option (σ⊕ρ)}{s s':σ}(h:b s=some (.inl s')):run b s=run b s':=by
 cases hr:run b s' with
 | some r=>
  obtain⟨n,hn⟩:=AR hr;exact YR (n:=n+1) (by rw[DR,h];exact hn)
 | none=>
  cases hs:run b s with
  | none=>rfl
  | some r=>
   obtain⟨n,hn⟩:=AR hs;obtain⟨m,e,_,a,h2⟩:=AQ hn;rw[h]at a;cases a;rw[YR h2]at hr;cases hr
theorem AV{b:σ->Option (σ⊕ρ)}{s:σ}{m:Option ρ}(h:b s=m.map .inr):run b s=m:=by
 cases m with
 | some r=>exact YR (n:=1) (by rw[DR,h];rfl)
 | none=>
  cases hs:run b s with
  | none=>rfl
  | some r=>
   obtain⟨n,hn⟩:=AR hs;obtain⟨m,e,_,a,h2⟩:=AQ hn;rw[h]at a;cases a
theorem AcH{b:σ->Option (σ⊕ρ)}(I:σ->Prop)(μ:σ->Nat){m:Option ρ}(step:∀s,I s->(∃s',b s=some (.inl s')/\I s'/\μ s'<μ s)\/b s=m.map .inr){s:σ}(h:I s):run b s=m:=by
 have key:∀k s,μ s=k->I s->run b s=m:=by
  intro k
  induction k using Nat.strongRecOn with
  | _ k ih=>
   intro s hk hI
   rcases step s hI with ⟨s',a,h2,h3⟩ | a
   ·rw[Bh a];exact ih (μ s') U s' Z h2
   ·exact AV a
 exact key _ s Z h
theorem BR{b:σ->Option (σ⊕ρ)}(st:Nat->σ)(k:Nat){m:Option ρ}(step:∀i,i<k->b (st i)=some (.inl (st (i+1))))(last:b (st k)=m.map .inr)(i:Nat)(hi:i<=k:=by exact Nat.zero_le _):run b (st i)=m:=by
 have key:∀d i,i+d=k->run b (st i)=m:=by
  intro d
  induction d with
  | zero=>intro i h;rw[Qxf]at h;subst h;exact AV last
  | succ d ih=>intro i h;rw[Bh (step i U)];exact ih (i+1) U
 exact key (k - i) i U
end
def u8(a:Int):UInt8:=Qz8 (a % 256).toNat
theorem Aad(a:Int):((u8 a).toNat:Int)=a % 256:=by
 unfold u8;rw[UInt8.toNat_ofNat'];omega
end Go.L
namespace Go.E
open Go Go.RowKit
def gz(H:PH)(w0 w:World)(O:List BV):PH:=un H (nf w0 w O)
section
variable {H:PH}{w0 w w':World}{O O':List BV}
theorem Vf{A B:PH}(hA:Le A (hp w0))(hB:∀b o,B b=some o->w0.heap.size<=b):Le A (un A B):=fun b o e=>by
 have hb:b<w0.heap.size:=EJ (hA b o e);unfold un
 cases h:B b with
 | none=>exact e
 | some o'=>have:=hB b o' h;omega
theorem Ak2{b:Nat}{o:Obj}(h:nf w0 w O b=some o):w0.heap.size<=b:=by
 unfold nf at h
 split at h
 ·assumption
 ·cases h
theorem Aj(hH:Le H (hp w0):=by exact hH):Le H (gz H w0 w O):=Vf hH (fun _ _ h=>Ak2 h)
theorem T0:Le (nf w0 w O) (gz H w0 w O):=GR
theorem XG{A B C:PH}(hA:Le A (un A C))(h:Le B C):Le (un A B) (un A C):=Wr hA (h.trans GR)
theorem Ab(h:Le (fz w O) (fz w' O'))(hH:Le H (hp w0):=by exact hH):Le (gz H w0 w O) (gz H w0 w' O'):=XG  Aj (Ahy h)
theorem AeO[Dr](hH:Le H (hp w0))(hL:Bk w0 O w):Le (gz H w0 w O) (fz w O):=Wr (hH.trans hL.Aku) AiR
theorem Av[Dr](hL:Bk w0 O w)(hH:Le H (hp w0):=by exact hH):Le (gz H w0 w O) (hp w):=(AeO hH hL).trans (Ac9 _ _)
theorem Wt[Dr](hL:Bk w0 O w):Le (nw w w') (gz H w0 w' O):=(Akv hL).trans GR
theorem Kk[Dr](hH:Le H (hp w0))(hL:Bk w0 O w)(hx:Ext w w'):Le (un (gz H w0 w O) (nw w w')) (gz H w0 w' O):=Wr (Ab (AH hL hx)) (Wt hL)
theorem OV(hH:Le H (hp w0)):Le (gz H w0 w O) (un H (nw w0 w)):=Wr (NT hH) (AiS.trans GR)
theorem Bk.rG[Dr](_:Bk w0 O w)(H:PH):Le (gz H w0 w O) (gz H w0 w O):=Le.refl _
end
def Cd{α:Type}(e:TypeId)(r:Rp α)(H:PH)(w w':World)(v:Value)(l:List α):Prop:=
 ∃xs,w'.ownsRow w.heap.size e r.sz v l.length xs/\AK r (un H (SA w w' v)) l xs
section
variable {α:Type}{e:TypeId}{r:Rp α}{H:PH}{w0 w w':World}{O:List BV}{v:Value}{l:List α}{i:Nat}{xs:Qq6}
theorem Aae{b:Nat}{o:Obj}(h:SA w w' v b=some o):w.heap.size<=b:=by
 unfold SA nw at h
 split at h
 ·cases h
 ·split at h
  ·assumption
  ·cases h
theorem Cd.vec(hH:Le H (hp w))(h:Cd e r H w w' v l):AS r (un H (nw w w')) v l:=by
 obtain⟨xs,a,h2⟩:=h;refine PX a h2 (Wr (NT hH) (ZU.trans GR)) fun k hk o ho=>?_;have:=(a.lt k hk).1;apply GR;unfold nw;rw[if_pos this];exact ho
theorem Cd.Cu[Dr](h:Cd e r (gz H w0 w O) w w' v l)(hH:Le H (hp w0))(hL:Bk w0 O w)(hx:Ext w w'):AS r (gz H w0 w' O) v l:=(h.vec (Av hL)).mono (Kk hH hL hx)
theorem Cd.take[Dr](h:Cd e r (gz H w0 w O) w w' v l)(hH:Le H (hp w0))(hL:Bk w0 O w)(hx:Ext w w'):∃xs,Bk w0 (.row v e r.sz l.length xs::O) w'/\Le (fz w O) (fz w' (.row v e r.sz l.length xs::O))/\AK r (gz H w0 w' (.row v e r.sz l.length xs::O)) l xs:=by
 obtain⟨xs,c,h2⟩:=h;obtain⟨h3,a⟩:=N3 hL hx c;refine⟨xs,h3,a,h2.mono (Wr (Ab a) (fun b o hb=>T0 b o ?_))⟩;have hge:w0.heap.size<=b:=Qxy hL.ext.size (Aae hb);unfold nf;rw[if_pos hge];exact ZT hL b o hb
theorem Cd.nil{H:PH}:Cd e r H w w' (.slice none 0 0) ([]:List α):=⟨[],World.ownsRow_nil w' _ e _,.nil⟩
theorem Bk.FV[Dr](hL:Bk w0 O w)(hH:Le H (hp w0))(hi:Dz O i=some (.row v e r.sz l.length xs))(he:AK r (gz H w0 w O) l xs):Cd e r H w0 w v l:=
 ⟨xs,Tz (hL.at hi) (fun k hk=>hL.own _ ((Es hi).mem_iff.2 (.head _)) k hk),he.mono (Wr (Vf hH (fun _ _ h=>Aae h)) ((Ajx hi).trans GR))⟩
theorem Bk.Cu[Dr](hL:Bk w0 O w)(hH:Le H (hp w0))(hi:Dz O i=some (.row v e r.sz l.length xs))(he:AK r (gz H w0 w O) l xs):AS r (gz H w0 w (Pw O i)) v l:=
 PX (hL.at hi) he (Ab (AB hi)) (fun k hk o ho=>T0 k o (by
  unfold nf;rw[if_pos (hL.own _ ((Es hi).mem_iff.2 (.head _)) k hk),Tb hi hk hL.dis];exact ho))
theorem Bk.MZ[Dr](hL:Bk w0 O w)(hH:Le H (hp w0))(hi:Dz O i=some (.row v e r.sz l.length xs))(he:AK r (gz H w0 w O) l xs):AS r (hp w) v l:=hL.Alm hi (he.mono (AeO hH hL))
end
def Rp.st:Rp Qq4:=⟨1,fun _ x c=>c=[.string ⟨x.toArray⟩],fun h=>by simp[h],fun _ h=>h,fun h u hu=>by subst h;simp at hu;subst hu;rfl⟩
theorem AK.set{α:Type}{r:Rp α}{H:PH}{l:List α}{cs:Qq6}{x:α}{u:Value}(h:AK r H l cs)(hx:r.rel H x [u]):∀i,i<l.length->AK r H (l.set i x) (cs.set (i * r.sz) u):=by
 have hsz:r.sz=1:=(r.len hx).symm
 induction h with
 | nil=>intro i hi;cases hi
 | @cons y l c cs h t ih=>
  intro i hi;have hc:c.length=1:=by rw[r.len h,hsz]
  obtain⟨z,rfl⟩:=List.length_eq_one_iff.1 hc
  cases i with
  | zero=>rw[Nat.zero_mul];exact .cons hx t
  | succ i=>
   rw[hsz,Qz9]at *;simp only[Qzc]at hi;have:=ih i U;rw[Qz9]at this;exact .cons h this
section
variable {P:Program}{n:Sz}{ops:Array Oper}{Q:Exit->Act->World->Prop}{L:Env}{w w0:World}{O:List BV}{rest:List Oper}
 {d:Nat}{ty:TypeId}{pos:String}{af:Array Edge}{α:Type}{r:Rp α}{x y:Operand}{v u:Value}{t t' e:TypeId}{H:PH}
abbrev Fz(bt n:Nat):Prop:=n * bt<=140737488355328/\n<=9223372036854775807
theorem Bp[Dr](i:Nat){bt:Nat}{zz:Value}(l m:List α){xs:Qq6}(hx:ev L x=some v)[hy:Qqq (ev L y) (some u)](ht:P.underlying t=some (.slice e))[hz:Qqx P e zz r.sz bt][hzs:Qqq zz.cells.size r.sz][hn:Qqq (Qzw d n.n) true]
   (hL:Bk w0 O w) (hi:Dz O i=some (.row v e r.sz l.length xs)) (he:AK r (gz H w0 w O) l xs) (hm:AS r (gz H w0 w O) u m) (hby:Fz bt (l.length+m.length))
  (h:∀v' w' xs',Bk w0 (CE O i (.row v' e r.sz (l++m).length xs')) w'->Le (fz w O) (fz w' (CE O i (.row v' e r.sz (l++m).length xs')))->AK r (gz H w0 w' (CE O i (.row v' e r.sz (l++m).length xs'))) (l++m) xs'->S P n ops Q rest ((d,v')::L) w')(hsz:0<r.sz:=by decide)(hH:Le H (hp w0):=by exact hH):
  S P n ops Q (⟨some d,.call ⟨.builtin .append,#[x,y],#[t,t]⟩,ty,pos,af,none⟩::rest) L w:=by
 obtain⟨news,a,hs⟩:=hm.elems;refine Wp i hx hy.e ht hz.e hzs.e hsz hn.e hL hi (hs.mono (Av hL)) a.one hby fun v' w' b h2=>?_;rw[<- List.length_append]at b h2;exact h v' w' _ b h2 ((he.append a).mono (Ab h2))
theorem Kl[Dr](i:Nat){bt k:Nat}(j:Nat){zz:Value}{l:List α}{xs:Qq6}{p:Addr}(z:α)[hx:Qqq (ev L x) (some (.pointer (some p)))](hy:ev L y=some u)(hu:u.oneCell'=true)[hz:Qqx P t zz 1 bt](hH:Le H (hp w0))(hL:Bk w0 O w)(hi:Dz O i=some (.row v e r.sz l.length xs))(he:AK r (gz H w0 w O) l xs)
  (hp':Rj v k p) [hk:Qqq k (j * r.sz)] (hj:j<l.length) (hz':r.rel (gz H w0 w O) z [u])
  (h:∀w' xs',Bk w0 (CE O i (.row v e r.sz (l.set j z).length xs')) w'->Le (fz w O) (fz w' (CE O i (.row v e r.sz (l.set j z).length xs')))->AK r (gz H w0 w' (CE O i (.row v e r.sz (l.set j z).length xs'))) (l.set j z) xs'->S P n ops Q rest L w') :
  S P n ops Q (⟨none,.store t x y,ty,pos,af,none⟩::rest) L w:=by
 have hk:=hk.e
 subst hk;have hlen:=he.len;have hsz:r.sz=1:=(r.len hz').symm;refine AeI i hx.e hy hu hz.e hL hi hp' (by rw[hlen,hsz];omega) fun w' a h2=>?_;have b:l.length=(l.set j z).length:=by simp
 rw[b]at a h2;exact h w' _ a h2 ((he.set hz' j hj).mono (Ab h2))
theorem Bx[Dr]{ps:List (Nat×Operand)}{vs:List (Nat×Value)}{cs:Qq6}(l:List α)[hp':Qqq (evp L ps) (some vs)](hr:∀w,(Instr.buildSlice t l.length vs.toArray).run P w=.ok (.slice (some ⟨w.heap.size,0,none⟩) l.length l.length) (w.alloc (.cells cs.toArray e)))[hn:Qqq (Qzw d n.n) true](hL:Bk w0 O w)(he:AK r (gz H w0 w O) l cs)
  (h:∀u w',Ext w w'->Bk w0 O w'->Le (fz w O) (fz w' O)->AS r (gz H w0 w' O) u l->S P n ops Q rest ((d,u)::L) w')(hlen:l.length<=9223372036854775807:=by exact B4 1)(hH:Le H (hp w0):=by exact hH):
  S P n ops Q (⟨some d,.buildSlice t l.length ps.toArray,ty,pos,af,none⟩::rest) L w:=
 AiQ (sz:=r.sz) hp'.e hr he.len hlen hn.e hL fun u w' hx hL' hle hs _=>h u w' hx hL' hle (Wo (he.mono (Ab hle)) (hs.mono (Wt hL)))
theorem Rl[Dr]{ps:List (Nat×Operand)}{vs:List (Nat×Value)}{cs:Qq6}(l:List α)[hp':Qqq (evp L ps) (some vs)](hr:∀w,(Instr.buildSlice t l.length vs.toArray).run P w=.ok (.slice (some ⟨w.heap.size,0,none⟩) l.length l.length) (w.alloc (.cells cs.toArray e)))[hn:Qqq (Qzw d n.n) true](hlen:l.length<=9223372036854775807)(hH:Le H (hp w0))(hL:Bk w0 O w)(he:AK r (gz H w0 w O) l cs)
  (h:∀u w' xs,Bk w0 (.row u e r.sz l.length xs::O) w'->Le (fz w O) (fz w' (.row u e r.sz l.length xs::O))->AK r (gz H w0 w' (.row u e r.sz l.length xs::O)) l xs->S P n ops Q rest ((d,u)::L) w') :
  S P n ops Q (⟨some d,.buildSlice t l.length ps.toArray,ty,pos,af,none⟩::rest) L w:=
 AiQ (sz:=r.sz) hp'.e hr he.len hlen hn.e hL fun u w' hx _ _ _ ho=>by
  obtain⟨a,h2⟩:=N3 hL hx ho;exact h u w' _ a h2 (he.mono (Ab h2))
theorem YS[Dr]{bt:Nat}{k k':IntKind}{zz:Value}{c c':Int}{z:α}[hx:Qqq (ev L x) (some (.int k c))][hy:Qqq (ev L y) (some (.int k' c'))][hcc:Qqq c' c](ht:P.underlying t=some (.slice e))[hz:Qqx P e zz r.sz bt][hzc:Qqq zz.cells (#[zz])](hrz:∀G,r.rel G z [zz])[hn:Qqq (Qzw d n.n) true](_hH:Le H (hp w0))(hL:Bk w0 O w)(hm:0<=c/\(bt:Int) * c<=281474976710656/\c<=9223372036854775807)
  (h:∀v' w' xs,Bk w0 (.row v' e r.sz (Qzv c.toNat z).length xs::O) w'->Le (fz w O) (fz w' (.row v' e r.sz (Qzv c.toNat z).length xs::O))->AK r (gz H w0 w' (.row v' e r.sz (Qzv c.toNat z).length xs::O)) (Qzv c.toNat z) xs->S P n ops Q rest ((d,v')::L) w') :
  S P n ops Q (⟨some d,.makeSlice t x y,ty,pos,af,none⟩::rest) L w:=by
 have hcc:=hcc.e
 have hz:=hz.e
 have hsz:r.sz=1:=(r.len (hrz H)).symm;obtain⟨m,rfl⟩:=Qx4 hm.1;subst hcc;rw[hsz]at hz;refine Ajw (m:=m) hx.e hy.e ⟨Z,Z⟩ ht hz hzc.e hn.e hL ⟨by have:=hm.2.1;rw[<- Int.natCast_mul]at this;exact Int.ofNat_le.1 this,by omega⟩ fun v' w' _ a h2=>?_;have b:m=(Qzv (m:Int).toNat z).length:=by simp
 have f:BV.row v' e 1 m (Qzv m zz)=.row v' e r.sz (Qzv (m:Int).toNat z).length (Qzv m zz):=by rw[hsz,<- b]
 rw[f]at a h2;refine h v' w' _ a h2 ?_
 have key:∀(G:PH) (k:Nat),AK r G (Qzv k z) (Qzv k zz):=fun G k=>by
  induction k with
  | zero=>exact .nil
  | succ k ih=>exact .cons (c:=[zz]) (hrz G) ih
 exact key _ _
end
section
variable {P:Program}{n:Sz}{lo:List Oper}{Q:Exit->Act->World->Prop}{L:Env}{w w0:World}{O:List BV}{tr:Tr}{ix:Nat}
 {d:Nat}{ty:TypeId}{pos:String}{af:Array Edge}{α:Type}{r:Rp α}{x y:Operand}{v:Value}{t e:TypeId}{H:PH}
theorem Rm[Dr]{ps:List (Nat×Operand)}{vs:List (Nat×Value)}{cs:Qq6}(l:List α)(ho:HF lo ix=some ⟨some d,.buildSlice t l.length ps.toArray,ty,pos,af,none⟩)(hp':evp L ps=some vs)(hr:∀w,(Instr.buildSlice t l.length vs.toArray).run P w=.ok (.slice (some ⟨w.heap.size,0,none⟩) l.length l.length) (w.alloc (.cells cs.toArray e)))(hn:Qzw d n.n=true)(hlen:l.length<=9223372036854775807)(hH:Le H (hp w0))(hL:Bk w0 O w)(he:AK r (gz H w0 w O) l cs)
  (h:∀u w',Ext w w'->Bk w0 O w'->Le (fz w O) (fz w' O)->AS r (gz H w0 w' O) u l->D P n lo Q tr ((d,u)::L) w'):D P n lo Q (.h ix tr) L w:=by
 refine AcC (fun b u w'=>Src (nw b w') r.sz u l.length cs) ho hn (fun b a ρ hρ=>?_) (fun b u w' a c hR=>?_)
 ·have g:=hρ.Ahx _ _ hp';have e':(ps.toArray.map fun(i,x)=>(i,ρ x))=vs.toArray:=by rw[<- g];simp
  refine⟨_,_,by simp[execOp,e',hr b,-List.map_toArray],CW b (.cells cs.toArray e),he.len,some ⟨b.heap.size,0,none⟩,l.length,Z,Qzu _,by unfold maxLen;omega,(fun e=>by cases e),fun A hA _=>?_⟩
  cases hA
  refine⟨Z,fun j u hu=>?_⟩;simp only[Addr.add_lit,QzJ,IW,nw,Qzu,if_true,heap_alloc_new]
  simpa using hu
 ·have f:=hL.call a;have hle:=(AH hL a).trans (AH f c);exact h u w' (a.trans c) (f.call c) hle (Wo (he.mono (Ab hle)) (hR.mono (Wt f)))
theorem Mv[Dr]{bt:Nat}{k k':IntKind}{zz:Value}{c c':Int}(z:α)(ho:HF lo ix=some ⟨some d,.makeSlice t x y,ty,pos,af,none⟩)(hx:ev L x=some (.int k c))(hy:ev L y=some (.int k' c'))(hcc:c'=c)(ht:P.underlying t=some (.slice e))[hz:Qqx P e zz r.sz bt][hzc:Qqq zz.cells (#[zz])](hrz:∀G,r.rel G z [zz])(hn:Qzw d n.n=true)(_hH:Le H (hp w0))(hL:Bk w0 O w)(hm:0<=c/\(bt:Int) * c<=281474976710656/\c<=9223372036854775807)
  (h:∀v' w' xs,Bk w0 (.row v' e r.sz (Qzv c.toNat z).length xs::O) w'->Le (fz w O) (fz w' (.row v' e r.sz (Qzv c.toNat z).length xs::O))->AK r (gz H w0 w' (.row v' e r.sz (Qzv c.toNat z).length xs::O)) (Qzv c.toNat z) xs->D P n lo Q tr ((d,v')::L) w'):D P n lo Q (.h ix tr) L w:=by
 have hz:=hz.e
 have hsz:r.sz=1:=(r.len (hrz H)).symm;obtain⟨m,rfl⟩:=Qx4 hm.1;subst hcc;rw[hsz]at hz;refine Ajz (m:=m) ho hx hy ⟨Z,Z⟩ ht hz hzc.e hn hL ⟨by have:=hm.2.1;rw[<- Int.natCast_mul]at this;exact Int.ofNat_le.1 this,by omega⟩ fun v' w' _ a h2=>?_;have b:m=(Qzv (m:Int).toNat z).length:=by simp
 have f:BV.row v' e 1 m (Qzv m zz)=.row v' e r.sz (Qzv (m:Int).toNat z).length (Qzv m zz):=by rw[hsz,<- b]
 rw[f]at a h2;refine h v' w' _ a h2 ?_
 have key:∀(G:PH) (k:Nat),AK r G (Qzv k z) (Qzv k zz):=fun G k=>by
  induction k with
  | zero=>exact .nil
  | succ k ih=>exact .cons (c:=[zz]) (hrz G) ih
 exact key _ _
end
end Go.E
end
noncomputable section
namespace Go.E
open Go Go.RowKit
theorem AM{i:Int}{n:Nat}(h:0<=i/\i<(n:Int)):i.toNat<n:=by omega
theorem Cx{i n:Int}(h:0<=i/\i<n):i=(i.toNat:Int):=(Qx5 h.1).symm
theorem Yg{p:Prop}[Decidable p](h:(!decide p)=true): ¬p:=by simpa using h
theorem Yh{p:Prop}[Decidable p](h:(!decide p)=false):p:=by simpa using h
section
variable {α:Type}{P:Program}{n:Sz}{Q:Exit->Act->World->Prop}{L:Env}{w:World}{x y:Code}{t:Operand}{A B:Option α}{e:α}
theorem Bi{b:Bool}[hc:Qqq (ev L t) (some (.bool b))](h:(if b then A else B)=some e)(ht:b=true->A=some e->W P n x Q L w)(hf:b=false->B=some e->W P n y Q L w):W P n (.cond t x y) Q L w:=
 Abz hc.e (fun c=>ht c (Go.L.AcF c h)) (fun c=>hf c (Go.L.AcG c h))
theorem AL{p:Prop}[Decidable p][hc:Qqq (ev L t) (some (.bool (decide p)))](h:(if p then A else B)=some e)(ht:p->A=some e->W P n x Q L w)(hf : ¬p->B=some e->W P n y Q L w):W P n (.cond t x y) Q L w:=
 Alj hc.e (fun c=>ht c (Go.L.OD c h)) (fun c=>hf c (Go.L.OE c h))
theorem BG{p:Prop}[Decidable p][hc:Qqq (ev L t) (some (.bool (!decide p)))](h:(if p then A else B)=some e)(ht : ¬p->B=some e->W P n x Q L w)(hf:p->A=some e->W P n y Q L w):W P n (.cond t x y) Q L w:=
 Aks hc.e (fun c=>ht c (Go.L.OE c h)) (fun c=>hf c (Go.L.OD c h))
theorem Cv{ops:Array Oper}{rest:List Oper}(s:Nat){b:Bool}[hb:Qqq (gt L s) (some (.bool b))](h:(if b then A else B)=some e)(ht:b=true->A=some e->S P n ops Q rest L w)(hf:b=false->B=some e->S P n ops Q rest L w):S P n ops Q rest L w:=
 D5 hb.e (fun c=>ht c (Go.L.AcF c h)) (fun c=>hf c (Go.L.AcG c h))
theorem Bz{ops:Array Oper}{rest:List Oper}(s:Nat){p:Prop}[Decidable p][hb:Qqq (gt L s) (some (.bool (decide p)))](h:(if p then A else B)=some e)(ht:decide p=true->A=some e->S P n ops Q rest L w)(hf:decide p=false->B=some e->S P n ops Q rest L w):S P n ops Q rest L w:=
 D5 hb.e (fun c=>ht c (Go.L.OD (of_decide_eq_true c) h)) (fun c=>hf c (Go.L.OE (of_decide_eq_false c) h))
theorem Et{ops:Array Oper}{rest:List Oper}(s:Nat){p:Prop}[Decidable p][hb:Qqq (gt L s) (some (.bool (!decide p)))](h:(if p then A else B)=some e)(ht:(!decide p)=true->B=some e->S P n ops Q rest L w)(hf:(!decide p)=false->A=some e->S P n ops Q rest L w):S P n ops Q rest L w:=
 D5 hb.e (fun c=>ht c (Go.L.OE (Yg c) h)) (fun c=>hf c (Go.L.OD (Yh c) h))
end
theorem Rj.add{v:Value}{k:Nat}{p:Addr}(h:Rj v k p)(j:Nat):Rj v (k+j) (p.add j):=by
 obtain⟨b,o,s⟩:=p;obtain⟨a,h2,h3⟩:=h;simp only at a h2 h3;subst h3;exact⟨by simpa[Addr.add_lit]using a,by simp[Addr.add_lit,h2],by simp[Addr.add_lit]⟩
def Plain{α:Type}(r:Rp α):Prop:=∀{H H':PH}{x:α}{c:Qq6},r.rel H x c->r.rel H' x c
theorem Ab5:Plain .byte:=fun h=>h
theorem AK.YT{α:Type}{r:Rp α}(hp:Plain r){H H':PH}{l:List α}{cs:Qq6}(h:AK r H l cs):AK r H' l cs:=by
 induction h with
 | nil=>exact .nil
 | cons h _ ih=>exact .cons (hp h) ih
theorem Cd.YT{α:Type}{e:TypeId}{r:Rp α}{H1 H2:PH}{w w':World}{v:Value}{l:List α}(h:Cd e r H1 w w' v l)(hp:Plain r):Cd e r H2 w w' v l:=by
 obtain⟨xs,a,h2⟩:=h;exact⟨xs,a,h2.YT hp⟩
section
variable {P:Program}{L:Env}{w:World}{x y z:Operand}{ty t t' t'' e:TypeId}
theorem KK(a:Int):IntKind.u8.wrap a=((Go.L.u8 a).toNat:Int):=by rw[VO,Go.L.Aad]
def ar8:BinOp->UInt8->UInt8->Option UInt8
 | .add,a,b=>some (a+b)
 | .sub,a,b=>some (a - b)
 | .mul,a,b=>some (a * b)
 | _,_,_=>none
theorem AeP{op:BinOp}{a b c:UInt8}(h:ar8 op a b=some c):∃s,arI op (a.toNat:Int) (b.toNat:Int)=some s/\IntKind.u8.wrap s=(c.toNat:Int):=by
 have ha:=a.toNat_lt;have hb:=b.toNat_lt
 cases op <;> simp only[ar8,Option.some.injEq,reduceCtorEq]at h <;> subst h
 ·refine⟨_,Z,?_⟩;rw[VO,UInt8.toNat_add];omega
 ·refine⟨_,Z,?_⟩;rw[VO,UInt8.toNat_sub];omega
 ·refine⟨_,Z,?_⟩;rw[VO,UInt8.toNat_mul,<- Int.natCast_mul];omega
theorem Aaf[Dr]{op:BinOp}{a:UInt8}(b:UInt8){c:UInt8}(hx:ev L x=some (.int .u8 (a.toNat:Int)))(hy:ev L y=some (.int .u8 (b.toNat:Int)))(ho:ar8 op a b=some c):B5 P L w (.binOp op t x y t') ty (.int .u8 (c.toNat:Int)):=by
 obtain⟨s,d,h2⟩:=AeP ho;exact Akw hx hy d h2
theorem Aj0[Dr]{a:UInt8}{c:Nat}{k':IntKind}(hx:ev L x=some (.int .u8 (a.toNat:Int)))[hy:Qqq (ev L y) (some (.int k' (c:Int)))](hc:c<8):B5 P L w (.binOp .shr t x y t') ty (.int .u8 ((a >>> (Qz8 c)).toNat:Int)):=by
 have h:=Wq (P:=P) (w:=w) (t:=t) (t':=t') (ty:=ty) hx (hy:=⟨hy.e⟩) Z (show c<=IntKind.u8.bits by simp[IntKind.bits];omega)
 have e:(a.toNat:Int) / 2 ^ c=((a >>> (Qz8 c)).toNat:Int):=by
  rw[UInt8.toNat_shiftRight,UInt8.toNat_ofNat',Nat.mod_eq_of_lt (show c<2 ^ 8 by omega),Nat.mod_eq_of_lt hc,Nat.shiftRight_eq_div_pow];simp
 rw[e]at h;exact h
theorem Gq[Dr]{l:Qq4}(hx:ev L x=some (.string ⟨l.toArray⟩))[ht:Qqq (P.underlying t) (some .string)]:B5 P L w (.call ⟨.builtin .len,#[x],#[t]⟩) ty (.int .i64 (l.length:Int)):=by
 intro w' _ ρ hρ dst pos af g;have:(ByteArray.mk l.toArray).size=l.length:=by simp[Qx6]
 simp[execOp,resolve,hρ x _ hx,invoke,builtin,Builtin.len_,run_underlying ht.e,goInt,this]
theorem Rn[Dr]{l m:Qq4}(hx:ev L x=some (.string ⟨l.toArray⟩))(hy:ev L y=some (.string ⟨m.toArray⟩)):B5 P L w (.binOp .neq t x y t') ty (.bool (!decide (l=m))):=by
 intro w' _ ρ hρ dst pos af g;have e:(l==m)=decide (l=m):=by rw[Qz7];simp
 simp[execOp,hρ x _ hx,hρ y _ hy,eqGuard,binOp,Op.stringOp,e]
theorem Ak3[Dr]{l m:Qq4}(hx:ev L x=some (.string ⟨l.toArray⟩))(hy:ev L y=some (.string ⟨m.toArray⟩)):B5 P L w (.binOp .leq t x y t') ty (.bool (Op.bytesLess l m||decide (l=m))):=by
 intro w' _ ρ hρ dst pos af g;have e:(l==m)=decide (l=m):=by rw[Qz7];simp
 simp[execOp,hρ x _ hx,hρ y _ hy,eqGuard,binOp,Op.stringOp,e]
theorem D7[Dr]{l m:Qq4}[hx:Qqq (ev L x) (some (.string ⟨l.toArray⟩))][hy:Qqq (ev L y) (some (.string ⟨m.toArray⟩))](h:l.length+m.length<=9223372036854775807):B5 P L w (.binOp .add t x y t') ty (.string ⟨(l++m).toArray⟩):=by
 intro w' _ ρ hρ dst pos af g;have c:(ByteArray.mk l.toArray).size=l.length:=by simp[Qx6]
 have f:(ByteArray.mk m.toArray).size=m.length:=by simp[Qx6]
 have o:ByteArray.mk l.toArray++ByteArray.mk m.toArray=ByteArray.mk (l++m).toArray:=by
  apply ByteArray.ext;simp
 have p : ¬(IntKind.i64.max<((l.length+m.length:Nat):Int)):=by
  have:IntKind.i64.max=9223372036854775807:=by decide
  omega
 simp only[execOp,hρ x _ hx.e,hρ y _ hy.e,eqGuard,binOp,Op.stringOp,c,f,o];simp;omega
end
section
variable {P:Program}{n:Sz}{ops:Array Oper}{Q:Exit->Act->World->Prop}{L:Env}{w w0:World}{O:List BV}{rest:List Oper}{lop:List Oper}{ix:Nat}{tr:Tr}
 {d:Nat}{ty:TypeId}{pos:String}{af:Array Edge}{α:Type}{r:Rp α}{x a b:Operand}{v:Value}{t e:TypeId}{H:PH}{l:List α}{k k':IntKind}{i j:Int}{zz:Value}{bt:Nat}
theorem Wu[Dr][hx:Qqq (ev L x) (some v)][ha:Qqq (ev L a) (some (.int k i))][hb:Qqq (ev L b) (some (.int k' j))][ht:Qqq (P.underlying t) (some (.slice e))][he:Qqx P e zz r.sz bt](hv:AS r H v l)(hc:0<=i/\i<=j/\j<=(l.length:Int))[hn:Qqq (Qzw d n.n) true]
  (h:∀v',AS r H v' ((l.drop i.toNat).take (j.toNat - i.toNat))->S P n ops Q rest ((d,v')::L) w):S P n ops Q (⟨some d,.slice t x (some a) (some b) none,ty,pos,af,none⟩::rest) L w:=
 YN hx.e ht.e he.e hv i.toNat j.toNat ⟨k,by rw[Qx5 U];exact ha.e⟩ ⟨k',by rw[Qx5 U];exact hb.e⟩ U hn.e h
theorem Aag[Dr][hx:Qqq (ev L x) (some v)][ha:Qqq (ev L a) (some (.int k i))][ht:Qqq (P.underlying t) (some (.slice e))][he:Qqx P e zz r.sz bt](hv:AS r H v l)(hc:0<=i/\i<=(l.length:Int))[hn:Qqq (Qzw d n.n) true]
  (h:∀v',AS r H v' (l.drop i.toNat)->S P n ops Q rest ((d,v')::L) w):S P n ops Q (⟨some d,.slice t x (some a) none none,ty,pos,af,none⟩::rest) L w:=
 YN hx.e ht.e he.e hv i.toNat l.length ⟨k,by rw[Qx5 U];exact ha.e⟩ Z U hn.e fun v' h'=>h v' (by rwa [Qxb Qqd]at h')
theorem Wv[Dr][hx:Qqq (ev L x) (some v)][hb:Qqq (ev L b) (some (.int k' j))][ht:Qqq (P.underlying t) (some (.slice e))][he:Qqx P e zz r.sz bt](hv:AS r H v l)(hc:0<=j/\j<=(l.length:Int))[hn:Qqq (Qzw d n.n) true]
  (h:∀v',AS r H v' (l.take j.toNat)->S P n ops Q rest ((d,v')::L) w):S P n ops Q (⟨some d,.slice t x none (some b) none,ty,pos,af,none⟩::rest) L w:=
 YN hx.e ht.e he.e hv 0 j.toNat Z ⟨k',by rw[Qx5 U];exact hb.e⟩ U hn.e fun v' h'=>h v' (by simpa using h')
theorem Px[Dr](ho:HF lop ix=some ⟨some d,.slice t x (some a) none none,ty,pos,af,none⟩)(hx:ev L x=some v)[ha:Qqq (ev L a) (some (.int k i))](ht:P.underlying t=some (.slice e))[he:Qqx P e zz r.sz bt](hv:AS r H v l)(hc:0<=i/\i<=(l.length:Int))(hn:Qzw d n.n=true)
  (h:∀v',AS r H v' (l.drop i.toNat)->D P n lop Q tr ((d,v')::L) w):D P n lop Q (.q ix tr) L w:=
 AcD ho hx ht he.e hv i.toNat l.length ⟨k,by rw[Qx5 U];exact ha.e⟩ Z U hn fun v' h'=>h v' (by rwa [Qxb Qqd]at h')
theorem Aah[Dr](ho:HF lop ix=some ⟨some d,.slice t x none (some b) none,ty,pos,af,none⟩)(hx:ev L x=some v)[hb:Qqq (ev L b) (some (.int k' j))](ht:P.underlying t=some (.slice e))[he:Qqx P e zz r.sz bt](hv:AS r H v l)(hc:0<=j/\j<=(l.length:Int))(hn:Qzw d n.n=true)
  (h:∀v',AS r H v' (l.take j.toNat)->D P n lop Q tr ((d,v')::L) w):D P n lop Q (.q ix tr) L w:=
 AcD ho hx ht he.e hv 0 j.toNat Z ⟨k',by rw[Qx5 U];exact hb.e⟩ U hn fun v' h'=>h v' (by simpa using h')
theorem JH[Dr]{z:Value}{sz:Nat}{cs:Qq6}(ho:HF lop ix=some ⟨some d,.alloc t,ty,pos,af,none⟩)(hz:Zr P t z sz bt)(hc:z.cells.toList=cs)(hn:Qzw d n.n=true)(hL:Bk w0 O w)
  (h:∀w' b,Bk w0 (.box b cs t::O) w'->Le (fz w O) (fz w' (.box b cs t::O))->D P n lop Q tr ((d,.pointer (some ⟨b,0,none⟩))::L) w'):D P n lop Q (.h ix tr) L w:=by
 subst hc;refine AcC (fun a u w'=>u=.pointer (some ⟨a.heap.size,0,none⟩)/\w'=a.alloc (.cells z.cells.toList.toArray t)) ho hn (fun a c ρ hρ=>?_) (fun a u w' c f hR=>?_)
 ·refine⟨_,_,Yf hz a ρ _ Z,CW _ _,Z,by simp⟩
 ·obtain⟨rfl,rfl⟩:=hR;have e:=hL.call c;exact h _ _ (YO e) ((AH hL c).trans (Uw e))
end
end Go.E
namespace Go.E
open Go Go.RowKit
theorem AK.c1{α:Type}{r:Rp α}{H:PH}{x:α}{l:List α}{a:Value}{cs:Qq6}(h:r.rel H x [a])(t:AK r H l cs):AK r H (x::l) (a::cs):=.cons (c:=[a]) h t
theorem AK.c2{α:Type}{r:Rp α}{H:PH}{x:α}{l:List α}{a b:Value}{cs:Qq6}(h:r.rel H x [a,b])(t:AK r H l cs):AK r H (x::l) (a::b::cs):=.cons (c:=[a,b]) h t
theorem AK.c3{α:Type}{r:Rp α}{H:PH}{x:α}{l:List α}{a b d:Value}{cs:Qq6}(h:r.rel H x [a,b,d])(t:AK r H l cs):AK r H (x::l) (a::b::d::cs):=.cons (c:=[a,b,d]) h t
theorem AK.c4{α:Type}{r:Rp α}{H:PH}{x:α}{l:List α}{a b d e:Value}{cs:Qq6}(h:r.rel H x [a,b,d,e])(t:AK r H l cs):AK r H (x::l) (a::b::d::e::cs):=.cons (c:=[a,b,d,e]) h t
theorem AK.c5{α:Type}{r:Rp α}{H:PH}{x:α}{l:List α}{a b d e f:Value}{cs:Qq6}(h:r.rel H x [a,b,d,e,f])(t:AK r H l cs):AK r H (x::l) (a::b::d::e::f::cs):=.cons (c:=[a,b,d,e,f]) h t
theorem AK.c6{α:Type}{r:Rp α}{H:PH}{x:α}{l:List α}{a b d e f g:Value}{cs:Qq6}(h:r.rel H x [a,b,d,e,f,g])(t:AK r H l cs):AK r H (x::l) (a::b::d::e::f::g::cs):=.cons (c:=[a,b,d,e,f,g]) h t
theorem AK.c7{α:Type}{r:Rp α}{H:PH}{x:α}{l:List α}{a b d e f g i:Value}{cs:Qq6}(h:r.rel H x [a,b,d,e,f,g,i])(t:AK r H l cs):AK r H (x::l) (a::b::d::e::f::g::i::cs):=.cons (c:=[a,b,d,e,f,g,i]) h t
theorem AK.c8{α:Type}{r:Rp α}{H:PH}{x:α}{l:List α}{a b d e f g i j:Value}{cs:Qq6}(h:r.rel H x [a,b,d,e,f,g,i,j])(t:AK r H l cs):AK r H (x::l) (a::b::d::e::f::g::i::j::cs):=.cons (c:=[a,b,d,e,f,g,i,j]) h t
theorem Cp[Dr]{α:Type}(r:Rp α){w0 w:World}{O:List BV}(H:PH)(e:TypeId)(hL:Bk w0 O w):
  Bk w0 (.row (.slice none 0 0) e r.sz ([]:List α).length []::O) w/\Le (fz w O) (fz w (.row (.slice none 0 0) e r.sz ([]:List α).length []::O))/\AK r (gz H w0 w (.row (.slice none 0 0) e r.sz ([]:List α).length []::O)) [] []:=
 ⟨(VQ hL e r.sz).1,(VQ hL e r.sz).2,.nil⟩
def K8(Q:Exit->Act->World->Prop):Prop:=∀c a (d:Option Tmp) (v:Value) w,Q (.panic c) (a.put d v) w->Q (.panic c) a w
section
variable {P:Program}{n:Sz}{Q:Exit->Act->World->Prop}
theorem OF{fn:Func}{R:Value->World->Prop}:K8 (Rb P fn R):=fun _ _ d _ _ h=>by cases d <;> exact h
theorem Ww{y:Code}(h:K8 Q):K8 (Ut P y Q):=fun c a d v w k=>h c a d v w k
theorem PY{σ:Type}{I:σ->Env}{R:σ->World->Prop}(h:K8 Q):K8 (Aby n I R Q):=fun c a d v w k=>h c a d v w k
theorem T1{σ:Type}{I:σ->Env}{R:σ->World->Prop}{μ:σ->Nat}{x:σ}(h:K8 Q):K8 (Ya n I R μ x Q):=fun c a d v w k=>h c a d v w k
theorem I3{id:Nat}(h:K8 Q):K8 (Exit.inBlock id Q):=fun c a d v w k=>h c a d v w k
end
section
variable {P:Program}{n:Sz}{m fuel:Nat}{l:List Oper}{Q:Exit->Act->World->Prop}{L:Env}{w w0:World}{done:List Nat}{i d:Nat}{op:Op}{ty:TypeId}{pos:String}{af:Array Edge}
def AeQ(l:List Oper)(m:Nat)(done:List Nat)(i:Nat):Bool:=
 Region.noSelect l.toArray&&Region.free .any l.toArray (SB m done) i&&(Region.ready .any l.toArray (SB m done)).contains i
end
section
variable {P:Program}{n:Sz}{m fuel:Nat}{lo:List Oper}{Q:Exit->Act->World->Prop}{L:Env}{w w0:World}{done:List Nat}{i d:Nat}{ty:TypeId}{pos:String}{af:Array Edge}{α:Type}{r:Rp α}{H:PH}{x y:Operand}{v:Value}{t e:TypeId}{O:List BV}
end
end Go.E
namespace Go.E
open Go Go.RowKit
section
variable {P:Program}{L:Env}{w:World}{x y:Operand}{ty t t':TypeId}
end
theorem cells_one{v:Value}(h:v.oneCell'=true):v.cells.toList=[v]:=by cases v <;> simp_all [Value.cells,Value.oneCell']
section
variable {P:Program}{n:Sz}{ops:Array Oper}{Q:Exit->Act->World->Prop}{L:Env}{w w0:World}{O:List BV}{rest:List Oper}{d:Nat}{ty:TypeId}{pos:String}{af:Array Edge}{x:Operand}{v:Value}{t e:TypeId}{H:PH}
theorem Te[Dr](hx:ev L x=some v)(a:v.oneCell'=true)[hn:Qqq (Qzw d n.n) true](hL:Bk w0 O w)
  (h:∀w' b,Bk w0 (.box b [v] t::O) w'->Le (fz w O) (fz w' (.box b [v] t::O))->Ext w w'->S P n ops Q rest ((d,.pointer (some ⟨b,0,none⟩))::L) w'):S P n ops Q (⟨some d,.box t x,ty,pos,af,none⟩::rest) L w:=
 BM hx (cells_one a) (hn:=⟨hn.e⟩) hL h
end
theorem Hy.part{H:PH}{p:Addr}{c:Qq6}(h:Hy H p c)(m:Nat):Hy H p (c.take m):=
 ⟨h.1,fun j u hu=>h.2 j u (by
  rw[Qjc]at hu
  split at hu
  ·exact hu
  ·cases hu)⟩
section
variable {P:Program}{L:Env}{w w0:World}{O:List BV}{x:Operand}{ty t:TypeId}{H:PH}
theorem GS[Dr](i m:Nat){b off:Nat}{cs c:Qq6}{t':TypeId}{dd:TypeDesc}{zz:Value}{bt:Nat}(hx:ev L x=some (.pointer (some ⟨b,off,none⟩)))[ht:Qqq (P.underlying t) (some dd)][hd:Qqq (Aaa dd) true](hz:Zr P t zz c.length bt)(hL:Bk w0 O w)(hi:Dz O i=some (.box b cs t'))(hc:(cs.drop off).take m=c):B5 P L w (.load t x) ty (.agg c.toArray):=by
 have a:=((AP hL hi).add off).part m;rw[hc,Addr.add_lit,QzJ]at a;exact BI (hx:=⟨hx⟩) (ht:=⟨ht.e⟩) (hd:=⟨hd.e⟩) (hz:=⟨hz⟩) a (Le.refl _)
theorem Ab6{α:Type}{r:Rp α}{v:Value}{l:List α}(h:AS r H v l):(v=.slice none 0 0/\l=[])\/∃A n c,v=.slice (some A) n c:=by
 obtain⟨a,cap,b,h2,_,d,_⟩:=h.ex
 cases a with
 | none=>
  have hc:=d Z;have hl:l.length=0:=by omega
  left
  rw[b,hl,hc];exact⟨Z,Qxd hl⟩
 | some A=>exact .inr ⟨A,_,_,b⟩
theorem Ab7[Dr]{y:Operand}{e t':TypeId}[hx:Qqq (ev L x) (some (.slice none 0 0))][hy:Qqq (ev L y) (some (.slice none 0 0))][ht:Qqq (P.underlying t) (some (.slice e))]:B5 P L w (.binOp .eql t x y t') ty (.bool true):=by
 intro w' _ ρ hρ dst pos af g;have key:∀dd:Nat,(Op.equalIn (dd+1) t (.slice none 0 0) (.slice none 0 0)).run P w'=.ok true w':=fun dd=>by simp[Op.equalIn,run_underlying ht.e]
 have a:(Op.equal t (.slice none 0 0) (.slice none 0 0)).run P w'=.ok true w':=key 9999;simp[execOp,hρ x _ hx.e,hρ y _ hy.e,eqGuard,binOp,a]
theorem Ab8[Dr]{v:Value}{y:Operand}{e t':TypeId}[hx:Qqq (ev L x) (some v)][hy:Qqq (ev L y) (some (.slice none 0 0))][ht:Qqq (P.underlying t) (some (.slice e))](hv:∃A n c,v=.slice (some A) n c):B5 P L w (.binOp .eql t x y t') ty (.bool false):=by
 obtain⟨A,n,c,rfl⟩:=hv;intro w' _ ρ hρ dst pos af g;have key:∀dd:Nat,(Op.equalIn (dd+1) t (.slice (some A) n c) (.slice none 0 0)).run P w'=.ok false w':=fun dd=>by simp[Op.equalIn,run_underlying ht.e]
 have a:(Op.equal t (.slice (some A) n c) (.slice none 0 0)).run P w'=.ok false w':=key 9999;simp[execOp,hρ x _ hx.e,hρ y _ hy.e,eqGuard,binOp,a]
theorem Ab9[Dr]{α:Type}(r:Rp α){e:TypeId}(hL:Bk w0 O w)(hH:Le H (hp w0)):Cd e r H w0 w (.slice none 0 0) ([]:List α):=
 (Cp r H e hL).1.FV (i:=0) hH Z (Cp r H e hL).2.2
end
end Go.E
namespace Go.E
open Go Go.RowKit
section
variable {P:Program}{n:Sz}{ops:Array Oper}{Q:Exit->Act->World->Prop}{L:Env}{w w0:World}{O:List BV}{rest:List Oper}{d:Nat}{ty:TypeId}{pos:String}{af:Array Edge}{x y:Operand}{t tn e:TypeId}{H:PH}
theorem AcI[Dr]{a:Option Addr}{m c:Nat}(hx:ev L x=some (.slice a m c))[ht:Qqq (P.underlying t) (some (.slice e))]:B5 P L w (.call ⟨.builtin .cap,#[x],#[t]⟩) ty (.int .i64 (c:Int)):=by
 intro w' _ ρ hρ dst pos af g;simp[execOp,resolve,invoke,builtin,hρ x _ hx,Builtin.cap_,run_underlying ht.e]
 rfl
theorem AcJ[Dr]{k kn:IntKind}{zz:Value}{bt m:Nat}[hx:Qqq (ev L x) (some (.slice none 0 0))](hy:ev L y=some (.int k (m:Int)))(ht:P.underlying t=some (.slice e))[htn:Qqq (P.underlying tn) (some (.int kn))][hz:Qqx P e zz 1 bt][hzc:Qqq zz.cells (#[zz])][hn:Qqq (Qzw d n.n) true](c:0<m)(a:(m:Int)<=9223372036854775807)(b:m * bt<=281474976710656)
  (h:∀g cap cur w',Ext w w'->w.heap.size<=g->w'.heap[g]? = some (.cells cur e (0,0))->cap<=maxLen->cur.size=cap->S P n ops Q rest ((d,.slice (some ⟨g,0,none⟩) m cap)::L) w') :
  S P n ops Q (⟨some d,.call ⟨.builtin .append,#[x,y],#[t,tn]⟩,ty,pos,af,none⟩::rest) L w:=by
 obtain⟨inf,f,i,j,l⟩:=hz.e.parts;have hr:=Lib.run_append_nil_zeros (P:=P) w t tn ty e inf zz k kn ht htn.e f i m c (by rw[j];decide) a (by rw[l];exact b);have hge:=grownCap_ge w m 0 e;have hsz:∀k,(Builtin.zeroCells zz.cells k).size=k:=fun k=>by rw[hzc.e];simp[Builtin.zeroCells]
 refine Ei (v:=.slice (some ⟨w.heap.size,0,none⟩) m (grownCap w m 0 e)) (w':=w.drew.alloc (.cells (Builtin.zeroCells zz.cells m++Builtin.zeroCells zz.cells (grownCap w m 0 e - m)) e)) hn.e (fun ρ hρ=>by simp[execOp,resolve,invoke,builtin,hρ x _ hx.e,hρ y _ hy,hr]) (h _ _ (Builtin.zeroCells zz.cells m++Builtin.zeroCells zz.cells (grownCap w m 0 e - m)) _ ?_ (Qzu _) ?_ (grownCap_le_maxLen w m 0 e (by unfold maxLen;omega)) ?_)
 ·exact(show Ext w w.drew from MA).trans (CW _ _)
 ·show(w.heap.push _)[w.heap.size]? = _
  simp
 ·rw[Array.size_append,hsz,hsz];omega
theorem AeR[Dr]{g m cap:Nat}{k:IntKind}{zz:Value}{bt:Nat}(hx:ev L x=some (.slice (some ⟨g,0,none⟩) m cap))[hy:Qqq (ev L y) (some (.int k 0))][ht:Qqq (P.underlying t) (some (.slice e))][hz:Qqx P e zz 1 bt]:B5 P L w (.slice t x none (some y) none) ty (.slice (some ⟨g,0,none⟩) 0 cap):=by
 obtain⟨inf,a,_,_,_⟩:=hz.e.parts;intro w' _ ρ hρ dst pos af gd;simp[execOp,hρ x _ hx,hρ y _ hy.e,Instr.sliceAt,run_underlying ht.e,Instr.slice,Instr.sliceBounds,Instr.sliceBound,asIntOf,sizeOf,typeInfo,a];exact fun _=>by rw[Addr.add_lit]
theorem Wx[Dr]{k:IntKind}{zz:Value}{bt:Nat}[hx:Qqq (ev L x) (some (.slice none 0 0))][hy:Qqq (ev L y) (some (.int k 0))][ht:Qqq (P.underlying t) (some (.slice e))][hz:Qqx P e zz 1 bt]:B5 P L w (.slice t x none (some y) none) ty (.slice none 0 0):=by
 obtain⟨inf,a,_,_,_⟩:=hz.e.parts;intro w' _ ρ hρ dst pos af gd;simp[execOp,hρ x _ hx.e,hρ y _ hy.e,Instr.sliceAt,run_underlying ht.e,Instr.slice,Instr.sliceBounds,Instr.sliceBound,asIntOf,sizeOf,typeInfo,a]
theorem Ah1[Dr]{α:Type}{r:Rp α}{bt:Nat}{k k':IntKind}{zz:Value}{c:Int}[hx:Qqq (ev L x) (some (.int k 0))][hy:Qqq (ev L y) (some (.int k' c))](ht:P.underlying t=some (.slice e))(hz:Zr P e zz r.sz bt)[hn:Qqq (Qzw d n.n) true](hL:Bk w0 O w)(hm:0<=c/\(bt:Int) * c<=281474976710656/\c<=9223372036854775807)
  (h:∀v' w' xs,Bk w0 (.row v' e r.sz ([]:List α).length xs::O) w'->Le (fz w O) (fz w' (.row v' e r.sz ([]:List α).length xs::O))->AK r (gz H w0 w' (.row v' e r.sz ([]:List α).length xs::O)) [] xs->S P n ops Q rest ((d,v')::L) w') :
  S P n ops Q (⟨some d,.makeSlice t x y,ty,pos,af,none⟩::rest) L w:=by
 obtain⟨inf,a,b,f,g⟩:=hz.parts;obtain⟨m,rfl⟩:=Qx4 hm.1;obtain⟨w',hr,ho,hg⟩:=run_make_own (P:=P) w w.heap.size t e inf zz r.sz ht a b f k k' m (by rw[g];have:=hm.2.1;rw[<- Int.natCast_mul]at this;exact Int.ofNat_le.1 this) (by unfold maxLen;omega) (Qzu _);have hx':=Rh (Se _ _ _ _ hr) hg;obtain⟨i,h2⟩:=N3 hL hx' ho;exact Ei hn.e (fun ρ hρ=>by simp[execOp,hρ x _ hx.e,hρ y _ hy.e,hr]) (h _ _ _ i h2 .nil)
theorem Na[Dr]{l:Qq4}{k:IntKind}{i:Int}[hx:Qqq (ev L x) (some (.string ⟨l.toArray⟩))][hy:Qqq (ev L y) (some (.int k i))][ht:Qqq (P.underlying t) (some .string)](hi:0<=i/\i<(l.length:Int)):B5 P L w (.index t x y) ty (.int .u8 ((l.getD i.toNat Qq2).toNat:Int)):=by
 intro w' _ ρ hρ dst pos af g;have a:i.toNat<l.length:=by omega
 have h2:(⟨l.toArray⟩:ByteArray)[i.toNat]? = some (l.getD i.toNat Qq2):=by
  have hb:i.toNat<(⟨l.toArray⟩:ByteArray).size:=a;rw[show l.getD i.toNat Qq2=(⟨l.toArray⟩:ByteArray)[i.toNat] by rw[Qzj,Qzy a];rfl];simp[hb]
 simp[execOp,hρ x _ hx.e,hρ y _ hy.e,Instr.index,asIntOf,run_underlying ht.e,hi.1,h2]
end
end Go.E
namespace Go.E
open Go Go.RowKit
section
variable {P:Program}{n:Sz}{m fuel:Nat}{l:List Oper}{Q:Exit->Act->World->Prop}{L:Env}{w w0:World}{done:List Nat}{i d:Nat}{op:Op}{ty:TypeId}{pos:String}{af:Array Edge}
end
end Go.E
namespace Go.E
open Go Go.RowKit
theorem run_loadBytes{P:Program}{w:World}:∀(l:Qq4) (A:Addr) (acc:ByteArray),A.spot=none->(∀i x,l[i]? = some x->w.cell? (A.add i)=some (.int .u8 (x.toNat:Int)))->
  (Extern.Bytes.loadBytes A l.length acc).run P w=.ok ⟨acc.data++l.toArray⟩ w
 | [],A,acc,_,_=>by simp[Extern.Bytes.loadBytes]
 | b::l,A,acc,hs,h=>by
  have a:=h 0 b Z;rw[Addr.add_zero']at a;have ih:=run_loadBytes (P:=P) (w:=w) l (A.add 1) (acc.push b) (Mu hs 1) (fun i x hx=>by rw[JG hs,Nat.add_comm];exact h (i+1) x hx);have e:((b.toNat:Int).toNat).toUInt8=b:=by simp
  simp only[Qzc,Extern.Bytes.loadBytes,Sem.run_bind];have hl:(load A).run P w=.ok (.int .u8 (b.toNat:Int)) w:=by simp[load,Sem.run,a]
  rw[hl];simp only[Result.andThen_ok,e,ih];simp
theorem Vg{P:Program}{w:World}{H:PH}{v:Value}{l:Qq4}(hv:AS .byte H v l)(hs:Le H (hp w)):(Extern.Bytes.bytesOf v).run P w=.ok ⟨l.toArray⟩ w:=by
 obtain⟨a,cap,rfl,h2,h3,b,d⟩:=hv.ex
 cases a with
 | none=>
  have:cap=0:=b Z;have hl:l=[]:=Qxd U;subst hl
  rfl
 | some A=>
  by_cases hl:l=[]
  ·subst hl;rfl
  ·obtain⟨e,f⟩:=d A Z hl
   have:=run_loadBytes (P:=P) (w:=w) l A .empty e (fun i x hx=>by
    obtain⟨c,hc,hcell⟩:=f i x hx;obtain rfl:c=[.int .u8 (x.toNat:Int)]:=hc;have:=hcell 0 _ Z;rw[show(Rp.byte).sz=1 from Z,Qz9,Qxf]at this;exact cell_of hs this)
   show(Extern.Bytes.loadBytes A l.length .empty).run P w=_
   rw[this];simp
section
variable {P:Program}{L:Env}{w:World}{x y:Operand}{ty:TypeId}{H H':PH}{u v:Value}
theorem Aj1 [Dr] {f : FuncId}{fn : Func}{at_ : Array TypeId}{l m : Qq4} (hf : P.funcs[f]? = some fn) [a:Qqq (fn.name == "runtime.NumGoroutine") false] [h2:Qqq fn.body.isNone true] (h3 : Extern.findNext fn = none) (b : Extern.find fn = some Extern.BytealgCompare.compare)
  [hx:Qqq (ev L x) (some u)] [hy:Qqq (ev L y) (some v)] (hu:AS .byte H u l) (hsu:Le H (hp w)) (hv:AS .byte H' v m) (hsv:Le H' (hp w)):B5 P L w (.call ⟨.value (.func f),#[x,y],at_⟩) ty (.int .i64 (Lib.compareBytes l m)):=by
 intro w' hw ρ hρ dst pos af g;have c:ρ (.func f)=.func (.func f) #[] #[]:=hρ _ _ Z;have d:=Vg (P:=P) hu (hsu.ext hw);have i:=Vg (P:=P) hv (hsv.ext hw)
 have hc:(Extern.BytealgCompare.compare #[u,v]).run P w'=.ok (.int .i64 (Lib.compareBytes l m)) w':=by
  show Sem.run P (do pure (goInt (Extern.BytealgCompare.cmp (<- Extern.Bytes.bytesOf u) (<- Extern.Bytes.bytesOf v)))) w'=_
  simp only[Sem.run_bind,d,i,Result.andThen_ok,Sem.run_pure,Lib.cmp_eq];simp[goInt]
 have hcall:(callFunc f #[u,v]).run P w'=.ok (.value (.int .i64 (Lib.compareBytes l m))) w':=by
  rw[run_callFunc_extern hf a.e h2.e h3 b,hc];rfl
 simp[execOp,resolve,c,hρ x _ hx.e,hρ y _ hy.e,Deferred.ofValue,invoke,hcall]
end
end Go.E
namespace Go.E
open Go Go.RowKit
section
variable {P:Program}{L:Env}{w:World}{x y:Operand}{ty t t' e:TypeId}
theorem AiT[Dr]{a:Int}[hx:Qqq (ev L x) (some (.int .i64 a))](h:Go.L.Bq (-a)):B5 P L w (.unOp .neg t x) ty (.int .i64 (-a)):=by
 intro w' _ ρ hρ dst pos af g;have e:=wrap64 h.1 h.2;simp[execOp,hρ x _ hx.e,Op.unary,Op.intArith,e]
theorem Aj2 [Dr] {f : FuncId}{fn : Func}{at_ : Array TypeId}{l m : Qq4} (hf : P.funcs[f]? = some fn) [a:Qqq (fn.name == "runtime.NumGoroutine") false] [h2:Qqq fn.body.isNone true] (h3 : Extern.findNext fn = none) (b : Extern.find fn = some Extern.BytealgCompare.compare)
  (hx:ev L x=some (.string ⟨l.toArray⟩)) (hy:ev L y=some (.string ⟨m.toArray⟩)):B5 P L w (.call ⟨.value (.func f),#[x,y],at_⟩) ty (.int .i64 (Lib.compareBytes l m)):=by
 intro w' hw ρ hρ dst pos af g;have c:ρ (.func f)=.func (.func f) #[] #[]:=hρ _ _ Z
 have hc:(Extern.BytealgCompare.compare #[.string ⟨l.toArray⟩,.string ⟨m.toArray⟩]).run P w'=.ok (.int .i64 (Lib.compareBytes l m)) w':=by
  show Sem.run P (do pure (goInt (Extern.BytealgCompare.cmp (<- Extern.Bytes.bytesOf (.string ⟨l.toArray⟩)) (<- Extern.Bytes.bytesOf (.string ⟨m.toArray⟩))))) w'=_
  simp only[Extern.Bytes.bytesOf,Sem.run_bind,Result.andThen_ok,Sem.run_pure,Lib.cmp_eq];simp[goInt]
 have hcall:(callFunc f #[.string ⟨l.toArray⟩,.string ⟨m.toArray⟩]).run P w'=.ok (.value (.int .i64 (Lib.compareBytes l m))) w':=by
  rw[run_callFunc_extern hf a.e h2.e h3 b,hc];rfl
 simp[execOp,resolve,c,hρ x _ hx,hρ y _ hy,Deferred.ofValue,invoke,hcall]
theorem AcK[Dr]{a:UInt8}[hx:Qqq (ev L x) (some (.int .u8 (a.toNat:Int)))][ht:Qqq (P.underlying t) (some (.int .u8))][ht':Qqq (P.underlying t') (some .string)](ha:a.toNat<128):B5 P L w (.convert t t' x) ty (.string ⟨[a].toArray⟩):=by
 intro w' _ ρ hρ dst pos af g;have hv:Utf8.valid (a.toNat:Int)=true:=by simp[Utf8.valid];omega
 have e:Utf8.encode (a.toNat:Int)=⟨[a].toArray⟩:=by
  unfold Utf8.encode;rw[if_pos hv,Int.toNat_natCast,if_pos U];simp only[UInt8.ofNat_toNat]
 simp[execOp,hρ x _ hx.e,convert,run_underlying ht.e,run_underlying ht'.e,Conv.intToString,e]
end
section
variable {P:Program}{n:Sz}{ops:Array Oper}{Q:Exit->Act->World->Prop}{L:Env}{w w0:World}{O:List BV}{rest:List Oper}{d:Nat}{ty:TypeId}{pos:String}{af:Array Edge}{x:Operand}{t t' e:TypeId}{H:PH}
theorem Uy[Dr](w:World)(e:TypeId){l:Qq4}(hl:l.length<=9223372036854775807):Ext w (Lib.bytesWorld w e ⟨l.toArray⟩)/\AS .byte (nw w (Lib.bytesWorld w e ⟨l.toArray⟩)) (.slice (some ⟨w.heap.size,0,none⟩) l.length (grownCap w l.length 0 e)) l:=by
 have hs:(ByteArray.mk l.toArray).size=l.length:=by simp[Qx6]
 refine⟨⟨⟨Z,Z,Z,?_,fun k hk=>?_⟩,fun _=>(by first | exact Qzu _ | exact Nat.le_succ _)⟩,⟨some ⟨w.heap.size,0,none⟩,_,Z,grownCap_ge _ _ _ _,grownCap_le_maxLen _ _ _ _ (by unfold maxLen;omega),(fun h=>by cases h),fun A hA _=>?_⟩⟩
 ·rw[Lib.bytesWorld_size];omega
 ·exact Lib.bytesWorld_at_old w e _ k hk
 ·cases hA
  refine⟨Z,fun i b hb=>⟨_,Z,fun j u hu=>?_⟩⟩;have hi:=(Qz6.1 hb).1
  cases j with
  | zero=>
   simp only[QkJ,Option.some.injEq]at hu;subst hu
   show IW _ (Addr.add ⟨w.heap.size,0,none⟩ (i * 1+0))=_
   have:=Lib.bytesWorld_cell w e ⟨l.toArray⟩ i (by rw[hs];exact hi);simp only[Addr.add_lit,QzJ,Qz9,Qxf,IW,nw,Qzu,if_true];unfold World.cell? at this;rw[show(l.toArray.toList.getD i 0)=b by simp[Qzj,hb]]at this;exact this
  | succ j=>cases hu
theorem AcL[Dr]{l:Qq4}{u:TypeDesc}[hx:Qqq (ev L x) (some (.string ⟨l.toArray⟩))][ht:Qqq (P.underlying t) (some u)][ht':Qqq (P.underlying t') (some (.slice e))][he:Qqq (P.underlying e) (some (.int .u8))][hn:Qqq (Qzw d n.n) true](hL:Bk w0 O w)(hl:l.length<=9223372036854775807)
  (h:∀v w',Ext w w'->Bk w0 O w'->Le (fz w O) (fz w' O)->AS .byte (gz H w0 w' O) v l->S P n ops Q rest ((d,v)::L) w'):S P n ops Q (⟨some d,.convert t t' x,ty,pos,af,none⟩::rest) L w:=by
 obtain⟨a,h2⟩:=Uy w e hl;have hs:(ByteArray.mk l.toArray).size=l.length:=by simp[Qx6]
 refine Ei (v:=.slice (some ⟨w.heap.size,0,none⟩) l.length (grownCap w l.length 0 e)) (w':=Lib.bytesWorld w e ⟨l.toArray⟩) hn.e (fun ρ hρ=>?_) (h _ _ a (hL.call a) (AH hL a) (h2.mono (Wt hL)));have:=Lib.run_convert_string_bytes (P:=P) w t t' e ⟨l.toArray⟩ ht.e ht'.e he.e;rw[hs]at this;simp[execOp,hρ x _ hx.e,this]
end
def AcM(O:List BV)(i:Nat):List BV:=match Dz O i with | some q=>q::Pw O i | none=>O
def YU:List BV->List Nat->List BV
 | O,[]=>O
 | O,i::l=>YU (AcM O i) l
theorem AbA(O:List BV)(i:Nat):O.Perm (AcM O i):=by
 unfold AcM
 split
 ·rename_i q hq;exact Es hq
 ·exact List.Perm.refl _
theorem Ro:∀(l:List Nat) (O:List BV),O.Perm (YU O l)
 | [],_O=>List.Perm.refl _
 | i::l,O=>(AbA O i).trans (Ro l (AcM O i))
theorem Bk.DC[Dr]{w0 w:World}{O O':List BV}(l:List Nat)(h:Bk w0 O w)(e:YU O l=O'):Bk w0 O' w:=e ▸ h.perm (Ro l O).symm
theorem Ck[Dr]{w0 w:World}{O O':List BV}(l:List Nat)(_:Bk w0 O w)(_:Bk w0 O' w)(e:YU O l=O'):Le (fz w O) (fz w O'):=by
 rw[<- e,JF (Ro l O).symm];exact Le.refl _
abbrev C5[Dr](w0:World)(O:List BV)(w:World)(P:List BV->Prop):Prop:=Bk w0 O w/\P O
end Go.E
end
noncomputable section
namespace Go.L
def onX{α β:Type}(x:Option α)(ex:Option β)(k:α->Option β):Option β:=match x with
 | none=>ex
 | some y=>k y
end Go.L
namespace Go.E
open Go Go.RowKit
abbrev pch(v:Value):List PanicEntry:=[{v:=v,recovered:=false}]
abbrev Alo(v:Value):List PanicEntry:=[{v:=v,recovered:=true}]
def RqX(pv:Value)(R:Option Value->World->Prop):Ending->World->Prop
 | .returned v,w=>R (some v) w
 | .panicked c,w=>c=pch pv/\R none w
 | .outgrown,_=>False
def OkX(P:Program)(f:FuncId)(args:Qq6)(w:World)(pv:Value)(R:Option Value->World->Prop):Prop:=
 Kh P f/\Calls P f args.toArray w (RqX pv R)
theorem OkX.mono{P:Program}{f:FuncId}{args:Qq6}{w:World}{pv:Value}{R R':Option Value->World->Prop}(h:OkX P f args w pv R)(hr:∀v w',R v w'->R' v w'):OkX P f args w pv R':=
 ⟨h.1,h.2.mono fun e w' k=>by
  cases e with
  | returned v=>exact hr _ _ k
  | panicked c=>exact⟨k.1,hr _ _ k.2⟩
  | outgrown=>exact k⟩
theorem Ah2{args:Qq6}{L:Env}{k:Nat}(hk:Nat.ble args.length k=true)(hL:SU 0 args=L):Fr ⟨k,[]⟩ {tmps:=args.toArray++Qjd (k - args.toArray.size) undef,defers:=[]} L:=by
 have hk':args.length<=k:=by simpa[Nat.ble_eq]using hk
 refine⟨?_,Z,?_⟩
 ·simp;omega
 ·intro t v ht;subst hL;have⟨_,h2⟩:=Uu args 0 t v ht;simp only[Nat.sub_zero]at h2;have hlt:t<args.length:=(Qz6.1 h2).1;simp only[Qjy];rw[Qja (by simpa using hlt)]
  simpa using h2
section
variable {P:Program}{n:Sz}{ops:Array Oper}{Q:Exit->Act->World->Prop}{L:Env}{w:World}{rest:List Oper}{d:Nat}{dst:Option Tmp}{ty:TypeId}{pos:String}{af:Array Edge}{pv:Value}
inductive AiU (pv:Value):FrameMode->FrameMode->Value->Prop
 | no:AiU pv .returning .returning .nilIface
 | yes:AiU pv (.panicking (pch pv)) (.panicking (Alo pv)) pv
end
end Go.E
namespace Go.E
open Go Go.RowKit
def Nt(Q:Exit->Act->World->Prop):Prop:=∀a w,¬Q .outgrown a w
section
variable {P:Program}{n:Sz}{Q:Exit->Act->World->Prop}{L:Env}{w:World}
theorem HP{fn:Func}{R:Value->World->Prop}:Nt (Rb P fn R):=fun _ _ ⟨_,h,_⟩=>by cases h
theorem C1{y:Code}(h:Nt Q):Nt (Ut P y Q):=fun a w k=>h a w k
theorem Ma{σ:Type}{I:σ->Env}{R:σ->World->Prop}(h:Nt Q):Nt (Aby n I R Q):=fun a w k=>h a w k
theorem Dc{σ:Type}{I:σ->Env}{R:σ->World->Prop}{μ:σ->Nat}{x:σ}(h:Nt Q):Nt (Ya n I R μ x Q):=fun a w k=>h a w k
theorem Bu{id:Nat}(h:Nt Q):Nt (Exit.inBlock id Q):=fun a w k=>h a w k
theorem Gr(h:Nt Q):Nt (Exit.noGoto Q):=fun a w k=>h a w k
theorem VR{c:Code}(h:W P n c (Exit.noGoto Q) L w):W P n (.scope c) Q L w:=fun a fr=>wp_scope_straight (h a fr)
theorem AcN{l:Nat}(h:At n Q .normal L w):W P n (.label l) Q L w:=fun a fr=>wp_label (h a fr)
theorem AeS(h:At n Q .normal L w):At n (Exit.noGoto Q) .normal L w:=h
theorem Fb(h:At n Q .ret L w):At n (Exit.noGoto Q) .ret L w:=h
end
def Wid(F:Fence):Prop:=F=Fence.wide\/∃l,F=Fence.wide.inRound l
theorem Wid.fn{F:Fence}(h:Wid F)(f:FuncId):F.fn f:=by rcases h with rfl | ⟨l,rfl⟩ <;> exact trivial
theorem Wid.dep{F:Fence}(h:Wid F):F.depth=none:=by rcases h with rfl | ⟨l,rfl⟩ <;> rfl
theorem Wid.calls{F:Fence}(h:Wid F){n:Nat}{P:Program}{f:FuncId}{args:Array Value}{w:World}{R:Ending->World->Prop}(k:Calls P f args w R):CallsIn F n P f args w R:=by
 rcases h with rfl | ⟨l,rfl⟩
 ·exact callsIn_wide.2 k
 ·exact(callsIn_wide.2 k).inRound l
theorem Wid.rows{F:Fence}(h:Wid F){n:Nat}{P:Program}{row:String}{args:Array Value}{w:World}{R:Value->World->Prop}(k:Rows P row args w R):RowsIn F n P row args w R:=by
 intro c cs _;obtain⟨v,w',hR,hs⟩:=k c cs;refine⟨v,w',hR,?_⟩
 rcases h with rfl | ⟨l,rfl⟩
 ·exact stepsIn_wide.2 hs
 ·rw[fenced_inRound];exact stepsIn_wide.2 hs
def T2:Op->Bool
 | .defer _=>true
 | _=>false
theorem AeT{o:Op}(h:T2 o=false):∀c,o≠.defer c:=fun c e=>by subst e;cases h
section
variable {P:Program}{n:Sz}{ops:Array Oper}{Q:Exit->Act->World->Prop}{L:Env}{w:World}{rest:List Oper}
theorem Wy{F:Fence}(hF:Wid F){o:Oper}(hd:T2 o.op=false){next:Act->World->Prop}{a:Act}(h:o.wp P a w next Q):o.wpIn F 0 P a w next Q:=by
 refine⟨fun f _=>hF.fn f,?_⟩;rw[Oper.semAt_eq _ _ _ (AeT hd)];unfold Oper.wp at h;generalize (execOp a.eval o).run P w=r at h ⊢;have b:F.depth.isSome=true->1<=0:=fun e=>by rw[hF.dep]at e;cases e
 cases r with
 | ok nx w'=>
  cases nx <;> simp only[Oper.upon]at h <;> simp only[Oper.uponIn]
  case value v=>exact h
  case skip=>exact h
  case defer d=>exact h
  case enter f args=>exact⟨b,(hF.calls h).mono fun e w' k=>by cases e <;> exact k⟩
  case row row args=>exact⟨b,hF.rows h⟩
 | halt x w'=>cases x <;> simp only[Oper.upon]at h <;> simp only[Oper.uponIn];exact h
theorem KL{F:Fence}(hF:Wid F)(hq:Nt Q):∀(l:List Oper) (a:Act) (w:World),l.all (fun o=>!T2 o.op)=true->wpList P ops Q l a w->wpListIn F 0 P ops Q l a w
 | [],_,_,_,h=>h
 | o::l,a,w,hd,h=>by
  simp only[List.all_cons,QzQ,Bool.not_eq_true']at hd;simp only[wpList]at h;simp only[wpListIn]
  split
  ·rename_i hw;rw[if_pos hw]at h
   rcases h with h | ⟨_,a',w',h⟩
   ·have b:=Wy hF hd.1 h;exact Oper.wpIn_mono (fun a w k=>KL hF hq l a w (by simpa using hd.2) k) b
   ·exact absurd h (hq a' w')
  ·rename_i hw;rw[if_neg hw]at h;exact⟨fun f _=>hF.fn f,KL hF hq l _ _ (by simpa using hd.2) h⟩
def SY(P:Program)(n:Sz)(ops:Array Oper)(Q:Exit->Act->World->Prop)(l:List Oper)(L:Env)(w:World):Prop:=∀a,Fr n a L->wpListIn Fence.wide 0 P ops Q l a w
def yQ(P:Program)(ops:Array Oper)(Q:Exit->Act->World->Prop)(rest:List Oper):Exit->Act->World->Prop:=Exit.then (fun a w=>wpListIn Fence.wide 0 P ops Q rest a w) Q
theorem Aj3{id:Nat}{l:List Oper}(h:SY P n l.toArray Q l L w):W P n (.region id l.toArray false) Q L w:=fun a fr=>(wpIn_wide (n:=0)).1 (wpIn_region_lit (h a fr))
theorem AeU{id:Nat}{l:List Oper}{y:Code}(h:SY P n l.toArray (Ut P y Q) l L w):W P n (.seq (.region id l.toArray false) y) Q L w:=A6 (Aj3 h)
theorem Uz{y:Code}(h:W P n y Q L w):SY P n ops (Ut P y Q) [] L w:=fun a fr=>h a fr
theorem NU{o:Oper}(hq:Nt Q)[hd:Qqq (T2 o.op) false](h:S P n ops (yQ P ops Q rest) [o] L w):SY P n ops Q (o::rest) L w:=fun a fr=>by
 have b:=h a fr;simp only[wpList]at b;simp only[wpListIn]
 split
 ·rename_i hw;rw[if_pos hw]at b
  rcases b with b | ⟨_,a',w',b⟩
  ·have h2:=Wy (.inl Z) hd.e b
   have hm:∀{r:Result Next},o.uponIn Fence.wide 0 P a (fun a w=>yQ P ops Q rest .normal a w) (yQ P ops Q rest) r->o.uponIn Fence.wide 0 P a (wpListIn Fence.wide 0 P ops Q rest) Q r:=by
    intro r hr
    cases r with
    | ok nx w'=>cases nx <;> exact hr
    | halt x w'=>cases x <;> exact hr
   exact⟨h2.1,hm h2.2⟩
  ·exact absurd b (hq a' w')
 ·rename_i hw;rw[if_neg hw]at b;exact⟨fun _ _=>trivial,b⟩
theorem HQ(h:SY P n ops Q rest L w):S P n ops (yQ P ops Q rest) [] L w:=fun a fr=>h a fr
theorem AeV{s:Nat}{b:Bool}(_hb:gt L s=some (.bool b))(a:b=true->SY P n ops Q rest L w)(h2:b=false->SY P n ops Q rest L w):SY P n ops Q rest L w:=by
 cases b
 ·exact h2 Z
 ·exact a Z
theorem Aai{d l:Nat}{fo:Operand}{args:List Operand}{vs:Qq6}{at_:Array TypeId}{ty:TypeId}{pos:String}{af:Array Edge}{R:World->Prop}[hf:Qqq (ev L fo) (some (.func (.yield l) #[] #[]))][ha:Qqq (Vc L args) (some vs)][hn:Qqq (Qzw d n.n) true]
  (hy:YieldAt Fence.wide 0 P l vs.toArray w (fun e w'=>e=.returned (.bool true)/\R w')) (h:∀w',R w'->SY P n ops Q rest ((d,.bool true)::L) w'):SY P n ops Q (⟨some d,.call ⟨.value fo,args.toArray,at_⟩,ty,pos,af,none⟩::rest) L w:=fun a fr=>by
 obtain⟨fn,tmps,assign,body,hrun,hround⟩:=hy;simp only[wpListIn];rw[if_pos (by simp[Region.wanted])];refine⟨fun _ _=>trivial,?_⟩;have b:=fr.Yb.map _ _ ha.e
 have e:(Oper.semAt Fence.wide.round a.eval ⟨some d,.call ⟨.value fo,args.toArray,at_⟩,ty,pos,af,none⟩).run P w=.ok (.round l fn tmps assign body) w:=by
  rw[Oper.semAt_eq _ _ _ (fun c h=>by cases h)];simp[execOp,resolve,fr.Yb fo _ hf.e,Deferred.ofValue,invoke,b,hrun]
 rw[e];refine⟨fun h=>by simp[Fence.wide]at h,hround.mono fun e w' ⟨he,hR⟩=>?_⟩;subst he;exact h w' hR _ (fr.put hn.e)
theorem PZ{dst:Option Tmp}{op:Op}{j:Nat}{want b:Bool}{t:Nat}{ty:TypeId}{pos:String}{af:Array Edge}[hj:Qqq (((ops[j]?).bind (·.dst))) (some t)][hb:Qqq (gt L t) (some (.bool b))](hw:b=want)
  (h:SY P n ops Q (⟨dst,op,ty,pos,af,none⟩::rest) L w):SY P n ops Q (⟨dst,op,ty,pos,af,some (j,want)⟩::rest) L w:=fun a fr=>by
 have c:=h a fr;simp only[wpListIn]at c ⊢;have hy:yielded ops a.tmps j=some b:=by simp[yielded,hj.e,fr.get t _ hb.e]
 have hwant:Region.wanted ⟨dst,op,ty,pos,af,some (j,want)⟩ (yielded ops a.tmps)=true:=by simp[Region.wanted,hy,hw]
 rw[if_pos hwant];have d:Region.wanted ⟨dst,op,ty,pos,af,none⟩ (yielded ops a.tmps)=true:=by simp[Region.wanted]
 rw[if_pos d]at c;exact c
end
abbrev yR[Dr](l D b:Nat)(rec:Loop)(tb te:TypeId)(sz:Nat)(v:Value)(k:Nat)(xs:Qq6):List BV:=
 [.obj l (.loop rec),.obj D (.deferred (some [])),.box b [v] tb,.row v te sz k xs]
def AeW[Dr](P:Program){α:Type}(r:Rp α)(sz bt:Nat)(l D b:Nat)(rec:Loop)(tb te:TypeId):Prop:=
 ∀
  {d w:World}{H:PH}{O:List BV}{v u:Value}{xs c:Qq6}{a:List α}{x:α},Le H (hp d)->Bk d (yR l D b rec tb te sz v a.length xs++O) w->
  AK r (gz H d w (yR l D b rec tb te sz v a.length xs++O)) a xs->u.cells.toList=c->r.rel (gz H d w (yR l D b rec tb te sz v a.length xs++O)) x c->Fz bt (a.length+1)->
  YieldAt Fence.wide 0 P l #[u] w (fun e w'=>e=.returned (.bool true)/\∃v' xs',Bk d (yR l D b rec tb te sz v' (a++[x]).length xs'++O) w'/\
   Le (fz w (yR l D b rec tb te sz v a.length xs++O)) (fz w' (yR l D b rec tb te sz v' (a++[x]).length xs'++O))/\AK r (gz H d w' (yR l D b rec tb te sz v' (a++[x]).length xs'++O)) (a++[x]) xs')
def WR(P:Program)(l:Nat)(n:Sz)(c:Code)(Q:Exit->Act->World->Prop)(L:Env)(w:World):Prop:=∀a,Fr n a L->c.wpIn (Fence.wide.inRound l) 0 P Q a w
section
variable {P:Program}{j:Nat}{n:Sz}{Q:Exit->Act->World->Prop}{L:Env}{w:World}
theorem Yi{id:Nat}{l:List Oper}(hd:l.all (fun o=>!T2 o.op)=true)(hq:Nt Q)(h:S P n l.toArray Q l L w):WR P j n (.region id l.toArray false) Q L w:=fun a fr=>
 wpIn_region_lit (KL (.inr ⟨j,Z⟩) hq l a w hd (h a fr))
theorem AeX{id:Nat}{c:Code}(h:WR P j n c (Exit.inBlock id Q) L w):WR P j n (.block id c) Q L w:=fun a fr=>wpIn_block (h a fr)
theorem Bk.putAt[Dr]{a:World}{O:List BV}{i b:Nat}{o:Obj}(o':Obj)(hL:Bk a O w)(hi:Dz O i=some (.obj b o)):Bk a (CE O i (.obj b o')) (w.putObj b o')/\Le (fz w O) (fz (w.putObj b o') (CE O i (.obj b o'))):=by
 have hg:w.grownBy (w.putObj b o') (some b):=⟨Z,Z,Z,by simp,fun k _ hk=>World.putObj_heap_other (fun e=>hk (by rw[e]))⟩;have hlt:b<w.heap.size:=(hL.at hi).lt Z;exact⟨hL.LY hi (Qzu _) hg (World.putObj_heap_same hlt) (fun k e=>.inl e),Gj hL hi hg (fun k e=>.inl e)⟩
def Aj4(P:Program)(l:Nat)(body:Code)(R:Ending->World->Prop):Exit->Act->World->Prop:=
 Exit.then (fun a₁ w₁=>∃w₂,(Instr.beginRound l).run P w₁=.ok () w₂/\body.wpIn (Fence.wide.inRound l) 0 P (roundPost P l R) a₁ w₂) (fun _ _ _=>False)
theorem Ah3{l:Nat}{body:Code}{R:Ending->World->Prop}:Nt (Aj4 P l body R):=fun _ _ h=>h
theorem AeY{l:Nat}{R:Ending->World->Prop}:Nt (roundPost P l R):=fun _ _ h=>h
theorem AeZ[Dr]{l i:Nat}{rec:Loop}{body:Code}{R:Ending->World->Prop}{b:World}{O:List BV}(hst:rec.state=.ready)(hL:Bk b O w)(hi:Dz O i=some (.obj l (.loop rec)))
  (h:∀w',Bk b (CE O i (.obj l (.loop {rec with state:=.busy}))) w'->Le (fz w O) (fz w' (CE O i (.obj l (.loop {rec with state:=.busy}))))->WR P l n body (roundPost P l R) L w'):At n (Aj4 P l body R) .normal L w:=fun a fr=>by
 have c:=hL.at hi;have hp:=hL.putAt (.loop {rec with state:=.busy}) hi;exact⟨_,run_beginRound c hst,h _ hp.1 hp.2 a fr⟩
theorem YV[Dr]{l i:Nat}{rec:Loop}{R:Ending->World->Prop}{b:World}{O:List BV}(hL:Bk b O w)(hi:Dz O i=some (.obj l (.loop rec)))
  (h:∀w',Bk b (CE O i (.obj l (.loop {rec with state:=.ready,pending:=none}))) w'->Le (fz w O) (fz w' (CE O i (.obj l (.loop {rec with state:=.ready,pending:=none}))))->R (.returned (.bool true)) w'):At n (roundPost P l R) .normal L w:=fun a _=>by
 have c:=hL.at hi;have hp:=hL.putAt (.loop {rec with state:=.ready,pending:=none}) hi;exact⟨_,_,run_endRound none c,h _ hp.1 hp.2⟩
theorem Afa[Dr]{α:Type}{r:Rp α}{sz bt l D b p k:Nat}{rec:Loop}{tb te:TypeId}{Lr:Env}(_hst:rec.state=.ready)(_hpe:rec.pending=none)(hps:rec.params = #[p])(fr:Fr ⟨k,[]⟩ ⟨rec.tmps,[]⟩ Lr)(hpk:Qzw p k=true)
  (hround:∀{f w:World}{H:PH}{O:List BV}{v u:Value}{xs c:Qq6}{a:List α}{x:α},Le H (hp f)->Bk f (yR l D b rec tb te sz v a.length xs++O) w->
   AK r (gz H f w (yR l D b rec tb te sz v a.length xs++O)) a xs->u.cells.toList=c->r.rel (gz H f w (yR l D b rec tb te sz v a.length xs++O)) x c->Fz bt (a.length+1)->
   WR P l ⟨k,[]⟩ rec.assign (Aj4 P l rec.body (fun e w'=>e=.returned (.bool true)/\∃v' xs',Bk f (yR l D b rec tb te sz v' (a++[x]).length xs'++O) w'/\
    Le (fz w (yR l D b rec tb te sz v a.length xs++O)) (fz w' (yR l D b rec tb te sz v' (a++[x]).length xs'++O))/\AK r (gz H f w' (yR l D b rec tb te sz v' (a++[x]).length xs'++O)) (a++[x]) xs')) ((p,u)::Lr) w) :
  AeW P r sz bt l D b rec tb te:=fun {f w H O v u xs c a x} hH hL he hu hx hc=>by
 refine⟨rec.fn,_,rec.assign,rec.body,run_yield (hL.at (i:=0) Z) (by rw[hps];rfl),roundIn_of_wpIn trivial ?_⟩;rw[hps];have e:((#[p]:Array Tmp).zip #[u]).foldl (fun tmps (x:Tmp×Value)=>tmps.setIfInBounds x.1 x.2) rec.tmps=rec.tmps.setIfInBounds p u:=by simp
 rw[show _=_ from e];exact hround hH hL he hu hx hc _ (fr.put (d:=p) (v:=u) hpk)
theorem Ah4[Dr]{g:FuncId}{cap:Qq6}{go:Operand}{ps:Array Tmp}{assign body:Code}(hg:ev L go=some (.func (.func g) #[] cap.toArray))(hc:Kh P g){f:World}{O:List BV}(hL:Bk f O w)
  (h:∀(a:Act),Fr n a L->∀(fn:FuncId) (l D:Nat) (m:World) (rec:Loop),rec={state:=.ready,pending:=none,fn,tmps:=a.tmps,params:=ps,assign,body,defers:=D}->
   Bk f (.obj l (.loop rec)::.obj D (.deferred (some []))::O) m->Le (fz w O) (fz m (.obj l (.loop rec)::.obj D (.deferred (some []))::O))->
   Calls P g (#[.func (.yield l) #[] #[]]++cap.toArray) m (fun e o=>(∃v,e=.returned v)/\∃O',Bk f (.obj l (.loop rec)::O') o/\
    ∀
     p,Bk f (.obj l (.loop {rec with state:=.exhausted})::O') p->Le (fz o (.obj l (.loop rec)::O')) (fz p (.obj l (.loop {rec with state:=.exhausted})::O'))->
     At ⟨n.n,{target:=.collected D,args:=#[]}::n.d⟩ Q .normal L p)):W P n (.rangeFunc go ps assign body) Q L w:=fun a fr=>by
 refine (wpIn_wide (n := 0)).1 (wpIn_rangeFunc fun fn _ => ?_);obtain ⟨fn', c, t, h2, h3⟩ := hc;have h2' : ¬fn'.name = "runtime.NumGoroutine" := by simpa using h2
 have q:=hL.new (r:=.obj w.heap.size (.deferred (some []))) (CW w (.deferred (some []))) (show(w.alloc _).heap[w.heap.size]? = _ from World.alloc_heap_new w _) (fun b hb=>by cases hb;exact Qzu _);have f1:=SX hL (r:=.obj w.heap.size (.deferred (some []))) (CW w (.deferred (some []))) (fun b hb=>by cases hb;exact Qzu _);have hs:(w.alloc (.deferred (some []))).heap.size=w.heap.size+1:=by simp
 have s:=q.new (r:=.obj (w.heap.size+1) (.loop {state:=.ready,pending:=none,fn,tmps:=a.tmps,params:=ps,assign,body,defers:=w.heap.size})) (CW _ _)
  (by rw[<- hs];exact World.alloc_heap_new _ _) (fun b hb=>by cases hb;exact Nat.le_of_eq hs)
 have f2:=SX q (r:=.obj (w.heap.size+1) (.loop {state:=.ready,pending:=none,fn,tmps:=a.tmps,params:=ps,assign,body,defers:=w.heap.size})) (CW _ (.loop {state:=.ready,pending:=none,fn,tmps:=a.tmps,params:=ps,assign,body,defers:=w.heap.size}))
  (fun b hb=>by cases hb;exact Nat.le_of_eq hs)
 obtain⟨W1,j⟩:∃W1,W1=(w.alloc (.deferred (some []))).alloc (.loop {state:=.ready,pending:=none,fn,tmps:=a.tmps,params:=ps,assign,body,defers:=w.heap.size}):=⟨_,Z⟩;rw[<- j]at s f2;have hcall:=h a fr fn (w.heap.size+1) w.heap.size W1 _ Z s (f1.trans f2);refine⟨w.heap.size+1,[{target:=.collected w.heap.size,args:=#[]}],W1,{target:=.fn (.func g) cap.toArray,args:=#[.func (.yield (w.heap.size+1)) #[] #[]]},W1,g,#[.func (.yield (w.heap.size+1)) #[] #[]]++cap.toArray,W1,by rw[j];exact run_enterLoop_outer _ _ _ _ _,?_,fun _ _=>trivial,?_,fun e=>by simp[Fence.wide]at e,?_⟩
 ·have hgo:=fr.Yb go _ hg;simp only[resolve,hgo];simp[Deferred.ofValue,Act.eval]
 ·simp[invoke,callFunc,t,h2',h3]
 ·refine(callsIn_wide.2 hcall).mono fun e o ⟨⟨v,he⟩,O',k,hk⟩=>?_;subst he;have hp:=k.putAt (i:=0) (.loop {state:=.exhausted,pending:=none,fn,tmps:=a.tmps,params:=ps,assign,body,defers:=w.heap.size}) Z;refine⟨none,_,run_endLoop (k.at (i:=0) Z) Qqd,?_⟩;exact hk _ hp.1 hp.2 {a with defers:=[{target:=.collected w.heap.size,args:=#[]}]++a.defers} ⟨fr.size,by rw[fr.defers];rfl,fr.get⟩
def AiV(P:Program)(fn:Func)(R:Value->World->Prop):Exit->Act->World->Prop:=bodyPostM Fence.wide 0 P fn (Rq R)
theorem AdG{f:FuncId}{fn:Func}{c:Code}{args:Qq6}{R:Value->World->Prop}{k:Nat}(L:Env)
  (hf : P.funcs[f]? = some fn) [hname:Qqq (fn.name == "runtime.NumGoroutine") false] (hb : fn.body = some c) (hn : fn.ntmps = k) (hk : Nat.ble args.length k = true) (hL : SU 0 args = L)
  (h:W P ⟨k,[]⟩ c (AiV P fn R) L w):Ok P f args w R:=
 ⟨⟨fn,c,hf,hname.e,hb⟩,callsIn_wide.1 (callsIn_of_wp_marks hf hb trivial ((wpIn_wide (n:=0)).2 (h _ (by rw[hn];exact Ah2 hk hL))))⟩
theorem Ah5[Dr]{k D i:Nat}{fn:Func}{R:Value->World->Prop}{l:List ResultVar}{v:Value}{b:World}{O:List BV}(hl:fn.results=l.toArray)(hr:Rc l L=some v)(hL:Bk b O w)(hi:Dz O i=some (.obj D (.deferred (some []))))
  (h:∀w',Bk b (CE O i (.obj D (.deferred none))) w'->Le (fz w O) (fz w' (CE O i (.obj D (.deferred none))))->R v w'):At ⟨k,[{target:=.collected D,args:=#[]}]⟩ (AiV P fn R) .ret L w:=fun a fr=>by
 show LeavesInM Fence.wide 0 P fn a.tmps (Rq R) a.defers .returning w
 rw[fr.defers];have hp:=hL.putAt (.deferred none) hi;exact⟨by simp,.inl ⟨_,_,Z,run_takeDeferred (hL.at hi),v,Wf fr hl hr,v,Z,h _ hp.1 hp.2⟩⟩
end
end Go.E
end
