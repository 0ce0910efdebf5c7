/- Texts of a claim, merged. -/
import Derived.Test.YtekmbcbgknmhiaaGreatDoorLn1
import Derived.Recover
import Derived.RangeFuncSeq
import Derived.RangeFuncLeaves
import Derived.RangeFuncCalls
import Derived.OrdersIn
import Derived.Scope
import Derived.Lib.Builder
import Derived.Lib.UnsafeStr
import Derived.Lib.OthersKept
import Derived.Lib.SliceRun
import Derived.Test.YtekmbcbgknmhiaaGreatDoorRows
import Derived.KernelRfl
import Derived.Shelf.Strings.FuncGrows
open _root_.Go.Proofs.Tryz renaming underlying22→Adb,underlying23→Af7,underlying58→AhD,underlying26→Aj3,underlying142→Ajw,underlying28→Ajx,underlying64→Ajy
open Option renaming bind->Qq4,bind_some->Qq5,map->Qq7,map_some->QkK
open Int renaming toNat_natCast->Qq8,eq_ofNat_of_zero_le->QxJ,toNat_of_nonneg->QxB
open Prod renaming fst->Qq6
open List renaming replicate->Qzz,length_map->Qzk,length_cons->Qzj,range->Qzv,getElem?_eq_some_iff->QzD,eq_nil_of_length_eq_zero->Qz9,length_nil->Qze,length_take->QzK,take_of_length_le->Qxk,map_cons->Qzd,append_nil->QzX,mem_range->Qz7,nil_append->Qxz,cons_append->QxZ,append_assoc->Qxd,map_congr_left->Qkq,all_cons->QxE,all_eq_true->Qx9,map_map->Qx0
open Nat renaming le_refl->Qzx,blt->Qq9,zero_add->Qzc,mul_one->Qz4,add_zero->Qxx,lt_or_ge->Qxw,beq->Qxa,lt_succ_iff_lt_or_eq->Qjk
open HAppend renaming hAppend->Qza
open Bool renaming and_eq_true->Qzb,false_eq_true->QzB,eq_iff_iff->Qz3,or_eq_true->Qxq,not_false->Qkb,not_eq_true'->QkX
open Array renaming getD_eq_getD_getElem?->Qx5,replicate->Qky,getElem?_eq_none->Qk1,getElem?_append_left->Qk9
open ByteArray renaming size->Qxc
open BitVec renaming ofInt->Qxb
set_option linter.unusedVariables false
set_option linter.unusedSimpArgs false
set_option linter.unusedSectionVars false
noncomputable section
namespace Go.L
def ZS{α β:Type}(x:Option α)(ex:Option β)(k:α->Option β):Option β:=match x with
 | none=>ex
 | some y=>k y
theorem KH{α β:Type}{ex:Option β}{k:α->Option β}{e:β}(h:ZS none ex k=some e):ex=some e:=h
theorem KI{α β:Type}{y:α}{ex:Option β}{k:α->Option β}{e:β}(h:ZS (some y) ex k=some e):k y=some e:=h
end Go.L
namespace Go.E
open Go Go.RowKit
def YK{α:Type}(r:Option α)(v:Option Value)(R:α->Value->Prop)(N:Prop):Prop:=match r,v with
 | none,none=>N
 | some x,some u=>R x u
 | _,_=>False
theorem KJ{α:Type}{x:α}{u:Value}{R:α->Value->Prop}{N:Prop}(h:R x u):YK (some x) (some u) R N:=h
theorem LK{α:Type}{R:α->Value->Prop}{N:Prop}(h:N):YK none none R N:=h
abbrev pch(v:Value):List PanicEntry:=[{v:=v,recovered:=false}]
abbrev Ach(v:Value):List PanicEntry:=[{v:=v,recovered:=true}]
def RqX(pv:Value)(R:Option Value->World->Prop):Ending->World->Prop
 | .returned v,w=>R (some v) w
 | .panicked c,w=>c=pch pv/\R none w
 | .outgrown,_=>False
def WI(P:Program)(f:FuncId)(args:List Value)(w:World)(pv:Value)(R:Option Value->World->Prop):Prop:=
 JM P f/\Calls P f args.toArray w (RqX pv R)
theorem WI.mono{P:Program}{f:FuncId}{args:List Value}{w:World}{pv:Value}{R R':Option Value->World->Prop}(h:WI P f args w pv R)(hr:∀ v w',R v w'->R' v w'):WI P f args w pv R':=
 ⟨h.1,h.2.mono fun e w' k=>by
  cases e with
  | returned v=>exact hr _ _ k
  | panicked c=>exact⟨k.1,hr _ _ k.2⟩
  | outgrown=>exact k⟩
def Abl(P:Program)(fn:Func)(pv:Value)(R:Option Value->World->Prop):Exit->Act->World->Prop:=bodyPost P fn (RqX pv R)
def Abm(P:Program)(fn:Func)(R:Value->World->Prop):Exit->Act->World->Prop:=bodyPostD P fn (Rq R)
theorem U2{args:List Value}{L:Env}{k:Nat}(hk:Nat.ble args.length k=true)(hL:O6 0 args=L):Fr ⟨k,[]⟩ {tmps:=args.toArray++Qky (k - args.toArray.size) undef,defers:=[]} L:=by
 have hk':args.length<=k:=by simpa [Nat.ble_eq] using hk
 refine⟨?_,Z,?_⟩
 ·simp;omega
 ·intro t v ht;subst hL;have⟨_,h2⟩:=Th args 0 t v ht;simp only [Nat.sub_zero] at h2;have hlt:t<args.length:=(QzD.1 h2).1;simp only [List.size_toArray];rw [Qk9 (by simpa using hlt)]
  simpa using h2
theorem NH{P:Program}{f:FuncId}{fn:Func}{c:Code}{args:List Value}{w:World}{pv:Value}{R:Option Value->World->Prop}(n:Nat)(L:Env)
  (hf : P.funcs[f]? = some fn) (hname : (fn.name == "runtime.NumGoroutine") = false) (hb : fn.body = some c) (hn : fn.ntmps = n) (hk : Nat.ble args.length n = true) (hL : O6 0 args = L)
  (h:W P ⟨n,[]⟩ c (Abl P fn pv R) L w):WI P f args w pv R:=
 ⟨⟨fn,c,hf,hname,hb⟩,calls_of_wp hf hb (h _ (by rw [hn];exact U2 hk hL))⟩
theorem Aci{P:Program}{f:FuncId}{fn:Func}{c:Code}{args:List Value}{w:World}{R:Value->World->Prop}{n:Nat}(L:Env)
  (hf : P.funcs[f]? = some fn) [hname:Qqq (fn.name == "runtime.NumGoroutine") false] (hb : fn.body = some c) (hn : fn.ntmps = n) (hk : Nat.ble args.length n = true) (hL : O6 0 args = L)
  (h:W P ⟨n,[]⟩ c (Abm P fn R) L w):Ok P f args w R:=
 ⟨⟨fn,c,hf,hname.e,hb⟩,calls_of_wp_defers hf hb (h _ (by rw [hn];exact U2 hk hL))⟩
section
variable {P:Program} {n:Sz} {ops:Array Oper} {Q:Exit->Act->World->Prop} {L:Env} {w:World} {rest:List Oper} {d:Nat} {dst:Option Tmp} {ty:TypeId} {pos:String} {af:Array Edge} {pv:Value}
theorem AfU{x:Operand}{t:TypeId}{u:Value}[hx:Qqq (ev L x) (some pv)][hp:Qqq pv (.iface t u)](h:At n Q (.panic (pch pv)) L w):S P n ops Q (⟨dst,.panic x,ty,pos,af,none⟩::rest) L w:=have hp:=hp.e;
 Sn Z fun a fr=>by
  unfold Oper.wp
  have e:(execOp a.eval ⟨dst,.panic x,ty,pos,af,none⟩).run P w=.halt (.panic pv) w:=by
   subst hp;simp [execOp,fr.TR x _ hx.e,Instr.panic,goPanic]
  rw [e];exact h a fr
theorem AfV{f:FuncId}{args:List Operand}{vs:List Value}{at_:Array TypeId}{R:Option Value->World->Prop}(ha:Sk L args=some vs)(hn:Qq9 d n.n=true)(hok:WI P f vs w pv R)
  (b:∀ w',R none w'->At n Q (.panic (pch pv)) L w') (h:∀ v w',R (some v) w'->S P n ops Q rest ((d,v)::L) w'):S P n ops Q (⟨some d,.call ⟨.value (.func f),args.toArray,at_⟩,ty,pos,af,none⟩::rest) L w:=
 Sn Z fun a fr=>by
  unfold Oper.wp;rw [LH hok.1 ha _ fr.TR];refine hok.2.mono fun e w' k=>?_
  cases e with
  | returned v=>exact h v w' k _ (fr.put hn)
  | panicked c=>obtain⟨rfl,k⟩:=k;exact b w' k a fr
  | outgrown=>exact k.elim
theorem OP{α:Type}{r:Option α}{f:FuncId}{args:List Operand}{vs:List Value}{at_:Array TypeId}{R:World->α->Value->Prop}{N:World->Prop}[ha:Qqq (Sk L args) (some vs)][hn:Qqq (Qq9 d n.n) true]
  (hok:WI P f vs w pv (fun v w'=>YK r v (R w') (N w'))) (a:r=none->∀ w',N w'->At n Q (.panic (pch pv)) L w')
  (h:∀ y,r=some y->∀ v w',R w' y v->S P n ops Q rest ((d,v)::L) w'):S P n ops Q (⟨some d,.call ⟨.value (.func f),args.toArray,at_⟩,ty,pos,af,none⟩::rest) L w:=
 AfV ha.e hn.e hok (fun w' hr=>by
  cases r with
  | none=>exact a Z w' hr
  | some y=>exact hr.elim) (fun v w' hr=>by
  cases r with
  | none=>exact hr.elim
  | some y=>exact h y Z v w' hr)
theorem Ft{y:Code}{c:List PanicEntry}(h:At n Q (.panic c) L w):At n (Sl P y Q) (.panic c) L w:=h
theorem Pz{σ:Type}{I:σ->Env}{R:σ->World->Prop}{c:List PanicEntry}(h:At n Q (.panic c) L w):At n (Y0 n I R Q) (.panic c) L w:=h
theorem RA{σ:Type}{I:σ->Env}{R:σ->World->Prop}{μ:σ->Nat}{a:σ}{c:List PanicEntry}(h:At n Q (.panic c) L w):At n (UG n I R μ a Q) (.panic c) L w:=h
theorem HL{id:Nat}{c:List PanicEntry}(h:At n Q (.panic c) L w):At n (Exit.inBlock id Q) (.panic c) L w:=h
theorem N3{k:Nat}{fn:Func}{R:Option Value->World->Prop}(h:At ⟨k,[]⟩ (NK P fn (fun v w=>R (some v) w)) .ret L w):At ⟨k,[]⟩ (Abl P fn pv R) .ret L w:=fun a fr=>by
 obtain⟨b,v,h2,u,h3,c⟩:=h a fr
 cases h3
 exact⟨b,_,h2,c⟩
theorem AfW{k:Nat}{fn:Func}{R:Option Value->World->Prop}(h:At ⟨k,[]⟩ (NK P fn (fun v w=>R (some v) w)) .normal L w):At ⟨k,[]⟩ (Abl P fn pv R) .normal L w:=fun a fr=>by
 obtain⟨b,v,h2,u,h3,c⟩:=h a fr
 cases h3
 exact⟨b,_,h2,c⟩
theorem N4{k:Nat}{fn:Func}{R:Option Value->World->Prop}(h:R none w):At ⟨k,[]⟩ (Abl P fn pv R) (.panic (pch pv)) L w:=fun _ fr=>⟨fr.defers,Z,h⟩
def Abn:TypeDesc->Bool
 | .interface _=>false
 | _=>true
theorem AiM[Dr]{t t':TypeId}{x:Operand}{v:Value}{w:World}{dd:TypeDesc}(hx:ev L x=some v)(ht:P.underlying t=some dd)(hd:Abn dd=true):BG P L w (.makeInterface t x) t' (.iface t v):=fun w' _ ρ hρ dst pos af g=>by
 cases dd <;> simp [Abn] at hd <;> simp [execOp,hρ x _ hx,Instr.makeInterface,run_underlying ht]
theorem Ahx{t:TypeId}{ms:Array (String×TypeId)}{w:World}(ht:P.underlying t=some (.interface ms))(x:Value)(hx:x=.nilIface\/∃ u v,x=.iface u v):(Op.equal t x .nilIface).run P w=.ok (match x with | .nilIface=>true | _=>false) w:=by
 unfold Op.equal;obtain⟨d,hd⟩:∃ d,Op.maxDepth=d+1:=⟨9999,Z⟩;rw [hd]
 rcases hx with rfl | ⟨u,v,rfl⟩ <;> simp [Op.equalIn,run_underlying ht]
theorem Ahy[Dr]{t t':TypeId}{x:Operand}{u:TypeId}{v:Value}{w:World}{ms:Array (String×TypeId)}[hx:Qqq (ev L x) (some (.iface u v))][ht:Qqq (P.underlying t) (some (.interface ms))]:BG P L w (.binOp .neq t x (.const .nilIface) t') ty (.bool true):=fun w' _ ρ hρ dst pos af g=>by
 have hy:ρ (.const .nilIface)=.nilIface:=hρ _ _ Z;simp [execOp,hρ x _ hx.e,hy,eqGuard,binOp,Ahx ht.e (.iface u v) (.inr ⟨u,v,Z⟩)]
theorem AiN[Dr]{t t':TypeId}{x:Operand}{w:World}{ms:Array (String×TypeId)}[hx:Qqq (ev L x) (some .nilIface)][ht:Qqq (P.underlying t) (some (.interface ms))]:BG P L w (.binOp .neq t x (.const .nilIface) t') ty (.bool false):=fun w' _ ρ hρ dst pos af g=>by
 have hy:ρ (.const .nilIface)=.nilIface:=hρ _ _ Z;simp [execOp,hρ x _ hx.e,hy,eqGuard,binOp,Ahx ht.e .nilIface (.inl Z)]
abbrev dfr(g:FuncId)(cap:List Value):Deferred:={target:=.fn (.func g) cap.toArray,args:=#[]}
theorem AfX{k:Nat}{ds:List Deferred}{g:FuncId}{cap:List Value}{fo:Operand}(hf:ev L fo=some (.func (.func g) #[] cap.toArray))(h:S P ⟨k,dfr g cap::ds⟩ ops Q rest L w):
  S P ⟨k,ds⟩ ops Q (⟨none,.defer ⟨.value fo,#[],#[]⟩,ty,pos,af,none⟩::rest) L w:=
 Sn Z fun a fr=>by
  unfold Oper.wp
  have e:(execOp a.eval ⟨none,.defer ⟨.value fo,#[],#[]⟩,ty,pos,af,none⟩).run P w=.ok (.defer (dfr g cap)) w:=by
   simp [execOp,resolve,fr.TR fo _ hf,Deferred.ofValue]
  rw [e];refine h _ ⟨fr.size,?_,fr.get⟩
  show dfr g cap::a.defers=_
  rw [fr.defers]
def OkF(P:Program)(g:FuncId)(cap:List Value)(u u':FrameMode)(w:World)(R:World->Prop):Prop:=
 JM P g/\CallsD P g cap.toArray u w (fun e a w'=>(∃ v,e=.returned v)/\a=u'/\R w')
theorem Ve{fn:Func}{tmps:Array Value}{R:Ending->World->Prop}{g:FuncId}{cap:List Value}{u u':FrameMode}{Rd:World->Prop}(hu:u≠.run)(hs:settle u'=.returning)(h:OkF P g cap u u' w Rd)
  (hr:∀ w',Rd w'->∃ v,(results fn tmps).run P w'=.ok v w'/\R (.returned v) w'):Leaves P fn tmps R [dfr g cap] u w:=by
 obtain ⟨fn', c, b, h2, h3⟩ := h.1;have h2' : ¬ fn'.name = "runtime.NumGoroutine" := by simpa using h2
 refine leaves_cons (f:=g) (args:=cap.toArray) hu (by simp [invoke,callFunc,b,h2',h3]) (h.2.mono fun e d w' ⟨⟨v,he⟩,a,hR⟩=>?_);subst he;subst a;simp only [hs,Leaves];exact hr w' hR
theorem AfY{k:Nat}{fn:Func}{R:Value->World->Prop}{g:FuncId}{cap:List Value}{Rd:World->Prop}(h:OkF P g cap .returning .returning w Rd)
  (hr:∀ w',Rd w'->∀ a,Fr ⟨k,[dfr g cap]⟩ a L->∃ v,(results fn a.tmps).run P w'=.ok v w'/\R v w'):At ⟨k,[dfr g cap]⟩ (Abm P fn R) .ret L w:=fun a fr=>by
 show Leaves P fn a.tmps (Rq R) a.defers .returning w
 rw [fr.defers];exact Ve Qqd Z h fun w' hR=>by obtain⟨v,b,h2⟩:=hr w' hR a fr;exact⟨v,b,v,Z,h2⟩
theorem Abo{k:Nat}{fn:Func}{R:Value->World->Prop}{g:FuncId}{cap:List Value}{Rd:World->Prop}(h:OkF P g cap (.panicking (pch pv)) (.panicking (Ach pv)) w Rd)
  (hr:∀ w',Rd w'->∀ a,Fr ⟨k,[dfr g cap]⟩ a L->∃ v,(results fn a.tmps).run P w'=.ok v w'/\R v w'):At ⟨k,[dfr g cap]⟩ (Abm P fn R) (.panic (pch pv)) L w:=fun a fr=>by
 show Leaves P fn a.tmps (Rq R) a.defers (.panicking (pch pv)) w
 rw [fr.defers];exact Ve Qqd Z h fun w' hR=>by obtain⟨v,b,h2⟩:=hr w' hR a fr;exact⟨v,b,v,Z,h2⟩
theorem Ad1{k:Nat}{fn:Func}{R:Value->World->Prop}(h:At ⟨k,[]⟩ (NK P fn R) .ret L w):At ⟨k,[]⟩ (Abm P fn R) .ret L w:=fun a fr=>by
 obtain⟨b,v,h2,h3⟩:=h a fr
 show Leaves P fn a.tmps (Rq R) a.defers .returning w
 rw [fr.defers];exact⟨v,h2,h3⟩
theorem Vf{fn:Func}{q q':ResultVar}{v v':Value}{a:Act}(hl:fn.results = #[q,q'])(h:Got P L w q v)(h':Got P L w q' v')(fr:Fr n a L):(results fn a.tmps).run P w=.ok (.tuple #[v,v']) w:=by
 rw [Px,hl];simp [h.run fr,h'.run fr]
inductive Ad2 (pv:Value):FrameMode->FrameMode->Value->Prop
 | no:Ad2 pv .returning .returning .nilIface
 | yes:Ad2 pv (.panicking (pch pv)) (.panicking (Ach pv)) pv
theorem To[Dr]{g:FuncId}{fn:Func}{cap:List Value}{u u':FrameMode}{rv f:Value}{k id a d:Nat}{op2:Op}{ty1 ty2:TypeId}{pos1 pos2:String}{af1 af2:Array Edge}{at_:Array TypeId}{y:Code}{R:World->Prop}(L:Env)
  (hf : P.funcs[g]? = some fn) (hname : (fn.name == "runtime.NumGoroutine") = false)
  (hb:fn.body=some (.seq (.region id #[⟨some a,.call ⟨.builtin .recover,#[],at_⟩,ty1,pos1,af1,none⟩,⟨some d,op2,ty2,pos2,af2,none⟩] false) y)) (hk:fn.ntmps=k) (hkl:Nat.ble cap.length k=true) (hL:O6 0 cap=L)
  (n:Qq9 a k=true) (o:Qq9 d k=true) (hrec:Ad2 pv u u' rv) (h2:BG P ((a,rv)::L) w op2 ty2 f)
  (h:W P ⟨k,[]⟩ y (NK P fn (fun _ w'=>R w')) ((d,f)::(a,rv)::L) w):OkF P g cap u u' w R:=by
 refine⟨⟨fn,_,hf,hname,hb⟩,callsD_of_wpS hf hb fun b cs hu=>?_⟩;have fr0:=U2 (k:=k) hkl hL;rw [<- hk] at fr0;refine wpS_seq (wpS_region ?_)
 have r:∀ ρ:Operand->Value,(execOp ρ ⟨some a,.call ⟨.builtin .recover,#[],at_⟩,ty1,pos1,af1,none⟩).run P w=.ok .recover w:=fun ρ=>by
  simp [execOp,resolve,invoke,builtin]
 have fr1:Fr ⟨k,[]⟩ ((⟨cap.toArray++Qky (fn.ntmps - cap.toArray.size) undef,[]⟩:Act).put (some a) rv) ((a,rv)::L):=by rw [hk] at fr0 ⊢;exact fr0.put n
 have fr2:=fr1.put (v:=f) o;have p:=h2 w (Ext.refl w) _ fr1.TR (some d) pos2 af2 none;have hw:=h _ fr2
 have hlast:∀ c0':Frame,c0'.mode=u'->({b with mode:=u'}:Frame)=c0'->y.wpS P (bodyPostS P fn b cs fun e s w'=>(∃ v,e=.returned v)/\s=u'/\R w')
   (((⟨cap.toArray++Qky (fn.ntmps - cap.toArray.size) undef,[]⟩:Act).put (some a) rv).put (some d) f) (c0'::cs) w:=by
  intro c0' _ he;refine wpS_of_wp (wp_mono hw fun e a' w' q=>?_)
  cases e with
  | normal=>obtain⟨i,v,j,u,t,m⟩:=q;exact⟨i,u',by rw [he],v,j,⟨v,Z⟩,Z,m⟩
  | ret=>obtain⟨i,v,j,u,t,m⟩:=q;exact⟨i,u',by rw [he],v,j,⟨v,Z⟩,Z,m⟩
  | panic c=>obtain⟨_,v,q,_⟩:=q;cases q
  | exit id=>exact q.elim
  | goto l=>exact q.elim
  | outgrown=>obtain⟨v,q,_⟩:=q;cases q
 have hr:Qzv (#[⟨some a,.call ⟨.builtin .recover,#[],at_⟩,ty1,pos1,af1,none⟩,⟨some d,op2,ty2,pos2,af2,none⟩]:Array Oper).size=[0,1]:=Z;rw [hr];simp only [wpOpsS,List.getElem?_toArray,List.getElem?_cons_zero,List.getElem?_cons_succ,Region.wanted,if_true,r]
 cases hrec with
 | no=>
  have:recoverD (b::cs)=none:=by simp [recoverD,hu]
  simp only [this,p,Oper.upon];exact hlast b hu (by rw [<- hu])
 | yes=>
  have:recoverD (b::cs)=some (pv,{b with mode:=.panicking (Ach pv)}::cs):=by simp [recoverD,hu]
  simp only [this,p,Oper.upon];exact hlast {b with mode:=.panicking (Ach pv)} Z Z
end
end Go.E
namespace Go.E
open Go Go.RowKit
def Ny(Q:Exit->Act->World->Prop):Prop:=∀ a w,¬ Q .outgrown a w
section
variable {P:Program} {n:Sz} {Q:Exit->Act->World->Prop} {L:Env} {w:World}
theorem Jl{fn:Func}{R:Value->World->Prop}:Ny (NK P fn R):=fun _ _ ⟨_,h,_⟩=>by cases h
theorem Dd{y:Code}(h:Ny Q):Ny (Sl P y Q):=fun a w k=>h a w k
theorem M3{σ:Type}{I:σ->Env}{R:σ->World->Prop}(h:Ny Q):Ny (Y0 n I R Q):=fun a w k=>h a w k
theorem DT{σ:Type}{I:σ->Env}{R:σ->World->Prop}{μ:σ->Nat}{x:σ}(h:Ny Q):Ny (UG n I R μ x Q):=fun a w k=>h a w k
theorem Bn{id:Nat}(h:Ny Q):Ny (Exit.inBlock id Q):=fun a w k=>h a w k
theorem HN(h:Ny Q):Ny (Exit.noGoto Q):=fun a w k=>h a w k
theorem U3{c:Code}(h:W P n c (Exit.noGoto Q) L w):W P n (.scope c) Q L w:=fun a fr=>wp_scope_straight (h a fr)
theorem Abp{l:Nat}(h:At n Q .normal L w):W P n (.label l) Q L w:=fun a fr=>wp_label (h a fr)
theorem Ad3(h:At n Q .normal L w):At n (Exit.noGoto Q) .normal L w:=h
theorem G6(h:At n Q .ret L w):At n (Exit.noGoto Q) .ret L w:=h
end
def Wid(F:Fence):Prop:=F=Fence.wide\/∃ l,F=Fence.wide.inRound l
theorem Wid.fn{F:Fence}(h:Wid F)(f:FuncId):F.fn f:=by rcases h with rfl | ⟨l,rfl⟩ <;> exact trivial
theorem Wid.dep{F:Fence}(h:Wid F):F.depth=none:=by rcases h with rfl | ⟨l,rfl⟩ <;> rfl
theorem Wid.calls{F:Fence}(h:Wid F){n:Nat}{P:Program}{f:FuncId}{args:Array Value}{w:World}{R:Ending->World->Prop}(k:Calls P f args w R):CallsIn F n P f args w R:=by
 rcases h with rfl | ⟨l,rfl⟩
 ·exact callsIn_wide.2 k
 ·exact(callsIn_wide.2 k).inRound l
theorem Wid.rows{F:Fence}(h:Wid F){n:Nat}{P:Program}{row:String}{args:Array Value}{w:World}{R:Value->World->Prop}(k:Rows P row args w R):RowsIn F n P row args w R:=by
 intro c cs _;obtain⟨v,w',hR,hs⟩:=k c cs;refine⟨v,w',hR,?_⟩
 rcases h with rfl | ⟨l,rfl⟩
 ·exact stepsIn_wide.2 hs
 ·rw [fenced_inRound];exact stepsIn_wide.2 hs
def Sv:Op->Bool
 | .defer _=>true
 | _=>false
theorem Ad4{o:Op}(h:Sv o=false):∀ c,o≠.defer c:=fun c e=>by subst e;cases h
section
variable {P:Program} {n:Sz} {ops:Array Oper} {Q:Exit->Act->World->Prop} {L:Env} {w:World} {rest:List Oper}
theorem Vg{F:Fence}(hF:Wid F){o:Oper}(hd:Sv o.op=false){next:Act->World->Prop}{a:Act}(h:o.wp P a w next Q):o.wpIn F 0 P a w next Q:=by
 refine⟨fun f _=>hF.fn f,?_⟩;rw [Oper.semAt_eq _ _ _ (Ad4 hd)];unfold Oper.wp at h;generalize (execOp a.eval o).run P w=r at h ⊢;have b:F.depth.isSome=true->1<=0:=fun e=>by rw [hF.dep] at e;cases e
 cases r with
 | ok nx w'=>
  cases nx <;> simp only [Oper.upon] at h <;> simp only [Oper.uponIn]
  case value v=>exact h
  case skip=>exact h
  case defer d=>exact h
  case enter f args=>exact⟨b,(hF.calls h).mono fun e w' k=>by cases e <;> exact k⟩
  case row row args=>exact⟨b,hF.rows h⟩
 | halt x w'=>cases x <;> simp only [Oper.upon] at h <;> simp only [Oper.uponIn];exact h
theorem Ln{F:Fence}(hF:Wid F)(hq:Ny Q):∀ (l:List Oper) (a:Act) (w:World),l.all (fun o=>!Sv o.op)=true->wpList P ops Q l a w->wpListIn F 0 P ops Q l a w
 | [],_,_,_,h=>h
 | o::l,a,w,hd,h=>by
  simp only [QxE,Qzb,QkX] at hd;simp only [wpList] at h;simp only [wpListIn]
  split
  ·rename_i hw;rw [if_pos hw] at h
   rcases h with h | ⟨_,a',w',h⟩
   ·have b:=Vg hF hd.1 h;exact Oper.wpIn_mono (fun a w k=>Ln hF hq l a w (by simpa using hd.2) k) b
   ·exact absurd h (hq a' w')
  ·rename_i hw;rw [if_neg hw] at h;exact⟨fun f _=>hF.fn f,Ln hF hq l _ _ (by simpa using hd.2) h⟩
def SY(P:Program)(n:Sz)(ops:Array Oper)(Q:Exit->Act->World->Prop)(l:List Oper)(L:Env)(w:World):Prop:=∀ a,Fr n a L->wpListIn Fence.wide 0 P ops Q l a w
def yQ(P:Program)(ops:Array Oper)(Q:Exit->Act->World->Prop)(rest:List Oper):Exit->Act->World->Prop:=Exit.then (fun a w=>wpListIn Fence.wide 0 P ops Q rest a w) Q
theorem AhV{id:Nat}{l:List Oper}(h:SY P n l.toArray Q l L w):W P n (.region id l.toArray false) Q L w:=fun a fr=>(wpIn_wide (n:=0)).1 (wpIn_region_lit (h a fr))
theorem Ad5{id:Nat}{l:List Oper}{y:Code}(h:SY P n l.toArray (Sl P y Q) l L w):W P n (.seq (.region id l.toArray false) y) Q L w:=AB (AhV h)
theorem Tp{y:Code}(h:W P n y Q L w):SY P n ops (Sl P y Q) [] L w:=fun a fr=>h a fr
theorem NR{o:Oper}(hq:Ny Q)[hd:Qqq (Sv o.op) false](h:S P n ops (yQ P ops Q rest) [o] L w):SY P n ops Q (o::rest) L w:=fun a fr=>by
 have b:=h a fr;simp only [wpList] at b;simp only [wpListIn]
 split
 ·rename_i hw;rw [if_pos hw] at b
  rcases b with b | ⟨_,a',w',b⟩
  ·have h2:=Vg (.inl Z) hd.e b
   have hm:∀ {r:Result Next},o.uponIn Fence.wide 0 P a (fun a w=>yQ P ops Q rest .normal a w) (yQ P ops Q rest) r->o.uponIn Fence.wide 0 P a (wpListIn Fence.wide 0 P ops Q rest) Q r:=by
    intro r hr
    cases r with
    | ok nx w'=>cases nx <;> exact hr
    | halt x w'=>cases x <;> exact hr
   exact⟨h2.1,hm h2.2⟩
  ·exact absurd b (hq a' w')
 ·rename_i hw;rw [if_neg hw] at b;exact⟨fun _ _=>trivial,b⟩
theorem Jm(h:SY P n ops Q rest L w):S P n ops (yQ P ops Q rest) [] L w:=fun a fr=>h a fr
theorem Ad6{s:Nat}{b:Bool}(_hb:gt L s=some (.bool b))(a:b=true->SY P n ops Q rest L w)(h2:b=false->SY P n ops Q rest L w):SY P n ops Q rest L w:=by
 cases b
 ·exact h2 Z
 ·exact a Z
theorem YL{d l:Nat}{fo:Operand}{args:List Operand}{vs:List Value}{at_:Array TypeId}{ty:TypeId}{pos:String}{af:Array Edge}{R:World->Prop}[hf:Qqq (ev L fo) (some (.func (.yield l) #[] #[]))][ha:Qqq (Sk L args) (some vs)][hn:Qqq (Qq9 d n.n) true]
  (hy:YieldAt Fence.wide 0 P l vs.toArray w (fun e w'=>e=.returned (.bool true)/\R w')) (h:∀ w',R w'->SY P n ops Q rest ((d,.bool true)::L) w'):SY P n ops Q (⟨some d,.call ⟨.value fo,args.toArray,at_⟩,ty,pos,af,none⟩::rest) L w:=fun a fr=>by
 obtain⟨fn,tmps,assign,body,hrun,hround⟩:=hy;simp only [wpListIn];rw [if_pos (by simp [Region.wanted])];refine⟨fun _ _=>trivial,?_⟩;have b:=fr.TR.map _ _ ha.e
 have e:(Oper.semAt Fence.wide.round a.eval ⟨some d,.call ⟨.value fo,args.toArray,at_⟩,ty,pos,af,none⟩).run P w=.ok (.round l fn tmps assign body) w:=by
  rw [Oper.semAt_eq _ _ _ (fun c h=>by cases h)];simp [execOp,resolve,fr.TR fo _ hf.e,Deferred.ofValue,invoke,b,hrun]
 rw [e];refine⟨fun h=>by simp [Fence.wide] at h,hround.mono fun e w' ⟨he,hR⟩=>?_⟩;subst he;exact h w' hR _ (fr.put hn.e)
theorem P0{dst:Option Tmp}{op:Op}{j:Nat}{want b:Bool}{t:Nat}{ty:TypeId}{pos:String}{af:Array Edge}[hj:Qqq (((ops[j]?).bind (·.dst))) (some t)][hb:Qqq (gt L t) (some (.bool b))](hw:b=want)
  (h:SY P n ops Q (⟨dst,op,ty,pos,af,none⟩::rest) L w):SY P n ops Q (⟨dst,op,ty,pos,af,some (j,want)⟩::rest) L w:=fun a fr=>by
 have c:=h a fr;simp only [wpListIn] at c ⊢;have hy:yielded ops a.tmps j=some b:=by simp [yielded,hj.e,fr.get t _ hb.e]
 have hwant:Region.wanted ⟨dst,op,ty,pos,af,some (j,want)⟩ (yielded ops a.tmps)=true:=by simp [Region.wanted,hy,hw]
 rw [if_pos hwant];have d:Region.wanted ⟨dst,op,ty,pos,af,none⟩ (yielded ops a.tmps)=true:=by simp [Region.wanted]
 rw [if_pos d] at c;exact c
end
abbrev yR[Dr](l D b:Nat)(rec:Loop)(tb te:TypeId)(sz:Nat)(v:Value)(k:Nat)(xs:List Value):List BS:=
 [.obj l (.loop rec),.obj D (.deferred (some [])),.box b [v] tb,.row v te sz k xs]
def Ad7[Dr](P:Program){α:Type}(r:Rp α)(sz bt:Nat)(l D b:Nat)(rec:Loop)(tb te:TypeId):Prop:=
 ∀
  {d w:World} {H:PH} {O:List BS} {v u:Value} {xs c:List Value} {a:List α} {x:α},Le H (hp d)->Bb d (yR l D b rec tb te sz v a.length xs++O) w->
  AH r (gz H d w (yR l D b rec tb te sz v a.length xs++O)) a xs->u.cells.toList=c->r.rel (gz H d w (yR l D b rec tb te sz v a.length xs++O)) x c->HK bt (a.length+1)->
  YieldAt Fence.wide 0 P l #[u] w (fun e w'=>e=.returned (.bool true)/\∃ v' xs',Bb d (yR l D b rec tb te sz v' (a++[x]).length xs'++O) w'/\
   Le (fz w (yR l D b rec tb te sz v a.length xs++O)) (fz w' (yR l D b rec tb te sz v' (a++[x]).length xs'++O))/\AH r (gz H d w' (yR l D b rec tb te sz v' (a++[x]).length xs'++O)) (a++[x]) xs')
def WR(P:Program)(l:Nat)(n:Sz)(c:Code)(Q:Exit->Act->World->Prop)(L:Env)(w:World):Prop:=∀ a,Fr n a L->c.wpIn (Fence.wide.inRound l) 0 P Q a w
section
variable {P:Program} {j:Nat} {n:Sz} {Q:Exit->Act->World->Prop} {L:Env} {w:World}
theorem WJ{id:Nat}{l:List Oper}(hd:l.all (fun o=>!Sv o.op)=true)(hq:Ny Q)(h:S P n l.toArray Q l L w):WR P j n (.region id l.toArray false) Q L w:=fun a fr=>
 wpIn_region_lit (Ln (.inr ⟨j,Z⟩) hq l a w hd (h a fr))
theorem Ad8{id:Nat}{c:Code}(h:WR P j n c (Exit.inBlock id Q) L w):WR P j n (.block id c) Q L w:=fun a fr=>wpIn_block (h a fr)
theorem Bb.putAt[Dr]{a:World}{O:List BS}{i b:Nat}{o:Obj}(o':Obj)(hL:Bb a O w)(hi:ED O i=some (.obj b o)):Bb a (DB O i (.obj b o')) (w.putObj b o')/\Le (fz w O) (fz (w.putObj b o') (DB O i (.obj b o'))):=by
 have hg:w.grownBy (w.putObj b o') (some b):=⟨Z,Z,Z,by simp,fun k _ hk=>World.putObj_heap_other (fun e=>hk (by rw [e]))⟩;have hlt:b<w.heap.size:=(hL.at hi).lt Z;exact⟨hL.My hi (Qzx _) hg (World.putObj_heap_same hlt) (fun k e=>.inl e),HF hL hi hg (fun k e=>.inl e)⟩
def AhW(P:Program)(l:Nat)(body:Code)(R:Ending->World->Prop):Exit->Act->World->Prop:=
 Exit.then (fun a₁ w₁=>∃ w₂,(Instr.beginRound l).run P w₁=.ok () w₂/\body.wpIn (Fence.wide.inRound l) 0 P (roundPost P l R) a₁ w₂) (fun _ _ _=>False)
theorem AfZ{l:Nat}{body:Code}{R:Ending->World->Prop}:Ny (AhW P l body R):=fun _ _ h=>h
theorem Ad9{l:Nat}{R:Ending->World->Prop}:Ny (roundPost P l R):=fun _ _ h=>h
theorem AdA[Dr]{l i:Nat}{rec:Loop}{body:Code}{R:Ending->World->Prop}{b:World}{O:List BS}(hst:rec.state=.ready)(hL:Bb b O w)(hi:ED O i=some (.obj l (.loop rec)))
  (h:∀ w',Bb b (DB O i (.obj l (.loop {rec with state:=.busy}))) w'->Le (fz w O) (fz w' (DB O i (.obj l (.loop {rec with state:=.busy}))))->WR P l n body (roundPost P l R) L w'):At n (AhW P l body R) .normal L w:=fun a fr=>by
 have c:=hL.at hi;have hp:=hL.putAt (.loop {rec with state:=.busy}) hi;exact⟨_,run_beginRound c hst,h _ hp.1 hp.2 a fr⟩
theorem XG[Dr]{l i:Nat}{rec:Loop}{R:Ending->World->Prop}{b:World}{O:List BS}(hL:Bb b O w)(hi:ED O i=some (.obj l (.loop rec)))
  (h:∀ w',Bb b (DB O i (.obj l (.loop {rec with state:=.ready,pending:=none}))) w'->Le (fz w O) (fz w' (DB O i (.obj l (.loop {rec with state:=.ready,pending:=none}))))->R (.returned (.bool true)) w'):At n (roundPost P l R) .normal L w:=fun a _=>by
 have c:=hL.at hi;have hp:=hL.putAt (.loop {rec with state:=.ready,pending:=none}) hi;exact⟨_,_,run_endRound none c,h _ hp.1 hp.2⟩
theorem AdB[Dr]{α:Type}{r:Rp α}{sz bt l D b p k:Nat}{rec:Loop}{tb te:TypeId}{Lr:Env}(_hst:rec.state=.ready)(_hpe:rec.pending=none)(hps:rec.params = #[p])(fr:Fr ⟨k,[]⟩ ⟨rec.tmps,[]⟩ Lr)(hpk:Qq9 p k=true)
  (hround:∀ {f w:World} {H:PH} {O:List BS} {v u:Value} {xs c:List Value} {a:List α} {x:α},Le H (hp f)->Bb f (yR l D b rec tb te sz v a.length xs++O) w->
   AH r (gz H f w (yR l D b rec tb te sz v a.length xs++O)) a xs->u.cells.toList=c->r.rel (gz H f w (yR l D b rec tb te sz v a.length xs++O)) x c->HK bt (a.length+1)->
   WR P l ⟨k,[]⟩ rec.assign (AhW P l rec.body (fun e w'=>e=.returned (.bool true)/\∃ v' xs',Bb f (yR l D b rec tb te sz v' (a++[x]).length xs'++O) w'/\
    Le (fz w (yR l D b rec tb te sz v a.length xs++O)) (fz w' (yR l D b rec tb te sz v' (a++[x]).length xs'++O))/\AH r (gz H f w' (yR l D b rec tb te sz v' (a++[x]).length xs'++O)) (a++[x]) xs')) ((p,u)::Lr) w) :
  Ad7 P r sz bt l D b rec tb te:=fun {f w H O v u xs c a x} hH hL he hu hx hc=>by
 refine⟨rec.fn,_,rec.assign,rec.body,run_yield (hL.at (i:=0) Z) (by rw [hps];rfl),roundIn_of_wpIn trivial ?_⟩;rw [hps];have e:((#[p]:Array Tmp).zip #[u]).foldl (fun tmps (x:Tmp×Value)=>tmps.setIfInBounds x.1 x.2) rec.tmps=rec.tmps.setIfInBounds p u:=by simp
 rw [show _=_ from e];exact hround hH hL he hu hx hc _ (fr.put (d:=p) (v:=u) hpk)
theorem Aga[Dr]{g:FuncId}{cap:List Value}{go:Operand}{ps:Array Tmp}{assign body:Code}(hg:ev L go=some (.func (.func g) #[] cap.toArray))(hc:JM P g){f:World}{O:List BS}(hL:Bb f O w)
  (h:∀ (a:Act),Fr n a L->∀ (fn:FuncId) (l D:Nat) (m:World) (rec:Loop),rec={state:=.ready,pending:=none,fn,tmps:=a.tmps,params:=ps,assign,body,defers:=D}->
   Bb f (.obj l (.loop rec)::.obj D (.deferred (some []))::O) m->Le (fz w O) (fz m (.obj l (.loop rec)::.obj D (.deferred (some []))::O))->
   Calls P g (#[.func (.yield l) #[] #[]]++cap.toArray) m (fun e o=>(∃ v,e=.returned v)/\∃ O',Bb f (.obj l (.loop rec)::O') o/\
    ∀
     p,Bb f (.obj l (.loop {rec with state:=.exhausted})::O') p->Le (fz o (.obj l (.loop rec)::O')) (fz p (.obj l (.loop {rec with state:=.exhausted})::O'))->
     At ⟨n.n,{target:=.collected D,args:=#[]}::n.d⟩ Q .normal L p)):W P n (.rangeFunc go ps assign body) Q L w:=fun a fr=>by
 refine (wpIn_wide (n := 0)).1 (wpIn_rangeFunc fun fn _ => ?_);obtain ⟨fn', c, t, h2, h3⟩ := hc;have h2' : ¬ fn'.name = "runtime.NumGoroutine" := by simpa using h2
 have q:=hL.new (r:=.obj w.heap.size (.deferred (some []))) (Dy w (.deferred (some []))) (show(w.alloc _).heap[w.heap.size]? = _ from World.alloc_heap_new w _) (fun b hb=>by cases hb;exact Qzx _);have f1:=RS hL (r:=.obj w.heap.size (.deferred (some []))) (Dy w (.deferred (some []))) (fun b hb=>by cases hb;exact Qzx _);have hs:(w.alloc (.deferred (some []))).heap.size=w.heap.size+1:=by simp
 have s:=q.new (r:=.obj (w.heap.size+1) (.loop {state:=.ready,pending:=none,fn,tmps:=a.tmps,params:=ps,assign,body,defers:=w.heap.size})) (Dy _ _)
  (by rw [<- hs];exact World.alloc_heap_new _ _) (fun b hb=>by cases hb;exact Nat.le_of_eq hs)
 have f2:=RS q (r:=.obj (w.heap.size+1) (.loop {state:=.ready,pending:=none,fn,tmps:=a.tmps,params:=ps,assign,body,defers:=w.heap.size})) (Dy _ (.loop {state:=.ready,pending:=none,fn,tmps:=a.tmps,params:=ps,assign,body,defers:=w.heap.size}))
  (fun b hb=>by cases hb;exact Nat.le_of_eq hs)
 obtain⟨W1,j⟩:∃ W1,W1=(w.alloc (.deferred (some []))).alloc (.loop {state:=.ready,pending:=none,fn,tmps:=a.tmps,params:=ps,assign,body,defers:=w.heap.size}):=⟨_,Z⟩;rw [<- j] at s f2;have hcall:=h a fr fn (w.heap.size+1) w.heap.size W1 _ Z s (f1.trans f2);refine⟨w.heap.size+1,[{target:=.collected w.heap.size,args:=#[]}],W1,{target:=.fn (.func g) cap.toArray,args:=#[.func (.yield (w.heap.size+1)) #[] #[]]},W1,g,#[.func (.yield (w.heap.size+1)) #[] #[]]++cap.toArray,W1,by rw [j];exact run_enterLoop_outer _ _ _ _ _,?_,fun _ _=>trivial,?_,fun e=>by simp [Fence.wide] at e,?_⟩
 ·have hgo:=fr.TR go _ hg;simp only [resolve,hgo];simp [Deferred.ofValue,Act.eval]
 ·simp [invoke,callFunc,t,h2',h3]
 ·refine(callsIn_wide.2 hcall).mono fun e o ⟨⟨v,he⟩,O',k,hk⟩=>?_;subst he;have hp:=k.putAt (i:=0) (.loop {state:=.exhausted,pending:=none,fn,tmps:=a.tmps,params:=ps,assign,body,defers:=w.heap.size}) Z;refine⟨none,_,run_endLoop (k.at (i:=0) Z) Qqd,?_⟩;exact hk _ hp.1 hp.2 {a with defers:=[{target:=.collected w.heap.size,args:=#[]}]++a.defers} ⟨fr.size,by rw [fr.defers];rfl,fr.get⟩
def Ah0(P:Program)(fn:Func)(R:Value->World->Prop):Exit->Act->World->Prop:=bodyPostM Fence.wide 0 P fn (Rq R)
theorem Acj{f:FuncId}{fn:Func}{c:Code}{args:List Value}{R:Value->World->Prop}{k:Nat}(L:Env)
  (hf : P.funcs[f]? = some fn) [hname:Qqq (fn.name == "runtime.NumGoroutine") false] (hb : fn.body = some c) (hn : fn.ntmps = k) (hk : Nat.ble args.length k = true) (hL : O6 0 args = L)
  (h:W P ⟨k,[]⟩ c (Ah0 P fn R) L w):Ok P f args w R:=
 ⟨⟨fn,c,hf,hname.e,hb⟩,callsIn_wide.1 (callsIn_of_wp_marks hf hb trivial ((wpIn_wide (n:=0)).2 (h _ (by rw [hn];exact U2 hk hL))))⟩
theorem Agb[Dr]{k D i:Nat}{fn:Func}{R:Value->World->Prop}{l:List ResultVar}{v:Value}{b:World}{O:List BS}(hl:fn.results=l.toArray)(hr:Qq l L=some v)(hL:Bb b O w)(hi:ED O i=some (.obj D (.deferred (some []))))
  (h:∀ w',Bb b (DB O i (.obj D (.deferred none))) w'->Le (fz w O) (fz w' (DB O i (.obj D (.deferred none))))->R v w'):At ⟨k,[{target:=.collected D,args:=#[]}]⟩ (Ah0 P fn R) .ret L w:=fun a fr=>by
 show LeavesInM Fence.wide 0 P fn a.tmps (Rq R) a.defers .returning w
 rw [fr.defers];have hp:=hL.putAt (.deferred none) hi;exact⟨by simp,.inl ⟨_,_,Z,run_takeDeferred (hL.at hi),v,UH fr hl hr,v,Z,h _ hp.1 hp.2⟩⟩
end
end Go.E
end
noncomputable section
namespace Go.E
open Go Go.RowKit
structure Nb (α:Type) where
 pre:α->List Value
 dat:α->List UInt8
 upd:α->List UInt8->α
 sz:Nat
 len:∀ x,(pre x).length+1=sz
 one:∀ x,∀ u∈pre x,u.oneCell'=true
 AjM:∀ x d,pre (upd x d)=pre x
 AjN:∀ x d,dat (upd x d)=d
def Nb.b:Nb (List UInt8):=⟨fun _=>[],fun x=>x,fun _ d=>d,1,fun _=>Z,(fun _ _ h=>by cases h),fun _ _=>Z,fun _ _=>Z⟩
def Nb.s:Nb (Int×List UInt8):=⟨fun x=>[.int .i64 x.1],fun x=>x.2,fun x d=>(x.1,d),2,fun _=>Z,(fun _ u h=>by simp at h;subst h;rfl),fun _ _=>Z,fun _ _=>Z⟩
section
variable {α:Type} (N:Nb α) (e:TypeId)
end
section
variable {α:Type} {N:Nb α} {e:TypeId}
theorem Sw:∀ (A T:List BS) (i:Nat),ED (A++T) (A.length+i)=ED T i
 | [],T,i=>by rw [Qxz,Qze,Qzc]
 | a::A,T,i=>by rw [Qzj,show A.length+1+i=(A.length+i)+1 by omega];exact Sw A T i
theorem YM:∀ (A T:List BS) (i:Nat) (r:BS),DB (A++T) (A.length+i) r=A++DB T i r
 | [],T,i,r=>by rw [Qxz,Qze,Qzc,Qxz]
 | a::A,T,i,r=>by rw [Qzj,show A.length+1+i=(A.length+i)+1 by omega];exact congrArg (a :: ·) (YM A T i r)
theorem L4:∀ {A:List BS} {i:Nat} {r:BS} (T:List BS),ED A i=some r->ED (A++T) i=some r
 | _::_,0,_,_,h=>h
 | _::A,i+1,_,T,h=>L4 (A:=A) (i:=i) T h
theorem OQ:∀ {A:List BS} {i:Nat} {r:BS} (s:BS) (T:List BS),ED A i=some r->DB (A++T) i s=DB A i s++T
 | _::_,0,_,_,_,_=>rfl
 | a::A,i+1,_,s,T,h=>congrArg (a :: ·) (OQ (A:=A) (i:=i) s T h)
end
section
variable {P:Program} {n:Sz} {ops:Array Oper} {Q:Exit->Act->World->Prop} {L:Env} {w w0:World} {O:List BS} {rest:List Oper}
 {d:Nat} {ty:TypeId} {pos:String} {af:Array Edge} {α:Type} [Inhabited α] {N:Nb α} {x y:Operand} {vo:Value} {t e eo:TypeId} {A:List BS} {l:List α} {vs:List Value}
end
section
variable {P:Program} {n:Sz} {ops:Array Oper} {Q:Exit->Act->World->Prop} {L:Env} {w w0:World} {rest:List Oper}
 {d d':Nat} {ty ty':TypeId} {pos pos':String} {af af':Array Edge} {α:Type} {N:Nb α} {x:Operand} {v vo:Value} {t e eo:TypeId} {H:PH} {l:List α} {vs:List Value}
end
section
variable {w w' w0:World} {A T O O':List BS} {α:Type} {N:Nb α} {r:Rp α} {vo:Value} {e eo:TypeId} {H:PH} {l:List α} {vs:List Value}
theorem YN:∀ (A T:List BS) (i:Nat),NL (A++T) (A.length+i)=A++NL T i
 | [],T,i=>by rw [Qxz,Qze,Qzc,Qxz]
 | a::A,T,i=>by rw [Qzj,show A.length+1+i=(A.length+i)+1 by omega];exact congrArg (a :: ·) (YN A T i)
end
end Go.E
namespace Go.L
def BV{κ β:Type}[DecidableEq κ](d:β)(k:κ):List (κ×β)->β
 | []=>d
 | (a,y)::l=>if k=a then y else BV d k l
def Ge{κ β:Type}[DecidableEq κ](k:κ)(y:β):List (κ×β)->List (κ×β)
 | []=>[(k,y)]
 | (a,z)::l=>if k=a then(a,y)::l else(a,z)::Ge k y l
end Go.L
namespace Go.E
open Go Go.RowKit
def mE{κ:Type}(enc:κ->Value):Nat->List κ->List Value->List MapEntry
 | i,k::l,v::vs=>⟨enc k,v,i⟩::mE enc (i+1) l vs
 | _,_,_=>[]
def mI{κ:Type}[DecidableEq κ](k:κ):List κ->Option Nat
 | []=>none
 | a::l=>if k=a then some 0 else(mI k l).map (· + 1)
section
variable {κ:Type} {enc:κ->Value} {k:κ}
theorem XH{v:Value}:∀ (l:List κ) (vs:List Value) (i:Nat),l.length=vs.length->mE enc i l vs++[⟨enc k,v,i+l.length⟩]=mE enc i (l++[k]) (vs++[v])
 | [],[],i,_=>by simp [mE]
 | a::l,u::vs,i,h=>by
  have:=XH (v:=v) l vs (i+1) (by simpa using h);simp only [mE,QxZ,Qzj];rw [<- this,show i+(l.length+1)=i+1+l.length by omega]
theorem Tq:∀ (l:List κ) (vs:List Value) (i m:Nat) (a:κ),l.length=vs.length->l[m]? = some a->(mE enc i l vs)[m]? = some ⟨enc a,vs.getD m Qq2,i+m⟩
 | b::l,u::vs,i,0,a,_,h=>by simp at h;subst h;simp [mE]
 | b::l,u::vs,i,m+1,a,hl,h=>by
  have:=Tq l vs (i+1) m a (by simpa using hl) (by simpa using h);simp only [mE,List.getElem?_cons_succ,this];simp;omega
theorem WK{v:Value}:∀ (l:List κ) (vs:List Value) (i m:Nat),l.length=vs.length->l[m]? = some k->(mE enc i l vs).modify m (fun e=>{e with key:=enc k,val:=v})=mE enc i l (vs.set m v)
 | b::l,u::vs,i,0,_,h=>by simp at h;subst h;simp [mE]
 | b::l,u::vs,i,m+1,hl,h=>by
  have:=WK (v:=v) l vs (i+1) m (by simpa using hl) (by simpa using h);simp only [mE,List.modify_succ_cons,List.set_cons_succ,this]
theorem Ts:∀ (l:List κ) (vs:List Value) (i:Nat),l.length=vs.length->(mE enc i l vs).length=l.length
 | [],[],_,_=>rfl
 | a::l,u::vs,i,h=>by simp [mE,Ts l vs (i+1) (by simpa using h)]
end
structure PU (P:Program) {κ:Type} [DecidableEq κ] (kt:TypeId) (enc:κ->Value):Prop where
 check:∀ (b:Bool) (k:κ) w,(Instr.checkKey b 10000 kt (enc k)).run P w=.ok () w
 bits:∀ k,Instr.sameBits 10000 (enc k) (enc k)=true
 find:∃ dd,P.underlying kt=some dd/\((∀ a b,Instr.sameNow dd (enc a) (enc b)=some (decide (a=b)))\/
  ((∀ a b,Instr.sameNow dd (enc a) (enc b)=none)/\∀ a b w,(Op.equal kt (enc a) (enc b)).run P w=.ok (decide (a=b)) w))
section
variable {P:Program} {κ:Type} [DecidableEq κ] {kt t et:TypeId} {enc:κ->Value} {k:κ}
theorem WL:∀ {l:List κ} {m:Nat},mI k l=some m->m<l.length/\l[m]? = some k
 | a::l,m,h=>by
  simp only [mI] at h
  split at h
  ·rename_i e;cases h;subst e;simp
  ·cases b:mI k l with
   | none=>rw [b] at h;cases h
   | some j=>
    rw [b] at h;cases h;have:=WL b
    simpa using this
theorem Vh{dd:TypeDesc}(h:∀ a b,Instr.sameNow dd (enc a) (enc b)=some (decide (a=b))):∀ (l:List κ) (vs:List Value) (i j:Nat),l.length=vs.length->
  Instr.findNow dd (enc k) (mE enc i l vs) j=some ((mI k l).map fun m=>(j+m,vs.getD m Qq2))
 | [],_,_,_,_=>by simp [mE,Instr.findNow,mI]
 | a::l,v::vs,i,j,hl=>by
  simp only [mE,Instr.findNow,h,mI]
  by_cases e:k=a
  ·simp [e]
  ·simp only [e,decide_false];rw [Vh h l vs (i+1) (j+1) (by simpa using hl)]
   cases mI k l with
   | none=>simp
   | some m=>simp;omega
theorem RC(h:∀ a b w,(Op.equal kt (enc a) (enc b)).run P w=.ok (decide (a=b)) w)(w:World):∀ (l:List κ) (vs:List Value) (i j:Nat),l.length=vs.length->
  (Instr.findAsking kt (enc k) (mE enc i l vs) j).run P w=.ok ((mI k l).map fun m=>(j+m,vs.getD m Qq2)) w
 | [],_,_,_,_=>by simp [mE,Instr.findAsking,mI]
 | a::l,v::vs,i,j,hl=>by
  simp only [mE,Instr.findAsking,mI,Sem.run_bind,h,Result.andThen]
  by_cases e:k=a
  ·simp [e]
  ·simp only [e,decide_false];rw [if_neg Qqd,RC h w l vs (i+1) (j+1) (by simpa using hl)]
   cases mI k l with
   | none=>simp
   | some m=>simp;omega
theorem U4(hk:PU P kt enc){l:List κ}{vs:List Value}(hl:l.length=vs.length)(w:World):
  (Instr.findKey kt (enc k) (mE enc 0 l vs)).run P w=.ok ((mI k l).map fun m=>(m,vs.getD m Qq2)) w:=by
 obtain⟨dd,hd,h⟩:=hk.find;unfold Instr.findKey
 rcases h with h | ⟨b,h2⟩
 ·simp [run_underlying hd,Vh h l vs 0 0 hl]
 ·cases l with
  | nil=>
   have:vs=[]:=Qz9 (by simpa using hl.symm);subst this;simp [run_underlying hd,mE,Instr.findNow,mI]
  | cons a l=>
   cases vs with
   | nil=>cases hl
   | cons v vs=>
    have e:Instr.findNow dd (enc k) (mE enc 0 (a::l) (v::vs)) 0=none:=by simp only [mE,Instr.findNow,b]
    simp only [Sem.run_bind,run_underlying hd,Result.andThen,e];have:=RC (k:=k) h2 w (a::l) (v::vs) 0 0 hl;rw [this];simp
def lkV(z:Value)(k:κ)(l:List κ)(vs:List Value):Value:=match mI k l with
 | some m=>vs.getD m Qq2
 | none=>z
def Mz(P:Program)(et:TypeId)(z:Value):Prop:=∀ w,(zeroValue et).run P w=.ok z w
theorem Vi{w:World}{b n:Nat}{l:List κ}{vs:List Value}{z:Value}(hk:PU P kt enc)(ht:P.underlying t=some (.map kt et))(hz:Mz P et z)(hb:w.heap[b]? = some (.map (mE enc 0 l vs).toArray n))(hl:l.length=vs.length):
  (Instr.lookup t (.map (some b)) (enc k) false).run P w=.ok (lkV z k l vs) w:=by
 have hg:(getObj b).run P w=.ok (.map (mE enc 0 l vs).toArray n) w:=by simp [getObj,Sem.run,hb]
 simp only [Instr.lookup,Sem.run_bind,run_underlying ht,Result.andThen,hg,hk.check];simp only [Sem.run_pure];rw [U4 hk hl];unfold lkV
 cases mI k l with
 | some m=>simp
 | none=>simp [hz w]
def upK(k:κ)(l:List κ):List κ:=match mI k l with
 | some _=>l
 | none=>l++[k]
def upV(k:κ)(v:Value)(l:List κ)(vs:List Value):List Value:=match mI k l with
 | some m=>vs.set m v
 | none=>vs++[v]
theorem AhX{v:Value}{l:List κ}{vs:List Value}(hl:l.length=vs.length):(upK k l).length=(upV k v l vs).length:=by
 unfold upK upV
 cases mI k l <;> simp [hl]
theorem Aae{w:World}{b:Nat}{l:List κ}{vs:List Value}{v:Value}(hk:PU P kt enc)(ht:P.underlying t=some (.map kt et))(hb:w.heap[b]? = some (.map (mE enc 0 l vs).toArray l.length))(hl:l.length=vs.length):
  (Instr.mapUpdate t (.map (some b)) (enc k) v).run P w=.ok () (w.putObj b (.map (mE enc 0 (upK k l) (upV k v l vs)).toArray (upK k l).length)):=by
 have hg:(getObj b).run P w=.ok (.map (mE enc 0 l vs).toArray l.length) w:=by simp [getObj,Sem.run,hb]
 have hs:∀ o,(setObj b o).run P w=.ok () (w.putObj b o):=fun o=>by simp [setObj,Sem.run,hb,World.putObj]
 simp only [Instr.mapUpdate,Sem.run_bind,run_underlying ht,Result.andThen,hg,hk.check];rw [U4 hk hl];unfold upK upV
 cases hm:mI k l with
 | some m=>
  obtain⟨c,h2⟩:=WL hm;have he:=Tq (enc:=enc) l vs 0 m k hl h2;simp only [QkK,Sem.run_bind,Result.andThen,List.getElem?_toArray,he,Option.getD_some,Instr.keyThatStays,hk.bits,if_true];simp only [Sem.run_pure];have a:(mE enc 0 l vs).toArray.modify m (fun e=>{e with key:=enc k,val:=v})=(mE enc 0 l (vs.set m v)).toArray:=by rw [List.modify_toArray,WK l vs 0 m hl h2]
  rw [a];exact hs _
 | none=>
  have hp:=XH (enc:=enc) (k:=k) (v:=v) l vs 0 hl;rw [Qzc] at hp;simp only [Option.map_none,List.push_toArray];rw [hp,hs];simp
end
section
variable {κ β:Type} [DecidableEq κ] {k:κ} {z:Value} {enc:κ->Value} {ev':β->Value}
theorem U5:∀ {l:List (κ×β)} (d:β),mI k (l.map Qq6)=none->Go.L.BV d k l=d
 | [],_,_=>rfl
 | (a,y)::l,d,h=>by
  simp only [Qzd,mI] at h
  split at h
  ·cases h
  ·rename_i e;simp only [Go.L.BV,if_neg e];exact U5 d (by cases b:mI k (l.map Qq6) <;> simp_all)
theorem U6:∀ {l:List (κ×β)} {m:Nat} (d:β),mI k (l.map Qq6)=some m->l[m]? = some (k,Go.L.BV d k l)
 | (a,y)::l,m,d,h=>by
  simp only [Qzd,mI] at h
  split at h
  ·rename_i e;cases h;subst e;simp [Go.L.BV]
  ·rename_i e
   cases b:mI k (l.map Qq6) with
   | none=>rw [b] at h;cases h
   | some j=>
    rw [b] at h;cases h
    simpa [Go.L.BV,if_neg e] using U6 d b
theorem Re{y:β}:∀ {l:List (κ×β)},mI k (l.map Qq6)=none->Go.L.Ge k y l=l++[(k,y)]
 | [],_=>rfl
 | (a,x)::l,h=>by
  simp only [Qzd,mI] at h
  split at h
  ·cases h
  ·rename_i e;simp only [Go.L.Ge,if_neg e,QxZ];rw [Re (by cases b:mI k (l.map Qq6) <;> simp_all)]
theorem Rf{y:β}:∀ {l:List (κ×β)} {m:Nat},mI k (l.map Qq6)=some m->Go.L.Ge k y l=l.set m (k,y)
 | (a,x)::l,m,h=>by
  simp only [Qzd,mI] at h
  split at h
  ·rename_i e;cases h;subst e;simp [Go.L.Ge]
  ·rename_i e
   cases b:mI k (l.map Qq6) with
   | none=>rw [b] at h;cases h
   | some j=>
    rw [b] at h;cases h;simp only [Go.L.Ge,if_neg e];rw [Rf b]
    rfl
theorem Vj{y:β}{l:List (κ×β)}:upK k (l.map Qq6)=(Go.L.Ge k y l).map Qq6:=by
 unfold upK
 cases h:mI k (l.map Qq6) with
 | none=>rw [Re h];simp
 | some m=>
  rw [Rf h];obtain⟨b,h2⟩:=WL h;simp only [List.map_set];obtain⟨h3,a⟩:=QzD.1 h2
  conv=>lhs;rw [<- List.set_getElem_self h3,a]
end
abbrev RD{κ β:Type}(enc:κ->Value)(b:Nat)(l:List (κ×β))(vs:List Value):BS:=.obj b (.map (mE enc 0 (l.map Qq6) vs).toArray l.length)
section
variable {P:Program} {n:Sz} {ops:Array Oper} {Q:Exit->Act->World->Prop} {L:Env} {w w0:World} {O:List BS} {rest:List Oper} {d:Nat} {ty t kt et:TypeId} {pos:String} {af:Array Edge} {x y x':Operand}
 {κ β:Type} [DecidableEq κ] {enc:κ->Value} {ev':β->Value} {l:List (κ×β)} {k:κ} {H:PH}
omit [DecidableEq κ] in
theorem WM[Dr](enc:κ->Value)(β:Type)[hn:Qqq (Qq9 d n.n) true](hL:Bb w0 O w)
  (h:∀ w' b,Bb w0 (RD enc b ([]:List (κ×β)) []::O) w'->Le (fz w O) (fz w' (RD enc b ([]:List (κ×β)) []::O))->S P n ops Q rest ((d,.map (some b))::L) w'):S P n ops Q (⟨some d,.makeMap t none,ty,pos,af,none⟩::rest) L w:=by
 have hb:∀ b,(BS.obj w.heap.size (.map (mE enc 0 (([]:List (κ×β)).map Qq6) []).toArray ([]:List (κ×β)).length)).block=some b->w.heap.size<=b:=fun b e=>by cases e;exact Qzx _
 refine EN (v:=.map (some w.heap.size)) (w':=w.alloc (.map #[] 0)) hn.e (fun ρ hρ=>?_) (h _ _ (hL.new (Dy w _) (World.alloc_heap_new w _) hb) (RS hL (Dy w (.map #[] 0)) hb));simp [execOp,Instr.makeMap,newObj,Sem.run]
end
section
variable {κ α:Type} (cw:α->List Value) (e:TypeId) (sz:Nat)
def mR(x:List α)(v:Value):BS:=.row v e sz x.length (x.flatMap cw)
def mT:List (κ×List α)->List Value->List BS
 | x::l,v::vs=>mR cw e sz x.2 v::mT l vs
 | _,_=>[]
end
section
variable {κ α:Type} {cw:α->List Value} {e:TypeId} {sz:Nat}
theorem AdC:∀ {l:List (κ×List α)} {vs:List Value},l.length=vs.length->∀ {i:Nat} {k:κ} {x:List α},l[i]? = some (k,x)->ED (mT cw e sz l vs) i=some (mR cw e sz x (vs.getD i Qq2))
 | y::l,v::vs,h,0,k,x,hx=>by simp at hx;subst hx;rfl
 | y::l,v::vs,h,i+1,k,x,hx=>by
  have:=AdC (l:=l) (vs:=vs) (by simpa using h) (i:=i) (by simpa using hx)
  simpa [mT,ED] using this
theorem AdD:∀ {l:List (κ×List α)} {vs:List Value},l.length=vs.length->∀ {i:Nat} (k:κ) (x:List α) (v:Value),i<l.length->DB (mT cw e sz l vs) i (mR cw e sz x v)=mT cw e sz (l.set i (k,x)) (vs.set i v)
 | y::l,u::vs,h,0,k,x,v,_=>rfl
 | y::l,u::vs,h,i+1,k,x,v,hi=>by
  have:=AdD (l:=l) (vs:=vs) (by simpa using h) (i:=i) k x v (by simpa using hi);simp [mT,DB,this]
theorem XI(k:κ)(x:List α)(v:Value):∀ {l:List (κ×List α)} {vs:List Value},l.length=vs.length->mT cw e sz (l++[(k,x)]) (vs++[v])=mT cw e sz l vs++[mR cw e sz x v]
 | [],[],_=>rfl
 | y::l,u::vs,h=>by
  have:=XI k x v (l:=l) (vs:=vs) (by simpa using h);simp [mT,this]
end
section
variable {P:Program} {n:Sz} {ops:Array Oper} {Q:Exit->Act->World->Prop} {L:Env} {w w0:World} {O:List BS} {rest:List Oper} {d:Nat} {ty ty' t mt kt et e:TypeId} {pos pos':String} {af af':Array Edge} {x y x' m':Operand}
 {κ α:Type} [DecidableEq κ] {enc:κ->Value} {cw:α->List Value} {sz:Nat} {l:List (κ×List α)} {vs:List Value} {k:κ} {H:PH} {A:List BS}
def AhY(cw:α->List Value)(e:TypeId)(sz:Nat)(l:List (κ×List α))(vs:List Value)(k:κ)(y:List α)(v:Value)(T:List BS):Prop:=
 v.oneCell'=true/\l.length=vs.length/\T.Perm (mT cw e sz (Go.L.Ge k y l) (upV k v (l.map Qq6) vs))
theorem AdE[Dr]{r:Rp α}{bt:Nat}{zz u:Value}{z:α}(hr:∀ G (x:α) c,r.rel G x c↔c=cw x)[hsz:Qqq r.sz sz][hx:Qqq (ev L x) (some (lkV (.slice none 0 0) k (l.map Qq6) vs))](hy:ev L y=some u)(ht:P.underlying t=some (.slice e))[hz:Qqx P e zz sz bt][hzs:Qqq zz.cells.size sz](g:0<sz)[hn:Qqq (Qq9 d n.n) true]
  (hH:Le H (hp w0)) (hL:Bb w0 (A++mT cw e sz l vs) w) (hl:l.length=vs.length) (hu:AJ r (gz H w0 w (A++mT cw e sz l vs)) u [z]) (hby:HK bt ((Go.L.BV [] k l).length+1))
  (h:∀ v' w' T,AhY cw e sz l vs k (Go.L.BV [] k l++[z]) v' T->Bb w0 (A++T) w'->Le (fz w (A++mT cw e sz l vs)) (fz w' (A++T))->S P n ops Q rest ((d,v')::L) w') :
  S P n ops Q (⟨some d,.call ⟨.builtin .append,#[x,y],#[t,t]⟩,ty,pos,af,none⟩::rest) L w:=by
 have hx:=hx.e
 have hel:∃ news,news=cw z/\Src (hp w) sz u 1 news:=by
  obtain⟨news,b,h2⟩:=hu.elems
  have h3:news=cw z:=by
   cases b with
   | cons hc ht=>cases ht;rw [QzX];exact(hr _ _ _).1 hc
  rw [hsz.e] at h2;exact⟨news,h3,h2.mono (An hL)⟩
 obtain⟨news,rfl,hsrc⟩:=hel;have hone:∀ c∈cw z,c.oneCell'=true:=fun c hc=>r.one (H:=H) ((hr H z (cw z)).2 Z) c hc
 cases hmi:mI k (l.map Qq6) with
 | some m=>
  obtain⟨b,h2⟩:=WL hmi;have h1':m<l.length:=by simpa using b
  have hg:=U6 ([]:List α) hmi;have hrow:=AdC (cw:=cw) (e:=e) (sz:=sz) hl hg;have hlk:lkV (.slice none 0 0) k (l.map Qq6) vs=vs.getD m Qq2:=by unfold lkV;rw [hmi]
  rw [hlk] at hx;have hO:ED (A++mT cw e sz l vs) (A.length+m)=some (.row (vs.getD m Qq2) e sz (Go.L.BV [] k l).length ((Go.L.BV [] k l).flatMap cw)):=by rw [Sw];exact hrow
  refine UU (A.length+m) hx hy ht hz.e hzs.e g hn.e hL hO hsrc hone hby fun v' w' hL' hle'=>?_;have p:(.row v' e sz ((Go.L.BV [] k l).length+1) ((Go.L.BV [] k l).flatMap cw++cw z):BS)=mR cw e sz (Go.L.BV [] k l++[z]) v':=by simp [mR]
  rw [p,YM,AdD hl k _ _ h1'] at hL' hle';have f:upV k v' (l.map Qq6) vs=vs.set m v':=by unfold upV;rw [hmi]
  refine h v' w' _ ⟨?_,hl,?_⟩ hL' hle'
  ·have j:(l.set m (k,Go.L.BV [] k l++[z])).length=(vs.set m v').length:=by simp [hl]
   have o:(l.set m (k,Go.L.BV [] k l++[z]))[m]? = some (k,Go.L.BV [] k l++[z]):=by simp [h1']
   have a:=AdC (cw:=cw) (e:=e) (sz:=sz) j o;have hgv:(vs.set m v').getD m Qq2=v':=by simp [List.getD_eq_getElem?_getD,show m<vs.length by omega]
   rw [hgv] at a;have:=hL'.at (i:=A.length+m) (r:=mR cw e sz (Go.L.BV [] k l++[z]) v') (by rw [Sw];exact a);exact row_one this
  ·rw [f,Rf hmi]
 | none=>
  have hg:=U5 ([]:List α) hmi;have hlk:lkV (.slice none 0 0) k (l.map Qq6) vs=.slice none 0 0:=by unfold lkV;rw [hmi]
  rw [hlk] at hx;have hnil:=U1 hL e sz;have hby':HK bt (0+1):=by rw [hg] at hby;exact hby
  refine UU 0 hx hy ht hz.e hzs.e g hn.e hnil.1 Z hsrc hone hby' fun v' w' hL' hle'=>?_
  have hp:(A++(mT cw e sz l vs++[mR cw e sz [z] v'])).Perm (.row v' e sz (0+1) ([]++cw z)::(A++mT cw e sz l vs)):=by
   rw [<- Qxd];have:(mR cw e sz [z] v':BS)=.row v' e sz (0+1) ([]++cw z):=by simp [mR]
   rw [this];exact List.perm_append_singleton _ _
  have f:upV k v' (l.map Qq6) vs=vs++[v']:=by unfold upV;rw [hmi]
  refine h v' w' (mT cw e sz l vs++[mR cw e sz [z] v']) ⟨row_one (hL'.at (i:=0) Z),hl,?_⟩ (hL'.perm hp) ?_
  ·rw [f,Re hmi,hg,Qxz,XI k [z] v' hl]
  ·rw [Ko hp];exact hnil.2.trans hle'
theorem AhZ[Dr](ib:Nat){b:Nat}{v:Value}{yl:List α}{T:List BS}(hpd:AhY cw e sz l vs k yl v T)(hm:ev L m'=some (.map (some b)))[hkx:Qqq (ev L x') (some (enc k))][hv:Qqq (ev L x) (some v)][hmt:Qqq (P.underlying mt) (some (.map kt et))](hk:PU P kt enc)
  (hL:Bb w0 (A++T) w) (hib:ED A ib=some (RD enc b l vs))
  (h:∀ vs' w',(Go.L.Ge k yl l).length=vs'.length->Bb w0 (DB A ib (RD enc b (Go.L.Ge k yl l) vs')++mT cw e sz (Go.L.Ge k yl l) vs') w'->
   Le (fz w (A++T)) (fz w' (DB A ib (RD enc b (Go.L.Ge k yl l) vs')++mT cw e sz (Go.L.Ge k yl l) vs'))->S P n ops Q rest L w') :
  S P n ops Q (⟨none,.mapUpdate mt m' x' x,ty,pos,af,none⟩::rest) L w:=by
 obtain⟨_,hl,hpm⟩:=hpd;have hb:w.heap[b]? = some (.map (mE enc 0 (l.map Qq6) vs).toArray l.length):=hL.at (L4 T hib);have hur:=Aae (k:=k) (v:=v) (l:=l.map Qq6) (vs:=vs) hk hmt.e (by rw [Qzk];exact hb) (by simp [hl]);rw [Vj (y:=yl),Qzk] at hur;have hp:=hL.putAt (.map (mE enc 0 ((Go.L.Ge k yl l).map Qq6) (upV k v (l.map Qq6) vs)).toArray (Go.L.Ge k yl l).length) (L4 T hib);rw [OQ _ _ hib] at hp;have a:=List.Perm.append_left (DB A ib (RD enc b (Go.L.Ge k yl l) (upV k v (l.map Qq6) vs))) hpm.symm;have hlen:=AhX (k:=k) (v:=v) (l:=l.map Qq6) (vs:=vs) (by simp [hl]);rw [Vj (y:=yl),Qzk] at hlen;refine OK _ (fun ρ hρ=>?_) (h (upV k v (l.map Qq6) vs) _ hlen (hp.1.perm a) ?_)
 ·simp [execOp,hρ m' _ hm,hρ x' _ hkx.e,hρ x _ hv.e,hur]
 ·rw [Ko a];exact hp.2
end
def Wp{κ β:Type}(enc:κ->Value)(r:Rp β)(H:PH)(v:Value)(l:List (κ×β)):Prop:=
 ∃ b vs,v=.map (some b)/\H b=some (.map (mE enc 0 (l.map Qq6) vs).toArray l.length)/\l.length=vs.length/\∀ i x,l[i]? = some x->r.rel H x.2 [vs.getD i Qq2]
theorem Wp.mono{κ β:Type}{enc:κ->Value}{r:Rp β}{H H':PH}{v:Value}{l:List (κ×β)}(h:Wp enc r H v l)(hs:Le H H'):Wp enc r H' v l:=by
 obtain⟨b,vs,a,h2,h3,c⟩:=h;exact⟨b,vs,a,hs _ _ h2,h3,fun i x hx=>r.mono hs (c i x hx)⟩
section
variable {P:Program} {L:Env} {w w0:World} {ty t kt et e:TypeId} {x y:Operand} {κ α:Type} [DecidableEq κ] {enc:κ->Value} {cw:α->List Value} {r:Rp α} {sz:Nat} {l:List (κ×List α)} {vs:List Value} {k:κ} {H:PH} {A:List BS}
omit [DecidableEq κ] in
theorem Abq[Dr](hsz:r.sz=sz)(hr:∀ G (x:α) c,r.rel G x c↔c=cw x)(hH:Le H (hp w0)):∀ {l:List (κ×List α)} {vs:List Value},l.length=vs.length->Bb w0 (A++mT cw e sz l vs) w->Bb w0 A w/\Le (fz w (A++mT cw e sz l vs)) (fz w A)/\∀ i x,l[i]? = some x->AJ r (gz H w0 w A) (vs.getD i Qq2) x.2
 | [],[],_,hL=>⟨by simpa [mT] using hL,by simp only [mT,QzX];exact Le.refl _,fun i x hx=>by cases hx⟩
 | y::l,v::vs,hn,hL=>by
  have hi:ED (A++mT cw e sz (y::l) (v::vs)) (A.length+0)=some (.row v e r.sz y.2.length (y.2.flatMap cw)):=by rw [Sw,hsz];rfl
  have hel:AH r (gz H w0 w (A++mT cw e sz (y::l) (v::vs))) y.2 (y.2.flatMap cw):=by
   generalize gz H w0 w (A++mT cw e sz (y::l) (v::vs))=G
   induction y.2 with
   | nil=>exact .nil
   | cons a m ih=>rw [List.flatMap_cons];exact .cons ((hr _ _ _).2 Z) ih
  have hv:=hL.Du hH hi hel;have b:=hL.AS hi;have d:=Ak (w:=w) hi;rw [YN] at hv b d;obtain⟨f,h2,h3⟩:=Abq hsz hr hH (l:=l) (vs:=vs) (by simpa using hn) b;refine⟨f,d.trans h2,fun i x hx=>?_⟩
  cases i with
  | zero=>simp at hx;subst hx;exact hv.mono (Aa h2)
  | succ i=>simpa using h3 i x (by simpa using hx)
 | [],_::_,h,_=>by cases h
 | _::_,[],h,_=>by cases h
omit [DecidableEq κ] in
theorem Abr[Dr](ib:Nat){b:Nat}(hsz:r.sz=sz)(hr:∀ G (x:α) c,r.rel G x c↔c=cw x)(hH:Le H (hp w0))(hl:l.length=vs.length)(hL:Bb w0 (A++mT cw e sz l vs) w)(hib:ED A ib=some (RD enc b l vs)):
  Bb w0 (NL A ib) w/\Le (fz w (A++mT cw e sz l vs)) (fz w (NL A ib))/\Wp enc (.vec r) (gz H w0 w (NL A ib)) (.map (some b)) l:=by
 obtain⟨a,h2,h3⟩:=Abq hsz hr hH hl hL;have d:=Ak (w:=w) hib;have hb:=a.at hib;refine⟨a.AS hib,h2.trans d,b,vs,Z,?_,hl,fun i x hx=>⟨_,Z,(h3 i x hx).mono (Aa d)⟩⟩;have hge:=a.own _ ((Fb hib).mem_iff.2 (.head _)) b Z;have f:fz w (NL A ib) b=w.heap[b]?:=UP hib Z a.dis;refine Sr b _ ?_;unfold nf;rw [if_pos hge,f];exact hb
theorem AiO[Dr]{v:Value}(hm:Wp enc (.vec r) H v l)(hk:PU P kt enc)(ht:P.underlying t=some (.map kt et))(hz:Mz P et (.slice none 0 0))(hx:ev L x=some v)(hy:ev L y=some (enc k))(hs:Le H (hp w)):
  ∃ u,BG P L w (.lookup t x y false) ty u/\AJ r H u (Go.L.BV [] k l):=by
 obtain⟨b,vs,rfl,h2,h3,d⟩:=hm;refine⟨lkV (.slice none 0 0) k (l.map Qq6) vs,fun w' hx' ρ hρ dst pos af g=>?_,?_⟩
 ·have:=Vi (k:=k) (l:=l.map Qq6) (vs:=vs) hk ht hz (hx'.le _ _ (hs _ _ h2)) (by simp [h3]);simp [execOp,hρ x _ hx,hρ y _ hy,this]
 ·unfold lkV
  cases hmi:mI k (l.map Qq6) with
  | none=>rw [U5 [] hmi];exact AJ.nil r H
  | some m=>
   obtain⟨u,a,c⟩:=d m _ (U6 [] hmi);simp only [List.cons.injEq,and_true] at a
   show AJ r H (vs.getD m Qq2) _
   rw [a];exact c
end
theorem YO(a b:List UInt8):((⟨a.toArray⟩:ByteArray)==⟨b.toArray⟩)=decide (a=b):=by
 have:((⟨a.toArray⟩:ByteArray)==⟨b.toArray⟩)=(a.toArray==b.toArray):=Z;rw [this,Qz3];simp
def encS(s:List UInt8):Value:=.string ⟨s.toArray⟩
theorem Ack{P:Program}{kt:TypeId}(hd:P.underlying kt=some .string):PU P kt encS:=
 ⟨fun b k w=>by
   obtain⟨d,he⟩:∃ d,10000=d+1:=⟨9999,Z⟩;rw [he];simp [Instr.checkKey,encS,run_underlying hd],
  fun k=>by simp [Instr.sameBits,encS,YO],
  ⟨_,hd,.inl fun a b=>by simp only [Instr.sameNow,encS,YO]⟩⟩
section
variable {P:Program} {n:Sz} {ops:Array Oper} {Q:Exit->Act->World->Prop} {L:Env} {w:World} {rest:List Oper} {d:Nat} {ty t kt et:TypeId} {pos:String} {af:Array Edge} {x y:Operand}
 {κ α:Type} [DecidableEq κ] {enc:κ->Value} {r:Rp α} {l:List (κ×List α)} {k:κ} {H:PH} {v:Value}
theorem Abs[Dr][hx:Qqq (ev L x) (some v)][hy:Qqq (ev L y) (some (enc k))][ht:Qqq (P.underlying t) (some (.map kt et))](hk:PU P kt enc)(hz:Mz P et (.slice none 0 0))(hm:Wp enc (.vec r) H v l)(hs:Le H (hp w))[hn:Qqq (Qq9 d n.n) true]
  (h:∀ u,AJ r H u (Go.L.BV [] k l)->S P n ops Q rest ((d,u)::L) w):S P n ops Q (⟨some d,.lookup t x y false,ty,pos,af,none⟩::rest) L w:=by
 obtain⟨u,a,h2⟩:=AiO (ty:=ty) hm hk ht.e hz hx.e hy.e hs;exact Ai a (hn:=⟨hn.e⟩) (h u h2)
end
abbrev Acl(h:Int×Int):List Value:=[.int .i64 h.1,.int .i64 h.2]
theorem AdF:∀ (G:PH) (x:Int×Int) (c:List Value),(Rp.pair (.int .i64) (.int .i64)).rel G x c↔c=Acl x:=
 fun _ _ _=>⟨fun⟨_,_,h,a,h2⟩=>by subst a;subst h2;exact h,fun h=>⟨_,_,h,Z,Z⟩⟩
abbrev cwI(h:Int):List Value:=[.int .i64 h]
theorem Ah2:∀ (G:PH) (x:Int) (c:List Value),(Rp.int .i64).rel G x c↔c=cwI x:=fun _ _ _=>Iff.rfl
end Go.E
namespace Go.E
open Go Go.RowKit
def Vk(ops:Array Oper)(j:Nat):Bool:=match ops[j]? with
 | some oj=>(Qzv ops.size).all fun k=>k==j||oj.after.any fun e=>Region.binds .any e&&e.on==k
 | none=>false
theorem Acm{ops:Array Oper}{i j:Nat}{oj:Oper}(hj:ops[j]? = some oj)(hi:i<ops.size)(hne:i≠j)(hnot:∀ e∈oj.after,Region.binds .any e=true->e.on≠i):Vk ops j=false:=by
 unfold Vk;rw [hj];simp only
 cases h:(Qzv ops.size).all (fun k=>k==j||oj.after.any fun e=>Region.binds .any e&&e.on==k) with
 | false=>rfl
 | true=>
  have a:=Qx9.1 h i (Qz7.2 hi);simp only [Qxq,beq_iff_eq,hne,false_or] at a;obtain⟨e,he,hb⟩:=Array.any_eq_true'.1 a;simp only [Qzb,beq_iff_eq] at hb;exact absurd hb.2 (hnot e he hb.1)
def dpB(ops:Array Oper)(j k:Nat):Bool:=match ops[j]? with
 | some oj=>oj.after.any fun e=>Region.binds .any e&&e.on==k
 | none=>false
def Abt(ops:Array Oper)(j:Nat):List Nat->Bool
 | []=>true
 | x::r=>(dpB ops j x||r.any fun y=>dpB ops y x)&&Abt ops j r
def WN(ops:Array Oper)(j:Nat)(c:List Nat):Bool:=Abt ops j c&&(Qzv ops.size).all fun k=>k==j||c.contains k||dpB ops k j
def ClP(ops:Array Oper)(listed:Array Bool):Prop:=∀ k x,dpB ops k x=true->listed.getD k true=true->listed.getD x true=true
def ClB(ops:Array Oper)(listed:Array Bool):Bool:=Nat.ble listed.size ops.size&&(Qzv ops.size).all fun k=>!(listed.getD k true)||(Qzv ops.size).all fun x=>!(dpB ops k x)||listed.getD x true
theorem AdG{ops:Array Oper}{listed:Array Bool}(h:ClB ops listed=true):ClP ops listed:=fun k x hd hk=>by
 simp only [ClB,Qzb,Qx9,Qz7,Qxq,QkX] at h
 have hk':k<ops.size:=by
  rcases Qxw k ops.size with a | a
  ·exact a
  ·simp [dpB,Qk1 a] at hd
 rcases Qxw x ops.size with hx | hx
 ·rcases h.2 k hk' with a | a
  ·rw [a] at hk;cases hk
  ·rcases a x hx with h2 | h2
   ·rw [h2] at hd;cases hd
   ·exact h2
 ·have:=Nat.le_of_ble_eq_true h.1;rw [Qx5,Qk1 U];rfl
theorem Abu{l:Array Bool}{k:Nat}(h:l.getD k false=true):l.getD k true=true:=by
 rw [Qx5] at *
 cases hq:l[k]? with
 | none=>rfl
 | some b=>rw [hq] at h;exact h
theorem TV{ops:Array Oper}{listed:Array Bool}{j:Nat}(hc:ClP ops listed)(hj:∀ x,dpB ops j x=true->listed.getD x true=true):∀ (c:List Nat),Abt ops j c=true->∀ x∈c,listed.getD x true=true
 | [],_,x,hx=>by cases hx
 | y::r,h,x,hx=>by
  simp only [Abt,Qzb,Qxq,List.any_eq_true] at h;have ih:=TV hc hj r h.2
  rcases List.mem_cons.1 hx with rfl | hx
  ·rcases h.1 with a | ⟨z,hz,a⟩
   ·exact hj _ a
   ·exact hc z _ a (ih z hz)
  ·exact ih x hx
section
variable (Inv:World->Prop) (P:Program) (ops:Array Oper) (Q:Exit->Act->World->Prop)
def O8:Nat->Array Bool->Act->World->Prop
 | 0,listed,a,w=>Region.ready .any ops listed=[]/\Q .normal a w
 | m+1,listed,a,w=>(Region.ready .any ops listed=[]->Q .normal a w)/\
  ∀ i∈Region.ready .any ops listed,wpOp P ops Q i (fun a' w'=>(Vk ops i=true\/(∃ c,WN ops i c=true)\/Inv w')/\O8 m (listed.setIfInBounds i true) a' w') a w
def LL(o:Oper)(v:Value)(a:Act):Prop:=
 (Region.wanted o (yielded ops a.tmps)=true/\∀ w,Inv w->(execOp a.eval o).run P w=.ok (.value v) w)\/
 (Region.wanted o (yielded ops a.tmps)=false/\v=undef)
end
section
variable {Inv:World->Prop} {P:Program} {ops:Array Oper} {Q:Exit->Act->World->Prop}
theorem Vl:∀ (m:Nat) (listed:Array Bool) (a:Act) (w:World),O8 Inv P ops Q m listed a w->wpAny P .any ops Q m listed a w
 | 0,_,_,_,h=>h
 | m+1,_listed,_a,_w,h=>⟨h.1,fun i hi=>wpOp_mono (fun _a' _w' k=>Vl m _ _ _ k.2) (h.2 i hi)⟩
theorem LL.same{o:Oper}{v:Value}{a a':Act}(hy:LL Inv P ops o v a)(he:execOp a'.eval o=execOp a.eval o)(hw:Region.wanted o (yielded ops a'.tmps)=Region.wanted o (yielded ops a.tmps)):LL Inv P ops o v a':=by
 unfold LL at *;rw [he,hw];exact hy
theorem LL.op{i:Nat}{o:Oper}{v:Value}{a:Act}{w:World}(hi:ops[i]? = some o)(hy:LL Inv P ops o v a)(hw:Inv w){K:Act->World->Prop}(h:K (a.put o.dst v) w):wpOp P ops Q i K a w:=by
 unfold wpOp;simp only [hi]
 rcases hy with ⟨b,hv⟩ | ⟨b,rfl⟩
 ·simp only [b,if_true,Oper.wp,hv w hw,Oper.upon];exact .inl h
 ·simp only [b,QzB,if_false];exact h
theorem Agc{j:Nat}{oi oj:Oper}{v:Value}(hj:ops[j]? = some oj)(hap:oi.apart ops oj=true)(hsi:∀ cs b,oi.op≠.select cs b)(hsj:∀ cs b,oj.op≠.select cs b)
  (hQ:∀ c a w,Q (.panic c) (a.put oi.dst v) w->Q (.panic c) a w) {K:Act->World->Prop} {a:Act} {w:World} (hy:LL Inv P ops oi v a) (h:wpOp P ops Q j K (a.put oi.dst v) w) :
  wpOp P ops Q j (fun a' w'=>LL Inv P ops oi v a'/\K (a'.put oi.dst v) w') a w:=by
 obtain⟨g,h2,h3⟩:=Oper.apart_spec hap;have keep:∀ a,LL Inv P ops oi v a->∀ u,LL Inv P ops oi v (a.put oj.dst u):=fun a hy u=>hy.same (execOp_put oi hsi a oj.dst u h3) (wanted_put oi a oj.dst u h3);unfold wpOp at *;simp only [hj] at *;rw [wanted_put oj a oi.dst v g] at h
 split
 ·rename_i hw;simp only [hw,if_true] at h
  rcases h with h | ⟨ha,hl⟩
  case inr=>exact .inr ⟨by unfold Oper.asks at *;rw [execOp_put oj hsj a oi.dst v g] at ha;exact ha,hl⟩
  refine .inl ?_;unfold Oper.wp at *;rw [execOp_put oj hsj a oi.dst v g] at h;generalize (execOp a.eval oj).run P w=r at *
  cases r with
  | ok x w'=>
   cases x <;> simp only [Oper.upon] at h ⊢
   case value u=>exact⟨keep a hy u,by rw [<- Act.put_comm a v u h2];exact h⟩
   case skip=>exact⟨keep a hy _,by rw [<- Act.put_comm a v undef h2];exact h⟩
   case defer d=>
    refine⟨keep {a with defers:=d::a.defers} (hy.same Z Z) _,?_⟩;rw [<- Act.put_comm _ v undef h2,<- Act.put_defers];exact h
   case enter f args=>
    refine h.mono fun e w'' he=>?_
    cases e with
    | returned u=>exact⟨keep a hy u,by rw [<- Act.put_comm a v u h2];exact he⟩
    | panicked c=>exact hQ _ _ _ he
    | outgrown=>exact he
   case row row args=>exact Rows.mono h fun u w'' he=>⟨keep a hy u,by rw [<- Act.put_comm a v u h2];exact he⟩
  | halt x w'=>
   cases x <;> simp only [Oper.upon] at h ⊢
   case panic u=>exact hQ _ _ _ h
 ·rename_i hw;simp only [hw] at h;exact⟨keep a hy _,by rw [<- Act.put_comm a v undef h2];exact h⟩
theorem RV{i:Nat}{oi:Oper}{v:Value}(hi:ops[i]? = some oi)(hsel:∀ (j:Nat) (o:Oper) cs b,ops[j]? = some o->o.op≠.select cs b)(hQ:∀ c a w,Q (.panic c) (a.put oi.dst v) w->Q (.panic c) a w):
  ∀
   (m:Nat) (listed:Array Bool) (a:Act) (w:World),
   (∀ j oj,ops[j]? = some oj->j≠i->listed.getD j true=false->(∀ e∈oj.after,Region.binds .any e=true->e.on≠i)->oi.apart ops oj=true)->
   i∈Region.ready .any ops listed->ClP ops listed->Inv w->LL Inv P ops oi v a->O8 Inv P ops Q m (listed.setIfInBounds i true) (a.put oi.dst v) w->O8 Inv P ops Q (m+1) listed a w:=by
 intro m
 induction m with
 | zero=>
  intro listed a w _ hr _ hw hy H;refine⟨fun h=>(by rw [h] at hr;cases hr),fun j hj=>?_⟩
  by_cases hji:j=i
  ·subst hji;exact hy.op hi hw ⟨.inr (.inr hw),H⟩
  ·have:=ready_mono hj hji;rw [H.1] at this
   cases this
 | succ m ih=>
  intro listed a w hfree hr hcl hw hy H;refine⟨fun h=>(by rw [h] at hr;cases hr),fun j hj=>?_⟩
  by_cases hji:j=i
  ·subst hji;exact hy.op hi hw ⟨.inr (.inr hw),H⟩
  ·have d:=H.2 j (ready_mono hj hji);obtain⟨hjun,oj,hoj,hall⟩:=mem_ready.1 hj
   have hnot:∀ e∈oj.after,Region.binds .any e=true->e.on≠i:=fun e he hb heq=>by
    have d:=hall e he hb;have f:=(mem_ready.1 hr).1;rw [heq] at d
    rcases Qxw i listed.size with h' | h'
    ·simp [h'] at f d;rw [f] at d;cases d
    ·simp [Qk1 h'] at d
   have h2:=Agc hoj (hfree j oj hoj hji hjun hnot) (fun cs b=>hsel i oi cs b hi) (fun cs b=>hsel j oj cs b hoj) hQ hy d
   have hfree':∀ k ok,ops[k]? = some ok->k≠i->(listed.setIfInBounds j true).getD k true=false->
     (∀ e∈ok.after,Region.binds .any e=true->e.on≠i)->oi.apart ops ok=true:=fun k ok hk hki hun hno=>by
    refine hfree k ok hk hki ?_ hno
    by_cases hjk:j=k
    ·subst hjk;exact hjun
    ·rw [getD_set_ne true hjk] at hun;exact hun
   have hri:i∈Region.ready .any ops (listed.setIfInBounds j true):=ready_mono hr (Ne.symm hji);refine wpOp_mono (fun a' w' ⟨hy',hI,hk⟩=>?_) h2
   have hset:O8 Inv P ops Q m ((listed.setIfInBounds j true).setIfInBounds i true) (a'.put oi.dst v) w':=by
    rw [Array.setIfInBounds_comm _ _ hji];exact hk
   have hi':=(Array.getElem?_eq_some_iff.1 hi).1
   have hjd:∀ x,dpB ops j x=true->listed.getD x true=true:=fun x hx=>by
    simp only [dpB,hoj] at hx;obtain⟨e,he,hb⟩:=Array.any_eq_true'.1 hx;simp only [Qzb,beq_iff_eq] at hb;rw [<- hb.2];exact Abu (hall e he hb.1)
   have hiun:=(mem_ready.1 hr).1
   have hI':Inv w':=by
    rcases hI.resolve_left (by rw [Acm hoj hi' (Ne.symm hji) hnot];simp) with ⟨c,hc⟩ | hI
    ·exfalso
     simp only [WN,Qzb,Qx9,Qz7,Qxq,beq_iff_eq] at hc
     rcases hc.2 i hi' with (h3 | h3) | h3
     ·exact hji h3.symm
     ·have g:=TV hcl hjd c hc.1 i (by simpa using h3);rw [hiun] at g;cases g
     ·obtain⟨_,oi',hoi',hall'⟩:=mem_ready.1 hr;simp only [dpB,hoi'] at h3;obtain⟨e,he,hb⟩:=Array.any_eq_true'.1 h3;simp only [Qzb,beq_iff_eq] at hb;have l:=Abu (hall' e he hb.1);rw [hb.2,hjun] at l;cases l
    ·exact hI
   have hcl':ClP ops (listed.setIfInBounds j true):=fun k x hd hk=>by
    by_cases hxj:x=j
    ·subst hxj;rw [Qx5,Array.getElem?_setIfInBounds]
     by_cases hs:x<listed.size
     ·simp [hs]
     ·simp [Qk1 (Nat.le_of_not_lt hs),hs]
    ·rw [getD_set_ne true (Ne.symm hxj)]
     by_cases hkj:k=j
     ·subst hkj;exact hjd x hd
     ·rw [getD_set_ne true (Ne.symm hkj)] at hk;exact hcl k x hd hk
   exact⟨.inr (.inr hI'),ih _ a' w' hfree' hri hcl' hI' hy' hset⟩
end
def nQI(Inv:World->Prop)(P:Program)(l:List Oper)(Q:Exit->Act->World->Prop)(fuel i:Nat)(listed:Array Bool):Exit->Act->World->Prop:=Exit.then (fun a w=>(Vk l.toArray i=true\/(∃ c,WN l.toArray i c=true)\/Inv w)/\O8 Inv P l.toArray Q fuel listed a w) Q
def Nw(Inv:World->Prop)(P:Program)(n:Sz)(l:List Oper)(Q:Exit->Act->World->Prop)(fuel:Nat)(listed:Array Bool)(L:Env)(w:World):Prop:=∀ a,Fr n a L->O8 Inv P l.toArray Q fuel listed a w
section
variable {Inv:World->Prop} {P:Program} {n:Sz} {l:List Oper} {Q:Exit->Act->World->Prop} {L:Env} {w:World} {y:Code} {fuel:Nat} {m:Nat} {done:List Nat}
theorem AdI[Dr]{id:Nat}(Inv:World->World->Prop)(hm:P.follows .mixedOrders=true)(hl:l.length=m)(h:∀ w',Ext w w'->Nw (Inv w') P n l Q m (PT m []) L w'):W P n (.region id l.toArray true) Q L w:=fun a fr=>by
 refine wp_region_any hm ?_;have:=Vl _ _ _ _ (h _ MZ a fr);subst hl
 simpa [PT] using this
theorem WO{i:Nat}{o:Oper}(ho:IB l i=some o)(h:S P n l.toArray (nQI Inv P l Q fuel i (PT m (i::done))) [o] L w):
  ∀ a,Fr n a L->wpOp P l.toArray Q i (fun a' w'=>(Vk l.toArray i=true\/(∃ c,WN l.toArray i c=true)\/Inv w')/\O8 Inv P l.toArray Q fuel ((PT m done).setIfInBounds i true) a' w') a w:=
 fun a fr=>Acg ho (h a fr) (fun e a w hne he=>by cases e <;> first | exact absurd Z hne | exact he)
theorem Vm{rs:List Nat}{listed:Array Bool}{a:Act}(hr:Region.ready .any l.toArray listed=rs)(hne:rs≠[])
  (h:∀ i∈rs,wpOp P l.toArray Q i (fun a' w'=>(Vk l.toArray i=true\/(∃ c,WN l.toArray i c=true)\/Inv w')/\O8 Inv P l.toArray Q fuel (listed.setIfInBounds i true) a' w') a w):O8 Inv P l.toArray Q (fuel+1) listed a w:=
 ⟨fun e=>by rw [hr] at e;exact absurd e hne,fun i hi=>h i (by rw [<- hr];exact hi)⟩
theorem FY(i:Nat){o:Oper}(ho:IB l i=some o)(h:S P n l.toArray (nQI Inv P l Q fuel i (PT m (i::done))) [o] L w)(hr:Region.ready .any l.toArray (PT m done)=[i]:=by kernel_rfl):Nw Inv P n l Q (fuel+1) (PT m done) L w:=
 fun a fr=>Vm hr Qqd fun k hk=>by
  obtain rfl:k=i:=by simpa using hk
  exact WO ho h a fr
theorem NI2(i j:Nat){o p:Oper}(ho:IB l i=some o)(hp:IB l j=some p)(h:S P n l.toArray (nQI Inv P l Q fuel i (PT m (i::done))) [o] L w)(h':S P n l.toArray (nQI Inv P l Q fuel j (PT m (j::done))) [p] L w)(hr:Region.ready .any l.toArray (PT m done)=[i,j]:=by kernel_rfl):Nw Inv P n l Q (fuel+1) (PT m done) L w:=
 fun a fr=>Vm hr Qqd fun k hk=>by
  have hk':k=i\/k=j:=by simpa using hk
  rcases hk' with rfl | rfl
  ·exact WO ho h a fr
  ·exact WO hp h' a fr
theorem NI3{i j s:Nat}{o p q:Oper}(ho:IB l i=some o)(hr:Region.ready .any l.toArray (PT m done)=[i,j,s])(hp:IB l j=some p)(hq:IB l s=some q)(h:S P n l.toArray (nQI Inv P l Q fuel i (PT m (i::done))) [o] L w)(h':S P n l.toArray (nQI Inv P l Q fuel j (PT m (j::done))) [p] L w)(h'':S P n l.toArray (nQI Inv P l Q fuel s (PT m (s::done))) [q] L w):Nw Inv P n l Q (fuel+1) (PT m done) L w:=
 fun a fr=>Vm hr Qqd fun k hk=>by
  have hk':k=i\/k=j\/k=s:=by simpa using hk
  rcases hk' with rfl | rfl | rfl
  ·exact WO ho h a fr
  ·exact WO hp h' a fr
  ·exact WO hq h'' a fr
theorem Aia{i:Nat}(hI:Inv w)(h:Nw Inv P n l Q fuel (PT m done) L w):S P n l.toArray (nQI Inv P l Q fuel i (PT m done)) [] L w:=fun a fr=>⟨.inr (.inr hI),h a fr⟩
theorem G7{i:Nat}(h:Nw Inv P n l Q fuel (PT m done) L w)(hl:Vk l.toArray i=true:=by kernel_rfl):S P n l.toArray (nQI Inv P l Q fuel i (PT m done)) [] L w:=fun a fr=>⟨.inl hl,h a fr⟩
theorem DA{i:Nat}(c:List Nat)(h:Nw Inv P n l Q fuel (PT m done) L w)(hl:WN l.toArray i c=true:=by kernel_rfl):S P n l.toArray (nQI Inv P l Q fuel i (PT m done)) [] L w:=fun a fr=>⟨.inr (.inl ⟨c,hl⟩),h a fr⟩
theorem EF(h:At n Q .normal L w)(hr:Region.ready .any l.toArray (PT m done)=[]:=by kernel_rfl):Nw Inv P n l Q 0 (PT m done) L w:=fun a fr=>⟨hr,h a fr⟩
theorem OR(s:Nat){b:Bool}{listed:Array Bool}(_hb:gt L s=some (.bool b))(a:b=true->Nw Inv P n l Q fuel listed L w)(h2:b=false->Nw Inv P n l Q fuel listed L w):Nw Inv P n l Q fuel listed L w:=by
 cases b
 ·exact h2 Z
 ·exact a Z
variable {d:Nat} {op:Op} {ty:TypeId} {pos:String} {af:Array Edge}
theorem A6[Dr](i:Nat){v:Value}(hq:JG Q)(hI:Inv w)(ho:IB l i=some ⟨some d,op,ty,pos,af,none⟩)(hr:∀ w,Inv w->BG P L w op ty v)(hn:Qq9 d n.n=true)
  (h:Nw Inv P n l Q fuel (PT m (i::done)) ((d,v)::L) w)(hc:(Tm l m done i&&ClB l.toArray (PT m done))=true:=by kernel_rfl):Nw Inv P n l Q (fuel+1) (PT m done) L w:=fun a fr=>by
 simp only [Tm,Qzb] at hc;obtain⟨⟨⟨b,h2⟩,h3⟩,e⟩:=hc;have ho':l.toArray[i]? = some ⟨some d,op,ty,pos,af,none⟩:=by rw [Ht] at ho;simpa using ho
 exact RV (v:=v) ho' (Region.noSelect_spec b) (fun c a w k=>hq c a _ _ w k) _ _ a w (Region.free_spec ho' h2) (by simpa using h3) (AdG e) hI
  (.inl ⟨by simp [Region.wanted],fun w' hw'=>hr w' hw' w' (Ext.refl _) _ fr.TR _ _ _ _⟩) (h _ (fr.put hn))
theorem IQ[Dr](i:Nat){v:Value}{j s:Nat}{want b:Bool}{oj:Oper}(hq:JG Q)(hI:Inv w)(ho:IB l i=some ⟨some d,op,ty,pos,af,some (j,want)⟩)(hj:IB l j=some oj)(hd:oj.dst=some s)(hb:gt L s=some (.bool b))(hw:b=want)(hr:∀ w,Inv w->BG P L w op ty v)(hn:Qq9 d n.n=true)
  (h:Nw Inv P n l Q fuel (PT m (i::done)) ((d,v)::L) w)(hc:(Tm l m done i&&ClB l.toArray (PT m done))=true:=by kernel_rfl):Nw Inv P n l Q (fuel+1) (PT m done) L w:=fun a fr=>by
 simp only [Tm,Qzb] at hc;obtain⟨⟨⟨f,h2⟩,h3⟩,g⟩:=hc;have ho':l.toArray[i]? = some ⟨some d,op,ty,pos,af,some (j,want)⟩:=by rw [Ht] at ho;simpa using ho
 have hj':l.toArray[j]? = some oj:=by rw [Ht] at hj;simpa using hj
 have hy:yielded l.toArray a.tmps j=some b:=by simp only [yielded,hj',Qq5,hd,fr.get s _ hb]
 refine RV (v:=v) ho' (Region.noSelect_spec f) (fun c a w k=>hq c a _ _ w k) _ _ a w (Region.free_spec ho' h2) (by simpa using h3) (AdG g) hI
  (.inl ⟨by simp [Region.wanted,hy,hw],fun w' hw'=>?_⟩) (h _ (fr.put hn))
 have e:execOp a.eval ⟨some d,op,ty,pos,af,some (j,want)⟩=execOp a.eval ⟨some d,op,ty,pos,af,none⟩:=Z;rw [e];exact hr w' hw' w' (Ext.refl _) _ fr.TR _ _ _ _
theorem C8(i:Nat){j s:Nat}{want b:Bool}{oj:Oper}(hq:JG Q)(hI:Inv w)(ho:IB l i=some ⟨some d,op,ty,pos,af,some (j,want)⟩)(hj:IB l j=some oj)(hd:oj.dst=some s)(hb:gt L s=some (.bool b))(hw:b = !want)(hn:Qq9 d n.n=true)
  (h:Nw Inv P n l Q fuel (PT m (i::done)) ((d,undef)::L) w)(hc:(Tm l m done i&&ClB l.toArray (PT m done))=true:=by kernel_rfl):Nw Inv P n l Q (fuel+1) (PT m done) L w:=fun a fr=>by
 simp only [Tm,Qzb] at hc;obtain⟨⟨⟨e,h2⟩,h3⟩,f⟩:=hc;have ho':l.toArray[i]? = some ⟨some d,op,ty,pos,af,some (j,want)⟩:=by rw [Ht] at ho;simpa using ho
 have hj':l.toArray[j]? = some oj:=by rw [Ht] at hj;simpa using hj
 have hy:yielded l.toArray a.tmps j=some b:=by simp only [yielded,hj',Qq5,hd,fr.get s _ hb]
 exact RV (v:=undef) ho' (Region.noSelect_spec e) (fun c a w k=>hq c a _ _ w k) _ _ a w (Region.free_spec ho' h2) (by simpa using h3) (AdG f) hI
  (.inr ⟨by simp [Region.wanted,hy,hw],Z⟩) (h _ (fr.put hn))
theorem Aaf{w:World}{b:Nat}{cs:List Value}{t:TypeId}(h:w.heap[b]? = some (.cells cs.toArray t (0,0))):IM (hp w) ⟨b,0,none⟩ cs:=
 ⟨Z,fun j u hu=>by
  show IE (hp w) (Addr.add ⟨b,0,none⟩ j)=some u
  simp only [Addr.add_lit,IE,hp,h]
  simpa using hu⟩
theorem KK[Dr]{b off:Nat}{cs:List Value}{t t':TypeId}{x:Operand}{u:Value}{dd:TypeDesc}(hx:ev L x=some (.pointer (some ⟨b,off,none⟩)))[ht:Qqq (P.underlying t) (some dd)][hd:Qqq (UN dd) true](h:w.heap[b]? = some (.cells cs.toArray t' (0,0)))(hu:nth cs off=some u):BG P L w (.load t x) ty u:=by
 have a:=(Aaf h).add off;obtain⟨c,hc⟩:=US cs off u hu;rw [hc] at a;simp only [Addr.add_lit,Qzc] at a;exact Bl (hx:=⟨hx⟩) (ht:=⟨ht.e⟩) (hd:=⟨hd.e⟩) a (Le.refl _)
theorem LM[Dr]{b:Nat}{cs:List Value}{t t':TypeId}{x:Operand}{dd:TypeDesc}{zz:Value}{bt:Nat}[hx:Qqq (ev L x) (some (.pointer (some ⟨b,0,none⟩)))][ht:Qqq (P.underlying t) (some dd)][hd:Qqq (YC dd) true][hz:Qqx P t zz cs.length bt](h:w.heap[b]? = some (.cells cs.toArray t' (0,0))):BG P L w (.load t x) ty (.agg cs.toArray):=
 Cz (hx:=⟨hx.e⟩) (ht:=⟨ht.e⟩) (hd:=⟨hd.e⟩) (hz:=⟨hz.e⟩) (Aaf h) (Le.refl _)
theorem Agd[Dr]{κ:Type}[DecidableEq κ]{enc:κ->Value}{l:List κ}{vs:List Value}{k:κ}{b m:Nat}{t kt et:TypeId}{x y:Operand}{z:Value}[hx:Qqq (ev L x) (some (.map (some b)))](hy:ev L y=some (enc k))[ht:Qqq (P.underlying t) (some (.map kt et))](hk:PU P kt enc)(hz:Mz P et z)
  (h:w.heap[b]? = some (.map (mE enc 0 l vs).toArray m)) (hl:l.length=vs.length):BG P L w (.lookup t x y false) ty (lkV z k l vs):=fun w' hx' ρ hρ dst pos af g=>by
 have hb:=hx'.le b _ h;have:=Vi (k:=k) hk ht.e hz hb hl;simp [execOp,hρ x _ hx.e,hρ y _ hy,this]
end
end Go.E
namespace Go.E
open Go Go.RowKit
section
variable {P:Program} {L:Env} {w w0:World} {O:List BS} {x y:Operand} {ty t t' e src dst u T:TypeId} {b:Nat} {cs:List Value}
end
def BAd(b:Nat)(v:Value):Prop:=v=.pointer none\/v=.pointer (some ⟨b,0,none⟩)
theorem BAd.one{b:Nat}{v:Value}(h:BAd b v):v.oneCell'=true:=by rcases h with rfl | rfl <;> rfl
section
variable {P:Program} {n:Sz} {ops:Array Oper} {Q:Exit->Act->World->Prop} {L:Env} {w w0:World} {O:List BS} {rest:List Oper} {d:Nat} {ty pt it e:TypeId} {pos:String} {af:Array Edge} {x y:Operand} {H:PH}
end
end Go.E
end
noncomputable section
namespace Go.L
inductive Pv where
 | mk (kind number:Int) (bytes:List UInt8) (names:List (List UInt8)) (parts:List Pv)
instance:Inhabited Pv:=⟨.mk 0 0 [] [] []⟩
abbrev PvF:Type:=Int×Int×List UInt8×List (List UInt8)×List Pv
def Pv.f:Pv->PvF
 | .mk k n b ns ps=>(k,n,b,ns,ps)
end Go.L
namespace Go.E
open Go Go.L
variable {α β:Type}
def Rp.via(r:Rp β)(f:α->β):Rp α:=⟨r.sz,fun H x c=>r.rel H (f x) c,fun h=>r.len h,fun hs h=>r.mono hs h,fun h=>r.one h⟩
def Rp.no(α:Type)(n:Nat):Rp α:=⟨n,fun _ _ _=>False,fun h=>h.elim,fun _ h=>h,fun h=>h.elim⟩
theorem AJ.AdJ{r s:Rp α}{H:PH}{v:Value}{l:List α}(hz:r.sz=s.sz)(h:AJ r H v l)(hrel:∀ x∈l,∀ c,r.rel H x c->s.rel H x c):AJ s H v l:=by
 obtain⟨a,cap,b,h2,h3,d,e⟩:=h.ex;refine⟨a,cap,b,h2,h3,d,fun A hA hl=>?_⟩;obtain⟨f,g⟩:=e A hA hl;refine⟨f,fun i x hx=>?_⟩;obtain⟨c,hc,hcell⟩:=g i x hx;exact⟨c,hrel x (List.mem_of_getElem? hx) c hc,fun j u hu=>by rw [<- hz];exact hcell j u hu⟩
def Rp.fields(r:Rp Pv):Rp PvF:=.pair (.int .i64) (.pair (.int .i64) (.pair (.vec .byte) (.pair (.vec .st) (.vec r))))
def Rp.NS:Nat->Rp Pv
 | 0=>.no Pv 5
 | d+1=>(Rp.fields (Rp.NS d)).via Pv.f
theorem Rp.Q3:∀ d,(Rp.NS d).sz=5
 | 0=>rfl
 | _+1=>rfl
theorem Rp.WQ{r s:Rp Pv}{H:PH}{x:PvF}{c:List Value}(hz:r.sz=s.sz)(hrel:∀ y∈x.2.2.2.2,∀ c,r.rel H y c->s.rel H y c)(h:(Rp.fields r).rel H x c):(Rp.fields s).rel H x c:=by
 obtain⟨c1,c2,a,b,c3,c4,d,h2,c5,c6,e,h3,c7,c8,f,g,v,i,j⟩:=h;exact⟨c1,c2,a,b,c3,c4,d,h2,c5,c6,e,h3,c7,c8,f,g,v,i,j.AdJ hz hrel⟩
theorem Rp.Vn{H:PH}:∀ (d:Nat) (x:Pv) (c:List Value),(Rp.NS d).rel H x c->(Rp.NS (d+1)).rel H x c
 | 0,_,_,h=>h.elim
 | d+1,x,c,h=>Rp.WQ (r:=Rp.NS d) (s:=Rp.NS (d+1)) (by rw [Rp.Q3,Rp.Q3]) (fun y _ c h=>Rp.Vn d y c h) h
theorem Rp.YP{H:PH}{d e:Nat}(h:d<=e){x:Pv}{c:List Value}(hx:(Rp.NS d).rel H x c):(Rp.NS e).rel H x c:=by
 induction h with
 | refl=>exact hx
 | step _ ih=>exact Rp.Vn _ _ _ ih
def Rp.tree:Rp Pv:=⟨5,fun H x c=>∃ d,(Rp.NS d).rel H x c,fun h=>by obtain⟨d,h⟩:=h;rw [(Rp.NS d).len h,Rp.Q3],fun hs h=>by obtain⟨d,h⟩:=h;exact⟨d,(Rp.NS d).mono hs h⟩,fun h=>by obtain⟨d,h⟩:=h;exact(Rp.NS d).one h⟩
theorem Rp.OS{H:PH}{x:Pv}{c:List Value}(h:Rp.tree.rel H x c):(Rp.fields Rp.tree).rel H x.f c:=by
 obtain⟨d,h⟩:=h
 cases d with
 | zero=>exact h.elim
 | succ d=>exact Rp.WQ (r:=Rp.NS d) (s:=Rp.tree) (Rp.Q3 d) (fun y _ c h=>⟨d,h⟩) h
theorem AJ.bound{H:PH}{v:Value}{l:List Pv}(h:AJ Rp.tree H v l):∃ d,AJ (Rp.NS d) H v l:=by
 obtain⟨a,cap,b,h2,h3,f,g⟩:=h.ex
 cases a with
 | none=>exact⟨0,none,cap,b,h2,h3,f,fun A hA=>by cases hA⟩
 | some A=>
  have key:∀ n,∃ d,∀ i x,i<n->l≠[]->l[i]? = some x->∃ c,(Rp.NS d).rel H x c/\∀ j u,c[j]? = some u->IE H (A.add (i * 5+j))=some u:=by
   intro n
   induction n with
   | zero=>exact⟨0,fun i x hi=>absurd hi (Nat.not_lt_zero i)⟩
   | succ n ih=>
    obtain⟨d,hd⟩:=ih
    by_cases hl:l=[]
    ·exact⟨0,fun i x _ hn=>absurd hl hn⟩
    cases hx:l[n]? with
    | none=>
     refine⟨d,fun i x hi hn he=>?_⟩
     rcases Qjk.1 hi with hi | rfl
     ·exact hd i x hi hn he
     ·rw [hx] at he
      cases he
    | some y=>
     obtain⟨c,⟨e,hc⟩,hcell⟩:=(g A Z hl).2 n y hx;refine⟨max d e,fun i x hi hn he=>?_⟩
     rcases Qjk.1 hi with hi | rfl
     ·obtain⟨c',k,m⟩:=hd i x hi hn he;exact⟨c',Rp.YP (Nat.le_max_left ..) k,m⟩
     ·rw [hx] at he
      cases he
      exact⟨c,Rp.YP (Nat.le_max_right ..) hc,hcell⟩
  obtain⟨d,hd⟩:=key l.length;refine⟨d,some A,cap,b,h2,h3,f,fun B hB hl=>?_⟩
  cases hB
  refine⟨(g A Z hl).1,fun i x hx=>?_⟩;rw [Rp.Q3];exact hd i x (QzD.1 hx).1 hl hx
theorem Rp.ET{H:PH}{x:Pv}{c:List Value}(h:(Rp.fields Rp.tree).rel H x.f c):Rp.tree.rel H x c:=by
 obtain⟨c1,c2,a,b,c3,c4,e,h2,c5,c6,g,h3,c7,c8,i,j,v,k,l⟩:=h;obtain⟨d,hd⟩:=l.bound;exact⟨d+1,c1,c2,a,b,c3,c4,e,h2,c5,c6,g,h3,c7,c8,i,j,v,k,hd⟩
end Go.E
namespace Go.E
open Go Go.RowKit
def L5(h:List UInt8×Int×Int×List UInt8):Value:=.agg #[.string ⟨h.1.toArray⟩,.int .i64 h.2.1,.int .i64 h.2.2.1,.string ⟨h.2.2.2.toArray⟩]
theorem AdK{P:Program}{kt:TypeId}{fs:Array Field}(hd:P.underlying kt=some (.struct fs))(hc:∀ (b:Bool) (s m:List UInt8) (x y:Int) w,(Instr.checkKey b 10000 kt (.agg #[.string ⟨s.toArray⟩,.int .i64 x,.int .i64 y,.string ⟨m.toArray⟩])).run P w=.ok () w)
  (he:∀ (s s' m m':List UInt8) (x x' y y':Int) w,(Op.equalIn 10000 kt (.agg #[.string ⟨s.toArray⟩,.int .i64 x,.int .i64 y,.string ⟨m.toArray⟩]) (.agg #[.string ⟨s'.toArray⟩,.int .i64 x',.int .i64 y',.string ⟨m'.toArray⟩])).run P w=.ok (decide (s=s'/\x=x'/\y=y'/\m=m')) w):PU P kt L5:=
 ⟨fun b k w=>hc b k.1 k.2.2.2 k.2.1 k.2.2.1 w,
  fun k=>by
   obtain⟨d,he⟩:∃ d,10000=d+1:=⟨9999,Z⟩;rw [he]
   cases d <;> simp [Instr.sameBits,L5,YO],
  ⟨_,hd,.inr ⟨fun a b=>Z,fun a b w=>by
   obtain⟨a1,a2,a3,a4⟩:=a;obtain⟨c,e,f,g⟩:=b;have:=he a1 c a4 g a2 e a3 f w;unfold Op.equal;rw [show Op.maxDepth=10000 from Z];simp only [L5];rw [this]
   congr 1
   rw [Qz3];simp⟩⟩⟩
section
variable {P:Program} {L:Env} {w:World} {t t' ty:TypeId} {x y:Operand}
theorem XJ{v:Nat}(h:v<2 ^ 64):IntKind.u64.wrap (v:Int)=(v:Int):=by
 simp only [IntKind.wrap];simp [IntKind.bits,IntKind.signed] <;> omega
theorem Aib[Dr]{op:BinOp}{c:Nat}{p q:Int}[hx:Qqq (ev L x) (some (.int .u64 p))][hy:Qqq (ev L y) (some (.int .u64 q))](ho:AiJ op p.toNat q.toNat=some c)(h:(0<=p/\p<2 ^ 64)/\(0<=q/\q<2 ^ 64)):BG P L w (.binOp op t x y t') ty (.int .u64 (c:Int)):=by
 intro w' _ ρ hρ dst pos af g;obtain⟨a,rfl⟩:=QxJ h.1.1;obtain⟨b,rfl⟩:=QxJ h.2.1;rw [Qq8,Qq8] at ho;have ha:a<2 ^ 64:=by omega
 have hb:b<2 ^ 64:=by omega
 have ea:(Qxb 64 (a:Int)).toNat=a:=by simp;omega
 have eb:(Qxb 64 (b:Int)).toNat=b:=by simp;omega
 cases op <;> simp only [AiJ,Option.some.injEq,reduceCtorEq] at ho <;> subst ho
 ·have e:(Op.intBits .and .u64 (a:Int) (b:Int)).run P w'=.ok (.int .u64 ((a &&& b:Nat):Int)) w':=by
   show Result.ok (Value.int .u64 (IntKind.u64.wrap ((Qxb 64 (a:Int) &&& Qxb 64 (b:Int)).toNat:Int))) w'=_
   rw [BitVec.toNat_and,ea,eb,XJ (Nat.and_lt_two_pow _ hb)]
  simp only [execOp,hρ x _ hx.e,hρ y _ hy.e,eqGuard,binOp,Sem.run_bind,ne_eq,not_true_eq_false,if_false,Qkb,if_true,Sem.run_pure,Result.andThen_ok,e]
 ·have e:(Op.intBits .or .u64 (a:Int) (b:Int)).run P w'=.ok (.int .u64 ((a ||| b:Nat):Int)) w':=by
   show Result.ok (Value.int .u64 (IntKind.u64.wrap ((Qxb 64 (a:Int) ||| Qxb 64 (b:Int)).toNat:Int))) w'=_
   rw [BitVec.toNat_or,ea,eb,XJ (Nat.or_lt_two_pow ha hb)]
  simp only [execOp,hρ x _ hx.e,hρ y _ hy.e,eqGuard,binOp,Sem.run_bind,ne_eq,not_true_eq_false,if_false,Qkb,if_true,Sem.run_pure,Result.andThen_ok,e]
 ·have e:(Op.intBits .xor .u64 (a:Int) (b:Int)).run P w'=.ok (.int .u64 ((a ^^^ b:Nat):Int)) w':=by
   show Result.ok (Value.int .u64 (IntKind.u64.wrap ((Qxb 64 (a:Int) ^^^ Qxb 64 (b:Int)).toNat:Int))) w'=_
   rw [BitVec.toNat_xor,ea,eb,XJ (Nat.xor_lt_two_pow ha hb)]
  simp only [execOp,hρ x _ hx.e,hρ y _ hy.e,eqGuard,binOp,Sem.run_bind,ne_eq,not_true_eq_false,if_false,Qkb,if_true,Sem.run_pure,Result.andThen_ok,e]
end
end Go.E
end
noncomputable section
namespace Go.E
open Go Go.RowKit
section
variable {P:Program} {L:Env} {w:World} {t ty:TypeId} {x a b:Operand} {l:List UInt8} {k k':IntKind} {i j:Int}
theorem P1(l:List UInt8)(a b:Nat):(⟨l.toArray⟩:ByteArray).extract a b=⟨((l.drop a).take (b - a)).toArray⟩:=by
 apply ByteArray.ext;rw [ByteArray.data_extract];simp [List.extract_eq_take_drop]
theorem Ah3[Dr]{lo hi:Option Operand}(hx:ev L x=some (.string ⟨l.toArray⟩))(ht:P.underlying t=some .string)(a b:Nat)(ha:loB L lo a)(hb:hiB L hi b l.length)(d:a<=b)(h2:b<=l.length):
  BG P L w (.slice t x lo hi none) ty (.string ⟨((l.drop a).take (b - a)).toArray⟩):=by
 intro w' _ ρ hρ dst pos af g;have hs:(ByteArray.mk l.toArray).size=l.length:=by simp [Qxc]
 have i:(a:Int)<=(b:Int):=by omega
 have j:(b:Int)<=(l.length:Int):=by omega
 have k:(a:Int)<=(l.length:Int):=by omega
 cases lo with
 | none=>
  simp only [loB] at ha;subst ha
  cases hi with
  | none=>
   simp only [hiB] at hb;subst hb;simp [execOp,hρ x _ hx,Instr.sliceAt,run_underlying ht,Instr.slice,Instr.sliceBounds,hs,P1]
  | some c=>
   obtain⟨f,hb⟩:=hb;simp [execOp,hρ x _ hx,hρ c _ hb,Instr.sliceAt,run_underlying ht,Instr.slice,Instr.sliceBounds,Instr.sliceBound,asIntOf,hs,h2,P1]
 | some e=>
  obtain⟨m,ha⟩:=ha
  cases hi with
  | none=>
   simp only [hiB] at hb;subst hb;simp [execOp,hρ x _ hx,hρ e _ ha,Instr.sliceAt,run_underlying ht,Instr.slice,Instr.sliceBounds,Instr.sliceBound,asIntOf,hs,d,P1]
  | some c=>
   obtain⟨f,hb⟩:=hb;simp [execOp,hρ x _ hx,hρ e _ ha,hρ c _ hb,Instr.sliceAt,run_underlying ht,Instr.slice,Instr.sliceBounds,Instr.sliceBound,asIntOf,hs,d,h2,P1]
theorem Aag[Dr][hx:Qqq (ev L x) (some (.string ⟨l.toArray⟩))][ha:Qqq (ev L a) (some (.int k i))][ht:Qqq (P.underlying t) (some .string)](hc:0<=i/\i<=(l.length:Int)):
  BG P L w (.slice t x (some a) none none) ty (.string ⟨(l.drop i.toNat).toArray⟩):=by
 have:=Ah3 (P:=P) (w:=w) (ty:=ty) hx.e ht.e i.toNat l.length (lo:=some a) (hi:=none) ⟨k,by rw [QxB U];exact ha.e⟩ Z U U
 rwa [Qxk Qqd] at this
theorem AdL[Dr][hx:Qqq (ev L x) (some (.string ⟨l.toArray⟩))][hb:Qqq (ev L b) (some (.int k' j))][ht:Qqq (P.underlying t) (some .string)](hc:0<=j/\j<=(l.length:Int)):
  BG P L w (.slice t x none (some b) none) ty (.string ⟨(l.take j.toNat).toArray⟩):=by
 have:=Ah3 (P:=P) (w:=w) (ty:=ty) hx.e ht.e 0 j.toNat (lo:=none) (hi:=some b) Z ⟨k',by rw [QxB U];exact hb.e⟩ U U
 simpa using this
end
section
variable {P:Program} {n:Sz} {Q:Exit->Act->World->Prop} {L:Env} {w w0:World} {O:List BS} {lop:List Oper} {ix:Nat} {tr:Tr}
 {d:Nat} {ty:TypeId} {pos:String} {af:Array Edge} {α:Type} {r:Rp α} {x a b:Operand} {v:Value} {t t' e:TypeId} {H:PH} {l:List α} {k k':IntKind} {i j:Int} {zz:Value} {bt:Nat} {jg sg:Nat} {want bb:Bool} {oj:Oper}
theorem AdM[Dr]{lo hi:Option Operand}(ho:IB lop ix=some ⟨some d,.slice t x lo hi none,ty,pos,af,some (jg,want)⟩)(hj:IB lop jg=some oj)(hd:oj.dst=some sg)(hg:gt L sg=some (.bool bb))(hw:bb=want)(hx:ev L x=some v)(ht:P.underlying t=some (.slice e))(he:Zr P e zz r.sz bt)(hv:AJ r H v l)(a b:Nat)
  (ha:loB L lo a) (hb:hiB L hi b l.length) (hab:a<=b/\b<=l.length) (hn:Qq9 d n.n=true)
  (h:∀ v',AJ r H v' ((l.drop a).take (b - a))->D P n lop Q tr ((d,v')::L) w):D P n lop Q (.q ix tr) L w:=by
 obtain⟨v',c,h2⟩:=X3 (P:=P) (ty:=ty) hx ht he hv a b ha hb hab.1 hab.2;exact Qu ho (h2 w) hj hd hg hw hn (h v' c)
theorem Rg[Dr](ho:IB lop ix=some ⟨some d,.slice t x (some a) none none,ty,pos,af,some (jg,want)⟩)[hj:Qqq (IB lop jg) (some oj)][hd:Qqq oj.dst (some sg)][hg:Qqq (gt L sg) (some (.bool bb))](hw:bb=want)(hx:ev L x=some v)[ha:Qqq (ev L a) (some (.int k i))](ht:P.underlying t=some (.slice e))[he:Qqx P e zz r.sz bt](hv:AJ r H v l)(hc:0<=i/\i<=(l.length:Int))(hn:Qq9 d n.n=true)
  (h:∀ v',AJ r H v' (l.drop i.toNat)->D P n lop Q tr ((d,v')::L) w):D P n lop Q (.q ix tr) L w:=
 AdM ho hj.e hd.e hg.e hw hx ht he.e hv i.toNat l.length ⟨k,by rw [QxB U];exact ha.e⟩ Z U hn fun v' h'=>h v' (by rwa [Qxk Qqd] at h')
theorem Vo[Dr]{l:List UInt8}{u:TypeDesc}(ho:IB lop ix=some ⟨some d,.convert t' t x,ty,pos,af,none⟩)(hx:ev L x=some (.string ⟨l.toArray⟩))(ht:P.underlying t'=some u)(ht':P.underlying t=some (.slice e))(he:P.underlying e=some (.int .u8))(hn:Qq9 d n.n=true)(hL:Bb w0 O w)(hl:l.length<=9223372036854775807)
  (h:∀ v w',Ext w w'->Bb w0 O w'->Le (fz w O) (fz w' O)->AJ .byte (gz H w0 w' O) v l->D P n lop Q tr ((d,v)::L) w'):D P n lop Q (.h ix tr) L w:=by
 have hs:(ByteArray.mk l.toArray).size=l.length:=by simp [Qxc]
 refine Abc (fun a u w'=>u=.slice (some ⟨a.heap.size,0,none⟩) l.length (grownCap a l.length 0 e)/\w'=Lib.bytesWorld a e ⟨l.toArray⟩) ho hn (fun a b ρ hρ=>?_) (fun a u w' b j hR=>?_)
 ·have:=Lib.run_convert_string_bytes (P:=P) a t' t e ⟨l.toArray⟩ ht ht' he;rw [hs] at this;exact⟨_,_,by simp [execOp,hρ x _ hx,this],(Tn a e hl).1,Z,Z⟩
 ·obtain⟨rfl,rfl⟩:=hR;obtain⟨g,h2⟩:=Tn a e hl;have c:=hL.call b;exact h _ _ (b.trans g) (c.call g) ((AR hL b).trans (AR c g)) (h2.mono (Va c))
end
section
variable {P:Program} {n:Sz} {ops:Array Oper} {Q:Exit->Act->World->Prop} {L:Env} {w w0:World} {O:List BS} {l:List Oper} {i:Nat} {t:Tr} {rest:List Oper}
 {d:Nat} {ty:TypeId} {pos:String} {af:Array Edge} {f:FuncId} {args:List Operand} {vs:List Value} {at_:Array TypeId} {fo:Operand}
theorem OT[Dr]{R:Value->World->Prop}[hf:Qqq (ev L fo) (some (.func (.func f) #[] #[]))][ha:Qqq (Sk L args) (some vs)][hn:Qqq (Qq9 d n.n) true](hL:Bb w0 O w)(hok:Ok P f vs w (fun v w'=>Ext w w'/\R v w'))
  (h:∀ v w',R v w'->Ext w w'->Bb w0 O w'->Le (fz w O) (fz w' O)->S P n ops Q rest ((d,v)::L) w'):S P n ops Q (⟨some d,.call ⟨.value fo,args.toArray,at_⟩,ty,pos,af,none⟩::rest) L w:=
 Fl (cap:=[]) (R:=fun v w'=>Ext w w'/\R v w') hf.e ha.e (hn:=⟨hn.e⟩) (by rw [QzX];exact hok) fun v w' hh=>h v w' hh.2 hh.1 (hL.call hh.1) (AR hL hh.1)
end
end Go.E
namespace Go.E
open Go
theorem Vp(place:Nat->Option (Nat×Nat)):∀ (l m:List (Nat×Value)) (cells:Array Value),l.map (fun p=>(p.1,p.2.cells))=m.map (fun p=>(p.1,p.2.cells))->Instr.fill place cells l=Instr.fill place cells m
 | [],[],_,_=>rfl
 | [],_::_,_,h=>by cases h
 | _::_,[],_,h=>by cases h
 | (i,v)::l,(j,u)::m,cells,h=>by
  simp only [Qzd,List.cons.injEq,Prod.mk.injEq] at h;obtain⟨⟨rfl,a⟩,h2⟩:=h;unfold Instr.fill;rw [a]
  split
  ·rfl
  ·split
   ·rfl
   ·exact Vp place l m _ h2
theorem YQ{P:Program}{t:TypeId}{n:Nat}{ps qs:Array (Nat×Value)}{w:World}(h:ps.toList.map (fun p=>(p.1,p.2.cells))=qs.toList.map (fun p=>(p.1,p.2.cells))):(Instr.buildSlice t n ps).run P w=(Instr.buildSlice t n qs).run P w:=by
 unfold Instr.buildSlice;simp only [Vp _ _ _ _ h]
theorem M4{v:Value}(h:v.oneCell'=true):v.cells=(Value.agg #[v]).cells:=by
 cases v <;> first | rfl | cases h
end Go.E
namespace Go.E
open Go
theorem AiQ {P : Program} {t : TypeId} {f0 f1 f2 f3 : Field} {d f : IntKind} (ht : P.underlying t = some (.struct (P.fieldsOf t))) (hp : P.stoodInHeld t = false) (hf : (P.fieldsOf t).toList = [f0, f1, f2, f3]) (i : f0.name ≠ "_" /\ f0.offset = 0) (j : f1.name ≠ "_" /\ f1.offset = 1) (h2 : f2.name ≠ "_" /\ f2.offset = 2) (h3 : f3.name ≠ "_" /\ f3.offset = 3)
  (k:P.underlying f0.type=some .string) (l:P.underlying f1.type=some (.int d)) (o:P.underlying f2.type=some (.int f)) (p:P.underlying f3.type=some .string) (s m:List UInt8) (a b:Int) (g h:List UInt8) (c e:Int) (w:World) :
  (Op.equalIn 10000 t (.agg #[.string ⟨s.toArray⟩,.int d a,.int f b,.string ⟨m.toArray⟩]) (.agg #[.string ⟨g.toArray⟩,.int d c,.int f e,.string ⟨h.toArray⟩])).run P w=.ok (decide (s=g/\a=c/\b=e/\m=h)) w:=by
 rw [run_equalIn_struct w 9999 t _ _ ht hp,hf]
 have hs:∀ (dd:Nat) (s m:List UInt8),(Op.equalIn (dd+1) f0.type (.string ⟨s.toArray⟩) (.string ⟨m.toArray⟩)).run P w=.ok (decide (s=m)) w:=fun dd s m=>by
  simp [Op.equalIn,run_underlying k,YO]
 have q:∀ (dd:Nat) (s m:List UInt8),(Op.equalIn (dd+1) f3.type (.string ⟨s.toArray⟩) (.string ⟨m.toArray⟩)).run P w=.ok (decide (s=m)) w:=fun dd s m=>by
  simp [Op.equalIn,run_underlying p,YO]
 have key:∀ dd:Nat,(Op.eqFields (dd+1) #[.string ⟨s.toArray⟩,.int d a,.int f b,.string ⟨m.toArray⟩] #[.string ⟨g.toArray⟩,.int d c,.int f e,.string ⟨h.toArray⟩] [f0,f1,f2,f3]).run P w=.ok (decide (s=g/\a=c/\b=e/\m=h)) w:=by
  intro dd
  by_cases z:s=g <;> by_cases e1:a=c <;> by_cases e2:b=e <;> by_cases e3:m=h <;>
   simp [Op.eqFields,i.1,j.1,h2.1,h3.1,i.2,j.2,h2.2,h3.2,part,isAgg,run_underlying k,run_underlying l,run_underlying o,run_underlying p,hs,q,run_equalIn_int w dd _ _ _ _ _ l,run_equalIn_int w dd _ _ _ _ _ o,z,e1,e2,e3]
 exact key 9998
end Go.E
namespace Go.E
open Go Go.RowKit
section
variable {P:Program} {n:Sz} {ops:Array Oper} {Q:Exit->Act->World->Prop} {L:Env} {w w0:World} {O:List BS} {rest:List Oper}
 {ty:TypeId} {pos:String} {af:Array Edge} {α:Type} {r:Rp α} {x y:Operand} {u v:Value} {t e:TypeId} {H:PH}
end
end Go.E
end
noncomputable section
namespace Go.L
def GH(r:Int):List UInt8:=(Go.Utf8.encode r).data.toList
def Tt(l:List UInt8)(p:Nat):Nat×Nat:=Go.Utf8.decode ⟨l.toArray⟩ p
def EU{κ α:Type}[DecidableEq κ](k:κ)(l:List (κ×List α)):List (κ×List α):=Ge k (BV [] k l) l
end Go.L
namespace Go.E
open Go Go.RowKit
section
variable {P:Program} {n:Sz} {ops:Array Oper} {Q:Exit->Act->World->Prop} {L:Env} {w w0:World} {O:List BS} {rest:List Oper} {d:Nat} {ty t t':TypeId} {pos:String} {af:Array Edge} {x y x':Operand} {l:List UInt8}
theorem AiR[Dr]{a:Int}(hx:ev L x=some (.int .i32 a))[ht:Qqq (P.underlying t) (some (.int .i32))][ht':Qqq (P.underlying t') (some .string)]:BG P L w (.convert t t' x) ty (.string ⟨(Go.L.GH a).toArray⟩):=by
 intro w' _ ρ hρ dst pos af g;have e:(⟨(Go.L.GH a).toArray⟩:ByteArray)=Utf8.encode a:=by unfold Go.L.GH;rw [Array.toArray_toList]
 rw [e];simp [execOp,hρ x _ hx,convert,run_underlying ht.e,run_underlying ht'.e,Conv.intToString]
theorem YR[Dr](hx:ev L x=some (.string ⟨l.toArray⟩))[ht:Qqq (P.underlying t) (some .string)][hn:Qqq (Qq9 d n.n) true](hL:Bb w0 O w)
  (h:∀ w' b,Bb w0 (.obj b (.stringIter ⟨l.toArray⟩ 0)::O) w'->Le (fz w O) (fz w' (.obj b (.stringIter ⟨l.toArray⟩ 0)::O))->S P n ops Q rest ((d,.pointer (some ⟨b,0,none⟩))::L) w'):S P n ops Q (⟨some d,.range t x,ty,pos,af,none⟩::rest) L w:=by
 have hb:∀ b,(BS.obj w.heap.size (.stringIter ⟨l.toArray⟩ 0)).block=some b->w.heap.size<=b:=fun b e=>by cases e;exact Qzx _
 refine EN (v:=.pointer (some ⟨w.heap.size,0,none⟩)) (w':=w.alloc (.stringIter ⟨l.toArray⟩ 0)) hn.e (fun ρ hρ=>?_) (h _ _ (hL.new (Dy w _) (World.alloc_heap_new w _) hb) (RS hL (Dy w _) hb));simp [execOp,Instr.range,run_underlying ht.e,hρ x _ hx,newObj,Sem.run]
theorem Abv[Dr](i:Nat){b p:Nat}(hx:ev L x=some (.pointer (some ⟨b,0,none⟩)))[hn:Qqq (Qq9 d n.n) true](hL:Bb w0 O w)(hi:ED O i=some (.obj b (.stringIter ⟨l.toArray⟩ p)))
  (a:p<l.length->∀ w',Bb w0 (DB O i (.obj b (.stringIter ⟨l.toArray⟩ (p+(Go.L.Tt l p).2)))) w'->Le (fz w O) (fz w' (DB O i (.obj b (.stringIter ⟨l.toArray⟩ (p+(Go.L.Tt l p).2)))))->S P n ops Q rest ((d,.tuple #[.bool true,.int .i64 (p:Int),.int .i32 ((Go.L.Tt l p).1:Int)])::L) w')
  (h2 : ¬ p<l.length->S P n ops Q rest ((d,.tuple #[.bool false])::L) w):S P n ops Q (⟨some d,.next x true,ty,pos,af,none⟩::rest) L w:=by
 have hb:w.heap[b]? = some (.stringIter ⟨l.toArray⟩ p):=hL.at hi;have hs:(ByteArray.mk l.toArray).size=l.length:=by simp [Qxc]
 by_cases hp:p<l.length
 ·have hr:=Lib.run_next_any_at (P:=P) w b ⟨l.toArray⟩ p ty hb (by rw [hs];exact hp);have hput:=hL.putAt (.stringIter ⟨l.toArray⟩ (p+(Go.L.Tt l p).2)) hi;refine EN (v:=.tuple #[.bool true,.int .i64 (p:Int),.int .i32 ((Go.L.Tt l p).1:Int)]) (w':=_) hn.e (fun ρ hρ=>?_) (a hp _ hput.1 hput.2);have e:w.iterAt b ⟨l.toArray⟩ (p+(Utf8.decode ⟨l.toArray⟩ p).2)=w.putObj b (.stringIter ⟨l.toArray⟩ (p+(Go.L.Tt l p).2)):=Z;rw [e] at hr;simp [execOp,hρ x _ hx,hr,Go.L.Tt]
 ·have hr:=Lib.run_next_end_at (P:=P) w b ⟨l.toArray⟩ p ty hb (by rw [hs];exact hp);refine EN (v:=.tuple #[.bool false]) (w':=w) hn.e (fun ρ hρ=>?_) (h2 hp);simp [execOp,hρ x _ hx,hr]
end
section
variable {κ:Type} {enc:κ->Value} {k:κ}
theorem Abw:∀ (l:List κ) (vs:List Value) (i m:Nat),l.length=vs.length->l[m]? = some k->(mE enc i l vs).modify m (fun e=>{e with key:=enc k})=mE enc i l vs
 | b::l,u::vs,i,0,_,h=>by simp at h;subst h;simp [mE]
 | b::l,u::vs,i,m+1,hl,h=>by
  have:=Abw l vs (i+1) m (by simpa using hl) (by simpa using h);simp only [mE,List.modify_succ_cons,this]
theorem Abx{v:Value}:∀ (l:List κ) (vs:List Value) (i m:Nat),l.length=vs.length->(mE enc i l vs).modify m (fun e=>{e with val:=v})=mE enc i l (vs.set m v)
 | [],[],_,_,_=>by simp [mE]
 | b::l,u::vs,i,0,_=>by simp [mE]
 | b::l,u::vs,i,m+1,hl=>by
  have:=Abx (v:=v) l vs (i+1) m (by simpa using hl);simp only [mE,List.modify_succ_cons,List.set_cons_succ,this]
theorem Rh:∀ (l:List κ) (vs:List Value) (i m:Nat),l.length=vs.length->m<l.length->(mE enc i l vs).findIdx? (fun e=>(e.born:Int)==((i+m:Nat):Int))=some m
 | b::l,u::vs,i,0,_,_=>by simp [mE,List.findIdx?_cons]
 | b::l,u::vs,i,m+1,hl,h=>by
  have:=Rh l vs (i+1) m (by simpa using hl) (by simpa using h);rw [show i+(m+1)=i+1+m by omega];have hne:((i:Int)==((i+1+m:Nat):Int))=false:=by simp;omega
  simp only [mE,List.findIdx?_cons,hne,QzB,if_false,this,QkK]
end
section
variable {κ α:Type} [DecidableEq κ] {k:κ} {l:List (κ×List α)}
theorem P2{m:Nat}(h:mI k (l.map Qq6)=some m):Go.L.EU k l=l:=by
 unfold Go.L.EU;rw [Rf h];have:=U6 ([]:List α) h;obtain⟨a,h2⟩:=QzD.1 this
 conv=>lhs;rw [<- h2]
 exact List.set_getElem_self a
theorem P3(h:mI k (l.map Qq6)=none):Go.L.EU k l=l++[(k,[])]:=by
 unfold Go.L.EU;rw [Re h,U5 [] h]
theorem Vr:Go.L.BV [] k (Go.L.EU k l)=Go.L.BV [] k l:=by
 cases h:mI k (l.map Qq6) with
 | some m=>rw [P2 h]
 | none=>
  rw [P3 h];clear h
  induction l with
  | nil=>simp [Go.L.BV]
  | cons a l ih=>
   obtain⟨a,y⟩:=a;simp only [QxZ,Go.L.BV]
   split
   ·rfl
   ·exact ih
theorem AdN:∃ m,mI k ((Go.L.EU k l).map Qq6)=some m:=by
 cases h:mI k (l.map Qq6) with
 | some m=>rw [P2 h];exact⟨m,h⟩
 | none=>
  rw [P3 h];clear h
  induction l with
  | nil=>exact⟨0,by simp [mI]⟩
  | cons a l ih=>
   obtain⟨a,y⟩:=a;obtain⟨m,hm⟩:=ih;simp only [QxZ,Qzd,mI]
   split
   ·exact⟨_,Z⟩
   ·rw [hm];exact⟨_,Z⟩
theorem YS{y z:List α}:∀ {l:List (κ×List α)},mI k (l.map Qq6)=none->Go.L.Ge k y (l++[(k,z)])=Go.L.Ge k y l
 | [],_=>by simp [Go.L.Ge]
 | (a,x)::l,h=>by
  simp only [Qzd,mI] at h
  split at h
  ·cases h
  ·rename_i e;simp only [QxZ,Go.L.Ge,if_neg e];rw [YS (by cases b:mI k (l.map Qq6) <;> simp_all)]
theorem Vs{y:List α}:Go.L.Ge k y (Go.L.EU k l)=Go.L.Ge k y l:=by
 cases h:mI k (l.map Qq6) with
 | some m=>rw [P2 h]
 | none=>rw [P3 h,YS h]
def Q4(k:κ)(l:List κ):Int:=match mI k l with | some m=>(m:Int) | none=>0
end
section
variable {P:Program} {n:Sz} {ops:Array Oper} {Q:Exit->Act->World->Prop} {L:Env} {w w0:World} {O:List BS} {rest:List Oper} {d:Nat} {ty ty' t mt kt et e:TypeId} {pos pos':String} {af af':Array Edge} {x y x' m':Operand}
 {κ α:Type} [DecidableEq κ] {enc:κ->Value} {cw:α->List Value} {sz:Nat} {l:List (κ×List α)} {vs:List Value} {k:κ} {H:PH} {A:List BS}
theorem Aah[Dr](ib:Nat){b:Nat}(hx:ev L x=some (.map (some b)))[hy:Qqq (ev L y) (some (enc k))][ht:Qqq (P.underlying t) (some (.map kt et))](hk:PU P kt enc)(hz:Mz P et (.slice none 0 0))[hn:Qqq (Qq9 d n.n) true](hL:Bb w0 (A++mT cw e sz l vs) w)
  (hib:ED A ib=some (RD enc b l vs)) (hl:l.length=vs.length)
  (h:∀ vs' w',(Go.L.EU k l).length=vs'.length->Bb w0 (DB A ib (RD enc b (Go.L.EU k l) vs')++mT cw e sz (Go.L.EU k l) vs') w'->
   Le (fz w (A++mT cw e sz l vs)) (fz w' (DB A ib (RD enc b (Go.L.EU k l) vs')++mT cw e sz (Go.L.EU k l) vs'))->
   S P n ops Q rest ((d,.tuple #[lkV (.slice none 0 0) k ((Go.L.EU k l).map Qq6) vs',.int .i64 (Q4 k ((Go.L.EU k l).map Qq6))])::L) w') :
  S P n ops Q (⟨some d,.mapEntry t x y,ty,pos,af,none⟩::rest) L w:=by
 have hb:w.heap[b]? = some (.map (mE enc 0 (l.map Qq6) vs).toArray l.length):=hL.at (L4 _ hib);have hg:(getObj b).run P w=.ok (.map (mE enc 0 (l.map Qq6) vs).toArray l.length) w:=by simp [getObj,Sem.run,hb]
 have hs:∀ o,(setObj b o).run P w=.ok () (w.putObj b o):=fun o=>by simp [setObj,Sem.run,hb,World.putObj]
 have hll:(l.map Qq6).length=vs.length:=by rw [Qzk];exact hl
 cases hm:mI k (l.map Qq6) with
 | some m=>
  obtain⟨f,h2⟩:=WL hm;have he:=Tq (enc:=enc) (l.map Qq6) vs 0 m k hll h2;have hp:=hL.putAt (.map (mE enc 0 (l.map Qq6) vs).toArray l.length) (L4 _ hib);rw [OQ _ _ hib] at hp;have h':=h vs (w.putObj b (.map (mE enc 0 (l.map Qq6) vs).toArray l.length));rw [P2 hm] at h';have g:(mE enc 0 (l.map Qq6) vs).toArray.modify m (fun e=>{e with key:=enc k})=(mE enc 0 (l.map Qq6) vs).toArray:=by rw [List.modify_toArray,Abw _ vs 0 m hll h2]
  refine EN (v:=_) (w':=_) hn.e (fun ρ hρ=>?_) (h' hl hp.1 hp.2)
  have hr:(Instr.mapEntry t (.map (some b)) (enc k)).run P w=.ok (.tuple #[lkV (.slice none 0 0) k (l.map Qq6) vs,.int .i64 (Q4 k (l.map Qq6))]) (w.putObj b (.map (mE enc 0 (l.map Qq6) vs).toArray l.length)):=by
   simp only [Instr.mapEntry,Sem.run_bind,run_underlying ht.e,Result.andThen,hg,hk.check];rw [U4 hk hll,hm];simp only [QkK,Sem.run_bind,Result.andThen,List.getElem?_toArray,he,Option.getD_some,Instr.keyThatStays,hk.bits,if_true];simp only [Sem.run_pure,Qzc];rw [g,hs];simp [lkV,Q4,hm,goInt]
  simp [execOp,hρ x _ hx,hρ y _ hy.e,hr]
 | none=>
  have hp:=hL.putAt (.map (mE enc 0 (l.map Qq6++[k]) (vs++[.slice none 0 0])).toArray (l.length+1)) (L4 _ hib);rw [OQ _ _ hib] at hp;have hnil:=U1 hp.1 e sz;have h':=h (vs++[.slice none 0 0]) (w.putObj b (.map (mE enc 0 (l.map Qq6++[k]) (vs++[.slice none 0 0])).toArray (l.length+1)));rw [P3 hm] at h';have hpush:=XH (enc:=enc) (k:=k) (v:=.slice none 0 0) (l.map Qq6) vs 0 hll;rw [Qzc] at hpush;have c:(l++[(k,([]:List α))]).map Qq6=l.map Qq6++[k]:=by simp
  have i:(l++[(k,([]:List α))]).length=l.length+1:=by simp
  have hB:(.obj b (.map (mE enc 0 (l.map Qq6++[k]) (vs++[.slice none 0 0])).toArray (l.length+1)):BS)=RD enc b (l++[(k,([]:List α))]) (vs++[.slice none 0 0]):=by unfold RD;rw [c,i]
  rw [hB] at hp hnil
  have hperm:(DB A ib (RD enc b (l++[(k,([]:List α))]) (vs++[.slice none 0 0]))++mT cw e sz (l++[(k,([]:List α))]) (vs++[.slice none 0 0])).Perm (.row (.slice none 0 0) e sz 0 []::(DB A ib (RD enc b (l++[(k,([]:List α))]) (vs++[.slice none 0 0]))++mT cw e sz l vs)):=by
   rw [XI k [] (.slice none 0 0) hl,<- Qxd];exact List.perm_append_singleton _ _
  have hmm:mI k (l.map Qq6++[k])=some l.length:=by
   have hmk:∀ (ks:List κ),mI k ks=none->mI k (ks++[k])=some ks.length:=by
    intro ks
    induction ks with
    | nil=>intro _;simp [mI]
    | cons a ks ih=>
     intro hh;simp only [mI] at hh
     split at hh
     ·cases hh
     ·rename_i ee;simp only [QxZ,mI,if_neg ee];rw [ih (by cases f:mI k ks <;> simp_all)];simp
   have:=hmk _ hm
   rwa [Qzk] at this
  refine EN (v:=_) (w':=_) hn.e (fun ρ hρ=>?_) (h' (by simp [hl]) (hnil.1.perm hperm) (by rw [Ko hperm];exact hp.2.trans hnil.2))
  have hr:(Instr.mapEntry t (.map (some b)) (enc k)).run P w=.ok (.tuple #[lkV (.slice none 0 0) k ((l++[(k,([]:List α))]).map Qq6) (vs++[.slice none 0 0]),.int .i64 (Q4 k ((l++[(k,([]:List α))]).map Qq6))]) (w.putObj b (.map (mE enc 0 (l.map Qq6++[k]) (vs++[.slice none 0 0])).toArray (l.length+1))):=by
   rw [c];simp only [Instr.mapEntry,Sem.run_bind,run_underlying ht.e,Result.andThen,hg,hk.check];rw [U4 hk hll,hm];have hz':(zeroValue et).run P w=.ok (.slice none 0 0) w:=hz w;simp only [Option.map_none,Sem.run_bind,Result.andThen,hz',List.push_toArray];rw [Qzk] at hpush;rw [hpush,hs];simp [lkV,Q4,hmm,goInt,hl]
  simp [execOp,hρ x _ hx,hρ y _ hy.e,hr]
theorem Aic[Dr](ib:Nat){b:Nat}{v:Value}{yl:List α}{T:List BS}(hpd:AhY cw e sz (Go.L.EU k l) vs k yl v T)(hm:ev L m'=some (.map (some b)))[hkx:Qqq (ev L x') (some (.int .i64 (Q4 k ((Go.L.EU k l).map Qq6))))][hv:Qqq (ev L x) (some v)]
  (hL:Bb w0 (A++T) w) (hib:ED A ib=some (RD enc b (Go.L.EU k l) vs))
  (h:∀ vs' w',(Go.L.Ge k yl l).length=vs'.length->Bb w0 (DB A ib (RD enc b (Go.L.Ge k yl l) vs')++mT cw e sz (Go.L.Ge k yl l) vs') w'->
   Le (fz w (A++T)) (fz w' (DB A ib (RD enc b (Go.L.Ge k yl l) vs')++mT cw e sz (Go.L.Ge k yl l) vs'))->S P n ops Q rest L w') :
  S P n ops Q (⟨none,.entryStore mt m' x' x,ty,pos,af,none⟩::rest) L w:=by
 obtain⟨_,hl,hpm⟩:=hpd;obtain⟨m,hmi⟩:=AdN (k:=k) (l:=l);rw [Vs] at hpm;have hll:((Go.L.EU k l).map Qq6).length=vs.length:=by rw [Qzk];exact hl
 obtain⟨c,h2⟩:=WL hmi;have hb:w.heap[b]? = some (.map (mE enc 0 ((Go.L.EU k l).map Qq6) vs).toArray (Go.L.EU k l).length):=hL.at (L4 T hib);have hg:(getObj b).run P w=.ok (.map (mE enc 0 ((Go.L.EU k l).map Qq6) vs).toArray (Go.L.EU k l).length) w:=by simp [getObj,Sem.run,hb]
 have hs:∀ o,(setObj b o).run P w=.ok () (w.putObj b o):=fun o=>by simp [setObj,Sem.run,hb,World.putObj]
 have hU:upV k v ((Go.L.EU k l).map Qq6) vs=vs.set m v:=by unfold upV;rw [hmi]
 have hK:(Go.L.Ge k yl l).map Qq6=(Go.L.EU k l).map Qq6:=by
  have:=Vj (k:=k) (y:=yl) (l:=Go.L.EU k l);rw [Vs] at this;rw [<- this];unfold upK;rw [hmi]
 have hlen:(Go.L.Ge k yl l).length=(Go.L.EU k l).length:=by have:=congrArg List.length hK;simpa using this
 have hf:=Rh (enc:=enc) _ vs 0 m hll c;rw [Qzc] at hf;have hp:=hL.putAt (.map (mE enc 0 ((Go.L.Ge k yl l).map Qq6) (vs.set m v)).toArray (Go.L.Ge k yl l).length) (L4 T hib);rw [OQ _ _ hib] at hp;have a:=List.Perm.append_left (DB A ib (RD enc b (Go.L.Ge k yl l) (upV k v ((Go.L.EU k l).map Qq6) vs))) hpm.symm;rw [hU] at a
 have hr:(Instr.entryStore mt (.map (some b)) (.int .i64 (Q4 k ((Go.L.EU k l).map Qq6))) v).run P w=.ok () (w.putObj b (.map (mE enc 0 ((Go.L.Ge k yl l).map Qq6) (vs.set m v)).toArray (Go.L.Ge k yl l).length)):=by
  simp only [Instr.entryStore,Sem.run_bind,Result.andThen,hg,Q4,hmi,asInt,asIntOf];simp only [Sem.run_bind,Sem.run_pure,Result.andThen,List.findIdx?_toArray,hf,List.modify_toArray];rw [Abx _ vs 0 m hll,hs,hK,hlen]
 refine OK _ (fun ρ hρ=>?_) (h (vs.set m v) _ (by rw [hlen,List.length_set];exact hl) (hp.1.perm a) ?_)
 ·simp [execOp,hρ m' _ hm,hρ x' _ hkx.e,hρ x _ hv.e,hr]
 ·rw [Ko a];exact hp.2
end
end Go.E
end
noncomputable section
namespace Go.E
open Go Go.RowKit
def YT(v v':Value)(lo:Nat):Prop:=∃ a m cap,v=.slice a m cap/\lo<=m/\m<=cap/\v'=.slice (if cap=lo then a else a.map (·.add lo)) (m - lo) (cap - lo)
theorem YT.vec{α:Type}{r:Rp α}{H:PH}{v v':Value}{lo:Nat}{l:List α}(h:YT v v' lo)(hv:AJ r H v l)(hr:r.sz=1):AJ r H v' (l.drop lo):=by
 obtain⟨a,m,cap,rfl,c,h2,rfl⟩:=h;obtain⟨a',cap',he⟩:=hv.header;have hm:m=l.length:=by cases he;rfl
 subst hm;obtain⟨a2,f,g,hs⟩:=hv.sub lo l.length c (Qzx _)
 cases g
 rw [hr,Qz4,Qxk Qqd] at hs;exact hs
section
variable {P:Program} {n:Sz} {ops:Array Oper} {Q:Exit->Act->World->Prop} {L:Env} {w w0:World} {O:List BS} {rest:List Oper} {d:Nat}
 {ty:TypeId} {pos:String} {af:Array Edge} {α:Type} {r:Rp α} {x a b:Operand} {v:Value} {t e:TypeId} {H:PH} {k:IntKind} {lo:Int} {m:Nat} {zz:Value} {bt:Nat} {xs:List Value}
theorem AdO[Dr](i:Nat)(hx:ev L x=some v)[ha:Qqq (ev L a) (some (.int k lo))](ht:P.underlying t=some (.slice e))[hz:Qqx P e zz 1 bt](hL:Bb w0 O w)(hi:ED O i=some (.row v e 1 m xs))(hc:0<=lo/\lo<=(m:Int))[hn:Qqq (Qq9 d n.n) true]
  (h:∀ v',YT v v' lo.toNat->S P n ops Q rest ((d,v')::L) w):S P n ops Q (⟨some d,.slice t x (some a) none none,ty,pos,af,none⟩::rest) L w:=by
 have hown:w.ownsRow 0 e 1 v m xs:=hL.at hi;obtain⟨inf,b,f,c,j⟩:=hz.e.parts;obtain⟨q,rfl⟩:=QxJ hc.1;have hq:q<=m:=by omega
 have hqi:(q:Int)<=(m:Int):=hc.2
 have key:∃ A cap,v=.slice A m cap/\m<=cap:=by
  rcases hown.2 with ⟨rfl,rfl⟩ | ⟨g,cp,cur,rfl,hbg,hg,hnc,hcm,hcs,htake⟩
  ·exact⟨none,0,Z,Qzx _⟩
  ·exact⟨_,cp,Z,hnc⟩
 obtain⟨A,cap,rfl,hmc⟩:=key;refine Ai (fun w' _ ρ hρ dst pos af g=>?_) (hn:=⟨hn.e⟩) (h _ ⟨A,m,cap,Z,hq,hmc,Z⟩);simp [execOp,hρ x _ hx,hρ a _ ha.e,Instr.sliceAt,run_underlying ht,Instr.slice,Instr.sliceBounds,Instr.sliceBound,asIntOf,sizeOf,typeInfo,b,c,hqi,hq]
theorem Aid[Dr](i:Nat){j:Int}{l:List α}(hx:ev L x=some v)[hb:Qqq (ev L b) (some (.int k j))](ht:P.underlying t=some (.slice e))[hz:Qqx P e zz 1 bt][hr:Qqq r.sz 1](hH:Le H (hp w0))(hL:Bb w0 O w)(hi:ED O i=some (.row v e 1 l.length xs))(he:AH r (gz H w0 w O) l xs)(hc:0<=j/\j<=(l.length:Int))[hn:Qqq (Qq9 d n.n) true]
  (h:∀ v' xs',Bb w0 (DB O i (.row v' e 1 (l.take j.toNat).length xs')) w->Le (fz w O) (fz w (DB O i (.row v' e 1 (l.take j.toNat).length xs')))->AH r (gz H w0 w (DB O i (.row v' e 1 (l.take j.toNat).length xs'))) (l.take j.toNat) xs'->S P n ops Q rest ((d,v')::L) w):S P n ops Q (⟨some d,.slice t x none (some b) none,ty,pos,af,none⟩::rest) L w:=by
 have hown:w.ownsRow 0 e 1 v l.length xs:=hL.at hi;obtain⟨inf,m,z,o,i4⟩:=hz.e.parts;obtain⟨q,rfl⟩:=QxJ hc.1;have hq:q<=l.length:=by omega
 rw [Qq8] at h;have hlt:(l.take q).length=q:=by rw [QzK];omega
 have hel:∀ (l:List α) (xs:List Value) (G:PH),AH r G l xs->AH r G (l.take q) (xs.take q):=by
  intro l xs G he
  have hgen:∀ (q:Nat),AH r G (l.take q) (xs.take q):=by
   induction he with
   | nil=>intro q;simp;exact .nil
   | @cons y l c cs hy hl ih=>
    intro q;have a:c.length=1:=by rw [r.len hy,hr.e]
    obtain⟨u,rfl⟩:=List.length_eq_one_iff.1 a
    cases q with
    | zero=>simp;exact .nil
    | succ q=>exact .cons hy (ih q)
  exact hgen q
 have key:∃ A cap,v=.slice A l.length cap/\l.length<=cap/\(∀ b,(BS.row (.slice A q cap) e 1 q (xs.take q)).block=some b->(BS.row v e 1 l.length xs).block=some b)/\(BS.row (.slice A q cap) e 1 q (xs.take q)).ok w/\(A.map (·.add 0)=A):=by
  rcases hown.2 with ⟨rfl,p⟩ | ⟨g,cp,cur,rfl,hbg,hg,hnc,hcm,hcs,htake⟩
  ·have f:q=0:=by omega
   subst f;refine⟨none,0,by rw [p],by omega,fun b h=>h,⟨by simp,.inl ⟨Z,Z⟩⟩,Z⟩
  ·refine⟨_,cp,Z,hnc,fun b h=>h,⟨?_,.inr ⟨g,cp,cur,Z,hbg,hg,by omega,hcm,hcs,?_⟩⟩,Z⟩
   ·rw [QzK,hown.1];omega
   ·rw [<- htake,List.take_take,Qz4,Qz4,Nat.min_eq_left hq]
 obtain⟨A,cap,rfl,hmc,hbl,hok,hA⟩:=key;have hqc:(q:Int)<=(cap:Int):=by omega
 have hqc':q<=cap:=by omega
 have s:=hL.My hi (Qzx _) (World.grownBy.refl _ _) hok (fun b e=>.inl (hbl b e));have h2:=HF (r':=.row (.slice A q cap) e 1 q (xs.take q)) hL hi (World.grownBy.refl _ _) (fun b e=>.inl (hbl b e));have h':=h (.slice A q cap) (xs.take q);rw [hlt] at h';refine Ai (fun w' _ ρ hρ dst pos af g=>?_) (hn:=⟨hn.e⟩) (h' s h2 ((hel l xs _ he).mono (Aa h2)));simp [execOp,hρ x _ hx,hρ b _ hb.e,Instr.sliceAt,run_underlying ht,Instr.slice,Instr.sliceBounds,Instr.sliceBound,asIntOf,sizeOf,typeInfo,m,o,hqc,hqc',hA]
theorem AdP[Dr](i:Nat){v':Value}{q:Nat}{l:List α}{z:α}[hx:Qqq (ev L x) (some v')](hs:YT v v' q)(ht:P.underlying t=some (.slice e))[hz:Qqx P e zz 1 bt][hr:Qqq r.sz 1][hzc:Qqq zz.cells (#[zz])][s:Qqq zz.oneCell' true](hH:Le H (hp w0))(hL:Bb w0 O w)(hi:ED O i=some (.row v e 1 l.length xs))(he:AH r (gz H w0 w O) l xs)(hrz:∀ G,r.rel G z [zz])
  (h:∀ w' xs',Bb w0 (DB O i (.row v e 1 (l.take q++Qzz (l.length - q) z).length xs')) w'->Le (fz w O) (fz w' (DB O i (.row v e 1 (l.take q++Qzz (l.length - q) z).length xs')))->AH r (gz H w0 w' (DB O i (.row v e 1 (l.take q++Qzz (l.length - q) z).length xs'))) (l.take q++Qzz (l.length - q) z) xs'->S P n ops Q rest L w') :
  S P n ops Q (⟨none,.call ⟨.builtin .clear,#[x],#[t]⟩,ty,pos,af,none⟩::rest) L w:=by
 have hx:=hx.e
 have hown:w.ownsRow 0 e 1 v l.length xs:=hL.at hi;obtain⟨inf,i1,i2,i3,i4⟩:=hz.e.parts;have hxl:xs.length=l.length:=by rw [hown.1,Qz4]
 have aa:∀ (G:PH) (l:List α) (xs:List Value),AH r G l xs->∀ q,AH r G (l.take q++Qzz (l.length - q) z) (xs.take q++Qzz (l.length - q) zz):=by
  intro G l xs he
  have hrep:∀ k,AH r G (Qzz k z) (Qzz k zz):=by
   intro k
   induction k with
   | zero=>exact .nil
   | succ k ih=>exact .cons (hrz G) ih
  induction he with
  | nil=>intro q;simp;exact .nil
  | @cons y l c cs hy hl ih=>
   intro q;have ac:c.length=1:=by rw [r.len hy,hr.e]
   obtain⟨u,rfl⟩:=List.length_eq_one_iff.1 ac
   cases q with
   | zero=>simpa using hrep (l.length+1)
   | succ q=>
    have:=ih q;simp only [List.take_succ_cons,QxZ,Qzj,Nat.add_sub_add_right];exact .cons hy this
 have hel:∀ G,AH r G l xs->AH r G (l.take q++Qzz (l.length - q) z) (xs.take q++Qzz (l.length - q) zz):=fun G he=>aa G l xs he q;have hle:(l.take q++Qzz (l.length - q) z).length=l.length:=by simp;omega
 rw [hle] at h;obtain⟨a,m,cap,hv,hq,hmc,rfl⟩:=hs
 by_cases o:l.length - q=0
 ·have hm:m=l.length:=by
   rcases hown.2 with ⟨p,h0⟩ | ⟨g,cp,cur,d,_⟩
   ·rw [p] at hv;cases hv;exact h0.symm
   ·rw [d] at hv;cases hv;rfl
  subst hm;have e0:l.take q++Qzz (l.length - q) z=l:=by rw [o,List.replicate_zero,QzX,Qxk U]
  rw [e0] at h
  have hrun:(Builtin.clear_ #[t] ty #[.slice (if cap=q then a else a.map (·.add q)) (l.length - q) (cap - q)]).run P w=.ok (.tuple #[]) w:=by
   rw [o];generalize (if cap=q then a else a.map (·.add q))=A'
   cases A' <;> simp [Builtin.clear_,run_underlying ht]
  refine Y1 (v:=.tuple #[]) (w':=w) (fun ρ hρ=>by simp [execOp,resolve,invoke,builtin,hρ x _ hx,hrun]) ?_;have t1:=hL.My hi (Qzx _) (World.grownBy.refl _ _) (hL.at hi) (fun b e=>.inl e);have f:=HF (r':=.row v e 1 l.length xs) hL hi (World.grownBy.refl _ _) (fun b e=>.inl e);exact h w xs t1 f (he.mono (Aa f))
 ·rcases hown.2 with ⟨p,h0⟩ | ⟨g,cp,cur,d,hbg,hg,hnc,hcm,hcs,htake⟩
  ·omega
  ·rw [d] at hv
   cases hv
   have hcur:cur.size=cap:=by rw [hcs,Qz4]
   have hqc : ¬ cap=q:=by omega
   rw [if_neg hqc] at hx
   have hcell:∀ j,j<l.length - q->(w.cell? ⟨g,q+j,none⟩).isSome=true:=fun j hj=>by
    have:q+j<cur.size:=by omega
    simp [World.cell?,hg,this]
   have hfr:∀ j,j<l.length - q->w.frozen? ⟨g,q+j,none⟩=false:=fun j hj=>by simp [World.frozen?,hg]
   have hzero:∀ w,(zeroValue e).run P w=.ok zz w:=fun w=>by simp [zeroValue,typeInfo,i1,i2]
   have hst:=run_storeCells_at P g q e (Qzz (l.length - q) zz) 0 cur w hg (by simp;omega) (by intro u hu;rw [List.eq_of_mem_replicate hu];exact s.e);simp only [Qxx,List.length_replicate] at hst;obtain⟨C,hC⟩:∃ C,C=(cur.toList.take q++Qzz (l.length - q) zz++cur.toList.drop (q+(l.length - q))).toArray:=⟨_,Z⟩;rw [<- hC] at hst
   have hrun:(Builtin.clear_ #[t] ty #[.slice (some ⟨g,q,none⟩) (l.length - q) (cap - q)]).run P w=.ok (.tuple #[]) (w.setRow g C):=by
    have h2:=Lib.run_clear_slice (P:=P) w t e ty zz ht hzero hzc.e s.e g q (l.length - q) (cap - q) U hcell hfr;have h3:=run_storeCells_cells (P:=P) g q (Qzz (l.length - q) zz) 0 w (by simpa using hcell) (by simpa using hfr) (by intro u hu;rw [List.eq_of_mem_replicate hu];exact s.e);simp only [Qxx] at h3;rw [hst] at h3;rw [h2]
    injection h3 with _ h4
    rw [h4]
   have hgr:=NN w g C;have hh:=M0 w g cur C e hg
   have hok:BS.ok (w.setRow g C) (.row v e 1 l.length (xs.take q++Qzz (l.length - q) zz)):=by
    subst d;refine⟨by simp;omega,.inr ⟨g,cap,C,Z,hbg,hh,hnc,hcm,by rw [hC];simp;omega,?_⟩⟩;rw [hC,List.toList_toArray,<- htake,Qz4,List.take_take,Nat.min_eq_left hq,List.take_append];have ae:(cur.toList.take q++Qzz (l.length - q) zz).length=l.length:=by simp;omega
    rw [Qxk U,ae,Nat.sub_self,List.take_zero,QzX]
   have hgr':w.grownBy (w.setRow g C) (BS.row v e 1 l.length xs).block:=by subst d;exact hgr
   have hdr:w.drawn<=(w.setRow g C).drawn:=Qzx _;have t1:=hL.My hi hdr hgr' hok (fun b e=>.inl e);have f:=HF (r':=.row v e 1 l.length (xs.take q++Qzz (l.length - q) zz)) hL hi hgr' (fun b e=>.inl e);have hx':ev L x=some (.slice (some ⟨g,q,none⟩) (l.length - q) (cap - q)):=by rw [hx];simp [Addr.add];exact fun e=>e.symm
   refine Y1 (v:=.tuple #[]) (w':=w.setRow g C) (fun ρ hρ=>by simp [execOp,resolve,invoke,builtin,hρ x _ hx',hrun])<|h _ _ t1 f ((hel _ he).mono (Aa f))
end
instance AjH:Dr:=⟨false⟩
theorem Ext.off{w w':World}(h:Below w.heap.size w w'):Ext w w':=⟨h,fun o=>absurd o Qqc⟩
structure Cb (P:Program) (a:World) (H:PH) (f:FuncId) (cap:List Value) {σ:Type} (J:σ->List BS->PH->Prop) (step:σ->List UInt8×Int×Int×List UInt8->Option σ):Prop where
 mono:∀ {s:σ} {R:List BS} {G G':PH},Le G G'->J s R G->J s R G'
 ok:∀ {w:World} {O R:List BS} {s s':σ} {x:List UInt8×Int×Int×List UInt8},Bb a (Qza O R) w->J s R (gz H a w (Qza O R))->step s x=some s'->
  Ok P f (L5 x::cap) w (fun v w'=>v=.tuple #[]/\∃ R':List BS,Bb a (Qza O R') w'/\Le (fz w (Qza O R)) (fz w' (Qza O R'))/\J s' R' (gz H a w' (Qza O R')))
section
variable {P:Program} {n:Sz} {ops:Array Oper} {Q:Exit->Act->World->Prop} {L:Env} {w w0:World} {O:List BS} {rest:List Oper} {d:Nat} {ty t t':TypeId} {pos:String} {af:Array Edge} {x y:Operand} {v:Value} {e:TypeId} {pv:Value}
theorem WT(i off:Nat){b:Nat}{cs vs ns:List Value}{a:TypeId}{zz:Value}{bt:Nat}(hx:ev L x=some (.pointer (some ⟨b,off,none⟩)))[hy:Qqq (ev L y) (some v)][hc:Qqq v.cells.toList vs][hz:Qqx P t zz vs.length bt](hL:Bb w0 O w)(hi:ED O i=some (.box b cs a))(hlen:Nat.ble (off+vs.length) cs.length=true)(hns:cs.take off++vs++cs.drop (off+vs.length)=ns)(c:∀ u∈vs,u.oneCell'=true)
  (h:∀ w',Bb w0 (DB O i (.box b ns a)) w'->Le (fz w O) (fz w' (DB O i (.box b ns a)))->S P n ops Q rest L w'):S P n ops Q (⟨none,.store t x y,ty,pos,af,none⟩::rest) L w:=by
 have hc:=hc.e
 subst hc;have hlen':=Nat.le_of_ble_eq_true hlen;obtain⟨inf,d,g,f,j⟩:=hz.e.parts;have hb:w.heap[b]? = some (.cells cs.toArray a (0,0)):=hL.at hi;have hst:=run_storeCells_at P b off a v.cells.toList 0 cs.toArray w hb (by simp at hlen' ⊢;omega) c;simp only [Qxx,List.toList_toArray] at hst;rw [hns] at hst;have hsz:v.cells.size=inf.size:=by rw [f];simp
 refine OK (w.setRow b ns.toArray) (fun ρ hρ=>by
  simp [execOp,hρ x _ hx,hρ y _ hy.e,Instr.storeAt,Instr.sureAddr,storeVar,sizeOf,typeInfo,d,hsz,hst]) ?_
 have hg:=NN w b ns.toArray
 have hnl:ns.length=cs.length:=by
  rw [<- hns];simp only [List.length_append,QzK,List.length_drop];omega
 have hok:BS.ok (w.setRow b ns.toArray) (.box b ns a):=by
  show(w.setRow b ns.toArray).heap[b]? = _
  exact M0 w b cs.toArray ns.toArray a hb
 exact h _ (hL.My hi (Qzx _) hg hok (fun b' e=>.inl e)) (HF hL hi hg (fun b' e=>.inl e))
theorem Aie{α:Type}{r:Rp α}{l:List α}{H:PH}{b c:Operand}{k k':IntKind}{zz:Value}{bt:Nat}[hx:Qqq (ev L x) (some v)][hb:Qqq (ev L b) (some (.int k (l.length:Int)))][hc:Qqq (ev L c) (some (.int k' (l.length:Int)))][ht:Qqq (P.underlying t) (some (.slice e))][he:Qqx P e zz r.sz bt](hv:AJ r H v l)[hn:Qqq (Qq9 d n.n) true]
  (h:∀ v',AJ r H v' l->S P n ops Q rest ((d,v')::L) w):S P n ops Q (⟨some d,.slice t x none (some b) (some c),ty,pos,af,none⟩::rest) L w:=by
 obtain⟨inf,i,q,s,u⟩:=he.e.parts;obtain⟨A,cap,j,o,p,a,f⟩:=hv.ex;subst j
 have hr:∀ w,BG P L w (.slice t x none (some b) (some c)) ty (.slice A l.length l.length):=fun w w' _ ρ hρ dst pos af g=>by
  have m:(l.length:Int)<=(cap:Int):=by omega
  simp [execOp,hρ x _ hx.e,hρ b _ hb.e,hρ c _ hc.e,Instr.sliceAt,run_underlying ht.e,Instr.slice,Instr.sliceBounds,Instr.sliceBound,asIntOf,sizeOf,typeInfo,i,m]
  cases A <;> simp [Addr.add_zero'] <;> (intro h;omega)
 exact Ai (hr w) (hn:=⟨hn.e⟩) (h _ ⟨A,l.length,Z,Qzx _,by omega,fun hA=>by have:=a hA;omega,f⟩)
theorem AdQ(m:Nat){b off:Nat}{cs c:List Value}{d:TypeId}{dd:TypeDesc}{zz:Value}{bt:Nat}(hx:ev L x=some (.pointer (some ⟨b,off,none⟩)))[ht:Qqq (P.underlying t) (some dd)][hd:Qqq (YC dd) true](hz:Zr P t zz c.length bt)(h:w.heap[b]? = some (.cells cs.toArray d (0,0)))(hc:(cs.drop off).take m=c):BG P L w (.load t x) ty (.agg c.toArray):=by
 have a:=((Aaf h).add off).part m;rw [hc,Addr.add_lit,Qzc] at a;exact Cz (hx:=⟨hx⟩) (ht:=⟨ht.e⟩) (hd:=⟨hd.e⟩) (hz:=⟨hz⟩) a (Le.refl _)
theorem AdR{u:Value}{dd:TypeDesc}(hx:ev L x=some (.iface t' u))[ht:Qqq (P.underlying t') (some dd)][hd:Qqq (Abn dd) true]:BG P L w (.typeAssert x t t' true) ty (.tuple #[u,.bool true]):=have hd:=hd.e;fun w' _ ρ hρ dst pos af g=>by
 cases dd <;> simp [Abn] at hd <;> simp [execOp,hρ x _ hx,Instr.typeAssert,run_underlying ht.e]
theorem WU{f:FuncId}{args:List Operand}{vs:List Value}{at_:Array TypeId}{dst:Option Tmp}{fst cap:List Value}{fo:Operand}(hc:JM P f)(hf:ev L fo=some (.func (.func f) fst.toArray cap.toArray))(ha:Sk L args=some vs)(ρ:Operand->Value)(hρ:ZR L ρ):
  (execOp ρ ⟨dst,.call ⟨.value fo,args.toArray,at_⟩,ty,pos,af,none⟩).run P w=.ok (.enter f (fst++vs++cap).toArray) w:=by
 obtain ⟨fn, c, a, h2, h3⟩ := hc;have b := hρ.map _ _ ha;have h2' : ¬ fn.name = "runtime.NumGoroutine" := by simpa using h2
 simp [execOp,resolve,hρ fo _ hf,Deferred.ofValue,b,invoke,callFunc,a,h2',h3]
theorem Age{f:FuncId}{args:List Operand}{vs:List Value}{at_:Array TypeId}(fst cap:List Value){fo:Operand}{R:Value->World->Prop}(hf:ev L fo=some (.func (.func f) fst.toArray cap.toArray))(ha:Sk L args=some vs)(hn:Qq9 d n.n=true)(hok:Ok P f (fst++vs++cap) w R)
  (h:∀ v w',R v w'->S P n ops Q rest ((d,v)::L) w'):S P n ops Q (⟨some d,.call ⟨.value fo,args.toArray,at_⟩,ty,pos,af,none⟩::rest) L w:=
 Sn Z fun a fr=>by
  unfold Oper.wp;rw [WU hok.1 hf ha _ fr.TR];refine hok.2.mono fun e w' ⟨v,he,hv⟩=>?_;subst he;exact h v w' hv _ (fr.put hn)
theorem YU{f:FuncId}{args:List Operand}{vs:List Value}{at_:Array TypeId}(fst cap:List Value){fo:Operand}{R:Value->World->Prop}(hf:ev L fo=some (.func (.func f) fst.toArray cap.toArray))(ha:Sk L args=some vs)[hn:Qqq (Qq9 d n.n) true](hL:Bb w0 O w)(hok:Ok P f (fst++vs++cap) w (fun v w'=>Ext w w'/\R v w'))
  (h:∀ v w',R v w'->Ext w w'->Bb w0 O w'->Le (fz w O) (fz w' O)->S P n ops Q rest ((d,v)::L) w'):S P n ops Q (⟨some d,.call ⟨.value fo,args.toArray,at_⟩,ty,pos,af,none⟩::rest) L w:=
 Age fst cap hf ha hn.e hok fun v w' hh=>h v w' hh.2 hh.1 (hL.call hh.1) (AR hL hh.1)
theorem Sx{α:Type}{r:Option α}{f:FuncId}{args:List Operand}{vs:List Value}{at_:Array TypeId}(fst cap:List Value){fo:Operand}{R:World->α->Value->Prop}{N:World->Prop}(hf:ev L fo=some (.func (.func f) fst.toArray cap.toArray))(ha:Sk L args=some vs)[hn:Qqq (Qq9 d n.n) true]
  (hok:WI P f (fst++vs++cap) w pv (fun v w'=>YK r v (R w') (N w'))) (b:r=none->∀ w',N w'->At n Q (.panic (pch pv)) L w')
  (h:∀ y,r=some y->∀ v w',R w' y v->S P n ops Q rest ((d,v)::L) w'):S P n ops Q (⟨some d,.call ⟨.value fo,args.toArray,at_⟩,ty,pos,af,none⟩::rest) L w:=
 Sn Z fun a fr=>by
  unfold Oper.wp;rw [WU hok.1 hf ha _ fr.TR];refine hok.2.mono fun e w' k=>?_
  cases e with
  | returned v=>
   cases r with
   | none=>exact k.elim
   | some y=>exact h y Z v w' k _ (fr.put hn.e)
  | panicked c=>
   obtain⟨rfl,k⟩:=k
   cases r with
   | none=>exact b Z w' k a fr
   | some y=>exact k.elim
  | outgrown=>exact k.elim
theorem Aif{σ:Type}{c:Code}(I:σ->Env)(R:σ->World->Prop)(hx:W P n c (Y0 n I R Q) L w)(hy:∀ s w',R s w'->At n Q .normal (I s) w'):W P n c Q L w:=fun a fr=>
 wp_mono (hx a fr) fun e a' w' q=>by
  cases e with
  | normal=>obtain⟨s,b,h2⟩:=q;exact hy s w' h2 a' b
  | _=>exact q
theorem J7{id:Nat}{l:List Oper}{m:Nat}(hq:JG Q)(Inv:World->World->Prop)(hm:P.follows .mixedOrders=true)(hl:l.length=m)(h:JG Q->∀ w',Ext w w'->Nw (Inv w') P n l Q m (PT m []) L w'):W P n (.region id l.toArray true) Q L w:=AdI Inv hm hl (h hq)
theorem MQ{Inv:World->Prop}{l:List Oper}{fuel:Nat}{listed:Array Bool}(hI:Inv w)(h:Inv w->Nw Inv P n l Q fuel listed L w):Nw Inv P n l Q fuel listed L w:=h hI
theorem AV{Inv:World->Prop}{l:List Oper}{fuel i m:Nat}{done:List Nat}(hI:Inv w)(h:Inv w->Nw Inv P n l Q fuel (PT m done) L w):S P n l.toArray (nQI Inv P l Q fuel i (PT m done)) [] L w:=Aia hI (h hI)
def Vt(K L:Env):Bool:=K.all fun x=>(gt L x.1).isNone
theorem AdS{L:Env}{s:Nat}{u:Value}(hu:gt L s=some u):∀ K:Env,Vt K L=true->gt (K++L) s=some u
 | [],_=>hu
 | (a,z)::K,h=>by
  simp only [Vt,QxE,Qzb] at h;have ih:=AdS hu K h.2
  have hne:Qxa a s=false:=by
   cases hb:Qxa a s with
   | false=>rfl
   | true=>
    have:=Nat.eq_of_beq_eq_true hb;rw [this,hu] at h;exact absurd h.1 Qqd
  show(bif Qxa a s then some z else gt (K++L) s)=some u
  rw [hne];exact ih
theorem Fr.strip{a:Act}{L':Env}{v':Value}(k:Nat)(fr:Fr n a ((d,v')::L'))(hv:v=v')(hl:L'.drop k=L)(hk:Vt (L'.take k) L=true):Fr n a ((d,v)::L):=by
 subst hv;refine⟨fr.size,fr.defers,fun s u hs=>fr.get s u ?_⟩;have e:L'=L'.take k++L:=by rw [<- hl,List.take_append_drop]
 rw [e];have hs':(bif Qxa d s then some v else gt L s)=some u:=hs
 show(bif Qxa d s then some v else gt (L'.take k++L) s)=some u
 cases hb:Qxa d s with
 | true=>rw [hb] at hs';exact hs'
 | false=>rw [hb] at hs';exact AdS hs' _ hk
theorem OU{l:List Oper}(m d:Nat)(v:Value)(hb:S P n ops Q (l.drop m) ((d,v)::L) w->S P n ops Q l L w)(h:S P n ops Q (l.drop m) ((d,v)::L) w):S P n ops Q l L w:=hb h
theorem S.to{l:List Oper}{L':Env}{v':Value}(hm:S P n ops Q l ((d,v)::L) w)(k:Nat)(hv:v=v')(hl:L'.drop k=L)(hk:Vt (L'.take k) L=true):S P n ops Q l ((d,v')::L') w:=fun a fr=>hm a (fr.strip k hv hl hk)
theorem D.to{l:List Oper}{t:Tr}{L':Env}{v':Value}(hm:D P n l Q t ((d,v)::L) w)(k:Nat)(hv:v=v')(hl:L'.drop k=L)(hk:Vt (L'.take k) L=true):D P n l Q t ((d,v')::L') w:=fun a fr=>hm a (fr.strip k hv hl hk)
section
variable {b c e:Bool}
theorem AdT(h:b=true):Value.bool (b&&c)=.bool c:=by rw [h];rfl
theorem AdU(h:b=false):Value.bool (b&&c)=.bool false:=by rw [h];rfl
theorem Wq(h:b=true):Value.bool (b||c)=.bool true:=by rw [h];rfl
theorem Wr(h:b=false):Value.bool (b||c)=.bool c:=by rw [h];rfl
end
end
end Go.E
end
noncomputable section
namespace Go.Proofs.YtekmbcbgknmhiaaGreatDoor
open Go Go.E Go.RowKit
theorem mixed:Tryz.prog.follows .mixedOrders=true:=by kernel_rfl
theorem Qqqm{α:Sort _}{a b:α}(h:a=b):Qqq a b:=⟨h⟩
abbrev uQ0:=Qqqm Tryz.underlying0
abbrev uQ2:=Qqqm Tryz.underlying2
abbrev uQ3:=Qqqm Tryz.underlying3
abbrev uQ4:=Qqqm Tryz.underlying4
abbrev uQ5:=Qqqm Tryz.underlying5
abbrev uQ9:=Qqqm Tryz.underlying9
abbrev uQ20:=Qqqm Tryz.underlying20
abbrev uQ21:=Qqqm Tryz.underlying21
abbrev uQ22:=Qqqm Tryz.underlying22
abbrev uQ23:=Qqqm Tryz.underlying23
abbrev uQ24:=Qqqm Tryz.underlying24
abbrev uQ26:=Qqqm Tryz.underlying26
abbrev uQ28:=Qqqm Tryz.underlying28
abbrev uQ41:=Qqqm Tryz.underlying41
abbrev uQ42:=Qqqm Tryz.underlying42
abbrev uQ43:=Qqqm Tryz.underlying43
abbrev uQ44:=Qqqm Tryz.underlying44
abbrev uQ46:=Qqqm Tryz.underlying46
abbrev uQ47:=Qqqm Tryz.underlying47
abbrev uQ49:=Qqqm Tryz.underlying49
abbrev uQ50:=Qqqm Tryz.underlying50
abbrev uQ52:=Qqqm Tryz.underlying52
abbrev uQ58:=Qqqm Tryz.underlying58
abbrev uQ62:=Qqqm Tryz.underlying62
abbrev uQ64:=Qqqm Tryz.underlying64
abbrev uQ66:=Qqqm Tryz.underlying66
abbrev uQ82:=Qqqm Tryz.underlying82
abbrev uQ84:=Qqqm Tryz.underlying84
abbrev uQ86:=Qqqm Tryz.underlying86
abbrev uQ94:=Qqqm Tryz.underlying94
abbrev uQ96:=Qqqm Tryz.underlying96
abbrev uQ98:=Qqqm Tryz.underlying98
abbrev uQ109:=Qqqm Tryz.underlying109
abbrev uQ130:=Qqqm Tryz.underlying130
abbrev uQ131:=Qqqm Tryz.underlying131
abbrev uQ135:=Qqqm Tryz.underlying135
abbrev uQ137:=Qqqm Tryz.underlying137
abbrev uQ139:=Qqqm Tryz.underlying139
abbrev uQ142:=Qqqm Tryz.underlying142
abbrev uQ162:=Qqqm Tryz.underlying162
abbrev uQ164:=Qqqm Tryz.underlying164
abbrev uQ167:=Qqqm Tryz.underlying167
abbrev uQ168:=Qqqm Tryz.underlying168
abbrev uQ171:=Qqqm Tryz.underlying171
abbrev uQ180:=Qqqm Tryz.underlying180
abbrev uQ188:=Qqqm Tryz.underlying188
abbrev uQ189:=Qqqm Tryz.underlying189
abbrev uQ192:=Qqqm Tryz.underlying192
abbrev uQ196:=Qqqm Tryz.underlying196
abbrev uQ198:=Qqqm Tryz.underlying198
abbrev uQ203:=Qqqm Tryz.underlying203
abbrev uQ205:=Qqqm Tryz.underlying205
abbrev uQ219:=Qqqm Tryz.underlying219
abbrev uQ229:=Qqqm Tryz.underlying229
abbrev uQ234:=Qqqm Tryz.underlying234
abbrev uQ260:=Qqqm Tryz.underlying260
abbrev uQ261:=Qqqm Tryz.underlying261
abbrev uQ263:=Qqqm Tryz.underlying263
abbrev uQ266:=Qqqm Tryz.underlying266
abbrev uQ271:=Qqqm Tryz.underlying271
abbrev uQ272:=Qqqm Tryz.underlying272
abbrev uQ280:=Qqqm Tryz.underlying280
abbrev uQ285:=Qqqm Tryz.underlying285
abbrev uQ288:=Qqqm Tryz.underlying288
abbrev uQ289:=Qqqm Tryz.underlying289
abbrev uQ294:=Qqqm Tryz.underlying294
abbrev uQ305:=Qqqm Tryz.underlying305
abbrev uQ306:=Qqqm Tryz.underlying306
abbrev uQ309:=Qqqm Tryz.underlying309
abbrev uQ333:=Qqqm Tryz.underlying333
abbrev uQ337:=Qqqm Tryz.underlying337
abbrev uQ349:=Qqqm Tryz.underlying349
abbrev uQ351:=Qqqm Tryz.underlying351
abbrev uQ352:=Qqqm Tryz.underlying352
abbrev uQ357:=Qqqm Tryz.underlying357
abbrev uQ359:=Qqqm Tryz.underlying359
abbrev uQ360:=Qqqm Tryz.underlying360
abbrev uQ361:=Qqqm Tryz.underlying361
abbrev uQ364:=Qqqm Tryz.underlying364
abbrev uQ366:=Qqqm Tryz.underlying366
attribute [instance] uQ0 uQ2 uQ3 uQ4 uQ5 uQ9 uQ20 uQ21 uQ22 uQ23 uQ24 uQ26 uQ28 uQ41 uQ42 uQ43 uQ44 uQ46 uQ47 uQ49 uQ50 uQ52 uQ58 uQ62 uQ64 uQ66 uQ82 uQ84 uQ86 uQ94 uQ96 uQ98 uQ109 uQ130 uQ131 uQ135 uQ137 uQ139 uQ142 uQ162 uQ164 uQ167 uQ168 uQ171 uQ180 uQ188 uQ189 uQ192 uQ196 uQ198 uQ203 uQ205 uQ219 uQ229 uQ234 uQ260 uQ261 uQ263 uQ266 uQ271 uQ272 uQ280 uQ285 uQ288 uQ289 uQ294 uQ305 uQ306 uQ309 uQ333 uQ337 uQ349 uQ351 uQ352 uQ357 uQ359 uQ360 uQ361 uQ364 uQ366
instance CR:Qqx Tryz.prog 3 (.int .i64 0) 1 8:=⟨by unfold Zr;kernel_rfl⟩
instance ZT:Qqx Tryz.prog 4 (.bool false) 1 1:=⟨by unfold Zr;kernel_rfl⟩
instance Ri:Qqx Tryz.prog 5 (.int .u8 0) 1 1:=⟨by unfold Zr;kernel_rfl⟩
instance HO:Qqx Tryz.prog 9 (.string .empty) 1 16:=⟨by unfold Zr;kernel_rfl⟩
instance Nq:Qqx Tryz.prog 22 (.slice none 0 0) 1 24:=⟨by unfold Zr;kernel_rfl⟩
instance IF:Qqx Tryz.prog 23 (.slice none 0 0) 1 24:=⟨by unfold Zr;kernel_rfl⟩
instance JP:Qqx Tryz.prog 24 (.slice none 0 0) 1 24:=⟨by unfold Zr;kernel_rfl⟩
instance By:Qqx Tryz.prog 26 (.agg #[.int .i64 0,.slice none 0 0,.string .empty,.slice none 0 0,.int .i64 0,.int .i64 0,.slice none 0 0]) 7 112:=⟨by unfold Zr;kernel_rfl⟩
instance AE:Qqx Tryz.prog 28 (.agg #[.int .i64 0,.int .i64 0]) 2 16:=⟨by unfold Zr;kernel_rfl⟩
instance Aai:Qqx Tryz.prog 44 (.slice none 0 0) 1 24:=⟨by unfold Zr;kernel_rfl⟩
instance LN:Qqx Tryz.prog 46 (.agg #[.int .i64 0,.slice none 0 0]) 2 32:=⟨by unfold Zr;kernel_rfl⟩
instance Aaj:Qqx Tryz.prog 47 (.slice none 0 0) 1 24:=⟨by unfold Zr;kernel_rfl⟩
instance M5:Qqx Tryz.prog 49 (.agg #[.int .i64 0,.slice none 0 0]) 2 32:=⟨by unfold Zr;kernel_rfl⟩
instance Lo:Qqx Tryz.prog 50 (.slice none 0 0) 1 24:=⟨by unfold Zr;kernel_rfl⟩
instance Lp:Qqx Tryz.prog 52 (.agg #[.int .i64 0,.slice none 0 0,.int .i64 0,.slice none 0 0,.slice none 0 0]) 5 88:=⟨by unfold Zr;kernel_rfl⟩
instance Sy:Qqx Tryz.prog 58 (.slice none 0 0) 1 24:=⟨by unfold Zr;kernel_rfl⟩
instance YV:Qqx Tryz.prog 62 (.slice none 0 0) 1 24:=⟨by unfold Zr;kernel_rfl⟩
instance HP:Qqx Tryz.prog 64 (.agg #[.int .i64 0,.int .i64 0,.slice none 0 0,.slice none 0 0,.slice none 0 0]) 5 88:=⟨by unfold Zr;kernel_rfl⟩
instance Agf:Qqx Tryz.prog 66 (.agg #[.slice none 0 0,.int .i64 0,.int .i64 0,.slice none 0 0,.slice none 0 0,.slice none 0 0]) 6 112:=⟨by unfold Zr;kernel_rfl⟩
instance Agg:Qqx Tryz.prog 82 (.agg #[]) 0 0:=⟨by unfold Zr;kernel_rfl⟩
instance Aak:Qqx Tryz.prog 96 (.agg #[.slice none 0 0]) 1 24:=⟨by unfold Zr;kernel_rfl⟩
instance G8:Qqx Tryz.prog 98 (.agg #[.slice none 0 0,.slice none 0 0,.slice none 0 0]) 3 72:=⟨by unfold Zr;kernel_rfl⟩
instance AdV:Qqx Tryz.prog 109 (.slice none 0 0) 1 24:=⟨by unfold Zr;kernel_rfl⟩
instance AiS:Qqx Tryz.prog 131 (.slice none 0 0) 1 24:=⟨by unfold Zr;kernel_rfl⟩
instance OV:Qqx Tryz.prog 135 (.agg #[.string .empty,.int .i64 0,.int .i64 0]) 3 32:=⟨by unfold Zr;kernel_rfl⟩
instance H7:Qqx Tryz.prog 137 (.agg #[.int .i64 0,.int .i64 0]) 2 16:=⟨by unfold Zr;kernel_rfl⟩
instance Ah4:Qqx Tryz.prog 139 (.map none) 1 8:=⟨by unfold Zr;kernel_rfl⟩
instance JQ:Qqx Tryz.prog 142 (.agg #[.string .empty,.int .i64 0,.int .i64 0,.string .empty]) 4 48:=⟨by unfold Zr;kernel_rfl⟩
instance RE:Qqx Tryz.prog 192 (.agg #[.string .empty,.slice none 0 0]) 2 40:=⟨by unfold Zr;kernel_rfl⟩
instance KL:Qqx Tryz.prog 203 (.agg #[.string .empty,.int .i64 0,.int .i64 0,.string .empty,.slice none 0 0]) 5 72:=⟨by unfold Zr;kernel_rfl⟩
theorem P4(w:World):(Instr.build 26 #[]).run Tryz.prog w=.ok (.agg #[.int .i64 0,.slice none 0 0,.string .empty,.slice none 0 0,.int .i64 0,.int .i64 0,.slice none 0 0]) w:=by kernel_rfl
theorem Agh(a:Int)(w:World):(Instr.build 26 #[(0,.int .i64 a)]).run Tryz.prog w=.ok (.agg #[.int .i64 a,.slice none 0 0,.string .empty,.slice none 0 0,.int .i64 0,.int .i64 0,.slice none 0 0]) w:=by kernel_rfl
theorem WV(b:Int)(a:Value)(c:a.oneCell'=true)(w:World):(Instr.build 26 #[(0,.int .i64 b),(1,a)]).run Tryz.prog w=.ok (.agg #[.int .i64 b,a,.string .empty,.slice none 0 0,.int .i64 0,.int .i64 0,.slice none 0 0]) w:=by cases a <;> first | (simp [Value.oneCell'] at c;done) | kernel_rfl
theorem YW(c:Int)(a:Value)(d:a.oneCell'=true)(b:Value)(e:b.oneCell'=true)(w:World):(Instr.build 26 #[(0,.int .i64 c),(1,a),(6,b)]).run Tryz.prog w=.ok (.agg #[.int .i64 c,a,.string .empty,.slice none 0 0,.int .i64 0,.int .i64 0,b]) w:=by cases a <;> first | (simp [Value.oneCell'] at d;done) | cases b <;> first | (simp [Value.oneCell'] at e;done) | kernel_rfl
theorem OW(b:Int)(a:Value)(c:a.oneCell'=true)(w:World):(Instr.build 26 #[(0,.int .i64 b),(6,a)]).run Tryz.prog w=.ok (.agg #[.int .i64 b,.slice none 0 0,.string .empty,.slice none 0 0,.int .i64 0,.int .i64 0,a]) w:=by cases a <;> first | (simp [Value.oneCell'] at c;done) | kernel_rfl
theorem BM(w:World):(Instr.build 28 #[]).run Tryz.prog w=.ok (.agg #[.int .i64 0,.int .i64 0]) w:=by kernel_rfl
theorem M6(a:Int)(b:Int)(w:World):(Instr.build 28 #[(0,.int .i64 a),(1,.int .i64 b)]).run Tryz.prog w=.ok (.agg #[.int .i64 a,.int .i64 b]) w:=by kernel_rfl
theorem XK(w:World):(Instr.build 46 #[]).run Tryz.prog w=.ok (.agg #[.int .i64 0,.slice none 0 0]) w:=by kernel_rfl
theorem Agi(a:Int)(w:World):(Instr.build 46 #[(0,.int .i64 a)]).run Tryz.prog w=.ok (.agg #[.int .i64 a,.slice none 0 0]) w:=by kernel_rfl
theorem XL(w:World):(Instr.build 49 #[]).run Tryz.prog w=.ok (.agg #[.int .i64 0,.slice none 0 0]) w:=by kernel_rfl
theorem Agj(a:Int)(w:World):(Instr.build 49 #[(0,.int .i64 a)]).run Tryz.prog w=.ok (.agg #[.int .i64 a,.slice none 0 0]) w:=by kernel_rfl
theorem U7(w:World):(Instr.build 52 #[]).run Tryz.prog w=.ok (.agg #[.int .i64 0,.slice none 0 0,.int .i64 0,.slice none 0 0,.slice none 0 0]) w:=by kernel_rfl
theorem Acn(a:Int)(b:Int)(w:World):(Instr.build 64 #[(0,.int .i64 a),(1,.int .i64 b)]).run Tryz.prog w=.ok (.agg #[.int .i64 a,.int .i64 b,.slice none 0 0,.slice none 0 0,.slice none 0 0]) w:=by kernel_rfl
theorem WW(f:Value)(g:f.oneCell'=true)(a b c d e:Value)(w:World):(Instr.build 66 #[(0,f),(1,.agg #[a,b,c,d,e])]).run Tryz.prog w=.ok (.agg #[f,a,b,c,d,e]) w:=by cases f <;> first | (simp [Value.oneCell'] at g;done) | kernel_rfl
theorem Agk(w:World):(Instr.build 82 #[]).run Tryz.prog w=.ok (.agg #[]) w:=by kernel_rfl
theorem Agl(a:Value)(b:a.oneCell'=true)(w:World):(Instr.build 86 #[(0,a)]).run Tryz.prog w=.ok (.agg #[a,.int .i64 0]) w:=by cases a <;> first | (simp [Value.oneCell'] at b;done) | kernel_rfl
theorem Agm(a:Value)(b:a.oneCell'=true)(w:World):(Instr.build 96 #[(0,a)]).run Tryz.prog w=.ok (.agg #[a]) w:=by cases a <;> first | (simp [Value.oneCell'] at b;done) | kernel_rfl
theorem Aby(w:World):(Instr.build 98 #[]).run Tryz.prog w=.ok (.agg #[.slice none 0 0,.slice none 0 0,.slice none 0 0]) w:=by kernel_rfl
theorem L6(a:Value)(b:Value)(d:b.oneCell'=true)(c:Value)(h2:c.oneCell'=true)(w:World):(Instr.build 98 #[(0,.agg #[a]),(1,b),(2,c)]).run Tryz.prog w=.ok (.agg #[a,b,c]) w:=by cases b <;> first | (simp [Value.oneCell'] at d;done) | cases c <;> first | (simp [Value.oneCell'] at h2;done) | kernel_rfl
theorem AdW(a:Int)(w:World):(Instr.build 135 #[(1,.int .i64 a)]).run Tryz.prog w=.ok (.agg #[.string .empty,.int .i64 a,.int .i64 0]) w:=by kernel_rfl
theorem Vu(a:Int)(b:Int)(w:World):(Instr.build 137 #[(0,.int .i64 a),(1,.int .i64 b)]).run Tryz.prog w=.ok (.agg #[.int .i64 a,.int .i64 b]) w:=by kernel_rfl
theorem AdX(a:Int)(w:World):(Instr.build 137 #[(1,.int .i64 a)]).run Tryz.prog w=.ok (.agg #[.int .i64 0,.int .i64 a]) w:=by kernel_rfl
theorem Vv(a:Value)(e:a.oneCell'=true)(c:Int)(d:Int)(b:Value)(h3:b.oneCell'=true)(w:World):(Instr.build 142 #[(0,a),(1,.int .i64 c),(2,.int .i64 d),(3,b)]).run Tryz.prog w=.ok (.agg #[a,.int .i64 c,.int .i64 d,b]) w:=by cases a <;> first | (simp [Value.oneCell'] at e;done) | cases b <;> first | (simp [Value.oneCell'] at h3;done) | kernel_rfl
theorem Aal(a:Value)(c:a.oneCell'=true)(b:Value)(d:b.oneCell'=true)(w:World):(Instr.build 192 #[(0,a),(1,b)]).run Tryz.prog w=.ok (.agg #[a,b]) w:=by cases a <;> first | (simp [Value.oneCell'] at c;done) | cases b <;> first | (simp [Value.oneCell'] at d;done) | kernel_rfl
theorem Aam(a b c d:Value)(e:Value)(f:e.oneCell'=true)(w:World):(Instr.build 203 #[(0,.agg #[a,b,c,d]),(1,e)]).run Tryz.prog w=.ok (.agg #[a,b,c,d,e]) w:=by cases e <;> first | (simp [Value.oneCell'] at f;done) | kernel_rfl
theorem Agn(w:World):(Instr.buildSlice 22 0 #[]).run Tryz.prog w=.ok (.slice (some ⟨w.heap.size,0,none⟩) 0 0) (w.alloc (.cells #[] 9)):=by kernel_rfl
theorem S0(a:Value)(b:a.oneCell'=true)(w:World):(Instr.buildSlice 22 1 #[(0,a)]).run Tryz.prog w=.ok (.slice (some ⟨w.heap.size,0,none⟩) 1 1) (w.alloc (.cells #[a] 9)):=by cases a <;> first | (simp [Value.oneCell'] at b;done) | kernel_rfl
theorem Ago(w:World):(Instr.buildSlice 23 0 #[]).run Tryz.prog w=.ok (.slice (some ⟨w.heap.size,0,none⟩) 0 0) (w.alloc (.cells #[] 5)):=by kernel_rfl
theorem S1(a:Int)(w:World):(Instr.buildSlice 23 1 #[(0,.int .u8 a)]).run Tryz.prog w=.ok (.slice (some ⟨w.heap.size,0,none⟩) 1 1) (w.alloc (.cells #[.int .u8 a] 5)):=by kernel_rfl
theorem Abz(a:Int)(b:Int)(w:World):(Instr.buildSlice 23 2 #[(0,.int .u8 a),(1,.int .u8 b)]).run Tryz.prog w=.ok (.slice (some ⟨w.heap.size,0,none⟩) 2 2) (w.alloc (.cells #[.int .u8 a,.int .u8 b] 5)):=by kernel_rfl
theorem Ab0(a:Int)(b:Int)(c:Int)(w:World):(Instr.buildSlice 23 3 #[(0,.int .u8 a),(1,.int .u8 b),(2,.int .u8 c)]).run Tryz.prog w=.ok (.slice (some ⟨w.heap.size,0,none⟩) 3 3) (w.alloc (.cells #[.int .u8 a,.int .u8 b,.int .u8 c] 5)):=by kernel_rfl
theorem N5(a b c d e f g:Value)(w:World):(Instr.buildSlice 24 1 #[(0,.agg #[a,b,c,d,e,f,g])]).run Tryz.prog w=.ok (.slice (some ⟨w.heap.size,0,none⟩) 1 1) (w.alloc (.cells #[a,b,c,d,e,f,g] 26)):=by kernel_rfl
theorem Agp(a b c d e f:Value)(g h i j k l:Value)(w:World):(Instr.buildSlice 42 2 #[(0,.agg #[a,b,c,d,e,f]),(1,.agg #[g,h,i,j,k,l])]).run Tryz.prog w=.ok (.slice (some ⟨w.heap.size,0,none⟩) 2 2) (w.alloc (.cells #[a,b,c,d,e,f,g,h,i,j,k,l] 66)):=by kernel_rfl
theorem U8(a:Bool)(b:Bool)(w:World):(Instr.buildSlice 43 2 #[(0,.bool a),(1,.bool b)]).run Tryz.prog w=.ok (.slice (some ⟨w.heap.size,0,none⟩) 2 2) (w.alloc (.cells #[.bool a,.bool b] 4)):=by kernel_rfl
theorem Agq(a b:Value)(w:World):(Instr.buildSlice 44 1 #[(0,.agg #[a,b])]).run Tryz.prog w=.ok (.slice (some ⟨w.heap.size,0,none⟩) 1 1) (w.alloc (.cells #[a,b] 192)):=by kernel_rfl
theorem Agr(a b c d e:Value)(w:World):(Instr.buildSlice 47 1 #[(0,.agg #[a,b,c,d,e])]).run Tryz.prog w=.ok (.slice (some ⟨w.heap.size,0,none⟩) 1 1) (w.alloc (.cells #[a,b,c,d,e] 203)):=by kernel_rfl
theorem S2(a b c:Value)(w:World):(Instr.buildSlice 50 1 #[(0,.agg #[a,b,c])]).run Tryz.prog w=.ok (.slice (some ⟨w.heap.size,0,none⟩) 1 1) (w.alloc (.cells #[a,b,c] 98)):=by kernel_rfl
theorem Ags(w:World):(Instr.buildSlice 58 0 #[]).run Tryz.prog w=.ok (.slice (some ⟨w.heap.size,0,none⟩) 0 0) (w.alloc (.cells #[] 3)):=by kernel_rfl
theorem Jn(a:Int)(w:World):(Instr.buildSlice 58 1 #[(0,.int .i64 a)]).run Tryz.prog w=.ok (.slice (some ⟨w.heap.size,0,none⟩) 1 1) (w.alloc (.cells #[.int .i64 a] 3)):=by kernel_rfl
theorem Ab1(a:Int)(b:Int)(w:World):(Instr.buildSlice 58 2 #[(0,.int .i64 a),(1,.int .i64 b)]).run Tryz.prog w=.ok (.slice (some ⟨w.heap.size,0,none⟩) 2 2) (w.alloc (.cells #[.int .i64 a,.int .i64 b] 3)):=by kernel_rfl
theorem Ab2(a:Int)(b:Int)(c:Int)(d:Int)(w:World):(Instr.buildSlice 58 4 #[(0,.int .i64 a),(1,.int .i64 b),(2,.int .i64 c),(3,.int .i64 d)]).run Tryz.prog w=.ok (.slice (some ⟨w.heap.size,0,none⟩) 4 4) (w.alloc (.cells #[.int .i64 a,.int .i64 b,.int .i64 c,.int .i64 d] 3)):=by kernel_rfl
theorem La(a b c d e:Value)(w:World):(Instr.buildSlice 62 1 #[(0,.agg #[a,b,c,d,e])]).run Tryz.prog w=.ok (.slice (some ⟨w.heap.size,0,none⟩) 1 1) (w.alloc (.cells #[a,b,c,d,e] 64)):=by kernel_rfl
theorem N6(a:Value)(b:a.oneCell'=true)(w:World):(Instr.buildSlice 94 1 #[(0,a)]).run Tryz.prog w=.ok (.slice (some ⟨w.heap.size,0,none⟩) 1 1) (w.alloc (.cells #[a] 23)):=by cases a <;> first | (simp [Value.oneCell'] at b;done) | kernel_rfl
theorem S3(a:Value)(f:a.oneCell'=true)(b:Value)(g:b.oneCell'=true)(c:Value)(h2:c.oneCell'=true)(d:Value)(h3:d.oneCell'=true)(e:Value)(h:e.oneCell'=true)(w:World):(Instr.buildSlice 94 5 #[(0,a),(1,b),(2,c),(3,d),(4,e)]).run Tryz.prog w=.ok (.slice (some ⟨w.heap.size,0,none⟩) 5 5) (w.alloc (.cells #[a,b,c,d,e] 23)):=
 (YQ (qs:=#[(0,.agg #[a]),(1,.agg #[b]),(2,.agg #[c]),(3,.agg #[d]),(4,.agg #[e])]) (by show([(0,a.cells),(1,b.cells),(2,c.cells),(3,d.cells),(4,e.cells)]:List (Nat×Array Value))=[(0,(Value.agg #[a]).cells),(1,(Value.agg #[b]).cells),(2,(Value.agg #[c]).cells),(3,(Value.agg #[d]).cells),(4,(Value.agg #[e]).cells)];rw [M4 f,M4 g,M4 h2,M4 h3,M4 h])).trans Qqb
theorem AdY(w:World):(Instr.buildSlice 109 0 #[]).run Tryz.prog w=.ok (.slice (some ⟨w.heap.size,0,none⟩) 0 0) (w.alloc (.cells #[] 137)):=by kernel_rfl
theorem YX(a b:Value)(w:World):(Instr.buildSlice 109 1 #[(0,.agg #[a,b])]).run Tryz.prog w=.ok (.slice (some ⟨w.heap.size,0,none⟩) 1 1) (w.alloc (.cells #[a,b] 137)):=by kernel_rfl
theorem AdZ(a b c:Value)(w:World):(Instr.buildSlice 131 1 #[(0,.agg #[a,b,c])]).run Tryz.prog w=.ok (.slice (some ⟨w.heap.size,0,none⟩) 1 1) (w.alloc (.cells #[a,b,c] 135)):=by kernel_rfl
theorem Aea(a:Value)(c:a.oneCell'=true)(b:Value)(d:b.oneCell'=true)(w:World):(Instr.buildSlice 180 2 #[(0,a),(1,b)]).run Tryz.prog w=.ok (.slice (some ⟨w.heap.size,0,none⟩) 2 2) (w.alloc (.cells #[a,b] 58)):=
 (YQ (qs:=#[(0,.agg #[a]),(1,.agg #[b])]) (by show([(0,a.cells),(1,b.cells)]:List (Nat×Array Value))=[(0,(Value.agg #[a]).cells),(1,(Value.agg #[b]).cells)];rw [M4 c,M4 d])).trans Qqb
theorem Aeb(a b c d:Value)(w:World):(Instr.buildSlice 196 1 #[(0,.agg #[a,b,c,d])]).run Tryz.prog w=.ok (.slice (some ⟨w.heap.size,0,none⟩) 1 1) (w.alloc (.cells #[a,b,c,d] 142)):=by kernel_rfl
theorem Jh:Tryz.prog.eqGuardType Tryz.prog.depth 28=false:=by kernel_rfl
theorem Nc(a b c e:Int)(w:World):(Op.equalIn 10000 28 (.agg #[.int .i64 a,.int .i64 b]) (.agg #[.int .i64 c,.int .i64 e])).run Tryz.prog w=.ok (decide (a=c/\b=e)) w:=
 Adt (by kernel_rfl) (by kernel_rfl) (by kernel_rfl : (Tryz.prog.fieldsOf 28).toList = [{ name := "Code", type := 3, offset := 0, embedded := false, tag := "", pkgPath := "", byteOffset := 0 }, { name := "Index", type := 3, offset := 1, embedded := false, tag := "", pkgPath := "", byteOffset := 8 }]) ⟨by decide, rfl⟩ ⟨by decide, rfl⟩ Tryz.underlying3 Tryz.underlying3 a b c e w
theorem Aig:Tryz.prog.eqGuardType Tryz.prog.depth 137=false:=by kernel_rfl
theorem AiT(a b c e:Int)(w:World):(Op.equalIn 10000 137 (.agg #[.int .i64 a,.int .i64 b]) (.agg #[.int .i64 c,.int .i64 e])).run Tryz.prog w=.ok (decide (a=c/\b=e)) w:=
 Adt (by kernel_rfl) (by kernel_rfl) (by kernel_rfl : (Tryz.prog.fieldsOf 137).toList = [{ name := "Item", type := 3, offset := 0, embedded := false, tag := "", pkgPath := "", byteOffset := 0 }, { name := "Word", type := 3, offset := 1, embedded := false, tag := "", pkgPath := "", byteOffset := 8 }]) ⟨by decide, rfl⟩ ⟨by decide, rfl⟩ Tryz.underlying3 Tryz.underlying3 a b c e w
theorem AiU(s m:List UInt8)(x y:Int)(a b:List UInt8)(c y2:Int)(w:World):(Op.equalIn 10000 142 (.agg #[.string ⟨s.toArray⟩,.int .i64 x,.int .i64 y,.string ⟨m.toArray⟩]) (.agg #[.string ⟨a.toArray⟩,.int .i64 c,.int .i64 y2,.string ⟨b.toArray⟩])).run Tryz.prog w=.ok (decide (s=a/\x=c/\y=y2/\m=b)) w:=
 AiQ (by kernel_rfl) (by kernel_rfl) (by kernel_rfl : (Tryz.prog.fieldsOf 142).toList = [{ name := "path", type := 9, offset := 0, embedded := false, tag := "", pkgPath := "scriptorium/shapes", byteOffset := 0 }, { name := "kind", type := 3, offset := 1, embedded := false, tag := "", pkgPath := "scriptorium/shapes", byteOffset := 16 }, { name := "number", type := 3, offset := 2, embedded := false, tag := "", pkgPath := "scriptorium/shapes", byteOffset := 24 }, { name := "text", type := 9, offset := 3, embedded := false, tag := "", pkgPath := "scriptorium/shapes", byteOffset := 32 }]) ⟨by decide, rfl⟩ ⟨by decide, rfl⟩ ⟨by decide, rfl⟩ ⟨by decide, rfl⟩ Tryz.underlying9 Tryz.underlying3 Tryz.underlying3 Tryz.underlying9 s m x y a b c y2 w
theorem Aih:PU Tryz.prog 9 encS:=Ack Tryz.underlying9
theorem Aec:PU Tryz.prog 142 L5:=AdK Tryz.underlying142 (fun _ _ _ _ _ _=>by kernel_rfl) (fun s a m b x c y y2 w=>AiU s m x y a b c y2 w)
end Go.Proofs.YtekmbcbgknmhiaaGreatDoor
end
noncomputable section
namespace Go.Proofs.YtekmbcbgknmhiaaGreatDoor
open Go Go.E Go.RowKit Go.Shelf
def Gq(H:PH):Prop:=
 ((∀ c,c<256->IE H ⟨Tryz.Kn.g 2,c,none⟩=some (.int .u8 (Lib.firstT c)))/\
 (∀ i,i<16->IE H ⟨Tryz.Kn.g 3,2 * i,none⟩=some (.int .u8 (Lib.accLo i))/\IE H ⟨Tryz.Kn.g 3,2 * i+1,none⟩=some (.int .u8 (Lib.accHi i))))/\
 (∀ w, Le H (hp w) -> Lib.TabIs Tryz.prog w "internal/strconv.uint64pow10" .u64 Lib.pow10Tab) /\
 (∃ t p,IE H ⟨Tryz.TQ.g 15,0,none⟩=some (.iface t p))/\(∃ t p,IE H ⟨Tryz.TQ.g 16,0,none⟩=some (.iface t p))
theorem Gq.mono{H H':PH}(h:Gq H)(hs:Le H H'):Gq H':=by
 obtain⟨a,h2,⟨t,p,h3⟩,⟨t',p',b⟩⟩:=h;exact⟨⟨fun c hc=>Jk hs (a.1 c hc),fun i hi=>⟨Jk hs (a.2 i hi).1,Jk hs (a.2 i hi).2⟩⟩,fun w hw=>h2 w (hs.trans hw),⟨t,p,Jk hs h3⟩,⟨t',p',Jk hs b⟩⟩
theorem Gq.Aj6{w:World}(h:Gq (hp w)):Lib.Utf8Tabs (Tryz.Kn.g 2) (Tryz.Kn.g 3) w:=⟨h.1.1,h.1.2⟩
def Aco(l:List UInt8):Option (Int×Int):=Go.L.AN (l≠[]) (some (((Lib.decodeGo ⟨l.toArray⟩).1:Int),((Lib.decodeGo ⟨l.toArray⟩).2:Int)))
section
variable(w:World)(H:PH)(hH:Le H (hp w)) include hH
theorem Ah5(hU:Gq H){u:Value}{l:List UInt8}(ha:AJ .byte H u l){r:Int×Int}(h:Aco l=some r):
  Ok Tryz.prog 232 [u] w (fun v w'=>Ext w w'/\v=.tuple #[.int .i32 r.1,.int .i64 r.2]):=by
 obtain⟨hk,h⟩:=Go.L.GG h;obtain rfl:=Option.some.inj h;have hs:(ByteArray.mk l.toArray).size=l.length:=by simp [Qxc]
 obtain⟨a,cap,rfl,h2,h3,f,g⟩:=ha.ex
 cases a with
 | none=>exact absurd (Qz9 (by have:=f Z;omega)) hk
 | some A=>
  obtain⟨d,i⟩:=g A Z hk;obtain⟨b,off,sp⟩:=A;simp only at d;subst d
  have hc:=Any7.utf8_DecodeRune Tryz.Adg ⟨l.toArray⟩ b off cap w (hU.mono hH).Aj6 (fun j hj=>by
   rw [hs] at hj;obtain⟨c,hc,hcell⟩:=i j l[j] (List.getElem?_eq_getElem hj);obtain rfl:c=[.int .u8 (l[j].toNat:Int)]:=hc;have:=cell_of hH (hcell 0 _ Z);rw [show(Rp.byte).sz=1 from Z,Qz4,Qxx,Addr.add_lit] at this;rw [this];have e:(ByteArray.mk l.toArray).get! j=l[j]:=by simp [ByteArray.get!,hj]
   rw [e])
  rw [hs] at hc;refine⟨⟨Tryz.f232,_,Tryz.func232,Z,Z⟩,hc.mono fun e w' he=>?_⟩;obtain⟨rfl,hb⟩:=he;exact⟨_,Z,Ext.off hb,Z⟩
end
theorem Aan(w:World)(k:Nat)(os:Array Obj):Below w.heap.size w (Go.Sort.grow (w.drewN k) os):=
 ⟨Z,Z,Z,by simp [Go.Sort.grow,World.drewN],fun j hj=>by
  simp only [Go.Sort.grow,World.drewN];rw [Qk9 hj]⟩
def S4(n:Int):Option (List UInt8):=Go.L.AN (-9223372036854775808<=n/\n<=9223372036854775807) (some (Lib.itoa n))
section
variable(w:World)(H:PH)(hH:Le H (hp w)) include hH
theorem XM(hU:Gq H){a0:Int}{r:List UInt8}(h:S4 a0=some r):Ok Tryz.prog 64 [.int .i64 a0] w (fun v w'=>Ext w w'/\v=.string ⟨r.toArray⟩):=by
 obtain⟨hk,h⟩:=Go.L.GG h;obtain rfl:=Option.some.inj h;refine⟨⟨Tryz.f64,_,Tryz.func64,Z,Z⟩,(Any.strconv_Itoa Tryz.AfE a0 hk.1 hk.2 w (hU.2.1 w hH)).mono fun e w' he=>?_⟩;obtain⟨rfl,k,os,rfl⟩:=he;exact⟨_,Z,Ext.off (Aan _ _ _),Z⟩
theorem Aed{a:Int}:Ok Tryz.prog 220 [.int .i64 a] w (fun v w'=>Ext w w'/\v=.bool (decide ((8:Int)<a))):=by
 refine⟨⟨Tryz.f220,_,Tryz.func220,Z,Z⟩,(Any.strings_shouldUseASCIISet (ρ:=Tryz.Tg) {Tryz.Adh with} a w).mono fun e w' he=>?_⟩;obtain⟨rfl,rfl⟩:=he;exact⟨_,Z,Ext.refl _,Z⟩
end
def AiV(l:List UInt8):Option (Int×Bool):=Go.L.AN (l.length<=281474976710656) (some (match Lib.atoiAll l with
 | .ok v=>(v,true)
 | .range=>(Lib.atoiSat l,false)
 | _=>(0,false)))
def pieces(s:List UInt8):List (List UInt8):=Lib.split s [47]
def Rj(s sep:List UInt8)(sv n:Int):Option (List (List UInt8)):=Go.L.AN (s.length<4294967281/\sep.length=1/\sv=0/\n = -1) (some (Lib.split s sep))
theorem YY(G:PH):∀ l:List (List UInt8),AH Rp.st G l (l.map Go.Proofs.encStr)
 | []=>.nil
 | _::l=>.cons (c:=[_]) Z (YY G l)
section
variable(w:World)(H:PH)(hH:Le H (hp w)) include hH
theorem YZ{a0 a1:List UInt8}{a2 a3:Int}{r:List (List UInt8)}(h:Rj a0 a1 a2 a3=some r):
  Ok Tryz.prog 166 [.string ⟨a0.toArray⟩,.string ⟨a1.toArray⟩,.int .i64 a2,.int .i64 a3] w (fun v w'=>Ext w w'/\∃ u0,v=u0/\Ck 9 .st H w w' u0 r):=by
 obtain⟨hk,h⟩:=Go.L.GG h;obtain rfl:=Option.some.inj h;obtain⟨h1,h2,rfl,rfl⟩:=hk;obtain⟨sb,rfl⟩:=List.length_eq_one_iff.1 h2;have hsz:(ByteArray.mk a0.toArray).size=a0.length:=by simp [Qxc]
 obtain⟨N,hN⟩:∃ N,N=Lib.countB ⟨a0.toArray⟩ ⟨#[sb]⟩+1:=⟨_,Z⟩;have hle:Lib.countB ⟨a0.toArray⟩ ⟨#[sb]⟩<=(ByteArray.mk a0.toArray).size:=Lib.countB_le ⟨#[sb]⟩ (Qzx 1) _ _ (Qzx _)
 have c:=Any.strings_genSplit_core (P:=Tryz.prog) (ρ:=Tryz.N1) {Tryz.UF with} Qqb ⟨a0.toArray⟩ ⟨#[sb]⟩ 0 (-1) N w (by rw [hsz];exact h1) (Qzx 1) (Nat.zero_le _)
  (fun x cc hx=>(Any.strings_Index_one (P:=Tryz.prog) (ρ:=Tryz.N1) {Tryz.UF with} x sb _).mono fun e w' ⟨he,hw⟩=>⟨by rw [he];exact congrArg (fun z=>Ending.returned (Value.int .i64 z)) (Lib.index_one x.data.toList sb).symm,hw⟩)
  ((Any.strings_Count_one (P:=Tryz.prog) (ρ:=Tryz.N1) {Tryz.UF with} ⟨a0.toArray⟩ sb w).mono fun e w' ⟨he,hw⟩=>⟨by rw [he];exact congrArg (fun z:Nat=>Ending.returned (Value.int .i64 (z:Int))) (Lib.count_one sb _).symm,hw⟩)
  Qqc Qqc (by rw [if_pos Qqc,hN];omega)
 refine⟨⟨Tryz.f166,_,Tryz.func166,Z,Z⟩,c.mono fun e w' he=>?_⟩;obtain⟨rfl,rfl⟩:=he
 have hl:(Lib.splitB ⟨#[sb]⟩ 0 (N - 1) ⟨a0.toArray⟩).length=N:=by
  have:=Lib.splitB_all ⟨#[sb]⟩ (Qzx 1) 0 (N - 1) ⟨a0.toArray⟩ U;omega
 have hd:=Lib.splitB_data ⟨#[sb]⟩ 0 (N - 1) ⟨a0.toArray⟩
 have hpc:(Lib.splitB ⟨#[sb]⟩ 0 (N - 1) ⟨a0.toArray⟩).map (fun b=>b.data.toList)=Lib.split a0 [sb]:=by
  rw [hd];unfold Lib.split;rw [hN]
  rfl
 have hpl:(Lib.split a0 [sb]).length=N:=by rw [<- hpc,Qzk,hl]
 have hmp:(Lib.splitB ⟨#[sb]⟩ 0 (N - 1) ⟨a0.toArray⟩).map Value.string=(Lib.split a0 [sb]).map Go.Proofs.encStr:=by
  rw [<- hpc,Qx0];apply Qkq;intro b _
  show Value.string b=Value.string ⟨b.data.toList.toArray⟩
  rw [Array.toArray_toList]
 refine⟨_,Z,Dy w _,_,Z,(Lib.split a0 [sb]).map Go.Proofs.encStr,?_,YY _ _⟩;refine⟨by rw [Qzk];exact(Qz4 _).symm,.inr ⟨w.heap.size,N,_,?_,Qzx _,World.alloc_heap_new w _,?_,?_,?_,?_⟩⟩
 ·rw [hl,hpl]
 ·omega
 ·unfold maxLen;omega
 ·rw [Lib.cellsOf_size U];exact(Qz4 _).symm
 ·have e1:Lib.cellsOf (Lib.splitB ⟨#[sb]⟩ 0 (N - 1) ⟨a0.toArray⟩) N=((Lib.splitB ⟨#[sb]⟩ 0 (N - 1) ⟨a0.toArray⟩).map Value.string).toArray:=by
   have:=Lib.cellsOf_full (Lib.splitB ⟨#[sb]⟩ 0 (N - 1) ⟨a0.toArray⟩)
   rwa [hl] at this
  rw [e1,hmp];exact Qxk (by rw [Qzk];exact Nat.le_of_eq (Qz4 _).symm)
def WX(a:List UInt8)(c:UInt8):Option Int:=some (Lib.indexByte a c)
theorem Ab3{a0:List UInt8}{a1:UInt8}{r:Int}(h:WX a0 a1=some r):
  Ok Tryz.prog 168 [.string ⟨a0.toArray⟩,.int .u8 (a1.toNat:Int)] w (fun v w'=>Ext w w'/\v=.int .i64 r):=by
 obtain rfl:=Option.some.inj h;refine⟨⟨Tryz.f168,_,Tryz.func168,Z,Z⟩,(Any.strings_IndexByte Tryz.AiA ⟨a0.toArray⟩ (a1.toNat:Int) w).mono fun e w' he=>?_⟩;obtain⟨rfl,rfl⟩:=he;refine⟨_,Z,Ext.refl _,?_⟩;have e:((a1.toNat:Int).toNat).toUInt8=a1:=by simp
 rw [e]
def S5(a:List (List UInt8))(sep:List UInt8):Option (List UInt8):=Go.L.AN (a.length<=140737488355328/\(Lib.join a sep).length<=140737488355328) (some (Lib.join a sep))
theorem XN{a0:List (List UInt8)}{a1:List UInt8}{v:Value}(hv:AJ .st H v a0){r:List UInt8}(h:S5 a0 a1=some r):
  Ok Tryz.prog 63 [v,.string ⟨a1.toArray⟩] w (fun v w'=>Ext w w'/\v=.string ⟨r.toArray⟩):=by
 obtain⟨⟨h1,h2⟩,h⟩:=Go.L.GG h;obtain rfl:=Option.some.inj h
 have X:Builder.Extra Tryz.prog Tryz.TO:={
  liesBuilder:=by kernel_rfl
  sizeBuilder:=by kernel_rfl
  t5:=by kernel_rfl
  a5:=fun w=>by kernel_rfl
  z5:=fun w=>by kernel_rfl
  v5:=fun w=>by kernel_rfl
  infoByte:=by kernel_rfl
  cellsByte:=by kernel_rfl
  sizeByte:=by kernel_rfl
  neB5:=by decide}
 obtain⟨a,cap,rfl,k2,k3,k4,k5⟩:=hv.ex
 have key:∀ (P:Prop),((a0=[]->P)/\(∀ A,a=some A->a0≠[]->P))->P:=fun P hP=>by
  by_cases ha:a0=[]
  ·exact hP.1 ha
  ·cases a with
   | none=>exact absurd (Qz9 (by have:=k4 Z;omega)) ha
   | some A=>exact hP.2 A Z ha
 refine key _ ⟨fun he=>?_,fun A hA hne=>?_⟩
 ·subst he;refine⟨⟨Tryz.f63,_,Tryz.func63,Z,Z⟩,(Any.strings_Join_none Tryz.AaS X a cap ⟨a1.toArray⟩ w).mono fun e w' hh=>?_⟩;obtain⟨rfl,rfl⟩:=hh;exact⟨_,Z,Ext.refl _,Z⟩
 ·subst hA;obtain⟨k6,k7⟩:=k5 A Z hne;obtain⟨b,o,sp⟩:=A;simp only at k6;subst k6
  have hcell:∀ (j:Nat) x,(a0.map fun l=>(⟨l.toArray⟩:ByteArray))[j]? = some x->w.cell? ⟨b,o+j,none⟩=some (.string x):=fun j x hx=>by
   rw [List.getElem?_map] at hx
   cases hj:a0[j]? with
   | none=>rw [hj] at hx;cases hx
   | some l=>
    rw [hj] at hx;obtain rfl:=Option.some.inj hx;obtain⟨c,hc,hcell⟩:=k7 j l hj;obtain rfl:c=[.string ⟨l.toArray⟩]:=hc;have:=cell_of hH (hcell 0 _ Z)
    rwa [show(Rp.st).sz=1 from Z,Qz4,Qxx,Addr.add_lit] at this
  have hpos:0<a0.length:=List.length_pos_iff.2 hne
  have hb:b<w.heap.size:=by
   have h0:=hcell 0 ⟨(a0[0]'hpos).toArray⟩ (by simp [hpos]);exact World.block_lt_of_cell? _ _ h0
  have e2:(a0.map fun l=>(⟨l.toArray⟩:ByteArray)).map (·.data.toList)=a0:=by rw [Qx0];exact(Qkq (fun l _=>by simp)).trans (List.map_id _)
  have c:=Any.strings_Join Tryz.AaS X b o cap (a0.map fun l=>(⟨l.toArray⟩:ByteArray)) ⟨a1.toArray⟩ w hcell hb (by rw [Qzk];exact h1) (by rw [Qzk];omega) (by rw [e2];simpa using h2);rw [e2,Qzk] at c;refine⟨⟨Tryz.f63,_,Tryz.func63,Z,Z⟩,c.mono fun e w' hh=>?_⟩;obtain⟨rfl,hb'⟩:=hh;exact⟨_,Z,Ext.off hb',by simp⟩
end
end Go.Proofs.YtekmbcbgknmhiaaGreatDoor
end
noncomputable section
namespace Go.Proofs.YtekmbcbgknmhiaaGreatDoor
open Go Go.E Go.RowKit Go.L
set_option maxHeartbeats 1000000
set_option maxRecDepth 10000
open _root_.Go.Proofs.Tryz
def Ek(a0:AaV)(a1:AaV):Option Int:=
 some ((Lib.compareBytes a0 a1))
abbrev Qqv[Dr](f:FuncId)(a:List Value)(w:World)(R:Value->World->Prop):=Ok prog f a w (fun v w'=>Ext w w'/\R v w')
section
variable(w:World)(H:PH)(hH:Le H (hp w)) include hH
theorem LC[Dr]{a0 a1:AaV}{r:Int}(h:Ek a0 a1=some r):
  Qqv 238 [AaM a0,AaM a1] w (fun v w'=>v=No r):=by
 refine A1 8 [(0,(AaM a0)),(1,(AaM a1))] func238 Z fun hL=>AI 1 Z<|Bx 2 Z<|Ai (AhT func304 Qqb Qqb Z Z)<|A8 1 Z<|Ay ?_
 cases h
 refine Al Z ⟨hL.ext,Z⟩
def strings_Compare(a0:AaV)(a1:AaV):Option Int:=
 Qq4 (Ek a0 a1) (fun a=>some a)
theorem Lq[Dr]{a0 a1:AaV}{r:Int}(h:strings_Compare a0 a1=some r):
  Qqv 188 [AaM a0,AaM a1] w (fun v w'=>v=No r):=by
 refine A1 8 [(0,(AaM a0)),(1,(AaM a1))] func188 Z fun hL=>AI 1 Z<|Bx 2 Z<|Aw h fun e a h=>AD hL (LC _ _ (An hL) a) fun f d b c=>A8 1 Z<|Ay ?_
 cases h
 refine Al Z ⟨b.ext,Z⟩
def cmp_isNaN_int(a0:Int):Option Bool:=
 some (!decide (a0=a0))
theorem OX[Dr]{a0:Int}{r:Bool}(h:cmp_isNaN_int a0=some r):
  Qqv 239 [No a0] w (fun v w'=>v=.bool r):=by
 refine A1 6 [(0,No a0)] func239 Z fun hL=>AI 1 Z<|AI 4 Z<|Ay ?_
 cases h
 refine Al Z ⟨hL.ext,Z⟩
def J0(a0 a1:Int):Option Int:=
 Qq4 (cmp_isNaN_int a0) (fun b=>Qq4 (cmp_isNaN_int a1) (fun a=>if b then(if a then some (0) else some ((-1))) else(if a then some (1) else(if a0<a1 then some ((-1)) else(if a1<a0 then some (1) else some (0))))))
theorem NT[Dr]{a0 a1 r:Int}(h:J0 a0 a1=some r):
  Qqv 189 [No a0,No a1] w (fun v w'=>v=No r):=by
 refine A1 20 [(0,No a0),(1,No a1)] func189 Z fun hL=>AI 1 Z<|Bx 1 Z<|Aw h fun p f h=>AD hL (OX _ _ (An hL) f) fun q m b k=>A8 1 Z<|Bx 1 Z<|Aw h fun s g h=>AD b (OX _ _ (An b) g) fun t o a l=>A8 1 Z<|AB<|AI 1 Z<|B8 h ?_ ?_<;>intro i h
 ·refine AB<|AI 1 Z<|B8 h ?_ ?_<;>intro j h
  ·refine AI 1 Z<|Ay ?_
   iterate 2 refine Aq ?_
   cases h
   refine Al Z ⟨a.ext,Z⟩
  refine Ax<|As<|AI 1 Z<|Ay<|Aq ?_
  cases h
  refine Al Z ⟨a.ext,Z⟩
 refine Ax<|As<|AB<|AI 1 Z<|B8 h ?_ ?_<;>intro c h
 ·refine AI 1 Z<|Ay<|Aq ?_
  cases h
  refine Al Z ⟨a.ext,Z⟩
 refine Ax<|As<|AB<|AI 3 Z<|AQ h ?_ ?_<;>intro d h
 ·refine AI 1 Z<|Ay<|Aq ?_
  cases h
  refine Al Z ⟨a.ext,Z⟩
 refine Ax<|As<|AB<|AI 3 Z<|AQ h ?_ ?_<;>intro e h
 ·refine AI 1 Z<|Ay<|Aq ?_
  cases h
  refine Al Z ⟨a.ext,Z⟩
 refine Ax<|As<|AI 1 Z<|Ay ?_
 cases h
 refine Al Z ⟨a.ext,Z⟩
def RF:Option Int:=
 some (0)
def GJ(a0:List Int):Int->Option ((Int) ⊕ (Int)):=fun a=>
 if a<(a0.length:Int) then AN (0<=a/\a<(a0.length:Int)) (if a0.getD a.toNat Qq2=0 then AN (Bz (a+1)) (some (Sum.inl (a+1))) else Qq7 Sum.inr (some (a0.getD a.toNat Qq2))) else Qq7 Sum.inr RF
def RG(a0:List Int)(s:Int):Option Int:=Go.L.run (GJ a0) s
def P5(a0:List Int):Option Int:=
 (RG a0) (0:Int)
theorem Ws[Dr]{a0:List Int}{b:Value}(e:AJ (.int .i64) H b a0){r:Int}(h:P5 a0=some r):
  Qqv 187 [b] w (fun v w'=>v=No r):=by
 refine A1 18 [(0,b)] func187 Z fun hL=>AI 1 Z<|AI 1 Z<|B2 Unit (fun(_:Unit)=>[(3,No 0)]) (fun(_:Unit) wr=>Bb w [] wr/\RF=some r) ?_ ?_
 ·refine Bx 1 Z<|Ai (Bm e)<|A8 1 Z<|A4 ?_;obtain⟨f,h⟩:=Ba h;refine B7 (Int×Nat) (fun⟨a,n⟩=>[(3,No 0),(6,b),(7,No (a0.length:Int)),(8,No a)]) (fun⟨a,n⟩ wr=>Bb w [] wr/\Ia (GJ a0) n a=some r) (fun⟨a,n⟩=>n) (0,f) Z ⟨hL,h⟩ ?_;rintro⟨a,nn36⟩ o ⟨c,h⟩;obtain⟨f,q,rfl,h,d⟩:=AZ h;refine AI 1 Z<|AB<|AQ h ?_ ?_<;>intro i h
  ·refine Ax<|As<|AB<|A4<|Aj<|A2 h fun g h=>Bi e a.toNat (GX g) (AX g) ?_;rintro s _ rfl j;refine Ai (Bl j (hH.trans c.arg))<|A8 1 Z<|AI 3 Z<|CX h ?_ ?_<;>intro k h
   ·refine AI 2 Z<|Ay<|Av<|Aq<|BJ ?_;have h:=Cf.out h d;refine Av<|Bs ?_
    cases h
    refine Al Z ⟨c.ext,Z⟩
   refine Ax<|A3<|As<|Au<|A2 h fun l h=>Ai (A7 l)<|Ar 1 Z<|AL ?_;have h:=Cf.again h d;refine AM (_,_) Z ⟨c,h⟩
  refine B4<|AF<|A5 ?_;have h:=Cf.out h d;refine Bg<|AA () ⟨c,h⟩
 rintro _ p ⟨m,h⟩;refine AI 2 Z<|Ay ?_
 cases h
 refine Al Z ⟨m.ext,Z⟩
end
def K6(a0:AaV×Int×Int×AaV)(a1:AaV×Int×Int×AaV):Option Int:=
 Qq4 (strings_Compare a0.1 a1.1) (fun c=>Qq4 (J0 a0.2.1 a1.2.1) (fun d=>Qq4 (J0 a0.2.2.1 a1.2.2.1) (fun e=>Qq4 (strings_Compare a0.2.2.2 a1.2.2.2) (fun a=>Qq4 (P5 ([c,d,e,a])) (fun b=>some b)))))
theorem P6[Dr](w:World)(H:PH)(hH:Le H (hp w)){a0 a1:AaV×Int×Int×AaV}{r:Int}(h:K6 a0 a1=some r):
  Ok prog 137 [.agg #[AaM a0.1,No a0.2.1,No a0.2.2.1,AaM a0.2.2.2],.agg #[AaM a1.1,No a1.2.1,No a1.2.2.1,AaM a1.2.2.2]] w (fun v w'=>Ext w w'/\v=No r):=by
 refine A1 27 [(0,.agg #[AaM a0.1,No a0.2.1,No a0.2.2.1,AaM a0.2.2.2]),(1,.agg #[AaM a1.1,No a1.2.1,No a1.2.2.1,AaM a1.2.2.2])] func137 Z fun hL=>Aj<|CD (t:=142) Z Z hL fun w1 b1 j y _=>CD (t:=142) Z Z j fun w2 b2 k z _=>A8 1 Z<|Ex (Qqz 0 20 (.h 20 (.q 21 (.q 22 (.tail 23))))) mixed Qqb (fun w3 m=>?_);have a:=k.call m;refine CB Z (Ae Z Ajw Z HO.e) Z<|CB Z (Ag 1 Z a Z) Z<|CB Z (Ae Z Ajw Z HO.e) Z<|CB Z (Ag 0 Z a Z) Z<|Aw h fun x5 o h=>JN Z Z Z (fun w6 ag=>Lq _ _ (Le.refl _) o)<|CB Z (Ae Z Ajw Z CR.e) Z<|CB Z (Ag 1 Z a Z) Z<|CB Z (Ae Z Ajw Z CR.e) Z<|CB Z (Ag 0 Z a Z) Z<|Aw h fun x7 p h=>JN Z Z Z (fun w8 ah=>NT _ _ (Le.refl _) p)<|CB Z (Ae Z Ajw Z CR.e) Z ?_
 refine CB Z (Ag 1 Z a Z) Z<|CB Z (Ae Z Ajw Z CR.e) Z<|CB Z (Ag 0 Z a Z) Z<|Aw h fun x9 s h=>JN Z Z Z (fun ai ad=>NT _ _ (Le.refl _) s)<|CB Z (Ae Z Ajw Z HO.e) Z<|CB Z (Ag 1 Z a Z) Z<|CB Z (Ae Z Ajw Z HO.e) Z<|CB Z (Ag 0 Z a Z) Z<|Aw h fun u c h=>JN Z Z Z (fun aj ae=>Lq _ _ (Le.refl _) c)<|Q0 [x5,x7,x9,u] (r:=(.int .i64)) Z Z (fun _=>Ab2 _ _ _ _ _) Z (BI 4) hH a (.c1 Z (.c1 Z (.c1 Z (.c1 Z .nil)))) fun ak al af b x d=>Aw h fun am e h=>JN Z Z Z (fun an f=>Ws _ _ (Le.refl _) ((d.mono (An b)).mono f.le) e)<|D4 1 Z<|BT (fun ao g=>?_);have i:=b.call g;refine Ad<|Ay ?_
 cases h
 refine Al Z ⟨i.ext,Z⟩
def O9(a0:AaV)(a1:AaV):Option Int:=
 some ((Lib.compareBytes a0 a1))
section
variable(w:World)(H:PH)(hH:Le H (hp w)) include hH
theorem Tu[Dr]{a0 a1:AaV}{a b:Value}(c:AJ .byte H a a0)(d:AJ .byte H b a1){r:Int}(h:O9 a0 a1=some r):
  Qqv 175 [a,b] w (fun v w'=>v=No r):=by
 refine A1 8 [(0,a),(1,b)] func175 Z fun hL=>AI 1 Z<|Bx 2 Z<|Ai (AhS func227 Qqb Qqb c (hH.trans hL.arg) d (hH.trans hL.arg))<|A8 1 Z<|Ay ?_
 cases h
 refine Al Z ⟨hL.ext,Z⟩
end
def NU(a0 a1:Int)(a:AaV):Option Int:=
 AN (0<=a0/\a0<=(a.length:Int)) (AN (0<=a1/\a1<=(a.length:Int)) (Qq4 (O9 (a.drop a0.toNat) (a.drop a1.toNat)) (fun b=>some b)))
theorem S6[Dr](w:World)(H:PH)(hH:Le H (hp w)){a0 a1:Int}{i:AaV}{b:Value}{f:Addr}(c:AJ .byte H b i)(d:IM H f [b]){r:Int}(h:NU a0 a1 i=some r):
  Ok prog 174 [No a0,No a1,.pointer (some f)] w (fun v w'=>Ext w w'/\v=No r):=by
 refine A1 13 [(0,No a0),(1,No a1),(2,.pointer (some f))] func174 Z fun hL=>AI 1 Z<|Ex (Qqz 0 8 (.tail 8)) mixed Qqb (fun t j=>?_);have a:=hL.call j;refine CB Z (Bl d (hH.trans a.arg)) Z<|D4 1 Z<|A2 h fun k h=>St Z Z Af7 c k Z fun u l=>CB Z (Bl d (hH.trans a.arg)) Z<|D4 1 Z<|A2 h fun m h=>St Z Z Af7 c m Z fun x o=>Aw h fun y p h=>JN Z Z Z (fun z e=>Tu _ _ (Le.refl _) ((l.mono (hH.trans a.arg)).mono e.le) ((o.mono (hH.trans a.arg)).mono e.le) p)<|D4 1 Z<|BT (fun w9 s=>?_);have g:=a.call s;refine Ad<|Ay ?_
 cases h
 refine Al Z ⟨g.ext,Z⟩
end Go.Proofs.YtekmbcbgknmhiaaGreatDoor
end
noncomputable section
namespace Go.L
inductive Qv where
 | mk (kind:Int) (words:List (List UInt8)) (pattern data:List UInt8) (low high:Int) (subs:List Qv)
instance:Inhabited Qv:=⟨.mk 0 [] [] [] 0 0 []⟩
abbrev QvF:Type:=Int×List (List UInt8)×List UInt8×List UInt8×Int×Int×List Qv
def Qv.f:Qv->QvF
 | .mk k ws p d l h ss=>(k,ws,p,d,l,h,ss)
end Go.L
namespace Go.E
open Go Go.L
variable {α β:Type}
def Rp.S7(r:Rp Qv):Rp QvF:=.pair (.int .i64) (.pair (.vec .st) (.pair .st (.pair (.vec .byte) (.pair (.int .i64) (.pair (.int .i64) (.vec r))))))
def Rp.Lt:Nat->Rp Qv
 | 0=>.no Qv 7
 | d+1=>(Rp.S7 (Rp.Lt d)).via Qv.f
theorem Rp.OY:∀ d,(Rp.Lt d).sz=7
 | 0=>rfl
 | _+1=>rfl
theorem Rp.Vw{r s:Rp Qv}{H:PH}{x:QvF}{c:List Value}(hz:r.sz=s.sz)(hrel:∀ y∈x.2.2.2.2.2.2,∀ c,r.rel H y c->s.rel H y c)(h:(Rp.S7 r).rel H x c):(Rp.S7 s).rel H x c:=by
 obtain⟨c1,c2,e,f,c3,c4,g,h2,c5,c6,i,h3,c7,c8,j,k,l,a,m,n,b,d,o,p,v,q,t⟩:=h;exact⟨c1,c2,e,f,c3,c4,g,h2,c5,c6,i,h3,c7,c8,j,k,l,a,m,n,b,d,o,p,v,q,t.AdJ hz hrel⟩
theorem Rp.TW{H:PH}:∀ (d:Nat) (x:Qv) (c:List Value),(Rp.Lt d).rel H x c->(Rp.Lt (d+1)).rel H x c
 | 0,_,_,h=>h.elim
 | d+1,x,c,h=>Rp.Vw (r:=Rp.Lt d) (s:=Rp.Lt (d+1)) (by rw [Rp.OY,Rp.OY]) (fun y _ c h=>Rp.TW d y c h) h
theorem Rp.WY{H:PH}{d e:Nat}(h:d<=e){x:Qv}{c:List Value}(hx:(Rp.Lt d).rel H x c):(Rp.Lt e).rel H x c:=by
 induction h with
 | refl=>exact hx
 | step _ ih=>exact Rp.TW _ _ _ ih
def Rp.Bu:Rp Qv:=⟨7,fun H x c=>∃ d,(Rp.Lt d).rel H x c,fun h=>by obtain⟨d,h⟩:=h;rw [(Rp.Lt d).len h,Rp.OY],fun hs h=>by obtain⟨d,h⟩:=h;exact⟨d,(Rp.Lt d).mono hs h⟩,fun h=>by obtain⟨d,h⟩:=h;exact(Rp.Lt d).one h⟩
theorem Rp.HQ{H:PH}{x:Qv}{c:List Value}(h:Rp.Bu.rel H x c):(Rp.S7 Rp.Bu).rel H x.f c:=by
 obtain⟨d,h⟩:=h
 cases d with
 | zero=>exact h.elim
 | succ d=>exact Rp.Vw (r:=Rp.Lt d) (s:=Rp.Bu) (Rp.OY d) (fun y _ c h=>⟨d,h⟩) h
theorem AJ.Aii{H:PH}{v:Value}{l:List Qv}(h:AJ Rp.Bu H v l):∃ d,AJ (Rp.Lt d) H v l:=by
 obtain⟨a,cap,b,h2,h3,f,g⟩:=h.ex
 cases a with
 | none=>exact⟨0,none,cap,b,h2,h3,f,fun A hA=>by cases hA⟩
 | some A=>
  have key:∀ n,∃ d,∀ i x,i<n->l≠[]->l[i]? = some x->∃ c,(Rp.Lt d).rel H x c/\∀ j u,c[j]? = some u->IE H (A.add (i * 7+j))=some u:=by
   intro n
   induction n with
   | zero=>exact⟨0,fun i x hi=>absurd hi (Nat.not_lt_zero i)⟩
   | succ n ih=>
    obtain⟨d,hd⟩:=ih
    by_cases hl:l=[]
    ·exact⟨0,fun i x _ hn=>absurd hl hn⟩
    cases hx:l[n]? with
    | none=>
     refine⟨d,fun i x hi hn he=>?_⟩
     rcases Qjk.1 hi with hi | rfl
     ·exact hd i x hi hn he
     ·rw [hx] at he
      cases he
    | some y=>
     obtain⟨c,⟨e,hc⟩,hcell⟩:=(g A Z hl).2 n y hx;refine⟨max d e,fun i x hi hn he=>?_⟩
     rcases Qjk.1 hi with hi | rfl
     ·obtain⟨c',k,m⟩:=hd i x hi hn he;exact⟨c',Rp.WY (Nat.le_max_left ..) k,m⟩
     ·rw [hx] at he
      cases he
      exact⟨c,Rp.WY (Nat.le_max_right ..) hc,hcell⟩
  obtain⟨d,hd⟩:=key l.length;refine⟨d,some A,cap,b,h2,h3,f,fun B hB hl=>?_⟩
  cases hB
  refine⟨(g A Z hl).1,fun i x hx=>?_⟩;rw [Rp.OY];exact hd i x (QzD.1 hx).1 hl hx
theorem Rp.H8{H:PH}{x:Qv}{c:List Value}(h:(Rp.S7 Rp.Bu).rel H x.f c):Rp.Bu.rel H x c:=by
 obtain⟨c1,c2,g,i,c3,c4,j,h2,c5,c6,k,h3,c7,c8,l,m,n,a,o,p,b,e,q,r,v,s,t⟩:=h;obtain⟨d,hd⟩:=t.Aii;exact⟨d+1,c1,c2,g,i,c3,c4,j,h2,c5,c6,k,h3,c7,c8,l,m,n,a,o,p,b,e,q,r,v,s,hd⟩
end Go.E
end
noncomputable section
namespace Go.Proofs.YtekmbcbgknmhiaaGreatDoor
open Go Go.E Go.RowKit Go.L
set_option maxHeartbeats 1000000
set_option maxRecDepth 10000
open _root_.Go.Proofs.Tryz
def Ib(a0 a1 a2:Int):Option Bool:=
 some (decide ((a1<=a0)/\(a0<=a2)))
def LO(a0 a1:Int):Option ((Int×Int)):=
 some ((a0,a1))
section
variable(w:World)(H:PH)(hH:Le H (hp w)) include hH
theorem Aao{a0 a1:Int}{r:(Int×Int)}(h:LO a0 a1=some r):
  Qqv 18 [No a0,No a1] w (fun v w'=>v=.agg #[No r.1,No r.2]):=by
 refine A1 8 [(0,No a0),(1,No a1)] func18 Z fun hL=>Aj<|A9 AE.e Z hL fun e f b c _=>Ad<|Bx 2 Z<|Ai (AT (fun _=>M6 _ _ _))<|Af 0 Z b Z fun g a d=>Ad<|Ay ?_
 cases h
 refine Dz (.cell Z Ajx Z AE.e (AG (i:=0) a Z)) ⟨a.ext,Z⟩
def LP:Option Bool:=
 some true
def J8(a0:List Int)(a1:List Int):Int->Option ((Int) ⊕ (Bool)):=fun a=>
 if a<(a0.length:Int) then AN (0<=a/\a<(a0.length:Int)) (AN (0<=a/\a<(a1.length:Int)) (if a0.getD a.toNat Qq2=a1.getD a.toNat Qq2 then AN (Bz (a+1)) (some (Sum.inl (a+1))) else Qq7 Sum.inr (some false))) else Qq7 Sum.inr LP
def N7(a0:List Int)(a1:List Int)(s:Int):Option Bool:=Go.L.run (J8 a0 a1) s
def M7(a0:List Int)(a1:List Int):Option Bool:=
 if(a0.length:Int)=(a1.length:Int) then(N7 a0 a1) (0:Int) else some false
theorem S8{a0 a1:List Int}{b c:Value}(d:AJ (.int .i64) H b a0)(g:AJ (.int .i64) H c a1){r:Bool}(h:M7 a0 a1=some r):
  Qqv 26 [b,c] w (fun v w'=>v=.bool r):=by
 refine A1 26 [(0,b),(1,c)] func26 Z fun hL=>AI 1 Z<|AB<|Bx 1 Z<|Ai (Bm d)<|Ar 1 Z<|Ai (Bm g)<|A8 1 Z<|CX h ?_ ?_<;>intro aa h
 ·refine AI 1 Z<|Ay<|Aq ?_
  cases h
  refine Al Z ⟨hL.ext,Z⟩
 refine Ax<|As<|B2 Unit (fun(_:Unit)=>[]) (fun(_:Unit) wr=>Bb w [] wr/\LP=some r) ?_ ?_
 ·refine AI 1 Z<|A4 ?_;obtain⟨i,h⟩:=Ba h;refine B7 (Int×Nat) (fun⟨a,n⟩=>[(0,b),(1,c),(5,No a)]) (fun⟨a,n⟩ wr=>Bb w [] wr/\Ia (J8 a0 a1) n a=some r) (fun⟨a,n⟩=>n) (0,i) Z ⟨hL,h⟩ ?_;rintro⟨a,nn57⟩ ab ⟨j,h⟩;obtain⟨i,ad,rfl,h,e⟩:=AZ h;refine AB<|Bx 2 Z<|Ai (Bm d)<|A8 1 Z<|AQ h ?_ ?_<;>intro o h
  ·refine Ax<|As<|AB<|A4<|Ex (Qqz 0 9 (.tail 9)) mixed Qqb (fun ae p=>?_);have f:=j.call p;refine D4 2 Z<|A2 h fun k h=>HZ Z Z Z AhD d a.toNat (GX k) (AX k) Z ?_;rintro af _ rfl s;refine CB Z (Bl s (hH.trans f.arg)) Z<|D4 2 Z<|A2 h fun l h=>HZ Z Z Z AhD g a.toNat (GX l) (AX l) Z ?_;rintro ag _ rfl t;refine CB Z (Bl t (hH.trans f.arg)) Z<|D4 1 Z<|BT (fun ah u=>?_);have m:=f.call u;refine Ad<|CX h ?_ ?_<;>intro x h
   ·refine AI 1 Z<|Ay<|Av<|Aq<|BJ ?_;have h:=Cf.out h e;refine Av<|Bs ?_
    cases h
    refine Al Z ⟨m.ext,Z⟩
   refine Ax<|A3<|As<|Au<|Ar 1 Z<|A2 h fun y h=>Ai (A7 y)<|Ar 1 Z<|AL ?_;have h:=Cf.again h e;refine AM (_,_) Z ⟨m,h⟩
  refine B4<|AF<|A5 ?_;have h:=Cf.out h e;refine Bg<|AA () ⟨j,h⟩
 rintro _ ac ⟨z,h⟩;refine AI 1 Z<|Ay ?_
 cases h
 refine Al Z ⟨z.ext,Z⟩
def IS(a0:AaV)(a1:AaV):Option Bool:=
 some (decide (a0=a1))
theorem Oq{a0 a1:AaV}{a b:Value}(c:AJ .byte H a a0)(d:AJ .byte H b a1){r:Bool}(h:IS a0 a1=some r):
  Qqv 31 [a,b] w (fun v w'=>v=.bool r):=by
 refine A1 10 [(0,a),(1,b)] func31 Z fun hL=>AI 1 Z<|Bx 1 Z<|Ai (UX c (hH.trans hL.arg))<|Ar 1 Z<|Ai (UX d (hH.trans hL.arg))<|Ai (Nx Z Z)<|A8 1 Z<|Ay ?_
 cases h
 refine Al Z ⟨hL.ext,Z⟩
def KM(a0:Int):Option UInt8:=
 if a0<10 then AN (Bz (48+a0)) (some ((Go.L.u8 (48+a0)))) else AN (Bz (97+a0)) (AN (Bz ((97+a0) - 10)) (some ((Go.L.u8 ((97+a0) - 10)))))
def Q5(a0:AaV):Option Bool:=
 Qq4 (Ib (a0.length:Int) (1:Int) (32:Int)) (fun a=>some a)
def EO(a0:AaV):Int->Option ((Int) ⊕ (Bool)):=fun a=>
 if a<(a0.length:Int) then AN (0<=a/\a<(a0.length:Int)) (Qq4 (Ib ((a0.getD a.toNat Qq2).toNat:Int) (97:Int) (122:Int)) (fun b=>if !b then if a=0 then Qq7 Sum.inr (some false) else Qq4 (Ib ((a0.getD a.toNat Qq2).toNat:Int) (48:Int) (57:Int)) (fun c=>if !c then if((a0.getD a.toNat Qq2).toNat:Int)=45 then AN (Bz (a+1)) (some (Sum.inl (a+1))) else if((a0.getD a.toNat Qq2).toNat:Int)=95 then AN (Bz (a+1)) (some (Sum.inl (a+1))) else if((a0.getD a.toNat Qq2).toNat:Int)=46 then AN (Bz (a+1)) (some (Sum.inl (a+1))) else Qq7 Sum.inr (some false) else AN (Bz (a+1)) (some (Sum.inl (a+1)))) else AN (Bz (a+1)) (some (Sum.inl (a+1))))) else Qq7 Sum.inr ((Q5 a0))
def Q6(a0:AaV)(s:Int):Option Bool:=Go.L.run (EO a0) s
def Q7(a0:AaV):Option Bool:=
 (Q6 a0) (0:Int)
def Wt(a:List AaV):Option ((List AaV)):=
 some a
def Fu(a0:AaV):(List AaV)×Int×Int->Option (((List AaV)×Int×Int) ⊕ ((List AaV))):=fun⟨c,b,a⟩=>
 if a<=(a0.length:Int) then(if a=(a0.length:Int) then AN (0<=b/\b<=a/\a<=(a0.length:Int)) (AN (Go.E.HK 16 (c.length+([((a0.drop b.toNat).take (a.toNat - b.toNat))]).length)) (AN (Bz (a+1)) (AN (Bz (a+1)) (some (Sum.inl ((c++[((a0.drop b.toNat).take (a.toNat - b.toNat))]),(a+1),(a+1))))))) else AN (0<=a/\a<(a0.length:Int)) (if((a0.getD a.toNat Qq2).toNat:Int)=47 then AN (0<=b/\b<=a/\a<=(a0.length:Int)) (AN (Go.E.HK 16 (c.length+([((a0.drop b.toNat).take (a.toNat - b.toNat))]).length)) (AN (Bz (a+1)) (AN (Bz (a+1)) (some (Sum.inl ((c++[((a0.drop b.toNat).take (a.toNat - b.toNat))]),(a+1),(a+1))))))) else AN (Bz (a+1)) (some (Sum.inl (c,b,(a+1)))))) else Qq7 Sum.inr (Wt c)
def Wu(a0:AaV)(s:(List AaV)×Int×Int):Option ((List AaV)):=Go.L.run (Fu a0) s
def RW(a0:AaV):Option ((List AaV)):=
 if a0=([]:AaV) then some ([]) else(Wu a0) (([]:List AaV),0,0)
def Wv:Option Int:=
 some ((-1))
def IT(a1:Bool)(c:(List AaV)):Int×Int->Option ((Int×Int) ⊕ (Int)):=fun⟨b,a⟩=>
 if a<(c.length:Int) then AN (0<=a/\a<(c.length:Int)) (Qq4 (Q7 (c.getD a.toNat Qq2)) (fun d=>if !d then AN (0<=a/\a<(c.length:Int)) (if c.getD a.toNat Qq2=([35]:AaV) then AN (0<=a/\a<(c.length:Int)) (AN (Bz (b+((c.getD a.toNat Qq2).length:Int))) (AN (Bz ((b+((c.getD a.toNat Qq2).length:Int))+1)) (AN (Bz (a+1)) (some (Sum.inl (((b+((c.getD a.toNat Qq2).length:Int))+1),(a+1))))))) else if a1 then AN (0<=a/\a<(c.length:Int)) (if c.getD a.toNat Qq2=([42]:AaV) then AN (0<=a/\a<(c.length:Int)) (AN (Bz (b+((c.getD a.toNat Qq2).length:Int))) (AN (Bz ((b+((c.getD a.toNat Qq2).length:Int))+1)) (AN (Bz (a+1)) (some (Sum.inl (((b+((c.getD a.toNat Qq2).length:Int))+1),(a+1))))))) else AN (0<=a/\a<(c.length:Int)) (if c.getD a.toNat Qq2=([42,42]:AaV) then AN (0<=a/\a<(c.length:Int)) (AN (Bz (b+((c.getD a.toNat Qq2).length:Int))) (AN (Bz ((b+((c.getD a.toNat Qq2).length:Int))+1)) (AN (Bz (a+1)) (some (Sum.inl (((b+((c.getD a.toNat Qq2).length:Int))+1),(a+1))))))) else Qq7 Sum.inr (some b))) else Qq7 Sum.inr (some b)) else AN (0<=a/\a<(c.length:Int)) (AN (Bz (b+((c.getD a.toNat Qq2).length:Int))) (AN (Bz ((b+((c.getD a.toNat Qq2).length:Int))+1)) (AN (Bz (a+1)) (some (Sum.inl (((b+((c.getD a.toNat Qq2).length:Int))+1),(a+1))))))))) else Qq7 Sum.inr Wv
def Ww(a1:Bool)(a:(List AaV))(s:Int×Int):Option Int:=Go.L.run (IT a1 a) s
def P7(a0:AaV)(a1:Bool):Option Int:=
 Qq4 (RW a0) (fun a=>(Ww a1 a) (0,0))
def LQ(a0:AaV):Option ((Int×Int)):=
 if 64<(a0.length:Int) then Qq4 (LO (3:Int) (-1:Int)) (fun b=>some ((b.1,b.2))) else Qq4 (P7 a0 true) (fun d=>if 0<=d then Qq4 (P7 a0 true) (fun c=>Qq4 (LO (1:Int) c) (fun a=>some ((a.1,a.2)))) else some ((0,0)))
def KN:Option Bool:=
 some true
def IU(a0:List AaV)(a1:List AaV):Int->Option ((Int) ⊕ (Bool)):=fun a=>
 if a<(a0.length:Int) then AN (0<=a/\a<(a0.length:Int)) (AN (0<=a/\a<(a1.length:Int)) (if a0.getD a.toNat Qq2=a1.getD a.toNat Qq2 then AN (Bz (a+1)) (some (Sum.inl (a+1))) else Qq7 Sum.inr (some false))) else Qq7 Sum.inr KN
def MR(a0:List AaV)(a1:List AaV)(s:Int):Option Bool:=Go.L.run (IU a0 a1) s
def M8(a0:List AaV)(a1:List AaV):Option Bool:=
 if(a0.length:Int)=(a1.length:Int) then(MR a0 a1) (0:Int) else some false
theorem Wx{a0 a1:List AaV}{b c:Value}(d:AJ .st H b a0)(g:AJ .st H c a1){r:Bool}(h:M8 a0 a1=some r):
  Qqv 43 [b,c] w (fun v w'=>v=.bool r):=by
 refine A1 26 [(0,b),(1,c)] func43 Z fun hL=>AI 1 Z<|AB<|Bx 1 Z<|Ai (Bm d)<|Ar 1 Z<|Ai (Bm g)<|A8 1 Z<|CX h ?_ ?_<;>intro aa h
 ·refine AI 1 Z<|Ay<|Aq ?_
  cases h
  refine Al Z ⟨hL.ext,Z⟩
 refine Ax<|As<|B2 Unit (fun(_:Unit)=>[]) (fun(_:Unit) wr=>Bb w [] wr/\KN=some r) ?_ ?_
 ·refine AI 1 Z<|A4 ?_;obtain⟨i,h⟩:=Ba h;refine B7 (Int×Nat) (fun⟨a,n⟩=>[(0,b),(1,c),(5,No a)]) (fun⟨a,n⟩ wr=>Bb w [] wr/\Ia (IU a0 a1) n a=some r) (fun⟨a,n⟩=>n) (0,i) Z ⟨hL,h⟩ ?_;rintro⟨a,nn57⟩ ab ⟨j,h⟩;obtain⟨i,ad,rfl,h,e⟩:=AZ h;refine AB<|Bx 2 Z<|Ai (Bm d)<|A8 1 Z<|AQ h ?_ ?_<;>intro o h
  ·refine Ax<|As<|AB<|A4<|Ex (Qqz 0 9 (.tail 9)) mixed Qqb (fun ae p=>?_);have f:=j.call p;refine D4 2 Z<|A2 h fun k h=>HZ Z Z Z Adb d a.toNat (GX k) (AX k) Z ?_;rintro af _ rfl s;refine CB Z (Bl s (hH.trans f.arg)) Z<|D4 2 Z<|A2 h fun l h=>HZ Z Z Z Adb g a.toNat (GX l) (AX l) Z ?_;rintro ag _ rfl t;refine CB Z (Bl t (hH.trans f.arg)) Z<|CB Z (Ss Z Z) Z<|BT (fun ah u=>?_);have m:=f.call u;refine Ad<|CX h ?_ ?_<;>intro x h
   ·refine AI 1 Z<|Ay<|Av<|Aq<|BJ ?_;have h:=Cf.out h e;refine Av<|Bs ?_
    cases h
    refine Al Z ⟨m.ext,Z⟩
   refine Ax<|A3<|As<|Au<|Ar 1 Z<|A2 h fun y h=>Ai (A7 y)<|Ar 1 Z<|AL ?_;have h:=Cf.again h e;refine AM (_,_) Z ⟨m,h⟩
  refine B4<|AF<|A5 ?_;have h:=Cf.out h e;refine Bg<|AA () ⟨j,h⟩
 rintro _ ac ⟨z,h⟩;refine AI 1 Z<|Ay ?_
 cases h
 refine Al Z ⟨z.ext,Z⟩
def Nf(a0:Int):Option (Pv):=
 some ((Pv.mk (1:Int) a0 ([]) ([]) ([])))
theorem Q8{a0:Int}{r:Pv}(h:Nf a0=some r):
  Qqv 37 [No a0] w (fun v w'=>∃ b c d,v=.agg #[No r.f.1,No r.f.2.1,b,c,d]/\Ck 5 .byte H w w' b (r.f.2.2.1)/\Ck 9 .st H w w' c (r.f.2.2.2.1)/\Ck 64 .tree H w w' d (r.f.2.2.2.2)):=by
 refine A1 5 [(0,No a0)] func37 Z fun hL=>Aj<|A9 HP.e Z hL fun k l e g _=>Ad<|Bx 1 Z<|Ai (AT (fun _=>Acn _ _ _))<|Af 0 Z e Z fun m a j=>Ad<|Ay ?_
 cases h
 refine Dz (.cell Z Ajy Z HP.e (AG (i:=0) a Z)) ⟨a.ext,_,_,_,Z,Ck.nil,Ck.nil,Ck.nil⟩
def Rk(a0:AaV):Option (Qv):=
 some ((Qv.mk (1:Int) ([a0]) ([]:AaV) ([]) (0:Int) (0:Int) ([])))
theorem XO{a0:AaV}{r:Qv}(h:Rk a0=some r):
  Qqv 36 [AaM a0] w (fun v w'=>∃ d e g,v=.agg #[No r.f.1,d,AaM r.f.2.2.1,e,No r.f.2.2.2.2.1,No r.f.2.2.2.2.2.1,g]/\AJ .st (un H (nw w w')) d (r.f.2.1)/\Ck 5 .byte H w w' e (r.f.2.2.2.1)/\Ck 26 .Bu H w w' g (r.f.2.2.2.2.2.2)):=by
 refine A1 6 [(0,(AaM a0))] func36 Z fun hL=>Aj<|A9 By.e Z hL fun q s j m _=>Ad<|Bx 1 Z<|B9 [a0] (r:=.st) (fun _=>S0 _ Z _) j (.c1 Z .nil) fun t u p k o a=>Ai (AT (fun _=>WV _ _ a.one _))<|Af 0 Z k Z (a:=(Bk Z (Bk a.one (AU Z)))) fun x b c=>Ad<|Ay ?_
 cases h
 refine Dz (.cell Z Aj3 Z By.e (AG (i:=0) b Z)) ?_;have a:=a.mono (Aa c);exact⟨b.ext,_,_,_,Z,(a.mono  EE),Ck.nil,Ck.nil⟩
def DJ(a0 a1:Int):Option ((Int×Int)):=
 some ((a0,a1))
theorem Hf{a0 a1:Int}{r:(Int×Int)}(h:DJ a0 a1=some r):
  Qqv 81 [No a0,No a1] w (fun v w'=>v=.agg #[No r.1,No r.2]):=by
 refine A1 8 [(0,No a0),(1,No a1)] func81 Z fun hL=>Aj<|A9 AE.e Z hL fun e f b c _=>Ad<|Bx 2 Z<|Ai (AT (fun _=>M6 _ _ _))<|Af 0 Z b Z fun g a d=>Ad<|Ay ?_
 cases h
 refine Dz (.cell Z Ajx Z AE.e (AG (i:=0) a Z)) ⟨a.ext,Z⟩
def L7(a0 a1:Int):Option ((Int×Int)):=
 some ((a0,a1))
theorem NV{a0 a1:Int}{r:(Int×Int)}(h:L7 a0 a1=some r):
  Qqv 127 [No a0,No a1] w (fun v w'=>v=.agg #[No r.1,No r.2]):=by
 refine A1 8 [(0,No a0),(1,No a1)] func127 Z fun hL=>Aj<|A9 AE.e Z hL fun e f b c _=>Ad<|Bx 2 Z<|Ai (AT (fun _=>M6 _ _ _))<|Af 0 Z b Z fun g a d=>Ad<|Ay ?_
 cases h
 refine Dz (.cell Z Ajx Z AE.e (AG (i:=0) a Z)) ⟨a.ext,Z⟩
def strings_Split(a0:AaV)(a1:AaV):Option ((List AaV)):=
 Qq4 (Rj a0 a1 (0:Int) (-1:Int)) (fun a=>some a)
theorem Tv{a0 a1:AaV}{r:(List AaV)}(h:strings_Split a0 a1=some r):
  Qqv 113 [AaM a0,AaM a1] w (fun v w'=>∃ d,v=d/\Ck 9 .st H w w' d r):=by
 refine A1 8 [(0,(AaM a0)),(1,(AaM a1))] func113 Z fun hL=>AI 1 Z<|Bx 2 Z<|Aw h fun l e h=>Bf hL (YZ _ _ (An hL) e) ?_;rintro j m ⟨_,rfl,b⟩ f a c;obtain⟨k,a,c,g⟩:=b.take hH hL f;refine A8 1 Z<|Ay ?_
 cases h
 refine Al Z ⟨a.ext,_,Z,(a.Iq hH (i:=0) Z g)⟩
def Iw(a0:AaV):Option ((List AaV)):=
 if a0=([]:AaV) then some ([]) else Qq4 (strings_Split a0 ([47]:AaV)) (fun a=>some a)
theorem Nr{a0:AaV}{r:(List AaV)}(h:Iw a0=some r):
  Qqv 158 [AaM a0] w (fun v w'=>∃ d,v=d/\Ck 9 .st H w w' d r):=by
 refine A1 7 [(0,(AaM a0))] func158 Z fun hL=>AI 1 Z<|AB<|Bx 1 Z<|Ai (Nx Z Z)<|Ad<|AQ h ?_ ?_<;>intro e h
 ·refine AI 1 Z<|Ay<|Aq ?_
  cases h
  refine Al Z ⟨hL.ext,_,Z,Ck.nil⟩
 refine Ax<|As<|Bx 1 Z<|Aw h fun m f h=>Bf hL (Tv _ _ (An hL) f) ?_;rintro k o ⟨_,rfl,b⟩ g a c;obtain⟨l,a,c,j⟩:=b.take hH hL g;refine A8 1 Z<|Ay ?_
 cases h
 refine Al Z ⟨a.ext,_,Z,(a.Iq hH (i:=0) Z j)⟩
def CJ(a0:Int):Option Bool:=
 if(0<=a0)/\(a0<55296) then some true else(if(57343<a0)/\(a0<=1114111) then some true else some false)
theorem Ol{a0:Int}{r:Bool}(h:CJ a0=some r):
  Qqv 267 [.int .i32 a0] w (fun v w'=>v=.bool r):=by
 refine A1 17 [(0,.int .i32 a0)] func267 Z fun hL=>AI 1 Z<|AB<|A4<|Bx 3 Z<|OM 2 2 Z Z Z Z Z Z<|A8 1 Z<|AQ h ?_ ?_<;>intro a h
 ·refine AI 1 Z<|Ay<|Av<|Aq ?_
  cases h
  refine Al Z ⟨hL.ext,Z⟩
 refine Bx 3 Z<|OM 2 2 Z Z Z Z Z Z<|A8 1 Z<|AQ h ?_ ?_<;>intro b h
 ·refine AI 1 Z<|Ay<|Av<|Aq ?_
  cases h
  refine Al Z ⟨hL.ext,Z⟩
 refine Ax<|A3<|As<|AI 1 Z<|Ay ?_
 cases h
 refine Al Z ⟨hL.ext,Z⟩
def Ix:Option Int:=
 some ((-1))
def CY(a0:AaV):Nat->Option ((Nat) ⊕ (Int)):=fun a=>
 if a<a0.length then(if((Tt a0 a).1:Int)=65533 then Qq7 Sum.inr (some ((a:Int))) else some (Sum.inl (a+(Tt a0 a).2))) else Qq7 Sum.inr Ix
def GK(a0:AaV)(s:Nat):Option Int:=Go.L.run (CY a0) s
def Iy(a1 a:Int):Option ((Int) ⊕ (Int)):=
 AN (Bz (a - (((GH a1).length:Int) - 1))) (Qq7 Sum.inr (some ((a - (((GH a1).length:Int) - 1)))))
def Ic(a0:AaV)(a1 b:Int):Int->Option ((Int) ⊕ ((Int) ⊕ (Int))):=fun a=>
 if a<((GH a1).length:Int) then AN (Bz (b - a)) (AN (0<=(b - a)/\(b - a)<(a0.length:Int)) (AN (Bz ((((GH a1).length:Int) - 1) - a)) (AN (0<=((((GH a1).length:Int) - 1) - a)/\((((GH a1).length:Int) - 1) - a)<((GH a1).length:Int)) (if((a0.getD (b - a).toNat Qq2).toNat:Int)=(((GH a1).getD ((((GH a1).length:Int) - 1) - a).toNat Qq2).toNat:Int) then AN (Bz (a+1)) (some (Sum.inl (a+1))) else none)))) else Qq7 Sum.inr ((Iy a1 b))
def JR(a0:AaV)(a1 a s:Int):Option ((Int) ⊕ (Int)):=Go.L.run (Ic a0 a1 a) s
def GL(a0:AaV)(a1 a:Int):Option ((Int) ⊕ (Int)):=
 (JR a0 a1 a) (1:Int)
def Iz:Option Int:=
 some ((-1))
def Gf(a0:AaV)(a1:Int):Int->Option ((Int) ⊕ (Int)):=fun a=>
 if a<(a0.length:Int) then AN (0<=a/\a<(a0.length:Int)) (AN (0<=(((GH a1).length:Int) - 1)/\(((GH a1).length:Int) - 1)<((GH a1).length:Int)) (if((a0.getD a.toNat Qq2).toNat:Int)=(((GH a1).getD (((GH a1).length:Int) - 1).toNat Qq2).toNat:Int) then(GL a0 a1) a else AN (Bz (a+1)) (AN (0<=(a+1)/\(a+1)<=(a0.length:Int)) (AN (0<=(((GH a1).length:Int) - 1)/\(((GH a1).length:Int) - 1)<((GH a1).length:Int)) (Qq4 (WX (a0.drop (a+1).toNat) ((GH a1).getD (((GH a1).length:Int) - 1).toNat Qq2)) (fun b=>if b<0 then Qq7 Sum.inr (some ((-1))) else AN (Bz (b+1)) (AN (Bz (a+(b+1))) ((GL a0 a1) (a+(b+1)))))))))) else Qq7 Sum.inr Iz
def JS(a0:AaV)(a1 s:Int):Option Int:=Go.L.run (Gf a0 a1) s
def E3(a0:AaV)(a1:Int):Option Int:=
 if(0<=a1)/\(a1<128) then Qq4 (WX a0 (Go.L.u8 a1)) (fun b=>some b) else(if a1=65533 then(GK a0) (0:Nat) else Qq4 (CJ a1) (fun a=>if !a then some ((-1)) else AN (Bz (((GH a1).length:Int) - 1)) ((JS a0 a1) (((GH a1).length:Int) - 1))))
theorem JT{a0:AaV}{a1 r:Int}(h:E3 a0 a1=some r):
  Qqv 219 [AaM a0,.int .i32 a1] w (fun v w'=>v=No r):=by
 refine A1 187 [(0,(AaM a0)),(1,.int .i32 a1)] func219 Z fun hL=>AI 1 Z<|A4<|Bx 3 Z<|OM 2 2 Z Z Z Z Z Z<|A8 1 Z<|AQ h ?_ ?_<;>intro bl h
 ·refine Bx 2 Z<|Ai (Lm (NO _))<|Aw h fun x3 bm h=>AD hL (Ab3 _ _ (An hL) bm) fun w4 cb bn bz=>A8 1 Z<|Ay<|Av ?_
  cases h
  refine Al Z ⟨bn.ext,Z⟩
 refine AI 3 Z<|AQ h ?_ ?_<;>intro bo h
 ·refine B2 Unit (fun(_:Unit)=>[]) (fun(_:Unit) wr=>Bb w [] wr/\Ix=some r) ?_ ?_
  ·refine Bx 1 Z<|YR Z hL fun cc bc bd bp=>Ad<|A4 ?_;obtain⟨x,h⟩:=Ba h;refine B7 (Nat×Nat) (fun⟨d,n⟩=>[(175,(Aad bc))]) (fun⟨d,n⟩ wr=>Bb w [.obj bc (.stringIter ⟨(a0).toArray⟩ d)] wr/\Ia (CY a0) n d=some r) (fun⟨d,n⟩=>n) ((0:Nat),x) Z ⟨bd,h⟩ ?_;rintro⟨d,nn36⟩ b0 ⟨y,h⟩;obtain⟨x,cd,rfl,h,f⟩:=AZ h;refine Aj<|Abv (l:=a0) (p:=d) 0 Z y Z (fun g=>?_) (fun g=>?_)
   ·have h:=ON g h;intro ce z bq;refine A8 1 Z<|AB<|Fq<|Ax<|As<|A4<|AI 4 Z<|AI 2 Z<|AQ h ?_ ?_<;>intro be h
    ·refine AI 2 Z<|Ay<|Av<|BJ ?_;have h:=Cf.out h f;refine Av<|Bs<|Av ?_
     cases h
     refine Al Z ⟨z.ext,Z⟩
    refine Ax<|A3 ?_;have h:=Cf.again h f;refine AM (_,_) Z ⟨z,h⟩
   have h:=OO g h;refine A8 1 Z<|AB<|G5<|B4<|AF<|A5 ?_;have h:=Cf.out h f;refine Bg ?_;have bf:=y.AS (i:=0) Z;refine AA () ⟨bf,h⟩
  rintro _ b1 ⟨bg,h⟩;refine AI 1 Z<|Ay<|Av ?_
  cases h
  refine Al Z ⟨bg.ext,Z⟩
 refine Bx 1 Z<|Aw h fun cf bh h=>AD hL (Ol _ _ (An hL) bh) fun cg b2 aa br=>A8 2 Z<|B8 h ?_ ?_<;>intro bi h
 ·refine AI 1 Z<|Ay<|Av ?_
  cases h
  refine Al Z ⟨aa.ext,Z⟩
 refine U3<|Bx 1 Z<|Ai (AiR Z)<|A8 1 Z<|Bx 1 Z<|Ai (IP Z)<|A2 h fun bj h=>Ai (A7 bj)<|A8 1 Z<|AI 2 Z<|AI 1 Z<|B2 Unit (fun(_:Unit)=>[]) (fun(_:Unit) wr=>Bb w [] wr/\Iz=some r) ?_ ?_
 ·refine A4 ?_;obtain⟨ab,h⟩:=Ba h;refine B7 (Int×Nat) (fun⟨c,n⟩=>[(0,(AaM a0)),(7,.string ⟨((GH a1)).toArray⟩),(8,No (((GH a1).length:Int) - 1)),(9,No c)]) (fun⟨c,n⟩ wr=>Bb w [] wr/\Ia (Gf a0 a1) n c=some r) (fun⟨c,n⟩=>n) ((((GH a1).length:Int) - 1),ab) Z ⟨aa,h⟩ ?_;rintro⟨c,nn253⟩ bs ⟨m,h⟩;obtain⟨ab,j,rfl,h,e⟩:=AZ h;refine AB<|Bx 2 Z<|Ai (IP Z)<|A8 1 Z<|AQ h ?_ ?_<;>intro ac h
  ·refine Ax<|As<|A4<|U3<|B2 Int (fun a=>[(0,(AaM a0)),(7,.string ⟨((GH a1)).toArray⟩),(8,No (((GH a1).length:Int) - 1)),(9,No a)]) (fun a wr=>Bb w [] wr/\(GL a0 a1) a=some j) ?_ ?_
   ·refine Ex (Qqz 0 7 (.tail 7)) mixed Qqb (fun b3 ad=>?_);have ae:=m.call ad;refine D4 2 Z<|A2 h fun af h=>CB Z (NQ af) Z<|D4 2 Z<|A2 h fun ag h=>CB Z (NQ ag) Z<|D4 1 Z<|BT (fun b4 ah=>?_);have o:=ae.call ah;refine Ad<|CX h ?_ ?_<;>intro ai h
    ·refine Ex (Qqz 0 9 (.tail 9)) mixed Qqb (fun b5 aj=>?_);have ak:=o.call aj;refine D4 2 Z<|A2 h fun al h=>CB Z (A7 al) Z<|A2 h fun am h=>CB Z (Aag am) Z<|D4 2 Z<|A2 h fun an h=>CB Z (NQ an) Z<|Aw h fun bk ao h=>JN Z Z Z (fun b6 bt=>Ab3 _ _ (Le.refl _) ao)<|D4 1 Z<|BT (fun b7 ap=>?_);have s:=ak.call ap;refine Ad<|AB<|AI 2 Z<|AQ h ?_ ?_<;>intro aq h
     ·refine AI 1 Z<|Ay<|Aq<|Bs<|G6<|Av<|BJ ?_;have h:=Cf.out h e;refine Av<|Bs<|G6<|Av ?_
      cases h
      refine Al Z ⟨s.ext,Z⟩
     refine Ax<|As<|Au<|Ar 2 Z<|A2 h fun ar h=>Ai (A7 ar)<|A2 h fun au h=>Ai (A7 au)<|Ar 1 Z<|AL<|AA _ ⟨s,h⟩
    refine Ax<|AA _ ⟨o,h⟩
   rintro a bu ⟨av,h⟩;refine B2 Unit (fun(_:Unit)=>[(8,No (((GH a1).length:Int) - 1)),(9,No a)]) (fun(_:Unit) wr=>Bb w [] wr/\(Iy a1 a)=some j) ?_ ?_
   ·refine AI 1 Z<|A4 ?_;obtain⟨k,h⟩:=Ba h;refine B7 (Int×Nat) (fun⟨b,n⟩=>[(0,(AaM a0)),(7,.string ⟨((GH a1)).toArray⟩),(8,No (((GH a1).length:Int) - 1)),(9,No a),(12,No b)]) (fun⟨b,n⟩ wr=>Bb w [] wr/\Ia (Ic a0 a1 a) n b=some j) (fun⟨b,n⟩=>n) (1,k) Z ⟨av,h⟩ ?_;rintro⟨b,nn363⟩ bv ⟨t,h⟩;obtain⟨k,b8,rfl,h,u⟩:=AZ h;refine AB<|Bx 2 Z<|Ai (IP Z)<|A8 1 Z<|AQ h ?_ ?_<;>intro aw h
    ·refine Ax<|As<|AB<|A4<|Ex (Qqz 0 11 (.tail 11)) mixed Qqb (fun b9 ax=>?_);have ay:=t.call ax;refine D4 3 Z<|A2 h fun az h=>CB Z (A7 az) Z<|A2 h fun a2 h=>CB Z (NQ a2) Z<|D4 3 Z<|A2 h fun a3 h=>CB Z (A7 a3) Z<|A2 h fun a4 h=>CB Z (NQ a4) Z<|D4 1 Z<|BT (fun ca a5=>?_);have a6:=ay.call a5;refine Ad<|CX h ?_ ?_<;>intro a7 h
     ·cases h
     refine Ax<|A3<|As<|Au<|Ar 1 Z<|A2 h fun a8 h=>Ai (A7 a8)<|Ar 1 Z<|AL ?_;have h:=Cf.again h u;refine AM (_,_) Z ⟨a6,h⟩
    refine B4<|AF<|A5 ?_;have h:=Cf.out h u;refine Bg<|AA () ⟨t,h⟩
   rintro _ bw ⟨a9,h⟩;refine AB<|Bx 2 Z<|A2 h fun ba h=>Ai (A7 ba)<|A8 1 Z<|Ay<|Aq<|G6<|Av<|BJ ?_;have h:=Cf.out h e;refine Av<|Bs<|G6<|Av ?_
   cases h
   refine Al Z ⟨a9.ext,Z⟩
  refine B4<|AF<|A5 ?_;have h:=Cf.out h e;refine Bg<|AA () ⟨m,h⟩
 rintro _ bx ⟨bb,h⟩;refine AB<|AI 1 Z<|Ay<|Aq<|G6<|Av ?_
 cases h
 refine Al Z ⟨bb.ext,Z⟩
def GM(a0:AaV)(a1:Int):Option Bool:=
 Qq4 (E3 a0 a1) (fun a=>some (decide (0<=a)))
theorem L8{a0:AaV}{a1:Int}{r:Bool}(h:GM a0 a1=some r):
  Qqv 207 [AaM a0,.int .i32 a1] w (fun v w'=>v=.bool r):=by
 refine A1 9 [(0,(AaM a0)),(1,.int .i32 a1)] func207 Z fun hL=>AI 1 Z<|Bx 2 Z<|Aw h fun e a h=>AD hL (JT _ _ (An hL) a) fun f d b c=>A8 2 Z<|Ay ?_
 cases h
 refine Al Z ⟨b.ext,Z⟩
def P8(a0:Int):Option Bool:=
 if(a0<97)\/(122<a0) then if a0<48 then Qq4 (GM ([45,95,46]:AaV) a0) (fun b=>some (!b)) else if 57<a0 then Qq4 (GM ([45,95,46]:AaV) a0) (fun a=>some (!a)) else some false else some false
theorem Ui{a0:Int}{r:Bool}(h:P8 a0=some r):
  Qqv 206 [.int .i32 a0] w (fun v w'=>v=.bool r):=by
 refine A1 22 [(0,.int .i32 a0)] func206 Z fun hL=>AI 1 Z<|Bx 3 Z<|Y3 2 2 Z Z Z Z Z Z<|Ar 1 Z<|CI 9 h ?_ ?_<;>intro a h
 ·refine Ab a<|Ai (Am Z)<|Ab a<|Ai (Am Z)<|Ab a<|Ai (Am Z)<|CI 12 h ?_ ?_<;>intro c h
  ·iterate 2 refine Ao c ?_
   refine Ab a<|Ai (AK c Z)<|Ai (AK a Z)<|Ar 1 Z<|Ab Z<|Ai (Am Z)<|Ab Z<|Aw h fun p f h=>AD hL (L8 _ _ (An hL) f) fun q l g j=>Ab Z<|Ai (Am Z)<|Ai (AK Z Z)<|A8 1 Z<|Ay ?_
   cases h
   refine Al Z ⟨g.ext,Z⟩
  refine Ab c<|Ai (Am Z)<|Ab c<|Ai (Am Z)<|Ab a<|Ai (AO c Z)<|Ai (AK a Z)<|Ar 1 Z<|CI 17 h ?_ ?_<;>intro b h
  ·refine Ab b<|Ai (Am Z)<|Ab b<|Aw h fun m d h=>AD hL (L8 _ _ (An hL) d) fun o k e i=>Ab b<|Ai (Am Z)<|Ai (AK b Z)<|A8 1 Z<|Ay ?_
   cases h
   refine Al Z ⟨e.ext,Z⟩
  iterate 3 refine Ao b ?_
  refine Ai (AO b Z)<|A8 1 Z<|Ay ?_
  cases h
  refine Al Z ⟨hL.ext,Z⟩
 iterate 3 refine Ao a ?_
 iterate 2 refine L3 ?_
 refine Ao a<|Ai (AO a Z)<|Ar 1 Z ?_
 iterate 3 refine Ao Z ?_
 refine Ai (AO Z Z)<|A8 1 Z<|Ay ?_
 cases h
 refine Al Z ⟨hL.ext,Z⟩
end
end Go.Proofs.YtekmbcbgknmhiaaGreatDoor
end
noncomputable section
namespace Go.L
set_option maxRecDepth 20000 in
theorem Acp{x:Int}(h:128<=x)(hx:x<=1114111)(hv:Go.Utf8.valid x=true):∃ k:Nat,(GH x).length=k/\2<=k/\k<=4/\128<=((GH x).getD (k - 1) Qq2).toNat:=by
 obtain⟨c,rfl⟩:=QxJ (show 0<=x by omega);have hm:∀ j:Nat,(128+j % 64) % 256=128+j % 64:=fun j=>Nat.mod_eq_of_lt U;unfold GH Go.Utf8.encode;simp only [hv,if_true,Qq8];rw [if_neg U];have e:∀ j:Nat,128<=(UInt8.ofNat (128+j % 64)).toNat:=fun j=>by rw [UInt8.toNat_ofNat',hm];omega
 have f:∀ a b:UInt8,((ByteArray.mk #[a,b]).data.toList.length=2)/\(ByteArray.mk #[a,b]).data.toList.getD (2 - 1) Qq2=b:=fun _ _=>⟨Z,Z⟩;have g:∀ a b c:UInt8,((ByteArray.mk #[a,b,c]).data.toList.length=3)/\(ByteArray.mk #[a,b,c]).data.toList.getD (3 - 1) Qq2=c:=fun _ _ _=>⟨Z,Z⟩;have i:∀ a b c d:UInt8,((ByteArray.mk #[a,b,c,d]).data.toList.length=4)/\(ByteArray.mk #[a,b,c,d]).data.toList.getD (4 - 1) Qq2=d:=fun _ _ _ _=>⟨Z,Z⟩
 by_cases l:c<2048
 ·rw [if_pos l];refine⟨2,(f _ _).1,by omega,by omega,?_⟩;rw [(f _ _).2];exact e _
 ·rw [if_neg l]
  by_cases h2:c<65536
  ·rw [if_pos h2];refine⟨3,(g _ _ _).1,by omega,by omega,?_⟩;rw [(g _ _ _).2];exact e _
  ·rw [if_neg h2];refine⟨4,(i _ _ _ _).1,by omega,by omega,?_⟩;rw [(i _ _ _ _).2];exact e _
end Go.L
namespace Go.Proofs.YtekmbcbgknmhiaaGreatDoor
open Go Go.L
theorem Aap:∀ n:Fin 128,(0<=Lib.indexByte [45,95,46] (u8 (n.val:Int))↔(n.val=45\/n.val=95\/n.val=46)):=by decide
theorem Aee:GK [45,95,46] 0=some (-1):=by
 unfold GK;have r0:CY [45,95,46] 0=some (.inl 1):=by rfl
 have r1:CY [45,95,46] 1=some (.inl 2):=by rfl
 have r2:CY [45,95,46] 2=some (.inl 3):=by rfl
 have r3:CY [45,95,46] 3=some (.inr (-1)):=by rfl
 rw [Be r0,Be r1,Be r2];exact AP (m:=some (-1)) r3
theorem Acq{x:Int}(a:0<=x)(hx:x<=1114111):∃ i,E3 [45,95,46] x=some i/\(0<=i↔(x=45\/x=95\/x=46)):=by
 unfold E3
 by_cases f:x<128
 ·rw [if_pos ⟨a,f⟩];have:=Aap ⟨x.toNat,by omega⟩;simp only [QxB a] at this;exact⟨_,Z,by rw [this];omega⟩
 ·rw [if_neg U];have hn : ¬ (x=45\/x=95\/x=46):=by omega
  by_cases h2:x=65533
  ·rw [if_pos h2,Aee];exact⟨_,Z,by omega⟩
  ·rw [if_neg h2]
   by_cases hv:Go.Utf8.valid x=true
   ·have e:CJ x=some true:=by
     unfold CJ;simp only [Go.Utf8.valid,Qxq,Qzb,decide_eq_true_eq] at hv
     by_cases h3:0<=x/\x<55296
     ·rw [if_pos h3]
     ·rw [if_neg h3,if_pos U]
    rw [e];obtain⟨k,hk,h,j,hl⟩:=Acp U hx hv;simp only [Qq5,Bool.not_true,QzB,if_false,hk];rw [Ac (by unfold Bz;omega)];refine⟨-1,AP ?_,by omega⟩;unfold Gf;have g:((k:Int) - 1).toNat=k - 1:=by omega
    have key:∀ (l:List UInt8) (c:UInt8),(∀ b∈l,b.toNat<128)->128<=c.toNat->Lib.indexByte l c = -1:=by
     intro l c hl hc
     induction l with
     | nil=>rfl
     | cons b l ih=>
      have hb:=hl b (.head _)
      have hne:(b==c)=false:=by
       cases hh:b==c with
       | false=>rfl
       | true=>have:=beq_iff_eq.1 hh;subst this;omega
      unfold Lib.indexByte;rw [ih (fun b hb=>hl b (.tail _ hb)),hne]
      rfl
    have d:k=2\/k=3\/k=4:=by omega
    simp only [hk,g]
    rcases d with rfl | rfl | rfl
    ·rw [if_pos Qqc,Ac Qqc,Ac Qqc,if_neg (by intro hh;have:(([45,95,46]:List UInt8).getD 1 Qq2).toNat=95:=Z;simp only [Nat.reduceSub] at hl hh;omega),Ac (by unfold Bz;decide),Ac Qqc,Ac Qqc];unfold WX;rw [Qq5,key _ _ Qqc hl,if_pos Qqc]
    ·rw [if_pos Qqc,Ac Qqc,Ac Qqc,if_neg (by intro hh;have:(([45,95,46]:List UInt8).getD 2 Qq2).toNat=46:=Z;simp only [Nat.reduceSub] at hl hh;omega),Ac (by unfold Bz;decide),Ac Qqc,Ac Qqc];unfold WX;rw [Qq5,key _ _ Qqc hl,if_pos Qqc]
    ·rw [if_neg Qqc]
     rfl
   ·have e:CJ x=some false:=by
     unfold CJ;simp only [Go.Utf8.valid,Qxq,Qzb,decide_eq_true_eq] at hv;rw [if_neg U,if_neg U]
    rw [e];exact⟨-1,Z,by omega⟩
def XP(n:Nat):Bool:=!((decide (97<=n/\n<=122))||(decide (48<=n/\n<=57))||(decide (n=45\/n=95\/n=46)))
theorem Aef{n:Nat}(hx:n<=1114111):P8 (n:Int)=some (XP n):=by
 obtain⟨i,hi,hd⟩:=Acq (x:=(n:Int)) U U;have hc:GM [45,95,46] (n:Int)=some (decide (0<=i)):=by unfold GM;rw [hi];rfl
 have hd':decide (0<=i)=decide (n=45\/n=95\/n=46):=by
  rw [Qz3,decide_eq_true_eq,decide_eq_true_eq,hd];omega
 unfold P8 XP;rw [hc,hd'];simp only [Qq5]
 by_cases c:(n:Int)<97\/(122:Int)<n
 ·rw [if_pos c];have a:decide (97<=n/\n<=122)=false:=decide_eq_false U
  by_cases h2:(n:Int)<48
  ·rw [if_pos h2];have b:decide (48<=n/\n<=57)=false:=decide_eq_false U;rw [a,b];rfl
  ·rw [if_neg h2]
   by_cases h3:(57:Int)<n
   ·rw [if_pos h3];have b:decide (48<=n/\n<=57)=false:=decide_eq_false U;rw [a,b];rfl
   ·rw [if_neg h3];have b:decide (48<=n/\n<=57)=true:=decide_eq_true U;rw [a,b];rfl
 ·rw [if_neg c];have a:decide (97<=n/\n<=122)=true:=decide_eq_true U;rw [a];rfl
end Go.Proofs.YtekmbcbgknmhiaaGreatDoor
end
noncomputable section
namespace Go.Proofs.YtekmbcbgknmhiaaGreatDoor
open Go Go.E Go.RowKit Go.Shelf
def Vx(a:List UInt8):Option Bool:=some (decide (0<=Lib.idxFunc XP true ⟨a.toArray⟩))
section
variable(w:World)(H:PH)(hH:Le H (hp w)) include hH
theorem Acr{a0:List UInt8}{r:Bool}(h:Vx a0=some r):
  Ok Tryz.prog 205 [.string ⟨a0.toArray⟩,.func (.func 206) #[] #[]] w (fun v w'=>Ext w w'/\v=.bool r):=by
 obtain rfl:=Option.some.inj h;refine⟨⟨Tryz.f205,_,Tryz.func205,Z,Z⟩,(Any.strings_ContainsFunc_grows Tryz.Ai9 206 #[] (enters_of Tryz.func206 Qqb Z) XP ⟨a0.toArray⟩ w ?_).mono fun e w' he=>?_⟩
 ·intro W x hx _;refine(Ui W (hp W) (Le.refl _) (Aef hx)).2.mono fun e w' he=>?_;obtain⟨v,rfl,hx,rfl⟩:=he;exact⟨Z,hx.toBelow⟩
 ·obtain⟨rfl,hb⟩:=he;exact⟨_,Z,Ext.off hb,Z⟩
end
end Go.Proofs.YtekmbcbgknmhiaaGreatDoor
end
noncomputable section
namespace Go.Proofs.YtekmbcbgknmhiaaGreatDoor
open Go Go.E Go.RowKit Go.L
set_option maxHeartbeats 1000000
set_option maxRecDepth 10000
open _root_.Go.Proofs.Tryz
def Lu(a0:AaV):Option Bool:=
 if a0=([]:AaV) then some false else if 32<(a0.length:Int) then some false else AN (0<=(0:Int)/\(0:Int)<(a0.length:Int)) (if((a0.getD (0:Int).toNat Qq2).toNat:Int)<97 then some false else AN (0<=(0:Int)/\(0:Int)<(a0.length:Int)) (if 122<((a0.getD (0:Int).toNat Qq2).toNat:Int) then some false else Qq4 (Vx a0) (fun a=>some (!a))))
section
variable(w:World)(H:PH)(hH:Le H (hp w)) include hH
theorem RH{a0:AaV}{r:Bool}(h:Lu a0=some r):
  Qqv 159 [AaM a0] w (fun v w'=>v=.bool r):=by
 refine A1 23 [(0,(AaM a0))] func159 Z fun hL=>AI 1 Z<|AB<|Bx 1 Z<|Ai (Nx Z Z)<|Ar 1 Z<|CI 5 h ?_ ?_<;>intro a h
 ·iterate 3 refine Ao a ?_
  refine Ai (AK a Z)<|Ar 1 Z ?_
  iterate 3 refine Ao Z ?_
  refine Ai (AK Z Z)<|Ar 1 Z ?_
  iterate 3 refine Ao Z ?_
  refine Ai (AK Z Z)<|Ad<|Fq<|AI 1 Z<|Ay<|Aq ?_
  cases h
  refine Al Z ⟨hL.ext,Z⟩
 refine Ab a<|Ai (Am Z)<|Ab a<|Ai (IP Z)<|Ab a<|Ai (Am Z)<|Ai (AO a Z)<|Ar 1 Z<|CI 10 h ?_ ?_<;>intro b h
 ·iterate 3 refine Ao b ?_
  refine Ai (AK b Z)<|Ar 1 Z ?_
  iterate 3 refine Ao Z ?_
  refine Ai (AK Z Z)<|Ad<|Fq<|AI 1 Z<|Ay<|Aq ?_
  cases h
  refine Al Z ⟨hL.ext,Z⟩
 refine Ab b<|Ai (Am Z)<|Ab b<|A2 h fun i h=>Ai (NQ i)<|Ab b<|Ai (Am Z)<|Ai (AO b Z)<|Ar 1 Z<|CI 15 h ?_ ?_<;>intro c h
 ·iterate 3 refine Ao c ?_
  refine Ai (AK c Z)<|Ad<|Fq<|AI 1 Z<|Ay<|Aq ?_
  cases h
  refine Al Z ⟨hL.ext,Z⟩
 refine Ab c<|Ai (Am Z)<|Ab c<|A2 h fun d h=>Ai (NQ d)<|Ab c<|Ai (Am Z)<|Ai (AO c Z)<|Ad<|AQ h ?_ ?_<;>intro e h
 ·refine AI 1 Z<|Ay<|Aq ?_
  cases h
  refine Al Z ⟨hL.ext,Z⟩
 refine Ax<|As<|Bx 1 Z<|Aw h fun l f h=>AD hL (Acr _ _ (An hL) f) fun m k g j=>A8 2 Z<|Ay ?_
 cases h
 refine Al Z ⟨g.ext,Z⟩
def Lb:Option ((Int×Int)):=
 some ((0,0))
def El(c:(List AaV)):Int×Int->Option ((Int×Int) ⊕ ((Int×Int))):=fun⟨b,a⟩=>
 if a<(c.length:Int) then AN (0<=a/\a<(c.length:Int)) (if c.getD a.toNat Qq2=([35]:AaV) then AN (Bz (((c.getD a.toNat Qq2).length:Int)+1)) (AN (Bz (b+(((c.getD a.toNat Qq2).length:Int)+1))) (AN (Bz (a+1)) (some (Sum.inl ((b+(((c.getD a.toNat Qq2).length:Int)+1)),(a+1)))))) else if c.getD a.toNat Qq2=([42]:AaV) then AN (Bz (((c.getD a.toNat Qq2).length:Int)+1)) (AN (Bz (b+(((c.getD a.toNat Qq2).length:Int)+1))) (AN (Bz (a+1)) (some (Sum.inl ((b+(((c.getD a.toNat Qq2).length:Int)+1)),(a+1)))))) else if c.getD a.toNat Qq2=([42,42]:AaV) then AN (Bz (((c.getD a.toNat Qq2).length:Int)+1)) (AN (Bz (b+(((c.getD a.toNat Qq2).length:Int)+1))) (AN (Bz (a+1)) (some (Sum.inl ((b+(((c.getD a.toNat Qq2).length:Int)+1)),(a+1)))))) else Qq4 (Lu (c.getD a.toNat Qq2)) (fun e=>if !e then Qq4 (DJ (1:Int) b) (fun d=>Qq7 Sum.inr (some ((d.1,d.2)))) else AN (Bz (((c.getD a.toNat Qq2).length:Int)+1)) (AN (Bz (b+(((c.getD a.toNat Qq2).length:Int)+1))) (AN (Bz (a+1)) (some (Sum.inl ((b+(((c.getD a.toNat Qq2).length:Int)+1)),(a+1)))))))) else Qq7 Sum.inr Lb
def Ns(a:(List AaV))(s:Int×Int):Option ((Int×Int)):=Go.L.run (El a) s
def Hu(a0:AaV):Option ((Int×Int)):=
 if 64<(a0.length:Int) then Qq4 (DJ (3:Int) (-1:Int)) (fun a=>some ((a.1,a.2))) else Qq4 (Iw a0) (fun b=>(Ns b) (0,0))
theorem Lc{a0:AaV}{r:(Int×Int)}(h:Hu a0=some r):
  Qqv 103 [AaM a0] w (fun v w'=>v=.agg #[No r.1,No r.2]):=by
 refine A1 41 [(0,(AaM a0))] func103 Z fun hL=>Aj<|A9 AE.e Z hL fun w1 z o ba _=>Ad<|AB<|Bx 1 Z<|Ai (IP Z)<|A8 1 Z<|AQ h ?_ ?_<;>intro az h
 ·refine Aj<|Aw h fun x4 a1 h=>AD o (Hf _ _ (An o) a1) fun w5 bm a2 bb=>Af 0 Z a2 Z fun w6 au bc=>Ad<|Ay<|Aq ?_
  cases h
  refine Dz (.cell Z Ajx Z AE.e (AG (i:=0) au Z)) ⟨au.ext,Z⟩
 refine Ax<|As<|AI 1 Z<|B2 Unit (fun(_:Unit)=>[(2,(Aad z))]) (fun(_:Unit) wr=>Bb w [.box z [No 0,No 0] 28] wr/\Lb=some r) ?_ ?_
 ·refine Bx 1 Z<|Aw h fun l av h=>Bf o (Nr _ _ (An o) av) ?_;rintro q bn ⟨_,rfl,x⟩ aw ax a6;have p:=x.Du hH o aw;refine Ai (Bm p)<|A8 1 Z<|A4 ?_;obtain⟨k,h⟩:=Ba h;refine B7 (Int×Int×Nat) (fun⟨b,a,n⟩=>[(2,(Aad z)),(3,No b),(11,q),(12,No (l.length:Int)),(13,No a)]) (fun⟨b,a,n⟩ wr=>FX w [.box z [No 0,No 0] 28] wr fun Oz=>AJ .st (gz H w wr Oz) q l/\Ia (El l) n (b,a)=some r) (fun⟨b,a,n⟩=>n) (0,0,k) Z ⟨ax,p,h⟩ ?_;rintro⟨b,a,nn124⟩ a7 ⟨d,c,h⟩;obtain⟨k,bd,rfl,h,f⟩:=AZ h;refine AI 1 Z<|AB<|AQ h ?_ ?_<;>intro aa h
  ·refine Ax<|As<|AB<|A4<|Aj<|A2 h fun s h=>Bi c a.toNat (GX s) (AX s) ?_;rintro be _ rfl ab;refine Ai (Bl ab (An d))<|A8 1 Z<|AB<|Bx 1 Z<|Ai (Ss Z Z)<|Ar 1 Z<|IN 19 h ?_ ?_<;>intro g h
   ·refine Ab g<|Ai (Am Z)<|Ab g<|Ai (Ss Z Z)<|Ai (AK g Z)<|Ar 1 Z<|IN 23 h ?_ ?_<;>intro j h
    ·refine Ab j<|Ai (Am Z)<|Ab j<|Ai (Ss Z Z)<|Ai (AK j Z)<|Ar 1 Z<|IN 27 h ?_ ?_<;>intro e h
     ·refine Ab e<|Ai (Am Z)<|Ab e<|Aw h fun bf ac h=>AD d (RH _ _ (An d) ac) fun bg a8 m y=>Ab e<|Ai (Am Z)<|Ai (AK e Z)<|Ad<|B8 h ?_ ?_<;>intro ad h
      ·refine Bx 1 Z<|Aw h fun bh ae h=>AD m (Hf _ _ (An m) ae) fun bi a9 af a3=>Af 0 Z af Z fun bj t a4=>Ad<|Ay<|Aq<|Av<|Aq<|BJ ?_;have h:=Cf.out h f;refine Av<|Bs ?_
       cases h
       refine Dz (.cell Z Ajx Z AE.e (AG (i:=0) t Z)) ⟨t.ext,Z⟩
      refine Ax<|As<|Au<|Ar 2 Z<|Ai (IP Z)<|A2 h fun ag h=>Ai (A7 ag)<|A2 h fun ah h=>Ai (A7 ah)<|Ar 1 Z<|AL<|A3<|As<|Au<|A2 h fun ai h=>Ai (A7 ai)<|Ar 1 Z<|AL ?_;have h:=Cf.again h f;have c:=c.mono (Aa y);refine AM (_,_,_) Z ⟨m,c,h⟩
     iterate 3 refine Ao e ?_
     refine Ai (AO e Z)<|Ad<|G5<|Ax<|As<|Au<|Ar 2 Z<|Ai (IP Z)<|A2 h fun aj h=>Ai (A7 aj)<|A2 h fun ak h=>Ai (A7 ak)<|Ar 1 Z<|AL<|A3<|As<|Au<|A2 h fun al h=>Ai (A7 al)<|Ar 1 Z<|AL ?_;have h:=Cf.again h f;refine AM (_,_,_) Z ⟨d,c,h⟩
    iterate 2 refine Ao j ?_
    refine Ai (AO j Z)<|Ar 1 Z ?_
    iterate 3 refine Ao Z ?_
    refine Ai (AO Z Z)<|Ad<|G5<|Ax<|As<|Au<|Ar 2 Z<|Ai (IP Z)<|A2 h fun am h=>Ai (A7 am)<|A2 h fun an h=>Ai (A7 an)<|Ar 1 Z<|AL<|A3<|As<|Au<|A2 h fun ao h=>Ai (A7 ao)<|Ar 1 Z<|AL ?_;have h:=Cf.again h f;refine AM (_,_,_) Z ⟨d,c,h⟩
   iterate 2 refine Ao g ?_
   refine Ai (AO g Z)<|Ar 1 Z ?_
   iterate 2 refine Ao Z ?_
   refine Ai (AO Z Z)<|Ar 1 Z ?_
   iterate 3 refine Ao Z ?_
   refine Ai (AO Z Z)<|Ad<|G5<|Ax<|As<|Au<|Ar 2 Z<|Ai (IP Z)<|A2 h fun ap h=>Ai (A7 ap)<|A2 h fun aq h=>Ai (A7 aq)<|Ar 1 Z<|AL<|A3<|As<|Au<|A2 h fun ar h=>Ai (A7 ar)<|Ar 1 Z<|AL ?_;have h:=Cf.again h f;refine AM (_,_,_) Z ⟨d,c,h⟩
  refine B4<|AF<|A5 ?_;have h:=Cf.out h f;refine Bg<|AA () ⟨d,h⟩
 rintro _ bk ⟨ay,h⟩;refine Aj<|Ai (AT (fun _=>BM _))<|Af 0 Z ay Z fun bl u a5=>Ad<|Ay ?_
 cases h
 refine Dz (.cell Z Ajx Z AE.e (AG (i:=0) u Z)) ⟨u.ext,Z⟩
def I0(a0:AaV):Option Bool:=
 Qq4 (Lu a0) (fun a=>some (!a))
theorem Q9{a0:AaV}{r:Bool}(h:I0 a0=some r):
  Qqv 230 [AaM a0] w (fun v w'=>v=.bool r):=by
 refine A1 6 [(0,(AaM a0))] func230 Z fun hL=>AI 1 Z<|Bx 1 Z<|Aw h fun e a h=>AD hL (RH _ _ (An hL) a) fun f d b c=>A8 2 Z<|Ay ?_
 cases h
 refine Al Z ⟨b.ext,Z⟩
def Gr(a0:AaV)(a1:AaV):Option Bool:=
 if a0=([42,42]:AaV) then some (decide (a1=([42,42]:AaV))) else some false
theorem Nz{a0 a1:AaV}{r:Bool}(h:Gr a0 a1=some r):
  Qqv 312 [AaM a0,AaM a1] w (fun v w'=>v=.bool r):=by
 refine A1 11 [(0,(AaM a0)),(1,(AaM a1))] func312 Z fun hL=>AI 1 Z<|Bx 1 Z<|Ai (Nx Z Z)<|Ar 1 Z<|CI 7 h ?_ ?_<;>intro a h
 ·refine Ab a<|Ai (Am Z)<|Ab a<|Ai (Nx Z Z)<|Ai (AK a Z)<|A8 1 Z<|Ay ?_
  cases h
  refine Al Z ⟨hL.ext,Z⟩
 iterate 2 refine Ao a ?_
 refine Ai (AO a Z)<|A8 1 Z<|Ay ?_
 cases h
 refine Al Z ⟨hL.ext,Z⟩
end
def GN:Option Bool:=
 some false
def C0(a0:List AaV)(a1:List AaV)(self:(List AaV)->(List AaV)->Option Bool):Int->Option ((Int) ⊕ (Bool)):=fun a=>
 if a<((a1.length:Int)+1) then AN (0<=(1:Int)/\(1:Int)<=(a0.length:Int)) (AN (0<=a/\a<=(a1.length:Int)) (Qq4 (self (a0.drop (1:Int).toNat) (a1.drop a.toNat)) (fun b=>if b then Qq7 Sum.inr (some true) else AN (Bz (a+1)) (some (Sum.inl (a+1)))))) else Qq7 Sum.inr GN
def JU(a0:List AaV)(a1:List AaV)(self:(List AaV)->(List AaV)->Option Bool)(s:Int):Option Bool:=Go.L.run (C0 a0 a1 self) s
def GO(a0:List AaV)(a1:List AaV)(self:(List AaV)->(List AaV)->Option Bool):Option Bool:=
 if 0<(a1.length:Int) then AN (0<=(0:Int)/\(0:Int)<(a0.length:Int)) (if a0.getD ((0:Int).toNat) Qq2=([42]:AaV) then AN (0<=(1:Int)/\(1:Int)<=(a0.length:Int)) (AN (0<=(1:Int)/\(1:Int)<=(a1.length:Int)) (Qq4 (self (a0.drop (1:Int).toNat) (a1.drop (1:Int).toNat)) (fun a=>some a))) else AN (0<=(0:Int)/\(0:Int)<(a0.length:Int)) (AN (0<=(0:Int)/\(0:Int)<(a1.length:Int)) (if a0.getD ((0:Int).toNat) Qq2=a1.getD ((0:Int).toNat) Qq2 then AN (0<=(1:Int)/\(1:Int)<=(a0.length:Int)) (AN (0<=(1:Int)/\(1:Int)<=(a1.length:Int)) (Qq4 (self (a0.drop (1:Int).toNat) (a1.drop (1:Int).toNat)) (fun b=>some b))) else some false))) else some false
def DK(self:(List AaV)->(List AaV)->Option Bool)(a0:List AaV)(a1:List AaV):Option Bool:=
 if(a0.length:Int)=0 then some (decide ((a1.length:Int)=0)) else AN (0<=(0:Int)/\(0:Int)<(a0.length:Int)) (if a0.getD ((0:Int).toNat) Qq2=([42,42]:AaV) then AN (Bz ((a1.length:Int)+1)) ((JU a0 a1 self) (0:Int)) else(GO a0 a1 self))
def JV(self:(List AaV)->(List AaV)->Option Bool):Prop:=∀ (w:World) (H:PH) (hH:Le H (hp w)) {a0:List AaV} {a1:List AaV} {a:Value} {b:Value} (c:AJ .st H a a0) (d:AJ .st H b a1) {r:Bool} (h:self a0 a1=some r),Ok prog 313 [a,b] w (fun v w'=>Ext w w'/\v=.bool r)
def EG:Nat->(List AaV)->(List AaV)->Option Bool
 | 0=>fun _ _=>none
 | n+1=>DK (EG n)
def LR:(List AaV)->(List AaV)->Option Bool:=EG 1000
theorem QA(self:(List AaV)->(List AaV)->Option Bool)(hself:JV self):JV (DK self):=by
 intro w H hH a0 a1 k l f g r h;unfold JV at hself;refine A1 54 [(0,k),(1,l)] func313 Z fun hL=>AI 1 Z<|AB<|Bx 1 Z<|Ai (Bm f)<|A8 1 Z<|AQ h ?_ ?_<;>intro bg h
 ·refine Bx 1 Z<|Ai (Bm g)<|A8 2 Z<|Ay<|Aq ?_
  cases h
  refine Al Z ⟨hL.ext,Z⟩
 refine Ax<|As<|B2 Unit (fun(_:Unit)=>[(0,k),(1,l)]) (fun(_:Unit) wr=>Bb w [] wr/\(GO a0 a1 self)=some r) ?_ ?_
 ·refine Bx 1 Z<|A2 h fun aa h=>Bi f ((0:Int).toNat) (GX aa) (AX aa) ?_;rintro b8 _ rfl bb;refine Ai (Bl bb (hH.trans hL.arg))<|Ai (Nx Z Z)<|Ad<|AQ h ?_ ?_<;>intro bc h
  ·refine B2 Unit (fun(_:Unit)=>[]) (fun(_:Unit) wr=>Bb w [] wr/\GN=some r) ?_ ?_
   ·refine Bx 1 Z<|Ai (Bm g)<|A2 h fun bd h=>Ai (A7 bd)<|A8 1 Z<|A4 ?_;obtain⟨m,h⟩:=Ba h;refine B7 (Int×Nat) (fun⟨e,n⟩=>[(0,k),(1,l),(18,No ((a1.length:Int)+1)),(19,No e)]) (fun⟨e,n⟩ wr=>Bb w [] wr/\Ia (C0 a0 a1 self) n e=some r) (fun⟨e,n⟩=>n) (0,m) Z ⟨hL,h⟩ ?_;rintro⟨e,nn116⟩ bh ⟨o,h⟩;obtain⟨m,bi,rfl,h,i⟩:=AZ h;refine AI 1 Z<|AB<|AQ h ?_ ?_<;>intro ab h
    ·refine Ax<|As<|AB<|A4<|AI 2 Z<|Ex (Qqz 0 6 (.tail 6)) mixed Qqb (fun bj ac=>?_);have j:=o.call ac;refine D4 1 Z<|A2 h fun ad h=>St Z Z Adb f ad Z fun bk ae=>D4 2 Z<|A2 h fun af h=>St Z Z Adb g af Z fun bl ag=>Aw h fun bm ah h=>JN Z Z Z (fun bn p=>hself _ _ (Le.refl _) ((ae.mono (hH.trans j.arg)).mono p.le) ((ag.mono (hH.trans j.arg)).mono p.le) ah)<|BT (fun bo ai=>?_);have t:=j.call ai;refine Ad<|B8 h ?_ ?_<;>intro aj h
     ·refine AI 1 Z<|Ay<|Av<|Aq<|BJ ?_;have h:=Cf.out h i;refine Av ?_
      iterate 2 refine Bs ?_
      cases h
      refine Al Z ⟨t.ext,Z⟩
     refine Ax<|A3<|As<|Au<|A2 h fun ak h=>Ai (A7 ak)<|Ar 1 Z<|AL ?_;have h:=Cf.again h i;refine AM (_,_) Z ⟨t,h⟩
    refine B4<|AF<|A5 ?_;have h:=Cf.out h i;refine Bg<|AA () ⟨o,h⟩
   rintro _ bp ⟨be,h⟩;refine AI 1 Z<|Ay<|Bs ?_
   cases h
   refine Al Z ⟨be.ext,Z⟩
  refine Ax<|AA () ⟨hL,h⟩
 rintro _ bq ⟨bf,h⟩;refine Ex (Qqz 0 26 (.tail 26)) mixed Qqb (fun br al=>?_);have c:=bf.call al;refine D4 1 Z<|CB Z (Bm g) Z<|D4 2 Z<|X1 (s:=32) Z (fun a=>?_) (fun a=>?_)
 ·have h:=ON (of_decide_eq_true a) h;refine Qu Z (Am Z) Z Z Z a Z<|A2 h fun u h=>UR Z Z Z Z a Z Z Adb f ((0:Int).toNat) (GX u) (AX u) Z ?_;rintro bs _ rfl am;refine Qu Z (Bl am (hH.trans c.arg)) Z Z Z a Z<|Qu Z (Nx Z Z) Z Z Z a Z<|Qu Z (Am Z) Z Z Z a Z<|X1 (s:=37) Z (fun b=>?_) (fun b=>?_)
  ·have h:=ON (of_decide_eq_true b) h
   iterate 7 refine Adn Z Z Z Z b Z ?_
   refine Qu Z (AK b Z) Z Z Z a Z<|CB Z (AK a Z) Z<|D4 1 Z<|Qu Z (Am Z) Z Z Z Z Z<|A2 h fun an h=>Rg Z Z Z Adb f an Z fun bt ao=>Qu Z (Am Z) Z Z Z Z Z<|A2 h fun ap h=>Rg Z Z Z Adb g ap Z fun bu aq=>Aw h fun bv ar h=>Abb Z Z Z Z Z Z Z (fun bw v=>hself _ _ (Le.refl _) ((ao.mono (hH.trans c.arg)).mono v.le) ((aq.mono (hH.trans c.arg)).mono v.le) ar)<|CB Z (AK Z Z) Z<|D4 1 Z<|BT (fun bx au=>?_);have av:=c.call au;refine Ad<|Ay ?_
   cases h
   refine Al Z ⟨av.ext,Z⟩
  have h:=OO (of_decide_eq_false b) h;refine Qu Z (Am Z) Z Z Z b Z<|A2 h fun x h=>UR Z Z Z Z b Z Z Adb f ((0:Int).toNat) (GX x) (AX x) Z ?_;rintro bz _ rfl aw;refine Qu Z (Bl aw (hH.trans c.arg)) Z Z Z b Z<|Qu Z (Am Z) Z Z Z b Z<|A2 h fun y h=>UR Z Z Z Z b Z Z Adb g ((0:Int).toNat) (GX y) (AX y) Z ?_;rintro b0 _ rfl ax;refine Qu Z (Bl ax (hH.trans c.arg)) Z Z Z b Z<|Qu Z (Nx Z Z) Z Z Z b Z<|Qu Z (AO b Z) Z Z Z a Z<|CB Z (AK a Z) Z<|D4 1 Z<|X1 (s:=47) Z (fun d=>?_) (fun d=>?_)
  ·have h:=ON (of_decide_eq_true d) h;refine Qu Z (Am Z) Z Z Z d Z<|A2 h fun ay h=>Rg Z d Z Adb f ay Z fun b1 az=>Qu Z (Am Z) Z Z Z d Z<|A2 h fun a2 h=>Rg Z d Z Adb g a2 Z fun b2 a3=>Aw h fun b3 a4 h=>Abb Z Z Z Z d Z Z (fun b4 z=>hself _ _ (Le.refl _) ((az.mono (hH.trans c.arg)).mono z.le) ((a3.mono (hH.trans c.arg)).mono z.le) a4)<|CB Z (AK d Z) Z<|D4 1 Z<|BT (fun b5 a5=>?_);have a6:=c.call a5;refine Ad<|Ay ?_
   cases h
   refine Al Z ⟨a6.ext,Z⟩
  have h:=OO (of_decide_eq_false d) h
  iterate 5 refine Adn Z Z Z Z d Z ?_
  refine CB Z (AO d Z) Z<|D4 1 Z<|BT (fun b6 a7=>?_);have a8:=c.call a7;refine Ad<|Ay ?_
  cases h
  refine Al Z ⟨a8.ext,Z⟩
 have h:=OO (of_decide_eq_false a) h
 iterate 5 refine Adn Z Z Z Z a Z ?_
 iterate 7 refine AiF Z Z Z Z Z ?_
 refine Adn Z Z Z Z a Z<|CB Z (AO a Z) Z<|D4 1 Z ?_
 iterate 5 refine Adn Z Z Z Z Z Z ?_
 refine CB Z (AO Z Z) Z<|D4 1 Z<|BT (fun b7 a9=>?_);have ba:=c.call a9;refine Ad<|Ay ?_
 cases h
 refine Al Z ⟨ba.ext,Z⟩
theorem S9(n:Nat):JV (EG n):=by
 induction n with
 | zero=>unfold JV;intros;rename_i h;cases h
 | succ n ih=>exact QA (EG n) ih
section
variable(w:World)(H:PH)(hH:Le H (hp w)) include hH
theorem Uj{a0 a1:List AaV}{a b:Value}(c:AJ .st H a a0)(d:AJ .st H b a1){r:Bool}(h:LR a0 a1=some r):Ok prog 313 [a,b] w (fun v w'=>Ext w w'/\v=.bool r):=S9 1000 w H hH c d h
def Hk:Option Int:=
 some ((-1))
def Dv(a0:List AaV):Int->Option ((Int) ⊕ (Int)):=fun a=>
 if a<(a0.length:Int) then AN (0<=a/\a<(a0.length:Int)) (Qq4 (I0 (a0.getD a.toNat Qq2)) (fun b=>if b then Qq7 Sum.inr (some a) else AN (Bz (a+1)) (some (Sum.inl (a+1))))) else Qq7 Sum.inr Hk
def IH(a0:List AaV)(s:Int):Option Int:=Go.L.run (Dv a0) s
def IV(a0:List AaV):Option Int:=
 (IH a0) (0:Int)
theorem Rw{a0:List AaV}{b:Value}(e:AJ .st H b a0){r:Int}(h:IV a0=some r):
  Qqv 284 [b,.func (.func 230) #[] #[]] w (fun v w'=>v=No r):=by
 refine A1 19 [(0,b),(1,.func (.func 230) #[] #[])] func284 Z fun hL=>AI 1 Z<|B2 Unit (fun(_:Unit)=>[]) (fun(_:Unit) wr=>Bb w [] wr/\Hk=some r) ?_ ?_
 ·refine Bx 1 Z<|Ai (Bm e)<|A8 1 Z<|A4 ?_;obtain⟨f,h⟩:=Ba h;refine B7 (Int×Nat) (fun⟨a,n⟩=>[(0,b),(1,.func (.func 230) #[] #[]),(7,No (a0.length:Int)),(8,No a)]) (fun⟨a,n⟩ wr=>Bb w [] wr/\Ia (Dv a0) n a=some r) (fun⟨a,n⟩=>n) (0,f) Z ⟨hL,h⟩ ?_;rintro⟨a,nn42⟩ s ⟨c,h⟩;obtain⟨f,x,rfl,h,d⟩:=AZ h;refine AI 1 Z<|AB<|AQ h ?_ ?_<;>intro j h
  ·refine Ax<|As<|AB<|A4<|AI 2 Z<|Bx 3 Z<|A2 h fun g h=>Bi e a.toNat (GX g) (AX g) ?_;rintro y _ rfl k;refine Ai (Bl k (hH.trans c.arg))<|Aw h fun z l h=>OT c (Q9 _ _ (An c) l) ?_;rintro _ aa rfl t i q;refine Ad<|B8 h ?_ ?_<;>intro m h
   ·refine AI 2 Z<|Ay<|Av<|Aq<|BJ ?_;have h:=Cf.out h d;refine Av<|Bs ?_
    cases h
    refine Al Z ⟨i.ext,Z⟩
   refine Ax<|A3<|As<|Au<|A2 h fun o h=>Ai (A7 o)<|Ar 1 Z<|AL ?_;have h:=Cf.again h d;refine AM (_,_) Z ⟨i,h⟩
  refine B4<|AF<|A5 ?_;have h:=Cf.out h d;refine Bg<|AA () ⟨c,h⟩
 rintro _ u ⟨p,h⟩;refine AI 1 Z<|Ay ?_
 cases h
 refine Al Z ⟨p.ext,Z⟩
def HG(a0:List AaV):Option Bool:=
 Qq4 (IV a0) (fun a=>some (decide (0<=a)))
theorem Rx{a0:List AaV}{a:Value}(b:AJ .st H a a0){r:Bool}(h:HG a0=some r):
  Qqv 229 [a,.func (.func 230) #[] #[]] w (fun v w'=>v=.bool r):=by
 refine A1 9 [(0,a),(1,.func (.func 230) #[] #[])] func229 Z fun hL=>AI 1 Z<|Bx 2 Z<|Aw h fun g c h=>AD hL (Rw _ _ (An hL) (b.mono  Ah) c) fun i f d e=>A8 2 Z<|Ay ?_
 cases h
 refine Al Z ⟨d.ext,Z⟩
end
end Go.Proofs.YtekmbcbgknmhiaaGreatDoor
end
