/- Texts of a claim, merged. -/
import Derived.Test.YtekmbcbgknmhiaaGreatDoorLb1
import Derived.Recover
import Derived.RangeFuncSeq
import Derived.RangeFuncLeaves
import Derived.RangeFuncCalls
import Derived.OrdersIn
import Derived.Scope
import Derived.Lib.Builder
import Derived.Lib.UnsafeStr
import Derived.Lib.OthersKept
import Derived.Lib.SliceRun
import Derived.Test.YtekmbcbgknmhiaaGreatDoorRows
import Derived.KernelRfl
import Derived.Shelf.Strings.FuncGrows
set_option linter.unusedVariables false
set_option linter.unusedSimpArgs false
open _root_.Go.Proofs.Tryz renaming underlying58→AaR,underlying3→AaT,underlying142→AaY,underlying5→Ab9,underlying22→AbE,underlying64→AbG,underlying26→AbP,underlying21→AbQ,underlying9→Abb,underlying23→Abe,underlying28→Abs
noncomputable section
namespace Go.L
def P9{α β:Type}(x:Option α)(ex:Option β)(k:α→Option β):Option β:=match x with
 | none=>ex
 | some y=>k y
theorem DB{α β:Type}{ex:Option β}{k:α→Option β}{e:β}(h:P9 none ex k=some e):ex=some e:=h
theorem DC{α β:Type}{y:α}{ex:Option β}{k:α→Option β}{e:β}(h:P9 (some y) ex k=some e):k y=some e:=h
end Go.L
namespace Go.E
open Go Go.RowKit
def S9{α:Type}(r:Option α)(v:Option Value)(R:α→Value→Prop)(N:Prop):Prop:=match r,v with
 | none,none=>N
 | some x,some u=>R x u
 | _,_=>False
theorem DD{α:Type}{x:α}{u:Value}{R:α→Value→Prop}{N:Prop}(h:R x u):S9 (some x) (some u) R N:=h
theorem CL{α:Type}{R:α→Value→Prop}{N:Prop}(h:N):S9 none none R N:=h
abbrev X4(v:Value):List PanicEntry:=[{v:=v,recovered:=false}]
abbrev WL(v:Value):List PanicEntry:=[{v:=v,recovered:=true}]
def RqX(pv:Value)(R:Option Value→World→Prop):Ending→World→Prop
 | .returned v,w=>R (some v) w
 | .panicked c,w=>c=X4 pv∧R none w
 | .outgrown,_=>False
def Rn(P:Program)(f:FuncId)(args:List Value)(w:World)(pv:Value)(R:Option Value→World→Prop):Prop:=
 HR P f∧Calls P f args.toArray w (RqX pv R)
theorem Rn.mono{P:Program}{f:FuncId}{args:List Value}{w:World}{pv:Value}{R R':Option Value→World→Prop}(h:Rn P f args w pv R)(hr:∀ v w',R v w'→R' v w'):Rn P f args w pv R':=
 ⟨h.1,h.2.mono fun e w' k=>by
  cases e with
  | returned v=>exact hr _ _ k
  | panicked c=>exact⟨k.1,hr _ _ k.2⟩
  | outgrown=>exact k⟩
def VY(P:Program)(fn:Func)(pv:Value)(R:Option Value→World→Prop):Exit→Act→World→Prop:=bodyPost P fn (RqX pv R)
def VZ(P:Program)(fn:Func)(R:Value→World→Prop):Exit→Act→World→Prop:=bodyPostD P fn (Rq R)
theorem QJ{args:List Value}{L:Env}{k:Nat}(hk:Nat.ble args.length k=true)(hL:Mr 0 args=L):Fr ⟨k,[]⟩ {tmps:=args.toArray++Array.replicate (k - args.toArray.size) undef,defers:=[]} L:=by
 have hk':args.length≤k:=by simpa [Nat.ble_eq] using hk
 refine⟨?_,rfl,?_⟩
 ·simp;omega
 ·intro t v ht;subst hL;have⟨_,h2⟩:=Pz args 0 t v ht;simp only [Nat.sub_zero] at h2;have hlt:t<args.length:=(List.getElem?_eq_some_iff.1 h2).1;simp only [List.size_toArray];rw [Array.getElem?_append_left (by simpa using hlt)]
  simpa using h2
theorem Ih{P:Program}{f:FuncId}{fn:Func}{c:Code}{args:List Value}{w:World}{pv:Value}{R:Option Value→World→Prop}{n:Nat}(L:Env)
  (hf : P.funcs[f]? = some fn) (hname : (fn.name == "runtime.NumGoroutine") = false) (hb : fn.body = some c) (hn : fn.ntmps = n) (hk : Nat.ble args.length n = true) (hL : Mr 0 args = L)
  (h:W P ⟨n,[]⟩ c (VY P fn pv R) L w):Rn P f args w pv R:=
 ⟨⟨fn,c,hf,hname,hb⟩,calls_of_wp hf hb (h _ (by rw [hn];exact QJ hk hL))⟩
theorem WM{P:Program}{f:FuncId}{fn:Func}{c:Code}{args:List Value}{w:World}{R:Value→World→Prop}{n:Nat}(L:Env)
  (hf : P.funcs[f]? = some fn) (hname : (fn.name == "runtime.NumGoroutine") = false) (hb : fn.body = some c) (hn : fn.ntmps = n) (hk : Nat.ble args.length n = true) (hL : Mr 0 args = L)
  (h:W P ⟨n,[]⟩ c (VZ P fn R) L w):Ok P f args w R:=
 ⟨⟨fn,c,hf,hname,hb⟩,calls_of_wp_defers hf hb (h _ (by rw [hn];exact QJ hk hL))⟩
section
variable {P:Program} {n:Sz} {ops:Array Oper} {Q:Exit→Act→World→Prop} {L:Env} {w:World} {rest:List Oper} {d:Nat} {dst:Option Tmp} {ty:TypeId} {pos:String} {af:Array Edge} {pv:Value}
theorem NP{x:Operand}{t:TypeId}{u:Value}(hx:ev L x=some pv)(hp:pv=.iface t u)(h:At n Q (.panic (X4 pv)) L w):S P n ops Q (⟨dst,.panic x,ty,pos,af,none⟩::rest) L w:=
 P0 rfl fun a fr=>by
  unfold Oper.wp
  have e:(execOp a.eval ⟨dst,.panic x,ty,pos,af,none⟩).run P w=.halt (.panic pv) w:=by
   subst hp;simp [execOp,fr.Qt x _ hx,Instr.panic,goPanic]
  rw [e];exact h a fr
theorem ZG{f:FuncId}{args:List Operand}{vs:List Value}{at_:Array TypeId}{R:Option Value→World→Prop}(ha:OL L args=some vs)(hn:Nat.blt d n.n=true)(hok:Rn P f vs w pv R)
  (b:∀ w',R none w'→At n Q (.panic (X4 pv)) L w') (h:∀ v w',R (some v) w'→S P n ops Q rest ((d,v)::L) w'):S P n ops Q (⟨some d,.call ⟨.value (.func f),args.toArray,at_⟩,ty,pos,af,none⟩::rest) L w:=
 P0 rfl fun a fr=>by
  unfold Oper.wp;rw [Jr hok.1 ha _ fr.Qt];refine hok.2.mono fun e w' k=>?_
  cases e with
  | returned v=>exact h v w' k _ (fr.put hn)
  | panicked c=>obtain⟨rfl,k⟩:=k;exact b w' k a fr
  | outgrown=>exact k.elim
theorem Fz{α:Type}{r:Option α}{f:FuncId}{args:List Operand}{vs:List Value}{at_:Array TypeId}{R:World→α→Value→Prop}{N:World→Prop}(ha:OL L args=some vs)(hn:Nat.blt d n.n=true)
  (hok:Rn P f vs w pv (fun v w'=>S9 r v (R w') (N w'))) (a:r=none→∀ w',N w'→At n Q (.panic (X4 pv)) L w')
  (h:∀ y,r=some y→∀ v w',R w' y v→S P n ops Q rest ((d,v)::L) w'):S P n ops Q (⟨some d,.call ⟨.value (.func f),args.toArray,at_⟩,ty,pos,af,none⟩::rest) L w:=
 ZG ha hn hok (fun w' hr=>by
  cases r with
  | none=>exact a rfl w' hr
  | some y=>exact hr.elim) (fun v w' hr=>by
  cases r with
  | none=>exact hr.elim
  | some y=>exact h y rfl v w' hr)
theorem B0{y:Code}{c:List PanicEntry}(h:At n Q (.panic c) L w):At n (OM P y Q) (.panic c) L w:=h
theorem EW{σ:Type}{I:σ→Env}{R:σ→World→Prop}{c:List PanicEntry}(h:At n Q (.panic c) L w):At n (Uh n I R Q) (.panic c) L w:=h
theorem IC{σ:Type}{I:σ→Env}{R:σ→World→Prop}{μ:σ→Nat}{a:σ}{c:List PanicEntry}(h:At n Q (.panic c) L w):At n (QU n I R μ a Q) (.panic c) L w:=h
theorem B7{id:Nat}{c:List PanicEntry}(h:At n Q (.panic c) L w):At n (Exit.inBlock id Q) (.panic c) L w:=h
theorem FG{k:Nat}{fn:Func}{R:Option Value→World→Prop}(h:At ⟨k,[]⟩ (MI P fn (fun v w=>R (some v) w)) .ret L w):At ⟨k,[]⟩ (VY P fn pv R) .ret L w:=fun a fr=>by
 obtain⟨b,v,h2,u,h3,c⟩:=h a fr
 cases h3
 exact⟨b,_,h2,c⟩
theorem ZH{k:Nat}{fn:Func}{R:Option Value→World→Prop}(h:At ⟨k,[]⟩ (MI P fn (fun v w=>R (some v) w)) .normal L w):At ⟨k,[]⟩ (VY P fn pv R) .normal L w:=fun a fr=>by
 obtain⟨b,v,h2,u,h3,c⟩:=h a fr
 cases h3
 exact⟨b,_,h2,c⟩
theorem DE{k:Nat}{fn:Func}{R:Option Value→World→Prop}(h:R none w):At ⟨k,[]⟩ (VY P fn pv R) (.panic (X4 pv)) L w:=fun _ fr=>⟨fr.defers,rfl,h⟩
def Wa:TypeDesc→Bool
 | .interface _=>false
 | _=>true
theorem SA[Dr]{t t':TypeId}{x:Operand}{v:Value}{w:World}{dd:TypeDesc}(hx:ev L x=some v)(ht:P.underlying t=some dd)(hd:Wa dd=true):Bv P L w (.makeInterface t x) t' (.iface t v):=fun w' _ ρ hρ dst pos af g=>by
 cases dd <;> simp [Wa] at hd <;> simp [execOp,hρ x _ hx,Instr.makeInterface,run_underlying ht]
theorem AaP{t:TypeId}{ms:Array (String×TypeId)}{w:World}(ht:P.underlying t=some (.interface ms))(x:Value)(hx:x=.nilIface∨∃ u v,x=.iface u v):(Op.equal t x .nilIface).run P w=.ok (match x with | .nilIface=>true | _=>false) w:=by
 unfold Op.equal;obtain⟨d,hd⟩:∃ d,Op.maxDepth=d+1:=⟨9999,rfl⟩;rw [hd]
 rcases hx with rfl | ⟨u,v,rfl⟩ <;> simp [Op.equalIn,run_underlying ht]
theorem XR[Dr]{t t':TypeId}{x:Operand}{u:TypeId}{v:Value}{w:World}{ms:Array (String×TypeId)}(hx:ev L x=some (.iface u v))(ht:P.underlying t=some (.interface ms)):Bv P L w (.binOp .neq t x (.const .nilIface) t') ty (.bool true):=fun w' _ ρ hρ dst pos af g=>by
 have hy:ρ (.const .nilIface)=.nilIface:=hρ _ _ rfl;simp [execOp,hρ x _ hx,hy,eqGuard,binOp,AaP ht (.iface u v) (.inr ⟨u,v,rfl⟩)]
theorem AaQ[Dr]{t t':TypeId}{x:Operand}{w:World}{ms:Array (String×TypeId)}(hx:ev L x=some .nilIface)(ht:P.underlying t=some (.interface ms)):Bv P L w (.binOp .neq t x (.const .nilIface) t') ty (.bool false):=fun w' _ ρ hρ dst pos af g=>by
 have hy:ρ (.const .nilIface)=.nilIface:=hρ _ _ rfl;simp [execOp,hρ x _ hx,hy,eqGuard,binOp,AaP ht .nilIface (.inl rfl)]
abbrev dfr(g:FuncId)(cap:List Value):Deferred:={target:=.fn (.func g) cap.toArray,args:=#[]}
theorem ZI{k:Nat}{ds:List Deferred}{g:FuncId}{cap:List Value}{fo:Operand}(hf:ev L fo=some (.func (.func g) #[] cap.toArray))(h:S P ⟨k,dfr g cap::ds⟩ ops Q rest L w):
  S P ⟨k,ds⟩ ops Q (⟨none,.defer ⟨.value fo,#[],#[]⟩,ty,pos,af,none⟩::rest) L w:=
 P0 rfl fun a fr=>by
  unfold Oper.wp
  have e:(execOp a.eval ⟨none,.defer ⟨.value fo,#[],#[]⟩,ty,pos,af,none⟩).run P w=.ok (.defer (dfr g cap)) w:=by
   simp [execOp,resolve,fr.Qt fo _ hf,Deferred.ofValue]
  rw [e];refine h _ ⟨fr.size,?_,fr.get⟩
  show dfr g cap::a.defers=_
  rw [fr.defers]
def OkF(P:Program)(g:FuncId)(cap:List Value)(u u':FrameMode)(w:World)(R:World→Prop):Prop:=
 HR P g∧CallsD P g cap.toArray u w (fun e a w'=>(∃ v,e=.returned v)∧a=u'∧R w')
theorem Ro{fn:Func}{tmps:Array Value}{R:Ending→World→Prop}{g:FuncId}{cap:List Value}{u u':FrameMode}{Rd:World→Prop}(hu:u≠.run)(hs:settle u'=.returning)(h:OkF P g cap u u' w Rd)
  (hr:∀ w',Rd w'→∃ v,(results fn tmps).run P w'=.ok v w'∧R (.returned v) w'):Leaves P fn tmps R [dfr g cap] u w:=by
 obtain ⟨fn', c, b, h2, h3⟩ := h.1;have h2' : ¬ fn'.name = "runtime.NumGoroutine" := by simpa using h2
 refine leaves_cons (f:=g) (args:=cap.toArray) hu (by simp [invoke,callFunc,b,h2',h3]) (h.2.mono fun e d w' ⟨⟨v,he⟩,a,hR⟩=>?_);subst he;subst a;simp only [hs,Leaves];exact hr w' hR
theorem ZJ{k:Nat}{fn:Func}{R:Value→World→Prop}{g:FuncId}{cap:List Value}{Rd:World→Prop}(h:OkF P g cap .returning .returning w Rd)
  (hr:∀ w',Rd w'→∀ a,Fr ⟨k,[dfr g cap]⟩ a L→∃ v,(results fn a.tmps).run P w'=.ok v w'∧R v w'):At ⟨k,[dfr g cap]⟩ (VZ P fn R) .ret L w:=fun a fr=>by
 show Leaves P fn a.tmps (Rq R) a.defers .returning w
 rw [fr.defers];exact Ro (by simp) rfl h fun w' hR=>by obtain⟨v,b,h2⟩:=hr w' hR a fr;exact⟨v,b,v,rfl,h2⟩
theorem Wb{k:Nat}{fn:Func}{R:Value→World→Prop}{g:FuncId}{cap:List Value}{Rd:World→Prop}(h:OkF P g cap (.panicking (X4 pv)) (.panicking (WL pv)) w Rd)
  (hr:∀ w',Rd w'→∀ a,Fr ⟨k,[dfr g cap]⟩ a L→∃ v,(results fn a.tmps).run P w'=.ok v w'∧R v w'):At ⟨k,[dfr g cap]⟩ (VZ P fn R) (.panic (X4 pv)) L w:=fun a fr=>by
 show Leaves P fn a.tmps (Rq R) a.defers (.panicking (X4 pv)) w
 rw [fr.defers];exact Ro (by simp) rfl h fun w' hR=>by obtain⟨v,b,h2⟩:=hr w' hR a fr;exact⟨v,b,v,rfl,h2⟩
theorem XS{k:Nat}{fn:Func}{R:Value→World→Prop}(h:At ⟨k,[]⟩ (MI P fn R) .ret L w):At ⟨k,[]⟩ (VZ P fn R) .ret L w:=fun a fr=>by
 obtain⟨b,v,h2,h3⟩:=h a fr
 show Leaves P fn a.tmps (Rq R) a.defers .returning w
 rw [fr.defers];exact⟨v,h2,h3⟩
theorem Rr{fn:Func}{q q':ResultVar}{v v':Value}{a:Act}(hl:fn.results = #[q,q'])(h:ZC P L w q v)(h':ZC P L w q' v')(fr:Fr n a L):(results fn a.tmps).run P w=.ok (.tuple #[v,v']) w:=by
 rw [O7,hl];simp [h.run fr,h'.run fr]
inductive XT (pv:Value):FrameMode→FrameMode→Value→Prop
 | no:XT pv .returning .returning .nilIface
 | yes:XT pv (.panicking (X4 pv)) (.panicking (WL pv)) pv
theorem PA[Dr]{g:FuncId}{fn:Func}{cap:List Value}{u u':FrameMode}{rv f:Value}{k id a d:Nat}{op2:Op}{ty1 ty2:TypeId}{pos1 pos2:String}{af1 af2:Array Edge}{at_:Array TypeId}{y:Code}{R:World→Prop}(L:Env)
  (hf : P.funcs[g]? = some fn) (hname : (fn.name == "runtime.NumGoroutine") = false)
  (hb:fn.body=some (.seq (.region id #[⟨some a,.call ⟨.builtin .recover,#[],at_⟩,ty1,pos1,af1,none⟩,⟨some d,op2,ty2,pos2,af2,none⟩] false) y)) (hk:fn.ntmps=k) (hkl:Nat.ble cap.length k=true) (hL:Mr 0 cap=L)
  (n:Nat.blt a k=true) (o:Nat.blt d k=true) (hrec:XT pv u u' rv) (h2:Bv P ((a,rv)::L) w op2 ty2 f)
  (h:W P ⟨k,[]⟩ y (MI P fn (fun _ w'=>R w')) ((d,f)::(a,rv)::L) w):OkF P g cap u u' w R:=by
 refine⟨⟨fn,_,hf,hname,hb⟩,callsD_of_wpS hf hb fun b cs hu=>?_⟩;have fr0:=QJ (k:=k) hkl hL;rw [← hk] at fr0;refine wpS_seq (wpS_region ?_)
 have r:∀ ρ:Operand→Value,(execOp ρ ⟨some a,.call ⟨.builtin .recover,#[],at_⟩,ty1,pos1,af1,none⟩).run P w=.ok .recover w:=fun ρ=>by
  simp [execOp,resolve,invoke,builtin]
 have fr1:Fr ⟨k,[]⟩ ((⟨cap.toArray++Array.replicate (fn.ntmps - cap.toArray.size) undef,[]⟩:Act).put (some a) rv) ((a,rv)::L):=by rw [hk] at fr0 ⊢;exact fr0.put n
 have fr2:=fr1.put (v:=f) o;have p:=h2 w (Ext.refl w) _ fr1.Qt (some d) pos2 af2 none;have hw:=h _ fr2
 have hlast:∀ c0':Frame,c0'.mode=u'→({b with mode:=u'}:Frame)=c0'→y.wpS P (bodyPostS P fn b cs fun e s w'=>(∃ v,e=.returned v)∧s=u'∧R w')
   (((⟨cap.toArray++Array.replicate (fn.ntmps - cap.toArray.size) undef,[]⟩:Act).put (some a) rv).put (some d) f) (c0'::cs) w:=by
  intro c0' _ he;refine wpS_of_wp (wp_mono hw fun e a' w' q=>?_)
  cases e with
  | normal=>obtain⟨i,v,j,u,t,m⟩:=q;exact⟨i,u',by rw [he],v,j,⟨v,rfl⟩,rfl,m⟩
  | ret=>obtain⟨i,v,j,u,t,m⟩:=q;exact⟨i,u',by rw [he],v,j,⟨v,rfl⟩,rfl,m⟩
  | panic c=>obtain⟨_,v,q,_⟩:=q;cases q
  | exit id=>exact q.elim
  | goto l=>exact q.elim
  | outgrown=>obtain⟨v,q,_⟩:=q;cases q
 have hr:List.range (#[⟨some a,.call ⟨.builtin .recover,#[],at_⟩,ty1,pos1,af1,none⟩,⟨some d,op2,ty2,pos2,af2,none⟩]:Array Oper).size=[0,1]:=rfl;rw [hr];simp only [wpOpsS,List.getElem?_toArray,List.getElem?_cons_zero,List.getElem?_cons_succ,Region.wanted,if_true,r]
 cases hrec with
 | no=>
  have:recoverD (b::cs)=none:=by simp [recoverD,hu]
  simp only [this,p,Oper.upon];exact hlast b hu (by rw [← hu])
 | yes=>
  have:recoverD (b::cs)=some (pv,{b with mode:=.panicking (WL pv)}::cs):=by simp [recoverD,hu]
  simp only [this,p,Oper.upon];exact hlast {b with mode:=.panicking (WL pv)} rfl rfl
end
end Go.E
namespace Go.E
open Go Go.RowKit
def K3(Q:Exit→Act→World→Prop):Prop:=∀ a w,¬ Q .outgrown a w
section
variable {P:Program} {n:Sz} {Q:Exit→Act→World→Prop} {L:Env} {w:World}
theorem GW{fn:Func}{R:Value→World→Prop}:K3 (MI P fn R):=fun _ _ ⟨_,h,_⟩=>by cases h
theorem Cr{y:Code}(h:K3 Q):K3 (OM P y Q):=fun a w k=>h a w k
theorem JL{σ:Type}{I:σ→Env}{R:σ→World→Prop}(h:K3 Q):K3 (Uh n I R Q):=fun a w k=>h a w k
theorem CJ{σ:Type}{I:σ→Env}{R:σ→World→Prop}{μ:σ→Nat}{x:σ}(h:K3 Q):K3 (QU n I R μ x Q):=fun a w k=>h a w k
theorem Bj{id:Nat}(h:K3 Q):K3 (Exit.inBlock id Q):=fun a w k=>h a w k
theorem F0(h:K3 Q):K3 (Exit.noGoto Q):=fun a w k=>h a w k
theorem Tz{c:Code}(h:W P n c (Exit.noGoto Q) L w):W P n (.scope c) Q L w:=fun a fr=>wp_scope_straight (h a fr)
theorem ZK{l:Nat}(h:At n Q .normal L w):W P n (.label l) Q L w:=fun a fr=>wp_label (h a fr)
theorem XU(h:At n Q .normal L w):At n (Exit.noGoto Q) .normal L w:=h
theorem Ii(h:At n Q .ret L w):At n (Exit.noGoto Q) .ret L w:=h
end
def Zv(F:Fence):Prop:=F=Fence.wide∨∃ l,F=Fence.wide.inRound l
theorem Zv.fn{F:Fence}(h:Zv F)(f:FuncId):F.fn f:=by rcases h with rfl | ⟨l,rfl⟩ <;> exact trivial
theorem Zv.dep{F:Fence}(h:Zv F):F.depth=none:=by rcases h with rfl | ⟨l,rfl⟩ <;> rfl
theorem Zv.calls{F:Fence}(h:Zv F){n:Nat}{P:Program}{f:FuncId}{args:Array Value}{w:World}{R:Ending→World→Prop}(k:Calls P f args w R):CallsIn F n P f args w R:=by
 rcases h with rfl | ⟨l,rfl⟩
 ·exact callsIn_wide.2 k
 ·exact(callsIn_wide.2 k).inRound l
theorem Zv.rows{F:Fence}(h:Zv F){n:Nat}{P:Program}{row:String}{args:Array Value}{w:World}{R:Value→World→Prop}(k:Rows P row args w R):RowsIn F n P row args w R:=by
 intro c cs _;obtain⟨v,w',hR,hs⟩:=k c cs;refine⟨v,w',hR,?_⟩
 rcases h with rfl | ⟨l,rfl⟩
 ·exact stepsIn_wide.2 hs
 ·rw [fenced_inRound];exact stepsIn_wide.2 hs
def OQ:Op→Bool
 | .defer _=>true
 | _=>false
theorem XV{o:Op}(h:OQ o=false):∀ c,o≠.defer c:=fun c e=>by subst e;cases h
section
variable {P:Program} {n:Sz} {ops:Array Oper} {Q:Exit→Act→World→Prop} {L:Env} {w:World} {rest:List Oper}
theorem Rs{F:Fence}(hF:Zv F){o:Oper}(hd:OQ o.op=false){next:Act→World→Prop}{a:Act}(h:o.wp P a w next Q):o.wpIn F 0 P a w next Q:=by
 refine⟨fun f _=>hF.fn f,?_⟩;rw [Oper.semAt_eq _ _ _ (XV hd)];unfold Oper.wp at h;generalize (execOp a.eval o).run P w=r at h ⊢;have b:F.depth.isSome=true→1≤0:=fun e=>by rw [hF.dep] at e;cases e
 cases r with
 | ok nx w'=>
  cases nx <;> simp only [Oper.upon] at h <;> simp only [Oper.uponIn]
  case value v=>exact h
  case skip=>exact h
  case defer d=>exact h
  case enter f args=>exact⟨b,(hF.calls h).mono fun e w' k=>by cases e <;> exact k⟩
  case row row args=>exact⟨b,hF.rows h⟩
 | halt x w'=>cases x <;> simp only [Oper.upon] at h <;> simp only [Oper.uponIn];exact h
theorem Jc{F:Fence}(hF:Zv F)(hq:K3 Q):∀ (l:List Oper) (a:Act) (w:World),l.all (fun o=>!OQ o.op)=true→wpList P ops Q l a w→wpListIn F 0 P ops Q l a w
 | [],_,_,_,h=>h
 | o::l,a,w,hd,h=>by
  simp only [List.all_cons,Bool.and_eq_true,Bool.not_eq_true'] at hd;simp only [wpList] at h;simp only [wpListIn]
  split
  ·rename_i hw;rw [if_pos hw] at h
   rcases h with h | ⟨_,a',w',h⟩
   ·have b:=Rs hF hd.1 h;exact Oper.wpIn_mono (fun a w k=>Jc hF hq l a w (by simpa using hd.2) k) b
   ·exact absurd h (hq a' w')
  ·rename_i hw;rw [if_neg hw] at h;exact⟨fun f _=>hF.fn f,Jc hF hq l _ _ (by simpa using hd.2) h⟩
def SY(P:Program)(n:Sz)(ops:Array Oper)(Q:Exit→Act→World→Prop)(l:List Oper)(L:Env)(w:World):Prop:=∀ a,Fr n a L→wpListIn Fence.wide 0 P ops Q l a w
def yQ(P:Program)(ops:Array Oper)(Q:Exit→Act→World→Prop)(rest:List Oper):Exit→Act→World→Prop:=Exit.then (fun a w=>wpListIn Fence.wide 0 P ops Q rest a w) Q
theorem Abt{id:Nat}{l:List Oper}(h:SY P n l.toArray Q l L w):W P n (.region id l.toArray false) Q L w:=fun a fr=>(wpIn_wide (n:=0)).1 (wpIn_region_lit (h a fr))
theorem XW{id:Nat}{l:List Oper}{y:Code}(h:SY P n l.toArray (OM P y Q) l L w):W P n (.seq (.region id l.toArray false) y) Q L w:=A7 (Abt h)
theorem PB{y:Code}(h:W P n y Q L w):SY P n ops (OM P y Q) [] L w:=fun a fr=>h a fr
theorem KP{o:Oper}(hq:K3 Q)(hd:OQ o.op=false)(h:S P n ops (yQ P ops Q rest) [o] L w):SY P n ops Q (o::rest) L w:=fun a fr=>by
 have b:=h a fr;simp only [wpList] at b;simp only [wpListIn]
 split
 ·rename_i hw;rw [if_pos hw] at b
  rcases b with b | ⟨_,a',w',b⟩
  ·have h2:=Rs (.inl rfl) hd b
   have hm:∀ {r:Result Next},o.uponIn Fence.wide 0 P a (fun a w=>yQ P ops Q rest .normal a w) (yQ P ops Q rest) r→o.uponIn Fence.wide 0 P a (wpListIn Fence.wide 0 P ops Q rest) Q r:=by
    intro r hr
    cases r with
    | ok nx w'=>cases nx <;> exact hr
    | halt x w'=>cases x <;> exact hr
   exact⟨h2.1,hm h2.2⟩
  ·exact absurd b (hq a' w')
 ·rename_i hw;rw [if_neg hw] at b;exact⟨fun _ _=>trivial,b⟩
theorem GX(h:SY P n ops Q rest L w):S P n ops (yQ P ops Q rest) [] L w:=fun a fr=>h a fr
theorem XX{s:Nat}{b:Bool}(_hb:gt L s=some (.bool b))(a:b=true→SY P n ops Q rest L w)(h2:b=false→SY P n ops Q rest L w):SY P n ops Q rest L w:=by
 cases b
 ·exact h2 rfl
 ·exact a rfl
theorem Uz{d l:Nat}{fo:Operand}{args:List Operand}{vs:List Value}{at_:Array TypeId}{ty:TypeId}{pos:String}{af:Array Edge}{R:World→Prop}(hf:ev L fo=some (.func (.yield l) #[] #[]))(ha:OL L args=some vs)(hn:Nat.blt d n.n=true)
  (hy:YieldAt Fence.wide 0 P l vs.toArray w (fun e w'=>e=.returned (.bool true)∧R w')) (h:∀ w',R w'→SY P n ops Q rest ((d,.bool true)::L) w'):SY P n ops Q (⟨some d,.call ⟨.value fo,args.toArray,at_⟩,ty,pos,af,none⟩::rest) L w:=fun a fr=>by
 obtain⟨fn,tmps,assign,body,hrun,hround⟩:=hy;simp only [wpListIn];rw [if_pos (by simp [Region.wanted])];refine⟨fun _ _=>trivial,?_⟩;have b:=fr.Qt.map _ _ ha
 have e:(Oper.semAt Fence.wide.round a.eval ⟨some d,.call ⟨.value fo,args.toArray,at_⟩,ty,pos,af,none⟩).run P w=.ok (.round l fn tmps assign body) w:=by
  rw [Oper.semAt_eq _ _ _ (fun c h=>by cases h)];simp [execOp,resolve,fr.Qt fo _ hf,Deferred.ofValue,invoke,b,hrun]
 rw [e];refine⟨fun h=>by simp [Fence.wide] at h,hround.mono fun e w' ⟨he,hR⟩=>?_⟩;subst he;exact h w' hR _ (fr.put hn)
theorem Mw{dst:Option Tmp}{op:Op}{j:Nat}{want b:Bool}{t:Nat}{ty:TypeId}{pos:String}{af:Array Edge}(hj:((ops[j]?).bind (·.dst))=some t)(hb:gt L t=some (.bool b))(hw:b=want)
  (h:SY P n ops Q (⟨dst,op,ty,pos,af,none⟩::rest) L w):SY P n ops Q (⟨dst,op,ty,pos,af,some (j,want)⟩::rest) L w:=fun a fr=>by
 have c:=h a fr;simp only [wpListIn] at c ⊢;have hy:yielded ops a.tmps j=some b:=by simp [yielded,hj,fr.get t _ hb]
 have hwant:Region.wanted ⟨dst,op,ty,pos,af,some (j,want)⟩ (yielded ops a.tmps)=true:=by simp [Region.wanted,hy,hw]
 rw [if_pos hwant];have d:Region.wanted ⟨dst,op,ty,pos,af,none⟩ (yielded ops a.tmps)=true:=by simp [Region.wanted]
 rw [if_pos d] at c;exact c
end
abbrev yR[Dr](l D b:Nat)(rec:Loop)(tb te:TypeId)(sz:Nat)(v:Value)(k:Nat)(xs:List Value):List BG:=
 [.obj l (.loop rec),.obj D (.deferred (some [])),.box b [v] tb,.row v te sz k xs]
def XY[Dr](P:Program){α:Type}(r:Rp α)(sz bt:Nat)(l D b:Nat)(rec:Loop)(tb te:TypeId):Prop:=
 ∀
  {d w:World} {H:PH} {O:List BG} {v u:Value} {xs c:List Value} {a:List α} {x:α},Le H (hp d)→AO d (yR l D b rec tb te sz v a.length xs++O) w→
  AJ r (gz H d w (yR l D b rec tb te sz v a.length xs++O)) a xs→u.cells.toList=c→r.rel (gz H d w (yR l D b rec tb te sz v a.length xs++O)) x c→JE bt (a.length+1)→
  YieldAt Fence.wide 0 P l #[u] w (fun e w'=>e=.returned (.bool true)∧∃ v' xs',AO d (yR l D b rec tb te sz v' (a++[x]).length xs'++O) w'∧
   Le (fz w (yR l D b rec tb te sz v a.length xs++O)) (fz w' (yR l D b rec tb te sz v' (a++[x]).length xs'++O))∧AJ r (gz H d w' (yR l D b rec tb te sz v' (a++[x]).length xs'++O)) (a++[x]) xs')
def WR(P:Program)(l:Nat)(n:Sz)(c:Code)(Q:Exit→Act→World→Prop)(L:Env)(w:World):Prop:=∀ a,Fr n a L→c.wpIn (Fence.wide.inRound l) 0 P Q a w
section
variable {P:Program} {j:Nat} {n:Sz} {Q:Exit→Act→World→Prop} {L:Env} {w:World}
theorem SB{id:Nat}{l:List Oper}(hd:l.all (fun o=>!OQ o.op)=true)(hq:K3 Q)(h:S P n l.toArray Q l L w):WR P j n (.region id l.toArray false) Q L w:=fun a fr=>
 wpIn_region_lit (Jc (.inr ⟨j,rfl⟩) hq l a w hd (h a fr))
theorem XZ{id:Nat}{c:Code}(h:WR P j n c (Exit.inBlock id Q) L w):WR P j n (.block id c) Q L w:=fun a fr=>wpIn_block (h a fr)
theorem AO.putAt[Dr]{a:World}{O:List BG}{i b:Nat}{o:Obj}(o':Obj)(hL:AO a O w)(hi:D8 O i=some (.obj b o)):AO a (Dc O i (.obj b o')) (w.putObj b o')∧Le (fz w O) (fz (w.putObj b o') (Dc O i (.obj b o'))):=by
 have hg:w.grownBy (w.putObj b o') (some b):=⟨rfl,rfl,rfl,by simp,fun k _ hk=>World.putObj_heap_other (fun e=>hk (by rw [e]))⟩;have hlt:b<w.heap.size:=(hL.at hi).lt rfl;exact⟨hL.LH hi (Nat.le_refl _) hg (World.putObj_heap_same hlt) (fun k e=>.inl e),Hz hL hi hg (fun k e=>.inl e)⟩
def Abu(P:Program)(l:Nat)(body:Code)(R:Ending→World→Prop):Exit→Act→World→Prop:=
 Exit.then (fun a₁ w₁=>∃ w₂,(Instr.beginRound l).run P w₁=.ok () w₂∧body.wpIn (Fence.wide.inRound l) 0 P (roundPost P l R) a₁ w₂) (fun _ _ _=>False)
theorem ZL{l:Nat}{body:Code}{R:Ending→World→Prop}:K3 (Abu P l body R):=fun _ _ h=>h
theorem Ya{l:Nat}{R:Ending→World→Prop}:K3 (roundPost P l R):=fun _ _ h=>h
theorem Yb[Dr]{l i:Nat}{rec:Loop}{body:Code}{R:Ending→World→Prop}{b:World}{O:List BG}(hst:rec.state=.ready)(hL:AO b O w)(hi:D8 O i=some (.obj l (.loop rec)))
  (h:∀ w',AO b (Dc O i (.obj l (.loop {rec with state:=.busy}))) w'→Le (fz w O) (fz w' (Dc O i (.obj l (.loop {rec with state:=.busy}))))→WR P l n body (roundPost P l R) L w'):At n (Abu P l body R) .normal L w:=fun a fr=>by
 have c:=hL.at hi;have hp:=hL.putAt (.loop {rec with state:=.busy}) hi;exact⟨_,run_beginRound c hst,h _ hp.1 hp.2 a fr⟩
theorem T0[Dr]{l i:Nat}{rec:Loop}{R:Ending→World→Prop}{b:World}{O:List BG}(hL:AO b O w)(hi:D8 O i=some (.obj l (.loop rec)))
  (h:∀ w',AO b (Dc O i (.obj l (.loop {rec with state:=.ready,pending:=none}))) w'→Le (fz w O) (fz w' (Dc O i (.obj l (.loop {rec with state:=.ready,pending:=none}))))→R (.returned (.bool true)) w'):At n (roundPost P l R) .normal L w:=fun a _=>by
 have c:=hL.at hi;have hp:=hL.putAt (.loop {rec with state:=.ready,pending:=none}) hi;exact⟨_,_,run_endRound none c,h _ hp.1 hp.2⟩
theorem Yc[Dr]{α:Type}{r:Rp α}{sz bt l D b p k:Nat}{rec:Loop}{tb te:TypeId}{Lr:Env}(_hst:rec.state=.ready)(_hpe:rec.pending=none)(hps:rec.params = #[p])(fr:Fr ⟨k,[]⟩ ⟨rec.tmps,[]⟩ Lr)(hpk:Nat.blt p k=true)
  (hround:∀ {f w:World} {H:PH} {O:List BG} {v u:Value} {xs c:List Value} {a:List α} {x:α},Le H (hp f)→AO f (yR l D b rec tb te sz v a.length xs++O) w→
   AJ r (gz H f w (yR l D b rec tb te sz v a.length xs++O)) a xs→u.cells.toList=c→r.rel (gz H f w (yR l D b rec tb te sz v a.length xs++O)) x c→JE bt (a.length+1)→
   WR P l ⟨k,[]⟩ rec.assign (Abu P l rec.body (fun e w'=>e=.returned (.bool true)∧∃ v' xs',AO f (yR l D b rec tb te sz v' (a++[x]).length xs'++O) w'∧
    Le (fz w (yR l D b rec tb te sz v a.length xs++O)) (fz w' (yR l D b rec tb te sz v' (a++[x]).length xs'++O))∧AJ r (gz H f w' (yR l D b rec tb te sz v' (a++[x]).length xs'++O)) (a++[x]) xs')) ((p,u)::Lr) w) :
  XY P r sz bt l D b rec tb te:=fun {f w H O v u xs c a x} hH hL he hu hx hc=>by
 refine⟨rec.fn,_,rec.assign,rec.body,run_yield (hL.at (i:=0) rfl) (by rw [hps];rfl),roundIn_of_wpIn trivial ?_⟩;rw [hps];have e:((#[p]:Array Tmp).zip #[u]).foldl (fun tmps (x:Tmp×Value)=>tmps.setIfInBounds x.1 x.2) rec.tmps=rec.tmps.setIfInBounds p u:=by simp
 rw [show _=_ from e];exact hround hH hL he hu hx hc _ (fr.put (d:=p) (v:=u) hpk)
theorem ZM[Dr]{g:FuncId}{cap:List Value}{go:Operand}{ps:Array Tmp}{assign body:Code}(hg:ev L go=some (.func (.func g) #[] cap.toArray))(hc:HR P g){f:World}{O:List BG}(hL:AO f O w)
  (h:∀ (a:Act),Fr n a L→∀ (fn:FuncId) (l D:Nat) (m:World) (rec:Loop),rec={state:=.ready,pending:=none,fn,tmps:=a.tmps,params:=ps,assign,body,defers:=D}→
   AO f (.obj l (.loop rec)::.obj D (.deferred (some []))::O) m→Le (fz w O) (fz m (.obj l (.loop rec)::.obj D (.deferred (some []))::O))→
   Calls P g (#[.func (.yield l) #[] #[]]++cap.toArray) m (fun e o=>(∃ v,e=.returned v)∧∃ O',AO f (.obj l (.loop rec)::O') o∧
    ∀
     p,AO f (.obj l (.loop {rec with state:=.exhausted})::O') p→Le (fz o (.obj l (.loop rec)::O')) (fz p (.obj l (.loop {rec with state:=.exhausted})::O'))→
     At ⟨n.n,{target:=.collected D,args:=#[]}::n.d⟩ Q .normal L p)):W P n (.rangeFunc go ps assign body) Q L w:=fun a fr=>by
 refine (wpIn_wide (n := 0)).1 (wpIn_rangeFunc fun fn _ => ?_);obtain ⟨fn', c, t, h2, h3⟩ := hc;have h2' : ¬ fn'.name = "runtime.NumGoroutine" := by simpa using h2
 have q:=hL.new (r:=.obj w.heap.size (.deferred (some []))) (C0 w (.deferred (some []))) (show(w.alloc _).heap[w.heap.size]? = _ from World.alloc_heap_new w _) (fun b hb=>by cases hb;exact Nat.le_refl _);have f1:=O5 hL (r:=.obj w.heap.size (.deferred (some []))) (C0 w (.deferred (some []))) (fun b hb=>by cases hb;exact Nat.le_refl _);have hs:(w.alloc (.deferred (some []))).heap.size=w.heap.size+1:=by simp
 have s:=q.new (r:=.obj (w.heap.size+1) (.loop {state:=.ready,pending:=none,fn,tmps:=a.tmps,params:=ps,assign,body,defers:=w.heap.size})) (C0 _ _)
  (by rw [← hs];exact World.alloc_heap_new _ _) (fun b hb=>by cases hb;exact Nat.le_of_eq hs)
 have f2:=O5 q (r:=.obj (w.heap.size+1) (.loop {state:=.ready,pending:=none,fn,tmps:=a.tmps,params:=ps,assign,body,defers:=w.heap.size})) (C0 _ (.loop {state:=.ready,pending:=none,fn,tmps:=a.tmps,params:=ps,assign,body,defers:=w.heap.size}))
  (fun b hb=>by cases hb;exact Nat.le_of_eq hs)
 obtain⟨W1,j⟩:∃ W1,W1=(w.alloc (.deferred (some []))).alloc (.loop {state:=.ready,pending:=none,fn,tmps:=a.tmps,params:=ps,assign,body,defers:=w.heap.size}):=⟨_,rfl⟩;rw [← j] at s f2;have hcall:=h a fr fn (w.heap.size+1) w.heap.size W1 _ rfl s (f1.trans f2);refine⟨w.heap.size+1,[{target:=.collected w.heap.size,args:=#[]}],W1,{target:=.fn (.func g) cap.toArray,args:=#[.func (.yield (w.heap.size+1)) #[] #[]]},W1,g,#[.func (.yield (w.heap.size+1)) #[] #[]]++cap.toArray,W1,by rw [j];exact run_enterLoop_outer _ _ _ _ _,?_,fun _ _=>trivial,?_,fun e=>by simp [Fence.wide] at e,?_⟩
 ·have hgo:=fr.Qt go _ hg;simp only [resolve,hgo];simp [Deferred.ofValue,Act.eval]
 ·simp [invoke,callFunc,t,h2',h3]
 ·refine(callsIn_wide.2 hcall).mono fun e o ⟨⟨v,he⟩,O',k,hk⟩=>?_;subst he;have hp:=k.putAt (i:=0) (.loop {state:=.exhausted,pending:=none,fn,tmps:=a.tmps,params:=ps,assign,body,defers:=w.heap.size}) rfl;refine⟨none,_,run_endLoop (k.at (i:=0) rfl) (by simp),?_⟩;exact hk _ hp.1 hp.2 {a with defers:=[{target:=.collected w.heap.size,args:=#[]}]++a.defers} ⟨fr.size,by rw [fr.defers];rfl,fr.get⟩
def AaS(P:Program)(fn:Func)(R:Value→World→Prop):Exit→Act→World→Prop:=bodyPostM Fence.wide 0 P fn (Rq R)
theorem WN{f:FuncId}{fn:Func}{c:Code}{args:List Value}{R:Value→World→Prop}{k:Nat}(L:Env)
  (hf : P.funcs[f]? = some fn) (hname : (fn.name == "runtime.NumGoroutine") = false) (hb : fn.body = some c) (hn : fn.ntmps = k) (hk : Nat.ble args.length k = true) (hL : Mr 0 args = L)
  (h:W P ⟨k,[]⟩ c (AaS P fn R) L w):Ok P f args w R:=
 ⟨⟨fn,c,hf,hname,hb⟩,callsIn_wide.1 (callsIn_of_wp_marks hf hb trivial ((wpIn_wide (n:=0)).2 (h _ (by rw [hn];exact QJ hk hL))))⟩
theorem ZN[Dr]{k D i:Nat}{fn:Func}{R:Value→World→Prop}{l:List ResultVar}{v:Value}{b:World}{O:List BG}(hl:fn.results=l.toArray)(hr:ON l L=some v)(hL:AO b O w)(hi:D8 O i=some (.obj D (.deferred (some []))))
  (h:∀ w',AO b (Dc O i (.obj D (.deferred none))) w'→Le (fz w O) (fz w' (Dc O i (.obj D (.deferred none))))→R v w'):At ⟨k,[{target:=.collected D,args:=#[]}]⟩ (AaS P fn R) .ret L w:=fun a fr=>by
 show LeavesInM Fence.wide 0 P fn a.tmps (Rq R) a.defers .returning w
 rw [fr.defers];have hp:=hL.putAt (.deferred none) hi;exact⟨by simp,.inl ⟨_,_,rfl,run_takeDeferred (hL.at hi),v,QV fr hl hr,v,rfl,h _ hp.1 hp.2⟩⟩
end
end Go.E
end
noncomputable section
namespace Go.E
open Go Go.RowKit
structure Nb (α:Type) where
 pre:α→List Value
 dat:α→List UInt8
 upd:α→List UInt8→α
 sz:Nat
 len:∀ x,(pre x).length+1=sz
 one:∀ x,∀ u∈pre x,u.oneCell'=true
 AcX:∀ x d,pre (upd x d)=pre x
 AcY:∀ x d,dat (upd x d)=d
def Nb.b:Nb (List UInt8):=⟨fun _=>[],fun x=>x,fun _ d=>d,1,fun _=>rfl,(fun _ _ h=>by cases h),fun _ _=>rfl,fun _ _=>rfl⟩
def Nb.s:Nb (Int×List UInt8):=⟨fun x=>[.int .i64 x.1],fun x=>x.2,fun x d=>(x.1,d),2,fun _=>rfl,(fun _ u h=>by simp at h;subst h;rfl),fun _ _=>rfl,fun _ _=>rfl⟩
section
variable {α:Type} (N:Nb α) (e:TypeId)
end
section
variable {α:Type} {N:Nb α} {e:TypeId}
theorem OR:∀ (A T:List BG) (i:Nat),D8 (A++T) (A.length+i)=D8 T i
 | [],T,i=>by rw [List.nil_append,List.length_nil,Nat.zero_add]
 | a::A,T,i=>by rw [List.length_cons,show A.length+1+i=(A.length+i)+1 by omega];exact OR A T i
theorem U0:∀ (A T:List BG) (i:Nat) (r:BG),Dc (A++T) (A.length+i) r=A++Dc T i r
 | [],T,i,r=>by rw [List.nil_append,List.length_nil,Nat.zero_add,List.nil_append]
 | a::A,T,i,r=>by rw [List.length_cons,show A.length+1+i=(A.length+i)+1 by omega];exact congrArg (a :: ·) (U0 A T i r)
theorem Jh:∀ {A:List BG} {i:Nat} {r:BG} (T:List BG),D8 A i=some r→D8 (A++T) i=some r
 | _::_,0,_,_,h=>h
 | _::A,i+1,_,T,h=>Jh (A:=A) (i:=i) T h
theorem LX:∀ {A:List BG} {i:Nat} {r:BG} (s:BG) (T:List BG),D8 A i=some r→Dc (A++T) i s=Dc A i s++T
 | _::_,0,_,_,_,_=>rfl
 | a::A,i+1,_,s,T,h=>congrArg (a :: ·) (LX (A:=A) (i:=i) s T h)
end
section
variable {P:Program} {n:Sz} {ops:Array Oper} {Q:Exit→Act→World→Prop} {L:Env} {w w0:World} {O:List BG} {rest:List Oper}
 {d:Nat} {ty:TypeId} {pos:String} {af:Array Edge} {α:Type} [Inhabited α] {N:Nb α} {x y:Operand} {vo:Value} {t e eo:TypeId} {A:List BG} {l:List α} {vs:List Value}
end
section
variable {P:Program} {n:Sz} {ops:Array Oper} {Q:Exit→Act→World→Prop} {L:Env} {w w0:World} {rest:List Oper}
 {d d':Nat} {ty ty':TypeId} {pos pos':String} {af af':Array Edge} {α:Type} {N:Nb α} {x:Operand} {v vo:Value} {t e eo:TypeId} {H:PH} {l:List α} {vs:List Value}
end
section
variable {w w' w0:World} {A T O O':List BG} {α:Type} {N:Nb α} {r:Rp α} {vo:Value} {e eo:TypeId} {H:PH} {l:List α} {vs:List Value}
theorem U1:∀ (A T:List BG) (i:Nat),KK (A++T) (A.length+i)=A++KK T i
 | [],T,i=>by rw [List.nil_append,List.length_nil,Nat.zero_add,List.nil_append]
 | a::A,T,i=>by rw [List.length_cons,show A.length+1+i=(A.length+i)+1 by omega];exact congrArg (a :: ·) (U1 A T i)
end
end Go.E
namespace Go.L
def HP{κ β:Type}[DecidableEq κ](d:β)(k:κ):List (κ×β)→β
 | []=>d
 | (a,y)::l=>if k=a then y else HP d k l
def Hq{κ β:Type}[DecidableEq κ](k:κ)(y:β):List (κ×β)→List (κ×β)
 | []=>[(k,y)]
 | (a,z)::l=>if k=a then(a,y)::l else(a,z)::Hq k y l
end Go.L
namespace Go.E
open Go Go.RowKit
def mE{κ:Type}(enc:κ→Value):Nat→List κ→List Value→List MapEntry
 | i,k::l,v::vs=>⟨enc k,v,i⟩::mE enc (i+1) l vs
 | _,_,_=>[]
def mI{κ:Type}[DecidableEq κ](k:κ):List κ→Option Nat
 | []=>none
 | a::l=>if k=a then some 0 else(mI k l).map (· + 1)
section
variable {κ:Type} {enc:κ→Value} {k:κ}
theorem T1{v:Value}:∀ (l:List κ) (vs:List Value) (i:Nat),l.length=vs.length→mE enc i l vs++[⟨enc k,v,i+l.length⟩]=mE enc i (l++[k]) (vs++[v])
 | [],[],i,_=>by simp [mE]
 | a::l,u::vs,i,h=>by
  have:=T1 (v:=v) l vs (i+1) (by simpa using h);simp only [mE,List.cons_append,List.length_cons];rw [← this,show i+(l.length+1)=i+1+l.length by omega]
theorem PC:∀ (l:List κ) (vs:List Value) (i m:Nat) (a:κ),l.length=vs.length→l[m]? = some a→(mE enc i l vs)[m]? = some ⟨enc a,vs.getD m default,i+m⟩
 | b::l,u::vs,i,0,a,_,h=>by simp at h;subst h;simp [mE]
 | b::l,u::vs,i,m+1,a,hl,h=>by
  have:=PC l vs (i+1) m a (by simpa using hl) (by simpa using h);simp only [mE,List.getElem?_cons_succ,this];simp;omega
theorem SC{v:Value}:∀ (l:List κ) (vs:List Value) (i m:Nat),l.length=vs.length→l[m]? = some k→(mE enc i l vs).modify m (fun e=>{e with key:=enc k,val:=v})=mE enc i l (vs.set m v)
 | b::l,u::vs,i,0,_,h=>by simp at h;subst h;simp [mE]
 | b::l,u::vs,i,m+1,hl,h=>by
  have:=SC (v:=v) l vs (i+1) m (by simpa using hl) (by simpa using h);simp only [mE,List.modify_succ_cons,List.set_cons_succ,this]
theorem PD:∀ (l:List κ) (vs:List Value) (i:Nat),l.length=vs.length→(mE enc i l vs).length=l.length
 | [],[],_,_=>rfl
 | a::l,u::vs,i,h=>by simp [mE,PD l vs (i+1) (by simpa using h)]
end
structure MM (P:Program) {κ:Type} [DecidableEq κ] (kt:TypeId) (enc:κ→Value):Prop where
 check:∀ (b:Bool) (k:κ) w,(Instr.checkKey b 10000 kt (enc k)).run P w=.ok () w
 bits:∀ k,Instr.sameBits 10000 (enc k) (enc k)=true
 find:∃ dd,P.underlying kt=some dd∧((∀ a b,Instr.sameNow dd (enc a) (enc b)=some (decide (a=b)))∨
  ((∀ a b,Instr.sameNow dd (enc a) (enc b)=none)∧∀ a b w,(Op.equal kt (enc a) (enc b)).run P w=.ok (decide (a=b)) w))
section
variable {P:Program} {κ:Type} [DecidableEq κ] {kt t et:TypeId} {enc:κ→Value} {k:κ}
theorem SD:∀ {l:List κ} {m:Nat},mI k l=some m→m<l.length∧l[m]? = some k
 | a::l,m,h=>by
  simp only [mI] at h
  split at h
  ·rename_i e;cases h;subst e;simp
  ·cases b:mI k l with
   | none=>rw [b] at h;cases h
   | some j=>
    rw [b] at h;cases h;have:=SD b
    simpa using this
theorem Rt{dd:TypeDesc}(h:∀ a b,Instr.sameNow dd (enc a) (enc b)=some (decide (a=b))):∀ (l:List κ) (vs:List Value) (i j:Nat),l.length=vs.length→
  Instr.findNow dd (enc k) (mE enc i l vs) j=some ((mI k l).map fun m=>(j+m,vs.getD m default))
 | [],_,_,_,_=>by simp [mE,Instr.findNow,mI]
 | a::l,v::vs,i,j,hl=>by
  simp only [mE,Instr.findNow,h,mI]
  by_cases e:k=a
  ·simp [e]
  ·simp only [e,decide_false];rw [Rt h l vs (i+1) (j+1) (by simpa using hl)]
   cases mI k l with
   | none=>simp
   | some m=>simp;omega
theorem Oq(h:∀ a b w,(Op.equal kt (enc a) (enc b)).run P w=.ok (decide (a=b)) w)(w:World):∀ (l:List κ) (vs:List Value) (i j:Nat),l.length=vs.length→
  (Instr.findAsking kt (enc k) (mE enc i l vs) j).run P w=.ok ((mI k l).map fun m=>(j+m,vs.getD m default)) w
 | [],_,_,_,_=>by simp [mE,Instr.findAsking,mI]
 | a::l,v::vs,i,j,hl=>by
  simp only [mE,Instr.findAsking,mI,Sem.run_bind,h,Result.andThen]
  by_cases e:k=a
  ·simp [e]
  ·simp only [e,decide_false];rw [if_neg (by simp),Oq h w l vs (i+1) (j+1) (by simpa using hl)]
   cases mI k l with
   | none=>simp
   | some m=>simp;omega
theorem QK(hk:MM P kt enc){l:List κ}{vs:List Value}(hl:l.length=vs.length)(w:World):
  (Instr.findKey kt (enc k) (mE enc 0 l vs)).run P w=.ok ((mI k l).map fun m=>(m,vs.getD m default)) w:=by
 obtain⟨dd,hd,h⟩:=hk.find;unfold Instr.findKey
 rcases h with h | ⟨b,h2⟩
 ·simp [run_underlying hd,Rt h l vs 0 0 hl]
 ·cases l with
  | nil=>
   have:vs=[]:=List.eq_nil_of_length_eq_zero (by simpa using hl.symm);subst this;simp [run_underlying hd,mE,Instr.findNow,mI]
  | cons a l=>
   cases vs with
   | nil=>cases hl
   | cons v vs=>
    have e:Instr.findNow dd (enc k) (mE enc 0 (a::l) (v::vs)) 0=none:=by simp only [mE,Instr.findNow,b]
    simp only [Sem.run_bind,run_underlying hd,Result.andThen,e];have:=Oq (k:=k) h2 w (a::l) (v::vs) 0 0 hl;rw [this];simp
def Vn(z:Value)(k:κ)(l:List κ)(vs:List Value):Value:=match mI k l with
 | some m=>vs.getD m default
 | none=>z
def Mz(P:Program)(et:TypeId)(z:Value):Prop:=∀ w,(zeroValue et).run P w=.ok z w
theorem Ru{w:World}{b n:Nat}{l:List κ}{vs:List Value}{z:Value}(hk:MM P kt enc)(ht:P.underlying t=some (.map kt et))(hz:Mz P et z)(hb:w.heap[b]? = some (.map (mE enc 0 l vs).toArray n))(hl:l.length=vs.length):
  (Instr.lookup t (.map (some b)) (enc k) false).run P w=.ok (Vn z k l vs) w:=by
 have hg:(getObj b).run P w=.ok (.map (mE enc 0 l vs).toArray n) w:=by simp [getObj,Sem.run,hb]
 simp only [Instr.lookup,Sem.run_bind,run_underlying ht,Result.andThen,hg,hk.check];simp only [Sem.run_pure];rw [QK hk hl];unfold Vn
 cases mI k l with
 | some m=>simp
 | none=>simp [hz w]
def upK(k:κ)(l:List κ):List κ:=match mI k l with
 | some _=>l
 | none=>l++[k]
def Vo(k:κ)(v:Value)(l:List κ)(vs:List Value):List Value:=match mI k l with
 | some m=>vs.set m v
 | none=>vs++[v]
theorem Abv{v:Value}{l:List κ}{vs:List Value}(hl:l.length=vs.length):(upK k l).length=(Vo k v l vs).length:=by
 unfold upK Vo
 cases mI k l <;> simp [hl]
theorem Vp{w:World}{b:Nat}{l:List κ}{vs:List Value}{v:Value}(hk:MM P kt enc)(ht:P.underlying t=some (.map kt et))(hb:w.heap[b]? = some (.map (mE enc 0 l vs).toArray l.length))(hl:l.length=vs.length):
  (Instr.mapUpdate t (.map (some b)) (enc k) v).run P w=.ok () (w.putObj b (.map (mE enc 0 (upK k l) (Vo k v l vs)).toArray (upK k l).length)):=by
 have hg:(getObj b).run P w=.ok (.map (mE enc 0 l vs).toArray l.length) w:=by simp [getObj,Sem.run,hb]
 have hs:∀ o,(setObj b o).run P w=.ok () (w.putObj b o):=fun o=>by simp [setObj,Sem.run,hb,World.putObj]
 simp only [Instr.mapUpdate,Sem.run_bind,run_underlying ht,Result.andThen,hg,hk.check];rw [QK hk hl];unfold upK Vo
 cases hm:mI k l with
 | some m=>
  obtain⟨c,h2⟩:=SD hm;have he:=PC (enc:=enc) l vs 0 m k hl h2;simp only [Option.map_some,Sem.run_bind,Result.andThen,List.getElem?_toArray,he,Option.getD_some,Instr.keyThatStays,hk.bits,if_true];simp only [Sem.run_pure];have a:(mE enc 0 l vs).toArray.modify m (fun e=>{e with key:=enc k,val:=v})=(mE enc 0 l (vs.set m v)).toArray:=by rw [List.modify_toArray,SC l vs 0 m hl h2]
  rw [a];exact hs _
 | none=>
  have hp:=T1 (enc:=enc) (k:=k) (v:=v) l vs 0 hl;rw [Nat.zero_add] at hp;simp only [Option.map_none,List.push_toArray];rw [hp,hs];simp
end
section
variable {κ β:Type} [DecidableEq κ] {k:κ} {z:Value} {enc:κ→Value} {ev':β→Value}
theorem QL:∀ {l:List (κ×β)} (d:β),mI k (l.map Prod.fst)=none→Go.L.HP d k l=d
 | [],_,_=>rfl
 | (a,y)::l,d,h=>by
  simp only [List.map_cons,mI] at h
  split at h
  ·cases h
  ·rename_i e;simp only [Go.L.HP,if_neg e];exact QL d (by cases b:mI k (l.map Prod.fst) <;> simp_all)
theorem QM:∀ {l:List (κ×β)} {m:Nat} (d:β),mI k (l.map Prod.fst)=some m→l[m]? = some (k,Go.L.HP d k l)
 | (a,y)::l,m,d,h=>by
  simp only [List.map_cons,mI] at h
  split at h
  ·rename_i e;cases h;subst e;simp [Go.L.HP]
  ·rename_i e
   cases b:mI k (l.map Prod.fst) with
   | none=>rw [b] at h;cases h
   | some j=>
    rw [b] at h;cases h
    simpa [Go.L.HP,if_neg e] using QM d b
theorem NQ{y:β}:∀ {l:List (κ×β)},mI k (l.map Prod.fst)=none→Go.L.Hq k y l=l++[(k,y)]
 | [],_=>rfl
 | (a,x)::l,h=>by
  simp only [List.map_cons,mI] at h
  split at h
  ·cases h
  ·rename_i e;simp only [Go.L.Hq,if_neg e,List.cons_append];rw [NQ (by cases b:mI k (l.map Prod.fst) <;> simp_all)]
theorem NR{y:β}:∀ {l:List (κ×β)} {m:Nat},mI k (l.map Prod.fst)=some m→Go.L.Hq k y l=l.set m (k,y)
 | (a,x)::l,m,h=>by
  simp only [List.map_cons,mI] at h
  split at h
  ·rename_i e;cases h;subst e;simp [Go.L.Hq]
  ·rename_i e
   cases b:mI k (l.map Prod.fst) with
   | none=>rw [b] at h;cases h
   | some j=>
    rw [b] at h;cases h;simp only [Go.L.Hq,if_neg e];rw [NR b]
    rfl
theorem Rv{y:β}{l:List (κ×β)}:upK k (l.map Prod.fst)=(Go.L.Hq k y l).map Prod.fst:=by
 unfold upK
 cases h:mI k (l.map Prod.fst) with
 | none=>rw [NQ h];simp
 | some m=>
  rw [NR h];obtain⟨b,h2⟩:=SD h;simp only [List.map_set];obtain⟨h3,a⟩:=List.getElem?_eq_some_iff.1 h2
  conv=>lhs;rw [← List.set_getElem_self h3,a]
end
abbrev Ot{κ β:Type}(enc:κ→Value)(b:Nat)(l:List (κ×β))(vs:List Value):BG:=.obj b (.map (mE enc 0 (l.map Prod.fst) vs).toArray l.length)
section
variable {P:Program} {n:Sz} {ops:Array Oper} {Q:Exit→Act→World→Prop} {L:Env} {w w0:World} {O:List BG} {rest:List Oper} {d:Nat} {ty t kt et:TypeId} {pos:String} {af:Array Edge} {x y x':Operand}
 {κ β:Type} [DecidableEq κ] {enc:κ→Value} {ev':β→Value} {l:List (κ×β)} {k:κ} {H:PH}
omit [DecidableEq κ] in
theorem SE[Dr](enc:κ→Value)(β:Type)(hn:Nat.blt d n.n=true)(hL:AO w0 O w)
  (h:∀ w' b,AO w0 (Ot enc b ([]:List (κ×β)) []::O) w'→Le (fz w O) (fz w' (Ot enc b ([]:List (κ×β)) []::O))→S P n ops Q rest ((d,.map (some b))::L) w'):S P n ops Q (⟨some d,.makeMap t none,ty,pos,af,none⟩::rest) L w:=by
 have hb:∀ b,(BG.obj w.heap.size (.map (mE enc 0 (([]:List (κ×β)).map Prod.fst) []).toArray ([]:List (κ×β)).length)).block=some b→w.heap.size≤b:=fun b e=>by cases e;exact Nat.le_refl _
 refine Ds (v:=.map (some w.heap.size)) (w':=w.alloc (.map #[] 0)) rfl rfl hn (fun ρ hρ=>?_) (h _ _ (hL.new (C0 w _) (World.alloc_heap_new w _) hb) (O5 hL (C0 w (.map #[] 0)) hb));simp [execOp,Instr.makeMap,newObj,Sem.run]
end
section
variable {κ α:Type} (cw:α→List Value) (e:TypeId) (sz:Nat)
def mR(x:List α)(v:Value):BG:=.row v e sz x.length (x.flatMap cw)
def mT:List (κ×List α)→List Value→List BG
 | x::l,v::vs=>mR cw e sz x.2 v::mT l vs
 | _,_=>[]
end
section
variable {κ α:Type} {cw:α→List Value} {e:TypeId} {sz:Nat}
theorem Yd:∀ {l:List (κ×List α)} {vs:List Value},l.length=vs.length→∀ {i:Nat} {k:κ} {x:List α},l[i]? = some (k,x)→D8 (mT cw e sz l vs) i=some (mR cw e sz x (vs.getD i default))
 | y::l,v::vs,h,0,k,x,hx=>by simp at hx;subst hx;rfl
 | y::l,v::vs,h,i+1,k,x,hx=>by
  have:=Yd (l:=l) (vs:=vs) (by simpa using h) (i:=i) (by simpa using hx)
  simpa [mT,D8] using this
theorem Ye:∀ {l:List (κ×List α)} {vs:List Value},l.length=vs.length→∀ {i:Nat} (k:κ) (x:List α) (v:Value),i<l.length→Dc (mT cw e sz l vs) i (mR cw e sz x v)=mT cw e sz (l.set i (k,x)) (vs.set i v)
 | y::l,u::vs,h,0,k,x,v,_=>rfl
 | y::l,u::vs,h,i+1,k,x,v,hi=>by
  have:=Ye (l:=l) (vs:=vs) (by simpa using h) (i:=i) k x v (by simpa using hi);simp [mT,Dc,this]
theorem T2(k:κ)(x:List α)(v:Value):∀ {l:List (κ×List α)} {vs:List Value},l.length=vs.length→mT cw e sz (l++[(k,x)]) (vs++[v])=mT cw e sz l vs++[mR cw e sz x v]
 | [],[],_=>rfl
 | y::l,u::vs,h=>by
  have:=T2 k x v (l:=l) (vs:=vs) (by simpa using h);simp [mT,this]
end
section
variable {P:Program} {n:Sz} {ops:Array Oper} {Q:Exit→Act→World→Prop} {L:Env} {w w0:World} {O:List BG} {rest:List Oper} {d:Nat} {ty ty' t mt kt et e:TypeId} {pos pos':String} {af af':Array Edge} {x y x' m':Operand}
 {κ α:Type} [DecidableEq κ] {enc:κ→Value} {cw:α→List Value} {sz:Nat} {l:List (κ×List α)} {vs:List Value} {k:κ} {H:PH} {A:List BG}
def Abw(cw:α→List Value)(e:TypeId)(sz:Nat)(l:List (κ×List α))(vs:List Value)(k:κ)(y:List α)(v:Value)(T:List BG):Prop:=
 v.oneCell'=true∧l.length=vs.length∧T.Perm (mT cw e sz (Go.L.Hq k y l) (Vo k v (l.map Prod.fst) vs))
theorem Yf[Dr]{r:Rp α}{bt:Nat}{zz u:Value}{z:α}(hr:∀ G (x:α) c,r.rel G x c↔c=cw x)(hsz:r.sz=sz)(hx:ev L x=some (Vn (.slice none 0 0) k (l.map Prod.fst) vs))(hy:ev L y=some u)(ht:P.underlying t=some (.slice e))(hz:Zr P e zz sz bt)(hzs:zz.cells.size=sz)(g:0<sz)(hn:Nat.blt d n.n=true)
  (hH:Le H (hp w0)) (hL:AO w0 (A++mT cw e sz l vs) w) (hl:l.length=vs.length) (hu:AI r (gz H w0 w (A++mT cw e sz l vs)) u [z]) (hby:JE bt ((Go.L.HP [] k l).length+1))
  (h:∀ v' w' T,Abw cw e sz l vs k (Go.L.HP [] k l++[z]) v' T→AO w0 (A++T) w'→Le (fz w (A++mT cw e sz l vs)) (fz w' (A++T))→S P n ops Q rest ((d,v')::L) w') :
  S P n ops Q (⟨some d,.call ⟨.builtin .append,#[x,y],#[t,t]⟩,ty,pos,af,none⟩::rest) L w:=by
 have hel:∃ news,news=cw z∧Src (hp w) sz u 1 news:=by
  obtain⟨news,b,h2⟩:=hu.elems
  have h3:news=cw z:=by
   cases b with
   | cons hc ht=>cases ht;rw [List.append_nil];exact(hr _ _ _).1 hc
  rw [hsz] at h2;exact⟨news,h3,h2.mono (As hH hL)⟩
 obtain⟨news,rfl,hsrc⟩:=hel;have hone:∀ c∈cw z,c.oneCell'=true:=fun c hc=>r.one (H:=H) ((hr H z (cw z)).2 rfl) c hc
 cases hmi:mI k (l.map Prod.fst) with
 | some m=>
  obtain⟨b,h2⟩:=SD hmi;have h1':m<l.length:=by simpa using b
  have hg:=QM ([]:List α) hmi;have hrow:=Yd (cw:=cw) (e:=e) (sz:=sz) hl hg;have hlk:Vn (.slice none 0 0) k (l.map Prod.fst) vs=vs.getD m default:=by unfold Vn;rw [hmi]
  rw [hlk] at hx;have hO:D8 (A++mT cw e sz l vs) (A.length+m)=some (.row (vs.getD m default) e sz (Go.L.HP [] k l).length ((Go.L.HP [] k l).flatMap cw)):=by rw [OR];exact hrow
  refine Rg (A.length+m) hx hy ht hz hzs g hn hL hO hsrc hone hby fun v' w' hL' hle'=>?_;have p:(.row v' e sz ((Go.L.HP [] k l).length+1) ((Go.L.HP [] k l).flatMap cw++cw z):BG)=mR cw e sz (Go.L.HP [] k l++[z]) v':=by simp [mR]
  rw [p,U0,Ye hl k _ _ h1'] at hL' hle';have f:Vo k v' (l.map Prod.fst) vs=vs.set m v':=by unfold Vo;rw [hmi]
  refine h v' w' _ ⟨?_,hl,?_⟩ hL' hle'
  ·have j:(l.set m (k,Go.L.HP [] k l++[z])).length=(vs.set m v').length:=by simp [hl]
   have o:(l.set m (k,Go.L.HP [] k l++[z]))[m]? = some (k,Go.L.HP [] k l++[z]):=by simp [h1']
   have a:=Yd (cw:=cw) (e:=e) (sz:=sz) j o;have hgv:(vs.set m v').getD m default=v':=by simp [List.getD_eq_getElem?_getD,show m<vs.length by omega]
   rw [hgv] at a;have:=hL'.at (i:=A.length+m) (r:=mR cw e sz (Go.L.HP [] k l++[z]) v') (by rw [OR];exact a);exact row_one this
  ·rw [f,NR hmi]
 | none=>
  have hg:=QL ([]:List α) hmi;have hlk:Vn (.slice none 0 0) k (l.map Prod.fst) vs=.slice none 0 0:=by unfold Vn;rw [hmi]
  rw [hlk] at hx;have hnil:=QH hL e sz;have hby':JE bt (0+1):=by rw [hg] at hby;exact hby
  refine Rg 0 hx hy ht hz hzs g hn hnil.1 rfl hsrc hone hby' fun v' w' hL' hle'=>?_
  have hp:(A++(mT cw e sz l vs++[mR cw e sz [z] v'])).Perm (.row v' e sz (0+1) ([]++cw z)::(A++mT cw e sz l vs)):=by
   rw [← List.append_assoc];have:(mR cw e sz [z] v':BG)=.row v' e sz (0+1) ([]++cw z):=by simp [mR]
   rw [this];exact List.perm_append_singleton _ _
  have f:Vo k v' (l.map Prod.fst) vs=vs++[v']:=by unfold Vo;rw [hmi]
  refine h v' w' (mT cw e sz l vs++[mR cw e sz [z] v']) ⟨row_one (hL'.at (i:=0) rfl),hl,?_⟩ (hL'.perm hp) ?_
  ·rw [f,NQ hmi,hg,List.nil_append,T2 k [z] v' hl]
  ·rw [Ig hp];exact hnil.2.trans hle'
theorem Abx[Dr](ib:Nat){b:Nat}{v:Value}{yl:List α}{T:List BG}(hpd:Abw cw e sz l vs k yl v T)(hm:ev L m'=some (.map (some b)))(hkx:ev L x'=some (enc k))(hv:ev L x=some v)(hmt:P.underlying mt=some (.map kt et))(hk:MM P kt enc)
  (hL:AO w0 (A++T) w) (hib:D8 A ib=some (Ot enc b l vs))
  (h:∀ vs' w',(Go.L.Hq k yl l).length=vs'.length→AO w0 (Dc A ib (Ot enc b (Go.L.Hq k yl l) vs')++mT cw e sz (Go.L.Hq k yl l) vs') w'→
   Le (fz w (A++T)) (fz w' (Dc A ib (Ot enc b (Go.L.Hq k yl l) vs')++mT cw e sz (Go.L.Hq k yl l) vs'))→S P n ops Q rest L w') :
  S P n ops Q (⟨none,.mapUpdate mt m' x' x,ty,pos,af,none⟩::rest) L w:=by
 obtain⟨_,hl,hpm⟩:=hpd;have hb:w.heap[b]? = some (.map (mE enc 0 (l.map Prod.fst) vs).toArray l.length):=hL.at (Jh T hib);have hur:=Vp (k:=k) (v:=v) (l:=l.map Prod.fst) (vs:=vs) hk hmt (by rw [List.length_map];exact hb) (by simp [hl]);rw [Rv (y:=yl),List.length_map] at hur;have hp:=hL.putAt (.map (mE enc 0 ((Go.L.Hq k yl l).map Prod.fst) (Vo k v (l.map Prod.fst) vs)).toArray (Go.L.Hq k yl l).length) (Jh T hib);rw [LX _ _ hib] at hp;have a:=List.Perm.append_left (Dc A ib (Ot enc b (Go.L.Hq k yl l) (Vo k v (l.map Prod.fst) vs))) hpm.symm;have hlen:=Abv (k:=k) (v:=v) (l:=l.map Prod.fst) (vs:=vs) (by simp [hl]);rw [Rv (y:=yl),List.length_map] at hlen;refine LU (w':=_) rfl rfl (fun ρ hρ=>?_) (h (Vo k v (l.map Prod.fst) vs) _ hlen (hp.1.perm a) ?_)
 ·simp [execOp,hρ m' _ hm,hρ x' _ hkx,hρ x _ hv,hur]
 ·rw [Ig a];exact hp.2
end
def Sm{κ β:Type}(enc:κ→Value)(r:Rp β)(H:PH)(v:Value)(l:List (κ×β)):Prop:=
 ∃ b vs,v=.map (some b)∧H b=some (.map (mE enc 0 (l.map Prod.fst) vs).toArray l.length)∧l.length=vs.length∧∀ i x,l[i]? = some x→r.rel H x.2 [vs.getD i default]
theorem Sm.mono{κ β:Type}{enc:κ→Value}{r:Rp β}{H H':PH}{v:Value}{l:List (κ×β)}(h:Sm enc r H v l)(hs:Le H H'):Sm enc r H' v l:=by
 obtain⟨b,vs,a,h2,h3,c⟩:=h;exact⟨b,vs,a,hs _ _ h2,h3,fun i x hx=>r.mono hs (c i x hx)⟩
section
variable {P:Program} {L:Env} {w w0:World} {ty t kt et e:TypeId} {x y:Operand} {κ α:Type} [DecidableEq κ] {enc:κ→Value} {cw:α→List Value} {r:Rp α} {sz:Nat} {l:List (κ×List α)} {vs:List Value} {k:κ} {H:PH} {A:List BG}
omit [DecidableEq κ] in
theorem Wc[Dr](hsz:r.sz=sz)(hr:∀ G (x:α) c,r.rel G x c↔c=cw x)(hH:Le H (hp w0)):∀ {l:List (κ×List α)} {vs:List Value},l.length=vs.length→AO w0 (A++mT cw e sz l vs) w→AO w0 A w∧Le (fz w (A++mT cw e sz l vs)) (fz w A)∧∀ i x,l[i]? = some x→AI r (gz H w0 w A) (vs.getD i default) x.2
 | [],[],_,hL=>⟨by simpa [mT] using hL,by simp only [mT,List.append_nil];exact Le.refl _,fun i x hx=>by cases hx⟩
 | y::l,v::vs,hn,hL=>by
  have hi:D8 (A++mT cw e sz (y::l) (v::vs)) (A.length+0)=some (.row v e r.sz y.2.length (y.2.flatMap cw)):=by rw [OR,hsz];rfl
  have hel:AJ r (gz H w0 w (A++mT cw e sz (y::l) (v::vs))) y.2 (y.2.flatMap cw):=by
   generalize gz H w0 w (A++mT cw e sz (y::l) (v::vs))=G
   induction y.2 with
   | nil=>exact .nil
   | cons a m ih=>rw [List.flatMap_cons];exact .cons ((hr _ _ _).2 rfl) ih
  have hv:=hL.CA hH hi hel;have b:=hL.AP hi;have d:=Al (w:=w) hi;rw [U1] at hv b d;obtain⟨f,h2,h3⟩:=Wc hsz hr hH (l:=l) (vs:=vs) (by simpa using hn) b;refine⟨f,d.trans h2,fun i x hx=>?_⟩
  cases i with
  | zero=>simp at hx;subst hx;exact hv.mono (Ab hH h2)
  | succ i=>simpa using h3 i x (by simpa using hx)
 | [],_::_,h,_=>by cases h
 | _::_,[],h,_=>by cases h
omit [DecidableEq κ] in
theorem Wd[Dr](ib:Nat){b:Nat}(hsz:r.sz=sz)(hr:∀ G (x:α) c,r.rel G x c↔c=cw x)(hH:Le H (hp w0))(hl:l.length=vs.length)(hL:AO w0 (A++mT cw e sz l vs) w)(hib:D8 A ib=some (Ot enc b l vs)):
  AO w0 (KK A ib) w∧Le (fz w (A++mT cw e sz l vs)) (fz w (KK A ib))∧Sm enc (.vec r) (gz H w0 w (KK A ib)) (.map (some b)) l:=by
 obtain⟨a,h2,h3⟩:=Wc hsz hr hH hl hL;have d:=Al (w:=w) hib;have hb:=a.at hib;refine⟨a.AP hib,h2.trans d,b,vs,rfl,?_,hl,fun i x hx=>⟨_,rfl,(h3 i x hx).mono (Ab hH d)⟩⟩;have hge:=a.own _ ((Dy hib).mem_iff.2 (.head _)) b rfl;have f:fz w (KK A ib) b=w.heap[b]?:=Rb hib rfl a.Zu;refine OP b _ ?_;unfold nf;rw [if_pos hge,f];exact hb
theorem Acl[Dr]{v:Value}(hm:Sm enc (.vec r) H v l)(hk:MM P kt enc)(ht:P.underlying t=some (.map kt et))(hz:Mz P et (.slice none 0 0))(hx:ev L x=some v)(hy:ev L y=some (enc k))(hs:Le H (hp w)):
  ∃ u,Bv P L w (.lookup t x y false) ty u∧AI r H u (Go.L.HP [] k l):=by
 obtain⟨b,vs,rfl,h2,h3,d⟩:=hm;refine⟨Vn (.slice none 0 0) k (l.map Prod.fst) vs,fun w' hx' ρ hρ dst pos af g=>?_,?_⟩
 ·have:=Ru (k:=k) (l:=l.map Prod.fst) (vs:=vs) hk ht hz (hx'.le _ _ (hs _ _ h2)) (by simp [h3]);simp [execOp,hρ x _ hx,hρ y _ hy,this]
 ·unfold Vn
  cases hmi:mI k (l.map Prod.fst) with
  | none=>rw [QL [] hmi];exact AI.nil r H
  | some m=>
   obtain⟨u,a,c⟩:=d m _ (QM [] hmi);simp only [List.cons.injEq,and_true] at a
   show AI r H (vs.getD m default) _
   rw [a];exact c
end
theorem U2(a b:List UInt8):((⟨a.toArray⟩:ByteArray)==⟨b.toArray⟩)=decide (a=b):=by
 have:((⟨a.toArray⟩:ByteArray)==⟨b.toArray⟩)=(a.toArray==b.toArray):=rfl;rw [this,Bool.eq_iff_iff];simp
def encS(s:List UInt8):Value:=.string ⟨s.toArray⟩
theorem WO{P:Program}{kt:TypeId}(hd:P.underlying kt=some .string):MM P kt encS:=
 ⟨fun b k w=>by
   obtain⟨d,he⟩:∃ d,10000=d+1:=⟨9999,rfl⟩;rw [he];simp [Instr.checkKey,encS,run_underlying hd],
  fun k=>by simp [Instr.sameBits,encS,U2],
  ⟨_,hd,.inl fun a b=>by simp only [Instr.sameNow,encS,U2]⟩⟩
section
variable {P:Program} {n:Sz} {ops:Array Oper} {Q:Exit→Act→World→Prop} {L:Env} {w:World} {rest:List Oper} {d:Nat} {ty t kt et:TypeId} {pos:String} {af:Array Edge} {x y:Operand}
 {κ α:Type} [DecidableEq κ] {enc:κ→Value} {r:Rp α} {l:List (κ×List α)} {k:κ} {H:PH} {v:Value}
theorem We[Dr](hx:ev L x=some v)(hy:ev L y=some (enc k))(ht:P.underlying t=some (.map kt et))(hk:MM P kt enc)(hz:Mz P et (.slice none 0 0))(hm:Sm enc (.vec r) H v l)(hs:Le H (hp w))(hn:Nat.blt d n.n=true)
  (h:∀ u,AI r H u (Go.L.HP [] k l)→S P n ops Q rest ((d,u)::L) w):S P n ops Q (⟨some d,.lookup t x y false,ty,pos,af,none⟩::rest) L w:=by
 obtain⟨u,a,h2⟩:=Acl (ty:=ty) hm hk ht hz hx hy hs;exact Ae a hn (h u h2)
end
abbrev WQ(h:Int×Int):List Value:=[.int .i64 h.1,.int .i64 h.2]
theorem Yg:∀ (G:PH) (x:Int×Int) (c:List Value),(Rp.pair (.int .i64) (.int .i64)).rel G x c↔c=WQ x:=
 fun _ _ _=>⟨fun⟨_,_,h,a,h2⟩=>by subst a;subst h2;exact h,fun h=>⟨_,_,h,rfl,rfl⟩⟩
abbrev cwI(h:Int):List Value:=[.int .i64 h]
theorem AaU:∀ (G:PH) (x:Int) (c:List Value),(Rp.int .i64).rel G x c↔c=cwI x:=fun _ _ _=>Iff.rfl
end Go.E
namespace Go.E
open Go Go.RowKit
def Rw(ops:Array Oper)(j:Nat):Bool:=match ops[j]? with
 | some oj=>(List.range ops.size).all fun k=>k==j||oj.after.any fun e=>Region.binds .any e&&e.on==k
 | none=>false
theorem WT{ops:Array Oper}{i j:Nat}{oj:Oper}(hj:ops[j]? = some oj)(hi:i<ops.size)(hne:i≠j)(hnot:∀ e∈oj.after,Region.binds .any e=true→e.on≠i):Rw ops j=false:=by
 unfold Rw;rw [hj];simp only
 cases h:(List.range ops.size).all (fun k=>k==j||oj.after.any fun e=>Region.binds .any e&&e.on==k) with
 | false=>rfl
 | true=>
  have a:=List.all_eq_true.1 h i (List.mem_range.2 hi);simp only [Bool.or_eq_true,beq_iff_eq,hne,false_or] at a;obtain⟨e,he,hb⟩:=Array.any_eq_true'.1 a;simp only [Bool.and_eq_true,beq_iff_eq] at hb;exact absurd hb.2 (hnot e he hb.1)
def Zw(ops:Array Oper)(j k:Nat):Bool:=match ops[j]? with
 | some oj=>oj.after.any fun e=>Region.binds .any e&&e.on==k
 | none=>false
def Wf(ops:Array Oper)(j:Nat):List Nat→Bool
 | []=>true
 | x::r=>(Zw ops j x||r.any fun y=>Zw ops y x)&&Wf ops j r
def SF(ops:Array Oper)(j:Nat)(c:List Nat):Bool:=Wf ops j c&&(List.range ops.size).all fun k=>k==j||c.contains k||Zw ops k j
def ClP(ops:Array Oper)(listed:Array Bool):Prop:=∀ k x,Zw ops k x=true→listed.getD k true=true→listed.getD x true=true
def ClB(ops:Array Oper)(listed:Array Bool):Bool:=Nat.ble listed.size ops.size&&(List.range ops.size).all fun k=>!(listed.getD k true)||(List.range ops.size).all fun x=>!(Zw ops k x)||listed.getD x true
theorem Yh{ops:Array Oper}{listed:Array Bool}(h:ClB ops listed=true):ClP ops listed:=fun k x hd hk=>by
 simp only [ClB,Bool.and_eq_true,List.all_eq_true,List.mem_range,Bool.or_eq_true,Bool.not_eq_true'] at h
 have hk':k<ops.size:=by
  rcases Nat.lt_or_ge k ops.size with a | a
  ·exact a
  ·simp [Zw,Array.getElem?_eq_none a] at hd
 rcases Nat.lt_or_ge x ops.size with hx | hx
 ·rcases h.2 k hk' with a | a
  ·rw [a] at hk;cases hk
  ·rcases a x hx with h2 | h2
   ·rw [h2] at hd;cases hd
   ·exact h2
 ·have:=Nat.le_of_ble_eq_true h.1;rw [Array.getD_eq_getD_getElem?,Array.getElem?_eq_none (by omega)];rfl
theorem Wg{l:Array Bool}{k:Nat}(h:l.getD k false=true):l.getD k true=true:=by
 rw [Array.getD_eq_getD_getElem?] at *
 cases hq:l[k]? with
 | none=>rfl
 | some b=>rw [hq] at h;exact h
theorem Ql{ops:Array Oper}{listed:Array Bool}{j:Nat}(hc:ClP ops listed)(hj:∀ x,Zw ops j x=true→listed.getD x true=true):∀ (c:List Nat),Wf ops j c=true→∀ x∈c,listed.getD x true=true
 | [],_,x,hx=>by cases hx
 | y::r,h,x,hx=>by
  simp only [Wf,Bool.and_eq_true,Bool.or_eq_true,List.any_eq_true] at h;have ih:=Ql hc hj r h.2
  rcases List.mem_cons.1 hx with rfl | hx
  ·rcases h.1 with a | ⟨z,hz,a⟩
   ·exact hj _ a
   ·exact hc z _ a (ih z hz)
  ·exact ih x hx
section
variable (Inv:World→Prop) (P:Program) (ops:Array Oper) (Q:Exit→Act→World→Prop)
def LI:Nat→Array Bool→Act→World→Prop
 | 0,listed,a,w=>Region.ready .any ops listed=[]∧Q .normal a w
 | m+1,listed,a,w=>(Region.ready .any ops listed=[]→Q .normal a w)∧
  ∀ i∈Region.ready .any ops listed,wpOp P ops Q i (fun a' w'=>(Rw ops i=true∨(∃ c,SF ops i c=true)∨Inv w')∧LI m (listed.setIfInBounds i true) a' w') a w
def Jv(o:Oper)(v:Value)(a:Act):Prop:=
 (Region.wanted o (yielded ops a.tmps)=true∧∀ w,Inv w→(execOp a.eval o).run P w=.ok (.value v) w)∨
 (Region.wanted o (yielded ops a.tmps)=false∧v=undef)
end
section
variable {Inv:World→Prop} {P:Program} {ops:Array Oper} {Q:Exit→Act→World→Prop}
theorem Rx:∀ (m:Nat) (listed:Array Bool) (a:Act) (w:World),LI Inv P ops Q m listed a w→wpAny P .any ops Q m listed a w
 | 0,_,_,_,h=>h
 | m+1,_listed,_a,_w,h=>⟨h.1,fun i hi=>wpOp_mono (fun _a' _w' k=>Rx m _ _ _ k.2) (h.2 i hi)⟩
theorem Jv.same{o:Oper}{v:Value}{a a':Act}(hy:Jv Inv P ops o v a)(he:execOp a'.eval o=execOp a.eval o)(hw:Region.wanted o (yielded ops a'.tmps)=Region.wanted o (yielded ops a.tmps)):Jv Inv P ops o v a':=by
 unfold Jv at *;rw [he,hw];exact hy
theorem Jv.op{i:Nat}{o:Oper}{v:Value}{a:Act}{w:World}(hi:ops[i]? = some o)(hy:Jv Inv P ops o v a)(hw:Inv w){K:Act→World→Prop}(h:K (a.put o.dst v) w):wpOp P ops Q i K a w:=by
 unfold wpOp;simp only [hi]
 rcases hy with ⟨b,hv⟩ | ⟨b,rfl⟩
 ·simp only [b,if_true,Oper.wp,hv w hw,Oper.upon];exact .inl h
 ·simp only [b,Bool.false_eq_true,if_false];exact h
theorem ZO{j:Nat}{oi oj:Oper}{v:Value}(hj:ops[j]? = some oj)(hap:oi.apart ops oj=true)(hsi:∀ cs b,oi.op≠.select cs b)(hsj:∀ cs b,oj.op≠.select cs b)
  (hQ:∀ c a w,Q (.panic c) (a.put oi.dst v) w→Q (.panic c) a w) {K:Act→World→Prop} {a:Act} {w:World} (hy:Jv Inv P ops oi v a) (h:wpOp P ops Q j K (a.put oi.dst v) w) :
  wpOp P ops Q j (fun a' w'=>Jv Inv P ops oi v a'∧K (a'.put oi.dst v) w') a w:=by
 obtain⟨g,h2,h3⟩:=Oper.apart_spec hap;have keep:∀ a,Jv Inv P ops oi v a→∀ u,Jv Inv P ops oi v (a.put oj.dst u):=fun a hy u=>hy.same (execOp_put oi hsi a oj.dst u h3) (wanted_put oi a oj.dst u h3);unfold wpOp at *;simp only [hj] at *;rw [wanted_put oj a oi.dst v g] at h
 split
 ·rename_i hw;simp only [hw,if_true] at h
  rcases h with h | ⟨ha,hl⟩
  case inr=>exact .inr ⟨by unfold Oper.asks at *;rw [execOp_put oj hsj a oi.dst v g] at ha;exact ha,hl⟩
  refine .inl ?_;unfold Oper.wp at *;rw [execOp_put oj hsj a oi.dst v g] at h;generalize (execOp a.eval oj).run P w=r at *
  cases r with
  | ok x w'=>
   cases x <;> simp only [Oper.upon] at h ⊢
   case value u=>exact⟨keep a hy u,by rw [← Act.put_comm a v u h2];exact h⟩
   case skip=>exact⟨keep a hy _,by rw [← Act.put_comm a v undef h2];exact h⟩
   case defer d=>
    refine⟨keep {a with defers:=d::a.defers} (hy.same rfl rfl) _,?_⟩;rw [← Act.put_comm _ v undef h2,← Act.put_defers];exact h
   case enter f args=>
    refine h.mono fun e w'' he=>?_
    cases e with
    | returned u=>exact⟨keep a hy u,by rw [← Act.put_comm a v u h2];exact he⟩
    | panicked c=>exact hQ _ _ _ he
    | outgrown=>exact he
   case row row args=>exact Rows.mono h fun u w'' he=>⟨keep a hy u,by rw [← Act.put_comm a v u h2];exact he⟩
  | halt x w'=>
   cases x <;> simp only [Oper.upon] at h ⊢
   case panic u=>exact hQ _ _ _ h
 ·rename_i hw;simp only [hw] at h;exact⟨keep a hy _,by rw [← Act.put_comm a v undef h2];exact h⟩
theorem O8{i:Nat}{oi:Oper}{v:Value}(hi:ops[i]? = some oi)(hsel:∀ (j:Nat) (o:Oper) cs b,ops[j]? = some o→o.op≠.select cs b)(hQ:∀ c a w,Q (.panic c) (a.put oi.dst v) w→Q (.panic c) a w):
  ∀
   (m:Nat) (listed:Array Bool) (a:Act) (w:World),
   (∀ j oj,ops[j]? = some oj→j≠i→listed.getD j true=false→(∀ e∈oj.after,Region.binds .any e=true→e.on≠i)→oi.apart ops oj=true)→
   i∈Region.ready .any ops listed→ClP ops listed→Inv w→Jv Inv P ops oi v a→LI Inv P ops Q m (listed.setIfInBounds i true) (a.put oi.dst v) w→LI Inv P ops Q (m+1) listed a w:=by
 intro m
 induction m with
 | zero=>
  intro listed a w _ hr _ hw hy H;refine⟨fun h=>(by rw [h] at hr;cases hr),fun j hj=>?_⟩
  by_cases hji:j=i
  ·subst hji;exact hy.op hi hw ⟨.inr (.inr hw),H⟩
  ·have:=ready_mono hj hji;rw [H.1] at this
   cases this
 | succ m ih=>
  intro listed a w hfree hr hcl hw hy H;refine⟨fun h=>(by rw [h] at hr;cases hr),fun j hj=>?_⟩
  by_cases hji:j=i
  ·subst hji;exact hy.op hi hw ⟨.inr (.inr hw),H⟩
  ·have d:=H.2 j (ready_mono hj hji);obtain⟨hjun,oj,hoj,hall⟩:=mem_ready.1 hj
   have hnot:∀ e∈oj.after,Region.binds .any e=true→e.on≠i:=fun e he hb heq=>by
    have d:=hall e he hb;have f:=(mem_ready.1 hr).1;rw [heq] at d
    rcases Nat.lt_or_ge i listed.size with h' | h'
    ·simp [h'] at f d;rw [f] at d;cases d
    ·simp [Array.getElem?_eq_none h'] at d
   have h2:=ZO hoj (hfree j oj hoj hji hjun hnot) (fun cs b=>hsel i oi cs b hi) (fun cs b=>hsel j oj cs b hoj) hQ hy d
   have hfree':∀ k ok,ops[k]? = some ok→k≠i→(listed.setIfInBounds j true).getD k true=false→
     (∀ e∈ok.after,Region.binds .any e=true→e.on≠i)→oi.apart ops ok=true:=fun k ok hk hki hun hno=>by
    refine hfree k ok hk hki ?_ hno
    by_cases hjk:j=k
    ·subst hjk;exact hjun
    ·rw [getD_set_ne true hjk] at hun;exact hun
   have hri:i∈Region.ready .any ops (listed.setIfInBounds j true):=ready_mono hr (Ne.symm hji);refine wpOp_mono (fun a' w' ⟨hy',hI,hk⟩=>?_) h2
   have hset:LI Inv P ops Q m ((listed.setIfInBounds j true).setIfInBounds i true) (a'.put oi.dst v) w':=by
    rw [Array.setIfInBounds_comm _ _ hji];exact hk
   have hi':=(Array.getElem?_eq_some_iff.1 hi).1
   have hjd:∀ x,Zw ops j x=true→listed.getD x true=true:=fun x hx=>by
    simp only [Zw,hoj] at hx;obtain⟨e,he,hb⟩:=Array.any_eq_true'.1 hx;simp only [Bool.and_eq_true,beq_iff_eq] at hb;rw [← hb.2];exact Wg (hall e he hb.1)
   have hiun:=(mem_ready.1 hr).1
   have hI':Inv w':=by
    rcases hI.resolve_left (by rw [WT hoj hi' (Ne.symm hji) hnot];simp) with ⟨c,hc⟩ | hI
    ·exfalso
     simp only [SF,Bool.and_eq_true,List.all_eq_true,List.mem_range,Bool.or_eq_true,beq_iff_eq] at hc
     rcases hc.2 i hi' with (h3 | h3) | h3
     ·exact hji h3.symm
     ·have g:=Ql hcl hjd c hc.1 i (by simpa using h3);rw [hiun] at g;cases g
     ·obtain⟨_,oi',hoi',hall'⟩:=mem_ready.1 hr;simp only [Zw,hoi'] at h3;obtain⟨e,he,hb⟩:=Array.any_eq_true'.1 h3;simp only [Bool.and_eq_true,beq_iff_eq] at hb;have l:=Wg (hall' e he hb.1);rw [hb.2,hjun] at l;cases l
    ·exact hI
   have hcl':ClP ops (listed.setIfInBounds j true):=fun k x hd hk=>by
    by_cases hxj:x=j
    ·subst hxj;rw [Array.getD_eq_getD_getElem?,Array.getElem?_setIfInBounds]
     by_cases hs:x<listed.size
     ·simp [hs]
     ·simp [Array.getElem?_eq_none (Nat.le_of_not_lt hs),hs]
    ·rw [getD_set_ne true (Ne.symm hxj)]
     by_cases hkj:k=j
     ·subst hkj;exact hjd x hd
     ·rw [getD_set_ne true (Ne.symm hkj)] at hk;exact hcl k x hd hk
   exact⟨.inr (.inr hI'),ih _ a' w' hfree' hri hcl' hI' hy' hset⟩
end
def Yi(Inv:World→Prop)(P:Program)(l:List Oper)(Q:Exit→Act→World→Prop)(fuel i:Nat)(listed:Array Bool):Exit→Act→World→Prop:=Exit.then (fun a w=>(Rw l.toArray i=true∨(∃ c,SF l.toArray i c=true)∨Inv w)∧LI Inv P l.toArray Q fuel listed a w) Q
def Nw(Inv:World→Prop)(P:Program)(n:Sz)(l:List Oper)(Q:Exit→Act→World→Prop)(fuel:Nat)(listed:Array Bool)(L:Env)(w:World):Prop:=∀ a,Fr n a L→LI Inv P l.toArray Q fuel listed a w
section
variable {Inv:World→Prop} {P:Program} {n:Sz} {l:List Oper} {Q:Exit→Act→World→Prop} {L:Env} {w:World} {y:Code} {fuel:Nat} {m:Nat} {done:List Nat}
theorem Yj[Dr]{id:Nat}(Inv:World→World→Prop)(hm:P.follows .mixedOrders=true)(hl:l.length=m)(h:∀ w',Ext w w'→Nw (Inv w') P n l Q m (MK m []) L w'):W P n (.region id l.toArray true) Q L w:=fun a fr=>by
 refine wp_region_any hm ?_;have:=Rx _ _ _ _ (h _ Kj a fr);subst hl
 simpa [MK] using this
theorem SG{i:Nat}{o:Oper}(ho:H8 l i=some o)(h:S P n l.toArray (Yi Inv P l Q fuel i (MK m (i::done))) [o] L w):
  ∀ a,Fr n a L→wpOp P l.toArray Q i (fun a' w'=>(Rw l.toArray i=true∨(∃ c,SF l.toArray i c=true)∨Inv w')∧LI Inv P l.toArray Q fuel ((MK m done).setIfInBounds i true) a' w') a w:=
 fun a fr=>WK ho (h a fr) (fun e a w hne he=>by cases e <;> first | exact absurd rfl hne | exact he)
theorem Ry{rs:List Nat}{listed:Array Bool}{a:Act}(hr:Region.ready .any l.toArray listed=rs)(hne:rs≠[])
  (h:∀ i∈rs,wpOp P l.toArray Q i (fun a' w'=>(Rw l.toArray i=true∨(∃ c,SF l.toArray i c=true)∨Inv w')∧LI Inv P l.toArray Q fuel (listed.setIfInBounds i true) a' w') a w):LI Inv P l.toArray Q (fuel+1) listed a w:=
 ⟨fun e=>by rw [hr] at e;exact absurd e hne,fun i hi=>h i (by rw [← hr];exact hi)⟩
theorem Ep{i:Nat}{o:Oper}(hr:Region.ready .any l.toArray (MK m done)=[i])(ho:H8 l i=some o)(h:S P n l.toArray (Yi Inv P l Q fuel i (MK m (i::done))) [o] L w):Nw Inv P n l Q (fuel+1) (MK m done) L w:=
 fun a fr=>Ry hr (by simp) fun k hk=>by
  obtain rfl:k=i:=by simpa using hk
  exact SG ho h a fr
theorem Yk{i j:Nat}{o p:Oper}(hr:Region.ready .any l.toArray (MK m done)=[i,j])(ho:H8 l i=some o)(hp:H8 l j=some p)(h:S P n l.toArray (Yi Inv P l Q fuel i (MK m (i::done))) [o] L w)(h':S P n l.toArray (Yi Inv P l Q fuel j (MK m (j::done))) [p] L w):Nw Inv P n l Q (fuel+1) (MK m done) L w:=
 fun a fr=>Ry hr (by simp) fun k hk=>by
  have hk':k=i∨k=j:=by simpa using hk
  rcases hk' with rfl | rfl
  ·exact SG ho h a fr
  ·exact SG hp h' a fr
theorem NI3{i j s:Nat}{o p q:Oper}(hr:Region.ready .any l.toArray (MK m done)=[i,j,s])(ho:H8 l i=some o)(hp:H8 l j=some p)(hq:H8 l s=some q)(h:S P n l.toArray (Yi Inv P l Q fuel i (MK m (i::done))) [o] L w)(h':S P n l.toArray (Yi Inv P l Q fuel j (MK m (j::done))) [p] L w)(h'':S P n l.toArray (Yi Inv P l Q fuel s (MK m (s::done))) [q] L w):Nw Inv P n l Q (fuel+1) (MK m done) L w:=
 fun a fr=>Ry hr (by simp) fun k hk=>by
  have hk':k=i∨k=j∨k=s:=by simpa using hk
  rcases hk' with rfl | rfl | rfl
  ·exact SG ho h a fr
  ·exact SG hp h' a fr
  ·exact SG hq h'' a fr
theorem Aby{i:Nat}(hI:Inv w)(h:Nw Inv P n l Q fuel (MK m done) L w):S P n l.toArray (Yi Inv P l Q fuel i (MK m done)) [] L w:=fun a fr=>⟨.inr (.inr hI),h a fr⟩
theorem EX{i:Nat}(hl:Rw l.toArray i=true)(h:Nw Inv P n l Q fuel (MK m done) L w):S P n l.toArray (Yi Inv P l Q fuel i (MK m done)) [] L w:=fun a fr=>⟨.inl hl,h a fr⟩
theorem C7{i:Nat}(c:List Nat)(hl:SF l.toArray i c=true)(h:Nw Inv P n l Q fuel (MK m done) L w):S P n l.toArray (Yi Inv P l Q fuel i (MK m done)) [] L w:=fun a fr=>⟨.inr (.inl ⟨c,hl⟩),h a fr⟩
theorem DV(hr:Region.ready .any l.toArray (MK m done)=[])(h:At n Q .normal L w):Nw Inv P n l Q 0 (MK m done) L w:=fun a fr=>⟨hr,h a fr⟩
theorem LY{s:Nat}{b:Bool}{listed:Array Bool}(_hb:gt L s=some (.bool b))(a:b=true→Nw Inv P n l Q fuel listed L w)(h2:b=false→Nw Inv P n l Q fuel listed L w):Nw Inv P n l Q fuel listed L w:=by
 cases b
 ·exact h2 rfl
 ·exact a rfl
variable {d:Nat} {op:Op} {ty:TypeId} {pos:String} {af:Array Edge}
theorem AB[Dr](i:Nat){v:Value}(hq:HF Q)(hI:Inv w)(hc:(P7 l m done i&&ClB l.toArray (MK m done))=true)(ho:H8 l i=some ⟨some d,op,ty,pos,af,none⟩)(hr:∀ w,Inv w→Bv P L w op ty v)(hn:Nat.blt d n.n=true)
  (h:Nw Inv P n l Q fuel (MK m (i::done)) ((d,v)::L) w):Nw Inv P n l Q (fuel+1) (MK m done) L w:=fun a fr=>by
 simp only [P7,Bool.and_eq_true] at hc;obtain⟨⟨⟨b,h2⟩,h3⟩,e⟩:=hc;have ho':l.toArray[i]? = some ⟨some d,op,ty,pos,af,none⟩:=by rw [EU] at ho;simpa using ho
 exact O8 (v:=v) ho' (Region.noSelect_spec b) (fun c a w k=>hq c a _ _ w k) _ _ a w (Region.free_spec ho' h2) (by simpa using h3) (Yh e) hI
  (.inl ⟨by simp [Region.wanted],fun w' hw'=>hr w' hw' w' (Ext.refl _) _ fr.Qt _ _ _ _⟩) (h _ (fr.put hn))
theorem G8[Dr](i:Nat){v:Value}{j s:Nat}{want b:Bool}{oj:Oper}(hq:HF Q)(hI:Inv w)(hc:(P7 l m done i&&ClB l.toArray (MK m done))=true)(ho:H8 l i=some ⟨some d,op,ty,pos,af,some (j,want)⟩)(hj:H8 l j=some oj)(hd:oj.dst=some s)(hb:gt L s=some (.bool b))(hw:b=want)(hr:∀ w,Inv w→Bv P L w op ty v)(hn:Nat.blt d n.n=true)
  (h:Nw Inv P n l Q fuel (MK m (i::done)) ((d,v)::L) w):Nw Inv P n l Q (fuel+1) (MK m done) L w:=fun a fr=>by
 simp only [P7,Bool.and_eq_true] at hc;obtain⟨⟨⟨f,h2⟩,h3⟩,g⟩:=hc;have ho':l.toArray[i]? = some ⟨some d,op,ty,pos,af,some (j,want)⟩:=by rw [EU] at ho;simpa using ho
 have hj':l.toArray[j]? = some oj:=by rw [EU] at hj;simpa using hj
 have hy:yielded l.toArray a.tmps j=some b:=by simp only [yielded,hj',Option.bind_some,hd,fr.get s _ hb]
 refine O8 (v:=v) ho' (Region.noSelect_spec f) (fun c a w k=>hq c a _ _ w k) _ _ a w (Region.free_spec ho' h2) (by simpa using h3) (Yh g) hI
  (.inl ⟨by simp [Region.wanted,hy,hw],fun w' hw'=>?_⟩) (h _ (fr.put hn))
 have e:execOp a.eval ⟨some d,op,ty,pos,af,some (j,want)⟩=execOp a.eval ⟨some d,op,ty,pos,af,none⟩:=rfl;rw [e];exact hr w' hw' w' (Ext.refl _) _ fr.Qt _ _ _ _
theorem Cg(i:Nat){j s:Nat}{want b:Bool}{oj:Oper}(hq:HF Q)(hI:Inv w)(hc:(P7 l m done i&&ClB l.toArray (MK m done))=true)(ho:H8 l i=some ⟨some d,op,ty,pos,af,some (j,want)⟩)(hj:H8 l j=some oj)(hd:oj.dst=some s)(hb:gt L s=some (.bool b))(hw:b = !want)(hn:Nat.blt d n.n=true)
  (h:Nw Inv P n l Q fuel (MK m (i::done)) ((d,undef)::L) w):Nw Inv P n l Q (fuel+1) (MK m done) L w:=fun a fr=>by
 simp only [P7,Bool.and_eq_true] at hc;obtain⟨⟨⟨e,h2⟩,h3⟩,f⟩:=hc;have ho':l.toArray[i]? = some ⟨some d,op,ty,pos,af,some (j,want)⟩:=by rw [EU] at ho;simpa using ho
 have hj':l.toArray[j]? = some oj:=by rw [EU] at hj;simpa using hj
 have hy:yielded l.toArray a.tmps j=some b:=by simp only [yielded,hj',Option.bind_some,hd,fr.get s _ hb]
 exact O8 (v:=undef) ho' (Region.noSelect_spec e) (fun c a w k=>hq c a _ _ w k) _ _ a w (Region.free_spec ho' h2) (by simpa using h3) (Yh f) hI
  (.inr ⟨by simp [Region.wanted,hy,hw],rfl⟩) (h _ (fr.put hn))
theorem Vr{w:World}{b:Nat}{cs:List Value}{t:TypeId}(h:w.heap[b]? = some (.cells cs.toArray t (0,0))):GS (hp w) ⟨b,0,none⟩ cs:=
 ⟨rfl,fun j u hu=>by
  show Gu (hp w) (Addr.add ⟨b,0,none⟩ j)=some u
  simp only [Addr.add_lit,Gu,hp,h]
  simpa using hu⟩
theorem ID[Dr]{b off:Nat}{cs:List Value}{t t':TypeId}{x:Operand}{u:Value}{dd:TypeDesc}(hx:ev L x=some (.pointer (some ⟨b,off,none⟩)))(ht:P.underlying t=some dd)(hd:Tk dd=true)(h:w.heap[b]? = some (.cells cs.toArray t' (0,0)))(hu:nth cs off=some u):Bv P L w (.load t x) ty u:=by
 have a:=(Vr h).add off;obtain⟨c,hc⟩:=Re cs off u hu;rw [hc] at a;simp only [Addr.add_lit,Nat.zero_add] at a;exact Be hx ht hd a (Le.refl _)
theorem LZ[Dr]{b:Nat}{cs:List Value}{t t':TypeId}{x:Operand}{dd:TypeDesc}{zz:Value}{bt:Nat}(hx:ev L x=some (.pointer (some ⟨b,0,none⟩)))(ht:P.underlying t=some dd)(hd:Ur dd=true)(hz:Zr P t zz cs.length bt)(h:w.heap[b]? = some (.cells cs.toArray t' (0,0))):Bv P L w (.load t x) ty (.agg cs.toArray):=
 C1 hx ht hd hz (Vr h) (Le.refl _)
theorem ZP[Dr]{κ:Type}[DecidableEq κ]{enc:κ→Value}{l:List κ}{vs:List Value}{k:κ}{b m:Nat}{t kt et:TypeId}{x y:Operand}{z:Value}(hx:ev L x=some (.map (some b)))(hy:ev L y=some (enc k))(ht:P.underlying t=some (.map kt et))(hk:MM P kt enc)(hz:Mz P et z)
  (h:w.heap[b]? = some (.map (mE enc 0 l vs).toArray m)) (hl:l.length=vs.length):Bv P L w (.lookup t x y false) ty (Vn z k l vs):=fun w' hx' ρ hρ dst pos af g=>by
 have hb:=hx'.le b _ h;have:=Ru (k:=k) hk ht hz hb hl;simp [execOp,hρ x _ hx,hρ y _ hy,this]
end
end Go.E
namespace Go.E
open Go Go.RowKit
section
variable {P:Program} {L:Env} {w w0:World} {O:List BG} {x y:Operand} {ty t t' e src dst u T:TypeId} {b:Nat} {cs:List Value}
end
def BAd(b:Nat)(v:Value):Prop:=v=.pointer none∨v=.pointer (some ⟨b,0,none⟩)
theorem BAd.one{b:Nat}{v:Value}(h:BAd b v):v.oneCell'=true:=by rcases h with rfl | rfl <;> rfl
section
variable {P:Program} {n:Sz} {ops:Array Oper} {Q:Exit→Act→World→Prop} {L:Env} {w w0:World} {O:List BG} {rest:List Oper} {d:Nat} {ty pt it e:TypeId} {pos:String} {af:Array Edge} {x y:Operand} {H:PH}
end
end Go.E
end
noncomputable section
namespace Go.L
inductive Pv where
 | mk (kind number:Int) (bytes:List UInt8) (names:List (List UInt8)) (parts:List Pv)
instance:Inhabited Pv:=⟨.mk 0 0 [] [] []⟩
abbrev PvF:Type:=Int×Int×List UInt8×List (List UInt8)×List Pv
def Pv.f:Pv→PvF
 | .mk k n b ns ps=>(k,n,b,ns,ps)
end Go.L
namespace Go.E
open Go Go.L
variable {α β:Type}
def Rp.via(r:Rp β)(f:α→β):Rp α:=⟨r.sz,fun H x c=>r.rel H (f x) c,fun h=>r.len h,fun hs h=>r.mono hs h,fun h=>r.one h⟩
def Rp.no(α:Type)(n:Nat):Rp α:=⟨n,fun _ _ _=>False,fun h=>h.elim,fun _ h=>h,fun h=>h.elim⟩
theorem AI.Yl{r s:Rp α}{H:PH}{v:Value}{l:List α}(hz:r.sz=s.sz)(h:AI r H v l)(hrel:∀ x∈l,∀ c,r.rel H x c→s.rel H x c):AI s H v l:=by
 obtain⟨a,cap,b,h2,h3,d,e⟩:=h.ex;refine⟨a,cap,b,h2,h3,d,fun A hA hl=>?_⟩;obtain⟨f,g⟩:=e A hA hl;refine⟨f,fun i x hx=>?_⟩;obtain⟨c,hc,hcell⟩:=g i x hx;exact⟨c,hrel x (List.mem_of_getElem? hx) c hc,fun j u hu=>by rw [← hz];exact hcell j u hu⟩
def Rp.fields(r:Rp Pv):Rp PvF:=.pair (.int .i64) (.pair (.int .i64) (.pair (.vec .byte) (.pair (.vec .st) (.vec r))))
def Rp.KQ:Nat→Rp Pv
 | 0=>.no Pv 5
 | d+1=>(Rp.fields (Rp.KQ d)).via Pv.f
theorem Rp.Nt:∀ d,(Rp.KQ d).sz=5
 | 0=>rfl
 | _+1=>rfl
theorem Rp.SH{r s:Rp Pv}{H:PH}{x:PvF}{c:List Value}(hz:r.sz=s.sz)(hrel:∀ y∈x.2.2.2.2,∀ c,r.rel H y c→s.rel H y c)(h:(Rp.fields r).rel H x c):(Rp.fields s).rel H x c:=by
 obtain⟨c1,c2,a,b,c3,c4,d,h2,c5,c6,e,h3,c7,c8,f,g,v,i,j⟩:=h;exact⟨c1,c2,a,b,c3,c4,d,h2,c5,c6,e,h3,c7,c8,f,g,v,i,j.Yl hz hrel⟩
theorem Rp.Rz{H:PH}:∀ (d:Nat) (x:Pv) (c:List Value),(Rp.KQ d).rel H x c→(Rp.KQ (d+1)).rel H x c
 | 0,_,_,h=>h.elim
 | d+1,x,c,h=>Rp.SH (r:=Rp.KQ d) (s:=Rp.KQ (d+1)) (by rw [Rp.Nt,Rp.Nt]) (fun y _ c h=>Rp.Rz d y c h) h
theorem Rp.U3{H:PH}{d e:Nat}(h:d≤e){x:Pv}{c:List Value}(hx:(Rp.KQ d).rel H x c):(Rp.KQ e).rel H x c:=by
 induction h with
 | refl=>exact hx
 | step _ ih=>exact Rp.Rz _ _ _ ih
def Rp.tree:Rp Pv:=⟨5,fun H x c=>∃ d,(Rp.KQ d).rel H x c,fun h=>by obtain⟨d,h⟩:=h;rw [(Rp.KQ d).len h,Rp.Nt],fun hs h=>by obtain⟨d,h⟩:=h;exact⟨d,(Rp.KQ d).mono hs h⟩,fun h=>by obtain⟨d,h⟩:=h;exact(Rp.KQ d).one h⟩
theorem Rp.NS{H:PH}{x:Pv}{c:List Value}(h:Rp.tree.rel H x c):(Rp.fields Rp.tree).rel H x.f c:=by
 obtain⟨d,h⟩:=h
 cases d with
 | zero=>exact h.elim
 | succ d=>exact Rp.SH (r:=Rp.KQ d) (s:=Rp.tree) (Rp.Nt d) (fun y _ c h=>⟨d,h⟩) h
theorem AI.bound{H:PH}{v:Value}{l:List Pv}(h:AI Rp.tree H v l):∃ d,AI (Rp.KQ d) H v l:=by
 obtain⟨a,cap,b,h2,h3,f,g⟩:=h.ex
 cases a with
 | none=>exact⟨0,none,cap,b,h2,h3,f,fun A hA=>by cases hA⟩
 | some A=>
  have key:∀ n,∃ d,∀ i x,i<n→l≠[]→l[i]? = some x→∃ c,(Rp.KQ d).rel H x c∧∀ j u,c[j]? = some u→Gu H (A.add (i * 5+j))=some u:=by
   intro n
   induction n with
   | zero=>exact⟨0,fun i x hi=>absurd hi (Nat.not_lt_zero i)⟩
   | succ n ih=>
    obtain⟨d,hd⟩:=ih
    by_cases hl:l=[]
    ·exact⟨0,fun i x _ hn=>absurd hl hn⟩
    cases hx:l[n]? with
    | none=>
     refine⟨d,fun i x hi hn he=>?_⟩
     rcases Nat.lt_succ_iff_lt_or_eq.1 hi with hi | rfl
     ·exact hd i x hi hn he
     ·rw [hx] at he
      cases he
    | some y=>
     obtain⟨c,⟨e,hc⟩,hcell⟩:=(g A rfl hl).2 n y hx;refine⟨max d e,fun i x hi hn he=>?_⟩
     rcases Nat.lt_succ_iff_lt_or_eq.1 hi with hi | rfl
     ·obtain⟨c',k,m⟩:=hd i x hi hn he;exact⟨c',Rp.U3 (Nat.le_max_left ..) k,m⟩
     ·rw [hx] at he
      cases he
      exact⟨c,Rp.U3 (Nat.le_max_right ..) hc,hcell⟩
  obtain⟨d,hd⟩:=key l.length;refine⟨d,some A,cap,b,h2,h3,f,fun B hB hl=>?_⟩
  cases hB
  refine⟨(g A rfl hl).1,fun i x hx=>?_⟩;rw [Rp.Nt];exact hd i x (List.getElem?_eq_some_iff.1 hx).1 hl hx
theorem Rp.DF{H:PH}{x:Pv}{c:List Value}(h:(Rp.fields Rp.tree).rel H x.f c):Rp.tree.rel H x c:=by
 obtain⟨c1,c2,a,b,c3,c4,e,h2,c5,c6,g,h3,c7,c8,i,j,v,k,l⟩:=h;obtain⟨d,hd⟩:=l.bound;exact⟨d+1,c1,c2,a,b,c3,c4,e,h2,c5,c6,g,h3,c7,c8,i,j,v,k,hd⟩
end Go.E
namespace Go.E
open Go Go.RowKit
def Ji(h:List UInt8×Int×Int×List UInt8):Value:=.agg #[.string ⟨h.1.toArray⟩,.int .i64 h.2.1,.int .i64 h.2.2.1,.string ⟨h.2.2.2.toArray⟩]
theorem Ym{P:Program}{kt:TypeId}{fs:Array Field}(hd:P.underlying kt=some (.struct fs))(hc:∀ (b:Bool) (s m:List UInt8) (x y:Int) w,(Instr.checkKey b 10000 kt (.agg #[.string ⟨s.toArray⟩,.int .i64 x,.int .i64 y,.string ⟨m.toArray⟩])).run P w=.ok () w)
  (he:∀ (s s' m m':List UInt8) (x x' y y':Int) w,(Op.equalIn 10000 kt (.agg #[.string ⟨s.toArray⟩,.int .i64 x,.int .i64 y,.string ⟨m.toArray⟩]) (.agg #[.string ⟨s'.toArray⟩,.int .i64 x',.int .i64 y',.string ⟨m'.toArray⟩])).run P w=.ok (decide (s=s'∧x=x'∧y=y'∧m=m')) w):MM P kt Ji:=
 ⟨fun b k w=>hc b k.1 k.2.2.2 k.2.1 k.2.2.1 w,
  fun k=>by
   obtain⟨d,he⟩:∃ d,10000=d+1:=⟨9999,rfl⟩;rw [he]
   cases d <;> simp [Instr.sameBits,Ji,U2],
  ⟨_,hd,.inr ⟨fun a b=>rfl,fun a b w=>by
   obtain⟨a1,a2,a3,a4⟩:=a;obtain⟨c,e,f,g⟩:=b;have:=he a1 c a4 g a2 e a3 f w;unfold Op.equal;rw [show Op.maxDepth=10000 from rfl];simp only [Ji];rw [this]
   congr 1
   rw [Bool.eq_iff_iff];simp⟩⟩⟩
section
variable {P:Program} {L:Env} {w:World} {t t' ty:TypeId} {x y:Operand}
theorem T3{v:Nat}(h:v<2 ^ 64):IntKind.u64.wrap (v:Int)=(v:Int):=by
 simp only [IntKind.wrap];simp [IntKind.bits,IntKind.signed] <;> omega
theorem Abz[Dr]{op:BinOp}{c:Nat}{p q:Int}(hx:ev L x=some (.int .u64 p))(hy:ev L y=some (.int .u64 q))(ho:XK op p.toNat q.toNat=some c)(h:(0≤p∧p<2 ^ 64)∧(0≤q∧q<2 ^ 64)):Bv P L w (.binOp op t x y t') ty (.int .u64 (c:Int)):=by
 intro w' _ ρ hρ dst pos af g;obtain⟨a,rfl⟩:=Int.eq_ofNat_of_zero_le h.1.1;obtain⟨b,rfl⟩:=Int.eq_ofNat_of_zero_le h.2.1;rw [Int.toNat_natCast,Int.toNat_natCast] at ho;have ha:a<2 ^ 64:=by omega
 have hb:b<2 ^ 64:=by omega
 have ea:(BitVec.ofInt 64 (a:Int)).toNat=a:=by simp;omega
 have eb:(BitVec.ofInt 64 (b:Int)).toNat=b:=by simp;omega
 cases op <;> simp only [XK,Option.some.injEq,reduceCtorEq] at ho <;> subst ho
 ·have e:(Op.intBits .and .u64 (a:Int) (b:Int)).run P w'=.ok (.int .u64 ((a &&& b:Nat):Int)) w':=by
   show Result.ok (Value.int .u64 (IntKind.u64.wrap ((BitVec.ofInt 64 (a:Int) &&& BitVec.ofInt 64 (b:Int)).toNat:Int))) w'=_
   rw [BitVec.toNat_and,ea,eb,T3 (Nat.and_lt_two_pow _ hb)]
  simp only [execOp,hρ x _ hx,hρ y _ hy,eqGuard,binOp,Sem.run_bind,ne_eq,not_true_eq_false,if_false,Bool.not_false,if_true,Sem.run_pure,Result.andThen_ok,e]
 ·have e:(Op.intBits .or .u64 (a:Int) (b:Int)).run P w'=.ok (.int .u64 ((a ||| b:Nat):Int)) w':=by
   show Result.ok (Value.int .u64 (IntKind.u64.wrap ((BitVec.ofInt 64 (a:Int) ||| BitVec.ofInt 64 (b:Int)).toNat:Int))) w'=_
   rw [BitVec.toNat_or,ea,eb,T3 (Nat.or_lt_two_pow ha hb)]
  simp only [execOp,hρ x _ hx,hρ y _ hy,eqGuard,binOp,Sem.run_bind,ne_eq,not_true_eq_false,if_false,Bool.not_false,if_true,Sem.run_pure,Result.andThen_ok,e]
 ·have e:(Op.intBits .xor .u64 (a:Int) (b:Int)).run P w'=.ok (.int .u64 ((a ^^^ b:Nat):Int)) w':=by
   show Result.ok (Value.int .u64 (IntKind.u64.wrap ((BitVec.ofInt 64 (a:Int) ^^^ BitVec.ofInt 64 (b:Int)).toNat:Int))) w'=_
   rw [BitVec.toNat_xor,ea,eb,T3 (Nat.xor_lt_two_pow ha hb)]
  simp only [execOp,hρ x _ hx,hρ y _ hy,eqGuard,binOp,Sem.run_bind,ne_eq,not_true_eq_false,if_false,Bool.not_false,if_true,Sem.run_pure,Result.andThen_ok,e]
end
end Go.E
end
noncomputable section
namespace Go.E
open Go Go.RowKit
section
variable {P:Program} {L:Env} {w:World} {t ty:TypeId} {x a b:Operand} {l:List UInt8} {k k':IntKind} {i j:Int}
theorem Mx(l:List UInt8)(a b:Nat):(⟨l.toArray⟩:ByteArray).extract a b=⟨((l.drop a).take (b - a)).toArray⟩:=by
 apply ByteArray.ext;rw [ByteArray.data_extract];simp [List.extract_eq_take_drop]
theorem Yn[Dr]{lo hi:Option Operand}(hx:ev L x=some (.string ⟨l.toArray⟩))(ht:P.underlying t=some .string)(a b:Nat)(ha:loB L lo a)(hb:hiB L hi b l.length)(d:a≤b)(h2:b≤l.length):
  Bv P L w (.slice t x lo hi none) ty (.string ⟨((l.drop a).take (b - a)).toArray⟩):=by
 intro w' _ ρ hρ dst pos af g;have hs:(ByteArray.mk l.toArray).size=l.length:=by simp [ByteArray.size]
 have i:(a:Int)≤(b:Int):=by omega
 have j:(b:Int)≤(l.length:Int):=by omega
 have k:(a:Int)≤(l.length:Int):=by omega
 cases lo with
 | none=>
  simp only [loB] at ha;subst ha
  cases hi with
  | none=>
   simp only [hiB] at hb;subst hb;simp [execOp,hρ x _ hx,Instr.sliceAt,run_underlying ht,Instr.slice,Instr.sliceBounds,hs,Mx]
  | some c=>
   obtain⟨f,hb⟩:=hb;simp [execOp,hρ x _ hx,hρ c _ hb,Instr.sliceAt,run_underlying ht,Instr.slice,Instr.sliceBounds,Instr.sliceBound,asIntOf,hs,h2,Mx]
 | some e=>
  obtain⟨m,ha⟩:=ha
  cases hi with
  | none=>
   simp only [hiB] at hb;subst hb;simp [execOp,hρ x _ hx,hρ e _ ha,Instr.sliceAt,run_underlying ht,Instr.slice,Instr.sliceBounds,Instr.sliceBound,asIntOf,hs,d,Mx]
  | some c=>
   obtain⟨f,hb⟩:=hb;simp [execOp,hρ x _ hx,hρ e _ ha,hρ c _ hb,Instr.sliceAt,run_underlying ht,Instr.slice,Instr.sliceBounds,Instr.sliceBound,asIntOf,hs,d,h2,Mx]
theorem Yo[Dr](hx:ev L x=some (.string ⟨l.toArray⟩))(ha:ev L a=some (.int k i))(hb:ev L b=some (.int k' j))(ht:P.underlying t=some .string)(hc:0≤i∧i≤j∧j≤(l.length:Int)):
  Bv P L w (.slice t x (some a) (some b) none) ty (.string ⟨((l.drop i.toNat).take (j.toNat - i.toNat)).toArray⟩):=
 Yn hx ht i.toNat j.toNat ⟨k,by rw [Int.toNat_of_nonneg (by omega)];exact ha⟩ ⟨k',by rw [Int.toNat_of_nonneg (by omega)];exact hb⟩ (by omega) (by omega)
theorem PE[Dr](hx:ev L x=some (.string ⟨l.toArray⟩))(ha:ev L a=some (.int k i))(ht:P.underlying t=some .string)(hc:0≤i∧i≤(l.length:Int)):
  Bv P L w (.slice t x (some a) none none) ty (.string ⟨(l.drop i.toNat).toArray⟩):=by
 have:=Yn (P:=P) (w:=w) (ty:=ty) hx ht i.toNat l.length (lo:=some a) (hi:=none) ⟨k,by rw [Int.toNat_of_nonneg (by omega)];exact ha⟩ rfl (by omega) (by omega)
 rwa [List.take_of_length_le (by simp)] at this
theorem Vs[Dr](hx:ev L x=some (.string ⟨l.toArray⟩))(hb:ev L b=some (.int k' j))(ht:P.underlying t=some .string)(hc:0≤j∧j≤(l.length:Int)):
  Bv P L w (.slice t x none (some b) none) ty (.string ⟨(l.take j.toNat).toArray⟩):=by
 have:=Yn (P:=P) (w:=w) (ty:=ty) hx ht 0 j.toNat (lo:=none) (hi:=some b) rfl ⟨k',by rw [Int.toNat_of_nonneg (by omega)];exact hb⟩ (by omega) (by omega)
 simpa using this
end
section
variable {P:Program} {n:Sz} {Q:Exit→Act→World→Prop} {L:Env} {w w0:World} {O:List BG} {lop:List Oper} {ix:Nat} {tr:Tr}
 {d:Nat} {ty:TypeId} {pos:String} {af:Array Edge} {α:Type} {r:Rp α} {x a b:Operand} {v:Value} {t t' e:TypeId} {H:PH} {l:List α} {k k':IntKind} {i j:Int} {zz:Value} {bt:Nat} {jg sg:Nat} {want bb:Bool} {oj:Oper}
theorem R0[Dr]{l:List UInt8}{u:TypeDesc}(ho:H8 lop ix=some ⟨some d,.convert t' t x,ty,pos,af,none⟩)(hx:ev L x=some (.string ⟨l.toArray⟩))(ht:P.underlying t'=some u)(ht':P.underlying t=some (.slice e))(he:P.underlying e=some (.int .u8))(hn:Nat.blt d n.n=true)(hL:AO w0 O w)(hl:l.length≤9223372036854775807)
  (h:∀ v w',Ext w w'→AO w0 O w'→Le (fz w O) (fz w' O)→AI .byte (gz H w0 w' O) v l→D P n lop Q tr ((d,v)::L) w'):D P n lop Q (.h ix tr) L w:=by
 have hs:(ByteArray.mk l.toArray).size=l.length:=by simp [ByteArray.size]
 refine VP (R:=fun a u w'=>u=.slice (some ⟨a.heap.size,0,none⟩) l.length (grownCap a l.length 0 e)∧w'=Lib.bytesWorld a e ⟨l.toArray⟩) ho hn (fun a b ρ hρ=>?_) (fun a u w' b j hR=>?_)
 ·have:=Lib.run_convert_string_bytes (P:=P) a t' t e ⟨l.toArray⟩ ht ht' he;rw [hs] at this;exact⟨_,_,by simp [execOp,hρ x _ hx,this],(P8 a e hl).1,rfl,rfl⟩
 ·obtain⟨rfl,rfl⟩:=hR;obtain⟨g,h2⟩:=P8 a e hl;have c:=hL.call b;exact h _ _ (b.trans g) (c.call g) ((AV hL b).trans (AV c g)) (h2.mono (Rk c))
end
section
variable {P:Program} {n:Sz} {ops:Array Oper} {Q:Exit→Act→World→Prop} {L:Env} {w w0:World} {O:List BG} {l:List Oper} {i:Nat} {t:Tr} {rest:List Oper}
 {d:Nat} {ty:TypeId} {pos:String} {af:Array Edge} {f:FuncId} {args:List Operand} {vs:List Value} {at_:Array TypeId} {fo:Operand}
theorem R1[Dr]{R:Value→World→Prop}(hf:ev L fo=some (.func (.func f) #[] #[]))(ha:OL L args=some vs)(hn:Nat.blt d n.n=true)(hL:AO w0 O w)(hok:Ok P f vs w (fun v w'=>Ext w w'∧R v w'))
  (h:∀ v w',R v w'→Ext w w'→AO w0 O w'→Le (fz w O) (fz w' O)→S P n ops Q rest ((d,v)::L) w'):S P n ops Q (⟨some d,.call ⟨.value fo,args.toArray,at_⟩,ty,pos,af,none⟩::rest) L w:=
 Eh (cap:=[]) (R:=fun v w'=>Ext w w'∧R v w') hf ha hn (by rw [List.append_nil];exact hok) fun v w' hh=>h v w' hh.2 hh.1 (hL.call hh.1) (AV hL hh.1)
end
end Go.E
namespace Go.E
open Go
theorem R2(place:Nat→Option (Nat×Nat)):∀ (l m:List (Nat×Value)) (cells:Array Value),l.map (fun p=>(p.1,p.2.cells))=m.map (fun p=>(p.1,p.2.cells))→Instr.fill place cells l=Instr.fill place cells m
 | [],[],_,_=>rfl
 | [],_::_,_,h=>by cases h
 | _::_,[],_,h=>by cases h
 | (i,v)::l,(j,u)::m,cells,h=>by
  simp only [List.map_cons,List.cons.injEq,Prod.mk.injEq] at h;obtain⟨⟨rfl,a⟩,h2⟩:=h;unfold Instr.fill;rw [a]
  split
  ·rfl
  ·split
   ·rfl
   ·exact R2 place l m _ h2
theorem R3{P:Program}{t:TypeId}{n:Nat}{ps qs:Array (Nat×Value)}{w:World}(h:ps.toList.map (fun p=>(p.1,p.2.cells))=qs.toList.map (fun p=>(p.1,p.2.cells))):(Instr.buildSlice t n ps).run P w=(Instr.buildSlice t n qs).run P w:=by
 unfold Instr.buildSlice;simp only [R2 _ _ _ _ h]
theorem Ij{v:Value}(h:v.oneCell'=true):v.cells=(Value.agg #[v]).cells:=by
 cases v <;> first | rfl | cases h
end Go.E
namespace Go.E
open Go
theorem Acn {P : Program} {t : TypeId} {f0 f1 f2 f3 : Field} {d f : IntKind} (ht : P.underlying t = some (.struct (P.fieldsOf t))) (hp : P.stoodInHeld t = false) (hf : (P.fieldsOf t).toList = [f0, f1, f2, f3]) (i : f0.name ≠ "_" ∧ f0.offset = 0) (j : f1.name ≠ "_" ∧ f1.offset = 1) (h2 : f2.name ≠ "_" ∧ f2.offset = 2) (h3 : f3.name ≠ "_" ∧ f3.offset = 3)
  (k:P.underlying f0.type=some .string) (l:P.underlying f1.type=some (.int d)) (o:P.underlying f2.type=some (.int f)) (p:P.underlying f3.type=some .string) (s m:List UInt8) (a b:Int) (g h:List UInt8) (c e:Int) (w:World) :
  (Op.equalIn 10000 t (.agg #[.string ⟨s.toArray⟩,.int d a,.int f b,.string ⟨m.toArray⟩]) (.agg #[.string ⟨g.toArray⟩,.int d c,.int f e,.string ⟨h.toArray⟩])).run P w=.ok (decide (s=g∧a=c∧b=e∧m=h)) w:=by
 rw [run_equalIn_struct w 9999 t _ _ ht hp,hf]
 have hs:∀ (dd:Nat) (s m:List UInt8),(Op.equalIn (dd+1) f0.type (.string ⟨s.toArray⟩) (.string ⟨m.toArray⟩)).run P w=.ok (decide (s=m)) w:=fun dd s m=>by
  simp [Op.equalIn,run_underlying k,U2]
 have q:∀ (dd:Nat) (s m:List UInt8),(Op.equalIn (dd+1) f3.type (.string ⟨s.toArray⟩) (.string ⟨m.toArray⟩)).run P w=.ok (decide (s=m)) w:=fun dd s m=>by
  simp [Op.equalIn,run_underlying p,U2]
 have key:∀ dd:Nat,(Op.eqFields (dd+1) #[.string ⟨s.toArray⟩,.int d a,.int f b,.string ⟨m.toArray⟩] #[.string ⟨g.toArray⟩,.int d c,.int f e,.string ⟨h.toArray⟩] [f0,f1,f2,f3]).run P w=.ok (decide (s=g∧a=c∧b=e∧m=h)) w:=by
  intro dd
  by_cases z:s=g <;> by_cases e1:a=c <;> by_cases e2:b=e <;> by_cases e3:m=h <;>
   simp [Op.eqFields,i.1,j.1,h2.1,h3.1,i.2,j.2,h2.2,h3.2,part,isAgg,run_underlying k,run_underlying l,run_underlying o,run_underlying p,hs,q,run_equalIn_int w dd _ _ _ _ _ l,run_equalIn_int w dd _ _ _ _ _ o,z,e1,e2,e3]
 exact key 9998
end Go.E
namespace Go.E
open Go Go.RowKit
section
variable {P:Program} {n:Sz} {ops:Array Oper} {Q:Exit→Act→World→Prop} {L:Env} {w w0:World} {O:List BG} {rest:List Oper}
 {ty:TypeId} {pos:String} {af:Array Edge} {α:Type} {r:Rp α} {x y:Operand} {u v:Value} {t e:TypeId} {H:PH}
end
end Go.E
end
noncomputable section
namespace Go.L
def Er(r:Int):List UInt8:=(Go.Utf8.encode r).data.toList
def Ln(l:List UInt8)(p:Nat):Nat×Nat:=Go.Utf8.decode ⟨l.toArray⟩ p
def Dx{κ α:Type}[DecidableEq κ](k:κ)(l:List (κ×List α)):List (κ×List α):=Hq k (HP [] k l) l
end Go.L
namespace Go.E
open Go Go.RowKit
section
variable {P:Program} {n:Sz} {ops:Array Oper} {Q:Exit→Act→World→Prop} {L:Env} {w w0:World} {O:List BG} {rest:List Oper} {d:Nat} {ty t t':TypeId} {pos:String} {af:Array Edge} {x y x':Operand} {l:List UInt8}
theorem Aco[Dr]{a:Int}(hx:ev L x=some (.int .i32 a))(ht:P.underlying t=some (.int .i32))(ht':P.underlying t'=some .string):Bv P L w (.convert t t' x) ty (.string ⟨(Go.L.Er a).toArray⟩):=by
 intro w' _ ρ hρ dst pos af g;have e:(⟨(Go.L.Er a).toArray⟩:ByteArray)=Utf8.encode a:=by unfold Go.L.Er;rw [Array.toArray_toList]
 rw [e];simp [execOp,hρ x _ hx,convert,run_underlying ht,run_underlying ht',Conv.intToString]
theorem U4[Dr](hx:ev L x=some (.string ⟨l.toArray⟩))(ht:P.underlying t=some .string)(hn:Nat.blt d n.n=true)(hL:AO w0 O w)
  (h:∀ w' b,AO w0 (.obj b (.stringIter ⟨l.toArray⟩ 0)::O) w'→Le (fz w O) (fz w' (.obj b (.stringIter ⟨l.toArray⟩ 0)::O))→S P n ops Q rest ((d,.pointer (some ⟨b,0,none⟩))::L) w'):S P n ops Q (⟨some d,.range t x,ty,pos,af,none⟩::rest) L w:=by
 have hb:∀ b,(BG.obj w.heap.size (.stringIter ⟨l.toArray⟩ 0)).block=some b→w.heap.size≤b:=fun b e=>by cases e;exact Nat.le_refl _
 refine Ds (v:=.pointer (some ⟨w.heap.size,0,none⟩)) (w':=w.alloc (.stringIter ⟨l.toArray⟩ 0)) rfl rfl hn (fun ρ hρ=>?_) (h _ _ (hL.new (C0 w _) (World.alloc_heap_new w _) hb) (O5 hL (C0 w _) hb));simp [execOp,Instr.range,run_underlying ht,hρ x _ hx,newObj,Sem.run]
theorem Wh[Dr](i:Nat){b p:Nat}(hx:ev L x=some (.pointer (some ⟨b,0,none⟩)))(hn:Nat.blt d n.n=true)(hL:AO w0 O w)(hi:D8 O i=some (.obj b (.stringIter ⟨l.toArray⟩ p)))
  (a:p<l.length→∀ w',AO w0 (Dc O i (.obj b (.stringIter ⟨l.toArray⟩ (p+(Go.L.Ln l p).2)))) w'→Le (fz w O) (fz w' (Dc O i (.obj b (.stringIter ⟨l.toArray⟩ (p+(Go.L.Ln l p).2)))))→S P n ops Q rest ((d,.tuple #[.bool true,.int .i64 (p:Int),.int .i32 ((Go.L.Ln l p).1:Int)])::L) w')
  (h2 : ¬ p<l.length→S P n ops Q rest ((d,.tuple #[.bool false])::L) w):S P n ops Q (⟨some d,.next x true,ty,pos,af,none⟩::rest) L w:=by
 have hb:w.heap[b]? = some (.stringIter ⟨l.toArray⟩ p):=hL.at hi;have hs:(ByteArray.mk l.toArray).size=l.length:=by simp [ByteArray.size]
 by_cases hp:p<l.length
 ·have hr:=Lib.run_next_any_at (P:=P) w b ⟨l.toArray⟩ p ty hb (by rw [hs];exact hp);have hput:=hL.putAt (.stringIter ⟨l.toArray⟩ (p+(Go.L.Ln l p).2)) hi;refine Ds (v:=.tuple #[.bool true,.int .i64 (p:Int),.int .i32 ((Go.L.Ln l p).1:Int)]) (w':=_) rfl rfl hn (fun ρ hρ=>?_) (a hp _ hput.1 hput.2);have e:w.iterAt b ⟨l.toArray⟩ (p+(Utf8.decode ⟨l.toArray⟩ p).2)=w.putObj b (.stringIter ⟨l.toArray⟩ (p+(Go.L.Ln l p).2)):=rfl;rw [e] at hr;simp [execOp,hρ x _ hx,hr,Go.L.Ln]
 ·have hr:=Lib.run_next_end_at (P:=P) w b ⟨l.toArray⟩ p ty hb (by rw [hs];exact hp);refine Ds (v:=.tuple #[.bool false]) (w':=w) rfl rfl hn (fun ρ hρ=>?_) (h2 hp);simp [execOp,hρ x _ hx,hr]
end
section
variable {κ:Type} {enc:κ→Value} {k:κ}
theorem Wi:∀ (l:List κ) (vs:List Value) (i m:Nat),l.length=vs.length→l[m]? = some k→(mE enc i l vs).modify m (fun e=>{e with key:=enc k})=mE enc i l vs
 | b::l,u::vs,i,0,_,h=>by simp at h;subst h;simp [mE]
 | b::l,u::vs,i,m+1,hl,h=>by
  have:=Wi l vs (i+1) m (by simpa using hl) (by simpa using h);simp only [mE,List.modify_succ_cons,this]
theorem Wj{v:Value}:∀ (l:List κ) (vs:List Value) (i m:Nat),l.length=vs.length→(mE enc i l vs).modify m (fun e=>{e with val:=v})=mE enc i l (vs.set m v)
 | [],[],_,_,_=>by simp [mE]
 | b::l,u::vs,i,0,_=>by simp [mE]
 | b::l,u::vs,i,m+1,hl=>by
  have:=Wj (v:=v) l vs (i+1) m (by simpa using hl);simp only [mE,List.modify_succ_cons,List.set_cons_succ,this]
theorem NT:∀ (l:List κ) (vs:List Value) (i m:Nat),l.length=vs.length→m<l.length→(mE enc i l vs).findIdx? (fun e=>(e.born:Int)==((i+m:Nat):Int))=some m
 | b::l,u::vs,i,0,_,_=>by simp [mE,List.findIdx?_cons]
 | b::l,u::vs,i,m+1,hl,h=>by
  have:=NT l vs (i+1) m (by simpa using hl) (by simpa using h);rw [show i+(m+1)=i+1+m by omega];have hne:((i:Int)==((i+1+m:Nat):Int))=false:=by simp;omega
  simp only [mE,List.findIdx?_cons,hne,Bool.false_eq_true,if_false,this,Option.map_some]
end
section
variable {κ α:Type} [DecidableEq κ] {k:κ} {l:List (κ×List α)}
theorem My{m:Nat}(h:mI k (l.map Prod.fst)=some m):Go.L.Dx k l=l:=by
 unfold Go.L.Dx;rw [NR h];have:=QM ([]:List α) h;obtain⟨a,h2⟩:=List.getElem?_eq_some_iff.1 this
 conv=>lhs;rw [← h2]
 exact List.set_getElem_self a
theorem M0(h:mI k (l.map Prod.fst)=none):Go.L.Dx k l=l++[(k,[])]:=by
 unfold Go.L.Dx;rw [NQ h,QL [] h]
theorem R4:Go.L.HP [] k (Go.L.Dx k l)=Go.L.HP [] k l:=by
 cases h:mI k (l.map Prod.fst) with
 | some m=>rw [My h]
 | none=>
  rw [M0 h];clear h
  induction l with
  | nil=>simp [Go.L.HP]
  | cons a l ih=>
   obtain⟨a,y⟩:=a;simp only [List.cons_append,Go.L.HP]
   split
   ·rfl
   ·exact ih
theorem Yp:∃ m,mI k ((Go.L.Dx k l).map Prod.fst)=some m:=by
 cases h:mI k (l.map Prod.fst) with
 | some m=>rw [My h];exact⟨m,h⟩
 | none=>
  rw [M0 h];clear h
  induction l with
  | nil=>exact⟨0,by simp [mI]⟩
  | cons a l ih=>
   obtain⟨a,y⟩:=a;obtain⟨m,hm⟩:=ih;simp only [List.cons_append,List.map_cons,mI]
   split
   ·exact⟨_,rfl⟩
   ·rw [hm];exact⟨_,rfl⟩
theorem U5{y z:List α}:∀ {l:List (κ×List α)},mI k (l.map Prod.fst)=none→Go.L.Hq k y (l++[(k,z)])=Go.L.Hq k y l
 | [],_=>by simp [Go.L.Hq]
 | (a,x)::l,h=>by
  simp only [List.map_cons,mI] at h
  split at h
  ·cases h
  ·rename_i e;simp only [List.cons_append,Go.L.Hq,if_neg e];rw [U5 (by cases b:mI k (l.map Prod.fst) <;> simp_all)]
theorem R5{y:List α}:Go.L.Hq k y (Go.L.Dx k l)=Go.L.Hq k y l:=by
 cases h:mI k (l.map Prod.fst) with
 | some m=>rw [My h]
 | none=>rw [M0 h,U5 h]
def Nu(k:κ)(l:List κ):Int:=match mI k l with | some m=>(m:Int) | none=>0
end
section
variable {P:Program} {n:Sz} {ops:Array Oper} {Q:Exit→Act→World→Prop} {L:Env} {w w0:World} {O:List BG} {rest:List Oper} {d:Nat} {ty ty' t mt kt et e:TypeId} {pos pos':String} {af af':Array Edge} {x y x' m':Operand}
 {κ α:Type} [DecidableEq κ] {enc:κ→Value} {cw:α→List Value} {sz:Nat} {l:List (κ×List α)} {vs:List Value} {k:κ} {H:PH} {A:List BG}
theorem Vt[Dr](ib:Nat){b:Nat}(hx:ev L x=some (.map (some b)))(hy:ev L y=some (enc k))(ht:P.underlying t=some (.map kt et))(hk:MM P kt enc)(hz:Mz P et (.slice none 0 0))(hn:Nat.blt d n.n=true)(hL:AO w0 (A++mT cw e sz l vs) w)
  (hib:D8 A ib=some (Ot enc b l vs)) (hl:l.length=vs.length)
  (h:∀ vs' w',(Go.L.Dx k l).length=vs'.length→AO w0 (Dc A ib (Ot enc b (Go.L.Dx k l) vs')++mT cw e sz (Go.L.Dx k l) vs') w'→
   Le (fz w (A++mT cw e sz l vs)) (fz w' (Dc A ib (Ot enc b (Go.L.Dx k l) vs')++mT cw e sz (Go.L.Dx k l) vs'))→
   S P n ops Q rest ((d,.tuple #[Vn (.slice none 0 0) k ((Go.L.Dx k l).map Prod.fst) vs',.int .i64 (Nu k ((Go.L.Dx k l).map Prod.fst))])::L) w') :
  S P n ops Q (⟨some d,.mapEntry t x y,ty,pos,af,none⟩::rest) L w:=by
 have hb:w.heap[b]? = some (.map (mE enc 0 (l.map Prod.fst) vs).toArray l.length):=hL.at (Jh _ hib);have hg:(getObj b).run P w=.ok (.map (mE enc 0 (l.map Prod.fst) vs).toArray l.length) w:=by simp [getObj,Sem.run,hb]
 have hs:∀ o,(setObj b o).run P w=.ok () (w.putObj b o):=fun o=>by simp [setObj,Sem.run,hb,World.putObj]
 have hll:(l.map Prod.fst).length=vs.length:=by rw [List.length_map];exact hl
 cases hm:mI k (l.map Prod.fst) with
 | some m=>
  obtain⟨f,h2⟩:=SD hm;have he:=PC (enc:=enc) (l.map Prod.fst) vs 0 m k hll h2;have hp:=hL.putAt (.map (mE enc 0 (l.map Prod.fst) vs).toArray l.length) (Jh _ hib);rw [LX _ _ hib] at hp;have h':=h vs (w.putObj b (.map (mE enc 0 (l.map Prod.fst) vs).toArray l.length));rw [My hm] at h';have g:(mE enc 0 (l.map Prod.fst) vs).toArray.modify m (fun e=>{e with key:=enc k})=(mE enc 0 (l.map Prod.fst) vs).toArray:=by rw [List.modify_toArray,Wi _ vs 0 m hll h2]
  refine Ds (v:=_) (w':=_) rfl rfl hn (fun ρ hρ=>?_) (h' hl hp.1 hp.2)
  have hr:(Instr.mapEntry t (.map (some b)) (enc k)).run P w=.ok (.tuple #[Vn (.slice none 0 0) k (l.map Prod.fst) vs,.int .i64 (Nu k (l.map Prod.fst))]) (w.putObj b (.map (mE enc 0 (l.map Prod.fst) vs).toArray l.length)):=by
   simp only [Instr.mapEntry,Sem.run_bind,run_underlying ht,Result.andThen,hg,hk.check];rw [QK hk hll,hm];simp only [Option.map_some,Sem.run_bind,Result.andThen,List.getElem?_toArray,he,Option.getD_some,Instr.keyThatStays,hk.bits,if_true];simp only [Sem.run_pure,Nat.zero_add];rw [g,hs];simp [Vn,Nu,hm,goInt]
  simp [execOp,hρ x _ hx,hρ y _ hy,hr]
 | none=>
  have hp:=hL.putAt (.map (mE enc 0 (l.map Prod.fst++[k]) (vs++[.slice none 0 0])).toArray (l.length+1)) (Jh _ hib);rw [LX _ _ hib] at hp;have hnil:=QH hp.1 e sz;have h':=h (vs++[.slice none 0 0]) (w.putObj b (.map (mE enc 0 (l.map Prod.fst++[k]) (vs++[.slice none 0 0])).toArray (l.length+1)));rw [M0 hm] at h';have hpush:=T1 (enc:=enc) (k:=k) (v:=.slice none 0 0) (l.map Prod.fst) vs 0 hll;rw [Nat.zero_add] at hpush;have c:(l++[(k,([]:List α))]).map Prod.fst=l.map Prod.fst++[k]:=by simp
  have i:(l++[(k,([]:List α))]).length=l.length+1:=by simp
  have hB:(.obj b (.map (mE enc 0 (l.map Prod.fst++[k]) (vs++[.slice none 0 0])).toArray (l.length+1)):BG)=Ot enc b (l++[(k,([]:List α))]) (vs++[.slice none 0 0]):=by unfold Ot;rw [c,i]
  rw [hB] at hp hnil
  have hperm:(Dc A ib (Ot enc b (l++[(k,([]:List α))]) (vs++[.slice none 0 0]))++mT cw e sz (l++[(k,([]:List α))]) (vs++[.slice none 0 0])).Perm (.row (.slice none 0 0) e sz 0 []::(Dc A ib (Ot enc b (l++[(k,([]:List α))]) (vs++[.slice none 0 0]))++mT cw e sz l vs)):=by
   rw [T2 k [] (.slice none 0 0) hl,← List.append_assoc];exact List.perm_append_singleton _ _
  have hmm:mI k (l.map Prod.fst++[k])=some l.length:=by
   have hmk:∀ (ks:List κ),mI k ks=none→mI k (ks++[k])=some ks.length:=by
    intro ks
    induction ks with
    | nil=>intro _;simp [mI]
    | cons a ks ih=>
     intro hh;simp only [mI] at hh
     split at hh
     ·cases hh
     ·rename_i ee;simp only [List.cons_append,mI,if_neg ee];rw [ih (by cases f:mI k ks <;> simp_all)];simp
   have:=hmk _ hm
   rwa [List.length_map] at this
  refine Ds (v:=_) (w':=_) rfl rfl hn (fun ρ hρ=>?_) (h' (by simp [hl]) (hnil.1.perm hperm) (by rw [Ig hperm];exact hp.2.trans hnil.2))
  have hr:(Instr.mapEntry t (.map (some b)) (enc k)).run P w=.ok (.tuple #[Vn (.slice none 0 0) k ((l++[(k,([]:List α))]).map Prod.fst) (vs++[.slice none 0 0]),.int .i64 (Nu k ((l++[(k,([]:List α))]).map Prod.fst))]) (w.putObj b (.map (mE enc 0 (l.map Prod.fst++[k]) (vs++[.slice none 0 0])).toArray (l.length+1))):=by
   rw [c];simp only [Instr.mapEntry,Sem.run_bind,run_underlying ht,Result.andThen,hg,hk.check];rw [QK hk hll,hm];have hz':(zeroValue et).run P w=.ok (.slice none 0 0) w:=hz w;simp only [Option.map_none,Sem.run_bind,Result.andThen,hz',List.push_toArray];rw [List.length_map] at hpush;rw [hpush,hs];simp [Vn,Nu,hmm,goInt,hl]
  simp [execOp,hρ x _ hx,hρ y _ hy,hr]
theorem Ab0[Dr](ib:Nat){b:Nat}{v:Value}{yl:List α}{T:List BG}(hpd:Abw cw e sz (Go.L.Dx k l) vs k yl v T)(hm:ev L m'=some (.map (some b)))(hkx:ev L x'=some (.int .i64 (Nu k ((Go.L.Dx k l).map Prod.fst))))(hv:ev L x=some v)
  (hL:AO w0 (A++T) w) (hib:D8 A ib=some (Ot enc b (Go.L.Dx k l) vs))
  (h:∀ vs' w',(Go.L.Hq k yl l).length=vs'.length→AO w0 (Dc A ib (Ot enc b (Go.L.Hq k yl l) vs')++mT cw e sz (Go.L.Hq k yl l) vs') w'→
   Le (fz w (A++T)) (fz w' (Dc A ib (Ot enc b (Go.L.Hq k yl l) vs')++mT cw e sz (Go.L.Hq k yl l) vs'))→S P n ops Q rest L w') :
  S P n ops Q (⟨none,.entryStore mt m' x' x,ty,pos,af,none⟩::rest) L w:=by
 obtain⟨_,hl,hpm⟩:=hpd;obtain⟨m,hmi⟩:=Yp (k:=k) (l:=l);rw [R5] at hpm;have hll:((Go.L.Dx k l).map Prod.fst).length=vs.length:=by rw [List.length_map];exact hl
 obtain⟨c,h2⟩:=SD hmi;have hb:w.heap[b]? = some (.map (mE enc 0 ((Go.L.Dx k l).map Prod.fst) vs).toArray (Go.L.Dx k l).length):=hL.at (Jh T hib);have hg:(getObj b).run P w=.ok (.map (mE enc 0 ((Go.L.Dx k l).map Prod.fst) vs).toArray (Go.L.Dx k l).length) w:=by simp [getObj,Sem.run,hb]
 have hs:∀ o,(setObj b o).run P w=.ok () (w.putObj b o):=fun o=>by simp [setObj,Sem.run,hb,World.putObj]
 have hU:Vo k v ((Go.L.Dx k l).map Prod.fst) vs=vs.set m v:=by unfold Vo;rw [hmi]
 have hK:(Go.L.Hq k yl l).map Prod.fst=(Go.L.Dx k l).map Prod.fst:=by
  have:=Rv (k:=k) (y:=yl) (l:=Go.L.Dx k l);rw [R5] at this;rw [← this];unfold upK;rw [hmi]
 have hlen:(Go.L.Hq k yl l).length=(Go.L.Dx k l).length:=by have:=congrArg List.length hK;simpa using this
 have hf:=NT (enc:=enc) _ vs 0 m hll c;rw [Nat.zero_add] at hf;have hp:=hL.putAt (.map (mE enc 0 ((Go.L.Hq k yl l).map Prod.fst) (vs.set m v)).toArray (Go.L.Hq k yl l).length) (Jh T hib);rw [LX _ _ hib] at hp;have a:=List.Perm.append_left (Dc A ib (Ot enc b (Go.L.Hq k yl l) (Vo k v ((Go.L.Dx k l).map Prod.fst) vs))) hpm.symm;rw [hU] at a
 have hr:(Instr.entryStore mt (.map (some b)) (.int .i64 (Nu k ((Go.L.Dx k l).map Prod.fst))) v).run P w=.ok () (w.putObj b (.map (mE enc 0 ((Go.L.Hq k yl l).map Prod.fst) (vs.set m v)).toArray (Go.L.Hq k yl l).length)):=by
  simp only [Instr.entryStore,Sem.run_bind,Result.andThen,hg,Nu,hmi,asInt,asIntOf];simp only [Sem.run_bind,Sem.run_pure,Result.andThen,List.findIdx?_toArray,hf,List.modify_toArray];rw [Wj _ vs 0 m hll,hs,hK,hlen]
 refine LU (w':=_) rfl rfl (fun ρ hρ=>?_) (h (vs.set m v) _ (by rw [hlen,List.length_set];exact hl) (hp.1.perm a) ?_)
 ·simp [execOp,hρ m' _ hm,hρ x' _ hkx,hρ x _ hv,hr]
 ·rw [Ig a];exact hp.2
end
end Go.E
end
noncomputable section
namespace Go.E
open Go Go.RowKit
def Acp(v v':Value)(lo:Nat):Prop:=∃ a m cap,v=.slice a m cap∧lo≤m∧m≤cap∧v'=.slice (if cap=lo then a else a.map (·.add lo)) (m - lo) (cap - lo)
theorem Acp.vec{α:Type}{r:Rp α}{H:PH}{v v':Value}{lo:Nat}{l:List α}(h:Acp v v' lo)(hv:AI r H v l)(hr:r.sz=1):AI r H v' (l.drop lo):=by
 obtain⟨a,m,cap,rfl,c,h2,rfl⟩:=h;obtain⟨a',cap',he⟩:=hv.header;have hm:m=l.length:=by cases he;rfl
 subst hm;obtain⟨a2,f,g,hs⟩:=hv.sub lo l.length c (Nat.le_refl _)
 cases g
 rw [hr,Nat.mul_one,List.take_of_length_le (by simp)] at hs;exact hs
section
variable {P:Program} {n:Sz} {ops:Array Oper} {Q:Exit→Act→World→Prop} {L:Env} {w w0:World} {O:List BG} {rest:List Oper} {d:Nat}
 {ty:TypeId} {pos:String} {af:Array Edge} {α:Type} {r:Rp α} {x a b:Operand} {v:Value} {t e:TypeId} {H:PH} {k:IntKind} {lo:Int} {m:Nat} {zz:Value} {bt:Nat} {xs:List Value}
end
instance AcU:Dr:=⟨false⟩
theorem Ext.off{w w':World}(h:Below w.heap.size w w'):Ext w w':=⟨h,fun o=>absurd o (by decide)⟩
structure Cb (P:Program) (a:World) (H:PH) (f:FuncId) (cap:List Value) {σ:Type} (J:σ→List BG→PH→Prop) (step:σ→List UInt8×Int×Int×List UInt8→Option σ):Prop where
 mono:∀ {s:σ} {R:List BG} {G G':PH},Le G G'→J s R G→J s R G'
 ok:∀ {w:World} {O R:List BG} {s s':σ} {x:List UInt8×Int×Int×List UInt8},AO a (HAppend.hAppend O R) w→J s R (gz H a w (HAppend.hAppend O R))→step s x=some s'→
  Ok P f (Ji x::cap) w (fun v w'=>v=.tuple #[]∧∃ R':List BG,AO a (HAppend.hAppend O R') w'∧Le (fz w (HAppend.hAppend O R)) (fz w' (HAppend.hAppend O R'))∧J s' R' (gz H a w' (HAppend.hAppend O R')))
section
variable {P:Program} {n:Sz} {ops:Array Oper} {Q:Exit→Act→World→Prop} {L:Env} {w w0:World} {O:List BG} {rest:List Oper} {d:Nat} {ty t t':TypeId} {pos:String} {af:Array Edge} {x y:Operand} {v:Value} {e:TypeId} {pv:Value}
theorem Vu{a b:Int}(c : -9223372036854775808≤a∧a≤9223372036854775807∧0<b): -9223372036854775808≤a.tdiv b∧a.tdiv b≤9223372036854775807:=by
 obtain⟨c,h2,h3⟩:=c;have e:(a.tdiv b).natAbs≤a.natAbs:=by rw [Int.natAbs_tdiv];exact Nat.div_le_self _ _
 rcases Int.le_total 0 a with h | h
 ·have d:0≤a.tdiv b:=Int.tdiv_nonneg h (by omega);omega
 ·have d:0≤(-a).tdiv b:=Int.tdiv_nonneg (by omega) (by omega);rw [Int.neg_tdiv] at d;omega
theorem Ab1{a b:Int}(hx:ev L x=some (.int .i64 a))(hy:ev L y=some (.int .i64 b))(c : -9223372036854775808≤a∧a≤9223372036854775807∧0<b):Bv P L w (.binOp .quo t x y t') ty (.int .i64 (a.tdiv b)):=by
 intro w' _ ρ hρ dst pos af g;have hb:b≠0:=by omega
 have⟨d,e⟩:=Vu c;simp [execOp,hρ x _ hx,hρ y _ hy,eqGuard,binOp,Op.intDiv,hb,wrap64 (x:=a.tdiv b) (by omega) (by omega)]
theorem Ab2{a b:Int}{k:IntKind}(hx:ev L x=some (.int k a))(hy:ev L y=some (.int k b))(c : -9223372036854775808≤a∧a≤9223372036854775807∧0<b):Bv P L w (.binOp .rem t x y t') ty (.int k (a.tmod b)):=by
 intro w' _ ρ hρ dst pos af g;have hb:b≠0:=by omega
 simp [execOp,hρ x _ hx,hρ y _ hy,eqGuard,binOp,Op.intDiv,hb]
theorem SI(i off:Nat){b:Nat}{cs vs ns:List Value}{a:TypeId}{zz:Value}{bt:Nat}(hx:ev L x=some (.pointer (some ⟨b,off,none⟩)))(hy:ev L y=some v)(hc:v.cells.toList=vs)(hz:Zr P t zz vs.length bt)(hL:AO w0 O w)(hi:D8 O i=some (.box b cs a))(hlen:Nat.ble (off+vs.length) cs.length=true)(hns:cs.take off++vs++cs.drop (off+vs.length)=ns)(c:∀ u∈vs,u.oneCell'=true)
  (h:∀ w',AO w0 (Dc O i (.box b ns a)) w'→Le (fz w O) (fz w' (Dc O i (.box b ns a)))→S P n ops Q rest L w'):S P n ops Q (⟨none,.store t x y,ty,pos,af,none⟩::rest) L w:=by
 subst hc;have hlen':=Nat.le_of_ble_eq_true hlen;obtain⟨inf,d,g,f,j⟩:=hz.parts;have hb:w.heap[b]? = some (.cells cs.toArray a (0,0)):=hL.at hi;have hst:=run_storeCells_at P b off a v.cells.toList 0 cs.toArray w hb (by simp at hlen' ⊢;omega) c;simp only [Nat.add_zero,List.toList_toArray] at hst;rw [hns] at hst;have hsz:v.cells.size=inf.size:=by rw [f];simp
 refine LU (w':=w.setRow b ns.toArray) rfl rfl (fun ρ hρ=>by
  simp [execOp,hρ x _ hx,hρ y _ hy,Instr.storeAt,Instr.sureAddr,storeVar,sizeOf,typeInfo,d,hsz,hst]) ?_
 have hg:=Np w b ns.toArray
 have hnl:ns.length=cs.length:=by
  rw [← hns];simp only [List.length_append,List.length_take,List.length_drop];omega
 have hok:BG.ok (w.setRow b ns.toArray) (.box b ns a):=by
  show(w.setRow b ns.toArray).heap[b]? = _
  exact LW w b cs.toArray ns.toArray a hb
 exact h _ (hL.LH hi (Nat.le_refl _) hg hok (fun b' e=>.inl e)) (Hz hL hi hg (fun b' e=>.inl e))
theorem Ab3{α:Type}{r:Rp α}{l:List α}{H:PH}{b c:Operand}{k k':IntKind}{zz:Value}{bt:Nat}(hx:ev L x=some v)(hb:ev L b=some (.int k (l.length:Int)))(hc:ev L c=some (.int k' (l.length:Int)))(ht:P.underlying t=some (.slice e))(he:Zr P e zz r.sz bt)(hv:AI r H v l)(hn:Nat.blt d n.n=true)
  (h:∀ v',AI r H v' l→S P n ops Q rest ((d,v')::L) w):S P n ops Q (⟨some d,.slice t x none (some b) (some c),ty,pos,af,none⟩::rest) L w:=by
 obtain⟨inf,i,q,s,u⟩:=he.parts;obtain⟨A,cap,j,o,p,a,f⟩:=hv.ex;subst j
 have hr:∀ w,Bv P L w (.slice t x none (some b) (some c)) ty (.slice A l.length l.length):=fun w w' _ ρ hρ dst pos af g=>by
  have m:(l.length:Int)≤(cap:Int):=by omega
  simp [execOp,hρ x _ hx,hρ b _ hb,hρ c _ hc,Instr.sliceAt,run_underlying ht,Instr.slice,Instr.sliceBounds,Instr.sliceBound,asIntOf,sizeOf,typeInfo,i,m]
  cases A <;> simp [Addr.add_zero'] <;> (intro h;omega)
 exact Ae (hr w) hn (h _ ⟨A,l.length,rfl,Nat.le_refl _,by omega,fun hA=>by have:=a hA;omega,f⟩)
theorem U6{b m e:Nat}{a:Int}{k:IntKind}{zz:Value}{bt len:Nat}(hx:ev L x=some (.pointer (some ⟨b,0,none⟩)))(hy:ev L y=some (.int k a))(ht:P.underlying t=some (.array len e))(he:Zr P e zz 1 bt)(hl:Nat.blt 1 len=true)(hm:0≤a∧a<(len:Int))(hmm:a.toNat=m):Bv P L w (.indexAddr t x y) ty (.pointer (some ⟨b,m,none⟩)):=by
 intro w' _ ρ hρ dst pos af g;obtain⟨inf,c,f,d,i⟩:=he.parts;have hl' : ¬ len≤1:=by simp only [Nat.blt_eq] at hl;omega
 have i3':inf.size=1:=by rw [d]
 simp [execOp,hρ x _ hx,hρ y _ hy,Instr.indexAt,asIntOf,run_underlying ht,Instr.sureAddr,sizeOf,typeInfo,c,i3',hm,hmm,Addr.add];intro h;exact h.symm
theorem Wk(i m:Nat){b:Nat}{l:List Int}{cs:List Value}{c:TypeId}{k:IntKind}(hx:ev L x=some (.pointer (some ⟨b,m,none⟩)))(ht:P.underlying t=some (.int k))(hL:AO w0 O w)(hi:D8 O i=some (.box b cs c))(hcs:l.map (Value.int k)=cs)(hm:m<l.length):Bv P L w (.load t x) ty (.int k (l.getD m default)):=by
 subst hcs;have a:=(AT hL hi).add m;rw [Addr.add_lit,Nat.zero_add] at a
 have h2:(l.map (Value.int k)).drop m=.int k (l.getD m default)::(l.map (Value.int k)).drop (m+1):=by
  rw [List.drop_eq_getElem_cons (by simpa using hm)];simp [hm]
 rw [h2] at a;exact Be hx ht rfl a (Le.refl _)
theorem Yq(m:Nat){b off:Nat}{cs c:List Value}{d:TypeId}{dd:TypeDesc}{zz:Value}{bt:Nat}(hx:ev L x=some (.pointer (some ⟨b,off,none⟩)))(ht:P.underlying t=some dd)(hd:Ur dd=true)(hz:Zr P t zz c.length bt)(h:w.heap[b]? = some (.cells cs.toArray d (0,0)))(hc:(cs.drop off).take m=c):Bv P L w (.load t x) ty (.agg c.toArray):=by
 have a:=((Vr h).add off).part m;rw [hc,Addr.add_lit,Nat.zero_add] at a;exact C1 hx ht hd hz a (Le.refl _)
theorem Yr{u:Value}{dd:TypeDesc}(hx:ev L x=some (.iface t' u))(ht:P.underlying t'=some dd)(hd:Wa dd=true):Bv P L w (.typeAssert x t t' true) ty (.tuple #[u,.bool true]):=fun w' _ ρ hρ dst pos af g=>by
 cases dd <;> simp [Wa] at hd <;> simp [execOp,hρ x _ hx,Instr.typeAssert,run_underlying ht]
theorem WU{p:Prop}(b:Bool)(a:b=true→p)(h2:b=false→p):p:=by
 cases b
 ·exact h2 rfl
 ·exact a rfl
theorem SJ{f:FuncId}{args:List Operand}{vs:List Value}{at_:Array TypeId}{dst:Option Tmp}{fst cap:List Value}{fo:Operand}(hc:HR P f)(hf:ev L fo=some (.func (.func f) fst.toArray cap.toArray))(ha:OL L args=some vs)(ρ:Operand→Value)(hρ:Vg L ρ):
  (execOp ρ ⟨dst,.call ⟨.value fo,args.toArray,at_⟩,ty,pos,af,none⟩).run P w=.ok (.enter f (fst++vs++cap).toArray) w:=by
 obtain ⟨fn, c, a, h2, h3⟩ := hc;have b := hρ.map _ _ ha;have h2' : ¬ fn.name = "runtime.NumGoroutine" := by simpa using h2
 simp [execOp,resolve,hρ fo _ hf,Deferred.ofValue,b,invoke,callFunc,a,h2',h3]
theorem ZQ{f:FuncId}{args:List Operand}{vs:List Value}{at_:Array TypeId}(fst cap:List Value){fo:Operand}{R:Value→World→Prop}(hf:ev L fo=some (.func (.func f) fst.toArray cap.toArray))(ha:OL L args=some vs)(hn:Nat.blt d n.n=true)(hok:Ok P f (fst++vs++cap) w R)
  (h:∀ v w',R v w'→S P n ops Q rest ((d,v)::L) w'):S P n ops Q (⟨some d,.call ⟨.value fo,args.toArray,at_⟩,ty,pos,af,none⟩::rest) L w:=
 P0 rfl fun a fr=>by
  unfold Oper.wp;rw [SJ hok.1 hf ha _ fr.Qt];refine hok.2.mono fun e w' ⟨v,he,hv⟩=>?_;subst he;exact h v w' hv _ (fr.put hn)
theorem Ys{f:FuncId}{args:List Operand}{vs:List Value}{at_:Array TypeId}(fst cap:List Value){fo:Operand}{R:Value→World→Prop}(hf:ev L fo=some (.func (.func f) fst.toArray cap.toArray))(ha:OL L args=some vs)(hn:Nat.blt d n.n=true)(hL:AO w0 O w)(hok:Ok P f (fst++vs++cap) w (fun v w'=>Ext w w'∧R v w'))
  (h:∀ v w',R v w'→Ext w w'→AO w0 O w'→Le (fz w O) (fz w' O)→S P n ops Q rest ((d,v)::L) w'):S P n ops Q (⟨some d,.call ⟨.value fo,args.toArray,at_⟩,ty,pos,af,none⟩::rest) L w:=
 ZQ fst cap hf ha hn hok fun v w' hh=>h v w' hh.2 hh.1 (hL.call hh.1) (AV hL hh.1)
theorem OS{α:Type}{r:Option α}{f:FuncId}{args:List Operand}{vs:List Value}{at_:Array TypeId}(fst cap:List Value){fo:Operand}{R:World→α→Value→Prop}{N:World→Prop}(hf:ev L fo=some (.func (.func f) fst.toArray cap.toArray))(ha:OL L args=some vs)(hn:Nat.blt d n.n=true)
  (hok:Rn P f (fst++vs++cap) w pv (fun v w'=>S9 r v (R w') (N w'))) (b:r=none→∀ w',N w'→At n Q (.panic (X4 pv)) L w')
  (h:∀ y,r=some y→∀ v w',R w' y v→S P n ops Q rest ((d,v)::L) w'):S P n ops Q (⟨some d,.call ⟨.value fo,args.toArray,at_⟩,ty,pos,af,none⟩::rest) L w:=
 P0 rfl fun a fr=>by
  unfold Oper.wp;rw [SJ hok.1 hf ha _ fr.Qt];refine hok.2.mono fun e w' k=>?_
  cases e with
  | returned v=>
   cases r with
   | none=>exact k.elim
   | some y=>exact h y rfl v w' k _ (fr.put hn)
  | panicked c=>
   obtain⟨rfl,k⟩:=k
   cases r with
   | none=>exact b rfl w' k a fr
   | some y=>exact k.elim
  | outgrown=>exact k.elim
theorem Ab4{σ:Type}{c:Code}(I:σ→Env)(R:σ→World→Prop)(hx:W P n c (Uh n I R Q) L w)(hy:∀ s w',R s w'→At n Q .normal (I s) w'):W P n c Q L w:=fun a fr=>
 wp_mono (hx a fr) fun e a' w' q=>by
  cases e with
  | normal=>obtain⟨s,b,h2⟩:=q;exact hy s w' h2 a' b
  | _=>exact q
theorem JM{id:Nat}{l:List Oper}{m:Nat}(hq:HF Q)(Inv:World→World→Prop)(hm:P.follows .mixedOrders=true)(hl:l.length=m)(h:HF Q→∀ w',Ext w w'→Nw (Inv w') P n l Q m (MK m []) L w'):W P n (.region id l.toArray true) Q L w:=Yj Inv hm hl (h hq)
theorem M1{Inv:World→Prop}{l:List Oper}{fuel:Nat}{listed:Array Bool}(hI:Inv w)(h:Inv w→Nw Inv P n l Q fuel listed L w):Nw Inv P n l Q fuel listed L w:=h hI
theorem Ba{Inv:World→Prop}{l:List Oper}{fuel i m:Nat}{done:List Nat}(hI:Inv w)(h:Inv w→Nw Inv P n l Q fuel (MK m done) L w):S P n l.toArray (Yi Inv P l Q fuel i (MK m done)) [] L w:=Aby hI (h hI)
def R6(K L:Env):Bool:=K.all fun x=>(gt L x.1).isNone
theorem Yt{L:Env}{s:Nat}{u:Value}(hu:gt L s=some u):∀ K:Env,R6 K L=true→gt (K++L) s=some u
 | [],_=>hu
 | (a,z)::K,h=>by
  simp only [R6,List.all_cons,Bool.and_eq_true] at h;have ih:=Yt hu K h.2
  have hne:Nat.beq a s=false:=by
   cases hb:Nat.beq a s with
   | false=>rfl
   | true=>
    have:=Nat.eq_of_beq_eq_true hb;rw [this,hu] at h;exact absurd h.1 (by simp)
  show(bif Nat.beq a s then some z else gt (K++L) s)=some u
  rw [hne];exact ih
theorem Fr.strip{a:Act}{L':Env}{v':Value}(k:Nat)(fr:Fr n a ((d,v')::L'))(hv:v=v')(hl:L'.drop k=L)(hk:R6 (L'.take k) L=true):Fr n a ((d,v)::L):=by
 subst hv;refine⟨fr.size,fr.defers,fun s u hs=>fr.get s u ?_⟩;have e:L'=L'.take k++L:=by rw [← hl,List.take_append_drop]
 rw [e];have hs':(bif Nat.beq d s then some v else gt L s)=some u:=hs
 show(bif Nat.beq d s then some v else gt (L'.take k++L) s)=some u
 cases hb:Nat.beq d s with
 | true=>rw [hb] at hs';exact hs'
 | false=>rw [hb] at hs';exact Yt hs' _ hk
theorem G9{l:List Oper}(m d:Nat)(v:Value)(hb:S P n ops Q (l.drop m) ((d,v)::L) w→S P n ops Q l L w)(h:S P n ops Q (l.drop m) ((d,v)::L) w):S P n ops Q l L w:=hb h
theorem S.to{l:List Oper}{L':Env}{v':Value}(hm:S P n ops Q l ((d,v)::L) w)(k:Nat)(hv:v=v')(hl:L'.drop k=L)(hk:R6 (L'.take k) L=true):S P n ops Q l ((d,v')::L') w:=fun a fr=>hm a (fr.strip k hv hl hk)
def trq:Nat→Tr→Tr
 | 0,t=>t
 | m+1,.q _ t=>trq m t
 | _+1,t=>t
theorem U7{l:List Oper}{t:Tr}(m d:Nat)(v:Value)(hb:D P n l Q (trq m t) ((d,v)::L) w→D P n l Q t L w)(h:D P n l Q (trq m t) ((d,v)::L) w):D P n l Q t L w:=hb h
theorem D.to{l:List Oper}{t:Tr}{L':Env}{v':Value}(hm:D P n l Q t ((d,v)::L) w)(k:Nat)(hv:v=v')(hl:L'.drop k=L)(hk:R6 (L'.take k) L=true):D P n l Q t ((d,v')::L') w:=fun a fr=>hm a (fr.strip k hv hl hk)
section
variable {b c e:Bool}
theorem Kk(h:b=true):Value.bool (b&&c)=.bool c:=by rw [h];rfl
theorem Kl(h:b=false):Value.bool (b&&c)=.bool false:=by rw [h];rfl
theorem O9(h:b=true):Value.bool (b||c)=.bool true:=by rw [h];rfl
theorem OA(h:b=false):Value.bool (b||c)=.bool c:=by rw [h];rfl
end
end
end Go.E
end
noncomputable section
namespace Go.Proofs.YtekmbcbgknmhiaaGreatDoor
open Go Go.E Go.RowKit
theorem mixed:Tryz.prog.follows .mixedOrders=true:=by kernel_rfl
theorem Cc:Zr Tryz.prog 3 (.int .i64 0) 1 8:=by unfold Zr;kernel_rfl
theorem ZR:Zr Tryz.prog 4 (.bool false) 1 1:=by unfold Zr;kernel_rfl
theorem Lo:Zr Tryz.prog 5 (.int .u8 0) 1 1:=by unfold Zr;kernel_rfl
theorem Fu:Zr Tryz.prog 9 (.string .empty) 1 16:=by unfold Zr;kernel_rfl
theorem Jm:Zr Tryz.prog 22 (.slice none 0 0) 1 24:=by unfold Zr;kernel_rfl
theorem Fw:Zr Tryz.prog 23 (.slice none 0 0) 1 24:=by unfold Zr;kernel_rfl
theorem Hr:Zr Tryz.prog 24 (.slice none 0 0) 1 24:=by unfold Zr;kernel_rfl
theorem Bh:Zr Tryz.prog 26 (.agg #[.int .i64 0,.slice none 0 0,.string .empty,.slice none 0 0,.int .i64 0,.int .i64 0,.slice none 0 0]) 7 112:=by unfold Zr;kernel_rfl
theorem AR:Zr Tryz.prog 28 (.agg #[.int .i64 0,.int .i64 0]) 2 16:=by unfold Zr;kernel_rfl
theorem Vv:Zr Tryz.prog 44 (.slice none 0 0) 1 24:=by unfold Zr;kernel_rfl
theorem OB:Zr Tryz.prog 46 (.agg #[.int .i64 0,.slice none 0 0]) 2 32:=by unfold Zr;kernel_rfl
theorem ZS:Zr Tryz.prog 47 (.slice none 0 0) 1 24:=by unfold Zr;kernel_rfl
theorem Qw:Zr Tryz.prog 49 (.agg #[.int .i64 0,.slice none 0 0]) 2 32:=by unfold Zr;kernel_rfl
theorem Jn:Zr Tryz.prog 50 (.slice none 0 0) 1 24:=by unfold Zr;kernel_rfl
theorem MU:Zr Tryz.prog 52 (.agg #[.int .i64 0,.slice none 0 0,.int .i64 0,.slice none 0 0,.slice none 0 0]) 5 88:=by unfold Zr;kernel_rfl
theorem Sn:Zr Tryz.prog 58 (.slice none 0 0) 1 24:=by unfold Zr;kernel_rfl
theorem WV:Zr Tryz.prog 62 (.slice none 0 0) 1 24:=by unfold Zr;kernel_rfl
theorem GR:Zr Tryz.prog 64 (.agg #[.int .i64 0,.int .i64 0,.slice none 0 0,.slice none 0 0,.slice none 0 0]) 5 88:=by unfold Zr;kernel_rfl
theorem ZT:Zr Tryz.prog 66 (.agg #[.slice none 0 0,.int .i64 0,.int .i64 0,.slice none 0 0,.slice none 0 0,.slice none 0 0]) 6 112:=by unfold Zr;kernel_rfl
theorem ZU:Zr Tryz.prog 82 (.agg #[]) 0 0:=by unfold Zr;kernel_rfl
theorem Ab5:Zr Tryz.prog 96 (.agg #[.slice none 0 0]) 1 24:=by unfold Zr;kernel_rfl
theorem FY:Zr Tryz.prog 98 (.agg #[.slice none 0 0,.slice none 0 0,.slice none 0 0]) 3 72:=by unfold Zr;kernel_rfl
theorem Yu:Zr Tryz.prog 109 (.slice none 0 0) 1 24:=by unfold Zr;kernel_rfl
theorem Acq:Zr Tryz.prog 131 (.slice none 0 0) 1 24:=by unfold Zr;kernel_rfl
theorem KR:Zr Tryz.prog 135 (.agg #[.string .empty,.int .i64 0,.int .i64 0]) 3 32:=by unfold Zr;kernel_rfl
theorem K4:Zr Tryz.prog 137 (.agg #[.int .i64 0,.int .i64 0]) 2 16:=by unfold Zr;kernel_rfl
theorem AaV:Zr Tryz.prog 139 (.map none) 1 8:=by unfold Zr;kernel_rfl
theorem KS:Zr Tryz.prog 142 (.agg #[.string .empty,.int .i64 0,.int .i64 0,.string .empty]) 4 48:=by unfold Zr;kernel_rfl
theorem Wl:Zr Tryz.prog 173 (.agg #[.int .i64 0,.int .i64 0,.int .i64 0,.int .i64 0,.int .i64 0,.int .i64 0,.int .i64 0,.int .i64 0,.int .i64 0,.int .i64 0,.int .i64 0]) 11 88:=by unfold Zr;kernel_rfl
theorem Ou:Zr Tryz.prog 192 (.agg #[.string .empty,.slice none 0 0]) 2 40:=by unfold Zr;kernel_rfl
theorem SK:Zr Tryz.prog 203 (.agg #[.string .empty,.int .i64 0,.int .i64 0,.string .empty,.slice none 0 0]) 5 72:=by unfold Zr;kernel_rfl
theorem T5(w:World):(Instr.build 26 #[]).run Tryz.prog w=.ok (.agg #[.int .i64 0,.slice none 0 0,.string .empty,.slice none 0 0,.int .i64 0,.int .i64 0,.slice none 0 0]) w:=by kernel_rfl
theorem ZV(a:Int)(w:World):(Instr.build 26 #[(0,.int .i64 a)]).run Tryz.prog w=.ok (.agg #[.int .i64 a,.slice none 0 0,.string .empty,.slice none 0 0,.int .i64 0,.int .i64 0,.slice none 0 0]) w:=by kernel_rfl
theorem PF(b:Int)(a:Value)(c:a.oneCell'=true)(w:World):(Instr.build 26 #[(0,.int .i64 b),(1,a)]).run Tryz.prog w=.ok (.agg #[.int .i64 b,a,.string .empty,.slice none 0 0,.int .i64 0,.int .i64 0,.slice none 0 0]) w:=by cases a <;> first | (simp [Value.oneCell'] at c;done) | kernel_rfl
theorem U8(c:Int)(a:Value)(d:a.oneCell'=true)(b:Value)(e:b.oneCell'=true)(w:World):(Instr.build 26 #[(0,.int .i64 c),(1,a),(6,b)]).run Tryz.prog w=.ok (.agg #[.int .i64 c,a,.string .empty,.slice none 0 0,.int .i64 0,.int .i64 0,b]) w:=by cases a <;> first | (simp [Value.oneCell'] at d;done) | cases b <;> first | (simp [Value.oneCell'] at e;done) | kernel_rfl
theorem WW(b:Int)(a:Value)(h2:a.oneCell'=true)(w:World):(Instr.build 26 #[(0,.int .i64 b),(2,a)]).run Tryz.prog w=.ok (.agg #[.int .i64 b,.slice none 0 0,a,.slice none 0 0,.int .i64 0,.int .i64 0,.slice none 0 0]) w:=by cases a <;> first | (simp [Value.oneCell'] at h2;done) | kernel_rfl
theorem WX(b:Int)(a:Value)(h3:a.oneCell'=true)(w:World):(Instr.build 26 #[(0,.int .i64 b),(3,a)]).run Tryz.prog w=.ok (.agg #[.int .i64 b,.slice none 0 0,.string .empty,a,.int .i64 0,.int .i64 0,.slice none 0 0]) w:=by cases a <;> first | (simp [Value.oneCell'] at h3;done) | kernel_rfl
theorem WY(a:Int)(b:Int)(w:World):(Instr.build 26 #[(0,.int .i64 a),(4,.int .i64 b)]).run Tryz.prog w=.ok (.agg #[.int .i64 a,.slice none 0 0,.string .empty,.slice none 0 0,.int .i64 b,.int .i64 0,.slice none 0 0]) w:=by kernel_rfl
theorem Ma(b:Int)(a:Value)(c:a.oneCell'=true)(w:World):(Instr.build 26 #[(0,.int .i64 b),(6,a)]).run Tryz.prog w=.ok (.agg #[.int .i64 b,.slice none 0 0,.string .empty,.slice none 0 0,.int .i64 0,.int .i64 0,a]) w:=by cases a <;> first | (simp [Value.oneCell'] at c;done) | kernel_rfl
theorem BY(w:World):(Instr.build 28 #[]).run Tryz.prog w=.ok (.agg #[.int .i64 0,.int .i64 0]) w:=by kernel_rfl
theorem NU(a:Int)(b:Int)(w:World):(Instr.build 28 #[(0,.int .i64 a),(1,.int .i64 b)]).run Tryz.prog w=.ok (.agg #[.int .i64 a,.int .i64 b]) w:=by kernel_rfl
theorem ZW(a:Int)(w:World):(Instr.build 46 #[(0,.int .i64 a)]).run Tryz.prog w=.ok (.agg #[.int .i64 a,.slice none 0 0]) w:=by kernel_rfl
theorem ZX(a:Int)(w:World):(Instr.build 49 #[(0,.int .i64 a)]).run Tryz.prog w=.ok (.agg #[.int .i64 a,.slice none 0 0]) w:=by kernel_rfl
theorem WZ(a:Int)(b:Int)(w:World):(Instr.build 64 #[(0,.int .i64 a),(1,.int .i64 b)]).run Tryz.prog w=.ok (.agg #[.int .i64 a,.int .i64 b,.slice none 0 0,.slice none 0 0,.slice none 0 0]) w:=by kernel_rfl
theorem SL(f:Value)(g:f.oneCell'=true)(a b c d e:Value)(w:World):(Instr.build 66 #[(0,f),(1,.agg #[a,b,c,d,e])]).run Tryz.prog w=.ok (.agg #[f,a,b,c,d,e]) w:=by cases f <;> first | (simp [Value.oneCell'] at g;done) | kernel_rfl
theorem NV(w:World):(Instr.build 82 #[]).run Tryz.prog w=.ok (.agg #[]) w:=by kernel_rfl
theorem ZY(a:Value)(b:a.oneCell'=true)(w:World):(Instr.build 86 #[(0,a)]).run Tryz.prog w=.ok (.agg #[a,.int .i64 0]) w:=by cases a <;> first | (simp [Value.oneCell'] at b;done) | kernel_rfl
theorem ZZ(a:Value)(b:a.oneCell'=true)(w:World):(Instr.build 96 #[(0,a)]).run Tryz.prog w=.ok (.agg #[a]) w:=by cases a <;> first | (simp [Value.oneCell'] at b;done) | kernel_rfl
theorem Jj(a:Value)(b:Value)(d:b.oneCell'=true)(c:Value)(h2:c.oneCell'=true)(w:World):(Instr.build 98 #[(0,.agg #[a]),(1,b),(2,c)]).run Tryz.prog w=.ok (.agg #[a,b,c]) w:=by cases b <;> first | (simp [Value.oneCell'] at d;done) | cases c <;> first | (simp [Value.oneCell'] at h2;done) | kernel_rfl
theorem T6(a:Value)(d:a.oneCell'=true)(b:Int)(c:Int)(w:World):(Instr.build 135 #[(0,a),(1,.int .i64 b),(2,.int .i64 c)]).run Tryz.prog w=.ok (.agg #[a,.int .i64 b,.int .i64 c]) w:=by cases a <;> first | (simp [Value.oneCell'] at d;done) | kernel_rfl
theorem Yv(a:Int)(w:World):(Instr.build 135 #[(1,.int .i64 a)]).run Tryz.prog w=.ok (.agg #[.string .empty,.int .i64 a,.int .i64 0]) w:=by kernel_rfl
theorem Vw(a:Int)(b:Int)(w:World):(Instr.build 137 #[(0,.int .i64 a),(1,.int .i64 b)]).run Tryz.prog w=.ok (.agg #[.int .i64 a,.int .i64 b]) w:=by kernel_rfl
theorem Yw(a:Int)(w:World):(Instr.build 137 #[(1,.int .i64 a)]).run Tryz.prog w=.ok (.agg #[.int .i64 0,.int .i64 a]) w:=by kernel_rfl
theorem R7(a:Value)(e:a.oneCell'=true)(c:Int)(d:Int)(b:Value)(h3:b.oneCell'=true)(w:World):(Instr.build 142 #[(0,a),(1,.int .i64 c),(2,.int .i64 d),(3,b)]).run Tryz.prog w=.ok (.agg #[a,.int .i64 c,.int .i64 d,b]) w:=by cases a <;> first | (simp [Value.oneCell'] at e;done) | cases b <;> first | (simp [Value.oneCell'] at h3;done) | kernel_rfl
theorem GU(b c d e f g h i j k a:Int)(w:World):(Instr.build 173 #[(0,.int .i64 b),(1,.int .i64 c),(2,.int .i64 d),(3,.int .i64 e),(4,.int .i64 f),(5,.int .i64 g),(6,.int .i64 h),(7,.int .i64 i),(8,.int .i64 j),(9,.int .i64 k),(10,.int .i64 a)]).run Tryz.prog w=.ok (.agg #[.int .i64 b,.int .i64 c,.int .i64 d,.int .i64 e,.int .i64 f,.int .i64 g,.int .i64 h,.int .i64 i,.int .i64 j,.int .i64 k,.int .i64 a]) w:=by kernel_rfl
theorem Vx(a:Value)(c:a.oneCell'=true)(b:Value)(d:b.oneCell'=true)(w:World):(Instr.build 192 #[(0,a),(1,b)]).run Tryz.prog w=.ok (.agg #[a,b]) w:=by cases a <;> first | (simp [Value.oneCell'] at c;done) | cases b <;> first | (simp [Value.oneCell'] at d;done) | kernel_rfl
theorem Vy(a b c d:Value)(e:Value)(f:e.oneCell'=true)(w:World):(Instr.build 203 #[(0,.agg #[a,b,c,d]),(1,e)]).run Tryz.prog w=.ok (.agg #[a,b,c,d,e]) w:=by cases e <;> first | (simp [Value.oneCell'] at f;done) | kernel_rfl
theorem Aaa(w:World):(Instr.buildSlice 22 0 #[]).run Tryz.prog w=.ok (.slice (some ⟨w.heap.size,0,none⟩) 0 0) (w.alloc (.cells #[] 9)):=by kernel_rfl
theorem OT(a:Value)(b:a.oneCell'=true)(w:World):(Instr.buildSlice 22 1 #[(0,a)]).run Tryz.prog w=.ok (.slice (some ⟨w.heap.size,0,none⟩) 1 1) (w.alloc (.cells #[a] 9)):=by cases a <;> first | (simp [Value.oneCell'] at b;done) | kernel_rfl
theorem Aab(a:Value)(c:a.oneCell'=true)(b:Value)(d:b.oneCell'=true)(w:World):(Instr.buildSlice 22 2 #[(0,a),(1,b)]).run Tryz.prog w=.ok (.slice (some ⟨w.heap.size,0,none⟩) 2 2) (w.alloc (.cells #[a,b] 9)):=
 (R3 (qs:=#[(0,.agg #[a]),(1,.agg #[b])]) (by show([(0,a.cells),(1,b.cells)]:List (Nat×Array Value))=[(0,(Value.agg #[a]).cells),(1,(Value.agg #[b]).cells)];rw [Ij c,Ij d])).trans (by kernel_rfl)
theorem Aac(w:World):(Instr.buildSlice 23 0 #[]).run Tryz.prog w=.ok (.slice (some ⟨w.heap.size,0,none⟩) 0 0) (w.alloc (.cells #[] 5)):=by kernel_rfl
theorem Ik(a:Int)(w:World):(Instr.buildSlice 23 1 #[(0,.int .u8 a)]).run Tryz.prog w=.ok (.slice (some ⟨w.heap.size,0,none⟩) 1 1) (w.alloc (.cells #[.int .u8 a] 5)):=by kernel_rfl
theorem Wm(a:Int)(b:Int)(w:World):(Instr.buildSlice 23 2 #[(0,.int .u8 a),(1,.int .u8 b)]).run Tryz.prog w=.ok (.slice (some ⟨w.heap.size,0,none⟩) 2 2) (w.alloc (.cells #[.int .u8 a,.int .u8 b] 5)):=by kernel_rfl
theorem T7(a:Int)(b:Int)(c:Int)(w:World):(Instr.buildSlice 23 3 #[(0,.int .u8 a),(1,.int .u8 b),(2,.int .u8 c)]).run Tryz.prog w=.ok (.slice (some ⟨w.heap.size,0,none⟩) 3 3) (w.alloc (.cells #[.int .u8 a,.int .u8 b,.int .u8 c] 5)):=by kernel_rfl
theorem Lx(a b c d e f g:Value)(w:World):(Instr.buildSlice 24 1 #[(0,.agg #[a,b,c,d,e,f,g])]).run Tryz.prog w=.ok (.slice (some ⟨w.heap.size,0,none⟩) 1 1) (w.alloc (.cells #[a,b,c,d,e,f,g] 26)):=by kernel_rfl
theorem Aad(a b c d e f:Value)(g h i j k l:Value)(w:World):(Instr.buildSlice 42 2 #[(0,.agg #[a,b,c,d,e,f]),(1,.agg #[g,h,i,j,k,l])]).run Tryz.prog w=.ok (.slice (some ⟨w.heap.size,0,none⟩) 2 2) (w.alloc (.cells #[a,b,c,d,e,f,g,h,i,j,k,l] 66)):=by kernel_rfl
theorem QN(a:Bool)(b:Bool)(w:World):(Instr.buildSlice 43 2 #[(0,.bool a),(1,.bool b)]).run Tryz.prog w=.ok (.slice (some ⟨w.heap.size,0,none⟩) 2 2) (w.alloc (.cells #[.bool a,.bool b] 4)):=by kernel_rfl
theorem Aae(a b:Value)(w:World):(Instr.buildSlice 44 1 #[(0,.agg #[a,b])]).run Tryz.prog w=.ok (.slice (some ⟨w.heap.size,0,none⟩) 1 1) (w.alloc (.cells #[a,b] 192)):=by kernel_rfl
theorem Aaf(a b c d e:Value)(w:World):(Instr.buildSlice 47 1 #[(0,.agg #[a,b,c,d,e])]).run Tryz.prog w=.ok (.slice (some ⟨w.heap.size,0,none⟩) 1 1) (w.alloc (.cells #[a,b,c,d,e] 203)):=by kernel_rfl
theorem OU(a b c:Value)(w:World):(Instr.buildSlice 50 1 #[(0,.agg #[a,b,c])]).run Tryz.prog w=.ok (.slice (some ⟨w.heap.size,0,none⟩) 1 1) (w.alloc (.cells #[a,b,c] 98)):=by kernel_rfl
theorem Aag(w:World):(Instr.buildSlice 58 0 #[]).run Tryz.prog w=.ok (.slice (some ⟨w.heap.size,0,none⟩) 0 0) (w.alloc (.cells #[] 3)):=by kernel_rfl
theorem Il(a:Int)(w:World):(Instr.buildSlice 58 1 #[(0,.int .i64 a)]).run Tryz.prog w=.ok (.slice (some ⟨w.heap.size,0,none⟩) 1 1) (w.alloc (.cells #[.int .i64 a] 3)):=by kernel_rfl
theorem Wn(a:Int)(b:Int)(w:World):(Instr.buildSlice 58 2 #[(0,.int .i64 a),(1,.int .i64 b)]).run Tryz.prog w=.ok (.slice (some ⟨w.heap.size,0,none⟩) 2 2) (w.alloc (.cells #[.int .i64 a,.int .i64 b] 3)):=by kernel_rfl
theorem Wo(a:Int)(b:Int)(c:Int)(d:Int)(w:World):(Instr.buildSlice 58 4 #[(0,.int .i64 a),(1,.int .i64 b),(2,.int .i64 c),(3,.int .i64 d)]).run Tryz.prog w=.ok (.slice (some ⟨w.heap.size,0,none⟩) 4 4) (w.alloc (.cells #[.int .i64 a,.int .i64 b,.int .i64 c,.int .i64 d] 3)):=by kernel_rfl
theorem IL(a b c d e:Value)(w:World):(Instr.buildSlice 62 1 #[(0,.agg #[a,b,c,d,e])]).run Tryz.prog w=.ok (.slice (some ⟨w.heap.size,0,none⟩) 1 1) (w.alloc (.cells #[a,b,c,d,e] 64)):=by kernel_rfl
theorem K8(a:Value)(b:a.oneCell'=true)(w:World):(Instr.buildSlice 94 1 #[(0,a)]).run Tryz.prog w=.ok (.slice (some ⟨w.heap.size,0,none⟩) 1 1) (w.alloc (.cells #[a] 23)):=by cases a <;> first | (simp [Value.oneCell'] at b;done) | kernel_rfl
theorem OV(a:Value)(f:a.oneCell'=true)(b:Value)(g:b.oneCell'=true)(c:Value)(h2:c.oneCell'=true)(d:Value)(h3:d.oneCell'=true)(e:Value)(h:e.oneCell'=true)(w:World):(Instr.buildSlice 94 5 #[(0,a),(1,b),(2,c),(3,d),(4,e)]).run Tryz.prog w=.ok (.slice (some ⟨w.heap.size,0,none⟩) 5 5) (w.alloc (.cells #[a,b,c,d,e] 23)):=
 (R3 (qs:=#[(0,.agg #[a]),(1,.agg #[b]),(2,.agg #[c]),(3,.agg #[d]),(4,.agg #[e])]) (by show([(0,a.cells),(1,b.cells),(2,c.cells),(3,d.cells),(4,e.cells)]:List (Nat×Array Value))=[(0,(Value.agg #[a]).cells),(1,(Value.agg #[b]).cells),(2,(Value.agg #[c]).cells),(3,(Value.agg #[d]).cells),(4,(Value.agg #[e]).cells)];rw [Ij f,Ij g,Ij h2,Ij h3,Ij h])).trans (by kernel_rfl)
theorem Yx(w:World):(Instr.buildSlice 109 0 #[]).run Tryz.prog w=.ok (.slice (some ⟨w.heap.size,0,none⟩) 0 0) (w.alloc (.cells #[] 137)):=by kernel_rfl
theorem Yy(a b:Value)(w:World):(Instr.buildSlice 109 1 #[(0,.agg #[a,b])]).run Tryz.prog w=.ok (.slice (some ⟨w.heap.size,0,none⟩) 1 1) (w.alloc (.cells #[a,b] 137)):=by kernel_rfl
theorem U9(a b c:Value)(w:World):(Instr.buildSlice 131 1 #[(0,.agg #[a,b,c])]).run Tryz.prog w=.ok (.slice (some ⟨w.heap.size,0,none⟩) 1 1) (w.alloc (.cells #[a,b,c] 135)):=by kernel_rfl
theorem Yz(a:Value)(c:a.oneCell'=true)(b:Value)(d:b.oneCell'=true)(w:World):(Instr.buildSlice 180 2 #[(0,a),(1,b)]).run Tryz.prog w=.ok (.slice (some ⟨w.heap.size,0,none⟩) 2 2) (w.alloc (.cells #[a,b] 58)):=
 (R3 (qs:=#[(0,.agg #[a]),(1,.agg #[b])]) (by show([(0,a.cells),(1,b.cells)]:List (Nat×Array Value))=[(0,(Value.agg #[a]).cells),(1,(Value.agg #[b]).cells)];rw [Ij c,Ij d])).trans (by kernel_rfl)
theorem Y0(a b c d:Value)(w:World):(Instr.buildSlice 196 1 #[(0,.agg #[a,b,c,d])]).run Tryz.prog w=.ok (.slice (some ⟨w.heap.size,0,none⟩) 1 1) (w.alloc (.cells #[a,b,c,d] 142)):=by kernel_rfl
theorem I6:Tryz.prog.eqGuardType Tryz.prog.depth 28=false:=by kernel_rfl
theorem Lp(a b c e:Int)(w:World):(Op.equalIn 10000 28 (.agg #[.int .i64 a,.int .i64 b]) (.agg #[.int .i64 c,.int .i64 e])).run Tryz.prog w=.ok (decide (a=c∧b=e)) w:=
 Abm (by kernel_rfl) (by kernel_rfl) (by kernel_rfl : (Tryz.prog.fieldsOf 28).toList = [{ name := "Code", type := 3, offset := 0, embedded := false, tag := "", pkgPath := "", byteOffset := 0 }, { name := "Index", type := 3, offset := 1, embedded := false, tag := "", pkgPath := "", byteOffset := 8 }]) ⟨by decide, rfl⟩ ⟨by decide, rfl⟩ Tryz.underlying3 Tryz.underlying3 a b c e w
theorem Acr(s m:List UInt8)(x y:Int)(a b:List UInt8)(c y2:Int)(w:World):(Op.equalIn 10000 142 (.agg #[.string ⟨s.toArray⟩,.int .i64 x,.int .i64 y,.string ⟨m.toArray⟩]) (.agg #[.string ⟨a.toArray⟩,.int .i64 c,.int .i64 y2,.string ⟨b.toArray⟩])).run Tryz.prog w=.ok (decide (s=a∧x=c∧y=y2∧m=b)) w:=
 Acn (by kernel_rfl) (by kernel_rfl) (by kernel_rfl : (Tryz.prog.fieldsOf 142).toList = [{ name := "path", type := 9, offset := 0, embedded := false, tag := "", pkgPath := "scriptorium/shapes", byteOffset := 0 }, { name := "kind", type := 3, offset := 1, embedded := false, tag := "", pkgPath := "scriptorium/shapes", byteOffset := 16 }, { name := "number", type := 3, offset := 2, embedded := false, tag := "", pkgPath := "scriptorium/shapes", byteOffset := 24 }, { name := "text", type := 9, offset := 3, embedded := false, tag := "", pkgPath := "scriptorium/shapes", byteOffset := 32 }]) ⟨by decide, rfl⟩ ⟨by decide, rfl⟩ ⟨by decide, rfl⟩ ⟨by decide, rfl⟩ Tryz.underlying9 Tryz.underlying3 Tryz.underlying3 Tryz.underlying9 s m x y a b c y2 w
theorem Ab6:MM Tryz.prog 9 encS:=WO Tryz.underlying9
theorem Y1:MM Tryz.prog 142 Ji:=Ym Tryz.underlying142 (fun _ _ _ _ _ _=>by kernel_rfl) (fun s a m b x c y y2 w=>Acr s m x y a b c y2 w)
end Go.Proofs.YtekmbcbgknmhiaaGreatDoor
end
noncomputable section
namespace Go.Proofs.YtekmbcbgknmhiaaGreatDoor
open Go Go.E Go.RowKit Go.Shelf
def D9(H:PH):Prop:=
 ((∀ c,c<256→Gu H ⟨Tryz.Ie.g 2,c,none⟩=some (.int .u8 (Lib.firstT c)))∧
 (∀ i,i<16→Gu H ⟨Tryz.Ie.g 3,2 * i,none⟩=some (.int .u8 (Lib.accLo i))∧Gu H ⟨Tryz.Ie.g 3,2 * i+1,none⟩=some (.int .u8 (Lib.accHi i))))∧
 (∀ w, Le H (hp w) → Lib.TabIs Tryz.prog w "internal/strconv.uint64pow10" .u64 Lib.pow10Tab) ∧
 (∃ t p,Gu H ⟨Tryz.Ng.g 15,0,none⟩=some (.iface t p))∧(∃ t p,Gu H ⟨Tryz.Ng.g 16,0,none⟩=some (.iface t p))
theorem D9.mono{H H':PH}(h:D9 H)(hs:Le H H'):D9 H':=by
 obtain⟨a,h2,⟨t,p,h3⟩,⟨t',p',b⟩⟩:=h;exact⟨⟨fun c hc=>GV hs (a.1 c hc),fun i hi=>⟨GV hs (a.2 i hi).1,GV hs (a.2 i hi).2⟩⟩,fun w hw=>h2 w (hs.trans hw),⟨t,p,GV hs h3⟩,⟨t',p',GV hs b⟩⟩
theorem D9.AcL{w:World}(h:D9 (hp w)):Lib.Utf8Tabs (Tryz.Ie.g 2) (Tryz.Ie.g 3) w:=⟨h.1.1,h.1.2⟩
def Xa(l:List UInt8):Option (Int×Int):=Go.L.AU (l≠[]) (some (((Lib.decodeGo ⟨l.toArray⟩).1:Int),((Lib.decodeGo ⟨l.toArray⟩).2:Int)))
theorem AaW(w:World)(H:PH)(hH:Le H (hp w))(hU:D9 H){u:Value}{l:List UInt8}(ha:AI .byte H u l){r:Int×Int}(h:Xa l=some r):
  Ok Tryz.prog 232 [u] w (fun v w'=>Ext w w'∧v=.tuple #[.int .i32 r.1,.int .i64 r.2]):=by
 obtain⟨hk,h⟩:=Go.L.EN h;obtain rfl:=Option.some.inj h;have hs:(ByteArray.mk l.toArray).size=l.length:=by simp [ByteArray.size]
 obtain⟨a,cap,rfl,h2,h3,f,g⟩:=ha.ex
 cases a with
 | none=>exact absurd (List.eq_nil_of_length_eq_zero (by have:=f rfl;omega)) hk
 | some A=>
  obtain⟨d,i⟩:=g A rfl hk;obtain⟨b,off,sp⟩:=A;simp only at d;subst d
  have hc:=Any7.utf8_DecodeRune Tryz.X6 ⟨l.toArray⟩ b off cap w (hU.mono hH).AcL (fun j hj=>by
   rw [hs] at hj;obtain⟨c,hc,hcell⟩:=i j l[j] (List.getElem?_eq_getElem hj);obtain rfl:c=[.int .u8 (l[j].toNat:Int)]:=hc;have:=cell_of hH (hcell 0 _ rfl);rw [show(Rp.byte).sz=1 from rfl,Nat.mul_one,Nat.add_zero,Addr.add_lit] at this;rw [this];have e:(ByteArray.mk l.toArray).get! j=l[j]:=by simp [ByteArray.get!,hj]
   rw [e])
  rw [hs] at hc;refine⟨⟨Tryz.f232,_,Tryz.func232,rfl,rfl⟩,hc.mono fun e w' he=>?_⟩;obtain⟨rfl,hb⟩:=he;exact⟨_,rfl,Ext.off hb,rfl⟩
theorem Vz(w:World)(k:Nat)(os:Array Obj):Below w.heap.size w (Go.Sort.grow (w.drewN k) os):=
 ⟨rfl,rfl,rfl,by simp [Go.Sort.grow,World.drewN],fun j hj=>by
  simp only [Go.Sort.grow,World.drewN];rw [Array.getElem?_append_left hj]⟩
def OW(n:Int):Option (List UInt8):=Go.L.AU (-9223372036854775808≤n∧n≤9223372036854775807) (some (Lib.itoa n))
theorem T8(w:World)(H:PH)(hH:Le H (hp w))(hU:D9 H){a0:Int}{r:List UInt8}(h:OW a0=some r):Ok Tryz.prog 64 [.int .i64 a0] w (fun v w'=>Ext w w'∧v=.string ⟨r.toArray⟩):=by
 obtain⟨hk,h⟩:=Go.L.EN h;obtain rfl:=Option.some.inj h;refine⟨⟨Tryz.f64,_,Tryz.func64,rfl,rfl⟩,(Any.strconv_Itoa Tryz.Z0 a0 hk.1 hk.2 w (hU.2.1 w hH)).mono fun e w' he=>?_⟩;obtain⟨rfl,k,os,rfl⟩:=he;exact⟨_,rfl,Ext.off (Vz _ _ _),rfl⟩
theorem Y2(w:World)(H:PH)(_hH:Le H (hp w)){a:Int}:Ok Tryz.prog 220 [.int .i64 a] w (fun v w'=>Ext w w'∧v=.bool (decide ((8:Int)<a))):=by
 refine⟨⟨Tryz.f220,_,Tryz.func220,rfl,rfl⟩,(Any.strings_shouldUseASCIISet (ρ:=Tryz.Py) {Tryz.X7 with} a w).mono fun e w' he=>?_⟩;obtain⟨rfl,rfl⟩:=he;exact⟨_,rfl,Ext.refl _,rfl⟩
def Wp(l:List UInt8):Option (Int×Bool):=Go.L.AU (l.length≤281474976710656) (some (match Lib.atoiAll l with
 | .ok v=>(v,true)
 | .range=>(Lib.atoiSat l,false)
 | _=>(0,false)))
theorem Aah(w:World)(H:PH)(hH:Le H (hp w))(hU:D9 H){a0:List UInt8}{r:Int×Bool}(h:Wp a0=some r):Ok Tryz.prog 169 [.string ⟨a0.toArray⟩] w (fun v w'=>Ext w w'∧∃ e,v=.tuple #[.int .i64 r.1,e]∧(r.2=true→e=.nilIface)∧(r.2=false→∃ t p,e=.iface t p)):=by
 obtain⟨hk,h⟩:=Go.L.EN h;obtain rfl:=Option.some.inj h;have hs:(ByteArray.mk a0.toArray).size=a0.length:=by simp [ByteArray.size]
 obtain⟨_,_,⟨ts,vs,h3⟩,⟨tr,vr,a⟩⟩:=hU;have b:=cell_of hH h3;have c:=cell_of hH a;refine⟨⟨Tryz.f169,_,Tryz.func169,rfl,rfl⟩,?_⟩
 cases hq:Lib.atoiAll a0 with
 | ok v=>
  refine(Any.strconv_Atoi_ok (P:=Tryz.prog) Tryz.Tg ⟨a0.toArray⟩ (by rw [hs];omega) v (by simpa using hq) w).mono fun e w' he=>?_;obtain⟨rfl,hw⟩:=he;refine⟨_,rfl,?_,_,rfl,fun _=>rfl,fun h=>by cases h⟩
  rcases hw with rfl | ⟨t,rfl⟩
  ·exact Ext.refl _
  ·exact Ext.off (Lib.bytesWorld_below _ _ _)
 | range=>
  refine(Any.strconv_Atoi_range (P:=Tryz.prog) Tryz.Tg ⟨a0.toArray⟩ (by rw [hs];exact hk) (by simpa using hq) _ w c (.inr ⟨_,_,rfl⟩)).mono fun e w' he=>?_;obtain⟨n,rfl,_,_,hb⟩:=he;exact⟨_,rfl,Ext.off hb,_,rfl,fun h=>(by cases h),fun _=>⟨_,_,rfl⟩⟩
 | _=>
  refine(Any.strconv_Atoi_syntax (P:=Tryz.prog) Tryz.Tg ⟨a0.toArray⟩ (by rw [hs];exact hk) (by simpa using hq) _ w b (.inr ⟨_,_,rfl⟩)).mono fun e w' he=>?_;obtain⟨n,rfl,_,_,hb⟩:=he;exact⟨_,rfl,Ext.off hb,_,rfl,fun h=>(by cases h),fun _=>⟨_,_,rfl⟩⟩
def pieces(s:List UInt8):List (List UInt8):=Lib.split s [47]
def Mb(s sep:List UInt8)(sv n:Int):Option (List (List UInt8)):=Go.L.AU (s.length<4294967281∧sep.length=1∧sv=0∧n = -1) (some (Lib.split s sep))
theorem UA(G:PH):∀ l:List (List UInt8),AJ Rp.st G l (l.map Go.Proofs.encStr)
 | []=>.nil
 | _::l=>.cons (c:=[_]) rfl (UA G l)
theorem UB(w:World)(H:PH)(_hH:Le H (hp w)){a0 a1:List UInt8}{a2 a3:Int}{r:List (List UInt8)}(h:Mb a0 a1 a2 a3=some r):
  Ok Tryz.prog 166 [.string ⟨a0.toArray⟩,.string ⟨a1.toArray⟩,.int .i64 a2,.int .i64 a3] w (fun v w'=>Ext w w'∧∃ u0,v=u0∧C2 9 .st H w w' u0 r):=by
 obtain⟨hk,h⟩:=Go.L.EN h;obtain rfl:=Option.some.inj h;obtain⟨h1,h2,rfl,rfl⟩:=hk;obtain⟨sb,rfl⟩:=List.length_eq_one_iff.1 h2;have hsz:(ByteArray.mk a0.toArray).size=a0.length:=by simp [ByteArray.size]
 obtain⟨N,hN⟩:∃ N,N=Lib.countB ⟨a0.toArray⟩ ⟨#[sb]⟩+1:=⟨_,rfl⟩;have hle:Lib.countB ⟨a0.toArray⟩ ⟨#[sb]⟩≤(ByteArray.mk a0.toArray).size:=Lib.countB_le ⟨#[sb]⟩ (Nat.le_refl 1) _ _ (Nat.le_refl _)
 have c:=Any.strings_genSplit_core (P:=Tryz.prog) (ρ:=Tryz.K6) {Tryz.QT with} (by kernel_rfl) ⟨a0.toArray⟩ ⟨#[sb]⟩ 0 (-1) N w (by rw [hsz];exact h1) (Nat.le_refl 1) (Nat.zero_le _)
  (fun x cc hx=>(Any.strings_Index_one (P:=Tryz.prog) (ρ:=Tryz.K6) {Tryz.QT with} x sb _).mono fun e w' ⟨he,hw⟩=>⟨by rw [he];exact congrArg (fun z=>Ending.returned (Value.int .i64 z)) (Lib.index_one x.data.toList sb).symm,hw⟩)
  ((Any.strings_Count_one (P:=Tryz.prog) (ρ:=Tryz.K6) {Tryz.QT with} ⟨a0.toArray⟩ sb w).mono fun e w' ⟨he,hw⟩=>⟨by rw [he];exact congrArg (fun z:Nat=>Ending.returned (Value.int .i64 (z:Int))) (Lib.count_one sb _).symm,hw⟩)
  (by decide) (by decide) (by rw [if_pos (by decide),hN];omega)
 refine⟨⟨Tryz.f166,_,Tryz.func166,rfl,rfl⟩,c.mono fun e w' he=>?_⟩;obtain⟨rfl,rfl⟩:=he
 have hl:(Lib.splitB ⟨#[sb]⟩ 0 (N - 1) ⟨a0.toArray⟩).length=N:=by
  have:=Lib.splitB_all ⟨#[sb]⟩ (Nat.le_refl 1) 0 (N - 1) ⟨a0.toArray⟩ (by omega);omega
 have hd:=Lib.splitB_data ⟨#[sb]⟩ 0 (N - 1) ⟨a0.toArray⟩
 have hpc:(Lib.splitB ⟨#[sb]⟩ 0 (N - 1) ⟨a0.toArray⟩).map (fun b=>b.data.toList)=Lib.split a0 [sb]:=by
  rw [hd];unfold Lib.split;rw [hN]
  rfl
 have hpl:(Lib.split a0 [sb]).length=N:=by rw [← hpc,List.length_map,hl]
 have hmp:(Lib.splitB ⟨#[sb]⟩ 0 (N - 1) ⟨a0.toArray⟩).map Value.string=(Lib.split a0 [sb]).map Go.Proofs.encStr:=by
  rw [← hpc,List.map_map];apply List.map_congr_left;intro b _
  show Value.string b=Value.string ⟨b.data.toList.toArray⟩
  rw [Array.toArray_toList]
 refine⟨_,rfl,C0 w _,_,rfl,(Lib.split a0 [sb]).map Go.Proofs.encStr,?_,UA _ _⟩;refine⟨by rw [List.length_map];exact(Nat.mul_one _).symm,.inr ⟨w.heap.size,N,_,?_,Nat.le_refl _,World.alloc_heap_new w _,?_,?_,?_,?_⟩⟩
 ·rw [hl,hpl]
 ·omega
 ·unfold maxLen;omega
 ·rw [Lib.cellsOf_size (by omega)];exact(Nat.mul_one _).symm
 ·have e1:Lib.cellsOf (Lib.splitB ⟨#[sb]⟩ 0 (N - 1) ⟨a0.toArray⟩) N=((Lib.splitB ⟨#[sb]⟩ 0 (N - 1) ⟨a0.toArray⟩).map Value.string).toArray:=by
   have:=Lib.cellsOf_full (Lib.splitB ⟨#[sb]⟩ 0 (N - 1) ⟨a0.toArray⟩)
   rwa [hl] at this
  rw [e1,hmp];exact List.take_of_length_le (by rw [List.length_map];exact Nat.le_of_eq (Nat.mul_one _).symm)
def Nv(a:List UInt8)(c:UInt8):Option Int:=some (Lib.indexByte a c)
theorem QO(w:World)(H:PH)(_hH:Le H (hp w)){a0:List UInt8}{a1:UInt8}{r:Int}(h:Nv a0 a1=some r):
  Ok Tryz.prog 168 [.string ⟨a0.toArray⟩,.int .u8 (a1.toNat:Int)] w (fun v w'=>Ext w w'∧v=.int .i64 r):=by
 obtain rfl:=Option.some.inj h;refine⟨⟨Tryz.f168,_,Tryz.func168,rfl,rfl⟩,(Any.strings_IndexByte Tryz.AbV ⟨a0.toArray⟩ (a1.toNat:Int) w).mono fun e w' he=>?_⟩;obtain⟨rfl,rfl⟩:=he;refine⟨_,rfl,Ext.refl _,?_⟩;have e:((a1.toNat:Int).toNat).toUInt8=a1:=by simp
 rw [e]
def Qm(a:List (List UInt8))(sep:List UInt8):Option (List UInt8):=Go.L.AU (a.length≤140737488355328∧(Lib.join a sep).length≤140737488355328) (some (Lib.join a sep))
theorem T9(w:World)(H:PH)(hH:Le H (hp w)){a0:List (List UInt8)}{a1:List UInt8}{v:Value}(hv:AI .st H v a0){r:List UInt8}(h:Qm a0 a1=some r):
  Ok Tryz.prog 63 [v,.string ⟨a1.toArray⟩] w (fun v w'=>Ext w w'∧v=.string ⟨r.toArray⟩):=by
 obtain⟨⟨h1,h2⟩,h⟩:=Go.L.EN h;obtain rfl:=Option.some.inj h
 have X:Builder.Extra Tryz.prog Tryz.Qe:={
  liesBuilder:=by kernel_rfl
  sizeBuilder:=by kernel_rfl
  t5:=by kernel_rfl
  a5:=fun w=>by kernel_rfl
  z5:=fun w=>by kernel_rfl
  v5:=fun w=>by kernel_rfl
  infoByte:=by kernel_rfl
  cellsByte:=by kernel_rfl
  sizeByte:=by kernel_rfl
  neB5:=by decide}
 obtain⟨a,cap,rfl,k2,k3,k4,k5⟩:=hv.ex
 have key:∀ (P:Prop),((a0=[]→P)∧(∀ A,a=some A→a0≠[]→P))→P:=fun P hP=>by
  by_cases ha:a0=[]
  ·exact hP.1 ha
  ·cases a with
   | none=>exact absurd (List.eq_nil_of_length_eq_zero (by have:=k4 rfl;omega)) ha
   | some A=>exact hP.2 A rfl ha
 refine key _ ⟨fun he=>?_,fun A hA hne=>?_⟩
 ·subst he;refine⟨⟨Tryz.f63,_,Tryz.func63,rfl,rfl⟩,(Any.strings_Join_none Tryz.VJ X a cap ⟨a1.toArray⟩ w).mono fun e w' hh=>?_⟩;obtain⟨rfl,rfl⟩:=hh;exact⟨_,rfl,Ext.refl _,rfl⟩
 ·subst hA;obtain⟨k6,k7⟩:=k5 A rfl hne;obtain⟨b,o,sp⟩:=A;simp only at k6;subst k6
  have hcell:∀ (j:Nat) x,(a0.map fun l=>(⟨l.toArray⟩:ByteArray))[j]? = some x→w.cell? ⟨b,o+j,none⟩=some (.string x):=fun j x hx=>by
   rw [List.getElem?_map] at hx
   cases hj:a0[j]? with
   | none=>rw [hj] at hx;cases hx
   | some l=>
    rw [hj] at hx;obtain rfl:=Option.some.inj hx;obtain⟨c,hc,hcell⟩:=k7 j l hj;obtain rfl:c=[.string ⟨l.toArray⟩]:=hc;have:=cell_of hH (hcell 0 _ rfl)
    rwa [show(Rp.st).sz=1 from rfl,Nat.mul_one,Nat.add_zero,Addr.add_lit] at this
  have hpos:0<a0.length:=List.length_pos_iff.2 hne
  have hb:b<w.heap.size:=by
   have h0:=hcell 0 ⟨(a0[0]'hpos).toArray⟩ (by simp [hpos]);exact World.block_lt_of_cell? _ _ h0
  have e2:(a0.map fun l=>(⟨l.toArray⟩:ByteArray)).map (·.data.toList)=a0:=by rw [List.map_map];exact(List.map_congr_left (fun l _=>by simp)).trans (List.map_id _)
  have c:=Any.strings_Join Tryz.VJ X b o cap (a0.map fun l=>(⟨l.toArray⟩:ByteArray)) ⟨a1.toArray⟩ w hcell hb (by rw [List.length_map];exact h1) (by rw [List.length_map];omega) (by rw [e2];simpa using h2);rw [e2,List.length_map] at c;refine⟨⟨Tryz.f63,_,Tryz.func63,rfl,rfl⟩,c.mono fun e w' hh=>?_⟩;obtain⟨rfl,hb'⟩:=hh;exact⟨_,rfl,Ext.off hb',by simp⟩
end Go.Proofs.YtekmbcbgknmhiaaGreatDoor
end
noncomputable section
namespace Go
abbrev No:Int→Value:=Value.int .i64
abbrev Aat:Value:=.slice none 0 0
abbrev AaH(b:Nat):Value:=.pointer (some ⟨b,0,none⟩)
abbrev AaJ(l:List UInt8):Value:=.string ⟨l.toArray⟩
abbrev AaK:=List UInt8
end Go
namespace Go.Proofs.YtekmbcbgknmhiaaGreatDoor
open Go Go.E Go.RowKit Go.L
set_option maxHeartbeats 1000000
set_option maxRecDepth 10000
open _root_.Go.Proofs.Tryz
def CX(a0:AaK)(a1:AaK):Option (Int):=
 some ((Lib.compareBytes a0 a1))
theorem Jo[Dr](w:World)(H:PH)(_hH:Le H (hp w)){a0:AaK}{a1:AaK}{r:Int}(h:CX a0 a1=some r):
  Ok Tryz.prog 238 [AaJ a0,AaJ a1] w (fun v w'=>Ext w w'∧v=No r):=by
 refine A4 (n:=8) [(0,(AaJ a0)),(1,(AaJ a1))] func238 rfl rfl rfl rfl rfl ?_;have hL:=AO.start w;refine A9 1 rfl<|Bk 2 rfl<|Ae (Abr func304 rfl rfl (by kernel_rfl) (by kernel_rfl) rfl rfl) rfl<|AA 1 rfl<|Ay ?_
 cases h
 refine Am rfl rfl ?_;exact⟨hL.ext,rfl⟩
def strings_Compare(a0:AaK)(a1:AaK):Option (Int):=
 Option.bind (CX a0 a1) (fun a=>some (a))
theorem Jd[Dr](w:World)(H:PH)(hH:Le H (hp w)){a0:AaK}{a1:AaK}{r:Int}(h:strings_Compare a0 a1=some r):
  Ok Tryz.prog 188 [AaJ a0,AaJ a1] w (fun v w'=>Ext w w'∧v=No r):=by
 refine A4 (n:=8) [(0,(AaJ a0)),(1,(AaJ a1))] func188 rfl rfl rfl rfl rfl ?_;have hL:=AO.start w;refine A9 1 rfl<|Bk 2 rfl ?_;refine Ax h fun e a h=>?_;refine AF rfl rfl hL (Jo _ _ (As hH hL) a) fun f d b c=>AA 1 rfl<|Ay ?_
 cases h
 refine Am rfl rfl ?_;exact⟨b.ext,rfl⟩
def cmp_isNaN_int(a0:Int):Option (Bool):=
 some (!decide (a0=a0))
theorem Mc[Dr](w:World)(H:PH)(_hH:Le H (hp w)){a0:Int}{r:Bool}(h:cmp_isNaN_int a0=some r):
  Ok Tryz.prog 239 [No a0] w (fun v w'=>Ext w w'∧v=.bool r):=by
 refine A4 (n:=6) [(0,No a0)] func239 rfl rfl rfl rfl rfl ?_;have hL:=AO.start w;refine A9 1 rfl<|A9 4 rfl<|Ay ?_
 cases h
 refine Am rfl rfl ?_;exact⟨hL.ext,rfl⟩
def Hs(a0:Int)(a1:Int):Option (Int):=
 Option.bind (cmp_isNaN_int a0) (fun b=>Option.bind (cmp_isNaN_int a1) (fun a=>if b then(if a then some ((0:Int)) else some ((-1:Int))) else(if a then some ((1:Int)) else(if a0<a1 then some ((-1:Int)) else(if a1<a0 then some ((1:Int)) else some ((0:Int)))))))
theorem KT[Dr](w:World)(H:PH)(hH:Le H (hp w)){a0:Int}{a1:Int}{r:Int}(h:Hs a0 a1=some r):
  Ok Tryz.prog 189 [No a0,No a1] w (fun v w'=>Ext w w'∧v=No r):=by
 refine A4 (n:=20) [(0,No a0),(1,No a1)] func189 rfl rfl rfl rfl rfl ?_;have hL:=AO.start w;refine A9 1 rfl<|Bk 1 rfl ?_;refine Ax h fun p f h=>?_;refine AF rfl rfl hL (Mc _ _ (As hH hL) f) fun q m b k=>AA 1 rfl<|Bk 1 rfl ?_;refine Ax h fun s g h=>?_;refine AF rfl rfl b (Mc _ _ (As hH b) g) fun t o a l=>AA 1 rfl<|A7<|A9 1 rfl<|Bl rfl h (fun i h=>?_) (fun i h=>?_)
 ·refine A7<|A9 1 rfl<|Bl rfl h (fun j h=>?_) (fun j h=>?_)
  ·refine A9 1 rfl<|Ay ?_
   iterate 2 refine Av ?_
   cases h
   refine Am rfl rfl ?_;exact⟨a.ext,rfl⟩
  refine Au<|Ao<|A9 1 rfl<|Ay<|Av ?_
  cases h
  refine Am rfl rfl ?_;exact⟨a.ext,rfl⟩
 refine Au<|Ao<|A7<|A9 1 rfl<|Bl rfl h (fun c h=>?_) (fun c h=>?_)
 ·refine A9 1 rfl<|Ay<|Av ?_
  cases h
  refine Am rfl rfl ?_;exact⟨a.ext,rfl⟩
 refine Au<|Ao<|A7<|A9 3 rfl<|AM rfl h (fun d h=>?_) (fun d h=>?_)
 ·refine A9 1 rfl<|Ay<|Av ?_
  cases h
  refine Am rfl rfl ?_;exact⟨a.ext,rfl⟩
 refine Au<|Ao<|A7<|A9 3 rfl<|AM rfl h (fun e h=>?_) (fun e h=>?_)
 ·refine A9 1 rfl<|Ay<|Av ?_
  cases h
  refine Am rfl rfl ?_;exact⟨a.ext,rfl⟩
 refine Au<|Ao<|A9 1 rfl<|Ay ?_
 cases h
 refine Am rfl rfl ?_;exact⟨a.ext,rfl⟩
def Ov:Option (Int):=
 some ((0:Int))
def Es(a0:List Int):Int→Option ((Int) ⊕ (Int)):=fun a=>
 if a<(a0.length:Int) then AU (0≤a∧a<(a0.length:Int)) (if a0.getD a.toNat default=(0:Int) then AU (BL (a+(1:Int))) (some (Sum.inl (a+(1:Int)))) else Option.map Sum.inr (some (a0.getD a.toNat default))) else Option.map Sum.inr (Ov)
def Ow(a0:List Int)(s:Int):Option (Int):=Go.L.run (Es a0) s
def M3(a0:List Int):Option (Int):=
 (Ow a0) (0:Int)
theorem Sp[Dr](w:World)(H:PH)(hH:Le H (hp w)){a0:List Int}{b:Value}(e:AI (.int .i64) H b (a0)){r:Int}(h:M3 a0=some r):
  Ok Tryz.prog 187 [b] w (fun v w'=>Ext w w'∧v=No r):=by
 refine A4 (n:=18) [(0,b)] func187 rfl rfl rfl rfl rfl ?_;have hL:=AO.start w;refine A9 1 rfl<|A9 1 rfl<|Bn (σ:=Unit) (fun(_:Unit)=>[(3,No (0:Int))]) (fun(_:Unit) wr=>AO w [] wr∧Ov=some r) ?_ ?_
 ·refine Bk 1 rfl<|Ae (Bo rfl AaR e) rfl<|AA 1 rfl<|A2 ?_;obtain⟨f,h⟩:=AY h;refine Bw (σ:=Int×Nat) (fun⟨a,n⟩=>[(3,No (0:Int)),(6,b),(7,No (a0.length:Int)),(8,No a)]) (fun⟨a,n⟩ wr=>AO w [] wr∧FT (Es a0) n a=some r) (fun⟨a,n⟩=>n) ((0:Int),f) (Sub.of rfl) ⟨hL,h⟩ ?_;rintro⟨a,nn36⟩ o ⟨c,h⟩;obtain⟨f,q,rfl,h,d⟩:=AX h;refine A9 1 rfl<|A7<|AM rfl h (fun i h=>?_) (fun i h=>?_)
  ·refine Au<|Ao<|A7<|A2<|Ak ?_;refine Az h fun g h=>?_;refine Bb rfl rfl AaR Cc e a.toNat (EM g) (AW g) rfl ?_;rintro s _ rfl j;refine Ae (Be rfl AaT rfl j (hH.trans c.arg)) rfl<|AA 1 rfl<|A9 3 rfl<|Cl rfl h (fun k h=>?_) (fun k h=>?_)
   ·refine A9 2 rfl<|Ay<|Aw<|Av<|BK ?_;have h:=BV.out h d;refine Aw<|Bt ?_
    cases h
    refine Am rfl rfl ?_;exact⟨c.ext,rfl⟩
   refine Au<|A8<|Ao<|Ar ?_;refine Az h fun l h=>?_;refine Ae (AK rfl rfl rfl l) rfl<|Aq 1 rfl<|AL ?_;have h:=BV.again h d;refine AN ((a+(1:Int)),f) (Sub.of rfl) ⟨c,h⟩ (Nat.lt_succ_self _)
  refine Br<|AD<|A5 ?_;have h:=BV.out h d;refine Bd<|A6 () (Sub.of rfl) ⟨c,h⟩
 rintro _ p ⟨m,h⟩;refine A9 2 rfl<|Ay ?_
 cases h
 refine Am rfl rfl ?_;exact⟨m.ext,rfl⟩
def I8(a0:AaK×Int×Int×AaK)(a1:AaK×Int×Int×AaK):Option (Int):=
 Option.bind (strings_Compare a0.1 a1.1) (fun c=>Option.bind (Hs a0.2.1 a1.2.1) (fun d=>Option.bind (Hs a0.2.2.1 a1.2.2.1) (fun e=>Option.bind (strings_Compare a0.2.2.2 a1.2.2.2) (fun a=>Option.bind (M3 ([c,d,e,a])) (fun b=>some (b))))))
theorem M4[Dr](w:World)(H:PH)(hH:Le H (hp w)){a0:AaK×Int×Int×AaK}{a1:AaK×Int×Int×AaK}{r:Int}(h:I8 a0 a1=some r):
  Ok Tryz.prog 137 [.agg #[AaJ a0.1,No a0.2.1,No a0.2.2.1,AaJ a0.2.2.2],.agg #[AaJ a1.1,No a1.2.1,No a1.2.2.1,AaJ a1.2.2.2]] w (fun v w'=>Ext w w'∧v=No r):=by
 refine A4 (n:=27) [(0,.agg #[AaJ a0.1,No a0.2.1,No a0.2.2.1,AaJ a0.2.2.2]),(1,.agg #[AaJ a1.1,No a1.2.1,No a1.2.2.1,AaJ a1.2.2.2])] func137 rfl rfl rfl rfl rfl ?_;have hL:=AO.start w;refine Ak<|CK (t:=142) rfl rfl rfl hL fun w1 b1 j y _=>CK (t:=142) rfl rfl rfl j fun w2 b2 k z _=>AA 1 rfl<|EH (.q 0 (.q 1 (.q 2 (.q 3 (.q 4 (.q 5 (.q 6 (.q 7 (.q 8 (.q 9 (.q 10 (.q 11 (.q 12 (.q 13 (.q 14 (.q 15 (.q 16 (.q 17 (.q 18 (.q 19 (.h 20 (.q 21 (.q 22 (.tail 23)))))))))))))))))))))))) mixed (by kernel_rfl) (fun w3 m=>?_);have a:=k.call m;refine BH (Af rfl AaY rfl Fu (by decide)) rfl rfl<|BH (Ag 1 rfl Abb rfl a rfl rfl) rfl rfl<|BH (Af rfl AaY rfl Fu (by decide)) rfl rfl<|BH (Ag 0 rfl Abb rfl a rfl rfl) rfl rfl ?_;refine Ax h fun x5 o h=>?_;refine EI rfl rfl rfl (fun w6 ag=>Jd _ _ (Le.refl _) o)<|BH (Af rfl AaY rfl Cc (by decide)) rfl rfl<|BH (Ag 1 rfl AaT rfl a rfl rfl) rfl rfl<|BH (Af rfl AaY rfl Cc (by decide)) rfl rfl<|BH (Ag 0 rfl AaT rfl a rfl rfl) rfl rfl ?_;refine Ax h fun x7 p h=>?_
 refine EI rfl rfl rfl (fun w8 ah=>KT _ _ (Le.refl _) p)<|BH (Af rfl AaY rfl Cc (by decide)) rfl rfl<|BH (Ag 1 rfl AaT rfl a rfl rfl) rfl rfl<|BH (Af rfl AaY rfl Cc (by decide)) rfl rfl<|BH (Ag 0 rfl AaT rfl a rfl rfl) rfl rfl ?_;refine Ax h fun x9 s h=>?_;refine EI rfl rfl rfl (fun ai ad=>KT _ _ (Le.refl _) s)<|BH (Af rfl AaY rfl Fu (by decide)) rfl rfl<|BH (Ag 1 rfl Abb rfl a rfl rfl) rfl rfl<|BH (Af rfl AaY rfl Fu (by decide)) rfl rfl<|BH (Ag 0 rfl Abb rfl a rfl rfl) rfl rfl ?_;refine Ax h fun u c h=>?_;refine EI rfl rfl rfl (fun aj ae=>Jd _ _ (Le.refl _) c)<|Nr (r:=(.int .i64)) (l:=[x5,x7,x9,u]) rfl rfl (fun _=>Wo _ _ _ _ _) rfl (show 4≤9223372036854775807 by decide) hH a (.c1 rfl (.c1 rfl (.c1 rfl (.c1 rfl .nil)))) ?_;intro ak al af b x d;refine Ax h fun am e h=>?_;refine EI rfl rfl rfl (fun an f=>Sp _ _ (Le.refl _) ((d.mono (As hH b)).mono f.le) e)<|CD 1 rfl<|BQ (fun ao g=>?_);have i:=b.call g;refine Ac<|Ay ?_
 cases h
 refine Am rfl rfl ?_;exact⟨i.ext,rfl⟩
def LJ(a0:AaK)(a1:AaK):Option (Int):=
 some ((Lib.compareBytes a0 a1))
theorem PG[Dr](w:World)(H:PH)(hH:Le H (hp w)){a0:AaK}{a1:AaK}{a:Value}{b:Value}(c:AI .byte H a (a0))(d:AI .byte H b (a1)){r:Int}(h:LJ a0 a1=some r):
  Ok Tryz.prog 175 [a,b] w (fun v w'=>Ext w w'∧v=No r):=by
 refine A4 (n:=8) [(0,a),(1,b)] func175 rfl rfl rfl rfl rfl ?_;have hL:=AO.start w;refine A9 1 rfl<|Bk 2 rfl<|Ae (Abq func227 rfl rfl (by kernel_rfl) (by kernel_rfl) rfl rfl c (hH.trans hL.arg) d (hH.trans hL.arg)) rfl<|AA 1 rfl<|Ay ?_
 cases h
 refine Am rfl rfl ?_;exact⟨hL.ext,rfl⟩
def KU(a0:Int)(a1:Int)(a:AaK):Option (Int):=
 AU (0≤a0∧a0≤(a.length:Int)) (AU (0≤a1∧a1≤(a.length:Int)) (Option.bind (LJ (a.drop a0.toNat) (a.drop a1.toNat)) (fun b=>some (b))))
theorem OX[Dr](w:World)(H:PH)(hH:Le H (hp w)){a0:Int}{a1:Int}{i:AaK}{b:Value}{f:Addr}(c:AI .byte H b (i))(d:GS H f [b]){r:Int}(h:KU a0 a1 i=some r):
  Ok Tryz.prog 174 [No a0,No a1,.pointer (some f)] w (fun v w'=>Ext w w'∧v=No r):=by
 refine A4 (n:=13) [(0,No a0),(1,No a1),(2,.pointer (some f))] func174 rfl rfl rfl rfl rfl ?_;have hL:=AO.start w;refine A9 1 rfl<|EH (.q 0 (.q 1 (.q 2 (.q 3 (.q 4 (.q 5 (.q 6 (.q 7 (.tail 8))))))))) mixed (by kernel_rfl) (fun t j=>?_);have a:=hL.call j;refine BH (Be rfl Abe rfl d (hH.trans a.arg)) rfl rfl<|CD 1 rfl ?_;refine Az h fun k h=>?_;refine Uy rfl rfl rfl Abe Lo c k rfl fun u l=>BH (Be rfl Abe rfl d (hH.trans a.arg)) rfl rfl<|CD 1 rfl ?_;refine Az h fun m h=>?_;refine Uy rfl rfl rfl Abe Lo c m rfl ?_;intro x o;refine Ax h fun y p h=>?_;refine EI rfl rfl rfl (fun z e=>PG _ _ (Le.refl _) ((l.mono (hH.trans a.arg)).mono e.le) ((o.mono (hH.trans a.arg)).mono e.le) p)<|CD 1 rfl<|BQ (fun w9 s=>?_);have g:=a.call s;refine Ac<|Ay ?_
 cases h
 refine Am rfl rfl ?_;exact⟨g.ext,rfl⟩
end Go.Proofs.YtekmbcbgknmhiaaGreatDoor
end
noncomputable section
namespace Go.L
inductive Qv where
 | mk (kind:Int) (words:List (List UInt8)) (pattern data:List UInt8) (low high:Int) (subs:List Qv)
instance:Inhabited Qv:=⟨.mk 0 [] [] [] 0 0 []⟩
abbrev QvF:Type:=Int×List (List UInt8)×List UInt8×List UInt8×Int×Int×List Qv
def Qv.f:Qv→QvF
 | .mk k ws p d l h ss=>(k,ws,p,d,l,h,ss)
end Go.L
namespace Go.E
open Go Go.L
variable {α β:Type}
def Rp.OY(r:Rp Qv):Rp QvF:=.pair (.int .i64) (.pair (.vec .st) (.pair .st (.pair (.vec .byte) (.pair (.int .i64) (.pair (.int .i64) (.vec r))))))
def Rp.Je:Nat→Rp Qv
 | 0=>.no Qv 7
 | d+1=>(Rp.OY (Rp.Je d)).via Qv.f
theorem Rp.Md:∀ d,(Rp.Je d).sz=7
 | 0=>rfl
 | _+1=>rfl
theorem Rp.R8{r s:Rp Qv}{H:PH}{x:QvF}{c:List Value}(hz:r.sz=s.sz)(hrel:∀ y∈x.2.2.2.2.2.2,∀ c,r.rel H y c→s.rel H y c)(h:(Rp.OY r).rel H x c):(Rp.OY s).rel H x c:=by
 obtain⟨c1,c2,e,f,c3,c4,g,h2,c5,c6,i,h3,c7,c8,j,k,l,a,m,n,b,d,o,p,v,q,t⟩:=h;exact⟨c1,c2,e,f,c3,c4,g,h2,c5,c6,i,h3,c7,c8,j,k,l,a,m,n,b,d,o,p,v,q,t.Yl hz hrel⟩
theorem Rp.Qn{H:PH}:∀ (d:Nat) (x:Qv) (c:List Value),(Rp.Je d).rel H x c→(Rp.Je (d+1)).rel H x c
 | 0,_,_,h=>h.elim
 | d+1,x,c,h=>Rp.R8 (r:=Rp.Je d) (s:=Rp.Je (d+1)) (by rw [Rp.Md,Rp.Md]) (fun y _ c h=>Rp.Qn d y c h) h
theorem Rp.SM{H:PH}{d e:Nat}(h:d≤e){x:Qv}{c:List Value}(hx:(Rp.Je d).rel H x c):(Rp.Je e).rel H x c:=by
 induction h with
 | refl=>exact hx
 | step _ ih=>exact Rp.Qn _ _ _ ih
def Rp.Bc:Rp Qv:=⟨7,fun H x c=>∃ d,(Rp.Je d).rel H x c,fun h=>by obtain⟨d,h⟩:=h;rw [(Rp.Je d).len h,Rp.Md],fun hs h=>by obtain⟨d,h⟩:=h;exact⟨d,(Rp.Je d).mono hs h⟩,fun h=>by obtain⟨d,h⟩:=h;exact(Rp.Je d).one h⟩
theorem Rp.CM{H:PH}{x:Qv}{c:List Value}(h:Rp.Bc.rel H x c):(Rp.OY Rp.Bc).rel H x.f c:=by
 obtain⟨d,h⟩:=h
 cases d with
 | zero=>exact h.elim
 | succ d=>exact Rp.R8 (r:=Rp.Je d) (s:=Rp.Bc) (Rp.Md d) (fun y _ c h=>⟨d,h⟩) h
theorem AI.Ab7{H:PH}{v:Value}{l:List Qv}(h:AI Rp.Bc H v l):∃ d,AI (Rp.Je d) H v l:=by
 obtain⟨a,cap,b,h2,h3,f,g⟩:=h.ex
 cases a with
 | none=>exact⟨0,none,cap,b,h2,h3,f,fun A hA=>by cases hA⟩
 | some A=>
  have key:∀ n,∃ d,∀ i x,i<n→l≠[]→l[i]? = some x→∃ c,(Rp.Je d).rel H x c∧∀ j u,c[j]? = some u→Gu H (A.add (i * 7+j))=some u:=by
   intro n
   induction n with
   | zero=>exact⟨0,fun i x hi=>absurd hi (Nat.not_lt_zero i)⟩
   | succ n ih=>
    obtain⟨d,hd⟩:=ih
    by_cases hl:l=[]
    ·exact⟨0,fun i x _ hn=>absurd hl hn⟩
    cases hx:l[n]? with
    | none=>
     refine⟨d,fun i x hi hn he=>?_⟩
     rcases Nat.lt_succ_iff_lt_or_eq.1 hi with hi | rfl
     ·exact hd i x hi hn he
     ·rw [hx] at he
      cases he
    | some y=>
     obtain⟨c,⟨e,hc⟩,hcell⟩:=(g A rfl hl).2 n y hx;refine⟨max d e,fun i x hi hn he=>?_⟩
     rcases Nat.lt_succ_iff_lt_or_eq.1 hi with hi | rfl
     ·obtain⟨c',k,m⟩:=hd i x hi hn he;exact⟨c',Rp.SM (Nat.le_max_left ..) k,m⟩
     ·rw [hx] at he
      cases he
      exact⟨c,Rp.SM (Nat.le_max_right ..) hc,hcell⟩
  obtain⟨d,hd⟩:=key l.length;refine⟨d,some A,cap,b,h2,h3,f,fun B hB hl=>?_⟩
  cases hB
  refine⟨(g A rfl hl).1,fun i x hx=>?_⟩;rw [Rp.Md];exact hd i x (List.getElem?_eq_some_iff.1 hx).1 hl hx
theorem Rp.FZ{H:PH}{x:Qv}{c:List Value}(h:(Rp.OY Rp.Bc).rel H x.f c):Rp.Bc.rel H x c:=by
 obtain⟨c1,c2,g,i,c3,c4,j,h2,c5,c6,k,h3,c7,c8,l,m,n,a,o,p,b,e,q,r,v,s,t⟩:=h;obtain⟨d,hd⟩:=t.Ab7;exact⟨d+1,c1,c2,g,i,c3,c4,j,h2,c5,c6,k,h3,c7,c8,l,m,n,a,o,p,b,e,q,r,v,s,hd⟩
end Go.E
end
noncomputable section
namespace Go.Proofs.YtekmbcbgknmhiaaGreatDoor
open Go Go.E Go.RowKit Go.L
set_option maxHeartbeats 1000000
set_option maxRecDepth 10000
open _root_.Go.Proofs.Tryz
def E2(a0:Int)(a1:Int)(a2:Int):Option (Bool):=
 some (decide ((a1≤a0)∧(a0≤a2)))
theorem DG(w:World)(H:PH)(_hH:Le H (hp w)){a0:Int}{a1:Int}{a2:Int}{r:Bool}(h:E2 a0 a1 a2=some r):
  Ok Tryz.prog 30 [No a0,No a1,No a2] w (fun v w'=>Ext w w'∧v=.bool r):=by
 refine A4 (n:=15) [(0,No a0),(1,No a1),(2,No a2)] func30 rfl rfl rfl rfl rfl ?_;have hL:=AO.start w;refine A9 1 rfl<|Bk 4 rfl<|Nh 3 3 rfl rfl rfl rfl rfl rfl<|AA 1 rfl<|Ay ?_
 cases h
 refine Am rfl rfl ?_;exact⟨hL.ext,rfl⟩
def IM(a0:Int)(a1:Int):Option ((Int×Int)):=
 some ((a0,a1))
theorem GY(w:World)(H:PH)(_hH:Le H (hp w)){a0:Int}{a1:Int}{r:(Int×Int)}(h:IM a0 a1=some r):
  Ok Tryz.prog 18 [No a0,No a1] w (fun v w'=>Ext w w'∧v=.agg #[No r.1,No r.2]):=by
 refine A4 (n:=8) [(0,No a0),(1,No a1)] func18 rfl rfl rfl rfl rfl ?_;have hL:=AO.start w;refine Ak<|AG AR rfl rfl hL fun e f b c _=>Ac<|Bk 2 rfl<|Ae (AZ rfl (fun _=>NU _ _ _)) rfl<|Aj 0 rfl rfl rfl AR b rfl rfl (AH rfl (AH rfl Cj)) fun g a d=>Ac<|Ay ?_
 cases h
 refine BB rfl (.cell rfl Abs rfl AR (AT (i:=0) a rfl)) ?_;exact⟨a.ext,rfl⟩
def K9:Option (Bool):=
 some (true)
def JZ(a0:List Int)(a1:List Int):Int→Option ((Int) ⊕ (Bool)):=fun a=>
 if a<(a0.length:Int) then AU (0≤a∧a<(a0.length:Int)) (AU (0≤a∧a<(a1.length:Int)) (if a0.getD a.toNat default=a1.getD a.toNat default then AU (BL (a+(1:Int))) (some (Sum.inl (a+(1:Int)))) else none)) else Option.map Sum.inr (K9)
def M5(a0:List Int)(a1:List Int)(s:Int):Option (Bool):=Go.L.run (JZ a0 a1) s
def NW(a0:List Int)(a1:List Int):Option (Bool):=
 if(a0.length:Int)=(a1.length:Int) then(M5 a0 a1) (0:Int) else none
theorem TA(w:World)(H:PH)(hH:Le H (hp w)){a0:List Int}{a1:List Int}{b:Value}{c:Value}(d:AI (.int .i64) H b (a0))(f:AI (.int .i64) H c (a1)){r:Bool}(h:NW a0 a1=some r):
  Ok Tryz.prog 26 [b,c] w (fun v w'=>Ext w w'∧v=.bool r):=by
 refine A4 (n:=26) [(0,b),(1,c)] func26 rfl rfl rfl rfl rfl ?_;have hL:=AO.start w;refine A9 1 rfl<|A7<|Bk 1 rfl<|Ae (Bo rfl AaR d) rfl<|Aq 1 rfl<|Ae (Bo rfl AaR f) rfl<|AA 1 rfl<|Cl rfl h (fun aa h=>?_) (fun aa h=>?_)
 ·cases h
 refine Au<|Ao<|Bn (σ:=Unit) (fun(_:Unit)=>[]) (fun(_:Unit) wr=>AO w [] wr∧K9=some r) ?_ ?_
 ·refine A9 1 rfl<|A2 ?_;obtain⟨g,h⟩:=AY h;refine Bw (σ:=Int×Nat) (fun⟨a,n⟩=>[(0,b),(1,c),(5,No a)]) (fun⟨a,n⟩ wr=>AO w [] wr∧FT (JZ a0 a1) n a=some r) (fun⟨a,n⟩=>n) ((0:Int),g) (Sub.of rfl) ⟨hL,h⟩ ?_;rintro⟨a,nn57⟩ ab ⟨i,h⟩;obtain⟨g,ad,rfl,h,j⟩:=AX h;refine A7<|Bk 2 rfl<|Ae (Bo rfl AaR d) rfl<|AA 1 rfl<|AM rfl h (fun m h=>?_) (fun m h=>?_)
  ·refine Au<|Ao<|A7<|A2<|EH (.q 0 (.q 1 (.q 2 (.q 3 (.q 4 (.q 5 (.q 6 (.q 7 (.q 8 (.tail 9)))))))))) mixed (by kernel_rfl) (fun ae o=>?_);have e:=i.call o;refine CD 2 rfl ?_;refine Az h fun k h=>?_;refine HE rfl rfl rfl AaR Cc d a.toNat (EM k) (AW k) rfl ?_;rintro af _ rfl p;refine BH (Be rfl AaT rfl p (hH.trans e.arg)) rfl rfl<|CD 2 rfl ?_;refine Az h fun l h=>?_;refine HE rfl rfl rfl AaR Cc f a.toNat (EM l) (AW l) rfl ?_;rintro ag _ rfl s;refine BH (Be rfl AaT rfl s (hH.trans e.arg)) rfl rfl<|CD 1 rfl<|BQ (fun ah t=>?_);have u:=e.call t;refine Ac<|Cl rfl h (fun x h=>?_) (fun x h=>?_)
   ·cases h
   refine Au<|A8<|Ao<|Ar<|Aq 1 rfl ?_;refine Az h fun y h=>?_;refine Ae (AK rfl rfl rfl y) rfl<|Aq 1 rfl<|AL ?_;have h:=BV.again h j;refine AN ((a+(1:Int)),g) (Sub.of rfl) ⟨u,h⟩ (Nat.lt_succ_self _)
  refine Br<|AD<|A5 ?_;have h:=BV.out h j;refine Bd<|A6 () (Sub.nil _) ⟨i,h⟩
 rintro _ ac ⟨z,h⟩;refine A9 1 rfl<|Ay ?_
 cases h
 refine Am rfl rfl ?_;exact⟨z.ext,rfl⟩
def GA(a0:AaK)(a1:AaK):Option (Bool):=
 some (decide (a0=a1))
theorem Ly(w:World)(H:PH)(hH:Le H (hp w)){a0:AaK}{a1:AaK}{a:Value}{b:Value}(c:AI .byte H a (a0))(d:AI .byte H b (a1)){r:Bool}(h:GA a0 a1=some r):
  Ok Tryz.prog 31 [a,b] w (fun v w'=>Ext w w'∧v=.bool r):=by
 refine A4 (n:=10) [(0,a),(1,b)] func31 rfl rfl rfl rfl rfl ?_;have hL:=AO.start w;refine A9 1 rfl<|Bk 1 rfl<|Ae (MJ rfl Abe Ab9 Abb c (hH.trans hL.arg)) rfl<|Aq 1 rfl<|Ae (MJ rfl Abe Ab9 Abb d (hH.trans hL.arg)) rfl<|Ae (KN rfl rfl) rfl<|AA 1 rfl<|Ay ?_
 cases h
 refine Am rfl rfl ?_;exact⟨hL.ext,rfl⟩
def H3(a0:Int):Option (UInt8):=
 if a0<(10:Int) then AU (BL ((48:Int)+a0)) (some ((Go.L.u8 ((48:Int)+a0)))) else AU (BL ((97:Int)+a0)) (AU (BL (((97:Int)+a0) - (10:Int))) (some ((Go.L.u8 (((97:Int)+a0) - (10:Int))))))
theorem Me(w:World)(H:PH)(_hH:Le H (hp w)){a0:Int}{r:UInt8}(h:H3 a0=some r):
  Ok Tryz.prog 71 [No a0] w (fun v w'=>Ext w w'∧v=.int .u8 (r.toNat:Int)):=by
 refine A4 (n:=12) [(0,No a0)] func71 rfl rfl rfl rfl rfl ?_;have hL:=AO.start w;refine A9 1 rfl<|A7<|A9 2 rfl<|AM rfl h (fun a h=>?_) (fun a h=>?_)
 ·refine Bk 1 rfl ?_;refine Az h fun b h=>?_;refine Ae (AK rfl rfl rfl b) rfl<|Ae (EV AaT Ab9 rfl (HS _)) rfl<|AA 1 rfl<|Ay<|Av ?_
  cases h
  refine Am rfl rfl ?_;exact⟨hL.ext,rfl⟩
 refine Au<|Ao<|Bk 1 rfl ?_;refine Az h fun c h=>?_;refine Ae (AK rfl rfl rfl c) rfl ?_;refine Az h fun d h=>?_;refine Ae (AK rfl rfl rfl d) rfl<|Ae (EV AaT Ab9 rfl (HS _)) rfl<|AA 1 rfl<|Ay ?_
 cases h
 refine Am rfl rfl ?_;exact⟨hL.ext,rfl⟩
def KV(a0:AaK):Option (Bool):=
 Option.bind (E2 (a0.length:Int) (1:Int) (32:Int)) (fun a=>some (a))
def CT(a0:AaK):Int→Option ((Int) ⊕ (Bool)):=fun a=>
 if a<(a0.length:Int) then AU (0≤a∧a<(a0.length:Int)) (Option.bind (E2 ((a0.getD a.toNat default).toNat:Int) (97:Int) (122:Int)) (fun b=>if !b then if a=(0:Int) then Option.map Sum.inr (some (false)) else Option.bind (E2 ((a0.getD a.toNat default).toNat:Int) (48:Int) (57:Int)) (fun c=>if !c then if((a0.getD a.toNat default).toNat:Int)=(45:Int) then AU (BL (a+(1:Int))) (some (Sum.inl (a+(1:Int)))) else if((a0.getD a.toNat default).toNat:Int)=(95:Int) then AU (BL (a+(1:Int))) (some (Sum.inl (a+(1:Int)))) else if((a0.getD a.toNat default).toNat:Int)=(46:Int) then AU (BL (a+(1:Int))) (some (Sum.inl (a+(1:Int)))) else Option.map Sum.inr (some (false)) else AU (BL (a+(1:Int))) (some (Sum.inl (a+(1:Int))))) else AU (BL (a+(1:Int))) (some (Sum.inl (a+(1:Int)))))) else Option.map Sum.inr ((KV a0))
def Nx(a0:AaK)(s:Int):Option (Bool):=Go.L.run (CT a0) s
def Lz(a0:AaK):Option (Bool):=
 (Nx a0) (0:Int)
theorem RA(w:World)(H:PH)(hH:Le H (hp w)){a0:AaK}{r:Bool}(h:Lz a0=some r):
  Ok Tryz.prog 214 [AaJ a0] w (fun v w'=>Ext w w'∧v=.bool r):=by
 refine A4 (n:=42) [(0,(AaJ a0))] func214 rfl rfl rfl rfl rfl ?_;have hL:=AO.start w;refine A9 1 rfl<|Bn (σ:=Unit) (fun(_:Unit)=>[(0,(AaJ a0))]) (fun(_:Unit) wr=>AO w [] wr∧(KV a0)=some r) ?_ ?_
 ·refine A9 1 rfl<|A2 ?_;obtain⟨i,h⟩:=AY h;refine Bw (σ:=Int×Nat) (fun⟨c,n⟩=>[(0,(AaJ a0)),(3,No c)]) (fun⟨c,n⟩ wr=>AO w [] wr∧FT (CT a0) n c=some r) (fun⟨c,n⟩=>n) ((0:Int),i) (Sub.of rfl) ⟨hL,h⟩ ?_;rintro⟨c,nn102⟩ ah ⟨l,h⟩;obtain⟨i,al,rfl,h,d⟩:=AX h;refine A7<|Bk 2 rfl<|Ae (De rfl Abb) rfl<|AA 1 rfl<|AM rfl h (fun o h=>?_) (fun o h=>?_)
  ·refine Au<|Ao<|A7<|A2<|Bk 2 rfl ?_;refine Az h fun p h=>?_;refine Ae (G7 rfl rfl Abb p) rfl<|Ae (EV Ab9 AaT rfl (H0 _)) rfl<|AA 1 rfl<|Bk 1 rfl ?_;refine Ax h fun am q h=>?_;refine AF rfl rfl l (DG _ _ (As hH l) q) fun an ai k ae=>Aq 2 rfl<|AQ (s:=18) rfl (fun b=>?_) (fun b=>?_)
   ·have h:=G5 b h;refine Aa rfl rfl b<|Ae (Ad rfl) rfl<|Aa rfl rfl b<|Ae (Ad rfl) rfl<|Aa rfl rfl b<|Ae (Ad rfl) rfl<|AQ (s:=21) rfl (fun a=>?_) (fun a=>?_)
    ·have h:=BO (of_decide_eq_true a) h
     iterate 4 refine Ai rfl rfl a rfl ?_
     iterate 2 refine Ce rfl rfl rfl ?_
     iterate 2 refine Ai rfl rfl a rfl ?_
     iterate 2 refine Ce rfl rfl rfl ?_
     iterate 2 refine Ai rfl rfl a rfl ?_
     iterate 2 refine Ce rfl rfl rfl ?_
     refine Ai rfl rfl a rfl<|Aa rfl rfl b<|Ae (A1 rfl a rfl) rfl<|Ae (A1 rfl b rfl) rfl<|Ac<|Cy rfl<|A9 1 rfl<|Ay<|Aw<|Av<|BK ?_;have h:=BV.out h d;refine Aw<|Bt ?_
     cases h
     refine Am rfl rfl ?_;exact⟨k.ext,rfl⟩
    have h:=BP (of_decide_eq_false a) h;refine Aa rfl rfl a<|Ae (Ad rfl) rfl<|Aa rfl rfl a ?_;refine Ax h fun ao t h=>?_;refine AF rfl rfl k (DG _ _ (As hH k) t) fun ap aj j af=>Aa rfl rfl a<|Ae (Ad rfl) rfl<|Aa rfl rfl a<|Ae (Ad rfl) rfl<|AQ (s:=25) rfl (fun e=>?_) (fun e=>?_)
    ·have h:=G5 e h;refine Aa rfl rfl e<|Ae (Ad rfl) rfl<|Aa rfl rfl e<|Ae (Ad rfl) rfl<|Aa rfl rfl a<|Ae (A1 rfl e rfl) rfl<|Aa rfl rfl a<|Ae (Ad rfl) rfl<|AQ (s:=29) rfl (fun f=>?_) (fun f=>?_)
     ·have h:=BP (CE f) h;refine Aa rfl rfl f<|Ae (Ad rfl) rfl<|Aa rfl rfl f<|Ae (Ad rfl) rfl<|Aa rfl rfl a<|Ae (A1 rfl f rfl) rfl<|Aa rfl rfl a<|Ae (Ad rfl) rfl<|AQ (s:=33) rfl (fun g=>?_) (fun g=>?_)
      ·have h:=BP (CE g) h;refine Aa rfl rfl g<|Ae (Ad rfl) rfl<|Aa rfl rfl g<|Ae (Ad rfl) rfl<|Aa rfl rfl a<|Ae (A1 rfl g rfl) rfl<|Aa rfl rfl b<|Ae (A3 rfl a rfl) rfl<|Ae (A1 rfl b rfl) rfl<|Ac<|Cl rfl h (fun u h=>?_) (fun u h=>?_)
       ·refine A9 1 rfl<|Ay<|Aw<|Av<|BK ?_;have h:=BV.out h d;refine Aw<|Bt ?_
        cases h
        refine Am rfl rfl ?_;exact⟨j.ext,rfl⟩
       refine Au<|A8<|Ao<|Ar<|Aq 1 rfl ?_;refine Az h fun x h=>?_;refine Ae (AK rfl rfl rfl x) rfl<|Aq 1 rfl<|AL ?_;have h:=BV.again h d;refine AN ((c+(1:Int)),i) (Sub.of rfl) ⟨j,h⟩ (Nat.lt_succ_self _)
      have h:=BO (CF g) h
      iterate 2 refine Ai rfl rfl g rfl ?_
      refine Aa rfl rfl a<|Ae (A3 rfl g rfl) rfl<|Aa rfl rfl b<|Ae (A3 rfl a rfl) rfl<|Ae (A1 rfl b rfl) rfl<|Ac<|Cw rfl<|Au<|A8<|Ao<|Ar<|Aq 1 rfl ?_;refine Az h fun y h=>?_;refine Ae (AK rfl rfl rfl y) rfl<|Aq 1 rfl<|AL ?_;have h:=BV.again h d;refine AN ((c+(1:Int)),i) (Sub.of rfl) ⟨j,h⟩ (Nat.lt_succ_self _)
     have h:=BO (CF f) h
     iterate 2 refine Ai rfl rfl f rfl ?_
     refine Aa rfl rfl a<|Ae (A3 rfl f rfl) rfl<|Aa rfl rfl a<|Ae (Ad rfl) rfl ?_
     iterate 2 refine Ai rfl rfl rfl rfl ?_
     refine Aa rfl rfl a<|Ae (A3 rfl rfl rfl) rfl<|Aa rfl rfl b<|Ae (A3 rfl a rfl) rfl<|Ae (A1 rfl b rfl) rfl<|Ac<|Cw rfl<|Au<|A8<|Ao<|Ar<|Aq 1 rfl ?_;refine Az h fun z h=>?_;refine Ae (AK rfl rfl rfl z) rfl<|Aq 1 rfl<|AL ?_;have h:=BV.again h d;refine AN ((c+(1:Int)),i) (Sub.of rfl) ⟨j,h⟩ (Nat.lt_succ_self _)
    have h:=G6 e h
    iterate 2 refine Ai rfl rfl e rfl ?_
    refine Aa rfl rfl a<|Ae (A3 rfl e rfl) rfl<|Aa rfl rfl a<|Ae (Ad rfl) rfl ?_
    iterate 2 refine Ai rfl rfl rfl rfl ?_
    refine Aa rfl rfl a<|Ae (A3 rfl rfl rfl) rfl<|Aa rfl rfl a<|Ae (Ad rfl) rfl ?_
    iterate 2 refine Ai rfl rfl rfl rfl ?_
    refine Aa rfl rfl a<|Ae (A3 rfl rfl rfl) rfl<|Aa rfl rfl b<|Ae (A3 rfl a rfl) rfl<|Ae (A1 rfl b rfl) rfl<|Ac<|Cw rfl<|Au<|A8<|Ao<|Ar<|Aq 1 rfl ?_;refine Az h fun aa h=>?_;refine Ae (AK rfl rfl rfl aa) rfl<|Aq 1 rfl<|AL ?_;have h:=BV.again h d;refine AN ((c+(1:Int)),i) (Sub.of rfl) ⟨j,h⟩ (Nat.lt_succ_self _)
   have h:=G6 b h
   iterate 3 refine Ai rfl rfl b rfl ?_
   iterate 15 refine Ce rfl rfl rfl ?_
   refine Ai rfl rfl b rfl<|Ae (A3 rfl b rfl) rfl<|Ac<|Cw rfl<|Au<|A8<|Ao<|Ar<|Aq 1 rfl ?_;refine Az h fun ab h=>?_;refine Ae (AK rfl rfl rfl ab) rfl<|Aq 1 rfl<|AL ?_;have h:=BV.again h d;refine AN ((c+(1:Int)),i) (Sub.of rfl) ⟨k,h⟩ (Nat.lt_succ_self _)
  refine Br<|AD<|A5 ?_;have h:=BV.out h d;refine Bd<|A6 () (Sub.of rfl) ⟨l,h⟩
 rintro _ aq ⟨m,h⟩;refine Bk 1 rfl<|Ae (De rfl Abb) rfl ?_;refine Ax h fun ar ac h=>?_;refine AF rfl rfl m (DG _ _ (As hH m) ac) fun au ak ad ag=>AA 1 rfl<|Ay ?_
 cases h
 refine Am rfl rfl ?_;exact⟨ad.ext,rfl⟩
def Ox(a:List AaK):Option ((List AaK)):=
 some (a)
def Dn(a0:AaK):(List AaK)×Int×Int→Option (((List AaK)×Int×Int) ⊕ ((List AaK))):=fun⟨c,b,a⟩=>
 if a≤(a0.length:Int) then(if a=(a0.length:Int) then AU (0≤b∧b≤a∧a≤(a0.length:Int)) (AU (Go.E.JE 16 (c.length+([((a0.drop b.toNat).take (a.toNat - b.toNat))]).length)) (AU (BL (a+(1:Int))) (AU (BL (a+(1:Int))) (some (Sum.inl ((c++[((a0.drop b.toNat).take (a.toNat - b.toNat))]),(a+(1:Int)),(a+(1:Int)))))))) else AU (0≤a∧a<(a0.length:Int)) (if((a0.getD a.toNat default).toNat:Int)=47 then AU (0≤b∧b≤a∧a≤(a0.length:Int)) (AU (Go.E.JE 16 (c.length+([((a0.drop b.toNat).take (a.toNat - b.toNat))]).length)) (AU (BL (a+(1:Int))) (AU (BL (a+(1:Int))) (some (Sum.inl ((c++[((a0.drop b.toNat).take (a.toNat - b.toNat))]),(a+(1:Int)),(a+(1:Int)))))))) else AU (BL (a+(1:Int))) (some (Sum.inl (c,b,(a+(1:Int))))))) else Option.map Sum.inr (Ox c)
def Sr(a0:AaK)(s:(List AaK)×Int×Int):Option ((List AaK)):=Go.L.run (Dn a0) s
def M6(a0:AaK):Option ((List AaK)):=
 if a0=([]:AaK) then some ([]) else(Sr a0) (([]:List AaK),(0:Int),(0:Int))
theorem Ss(w:World)(H:PH)(hH:Le H (hp w)){a0:AaK}{r:(List AaK)}(h:M6 a0=some r):
  Ok Tryz.prog 153 [AaJ a0] w (fun v w'=>Ext w w'∧∃ u0,v=u0∧C2 9 .st H w w' u0 (r)):=by
 refine A4 (n:=34) [(0,(AaJ a0))] func153 rfl rfl rfl rfl rfl ?_;have hL:=AO.start w;refine A9 1 rfl<|A7<|Bk 1 rfl<|Ae (KN rfl rfl) rfl<|Ac<|AM rfl h (fun a2 h=>?_) (fun a2 h=>?_)
 ·refine A9 1 rfl<|Ay<|Av ?_
  cases h
  refine Am rfl rfl ?_;exact⟨hL.ext,_,rfl,C2.nil⟩
 refine Au<|Ao<|Bk 1 rfl ?_;obtain⟨a3,a9,a4⟩:=CB .st H 9 hL;refine Ac<|A9 1 rfl<|Bn (σ:=(List AaK)×Value×(List Value)) (fun⟨q,k,j⟩=>[(3,k)]) (fun⟨q,k,j⟩ wr=>DZ w [.row (k) 9 1 (q).length (j)] wr fun Oz=>AJ .st (gz H w wr Oz) (q) (j)∧Ox q=some r) ?_ ?_
 ·refine A9 1 rfl<|A2 ?_;obtain⟨t,h⟩:=AY h;refine Bw (σ:=(List AaK)×Int×Int×Value×(List Value)×Nat) (fun⟨f,a,b,g,e,n⟩=>[(0,(AaJ a0)),(3,g),(4,No a),(5,No b)]) (fun⟨f,a,b,g,e,n⟩ wr=>DZ w [.row (g) 9 1 (f).length (e)] wr fun Oz=>AJ .st (gz H w wr Oz) (f) (e)∧FT (Dn a0) n (f,a,b)=some r) (fun⟨f,a,b,g,e,n⟩=>n) (([]:List AaK),(0:Int),(0:Int),Aat,[],t) (Sub.of rfl) ⟨a3,a4,h⟩ ?_;rintro⟨f,a,b,g,e,nn93⟩ ba ⟨o,c,h⟩;obtain⟨t,bi,rfl,h,p⟩:=AX h;refine A7<|Bk 2 rfl<|Ae (De rfl Abb) rfl<|AA 1 rfl<|AM rfl h (fun ax h=>?_) (fun ax h=>?_)
  ·refine Au<|Ao<|A7<|A2<|Bk 2 rfl<|Ae (De rfl Abb) rfl<|Aq 2 rfl<|AQ (s:=18) rfl (fun d=>?_) (fun d=>?_)
   ·have h:=BO (of_decide_eq_true d) h
    iterate 4 refine Ai rfl rfl d rfl ?_
    refine Ae (A1 rfl d rfl) rfl<|Ac<|Cy rfl<|Bk 4 rfl ?_;refine Az h fun z h=>?_;refine Ae (Yo rfl rfl rfl Abb z) rfl<|Bu (r:=.st) (l:=[((a0.drop a.toNat).take (b.toNat - a.toNat))]) rfl (fun _=>OT _ rfl _) rfl (show 1≤9223372036854775807 by decide) hH o (.c1 rfl .nil) ?_;intro bb bc a7 aa u ab;refine Az h fun ac h=>?_;have c:=c.mono (Ab hH u);refine Bq (r:=.st) (l:=f) (m:=[((a0.drop a.toNat).take (b.toNat - a.toNat))]) 0 rfl rfl AbE Fu rfl (by decide) rfl hH aa rfl c ab ac fun ay bd ad ae a5 af=>AA 1 rfl<|Ar<|Aq 1 rfl ?_;refine Az h fun ag h=>?_;refine Ae (AK rfl rfl rfl ag) rfl<|Aq 1 rfl<|AL<|A8<|Ao<|Ar<|Aq 1 rfl ?_;refine Az h fun ah h=>?_;refine Ae (AK rfl rfl rfl ah) rfl<|Aq 1 rfl<|AL ?_;have h:=BV.again h p;refine AN ((f++[((a0.drop a.toNat).take (b.toNat - a.toNat))]),(b+(1:Int)),(b+(1:Int)),ay,ad,t) (Sub.of rfl) ⟨ae,af,h⟩ (Nat.lt_succ_self _)
   have h:=BP (of_decide_eq_false d) h;refine Aa rfl rfl d<|Ae (Ad rfl) rfl<|Aa rfl rfl d<|Ae (Ad rfl) rfl<|Aa rfl rfl d ?_;refine Az h fun ai h=>?_;refine Ae (G7 rfl rfl Abb ai) rfl<|Aa rfl rfl d<|Ae (Ad rfl) rfl<|Ae (A3 rfl d rfl) rfl<|Ac<|AM rfl h (fun aj h=>?_) (fun aj h=>?_)
   ·refine Bk 4 rfl ?_;refine Az h fun ak h=>?_;refine Ae (Yo rfl rfl rfl Abb ak) rfl<|Bu (r:=.st) (l:=[((a0.drop a.toNat).take (b.toNat - a.toNat))]) rfl (fun _=>OT _ rfl _) rfl (show 1≤9223372036854775807 by decide) hH o (.c1 rfl .nil) ?_;intro be bf a8 al x am;refine Az h fun an h=>?_;have c:=c.mono (Ab hH x);refine Bq (r:=.st) (l:=f) (m:=[((a0.drop a.toNat).take (b.toNat - a.toNat))]) 0 rfl rfl AbE Fu rfl (by decide) rfl hH al rfl c am an fun az bg ao ap a6 aq=>AA 1 rfl<|Ar<|Aq 1 rfl ?_;refine Az h fun ar h=>?_;refine Ae (AK rfl rfl rfl ar) rfl<|Aq 1 rfl<|AL<|A8<|Ao<|Ar<|Aq 1 rfl ?_;refine Az h fun au h=>?_;refine Ae (AK rfl rfl rfl au) rfl<|Aq 1 rfl<|AL ?_;have h:=BV.again h p;refine AN ((f++[((a0.drop a.toNat).take (b.toNat - a.toNat))]),(b+(1:Int)),(b+(1:Int)),az,ao,t) (Sub.of rfl) ⟨ap,aq,h⟩ (Nat.lt_succ_self _)
   refine Au<|A8<|Ao<|Ar<|Aq 1 rfl ?_;refine Az h fun av h=>?_;refine Ae (AK rfl rfl rfl av) rfl<|Aq 1 rfl<|AL ?_;have h:=BV.again h p;refine AN (f,a,(b+(1:Int)),g,e,t) (Sub.of rfl) ⟨o,c,h⟩ (Nat.lt_succ_self _)
  refine Br<|AD<|A5 ?_;have h:=BV.out h p;refine Bd<|A6 (f,g,e) (Sub.of rfl) ⟨o,c,h⟩
 rintro⟨q,k,j⟩ bh ⟨y,aw,h⟩;refine A9 2 rfl<|Ay ?_
 cases h
 refine Am rfl rfl ?_;exact⟨y.ext,_,rfl,(y.GQ hH (i:=0) rfl aw)⟩
def Oy:Option (Int):=
 some ((-1:Int))
def F1(a1:Bool)(c:(List AaK)):Int×Int→Option ((Int×Int) ⊕ (Int)):=fun⟨b,a⟩=>
 if a<(c.length:Int) then AU (0≤a∧a<(c.length:Int)) (Option.bind (Lz (c.getD a.toNat default)) (fun d=>if !d then AU (0≤a∧a<(c.length:Int)) (if c.getD a.toNat default=([35]:AaK) then AU (0≤a∧a<(c.length:Int)) (AU (BL (b+((c.getD a.toNat default).length:Int))) (AU (BL ((b+((c.getD a.toNat default).length:Int))+(1:Int))) (AU (BL (a+(1:Int))) (some (Sum.inl (((b+((c.getD a.toNat default).length:Int))+(1:Int)),(a+(1:Int)))))))) else if a1 then AU (0≤a∧a<(c.length:Int)) (if c.getD a.toNat default=([42]:AaK) then AU (0≤a∧a<(c.length:Int)) (AU (BL (b+((c.getD a.toNat default).length:Int))) (AU (BL ((b+((c.getD a.toNat default).length:Int))+(1:Int))) (AU (BL (a+(1:Int))) (some (Sum.inl (((b+((c.getD a.toNat default).length:Int))+(1:Int)),(a+(1:Int)))))))) else AU (0≤a∧a<(c.length:Int)) (if c.getD a.toNat default=([42,42]:AaK) then AU (0≤a∧a<(c.length:Int)) (AU (BL (b+((c.getD a.toNat default).length:Int))) (AU (BL ((b+((c.getD a.toNat default).length:Int))+(1:Int))) (AU (BL (a+(1:Int))) (some (Sum.inl (((b+((c.getD a.toNat default).length:Int))+(1:Int)),(a+(1:Int)))))))) else Option.map Sum.inr (some (b)))) else Option.map Sum.inr (some (b))) else AU (0≤a∧a<(c.length:Int)) (AU (BL (b+((c.getD a.toNat default).length:Int))) (AU (BL ((b+((c.getD a.toNat default).length:Int))+(1:Int))) (AU (BL (a+(1:Int))) (some (Sum.inl (((b+((c.getD a.toNat default).length:Int))+(1:Int)),(a+(1:Int)))))))))) else Option.map Sum.inr (Oy)
def St(a1:Bool)(a:(List AaK))(s:Int×Int):Option (Int):=Go.L.run (F1 a1 a) s
def KW(a0:AaK)(a1:Bool):Option (Int):=
 Option.bind (M6 a0) (fun a=>(St a1 a) ((0:Int),(0:Int)))
theorem O0(w:World)(H:PH)(hH:Le H (hp w)){a0:AaK}{a1:Bool}{r:Int}(h:KW a0 a1=some r):
  Ok Tryz.prog 164 [AaJ a0,.bool a1] w (fun v w'=>Ext w w'∧v=No r):=by
 refine A4 (n:=56) [(0,(AaJ a0)),(1,.bool a1)] func164 rfl rfl rfl rfl rfl ?_;have hL:=AO.start w;refine A9 1 rfl<|Bk 1 rfl ?_;refine Ax h fun x1 a6 h=>?_;refine Bs rfl rfl hL (Ss _ _ (As hH hL) a6) ?_;rintro ab w2 ⟨_,rfl,ac⟩ a7 a8 bc;have ad:=ac.CA hH hL a7;refine AA 1 rfl<|A9 1 rfl<|Bn (σ:=Unit) (fun(_:Unit)=>[]) (fun(_:Unit) wr=>AO w [] wr∧Oy=some r) ?_ ?_
 ·refine A9 1 rfl<|A2 ?_;obtain⟨k,h⟩:=AY h;refine Bw (σ:=Int×Int×Nat) (fun⟨f,a,n⟩=>[(1,.bool a1),(5,ab),(6,No f),(7,No a)]) (fun⟨f,a,n⟩ wr=>DZ w [] wr fun Oz=>AI .st (gz H w wr Oz) (ab) (x1)∧FT (F1 a1 x1) n (f,a)=some r) (fun⟨f,a,n⟩=>n) ((0:Int),(0:Int),k) (Sub.of rfl) ⟨a8,ad,h⟩ ?_;rintro⟨f,a,nn157⟩ a9 ⟨l,b,h⟩;obtain⟨k,bd,rfl,h,j⟩:=AX h;refine A7<|Bk 2 rfl<|Ae (Bo rfl AbE b) rfl<|AA 1 rfl<|AM rfl h (fun ae h=>?_) (fun ae h=>?_)
  ·refine Au<|Ao<|A7<|A2<|A7<|Bk 2 rfl ?_;refine Az h fun o h=>?_;refine Bb rfl rfl AbE Fu b a.toNat (EM o) (AW o) rfl ?_;rintro be _ rfl af;refine Ae (Be rfl Abb rfl af (As hH l)) rfl ?_;refine Ax h fun bf ag h=>?_;refine AF rfl rfl l (RA _ _ (As hH l) ag) fun bg ba e m=>Aq 2 rfl<|AQ (s:=22) rfl (fun g=>?_) (fun g=>?_)
   ·have h:=G5 g h;refine Aa rfl rfl g<|Ae (Ad rfl) rfl<|Aa rfl rfl g<|Ae (Ad rfl) rfl<|Aa rfl rfl g ?_;refine Az h fun p h=>?_;have b:=b.mono (Ab hH m);refine Bb rfl rfl AbE Fu b a.toNat (EM p) (AW p) rfl ?_;rintro bh _ rfl ah;refine Aa rfl rfl g<|Ae (Be rfl Abb rfl ah (As hH e)) rfl<|Aa rfl rfl g<|Ae (ML rfl rfl) rfl<|Ae (A1 rfl g rfl) rfl<|Aq 1 rfl<|AQ (s:=29) rfl (fun c=>?_) (fun c=>?_)
    ·have h:=BP (CE c) h;refine Aa rfl rfl c<|Ae (Ad rfl) rfl<|Aa rfl rfl c<|Ae (Ad rfl) rfl<|AQ (s:=31) rfl (fun d=>?_) (fun d=>?_)
     ·have h:=G5 d h;refine Aa rfl rfl d<|Ae (Ad rfl) rfl<|Aa rfl rfl d<|Ae (Ad rfl) rfl<|Aa rfl rfl d ?_;refine Az h fun q h=>?_;refine Bb rfl rfl AbE Fu b a.toNat (EM q) (AW q) rfl ?_;rintro bi _ rfl ai;refine Aa rfl rfl d<|Ae (Be rfl Abb rfl ai (As hH e)) rfl<|Aa rfl rfl d<|Ae (KN rfl rfl) rfl<|Aa rfl rfl d<|Ae (Ad rfl) rfl<|AQ (s:=37) rfl (fun i=>?_) (fun i=>?_)
      ·have h:=BO (of_decide_eq_true i) h
       iterate 5 refine Ai rfl rfl i rfl ?_
       refine Aa rfl rfl d<|Ae (A1 rfl i rfl) rfl<|Aa rfl rfl c<|Ae (A1 rfl d rfl) rfl<|Aa rfl rfl c<|Ae (Ad rfl) rfl<|Ae (A1 rfl c rfl) rfl<|Ac<|Cw rfl<|Au<|Ao<|Ar ?_;refine Aq 3 rfl ?_;refine Az h fun t h=>?_;refine Bb rfl rfl AbE Fu b a.toNat (EM t) (AW t) rfl ?_;rintro bj _ rfl aj;refine Ae (Be rfl Abb rfl aj (As hH e)) rfl<|Ae (De rfl Abb) rfl ?_;refine Az h fun ak h=>?_;refine Ae (AK rfl rfl rfl ak) rfl ?_;refine Az h fun al h=>?_;refine Ae (AK rfl rfl rfl al) rfl<|Aq 1 rfl<|AL<|A8<|Ao<|Ar<|Aq 1 rfl ?_;refine Az h fun am h=>?_;refine Ae (AK rfl rfl rfl am) rfl<|Aq 1 rfl<|AL ?_;have h:=BV.again h j;refine AN (((f+((x1.getD a.toNat default).length:Int))+(1:Int)),(a+(1:Int)),k) (Sub.of rfl) ⟨e,b,h⟩ (Nat.lt_succ_self _)
      have h:=BP (of_decide_eq_false i) h;refine Aa rfl rfl i<|Ae (Ad rfl) rfl<|Aa rfl rfl i<|Ae (Ad rfl) rfl<|Aa rfl rfl i ?_;refine Az h fun u h=>?_;refine Bb rfl rfl AbE Fu b a.toNat (EM u) (AW u) rfl ?_;rintro bk _ rfl an;refine Aa rfl rfl i<|Ae (Be rfl Abb rfl an (As hH e)) rfl<|Aa rfl rfl i<|Ae (KN rfl rfl) rfl<|Aa rfl rfl d<|Ae (A3 rfl i rfl) rfl<|Aa rfl rfl c<|Ae (A1 rfl d rfl) rfl<|Aa rfl rfl c<|Ae (Ad rfl) rfl<|Ae (A1 rfl c rfl) rfl<|Ac ?_;refine Cl rfl h (fun ao h=>?_) (fun ao h=>?_)
      ·refine A9 2 rfl<|Ay<|Av<|Aw<|Av<|BK ?_;have h:=BV.out h j;refine Aw<|Bt ?_
       cases h
       refine Am rfl rfl ?_;exact⟨e.ext,rfl⟩
      refine Au<|Ao<|Ar<|Aq 3 rfl ?_;refine Az h fun x h=>?_;refine Bb rfl rfl AbE Fu b a.toNat (EM x) (AW x) rfl ?_;rintro bl _ rfl ap;refine Ae (Be rfl Abb rfl ap (As hH e)) rfl<|Ae (De rfl Abb) rfl ?_;refine Az h fun aq h=>?_;refine Ae (AK rfl rfl rfl aq) rfl ?_;refine Az h fun ar h=>?_;refine Ae (AK rfl rfl rfl ar) rfl<|Aq 1 rfl<|AL<|A8<|Ao<|Ar<|Aq 1 rfl ?_;refine Az h fun au h=>?_;refine Ae (AK rfl rfl rfl au) rfl<|Aq 1 rfl<|AL ?_;have h:=BV.again h j;refine AN (((f+((x1.getD a.toNat default).length:Int))+(1:Int)),(a+(1:Int)),k) (Sub.of rfl) ⟨e,b,h⟩ (Nat.lt_succ_self _)
     have h:=G6 d h
     iterate 6 refine Ai rfl rfl d rfl ?_
     iterate 5 refine Ce rfl rfl rfl ?_
     refine Ai rfl rfl d rfl<|Aa rfl rfl c<|Ae (A3 rfl d rfl) rfl<|Aa rfl rfl c<|Ae (Ad rfl) rfl<|Ae (A1 rfl c rfl) rfl<|Ac<|Cy rfl<|A9 2 rfl<|Ay<|Av<|Aw ?_;refine Av<|BK ?_;have h:=BV.out h j;refine Aw<|Bt ?_
     cases h
     refine Am rfl rfl ?_;exact⟨e.ext,rfl⟩
    have h:=BO (CF c) h
    iterate 2 refine Ai rfl rfl c rfl ?_
    iterate 12 refine Ce rfl rfl rfl ?_
    iterate 2 refine Ai rfl rfl c rfl ?_
    refine Ae (A3 rfl c rfl) rfl<|Ac<|Cw rfl<|Au<|Ao<|Ar<|Aq 3 rfl ?_;refine Az h fun y h=>?_;refine Bb rfl rfl AbE Fu b a.toNat (EM y) (AW y) rfl ?_;rintro bm _ rfl av;refine Ae (Be rfl Abb rfl av (As hH e)) rfl<|Ae (De rfl Abb) rfl ?_;refine Az h fun aw h=>?_;refine Ae (AK rfl rfl rfl aw) rfl ?_;refine Az h fun ax h=>?_;refine Ae (AK rfl rfl rfl ax) rfl<|Aq 1 rfl<|AL<|A8<|Ao<|Ar<|Aq 1 rfl ?_;refine Az h fun ay h=>?_;refine Ae (AK rfl rfl rfl ay) rfl<|Aq 1 rfl<|AL ?_;have h:=BV.again h j;refine AN (((f+((x1.getD a.toNat default).length:Int))+(1:Int)),(a+(1:Int)),k) (Sub.of rfl) ⟨e,b,h⟩ (Nat.lt_succ_self _)
   have h:=G6 g h
   iterate 5 refine Ai rfl rfl g rfl ?_
   refine Ae (A3 rfl g rfl) rfl<|Aq 1 rfl ?_
   iterate 2 refine Ai rfl rfl rfl rfl ?_
   iterate 12 refine Ce rfl rfl rfl ?_
   iterate 2 refine Ai rfl rfl rfl rfl ?_
   refine Ae (A3 rfl rfl rfl) rfl<|Ac<|Cw rfl<|Au<|Ao<|Ar<|Aq 3 rfl ?_;refine Az h fun z h=>?_;have b:=b.mono (Ab hH m);refine Bb rfl rfl AbE Fu b a.toNat (EM z) (AW z) rfl ?_;rintro bn _ rfl az;refine Ae (Be rfl Abb rfl az (As hH e)) rfl<|Ae (De rfl Abb) rfl ?_;refine Az h fun a2 h=>?_;refine Ae (AK rfl rfl rfl a2) rfl ?_;refine Az h fun a3 h=>?_;refine Ae (AK rfl rfl rfl a3) rfl<|Aq 1 rfl<|AL<|A8<|Ao<|Ar<|Aq 1 rfl ?_;refine Az h fun a4 h=>?_;refine Ae (AK rfl rfl rfl a4) rfl<|Aq 1 rfl<|AL ?_;have h:=BV.again h j;refine AN (((f+((x1.getD a.toNat default).length:Int))+(1:Int)),(a+(1:Int)),k) (Sub.of rfl) ⟨e,b,h⟩ (Nat.lt_succ_self _)
  refine Br<|AD<|A5 ?_;have h:=BV.out h j;refine Bd<|A6 () (Sub.nil _) ⟨l,h⟩
 rintro _ bb ⟨a5,h⟩;refine A9 1 rfl<|Ay ?_
 cases h
 refine Am rfl rfl ?_;exact⟨a5.ext,rfl⟩
def HG(a0:AaK):Option ((Int×Int)):=
 if(64:Int)<(a0.length:Int) then Option.bind (IM (3:Int) (-1:Int)) (fun b=>some ((b.1,b.2))) else Option.bind (KW a0 true) (fun d=>if(0:Int)≤d then Option.bind (KW a0 true) (fun c=>Option.bind (IM (1:Int) c) (fun a=>some ((a.1,a.2)))) else some (((0:Int),(0:Int))))
theorem Ny(w:World)(H:PH)(hH:Le H (hp w)){a0:AaK}{r:(Int×Int)}(h:HG a0=some r):
  Ok Tryz.prog 110 [AaJ a0] w (fun v w'=>Ext w w'∧v=.agg #[No r.1,No r.2]):=by
 refine A4 (n:=14) [(0,(AaJ a0))] func110 rfl rfl rfl rfl rfl ?_;have hL:=AO.start w;refine Ak<|AG AR rfl rfl hL fun w1 b1 a y _=>Ac<|A7<|Bk 1 rfl<|Ae (De rfl Abb) rfl<|AA 1 rfl<|AM rfl h (fun m h=>?_) (fun m h=>?_)
 ·refine Ak ?_;refine Ax h fun x4 o h=>?_;refine AF rfl rfl a (GY _ _ (As hH a) o) fun w5 ae p z=>Aj 0 rfl rfl rfl AR p rfl rfl (AH rfl (AH rfl Cj)) fun w6 f aa=>Ac<|Ay<|Av ?_
  cases h
  refine BB rfl (.cell rfl Abs rfl AR (AT (i:=0) f rfl)) ?_;exact⟨f.ext,rfl⟩
 refine Au<|Ao<|A7<|Bk 1 rfl ?_;refine Ax h fun x8 q h=>?_;refine AF rfl rfl a (O0 _ _ (As hH a) q) fun w9 af b ab=>AA 1 rfl<|AM rfl h (fun g h=>?_) (fun g h=>?_)
 ·refine Bk 1 rfl ?_;refine Ax h fun ag j h=>?_;refine AF rfl rfl b (O0 _ _ (As hH b) j) ?_;intro ah ac c s;refine Ax h fun ai k h=>?_;refine AF rfl rfl c (GY _ _ (As hH c) k) fun aj ad l t=>Aj 0 rfl rfl rfl AR l rfl rfl (AH rfl (AH rfl Cj)) fun ak d u=>Ac<|Ay<|Av ?_
  cases h
  refine BB rfl (.cell rfl Abs rfl AR (AT (i:=0) d rfl)) ?_;exact⟨d.ext,rfl⟩
 refine Au<|Ao<|Ak<|Ae (AZ rfl (fun _=>BY _)) rfl<|Aj 0 rfl rfl rfl AR b rfl rfl (AH rfl (AH rfl Cj)) fun al e x=>Ac<|Ay ?_
 cases h
 refine BB rfl (.cell rfl Abs rfl AR (AT (i:=0) e rfl)) ?_;exact⟨e.ext,rfl⟩
def IE:Option (Bool):=
 some (true)
def GB(a0:List AaK)(a1:List AaK):Int→Option ((Int) ⊕ (Bool)):=fun a=>
 if a<(a0.length:Int) then AU (0≤a∧a<(a0.length:Int)) (AU (0≤a∧a<(a1.length:Int)) (if a0.getD a.toNat default=a1.getD a.toNat default then AU (BL (a+(1:Int))) (some (Sum.inl (a+(1:Int)))) else Option.map Sum.inr (some (false)))) else Option.map Sum.inr (IE)
def Ka(a0:List AaK)(a1:List AaK)(s:Int):Option (Bool):=Go.L.run (GB a0 a1) s
def JN(a0:List AaK)(a1:List AaK):Option (Bool):=
 if(a0.length:Int)=(a1.length:Int) then(Ka a0 a1) (0:Int) else some (false)
theorem Su(w:World)(H:PH)(hH:Le H (hp w)){a0:List AaK}{a1:List AaK}{b:Value}{c:Value}(d:AI .st H b (a0))(g:AI .st H c (a1)){r:Bool}(h:JN a0 a1=some r):
  Ok Tryz.prog 43 [b,c] w (fun v w'=>Ext w w'∧v=.bool r):=by
 refine A4 (n:=26) [(0,b),(1,c)] func43 rfl rfl rfl rfl rfl ?_;have hL:=AO.start w;refine A9 1 rfl<|A7<|Bk 1 rfl<|Ae (Bo rfl AbE d) rfl<|Aq 1 rfl<|Ae (Bo rfl AbE g) rfl<|AA 1 rfl<|Cl rfl h (fun aa h=>?_) (fun aa h=>?_)
 ·refine A9 1 rfl<|Ay<|Av ?_
  cases h
  refine Am rfl rfl ?_;exact⟨hL.ext,rfl⟩
 refine Au<|Ao<|Bn (σ:=Unit) (fun(_:Unit)=>[]) (fun(_:Unit) wr=>AO w [] wr∧IE=some r) ?_ ?_
 ·refine A9 1 rfl<|A2 ?_;obtain⟨i,h⟩:=AY h;refine Bw (σ:=Int×Nat) (fun⟨a,n⟩=>[(0,b),(1,c),(5,No a)]) (fun⟨a,n⟩ wr=>AO w [] wr∧FT (GB a0 a1) n a=some r) (fun⟨a,n⟩=>n) ((0:Int),i) (Sub.of rfl) ⟨hL,h⟩ ?_;rintro⟨a,nn57⟩ ab ⟨j,h⟩;obtain⟨i,ad,rfl,h,e⟩:=AX h;refine A7<|Bk 2 rfl<|Ae (Bo rfl AbE d) rfl<|AA 1 rfl<|AM rfl h (fun o h=>?_) (fun o h=>?_)
  ·refine Au<|Ao<|A7<|A2<|EH (.q 0 (.q 1 (.q 2 (.q 3 (.q 4 (.q 5 (.q 6 (.q 7 (.q 8 (.tail 9)))))))))) mixed (by kernel_rfl) (fun ae p=>?_);have f:=j.call p;refine CD 2 rfl ?_;refine Az h fun k h=>?_;refine HE rfl rfl rfl AbE Fu d a.toNat (EM k) (AW k) rfl ?_;rintro af _ rfl s;refine BH (Be rfl Abb rfl s (hH.trans f.arg)) rfl rfl<|CD 2 rfl ?_;refine Az h fun l h=>?_;refine HE rfl rfl rfl AbE Fu g a.toNat (EM l) (AW l) rfl ?_;rintro ag _ rfl t;refine BH (Be rfl Abb rfl t (hH.trans f.arg)) rfl rfl<|BH (ML rfl rfl) rfl rfl<|BQ (fun ah u=>?_);have m:=f.call u;refine Ac<|Cl rfl h (fun x h=>?_) (fun x h=>?_)
   ·refine A9 1 rfl<|Ay<|Aw<|Av<|BK ?_;have h:=BV.out h e;refine Aw<|Bt ?_
    cases h
    refine Am rfl rfl ?_;exact⟨m.ext,rfl⟩
   refine Au<|A8<|Ao<|Ar<|Aq 1 rfl ?_;refine Az h fun y h=>?_;refine Ae (AK rfl rfl rfl y) rfl<|Aq 1 rfl<|AL ?_;have h:=BV.again h e;refine AN ((a+(1:Int)),i) (Sub.of rfl) ⟨m,h⟩ (Nat.lt_succ_self _)
  refine Br<|AD<|A5 ?_;have h:=BV.out h e;refine Bd<|A6 () (Sub.nil _) ⟨j,h⟩
 rintro _ ac ⟨z,h⟩;refine A9 1 rfl<|Ay ?_
 cases h
 refine Am rfl rfl ?_;exact⟨z.ext,rfl⟩
def Km(a0:Int):Option (Go.L.Pv):=
 some ((Go.L.Pv.mk (1:Int) a0 ([]) ([]) ([])))
theorem Nz(w:World)(H:PH)(_hH:Le H (hp w)){a0:Int}{r:Go.L.Pv}(h:Km a0=some r):
  Ok Tryz.prog 37 [No a0] w (fun v w'=>Ext w w'∧∃ b c d,v=.agg #[No r.f.1,No r.f.2.1,b,c,d]∧C2 5 .byte H w w' b (r.f.2.2.1)∧C2 9 .st H w w' c (r.f.2.2.2.1)∧C2 64 .tree H w w' d (r.f.2.2.2.2)):=by
 refine A4 (n:=5) [(0,No a0)] func37 rfl rfl rfl rfl rfl ?_;have hL:=AO.start w;refine Ak<|AG GR rfl rfl hL fun k l e g _=>Ac<|Bk 1 rfl<|Ae (AZ rfl (fun _=>WZ _ _ _)) rfl<|Aj 0 rfl rfl rfl GR e rfl rfl (AH rfl (AH rfl (AH rfl (AH rfl (AH rfl Cj))))) fun m a j=>Ac<|Ay ?_
 cases h
 refine BB rfl (.cell rfl AbG rfl GR (AT (i:=0) a rfl)) ?_;exact⟨a.ext,_,_,_,rfl,C2.nil,C2.nil,C2.nil⟩
def NX(a0:AaK):Option (Go.L.Qv):=
 some ((Go.L.Qv.mk (1:Int) ([a0]) ([]:AaK) ([]) (0:Int) (0:Int) ([])))
theorem TB(w:World)(H:PH)(hH:Le H (hp w)){a0:AaK}{r:Go.L.Qv}(h:NX a0=some r):
  Ok Tryz.prog 36 [AaJ a0] w (fun v w'=>Ext w w'∧∃ d e g,v=.agg #[No r.f.1,d,AaJ r.f.2.2.1,e,No r.f.2.2.2.2.1,No r.f.2.2.2.2.2.1,g]∧AI .st (un H (nw w w')) d (r.f.2.1)∧C2 5 .byte H w w' e (r.f.2.2.2.1)∧C2 26 .Bc H w w' g (r.f.2.2.2.2.2.2)):=by
 refine A4 (n:=6) [(0,(AaJ a0))] func36 rfl rfl rfl rfl rfl ?_;have hL:=AO.start w;refine Ak<|AG Bh rfl rfl hL fun q s j m _=>Ac<|Bk 1 rfl<|Bu (r:=.st) (l:=[a0]) rfl (fun _=>OT _ rfl _) rfl (show 1≤9223372036854775807 by decide) hH j (.c1 rfl .nil) fun t u p k o a=>Ae (AZ rfl (fun _=>PF _ _ a.one _)) rfl<|Aj 0 rfl rfl rfl Bh k rfl rfl (AH rfl (AH a.one (AH rfl (AH rfl (AH rfl (AH rfl (AH rfl Cj))))))) fun x b c=>Ac<|Ay ?_
 cases h
 refine BB rfl (.cell rfl AbP rfl Bh (AT (i:=0) b rfl)) ?_;have a:=a.mono (Ab hH c);exact⟨b.ext,_,_,_,rfl,(a.mono (Dm hH)),C2.nil,C2.nil⟩
def Im(a0:Int)(a1:Int):Option ((Int×Int)):=
 some ((a0,a1))
theorem MN(w:World)(H:PH)(_hH:Le H (hp w)){a0:Int}{a1:Int}{r:(Int×Int)}(h:Im a0 a1=some r):
  Ok Tryz.prog 81 [No a0,No a1] w (fun v w'=>Ext w w'∧v=.agg #[No r.1,No r.2]):=by
 refine A4 (n:=8) [(0,No a0),(1,No a1)] func81 rfl rfl rfl rfl rfl ?_;have hL:=AO.start w;refine Ak<|AG AR rfl rfl hL fun e f b c _=>Ac<|Bk 2 rfl<|Ae (AZ rfl (fun _=>NU _ _ _)) rfl<|Aj 0 rfl rfl rfl AR b rfl rfl (AH rfl (AH rfl Cj)) fun g a d=>Ac<|Ay ?_
 cases h
 refine BB rfl (.cell rfl Abs rfl AR (AT (i:=0) a rfl)) ?_;exact⟨a.ext,rfl⟩
def strings_Split(a0:AaK)(a1:AaK):Option ((List AaK)):=
 Option.bind (Mb a0 a1 (0:Int) (-1:Int)) (fun a=>some (a))
theorem Mf(w:World)(H:PH)(hH:Le H (hp w)){a0:AaK}{a1:AaK}{r:(List AaK)}(h:strings_Split a0 a1=some r):
  Ok Tryz.prog 113 [AaJ a0,AaJ a1] w (fun v w'=>Ext w w'∧∃ d,v=d∧C2 9 .st H w w' d (r)):=by
 refine A4 (n:=8) [(0,(AaJ a0)),(1,(AaJ a1))] func113 rfl rfl rfl rfl rfl ?_;have hL:=AO.start w;refine A9 1 rfl<|Bk 2 rfl ?_;refine Ax h fun l e h=>?_;refine Bs rfl rfl hL (UB _ _ (As hH hL) e) ?_;rintro j m ⟨_,rfl,b⟩ f a c;obtain⟨k,a,c,g⟩:=b.take hH hL f;refine AA 1 rfl<|Ay ?_
 cases h
 refine Am rfl rfl ?_;exact⟨a.ext,_,rfl,(a.GQ hH (i:=0) rfl g)⟩
def Io(a0:AaK):Option ((List AaK)):=
 if a0=([]:AaK) then some ([]) else Option.bind (strings_Split a0 ([47]:AaK)) (fun a=>some (a))
theorem Qx(w:World)(H:PH)(hH:Le H (hp w)){a0:AaK}{r:(List AaK)}(h:Io a0=some r):
  Ok Tryz.prog 158 [AaJ a0] w (fun v w'=>Ext w w'∧∃ d,v=d∧C2 9 .st H w w' d (r)):=by
 refine A4 (n:=7) [(0,(AaJ a0))] func158 rfl rfl rfl rfl rfl ?_;have hL:=AO.start w;refine A9 1 rfl<|A7<|Bk 1 rfl<|Ae (KN rfl rfl) rfl<|Ac<|AM rfl h (fun e h=>?_) (fun e h=>?_)
 ·refine A9 1 rfl<|Ay<|Av ?_
  cases h
  refine Am rfl rfl ?_;exact⟨hL.ext,_,rfl,C2.nil⟩
 refine Au<|Ao<|Bk 1 rfl ?_;refine Ax h fun m f h=>?_;refine Bs rfl rfl hL (Mf _ _ (As hH hL) f) ?_;rintro k o ⟨_,rfl,b⟩ g a c;obtain⟨l,a,c,j⟩:=b.take hH hL g;refine AA 1 rfl<|Ay ?_
 cases h
 refine Am rfl rfl ?_;exact⟨a.ext,_,rfl,(a.GQ hH (i:=0) rfl j)⟩
def B4(a0:Int):Option (Bool):=
 if((0:Int)≤a0)∧(a0<(55296:Int)) then some (true) else(if((57343:Int)<a0)∧(a0≤(1114111:Int)) then some (true) else some (false))
theorem Lq(w:World)(H:PH)(_hH:Le H (hp w)){a0:Int}{r:Bool}(h:B4 a0=some r):
  Ok Tryz.prog 267 [.int .i32 a0] w (fun v w'=>Ext w w'∧v=.bool r):=by
 refine A4 (n:=17) [(0,.int .i32 a0)] func267 rfl rfl rfl rfl rfl ?_;have hL:=AO.start w;refine A9 1 rfl<|A7<|A2<|Bk 3 rfl<|Nh 2 2 rfl rfl rfl rfl rfl rfl<|AA 1 rfl<|AM rfl h (fun a h=>?_) (fun a h=>?_)
 ·refine A9 1 rfl<|Ay<|Aw<|Av ?_
  cases h
  refine Am rfl rfl ?_;exact⟨hL.ext,rfl⟩
 refine Bk 3 rfl<|Nh 2 2 rfl rfl rfl rfl rfl rfl<|AA 1 rfl<|AM rfl h (fun b h=>?_) (fun b h=>?_)
 ·refine A9 1 rfl<|Ay<|Aw<|Av ?_
  cases h
  refine Am rfl rfl ?_;exact⟨hL.ext,rfl⟩
 refine Au<|A8<|Ao<|A9 1 rfl<|Ay ?_
 cases h
 refine Am rfl rfl ?_;exact⟨hL.ext,rfl⟩
def Ga:Option (Int):=
 some ((-1:Int))
def B2(a0:AaK):Nat→Option ((Nat) ⊕ (Int)):=fun a=>
 if a<a0.length then(if((Ln a0 a).1:Int)=(65533:Int) then Option.map Sum.inr (some ((a:Int))) else some (Sum.inl (a+(Ln a0 a).2))) else Option.map Sum.inr (Ga)
def Cz(a0:AaK)(s:Nat):Option (Int):=Go.L.run (B2 a0) s
def Gb(a1:Int)(a:Int):Option ((Int) ⊕ (Int)):=
 AU (BL (a - (((Er a1).length:Int) - (1:Int)))) (Option.map Sum.inr (some ((a - (((Er a1).length:Int) - (1:Int))))))
def FH(a0:AaK)(a1:Int)(b:Int):Int→Option ((Int) ⊕ ((Int) ⊕ (Int))):=fun a=>
 if a<((Er a1).length:Int) then AU (BL (b - a)) (AU (0≤(b - a)∧(b - a)<(a0.length:Int)) (AU (BL ((((Er a1).length:Int) - (1:Int)) - a)) (AU (0≤((((Er a1).length:Int) - (1:Int)) - a)∧((((Er a1).length:Int) - (1:Int)) - a)<((Er a1).length:Int)) (if((a0.getD (b - a).toNat default).toNat:Int)=(((Er a1).getD ((((Er a1).length:Int) - (1:Int)) - a).toNat default).toNat:Int) then AU (BL (a+(1:Int))) (some (Sum.inl (a+(1:Int)))) else none)))) else Option.map Sum.inr ((Gb a1 b))
def HT(a0:AaK)(a1:Int)(a:Int)(s:Int):Option ((Int) ⊕ (Int)):=Go.L.run (FH a0 a1 a) s
def Et(a0:AaK)(a1:Int)(a:Int):Option ((Int) ⊕ (Int)):=
 (HT a0 a1 a) (1:Int)
def Gc:Option (Int):=
 some ((-1:Int))
def Dk(a0:AaK)(a1:Int):Int→Option ((Int) ⊕ (Int)):=fun a=>
 if a<(a0.length:Int) then AU (0≤a∧a<(a0.length:Int)) (AU (0≤(((Er a1).length:Int) - (1:Int))∧(((Er a1).length:Int) - (1:Int))<((Er a1).length:Int)) (if((a0.getD a.toNat default).toNat:Int)=(((Er a1).getD (((Er a1).length:Int) - (1:Int)).toNat default).toNat:Int) then(Et a0 a1) a else AU (BL (a+(1:Int))) (AU (0≤(a+(1:Int))∧(a+(1:Int))≤(a0.length:Int)) (AU (0≤(((Er a1).length:Int) - (1:Int))∧(((Er a1).length:Int) - (1:Int))<((Er a1).length:Int)) (Option.bind (Nv (a0.drop (a+(1:Int)).toNat) ((Er a1).getD (((Er a1).length:Int) - (1:Int)).toNat default)) (fun b=>if b<(0:Int) then Option.map Sum.inr (some ((-1:Int))) else AU (BL (b+(1:Int))) (AU (BL (a+(b+(1:Int)))) ((Et a0 a1) (a+(b+(1:Int))))))))))) else Option.map Sum.inr (Gc)
def HU(a0:AaK)(a1:Int)(s:Int):Option (Int):=Go.L.run (Dk a0 a1) s
def BI(a0:AaK)(a1:Int):Option (Int):=
 if((0:Int)≤a1)∧(a1<(128:Int)) then Option.bind (Nv a0 (Go.L.u8 a1)) (fun b=>some (b)) else(if a1=(65533:Int) then(Cz a0) (0:Nat) else Option.bind (B4 a1) (fun a=>if !a then some ((-1:Int)) else AU (BL (((Er a1).length:Int) - (1:Int))) ((HU a0 a1) (((Er a1).length:Int) - (1:Int)))))
theorem HV(w:World)(H:PH)(hH:Le H (hp w)){a0:AaK}{a1:Int}{r:Int}(h:BI a0 a1=some r):
  Ok Tryz.prog 219 [AaJ a0,.int .i32 a1] w (fun v w'=>Ext w w'∧v=No r):=by
 refine A4 (n:=187) [(0,(AaJ a0)),(1,.int .i32 a1)] func219 rfl rfl rfl rfl rfl ?_;have hL:=AO.start w;refine A9 1 rfl<|A2<|Bk 3 rfl<|Nh 2 2 rfl rfl rfl rfl rfl rfl<|AA 1 rfl<|AM rfl h (fun bl h=>?_) (fun bl h=>?_)
 ·refine Bk 2 rfl<|Ae (EV AbQ Ab9 rfl (HS _)) rfl ?_;refine Ax h fun x3 bm h=>?_;refine AF rfl rfl hL (QO _ _ (As hH hL) bm) fun w4 cb bn bz=>AA 1 rfl<|Ay<|Aw ?_
  cases h
  refine Am rfl rfl ?_;exact⟨bn.ext,rfl⟩
 refine A9 3 rfl<|AM rfl h (fun bo h=>?_) (fun bo h=>?_)
 ·refine Bn (σ:=Unit) (fun(_:Unit)=>[]) (fun(_:Unit) wr=>AO w [] wr∧Ga=some r) ?_ ?_
  ·refine Bk 1 rfl<|U4 rfl Abb rfl hL fun cc bc bd bp=>Ac<|A2 ?_;obtain⟨x,h⟩:=AY h;refine Bw (σ:=Nat×Nat) (fun⟨d,n⟩=>[(175,(AaH bc))]) (fun⟨d,n⟩ wr=>AO w [.obj bc (.stringIter ⟨(a0).toArray⟩ d)] wr∧FT (B2 a0) n d=some r) (fun⟨d,n⟩=>n) ((0:Nat),x) (Sub.of rfl) ⟨bd,h⟩ ?_;rintro⟨d,nn36⟩ b0 ⟨y,h⟩;obtain⟨x,cd,rfl,h,f⟩:=AX h;refine Ak<|Wh (l:=a0) (p:=d) 0 rfl rfl y rfl (fun g=>?_) (fun g=>?_)
   ·have h:=BO g h;intro ce z bq;refine AA 1 rfl<|A7<|Cy rfl<|Au<|Ao<|A2<|A9 4 rfl<|A9 2 rfl<|AM rfl h (fun be h=>?_) (fun be h=>?_)
    ·refine A9 2 rfl<|Ay<|Aw<|BK ?_;have h:=BV.out h f;refine Aw<|Bt<|Aw ?_
     cases h
     refine Am rfl rfl ?_;exact⟨z.ext,rfl⟩
    refine Au<|A8 ?_;have h:=BV.again h f;refine AN ((d+(Ln a0 d).2),x) (Sub.of rfl) ⟨z,h⟩ (Nat.lt_succ_self _)
   have h:=BP g h;refine AA 1 rfl<|A7<|Cw rfl<|Br<|AD<|A5 ?_;have h:=BV.out h f;refine Bd ?_;have bf:=y.AP (i:=0) rfl;refine A6 () (Sub.nil _) ⟨bf,h⟩
  rintro _ b1 ⟨bg,h⟩;refine A9 1 rfl<|Ay<|Aw ?_
  cases h
  refine Am rfl rfl ?_;exact⟨bg.ext,rfl⟩
 refine Bk 1 rfl ?_;refine Ax h fun cf bh h=>?_;refine AF rfl rfl hL (Lq _ _ (As hH hL) bh) fun cg b2 aa br=>AA 2 rfl<|Bl rfl h (fun bi h=>?_) (fun bi h=>?_)
 ·refine A9 1 rfl<|Ay<|Aw ?_
  cases h
  refine Am rfl rfl ?_;exact⟨aa.ext,rfl⟩
 refine Tz<|Bk 1 rfl<|Ae (Aco rfl AbQ Abb) rfl<|AA 1 rfl<|Bk 1 rfl<|Ae (De rfl Abb) rfl ?_;refine Az h fun bj h=>?_;refine Ae (AK rfl rfl rfl bj) rfl<|AA 1 rfl<|A9 2 rfl<|A9 1 rfl<|Bn (σ:=Unit) (fun(_:Unit)=>[]) (fun(_:Unit) wr=>AO w [] wr∧Gc=some r) ?_ ?_
 ·refine A2 ?_;obtain⟨ab,h⟩:=AY h;refine Bw (σ:=Int×Nat) (fun⟨c,n⟩=>[(0,(AaJ a0)),(7,.string ⟨((Er a1)).toArray⟩),(8,No (((Er a1).length:Int) - (1:Int))),(9,No c)]) (fun⟨c,n⟩ wr=>AO w [] wr∧FT (Dk a0 a1) n c=some r) (fun⟨c,n⟩=>n) ((((Er a1).length:Int) - (1:Int)),ab) (Sub.of rfl) ⟨aa,h⟩ ?_;rintro⟨c,nn253⟩ bs ⟨m,h⟩;obtain⟨ab,j,rfl,h,e⟩:=AX h;refine A7<|Bk 2 rfl<|Ae (De rfl Abb) rfl<|AA 1 rfl<|AM rfl h (fun ac h=>?_) (fun ac h=>?_)
  ·refine Au<|Ao<|A2<|Tz<|Bn (σ:=Int) (fun a=>[(0,(AaJ a0)),(7,.string ⟨((Er a1)).toArray⟩),(8,No (((Er a1).length:Int) - (1:Int))),(9,No a)]) (fun a wr=>AO w [] wr∧(Et a0 a1) a=some j) ?_ ?_
   ·refine EH (.q 0 (.q 1 (.q 2 (.q 3 (.q 4 (.q 5 (.q 6 (.tail 7)))))))) mixed (by kernel_rfl) (fun b3 ad=>?_);have ae:=m.call ad;refine CD 2 rfl ?_;refine Az h fun af h=>?_;refine BH (G7 rfl rfl Abb af) rfl rfl<|CD 2 rfl ?_;refine Az h fun ag h=>?_;refine BH (G7 rfl rfl Abb ag) rfl rfl<|CD 1 rfl<|BQ (fun b4 ah=>?_);have o:=ae.call ah;refine Ac<|Cl rfl h (fun ai h=>?_) (fun ai h=>?_)
    ·refine EH (.q 0 (.q 1 (.q 2 (.q 3 (.q 4 (.q 5 (.q 6 (.q 7 (.q 8 (.tail 9)))))))))) mixed (by kernel_rfl) (fun b5 aj=>?_);have ak:=o.call aj;refine CD 2 rfl ?_;refine Az h fun al h=>?_;refine BH (AK rfl rfl rfl al) rfl rfl ?_;refine Az h fun am h=>?_;refine BH (PE rfl rfl Abb am) rfl rfl<|CD 2 rfl ?_;refine Az h fun an h=>?_;refine BH (G7 rfl rfl Abb an) rfl rfl ?_;refine Ax h fun bk ao h=>?_;refine EI rfl rfl rfl (fun b6 bt=>QO _ _ (Le.refl _) ao)<|CD 1 rfl<|BQ (fun b7 ap=>?_);have s:=ak.call ap;refine Ac<|A7<|A9 2 rfl<|AM rfl h (fun aq h=>?_) (fun aq h=>?_)
     ·refine A9 1 rfl<|Ay<|Av<|Bt<|Ii<|Aw<|BK ?_;have h:=BV.out h e;refine Aw<|Bt<|Ii<|Aw ?_
      cases h
      refine Am rfl rfl ?_;exact⟨s.ext,rfl⟩
     refine Au<|Ao<|Ar<|Aq 2 rfl ?_;refine Az h fun ar h=>?_;refine Ae (AK rfl rfl rfl ar) rfl ?_;refine Az h fun au h=>?_;refine Ae (AK rfl rfl rfl au) rfl<|Aq 1 rfl<|AL<|A6 (c+(bk+(1:Int))) (Sub.of rfl) ⟨s,h⟩
    refine Au<|A6 c (Sub.of rfl) ⟨o,h⟩
   rintro a bu ⟨av,h⟩;refine Bn (σ:=Unit) (fun(_:Unit)=>[(8,No (((Er a1).length:Int) - (1:Int))),(9,No a)]) (fun(_:Unit) wr=>AO w [] wr∧(Gb a1 a)=some j) ?_ ?_
   ·refine A9 1 rfl<|A2 ?_;obtain⟨k,h⟩:=AY h;refine Bw (σ:=Int×Nat) (fun⟨b,n⟩=>[(0,(AaJ a0)),(7,.string ⟨((Er a1)).toArray⟩),(8,No (((Er a1).length:Int) - (1:Int))),(9,No a),(12,No b)]) (fun⟨b,n⟩ wr=>AO w [] wr∧FT (FH a0 a1 a) n b=some j) (fun⟨b,n⟩=>n) ((1:Int),k) (Sub.of rfl) ⟨av,h⟩ ?_;rintro⟨b,nn363⟩ bv ⟨t,h⟩;obtain⟨k,b8,rfl,h,u⟩:=AX h;refine A7<|Bk 2 rfl<|Ae (De rfl Abb) rfl<|AA 1 rfl<|AM rfl h (fun aw h=>?_) (fun aw h=>?_)
    ·refine Au<|Ao<|A7<|A2<|EH (.q 0 (.q 1 (.q 2 (.q 3 (.q 4 (.q 5 (.q 6 (.q 7 (.q 8 (.q 9 (.q 10 (.tail 11)))))))))))) mixed (by kernel_rfl) (fun b9 ax=>?_);have ay:=t.call ax;refine CD 3 rfl ?_;refine Az h fun az h=>?_;refine BH (AK rfl rfl rfl az) rfl rfl ?_;refine Az h fun a2 h=>?_;refine BH (G7 rfl rfl Abb a2) rfl rfl<|CD 3 rfl ?_;refine Az h fun a3 h=>?_;refine BH (AK rfl rfl rfl a3) rfl rfl ?_;refine Az h fun a4 h=>?_;refine BH (G7 rfl rfl Abb a4) rfl rfl<|CD 1 rfl<|BQ (fun ca a5=>?_);have a6:=ay.call a5;refine Ac<|Cl rfl h (fun a7 h=>?_) (fun a7 h=>?_)
     ·cases h
     refine Au<|A8<|Ao<|Ar<|Aq 1 rfl ?_;refine Az h fun a8 h=>?_;refine Ae (AK rfl rfl rfl a8) rfl<|Aq 1 rfl<|AL ?_;have h:=BV.again h u;refine AN ((b+(1:Int)),k) (Sub.of rfl) ⟨a6,h⟩ (Nat.lt_succ_self _)
    refine Br<|AD<|A5 ?_;have h:=BV.out h u;refine Bd<|A6 () (Sub.of rfl) ⟨t,h⟩
   rintro _ bw ⟨a9,h⟩;refine A7<|Bk 2 rfl ?_;refine Az h fun ba h=>?_;refine Ae (AK rfl rfl rfl ba) rfl<|AA 1 rfl<|Ay<|Av<|Ii<|Aw<|BK ?_;have h:=BV.out h e;refine Aw<|Bt<|Ii<|Aw ?_
   cases h
   refine Am rfl rfl ?_;exact⟨a9.ext,rfl⟩
  refine Br<|AD<|A5 ?_;have h:=BV.out h e;refine Bd<|A6 () (Sub.nil _) ⟨m,h⟩
 rintro _ bx ⟨bb,h⟩;refine A7<|A9 1 rfl<|Ay<|Av<|Ii<|Aw ?_
 cases h
 refine Am rfl rfl ?_;exact⟨bb.ext,rfl⟩
def Eu(a0:AaK)(a1:Int):Option (Bool):=
 Option.bind (BI a0 a1) (fun a=>some (decide ((0:Int)≤a)))
theorem Jk(w:World)(H:PH)(hH:Le H (hp w)){a0:AaK}{a1:Int}{r:Bool}(h:Eu a0 a1=some r):
  Ok Tryz.prog 207 [AaJ a0,.int .i32 a1] w (fun v w'=>Ext w w'∧v=.bool r):=by
 refine A4 (n:=9) [(0,(AaJ a0)),(1,.int .i32 a1)] func207 rfl rfl rfl rfl rfl ?_;have hL:=AO.start w;refine A9 1 rfl<|Bk 2 rfl ?_;refine Ax h fun e a h=>?_;refine AF rfl rfl hL (HV _ _ (As hH hL) a) fun f d b c=>AA 2 rfl<|Ay ?_
 cases h
 refine Am rfl rfl ?_;exact⟨b.ext,rfl⟩
def M7(a0:Int):Option (Bool):=
 if(a0<(97:Int))∨((122:Int)<a0) then if a0<(48:Int) then Option.bind (Eu ([45,95,46]:AaK) a0) (fun b=>some (!b)) else if(57:Int)<a0 then Option.bind (Eu ([45,95,46]:AaK) a0) (fun a=>some (!a)) else some (false) else some (false)
theorem Qy(w:World)(H:PH)(hH:Le H (hp w)){a0:Int}{r:Bool}(h:M7 a0=some r):
  Ok Tryz.prog 206 [.int .i32 a0] w (fun v w'=>Ext w w'∧v=.bool r):=by
 refine A4 (n:=22) [(0,.int .i32 a0)] func206 rfl rfl rfl rfl rfl ?_;have hL:=AO.start w;refine A9 1 rfl<|Bk 3 rfl<|Si 2 2 rfl rfl rfl rfl rfl rfl<|Aq 1 rfl<|AQ (s:=9) rfl (fun a=>?_) (fun a=>?_)
 ·have h:=BO (of_decide_eq_true a) h;refine Aa rfl rfl a<|Ae (Ad rfl) rfl<|Aa rfl rfl a<|Ae (Ad rfl) rfl<|Aa rfl rfl a<|Ae (Ad rfl) rfl<|AQ (s:=12) rfl (fun c=>?_) (fun c=>?_)
  ·have h:=BO (of_decide_eq_true c) h
   iterate 2 refine Ai rfl rfl c rfl ?_
   refine Aa rfl rfl a<|Ae (A1 rfl c rfl) rfl<|Ae (A1 rfl a rfl) rfl<|Aq 1 rfl<|Aa rfl rfl rfl<|Ae (Ad rfl) rfl<|Aa rfl rfl rfl ?_;refine Ax h fun p f h=>?_;refine AF rfl rfl hL (Jk _ _ (As hH hL) f) fun q l g j=>Aa rfl rfl rfl<|Ae (Ad rfl) rfl<|Ae (A1 rfl rfl rfl) rfl<|AA 1 rfl<|Ay ?_
   cases h
   refine Am rfl rfl ?_;exact⟨g.ext,rfl⟩
  have h:=BP (of_decide_eq_false c) h;refine Aa rfl rfl c<|Ae (Ad rfl) rfl<|Aa rfl rfl c<|Ae (Ad rfl) rfl<|Aa rfl rfl a<|Ae (A3 rfl c rfl) rfl<|Ae (A1 rfl a rfl) rfl<|Aq 1 rfl<|AQ (s:=17) rfl (fun b=>?_) (fun b=>?_)
  ·have h:=BO (of_decide_eq_true b) h;refine Aa rfl rfl b<|Ae (Ad rfl) rfl<|Aa rfl rfl b ?_;refine Ax h fun m d h=>?_;refine AF rfl rfl hL (Jk _ _ (As hH hL) d) fun o k e i=>Aa rfl rfl b<|Ae (Ad rfl) rfl<|Ae (A1 rfl b rfl) rfl<|AA 1 rfl<|Ay ?_
   cases h
   refine Am rfl rfl ?_;exact⟨e.ext,rfl⟩
  have h:=BP (of_decide_eq_false b) h
  iterate 3 refine Ai rfl rfl b rfl ?_
  refine Ae (A3 rfl b rfl) rfl<|AA 1 rfl<|Ay ?_
  cases h
  refine Am rfl rfl ?_;exact⟨hL.ext,rfl⟩
 have h:=BP (of_decide_eq_false a) h
 iterate 3 refine Ai rfl rfl a rfl ?_
 iterate 2 refine Ce rfl rfl rfl ?_
 refine Ai rfl rfl a rfl<|Ae (A3 rfl a rfl) rfl<|Aq 1 rfl ?_
 iterate 3 refine Ai rfl rfl rfl rfl ?_
 refine Ae (A3 rfl rfl rfl) rfl<|AA 1 rfl<|Ay ?_
 cases h
 refine Am rfl rfl ?_;exact⟨hL.ext,rfl⟩
def EO(a0:AaK)(a:Int):Option (Int):=
 Option.bind (BI a0 a) (fun b=>some (b))
def EP:Option (Int):=
 some ((-1:Int))
def BR(a0:AaK)(a1:AaK):Nat→Option ((Nat) ⊕ (Int)):=fun a=>
 if a<a0.length then Option.bind (BI a1 ((Ln a0 a).1:Int)) (fun b=>if(0:Int)≤b then Option.map Sum.inr (some ((a:Int))) else some (Sum.inl (a+(Ln a0 a).2))) else Option.map Sum.inr (EP)
def ER(a0:AaK)(a1:AaK)(s:Nat):Option (Int):=Go.L.run (BR a0 a1) s
def ES(a0:AaK)(a1:AaK):Option (Int):=
 (ER a0 a1) (0:Nat)
def strings_IndexAny(a0:AaK)(a1:AaK):Option (Int):=
 if a1=([]:AaK) then some ((-1:Int)) else(if(a1.length:Int)=(1:Int) then AU (0≤(0:Int)∧(0:Int)<(a1.length:Int)) (if(128:Int)≤(IntKind.i32.wrap ((a1.getD (0:Int).toNat default).toNat:Int)) then(EO a0) (65533:Int) else(EO a0) (IntKind.i32.wrap ((a1.getD (0:Int).toNat default).toNat:Int))) else(if(8:Int)<(a0.length:Int) then none else(ES a0 a1)))
theorem Od(w:World)(H:PH)(hH:Le H (hp w)){a0:AaK}{a1:AaK}{r:Int}(h:strings_IndexAny a0 a1=some r):
  Ok Tryz.prog 167 [AaJ a0,AaJ a1] w (fun v w'=>Ext w w'∧v=No r):=by
 refine A4 (n:=55) [(0,(AaJ a0)),(1,(AaJ a1))] func167 rfl rfl rfl rfl rfl ?_;have hL:=AO.start w;refine A9 1 rfl<|A7<|Bk 1 rfl<|Ae (KN rfl rfl) rfl<|Ac<|AM rfl h (fun ad h=>?_) (fun ad h=>?_)
 ·refine A9 1 rfl<|Ay<|Av ?_
  cases h
  refine Am rfl rfl ?_;exact⟨hL.ext,rfl⟩
 refine Au<|Ao<|A7<|Bk 1 rfl<|Ae (De rfl Abb) rfl<|AA 1 rfl<|AM rfl h (fun ae h=>?_) (fun ae h=>?_)
 ·refine Bk 1 rfl ?_;refine Az h fun af h=>?_;refine Ae (G7 rfl rfl Abb af) rfl<|Ae (EV Ab9 AbQ rfl rfl) rfl<|AA 1 rfl<|Bn (σ:=Int) (fun b=>[(0,(AaJ a0)),(5,.int .i32 b)]) (fun b wr=>AO w [] wr∧(EO a0) b=some r) ?_ ?_
  ·refine A9 2 rfl<|AM rfl h (fun o h=>?_) (fun o h=>?_)
   ·refine Ar<|Aq 1 rfl<|AL<|A6 (65533:Int) (Sub.of rfl) ⟨hL,h⟩
   refine Au<|A6 (IntKind.i32.wrap ((a1.getD (0:Int).toNat default).toNat:Int)) (Sub.of rfl) ⟨hL,h⟩
  rintro b al ⟨e,h⟩;refine Bk 2 rfl ?_;refine Ax h fun au q h=>?_;refine AF rfl rfl e (HV _ _ (As hH e) q) fun av am s ag=>AA 1 rfl<|Ay<|Av ?_
  cases h
  refine Am rfl rfl ?_;exact⟨s.ext,rfl⟩
 refine Au<|Ao<|Bn (σ:=Unit) (fun(_:Unit)=>[(0,(AaJ a0)),(1,(AaJ a1))]) (fun(_:Unit) wr=>AO w [] wr∧(ES a0 a1)=some r) ?_ ?_
 ·refine Bk 1 rfl<|Ae (De rfl Abb) rfl<|AF rfl rfl hL (Y2 _ _ (As hH hL)) fun aw an t ah=>Ac<|AM rfl h (fun u h=>?_) (fun u h=>?_)
  ·refine Ak ?_
   cases h
  refine Au<|A6 () (Sub.of rfl) ⟨t,h⟩
 rintro _ ao ⟨x,h⟩;refine Bn (σ:=Unit) (fun(_:Unit)=>[]) (fun(_:Unit) wr=>AO w [] wr∧EP=some r) ?_ ?_
 ·refine Bk 1 rfl<|U4 rfl Abb rfl x fun ax m y ai=>Ac<|A2 ?_;obtain⟨f,h⟩:=AY h;refine Bw (σ:=Nat×Nat) (fun⟨a,n⟩=>[(1,(AaJ a1)),(45,(AaH m))]) (fun⟨a,n⟩ wr=>AO w [.obj m (.stringIter ⟨(a0).toArray⟩ a)] wr∧FT (BR a0 a1) n a=some r) (fun⟨a,n⟩=>n) ((0:Nat),f) (Sub.of rfl) ⟨y,h⟩ ?_;rintro⟨a,nn67⟩ ap ⟨g,h⟩;obtain⟨f,ay,rfl,h,c⟩:=AX h;refine Ak<|Wh (l:=a0) (p:=a) 0 rfl rfl g rfl (fun d=>?_) (fun d=>?_)
  ·have h:=BO d h;intro az j aj;refine AA 1 rfl<|A7<|Cy rfl<|Au<|Ao<|A2<|A9 4 rfl<|Bk 2 rfl ?_;refine Ax h fun a2 z h=>?_;refine AF rfl rfl j (HV _ _ (As hH j) z) fun a3 aq k ak=>AA 1 rfl<|AM rfl h (fun aa h=>?_) (fun aa h=>?_)
   ·refine A9 2 rfl<|Ay<|Aw<|BK ?_;have h:=BV.out h c;refine Aw<|Bt ?_
    cases h
    refine Am rfl rfl ?_;exact⟨k.ext,rfl⟩
   refine Au<|A8 ?_;have h:=BV.again h c;refine AN ((a+(Ln a0 a).2),f) (Sub.of rfl) ⟨k,h⟩ (Nat.lt_succ_self _)
  have h:=BP d h;refine AA 1 rfl<|A7<|Cw rfl<|Br<|AD<|A5 ?_;have h:=BV.out h c;refine Bd ?_;have ab:=g.AP (i:=0) rfl;refine A6 () (Sub.nil _) ⟨ab,h⟩
 rintro _ ar ⟨ac,h⟩;refine A9 1 rfl<|Ay ?_
 cases h
 refine Am rfl rfl ?_;exact⟨ac.ext,rfl⟩
def BD(a0:AaK)(a1:AaK):Option (Bool):=
 if(a1.length:Int)≤(a0.length:Int) then AU (0≤(a1.length:Int)∧(a1.length:Int)≤(a0.length:Int)) (some (decide ((a0.take (a1.length:Int).toNat)=a1))) else some (false)
theorem Jp(w:World)(H:PH)(_hH:Le H (hp w)){a0:AaK}{a1:AaK}{r:Bool}(h:BD a0 a1=some r):
  Ok Tryz.prog 262 [AaJ a0,AaJ a1] w (fun v w'=>Ext w w'∧v=.bool r):=by
 refine A4 (n:=18) [(0,(AaJ a0)),(1,(AaJ a1))] func262 rfl rfl rfl rfl rfl ?_;have hL:=AO.start w;refine A9 1 rfl<|Bk 1 rfl<|Ae (De rfl Abb) rfl<|Aq 1 rfl<|Ae (De rfl Abb) rfl<|Aq 2 rfl<|AQ (s:=10) rfl (fun a=>?_) (fun a=>?_)
 ·have h:=BO (of_decide_eq_true a) h;refine Aa rfl rfl a<|Ae (Ad rfl) rfl<|Aa rfl rfl a<|Ae (Ad rfl) rfl<|Aa rfl rfl a<|Ae (De rfl Abb) rfl<|Aa rfl rfl a ?_;refine Az h fun b h=>?_;refine Ae (Vs rfl rfl Abb b) rfl<|Aa rfl rfl a<|Ae (Ad rfl) rfl<|Aa rfl rfl a<|Ae (KN rfl rfl) rfl<|Ae (A1 rfl a rfl) rfl<|AA 1 rfl<|Ay ?_
  cases h
  refine Am rfl rfl ?_;exact⟨hL.ext,rfl⟩
 have h:=BP (of_decide_eq_false a) h
 iterate 6 refine Ai rfl rfl a rfl ?_
 refine Ae (A3 rfl a rfl) rfl<|AA 1 rfl<|Ay ?_
 cases h
 refine Am rfl rfl ?_;exact⟨hL.ext,rfl⟩
def BE(a0:AaK)(a1:AaK):Option (AaK×Bool):=
 Option.bind (BD a0 a1) (fun a=>if !a then some (a0,false) else AU (0≤(a1.length:Int)∧(a1.length:Int)≤(a0.length:Int)) (some ((a0.drop (a1.length:Int).toNat),true)))
theorem Jq(w:World)(H:PH)(hH:Le H (hp w)){a0:AaK}{a1:AaK}{r:AaK×Bool}(h:BE a0 a1=some r):
  Ok Tryz.prog 215 [AaJ a0,AaJ a1] w (fun v w'=>Ext w w'∧v=.tuple #[AaJ r.1,.bool r.2]):=by
 refine A4 (n:=15) [(0,(AaJ a0)),(1,(AaJ a1))] func215 rfl rfl rfl rfl rfl ?_;have hL:=AO.start w;refine A9 2 rfl<|A7<|Bk 2 rfl ?_;refine Ax h fun g b h=>?_;refine AF rfl rfl hL (Jp _ _ (As hH hL) b) fun i f a e=>AA 1 rfl<|Bl rfl h (fun c h=>?_) (fun c h=>?_)
 ·refine A9 3 rfl<|Ay<|Av ?_
  cases h
  refine Am rfl rfl ?_;exact⟨a.ext,rfl⟩
 refine Au<|Ao<|Bk 2 rfl<|Ae (De rfl Abb) rfl ?_;refine Az h fun d h=>?_;refine Ae (PE rfl rfl Abb d) rfl<|AA 2 rfl<|Ay ?_
 cases h
 refine Am rfl rfl ?_;exact⟨a.ext,rfl⟩
def DH(a0:AaK)(a1:AaK):Option (AaK×Bool):=
 Option.bind (BE a0 a1) (fun a=>some (a.1,a.2))
theorem N0(w:World)(H:PH)(hH:Le H (hp w)){a0:AaK}{a1:AaK}{r:AaK×Bool}(h:DH a0 a1=some r):
  Ok Tryz.prog 165 [AaJ a0,AaJ a1] w (fun v w'=>Ext w w'∧v=.tuple #[AaJ r.1,.bool r.2]):=by
 refine A4 (n:=11) [(0,(AaJ a0)),(1,(AaJ a1))] func165 rfl rfl rfl rfl rfl ?_;have hL:=AO.start w;refine A9 2 rfl<|Bk 2 rfl ?_;refine Ax h fun e a h=>?_;refine AF rfl rfl hL (Jq _ _ (As hH hL) a) fun f d b c=>AA 4 rfl<|Ay ?_
 cases h
 refine Am rfl rfl ?_;exact⟨b.ext,rfl⟩
end Go.Proofs.YtekmbcbgknmhiaaGreatDoor
end
noncomputable section
namespace Go.Proofs.YtekmbcbgknmhiaaGreatDoor
open Go Go.E Go.RowKit Go.Shelf
def M8(s c:List UInt8):Option Int:=if 8<s.length∨c.length=1 then Go.L.AU (s.length<4294967281∧1≤c.length∧c.length<4294967281∧∀ b∈c,b.toNat<128) (some (Lib.indexAny s c)) else strings_IndexAny s c
theorem Xb(w:World)(H:PH)(hH:Le H (hp w)){a0 a1:List UInt8}{r:Int}(h:M8 a0 a1=some r):Ok Tryz.prog 167 [.string ⟨a0.toArray⟩,.string ⟨a1.toArray⟩] w (fun v w'=>Ext w w'∧v=.int .i64 r):=by
 unfold M8 at h;have hs:(ByteArray.mk a0.toArray).size=a0.length:=by simp [ByteArray.size]
 have hc:(ByteArray.mk a1.toArray).size=a1.length:=by simp [ByteArray.size]
 split at h
 ·rename_i hor;obtain⟨⟨c,k,d,f⟩,h⟩:=Go.L.EN h;obtain rfl:=Option.some.inj h
  have hac:∀ (j:Nat) b,(ByteArray.mk a1.toArray).data.toList[j]? = some b→b.toNat<128:=fun j b hj=>f b (by
   have:=List.mem_of_getElem? hj
   simpa using this)
  refine⟨⟨Tryz.f167,_,Tryz.func167,rfl,rfl⟩,?_⟩
  by_cases g:a1.length=1
  ·refine(Any.strings_IndexAny_one (P:=Tryz.prog) Tryz.X7 ⟨a0.toArray⟩ ⟨a1.toArray⟩ w (by rw [hc];exact g) hac).mono fun e w' he=>?_;obtain⟨rfl,rfl⟩:=he;exact⟨_,rfl,Ext.refl _,by simp⟩
  ·have a:(Tryz.prog.info? (Tryz.Py.t 116)).map (fun i=>(i.zero,i.size))=some (some (.agg (Array.replicate 256 (.bool false))),256):=by kernel_rfl
   refine(Any.strings_IndexAny_long (P:=Tryz.prog) Tryz.X7 (zero_of_info a).1 (zero_of_info a).2 ⟨a0.toArray⟩ ⟨a1.toArray⟩ w (by rw [hc];omega) (by rw [hs];omega) (by rw [hs];exact c) (by rw [hc];exact d) hac).mono fun e w' he=>?_;obtain⟨rfl,rfl⟩:=he;exact⟨_,rfl,(C0 _ _).trans (C0 _ _),by simp⟩
 ·exact Od w H hH h
end Go.Proofs.YtekmbcbgknmhiaaGreatDoor
end
noncomputable section
namespace Go.L
set_option maxRecDepth 20000 in
theorem SN{x:Int}(h:128≤x)(hx:x≤1114111)(hv:Go.Utf8.valid x=true):∃ k:Nat,(Er x).length=k∧2≤k∧k≤4∧128≤((Er x).getD (k - 1) default).toNat:=by
 obtain⟨c,rfl⟩:=Int.eq_ofNat_of_zero_le (show 0≤x by omega);have hm:∀ j:Nat,(128+j % 64) % 256=128+j % 64:=fun j=>Nat.mod_eq_of_lt (by omega);unfold Er Go.Utf8.encode;simp only [hv,if_true,Int.toNat_natCast];rw [if_neg (by omega)];have e:∀ j:Nat,128≤(UInt8.ofNat (128+j % 64)).toNat:=fun j=>by rw [UInt8.toNat_ofNat',hm];omega
 have f:∀ a b:UInt8,((ByteArray.mk #[a,b]).data.toList.length=2)∧(ByteArray.mk #[a,b]).data.toList.getD (2 - 1) default=b:=fun _ _=>⟨rfl,rfl⟩;have g:∀ a b c:UInt8,((ByteArray.mk #[a,b,c]).data.toList.length=3)∧(ByteArray.mk #[a,b,c]).data.toList.getD (3 - 1) default=c:=fun _ _ _=>⟨rfl,rfl⟩;have i:∀ a b c d:UInt8,((ByteArray.mk #[a,b,c,d]).data.toList.length=4)∧(ByteArray.mk #[a,b,c,d]).data.toList.getD (4 - 1) default=d:=fun _ _ _ _=>⟨rfl,rfl⟩
 by_cases l:c<2048
 ·rw [if_pos l];refine⟨2,(f _ _).1,by omega,by omega,?_⟩;rw [(f _ _).2];exact e _
 ·rw [if_neg l]
  by_cases h2:c<65536
  ·rw [if_pos h2];refine⟨3,(g _ _ _).1,by omega,by omega,?_⟩;rw [(g _ _ _).2];exact e _
  ·rw [if_neg h2];refine⟨4,(i _ _ _ _).1,by omega,by omega,?_⟩;rw [(i _ _ _ _).2];exact e _
end Go.L
namespace Go.Proofs.YtekmbcbgknmhiaaGreatDoor
open Go Go.L
theorem V0:∀ n:Fin 128,(0≤Lib.indexByte [45,95,46] (u8 (n.val:Int))↔(n.val=45∨n.val=95∨n.val=46)):=by decide
theorem Y3:Cz [45,95,46] 0=some (-1):=by
 unfold Cz;have r0:B2 [45,95,46] 0=some (.inl 1):=by rfl
 have r1:B2 [45,95,46] 1=some (.inl 2):=by rfl
 have r2:B2 [45,95,46] 2=some (.inl 3):=by rfl
 have r3:B2 [45,95,46] 3=some (.inr (-1)):=by rfl
 rw [BA r0,BA r1,BA r2];exact Bm (m:=some (-1)) r3
theorem Xc{x:Int}(a:0≤x)(hx:x≤1114111):∃ i,BI [45,95,46] x=some i∧(0≤i↔(x=45∨x=95∨x=46)):=by
 unfold BI
 by_cases f:x<128
 ·rw [if_pos ⟨a,f⟩];have:=V0 ⟨x.toNat,by omega⟩;simp only [Int.toNat_of_nonneg a] at this;exact⟨_,rfl,by rw [this];omega⟩
 ·rw [if_neg (by omega)];have hn : ¬ (x=45∨x=95∨x=46):=by omega
  by_cases h2:x=65533
  ·rw [if_pos h2,Y3];exact⟨_,rfl,by omega⟩
  ·rw [if_neg h2]
   by_cases hv:Go.Utf8.valid x=true
   ·have e:B4 x=some true:=by
     unfold B4;simp only [Go.Utf8.valid,Bool.or_eq_true,Bool.and_eq_true,decide_eq_true_eq] at hv
     by_cases h3:0≤x∧x<55296
     ·rw [if_pos h3]
     ·rw [if_neg h3,if_pos (by omega)]
    rw [e];obtain⟨k,hk,h,j,hl⟩:=SN (by omega) hx hv;simp only [Option.bind_some,Bool.not_true,Bool.false_eq_true,if_false,hk];rw [An (by unfold BL;omega)];refine⟨-1,Bm ?_,by omega⟩;unfold Dk;have g:((k:Int) - 1).toNat=k - 1:=by omega
    have key:∀ (l:List UInt8) (c:UInt8),(∀ b∈l,b.toNat<128)→128≤c.toNat→Lib.indexByte l c = -1:=by
     intro l c hl hc
     induction l with
     | nil=>rfl
     | cons b l ih=>
      have hb:=hl b (.head _)
      have hne:(b==c)=false:=by
       cases hh:b==c with
       | false=>rfl
       | true=>have:=beq_iff_eq.1 hh;subst this;omega
      unfold Lib.indexByte;rw [ih (fun b hb=>hl b (.tail _ hb)),hne]
      rfl
    have d:k=2∨k=3∨k=4:=by omega
    simp only [hk,g]
    rcases d with rfl | rfl | rfl
    ·rw [if_pos (by decide),An (by decide),An (by decide),if_neg (by intro hh;have:(([45,95,46]:List UInt8).getD 1 default).toNat=95:=rfl;simp only [Nat.reduceSub] at hl hh;omega),An (by unfold BL;decide),An (by decide),An (by decide)];unfold Nv;rw [Option.bind_some,key _ _ (by decide) hl,if_pos (by decide)]
    ·rw [if_pos (by decide),An (by decide),An (by decide),if_neg (by intro hh;have:(([45,95,46]:List UInt8).getD 2 default).toNat=46:=rfl;simp only [Nat.reduceSub] at hl hh;omega),An (by unfold BL;decide),An (by decide),An (by decide)];unfold Nv;rw [Option.bind_some,key _ _ (by decide) hl,if_pos (by decide)]
    ·rw [if_neg (by decide)]
     rfl
   ·have e:B4 x=some false:=by
     unfold B4;simp only [Go.Utf8.valid,Bool.or_eq_true,Bool.and_eq_true,decide_eq_true_eq] at hv;rw [if_neg (by omega),if_neg (by omega)]
    rw [e];exact⟨-1,rfl,by omega⟩
def TC(n:Nat):Bool:=!((decide (97≤n∧n≤122))||(decide (48≤n∧n≤57))||(decide (n=45∨n=95∨n=46)))
theorem Y4{n:Nat}(hx:n≤1114111):M7 (n:Int)=some (TC n):=by
 obtain⟨i,hi,hd⟩:=Xc (x:=(n:Int)) (by omega) (by omega);have hc:Eu [45,95,46] (n:Int)=some (decide (0≤i)):=by unfold Eu;rw [hi];rfl
 have hd':decide (0≤i)=decide (n=45∨n=95∨n=46):=by
  rw [Bool.eq_iff_iff,decide_eq_true_eq,decide_eq_true_eq,hd];omega
 unfold M7 TC;rw [hc,hd'];simp only [Option.bind_some]
 by_cases c:(n:Int)<97∨(122:Int)<n
 ·rw [if_pos c];have a:decide (97≤n∧n≤122)=false:=decide_eq_false (by omega)
  by_cases h2:(n:Int)<48
  ·rw [if_pos h2];have b:decide (48≤n∧n≤57)=false:=decide_eq_false (by omega);rw [a,b];rfl
  ·rw [if_neg h2]
   by_cases h3:(57:Int)<n
   ·rw [if_pos h3];have b:decide (48≤n∧n≤57)=false:=decide_eq_false (by omega);rw [a,b];rfl
   ·rw [if_neg h3];have b:decide (48≤n∧n≤57)=true:=decide_eq_true (by omega);rw [a,b];rfl
 ·rw [if_neg c];have a:decide (97≤n∧n≤122)=true:=decide_eq_true (by omega);rw [a];rfl
end Go.Proofs.YtekmbcbgknmhiaaGreatDoor
end
noncomputable section
namespace Go.Proofs.YtekmbcbgknmhiaaGreatDoor
open Go Go.E Go.RowKit Go.Shelf
def RC(a:List UInt8):Option Bool:=some (decide (0≤Lib.idxFunc TC true ⟨a.toArray⟩))
theorem Xd(w:World)(H:PH)(_hH:Le H (hp w)){a0:List UInt8}{r:Bool}(h:RC a0=some r):
  Ok Tryz.prog 205 [.string ⟨a0.toArray⟩,.func (.func 206) #[] #[]] w (fun v w'=>Ext w w'∧v=.bool r):=by
 obtain rfl:=Option.some.inj h;refine⟨⟨Tryz.f205,_,Tryz.func205,rfl,rfl⟩,(Any.strings_ContainsFunc_grows Tryz.AbU 206 #[] (enters_of Tryz.func206 (by kernel_rfl) rfl) TC ⟨a0.toArray⟩ w ?_).mono fun e w' he=>?_⟩
 ·intro W x hx _;refine(Qy W (hp W) (Le.refl _) (Y4 hx)).2.mono fun e w' he=>?_;obtain⟨v,rfl,hx,rfl⟩:=he;exact⟨rfl,hx.toBelow⟩
 ·obtain⟨rfl,hb⟩:=he;exact⟨_,rfl,Ext.off hb,rfl⟩
end Go.Proofs.YtekmbcbgknmhiaaGreatDoor
end
