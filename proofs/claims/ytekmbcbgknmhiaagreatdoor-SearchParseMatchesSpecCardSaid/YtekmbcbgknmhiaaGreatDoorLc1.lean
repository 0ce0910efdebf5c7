/- Texts of a claim, merged. -/
import Derived.WalkKit
import Derived.ProofKit
import Derived.StillTail
import Derived.Laws.StructEq
import Derived.Lib.AppendZeros
import Derived.Lib.Bytealg
import Derived.Laws.Externs
import Derived.Lib.ConvBytes
import Derived.Recover
import Derived.RangeFuncSeq
import Derived.RangeFuncLeaves
import Derived.RangeFuncCalls
import Derived.OrdersIn
import Derived.Scope
set_option linter.unusedVariables false
set_option linter.unusedSimpArgs false
noncomputable section
namespace Go.E
open Go
abbrev Env:=List (Nat×Value)
def gt:Env->Nat->Option Value
 | [],_=>none
 | (k,v)::L,t=>bif Nat.beq k t then some v else gt L t
def ev(L:Env):Operand->Option Value
 | .tmp t=>gt L t
 | .const v=>some v
 | .global g=>some (.pointer (some ⟨g,0,none⟩))
 | .func f=>some (.func (.func f) #[] #[])
def Qb(L:Env):List Operand->Option (List Value)
 | []=>some []
 | x::xs=>match ev L x,Qb L xs with
  | some v,some vs=>some (v::vs)
  | _,_=>none
structure Sz where
 n:Nat
 d:List Deferred
structure Fr (n:Sz) (a:Act) (L:Env):Prop where
 size:a.tmps.size=n.n
 defers:a.defers=n.d
 get:∀ t v,gt L t=some v->a.tmps[t]? = some v
theorem Nt{k t:Nat}{v:Value}{L:Env}:gt ((k,v)::L) t=if k=t then some v else gt L t:=by
 show(bif Nat.beq k t then some v else gt L t)=_
 by_cases h:k=t
 ·subst h;simp
 ·have:Nat.beq k t=false:=by
   cases hb:Nat.beq k t with
   | true=>exact absurd (Nat.eq_of_beq_eq_true hb) h
   | false=>rfl
  rw [this,if_neg h];rfl
theorem Fr.eval{n:Sz}{a:Act}{L:Env}(h:Fr n a L){x:Operand}{v:Value}(hx:ev L x=some v):a.eval x=v:=by
 cases x with
 | tmp t=>simp only [ev] at hx;have:=h.get t v hx;simp [Act.eval,Array.getD_eq_getD_getElem?,this]
 | const u=>simp only [ev,Option.some.injEq] at hx;simpa [Act.eval] using hx
 | func f=>simp only [ev,Option.some.injEq] at hx;simpa [Act.eval] using hx
 | _=>simp only [ev,Option.some.injEq] at hx;simpa [Act.eval] using hx
theorem Fr.put{n:Sz}{a:Act}{L:Env}(h:Fr n a L){d:Nat}{v:Value}(hd:Nat.blt d n.n=true):Fr n (a.put (some d) v) ((d,v)::L):=by
 have hd':d<n.n:=by simpa [Nat.blt_eq] using hd
 refine⟨by simp [Act.put,h.size],by simp [Act.put,h.defers],fun t u ht=>?_⟩;rw [Nt] at ht
 by_cases e:d=t
 ·subst e;rw [if_pos rfl] at ht
  cases ht
  simp [Act.put,h.size,hd']
 ·rw [if_neg e] at ht;have:=h.get t u ht;simp only [Act.put];rw [Array.getElem?_setIfInBounds_ne e];exact this
theorem leMax(n:Nat)(h:n<=9223372036854775807:=by decide):n<=9223372036854775807:=h
def Sub(L' L:Env):Prop:=∀ t v,gt L' t=some v->gt L t=some v
theorem Sub.refl(L:Env):Sub L L:=fun _ _ h=>h
theorem Sub.nil(L:Env):Sub [] L:=fun _ _ h=>by cases h
theorem Sub.cons{t:Nat}{v:Value}{L' L:Env}(hg:gt L t=some v)(h:Sub L' L):Sub ((t,v)::L') L:=fun t' u hu=>by
 rw [Nt] at hu
 by_cases e:t=t'
 ·subst e;rw [if_pos rfl] at hu;cases hu;exact hg
 ·rw [if_neg e] at hu;exact h t' u hu
def ga(L:Env):Env->List (Option Value)
 | []=>[]
 | (t,_)::r=>gt L t::ga L r
def va:Env->List (Option Value)
 | []=>[]
 | (_,v)::r=>some v::va r
theorem Sub.of{L:Env}:∀ {L':Env},ga L L'=va L'->Sub L' L
 | [],_=>Sub.nil L
 | (_,_)::_,h=>Sub.cons (List.cons.inj h).1 (Sub.of (List.cons.inj h).2)
theorem Sub.int{t:Nat}{k:IntKind}{x y:Int}{L' L:Env}(hg:gt L t=some (.int k x))(he:x=y)(h:Sub L' L):Sub ((t,.int k y)::L') L:=.cons (he ▸ hg) h
theorem Fr.sub{n:Sz}{a:Act}{L L':Env}(h:Fr n a L)(hs:Sub L' L):Fr n a L':=⟨h.size,h.defers,fun t v ht=>h.get t v (hs t v ht)⟩
def W(P:Program)(n:Sz)(c:Code)(Q:Exit->Act->World->Prop)(L:Env)(w:World):Prop:=∀ a,Fr n a L->c.wp P Q a w
def S(P:Program)(n:Sz)(ops:Array Oper)(Q:Exit->Act->World->Prop)(l:List Oper)(L:Env)(w:World):Prop:=∀ a,Fr n a L->wpList P ops Q l a w
def At(n:Sz)(Q:Exit->Act->World->Prop)(e:Exit)(L:Env)(w:World):Prop:=∀ a,Fr n a L->Q e a w
def Qc(P:Program)(y:Code)(Q:Exit->Act->World->Prop):Exit->Act->World->Prop:=Exit.then (y.wp P Q) Q
def V9{σ:Type}(n:Sz)(I:σ->Env)(R:σ->World->Prop)(Q:Exit->Act->World->Prop):Exit->Act->World->Prop:=
 Exit.then (fun a w=>∃ s,Fr n a (I s)/\R s w) Q
def Sr{σ:Type}(n:Sz)(I:σ->Env)(R:σ->World->Prop)(μ:σ->Nat)(x:σ)(Q:Exit->Act->World->Prop):Exit->Act->World->Prop:=
 Exit.then (fun a w=>∃ s,Fr n a (I s)/\R s w/\μ s<μ x) Q
section
variable {P:Program} {n:Sz} {Q:Exit->Act->World->Prop} {L:Env} {w:World} {x y c:Code}
theorem W.sub{L':Env}(h:W P n c Q L' w)(hs:Sub L' L):W P n c Q L w:=fun a fr=>h a (fr.sub hs)
theorem S.sub{ops:Array Oper}{l:List Oper}{L':Env}(h:S P n ops Q l L' w)(hs:Sub L' L):S P n ops Q l L w:=fun a fr=>h a (fr.sub hs)
theorem A7(h:W P n x (Qc P y Q) L w):W P n (.seq x y) Q L w:=fun a fr=>wp_seq (h a fr)
theorem Av(h:At n Q .normal L w):W P n .skip Q L w:=fun a fr=>wp_skip (h a fr)
theorem Ax(h:At n Q .ret L w):W P n .ret Q L w:=fun a fr=>wp_ret (h a fr)
theorem Br{id:Nat}(h:At n Q (.exit id) L w):W P n (.exit id) Q L w:=fun a fr=>wp_exit (h a fr)
theorem A5{id:Nat}(h:W P n c (Exit.inBlock id Q) L w):W P n (.block id c) Q L w:=fun a fr=>wp_block (h a fr)
theorem Aw{id:Nat}{l:List Oper}(h:S P n l.toArray Q l L w):W P n (.region id l.toArray false) Q L w:=fun a fr=>wp_region_lit (h a fr)
theorem Am{id:Nat}{l:List Oper}(h:S P n l.toArray (Qc P y Q) l L w):W P n (.seq (.region id l.toArray false) y) Q L w:=A7 (Aw h)
theorem WE{t:Operand}{b:Bool}(hc:ev L t=some (.bool b))(ht:b=true->W P n x Q L w)(hf:b=false->W P n y Q L w):W P n (.cond t x y) Q L w:=
 fun a fr=>wp_cond_split (fr.eval hc) (fun e=>ht e a fr) (fun e=>hf e a fr)
theorem AeB{t:Operand}{p:Prop}[Decidable p](hc:ev L t=some (.bool (decide p)))(ht:p->W P n x Q L w)(hf : ¬ p->W P n y Q L w):W P n (.cond t x y) Q L w:=
 WE hc (fun e=>ht (of_decide_eq_true e)) (fun e=>hf (of_decide_eq_false e))
theorem AdY{t:Operand}{p:Prop}[Decidable p](hc:ev L t=some (.bool (!decide p)))(ht : ¬ p->W P n x Q L w)(hf:p->W P n y Q L w):W P n (.cond t x y) Q L w:=
 WE hc (fun e=>ht (by simpa using e)) (fun e=>hf (by simpa using e))
theorem Cg{t:Operand}(hc:ev L t=some (.bool true))(h:W P n x Q L w):W P n (.cond t x y) Q L w:=fun a fr=>wp_cond_true (fr.eval hc) (h a fr)
theorem Cr{t:Operand}(hc:ev L t=some (.bool false))(h:W P n y Q L w):W P n (.cond t x y) Q L w:=fun a fr=>wp_cond_false (fr.eval hc) (h a fr)
theorem Bx{σ:Type}(I:σ->Env)(R:σ->World->Prop)(μ:σ->Nat)(d:σ)(hs:Sub (I d) L)(hR:R d w)
  (round:∀ s w,R s w->W P n c (Sr n I R μ s Q) (I s) w):W P n (.loop c) Q L w:=by
 intro a fr b k cs
 have key:∀ m s a w,μ s=m->Fr n a (I s)->R s w->
   ∃ e a' w',Q e a' w'/\Arrives P (lone (b.at a (.code c::.inLoop c::k)) cs w) b k cs e a' w':=by
  intro m
  induction m using Nat.strongRecOn with
  | _ m ih=>
   intro s a w hm fr hR;obtain⟨e,a₁,w₁,hq,harr⟩:=round s w hR a fr b (.inLoop c::k) cs
   cases e with
   | normal=>
    obtain⟨s',fr',hR',hlt⟩:=hq;obtain⟨e₂,a₂,w₂,hq₂,harr₂⟩:=ih (μ s') (hm ▸ hlt) s' a₁ w₁ rfl fr' hR';exact⟨e₂,a₂,w₂,hq₂,.of_steps (Steps.trans harr (.one step_inLoop)) harr₂⟩
   | exit id=>exact⟨_,a₁,w₁,hq,.pass (x:=.inLoop c) rfl (fun _ _=>.inl (by simp)) harr⟩
   | goto l=>exact⟨_,a₁,w₁,hq,.pass (x:=.inLoop c) rfl (fun _ _=>.inl (by simp)) harr⟩
   | ret=>exact⟨_,a₁,w₁,hq,.pass (x:=.inLoop c) rfl (fun _ _=>.inl (by simp)) harr⟩
   | panic ch=>exact⟨_,a₁,w₁,hq,.pass (x:=.inLoop c) rfl (fun _ _=>.inl (by simp)) harr⟩
   | outgrown=>exact⟨_,a₁,w₁,hq,.pass (x:=.inLoop c) rfl (fun _ _=>.inl (by simp)) harr⟩
 obtain⟨e,a',w',hq,harr⟩:=key _ d a w rfl (fr.sub hs) hR;exact⟨e,a',w',hq,.of_steps (.one step_loop) harr⟩
theorem Bo{σ:Type}(I:σ->Env)(R:σ->World->Prop)(b:W P n x (V9 n I R Q) L w)(h2:∀ s w,R s w->W P n y Q (I s) w):W P n (.seq x y) Q L w:=
 fun a fr=>wp_seq (wp_mono (b a fr) fun e a' w' q=>by
  cases e with
  | normal=>obtain⟨s,fr',hR⟩:=q;exact h2 s w' hR a' fr'
  | exit id=>exact q
  | goto l=>exact q
  | ret=>exact q
  | panic ch=>exact q
  | outgrown=>exact q)
theorem Ao(h:W P n y Q L w):At n (Qc P y Q) .normal L w:=h
theorem A8{σ:Type}{I:σ->Env}{R:σ->World->Prop}(s:σ)(hs:Sub (I s) L)(hR:R s w):At n (V9 n I R Q) .normal L w:=fun _ fr=>⟨s,fr.sub hs,hR⟩
theorem AN{σ:Type}{I:σ->Env}{R:σ->World->Prop}{μ:σ->Nat}{a:σ}(s:σ)(hs:Sub (I s) L)(hR:R s w)(hm:μ s<μ a):At n (Sr n I R μ a Q) .normal L w:=
 fun _ fr=>⟨s,fr.sub hs,hR,hm⟩
theorem AF{id:Nat}(h:At n Q .normal L w):At n (Exit.inBlock id Q) .normal L w:=h
theorem Be{id:Nat}(h:At n Q .normal L w):At n (Exit.inBlock id Q) (.exit id) L w:=fun a fr=>by simpa [Exit.inBlock] using h a fr
theorem Nu{id id':Nat}(hne:Nat.beq id' id=false)(h:At n Q (.exit id') L w):At n (Exit.inBlock id Q) (.exit id') L w:=fun a fr=>by
 have:id'≠id:=fun e=>by subst e;simp at hne
 simpa [Exit.inBlock,this] using h a fr
theorem AG{id:Nat}(h:At n Q (.exit id) L w):At n (Qc P y Q) (.exit id) L w:=h
theorem Mj{σ:Type}{I:σ->Env}{R:σ->World->Prop}{id:Nat}(h:At n Q (.exit id) L w):At n (V9 n I R Q) (.exit id) L w:=h
theorem A6{σ:Type}{I:σ->Env}{R:σ->World->Prop}{μ:σ->Nat}{a:σ}{id:Nat}(h:At n Q (.exit id) L w):At n (Sr n I R μ a Q) (.exit id) L w:=h
theorem An(h:At n Q .ret L w):At n (Qc P y Q) .ret L w:=h
theorem Bs{σ:Type}{I:σ->Env}{R:σ->World->Prop}(h:At n Q .ret L w):At n (V9 n I R Q) .ret L w:=h
theorem By{σ:Type}{I:σ->Env}{R:σ->World->Prop}{μ:σ->Nat}{a:σ}(h:At n Q .ret L w):At n (Sr n I R μ a Q) .ret L w:=h
theorem Aq{id:Nat}(h:At n Q .ret L w):At n (Exit.inBlock id Q) .ret L w:=h
end
def Ip (P : Program) (f : FuncId) : Prop := ∃ fn c, P.funcs[f]? = some fn /\ (fn.name == "runtime.NumGoroutine") = false /\ fn.body = some c
def Rq(R:Value->World->Prop):Ending->World->Prop:=fun e w'=>∃ v,e=.returned v/\R v w'
def Ok(P:Program)(f:FuncId)(args:List Value)(w:World)(R:Value->World->Prop):Prop:=
 Ip P f/\Calls P f args.toArray w (Rq R)
theorem Ok.mono{P:Program}{f:FuncId}{args:List Value}{w:World}{R R':Value->World->Prop}(h:Ok P f args w R)(hr:∀ v w',R v w'->R' v w'):Ok P f args w R':=
 ⟨h.1,h.2.mono fun _ w' ⟨v,he,hv⟩=>⟨v,he,hr v w' hv⟩⟩
def MB:Nat->List Value->Env
 | _,[]=>[]
 | k,v::l=>(k,v)::MB (k+1) l
theorem QH:∀ (l:List Value) (k t:Nat) (v:Value),gt (MB k l) t=some v->k<=t/\l[t - k]? = some v
 | [],_,_,_,h=>by cases h
 | u::l,k,t,v,h=>by
  simp only [MB,Nt] at h
  by_cases e:k=t
  ·subst e;rw [if_pos rfl] at h;cases h;simp
  ·rw [if_neg e] at h;have⟨a,h2⟩:=QH l (k+1) t v h;refine⟨by omega,?_⟩;have:t - k=(t - (k+1))+1:=by omega
   rw [this,List.getElem?_cons_succ];exact h2
def Mk(P:Program)(fn:Func)(R:Value->World->Prop):Exit->Act->World->Prop:=bodyPost P fn (Rq R)
theorem Ez{P:Program}{f:FuncId}{fn:Func}{c:Code}{args:List Value}{w:World}{R:Value->World->Prop}{n:Nat}(L:Env)
  (hf : P.funcs[f]? = some fn) (hname : (fn.name == "runtime.NumGoroutine") = false) (hb : fn.body = some c) (hn : fn.ntmps = n) (hk : Nat.ble args.length n = true) (hL : MB 0 args = L)
  (h:W P ⟨n,[]⟩ c (Mk P fn R) L w):Ok P f args w R:=by
 refine⟨⟨fn,c,hf,hname,hb⟩,calls_of_wp hf hb ?_⟩;have hk':args.length<=n:=by simpa [Nat.ble_eq] using hk
 refine h _ ⟨?_,rfl,?_⟩
 ·simp [hn];omega
 ·intro t v ht;subst hL;have⟨_,h2⟩:=QH args 0 t v ht;simp only [Nat.sub_zero] at h2;have hlt:t<args.length:=(List.getElem?_eq_some_iff.1 h2).1;simp only [List.size_toArray];rw [Array.getElem?_append_left (by simpa using hlt)]
  simpa using h2
def Oh:List ResultVar->Env->Option Value
 | [.tmp t],L=>gt L t
 | [.tmp t,.tmp u],L=>match gt L t,gt L u with | some a,some b=>some (.tuple #[a,b]) | _,_=>none
 | [.tmp t,.tmp u,.tmp s],L=>match gt L t,gt L u,gt L s with | some a,some b,some c=>some (.tuple #[a,b,c]) | _,_,_=>none
 | _,_=>none
theorem Ss{P:Program}{fn:Func}{n:Sz}{a:Act}{L:Env}{w:World}{l:List ResultVar}{v:Value}(fr:Fr n a L)(hl:fn.results=l.toArray)(h:Oh l L=some v):
  (results fn a.tmps).run P w=.ok v w:=by
 unfold Oh at h
 split at h
 ·rename_i t;rw [results_tmp hl];have:=fr.get t v h;simp [Array.getD_eq_getD_getElem?,this]
 ·rename_i t u
  split at h
  ·rename_i x y b h2;cases h;rw [results_tmp2 hl];have c:=fr.get t x b;have d:=fr.get u y h2;simp [Array.getD_eq_getD_getElem?,c,d]
  ·cases h
 ·rename_i t u s
  split at h
  ·rename_i x y z b h2 h3;cases h;rw [results_tmp3 hl];have c:=fr.get t x b;have d:=fr.get u y h2;have e:=fr.get s z h3;simp [Array.getD_eq_getD_getElem?,c,d,e]
  ·cases h
 ·cases h
theorem Sb{P:Program}{fn:Func}{R:Value->World->Prop}{n:Nat}{L:Env}{w:World}{l:List ResultVar}{v:Value}(hl:fn.results=l.toArray)(h:Oh l L=some v)(hR:R v w):At ⟨n,[]⟩ (Mk P fn R) .ret L w:=
 fun _ fr=>⟨fr.defers,v,Ss fr hl h,v,rfl,hR⟩
theorem Ak{P:Program}{fn:Func}{R:Value->World->Prop}{n:Nat}{L:Env}{w:World}{l:List ResultVar}{v:Value}(hq:(fn.results,Oh l L)=(l.toArray,some v))(hR:R v w):At ⟨n,[]⟩ (Mk P fn R) .ret L w:=
 Sb (Prod.mk.inj hq).1 (Prod.mk.inj hq).2 hR
section
variable {P:Program} {n:Sz} {ops:Array Oper} {Q:Exit->Act->World->Prop} {L:Env} {w:World} {rest:List Oper}
 {d:Nat} {ty:TypeId} {pos:String} {af:Array Edge}
def WG(L:Env)(ρ:Operand->Value):Prop:=∀ x u,ev L x=some u->ρ x=u
theorem Fr.RC{a:Act}(fr:Fr n a L):WG L a.eval:=fun _ _ h=>fr.eval h
theorem WG.map{ρ:Operand->Value}(h:WG L ρ):∀ (l:List Operand) (vs:List Value),Qb L l=some vs->l.map ρ=vs
 | [],vs,e=>by simp only [Qb,Option.some.injEq] at e;simpa using e
 | x::l,vs,e=>by
  unfold Qb at e
  split at e
  ·rename_i v us a h2;cases e;simp [h x v a,WG.map h l us h2]
  ·cases e
theorem AK(h:At n Q .normal L w):S P n ops Q [] L w:=fun a fr=>h a fr
theorem Ac{y:Code}(h:W P n y Q L w):S P n ops (Qc P y Q) [] L w:=fun a fr=>h a fr
theorem QI{o:Oper}(hg:o.guard=none)(h:∀ a,Fr n a L->o.wp P a w (wpList P ops Q rest) Q):S P n ops Q (o::rest) L w:=
 fun a fr=>by
  unfold wpList;rw [if_pos (by simp [Region.wanted,hg])];exact .inl (h a fr)
theorem Du{o:Oper}{v:Value}{w':World}(hg:o.guard=none)(hd:o.dst=some d)(hn:Nat.blt d n.n=true)
  (hrun:∀ ρ,WG L ρ->(execOp ρ o).run P w=.ok (.value v) w') (h:S P n ops Q rest ((d,v)::L) w'):S P n ops Q (o::rest) L w:=
 QI hg fun a fr=>by
  unfold Oper.wp;rw [hrun _ fr.RC]
  show wpList P ops Q rest (a.put o.dst v) w'
  rw [hd];exact h _ (fr.put hn)
theorem MR{o:Oper}{w':World}(hg:o.guard=none)(hd:o.dst=none)
  (hrun:∀ ρ,WG L ρ->(execOp ρ o).run P w=.ok .skip w') (h:S P n ops Q rest L w'):S P n ops Q (o::rest) L w:=
 QI hg fun a fr=>by
  unfold Oper.wp;rw [hrun _ fr.RC]
  show wpList P ops Q rest (a.put o.dst undef) w'
  rw [hd];exact h _ fr
theorem TV{dst:Option Tmp}{op:Op}{j:Nat}{want b:Bool}{t:Nat}(hj:((ops[j]?).bind (·.dst))=some t)(hb:gt L t=some (.bool b))(hw:b=want)
  (h:S P n ops Q (⟨dst,op,ty,pos,af,none⟩::rest) L w):S P n ops Q (⟨dst,op,ty,pos,af,some (j,want)⟩::rest) L w:=fun a fr=>by
 have c:=h a fr;simp only [wpList] at c ⊢;have hy:yielded ops a.tmps j=some b:=by simp [yielded,hj,fr.get t _ hb]
 have hwant:Region.wanted ⟨dst,op,ty,pos,af,some (j,want)⟩ (yielded ops a.tmps)=true:=by simp [Region.wanted,hy,hw]
 rw [if_pos hwant];have d:Region.wanted ⟨dst,op,ty,pos,af,none⟩ (yielded ops a.tmps)=true:=by simp [Region.wanted]
 rw [if_pos d] at c;exact c
theorem St{op:Op}{j:Nat}{want b:Bool}{t:Nat}(hj:((ops[j]?).bind (·.dst))=some t)(hb:gt L t=some (.bool b))(hw:b = !want)(hn:Nat.blt d n.n=true)
  (h:S P n ops Q rest ((d,undef)::L) w):S P n ops Q (⟨some d,op,ty,pos,af,some (j,want)⟩::rest) L w:=fun a fr=>by
 simp only [wpList];have hy:yielded ops a.tmps j=some b:=by simp [yielded,hj,fr.get t _ hb]
 have hwant:Region.wanted ⟨some d,op,ty,pos,af,some (j,want)⟩ (yielded ops a.tmps)=false:=by simp [Region.wanted,hy,hw]
 rw [hwant];exact h _ (fr.put hn)
theorem Aa{dst:Option Tmp}{op:Op}{j:Nat}{want b:Bool}{t:Nat}(hq:((ops[j]?).bind (·.dst),gt L t)=(some t,some (.bool b)))(hw:b=want)
  (h:S P n ops Q (⟨dst,op,ty,pos,af,none⟩::rest) L w):S P n ops Q (⟨dst,op,ty,pos,af,some (j,want)⟩::rest) L w:=TV (Prod.mk.inj hq).1 (Prod.mk.inj hq).2 hw h
theorem Ai{op:Op}{j:Nat}{want b:Bool}{t:Nat}(hq:((ops[j]?).bind (·.dst),gt L t)=(some t,some (.bool b)))(hw:b = !want)(hn:Nat.blt d n.n=true)
  (h:S P n ops Q rest ((d,undef)::L) w):S P n ops Q (⟨some d,op,ty,pos,af,some (j,want)⟩::rest) L w:=St (Prod.mk.inj hq).1 (Prod.mk.inj hq).2 hw hn h
theorem Cl{op:Op}{j:Nat}{want:Bool}{t:Nat}(hj:((ops[j]?).bind (·.dst))=some t)(hb:gt L t=some undef)(hn:Nat.blt d n.n=true)
  (h:S P n ops Q rest ((d,undef)::L) w):S P n ops Q (⟨some d,op,ty,pos,af,some (j,want)⟩::rest) L w:=fun a fr=>by
 simp only [wpList];have hy:yielded ops a.tmps j=none:=by simp [yielded,hj,fr.get t _ hb,undef]
 have hwant:Region.wanted ⟨some d,op,ty,pos,af,some (j,want)⟩ (yielded ops a.tmps)=false:=by simp [Region.wanted,hy]
 rw [hwant];exact h _ (fr.put hn)
end
end Go.E
namespace Go.E
open Go
def nth:List Value->Nat->Option Value
 | [],_=>none
 | v::_,0=>some v
 | _::l,i+1=>nth l i
theorem WH:∀ (l:List Value) (i:Nat),nth l i=l[i]?
 | [],_=>rfl
 | _::_,0=>rfl
 | _::l,i+1=>by simpa [nth] using WH l i
def AcW:BinOp->Int->Int->Option Bool
 | .eql,a,b=>some (decide (a=b))
 | .neq,a,b=>some (!decide (a=b))
 | .lss,a,b=>some (decide (a<b))
 | .leq,a,b=>some (decide (a<=b))
 | .gtr,a,b=>some (decide (b<a))
 | .geq,a,b=>some (decide (b<=a))
 | _,_,_=>none
def Ml:IntKind->IntKind->Bool
 | .i8,.i8 | .i16,.i16 | .i32,.i32 | .i64,.i64 | .u8,.u8 | .u16,.u16 | .u32,.u32 | .u64,.u64=>true
 | _,_=>false
theorem Zg:∀ {a b:IntKind},Ml a b=true->a=b
 | .i8,.i8,_=>rfl | .i16,.i16,_=>rfl | .i32,.i32,_=>rfl | .i64,.i64,_=>rfl
 | .u8,.u8,_=>rfl | .u16,.u16,_=>rfl | .u32,.u32,_=>rfl | .u64,.u64,_=>rfl
def pu(L:Env):Op->Option Value
 | .move x=>ev L x
 | .assign x=>ev L x
 | .extract x i=>match ev L x with
  | some (.tuple vs)=>nth vs.toList i
  | _=>none
 | .binOp op _ x y _=>match ev L x,ev L y with
  | some (.int k a),some (.int k' b)=>bif Ml k k' then(match AcW op a b with | some r=>some (.bool r) | none=>none) else none
  | _,_=>none
 | .unOp .not _ x=>match ev L x with
  | some (.bool b)=>some (.bool (!b))
  | _=>none
 | .makeFunc fn first captured=>match Qb L first.toList,Qb L captured.toList with
  | some a,some b=>some (.func fn a.toArray b.toArray)
  | _,_=>none
 | .pick c a b=>match ev L c with
  | some (.bool true)=>ev L a
  | some (.bool false)=>ev L b
  | _=>none
 | _=>none
section
variable {P:Program} {n:Sz} {ops:Array Oper} {Q:Exit->Act->World->Prop} {L:Env} {w:World} {rest:List Oper}
 {d:Nat} {ty:TypeId} {pos:String} {af:Array Edge}
theorem WI{op:BinOp}{t:TypeId}{x y:Operand}{k:IntKind}{a b:Int}{r:Bool}(h:AcW op a b=some r):
  (do eqGuard op t x y (.int k a) (.int k b);binOp op t (.int k a) (.int k b)).run P w=.ok (.bool r) w:=by
 cases op <;> simp only [AcW,Option.some.injEq,reduceCtorEq] at h <;> subst h <;>
  simp [eqGuard,binOp,Op.intCmp,GT.gt,GE.ge,bne,BEq.beq]
theorem Zh{op:Op}{v:Value}{dst:Option Tmp}(h:pu L op=some v)(ρ:Operand->Value)(hρ:WG L ρ):
  (execOp ρ ⟨dst,op,ty,pos,af,none⟩).run P w=.ok (.value v) w:=by
 unfold pu at h
 split at h
 ·rename_i x;simp [execOp,hρ x v h]
 ·rename_i x;simp [execOp,hρ x v h]
 ·rename_i x i
  split at h
  ·rename_i vs hx;rw [WH] at h;have h':vs[i]? = some v:=by simpa using h
   simp [execOp,hρ x _ hx,Instr.extract,h']
  ·cases h
 ·rename_i op t x y t'
  split at h
  ·rename_i k a k' b hx hy
   cases hk:Ml k k' with
   | false=>rw [hk] at h;cases h
   | true=>
    rw [hk] at h;obtain rfl:=Zg hk;simp only [cond_true] at h
    split at h
    ·rename_i r hr
     cases h
     have:=WI (P:=P) (w:=w) (t:=t) (x:=x) (y:=y) (k:=k) hr;simp only [execOp,hρ x _ hx,hρ y _ hy];simp only [Sem.run_bind] at this ⊢;rw [this]
     rfl
    ·cases h
  ·cases h
 ·rename_i t x
  split at h
  ·rename_i b hx;cases h;simp [execOp,hρ x _ hx,Op.unary]
  ·cases h
 ·rename_i fn first captured
  split at h
  ·rename_i a b d h2
   cases h
   have e:=hρ.map _ _ d;have f:=hρ.map _ _ h2;have f1:first.map ρ=a.toArray:=by apply Array.ext';simpa using e
   have f2:captured.map ρ=b.toArray:=by apply Array.ext';simpa using f
   simp [execOp,Instr.makeFunc,f1,f2]
  ·cases h
 ·rename_i c a b
  split at h
  ·rename_i hc;simp [execOp,hρ c _ hc,hρ a _ h,asBool]
  ·rename_i hc;simp [execOp,hρ c _ hc,hρ b _ h,asBool]
  ·cases h
 ·cases h
def PE(n:Sz)(o:Oper)(L:Env):Option Env:=
 match o with
 | ⟨some d,op,_,_,_,none⟩=>match pu L op with
  | some v=>bif Nat.blt d n.n then some ((d,v)::L) else none
  | none=>none
 | _=>none
def puK(n:Sz):Nat->List Oper->Env->Option (List Oper×Env)
 | 0,l,L=>some (l,L)
 | k+1,o::l,L=>match PE n o L with
  | some L'=>puK n k l L'
  | none=>none
 | _+1,[],_=>none
theorem VA{o:Oper}{L':Env}(h:PE n o L=some L')(hS:S P n ops Q rest L' w):S P n ops Q (o::rest) L w:=by
 unfold PE at h
 split at h
 ·rename_i d op t ps aft
  split at h
  ·rename_i v hv
   cases hd:Nat.blt d n.n with
   | false=>rw [hd] at h;cases h
   | true=>rw [hd] at h;cases h;exact Du rfl rfl hd (Zh hv) hS
  ·cases h
 ·cases h
theorem As:∀ (k:Nat) {l l':List Oper} {L L':Env} (_:puK n k l L=some (l',L')) (_:S P n ops Q l' L' w),S P n ops Q l L w
 | 0,l,l',L,L',h,hS=>by simp only [puK,Option.some.injEq,Prod.mk.injEq] at h;obtain⟨rfl,rfl⟩:=h;exact hS
 | k+1,[],l',L,L',h,hS=>by simp only [puK,reduceCtorEq] at h
 | k+1,o::l,l',L,L',h,hS=>by
  simp only [puK] at h
  split at h
  ·rename_i L1 a;exact VA a (As k h hS)
  ·cases h
theorem A4(k:Nat){l:List Oper}{L L':Env}{y:Code}(h:puK n k l L=some ([],L'))(hW:W P n y Q L' w):S P n ops (Qc P y Q) l L w:=As k h (Ac hW)
theorem Bi{id:Nat}{l l':List Oper}{L L':Env}{y:Code}(k:Nat)(h:puK n k l L=some (l',L'))(hS:S P n l.toArray (Qc P y Q) l' L' w):W P n (.seq (.region id l.toArray false) y) Q L w:=Am (As k h hS)
theorem AD{id:Nat}{l:List Oper}{L L':Env}{y:Code}(k:Nat)(h:puK n k l L=some ([],L'))(hW:W P n y Q L' w):W P n (.seq (.region id l.toArray false) y) Q L w:=Am (A4 k h hW)
theorem wrap64{x:Int}(a : -9223372036854775808<=x)(h2:x<=9223372036854775807):IntKind.i64.wrap x=x:=by
 simp only [IntKind.wrap,IntKind.bits,IntKind.signed,Bool.true_and,decide_eq_true_eq,ge_iff_le]
 split <;> omega
theorem WJ{x:Int}(a:0<=x)(h2:x<256):IntKind.u8.wrap x=x:=by
 simp only [IntKind.wrap,IntKind.bits,IntKind.signed,Bool.false_and,Bool.false_eq_true,if_false];omega
theorem Sc{x:Int}:IntKind.u8.wrap x=x % 256:=by
 simp only [IntKind.wrap,IntKind.bits,IntKind.signed,Bool.false_and,Bool.false_eq_true,if_false];omega
def arI:BinOp->Int->Int->Option Int
 | .add,a,b=>some (a+b)
 | .sub,a,b=>some (a - b)
 | .mul,a,b=>some (a * b)
 | _,_,_=>none
theorem Zi{a b:Int}(ha:0<=a):a.tdiv b=a / b:=Int.tdiv_eq_ediv_of_nonneg ha
theorem Zj{a b:Int}(ha:0<=a):a.tmod b=a % b:=Int.tmod_eq_emod_of_nonneg ha
theorem Abo{a b:Int}(ha:0<=a)(hb:0<b):0<=a / b/\a / b<=a:=by
 refine⟨Int.ediv_nonneg ha (by omega),?_⟩;exact Int.ediv_le_self b ha
theorem JN{f:FuncId}{args:List Operand}{vs:List Value}{at_:Array TypeId}{dst:Option Tmp}(hc:Ip P f)(ha:Qb L args=some vs)(ρ:Operand->Value)(hρ:WG L ρ):
  (execOp ρ ⟨dst,.call ⟨.value (.func f),args.toArray,at_⟩,ty,pos,af,none⟩).run P w=.ok (.enter f vs.toArray) w:=by
 obtain ⟨fn, c, a, h2, h3⟩ := hc;have b : ρ (.func f) = .func (.func f) #[] #[] := hρ _ _ rfl;have d := hρ.map _ _ ha;have h2' : ¬ fn.name = "runtime.NumGoroutine" := by simpa using h2
 simp [execOp,resolve,b,Deferred.ofValue,d,invoke,callFunc,a,h2',h3]
theorem DC{f:FuncId}{args:List Operand}{vs:List Value}{at_:Array TypeId}{R:Value->World->Prop}(ha:Qb L args=some vs)(hn:Nat.blt d n.n=true)(hok:Ok P f vs w R)
  (h:∀ v w',R v w'->S P n ops Q rest ((d,v)::L) w'):S P n ops Q (⟨some d,.call ⟨.value (.func f),args.toArray,at_⟩,ty,pos,af,none⟩::rest) L w:=
 QI rfl fun a fr=>by
  unfold Oper.wp;rw [JN hok.1 ha _ fr.RC];refine hok.2.mono fun e w' ⟨v,he,hv⟩=>?_;subst he;exact h v w' hv _ (fr.put hn)
def Xz(n:Sz)(j:Nat)(want:Bool)(L0:Env):Nat->List Oper->Env->Option (List Oper×Env)
 | 0,l,L=>some (l,L)
 | k+1,⟨some d,op,ty,pos,af,some (j',want')⟩::l,L=>
  bif Nat.beq j j'&&(want==want')&&(gt L0 d).isNone then
   match PE n ⟨some d,op,ty,pos,af,none⟩ L with
   | some L'=>Xz n j want L0 k l L'
   | none=>none
  else none
 | _+1,_,_=>none
theorem Rv{j:Nat}{want:Bool}{t:Nat}{L0:Env}(hj:((ops[j]?).bind (·.dst))=some t):∀ (k:Nat) {l l':List Oper} {L L':Env},gt L t=some (.bool want)->gt L0 t=some (.bool want)->Xz n j want L0 k l L=some (l',L')->
  S P n ops Q l' L' w->S P n ops Q l L w:=by
 intro k
 induction k with
 | zero=>intro l l' L L' _ _ h hS;simp only [Xz,Option.some.injEq,Prod.mk.injEq] at h;obtain⟨rfl,rfl⟩:=h;exact hS
 | succ k ih=>
  intro l l' L L' hb b h hS
  match l,h with
  | [],h=>cases h
  | ⟨none,_,_,_,_,_⟩::l,h=>cases h
  | ⟨some d,op,ty,pos,af,none⟩::l,h=>cases h
  | ⟨some d,op,ty,pos,af,some (j',want')⟩::l,h=>
   simp only [Xz] at h
   cases hc:(Nat.beq j j'&&(want==want')&&(gt L0 d).isNone) with
   | false=>rw [hc] at h;cases h
   | true=>
    rw [hc] at h;simp only [Bool.and_eq_true,Option.isNone_iff_eq_none] at hc;obtain⟨⟨c1,c2⟩,c3⟩:=hc;obtain rfl:=Nat.eq_of_beq_eq_true c1;obtain rfl:want=want':=by simpa using c2
    simp only [cond_true] at h
    split at h
    ·rename_i L1 a;refine TV hj hb rfl (VA a (ih ?_ b h hS));simp only [PE] at a
     split at a
     ·rename_i v hv
      cases hd:Nat.blt d n.n with
      | false=>rw [hd] at a;cases a
      | true=>
       rw [hd] at a;cases a;rw [Nt]
       by_cases e:d=t
       ·subst e;rw [b] at c3;cases c3
       ·rw [if_neg e];exact hb
     ·cases a
    ·cases h
theorem Su{j:Nat}{want:Bool}{t:Nat}{L0:Env}(hj:((ops[j]?).bind (·.dst))=some t):∀ (k:Nat) {l l':List Oper} {L L' M:Env},Sub L0 M->gt L0 t=some (.bool (!want))->Xz n j want L0 k l L=some (l',L')->
  (∀ M',Sub L0 M'->S P n ops Q l' M' w)->S P n ops Q l M w:=by
 intro k
 induction k with
 | zero=>intro l l' L L' M hM _ h hS;simp only [Xz,Option.some.injEq,Prod.mk.injEq] at h;obtain⟨rfl,rfl⟩:=h;exact hS M hM
 | succ k ih=>
  intro l l' L L' M hM b h hS
  match l,h with
  | [],h=>cases h
  | ⟨none,_,_,_,_,_⟩::l,h=>cases h
  | ⟨some d,op,ty,pos,af,none⟩::l,h=>cases h
  | ⟨some d,op,ty,pos,af,some (j',want')⟩::l,h=>
   simp only [Xz] at h
   cases hc:(Nat.beq j j'&&(want==want')&&(gt L0 d).isNone) with
   | false=>rw [hc] at h;cases h
   | true=>
    rw [hc] at h;simp only [Bool.and_eq_true,Option.isNone_iff_eq_none] at hc;obtain⟨⟨c1,c2⟩,c3⟩:=hc;obtain rfl:=Nat.eq_of_beq_eq_true c1;obtain rfl:want=want':=by simpa using c2
    simp only [cond_true] at h
    split at h
    ·rename_i L1 a
     have hd:Nat.blt d n.n=true:=by
      simp only [PE] at a
      split at a
      ·cases hd:Nat.blt d n.n with
       | false=>rw [hd] at a;cases a
       | true=>rfl
      ·cases a
     refine St hj (hM t _ b) rfl hd (ih (fun t' v hv=>?_) b h hS);rw [Nt]
     by_cases e:d=t'
     ·subst e;rw [hv] at c3;cases c3
     ·rw [if_neg e];exact hM t' v hv
    ·cases h
theorem Sub.both{t:Nat}{v:Value}{L L':Env}(h:Sub L L'):Sub ((t,v)::L) ((t,v)::L'):=fun t' u hu=>by
 rw [Nt] at hu ⊢
 by_cases e:t=t'
 ·rw [if_pos e] at hu ⊢;exact hu
 ·rw [if_neg e] at hu ⊢;exact h t' u hu
theorem X0{j:Nat}{want:Bool}{L0:Env}:∀ (k:Nat) {l l':List Oper} {L L':Env},Sub L0 L->Xz n j want L0 k l L=some (l',L')->Sub L0 L':=by
 intro k
 induction k with
 | zero=>intro l l' L L' hM h;simp only [Xz,Option.some.injEq,Prod.mk.injEq] at h;obtain⟨rfl,rfl⟩:=h;exact hM
 | succ k ih=>
  intro l l' L L' hM h
  match l,h with
  | [],h=>cases h
  | ⟨none,_,_,_,_,_⟩::l,h=>cases h
  | ⟨some d,op,ty,pos,af,none⟩::l,h=>cases h
  | ⟨some d,op,ty,pos,af,some (j',want')⟩::l,h=>
   simp only [Xz] at h
   cases hc:(Nat.beq j j'&&(want==want')&&(gt L0 d).isNone) with
   | false=>rw [hc] at h;cases h
   | true=>
    rw [hc] at h;simp only [Bool.and_eq_true,Option.isNone_iff_eq_none] at hc;obtain⟨⟨c1,c2⟩,c3⟩:=hc;simp only [cond_true] at h
    split at h
    ·rename_i L1 a;refine ih ?_ h;simp only [PE] at a
     split at a
     ·rename_i v hv
      cases hd:Nat.blt d n.n with
      | false=>rw [hd] at a;cases a
      | true=>
       rw [hd] at a;cases a;intro t' u hu;rw [Nt]
       by_cases e:d=t'
       ·subst e;rw [hu] at c3;cases c3
       ·rw [if_neg e];exact hM t' u hu
     ·cases a
    ·cases h
theorem Sub.ev{L M:Env}(hM:Sub L M){x:Operand}{v:Value}(hx:ev L x=some v):ev M x=some v:=by
 cases x with
 | tmp t=>exact hM t v hx
 | const _=>exact hx
 | func _=>exact hx
 | _=>exact hx
theorem U6(k j:Nat){t:Nat}{b r s:Bool}{c x y:Operand}{l l':List Oper}{L1:Env}(hj:((ops[j]?).bind (·.dst))=some t)(hb:gt L t=some (.bool b))
  (hg:Xz n j true L k l L=some (⟨some d,.pick c x y,ty,pos,af,none⟩::l',L1)) (hc:ev L c=some (.bool b)) (hx:ev L1 x=some (.bool r)) (hy:ev L y=some (.bool s)) (hn:Nat.blt d n.n=true)
  (h:S P n ops Q l' ((d,.bool (bif b then r else s))::L) w):S P n ops Q l L w:=by
 have hsub:Sub L L1:=X0 k (Sub.refl L) hg
 cases b with
 | true=>
  refine Rv (L0:=L) hj k hb hb hg<|Du rfl rfl hn (v:=.bool r) (w':=w) (fun ρ hρ=>by simp [execOp,hρ c _ (Sub.ev hsub hc),hρ x _ hx,asBool])<|S.sub h hsub.both
 | false=>
  refine Su (L0:=L) (want:=true) hj k (Sub.refl L) hb hg fun M hM=>Du rfl rfl hn (v:=.bool s) (w':=w) (fun ρ hρ=>by simp [execOp,hρ c _ (Sub.ev hM hc),hρ y _ (Sub.ev hM hy),asBool])<|S.sub h hM.both
theorem Abp(k j:Nat){t:Nat}{b r s:Bool}{c x y:Operand}{l l':List Oper}{L1:Env}(hj:((ops[j]?).bind (·.dst))=some t)(hb:gt L t=some (.bool b))
  (hg:Xz n j false L k l L=some (⟨some d,.pick c x y,ty,pos,af,none⟩::l',L1)) (hc:ev L c=some (.bool b)) (hx:ev L x=some (.bool r)) (hy:ev L1 y=some (.bool s)) (hn:Nat.blt d n.n=true)
  (h:S P n ops Q l' ((d,.bool (bif b then r else s))::L) w):S P n ops Q l L w:=by
 have hsub:Sub L L1:=X0 k (Sub.refl L) hg
 cases b with
 | false=>
  refine Rv (L0:=L) hj k hb hb hg<|Du rfl rfl hn (v:=.bool s) (w':=w) (fun ρ hρ=>by simp [execOp,hρ c _ (Sub.ev hsub hc),hρ y _ hy,asBool])<|S.sub h hsub.both
 | true=>
  refine Su (L0:=L) (want:=false) hj k (Sub.refl L) hb hg fun M hM=>Du rfl rfl hn (v:=.bool r) (w':=w) (fun ρ hρ=>by simp [execOp,hρ c _ (Sub.ev hM hc),hρ x _ (Sub.ev hM hx),asBool])<|S.sub h hM.both
theorem Abq{p q:Prop}[Decidable p][Decidable q]:(bif decide p then decide q else false)=decide (p/\q):=by by_cases hp:p <;> simp [hp]
theorem AcX{p q:Prop}[Decidable p][Decidable q]:(bif decide p then true else decide q)=decide (p\/q):=by by_cases hp:p <;> simp [hp]
theorem MS(k j:Nat){t:Nat}{p q:Prop}[Decidable p][Decidable q]{c x:Operand}{l l':List Oper}{L1:Env}(hj:((ops[j]?).bind (·.dst))=some t)(hb:gt L t=some (.bool (decide p)))
  (hg:Xz n j true L k l L=some (⟨some d,.pick c x (.const (.bool false)),ty,pos,af,none⟩::l',L1)) (hc:ev L c=some (.bool (decide p))) (hx:ev L1 x=some (.bool (decide q))) (hn:Nat.blt d n.n=true)
  (h:S P n ops Q l' ((d,.bool (decide (p/\q)))::L) w):S P n ops Q l L w:=
 U6 k j hj hb hg hc hx rfl hn (by rw [Abq];exact h)
theorem MT(k j:Nat){t:Nat}{p q:Prop}[Decidable p][Decidable q]{c y:Operand}{l l':List Oper}{L1:Env}(hj:((ops[j]?).bind (·.dst))=some t)(hb:gt L t=some (.bool (decide p)))
  (hg:Xz n j false L k l L=some (⟨some d,.pick c (.const (.bool true)) y,ty,pos,af,none⟩::l',L1)) (hc:ev L c=some (.bool (decide p))) (hy:ev L1 y=some (.bool (decide q))) (hn:Nat.blt d n.n=true)
  (h:S P n ops Q l' ((d,.bool (decide (p\/q)))::L) w):S P n ops Q l L w:=
 Abp k j hj hb hg hc rfl hy hn (by rw [AcX];exact h)
end
theorem drawn_setCell(w:World)(a:Addr)(v:Value):(w.setCell a v).drawn=w.drawn:=by
 unfold World.setCell
 split <;> rfl
theorem U7(w:World)(a:Addr)(n:Nat):(w.freeze a n).drawn=w.drawn:=by
 unfold World.freeze
 split <;> rfl
theorem RD{p:Program}{w a:World}{at_:Addr}{u:TypeId}{k:Addr}{v:Value}{atomic:Bool}{l:List Addr}(h:w.viewStore p at_ u k v atomic=.ok (a,l)):a.drawn=w.drawn:=by
 unfold World.viewStore at h;simp only [bind,Except.bind,pure,Except.pure,throwThe,MonadExceptOf.throw,MonadExcept.throw] at h
 repeat' split at h
 all_goals first
  | (cases h;done)
  | (cases h;rfl)
theorem Sv{p:Program}{w b:World}{a:Addr}{v:Value}{atomic:Bool}{l:List Addr}(h:w.farStore p a v atomic=.ok (b,l)):b.drawn=w.drawn:=by
 unfold World.farStore at h
 split at h
 ·split at h
  ·rename_i r hr;cases h;exact RD hr
  ·cases h
 ·cases h
theorem QJ{α:Type}:∀ (q:Ask α) (w:World),w.drawn<=(w.ask q).2.drawn
 | .done a,w=>Nat.le_refl _
 | .ask what range k,w=>by
  unfold World.ask;simp only
  split
  ·exact QJ (k 0) w
  ·exact Nat.le_trans (Nat.le_succ _) (QJ _ {w with drawn:=w.drawn+1})
theorem Yp(w:World)(c:Sys):w.drawn<=(w.sys c).2.drawn:=by
 unfold World.sys;have:=QJ (Kernel.perform c w.os) w
 split
 ·exact Nat.le_refl _
 ·rename_i r os a _ e;rw [e] at this;exact this
theorem OR{α:Type}{p:Program}:∀ (s:Sem α) (w:World) (a:α) (w':World),s.run p w=.ok a w'->w.drawn<=w'.drawn:=by
 intro s
 induction s with
 | pure a=>intro w x w' h;cases h;exact Nat.le_refl _
 | load m a k ih=>
  intro w x w' h;unfold Sem.run at h
  split at h
  ·exact ih _ _ _ _ h
  ·split at h
   ·exact ih _ _ _ _ h
   ·cases h
 | store m a v k ih=>
  intro w x w' h
  cases v <;> simp only [Sem.run] at h
  all_goals first
   | (cases h;done)
   | (
    split at h
    ·split at h
     ·cases h
     ·have:=ih _ _ _ h;rwa [drawn_setCell] at this
    ·split at h
     ·rename_i hf;have b:=ih _ _ _ h;rw [Sv hf] at b;exact b
     ·cases h)
 | new o k ih=>intro w x w' h;exact ih _ {w with heap:=w.heap.push o} _ _ h
 | shape r k ih=>intro w x w' h;exact ih _ _ _ _ h
 | freeze a n k ih=>intro w x w' h;have:=ih _ _ _ h;rwa [U7] at this
 | frozen a k ih=>intro w x w' h;exact ih _ _ _ _ h
 | getObj r k ih=>
  intro w x w' h;unfold Sem.run at h
  split at h
  ·cases h
  ·exact ih _ _ _ _ h
  ·cases h
 | setObj r o k ih=>
  intro w x w' h;unfold Sem.run at h
  split at h
  ·cases h
  ·exact ih {w with heap:=w.heap.setIfInBounds r o} _ _ h
  ·cases h
 | choose q k ih=>
  intro w x w' h;unfold Sem.run at h
  split at h
  ·exact ih _ _ _ _ h
  ·have:=ih _ _ _ _ h;simp only at this;omega
 | sys c k ih=>
  intro w x w' h;refine Nat.le_trans ?_ (ih _ _ _ _ h);exact Yp w c
 | program k ih=>intro w x w' h;exact ih _ _ _ _ h
 | mark m k ih=>intro w x w' h;exact ih _ _ _ h
 | halt h=>intro w x w' h;cases h
end Go.E
namespace Go.E
open Go Go.RowKit
class Dr where
 on:Bool
structure Ext [Dr] (w w':World):Prop extends Below w.heap.size w w' where
 drawn:Dr.on=true->w.drawn<=w'.drawn
theorem Ext.refl[Dr](w:World):Ext w w:=⟨Below.refl _ _,fun _=>Nat.le_refl _⟩
theorem Ext.trans[Dr]{a b c:World}(h:Ext a b)(k:Ext b c):Ext a c:=⟨Below.trans h.toBelow (Below.mono k.toBelow h.size),fun o=>Nat.le_trans (h.drawn o) (k.drawn o)⟩
abbrev PH:=Nat->Option Obj
def Le(A B:PH):Prop:=∀ b o,A b=some o->B b=some o
theorem Le.refl(A:PH):Le A A:=fun _ _ h=>h
theorem Le.trans{A B C:PH}(h:Le A B)(k:Le B C):Le A C:=fun b o e=>k b o (h b o e)
def hp(w:World):PH:=fun b=>w.heap[b]?
def nw(w w':World):PH:=fun b=>if w.heap.size<=b then w'.heap[b]? else none
theorem lt_of_heap{w:World}{b:Nat}{o:Obj}(h:w.heap[b]? = some o):b<w.heap.size:=(Array.getElem?_eq_some_iff.1 h).1
theorem Ext.le[Dr]{w w':World}(h:Ext w w'):Le (hp w) (hp w'):=fun b o e=>by
 have:b<w.heap.size:=lt_of_heap e
 show w'.heap[b]? = some o
 rw [h.block b this];exact e
theorem Le.ext[Dr]{A:PH}{w w':World}(h:Le A (hp w))(hx:Ext w w'):Le A (hp w'):=h.trans hx.le
def G9(H:PH)(a:Addr):Option Value:=
 match H a.block with
 | some (.cells c _ _)=>if a.spot.isSome then none else c[a.off]?
 | _=>none
theorem VB(w:World)(a:Addr):G9 (hp w) a=w.cell? a:=rfl
theorem Hl{A B:PH}(h:Le A B){a:Addr}{v:Value}(e:G9 A a=some v):G9 B a=some v:=by
 unfold G9 at e ⊢
 split at e
 ·rename_i c t f hc;rw [h _ _ hc];exact e
 ·cases e
theorem cell_of{H:PH}{w:World}(h:Le H (hp w)){a:Addr}{v:Value}(e:G9 H a=some v):w.cell? a=some v:=Hl h e
structure Rp (α:Type) where
 sz:Nat
 rel:PH->α->List Value->Prop
 len:∀ {H x c},rel H x c->c.length=sz
 mono:∀ {H H' x c},Le H H'->rel H x c->rel H' x c
 one:∀ {H x c},rel H x c->∀ u∈c,u.oneCell'=true
def Hi(H:PH)(p:Addr)(c:List Value):Prop:=p.spot=none/\∀ j u,c[j]? = some u->G9 H (p.add j)=some u
structure AI {α:Type} (r:Rp α) (H:PH) (v:Value) (l:List α):Prop where
 ex:∃ a cap,v=.slice a l.length cap/\l.length<=cap/\cap<=maxLen/\(a=none->cap=0)/\
  ∀ A,a=some A->l≠[]->A.spot=none/\∀ i x,l[i]? = some x->∃ c,r.rel H x c/\∀ j u,c[j]? = some u->G9 H (A.add (i * r.sz+j))=some u
theorem AI.mono{α:Type}{r:Rp α}{H H':PH}{v:Value}{l:List α}(h:AI r H v l)(hs:Le H H'):AI r H' v l:=by
 obtain⟨a,cap,b,h2,h3,d,e⟩:=h.ex;refine⟨a,cap,b,h2,h3,d,fun A hA hl=>?_⟩;obtain⟨f,g⟩:=e A hA hl;refine⟨f,fun i x hx=>?_⟩;obtain⟨c,hc,hcell⟩:=g i x hx;exact⟨c,r.mono hs hc,fun j u hu=>Hl hs (hcell j u hu)⟩
theorem AI.nil{α:Type}(r:Rp α)(H:PH):AI r H (.slice none 0 0) ([]:List α):=
 ⟨none,0,rfl,Nat.le_refl _,Nat.zero_le _,fun _=>rfl,fun _ h=>by cases h⟩
theorem AI.header{α:Type}{r:Rp α}{H:PH}{v:Value}{l:List α}(h:AI r H v l):∃ a cap,v=.slice a l.length cap:=by
 obtain⟨a,cap,b,_⟩:=h.ex;exact⟨a,cap,b⟩
def Rp.int(k:IntKind):Rp Int:=⟨1,fun _ x c=>c=[.int k x],fun h=>by simp [h],fun _ h=>h,fun h u hu=>by subst h;simp at hu;subst hu;rfl⟩
def Rp.byte:Rp UInt8:=⟨1,fun _ x c=>c=[.int .u8 (x.toNat:Int)],fun h=>by simp [h],fun _ h=>h,fun h u hu=>by subst h;simp at hu;subst hu;rfl⟩
def Rp.bool:Rp Bool:=⟨1,fun _ x c=>c=[.bool x],fun h=>by simp [h],fun _ h=>h,fun h u hu=>by subst h;simp at hu;subst hu;rfl⟩
def Rp.vec{α:Type}(r:Rp α):Rp (List α):=⟨1,fun H x c=>∃ v,c=[v]/\AI r H v x,fun h=>by obtain⟨v,h,_⟩:=h;simp [h],fun hs h=>by obtain⟨v,h,hv⟩:=h;exact⟨v,h,hv.mono hs⟩,
 fun h u hu=>by obtain⟨v,h,hv⟩:=h;subst h;simp at hu;subst hu;obtain⟨a,cap,e⟩:=hv.header;subst e;rfl⟩
def Rp.pair{α β:Type}(r:Rp α)(s:Rp β):Rp (α×β):=⟨r.sz+s.sz,fun H x c=>∃ c1 c2,c=c1++c2/\r.rel H x.1 c1/\s.rel H x.2 c2,
 fun h=>by obtain⟨c1,c2,e,a,h2⟩:=h;simp [e,r.len a,s.len h2],
 fun hs h=>by obtain⟨c1,c2,e,a,h2⟩:=h;exact⟨c1,c2,e,r.mono hs a,s.mono hs h2⟩,
 fun h u hu=>by
  obtain⟨c1,c2,e,a,h2⟩:=h;subst e
  rcases List.mem_append.1 hu with hu | hu
  ·exact r.one a u hu
  ·exact s.one h2 u hu⟩
inductive BS where
 | box (b:Nat) (cs:List Value) (t:TypeId)
 | row (v:Value) (e:TypeId) (sz n:Nat) (xs:List Value)
 | obj (b:Nat) (o:Obj)
abbrev Ha(l O:List BS):List BS:=l++O
def BS.block:BS->Option Nat
 | .box b _ _=>some b
 | .row v _ _ _ _=>v.ownBlock
 | .obj b _=>some b
def BS.ok(w:World):BS->Prop
 | .box b cs t=>w.heap[b]? = some (.cells cs.toArray t (0,0))
 | .row v e sz n xs=>w.ownsRow 0 e sz v n xs
 | .obj b o=>w.heap[b]? = some o
theorem BS.ok.lt{w:World}{r:BS}(h:r.ok w){b:Nat}(hb:r.block=some b):b<w.heap.size:=by
 cases r with
 | box b' cs t=>cases hb;exact lt_of_heap h
 | row v e sz n xs=>exact(World.ownsRow.lt h b hb).2
 | obj b' o=>cases hb;exact lt_of_heap h
theorem BS.ok.same{w w':World}{r:BS}(h:r.ok w)(hs:∀ b,r.block=some b->w'.heap[b]? = w.heap[b]?):r.ok w':=by
 cases r with
 | box b cs t=>show w'.heap[b]? = _;rw [hs b rfl];exact h
 | obj b o=>show w'.heap[b]? = _;rw [hs b rfl];exact h
 | row v e sz n xs=>
  refine⟨h.1,?_⟩
  rcases h.2 with hn | ⟨g,cap,cur,rfl,hb,hgg,rest⟩
  ·exact .inl hn
  ·refine .inr ⟨g,cap,cur,rfl,hb,?_,rest⟩;rw [hs g rfl];exact hgg
theorem BS.ok.ext[Dr]{w w':World}{r:BS}(h:r.ok w)(hx:Ext w w'):r.ok w':=h.same fun b hb=>hx.block b (h.lt hb)
def owned(O:List BS)(b:Nat):Bool:=O.any fun r=>r.block==some b
theorem CZ{O:List BS}{b:Nat}:owned O b=true↔∃ r∈O,r.block=some b:=by simp [owned]
def fz(w:World)(O:List BS):PH:=fun b=>if owned O b then none else w.heap[b]?
theorem X1(w:World)(O:List BS):Le (fz w O) (hp w):=fun b o e=>by
 unfold fz at e
 split at e
 ·cases e
 ·exact e
structure Bd [Dr] (a:World) (O:List BS) (w:World):Prop where
 ext:Ext a w
 res:∀ r∈O,r.ok w
 own:∀ r∈O,∀ b,r.block=some b->a.heap.size<=b
 dis:O.Pairwise fun r s=>∀ b,r.block=some b->s.block≠some b
theorem Bd.start[Dr](w:World):Bd w [] w:=⟨Ext.refl w,(fun _ h=>by cases h),(fun _ h=>by cases h),List.Pairwise.nil⟩
theorem A3[Dr]{P:Program}{f:FuncId}{fn:Func}{c:Code}{args:List Value}{w:World}{R:Value->World->Prop}{n:Nat}(L:Env)
  (hf : P.funcs[f]? = some fn) (hq : (fn.name == "runtime.NumGoroutine", fn.body, fn.ntmps, Nat.ble args.length n, MB 0 args) = (false, some c, n, true, L))
  (h:Bd w [] w->W P ⟨n,[]⟩ c (Mk P fn R) L w):Ok P f args w R:=by
 simp only [Prod.mk.injEq] at hq;exact Ez L hf hq.1 hq.2.1 hq.2.2.1 hq.2.2.2.1 hq.2.2.2.2 (h (Bd.start w))
theorem Bd.arg[Dr]{a w:World}{O:List BS}(h:Bd a O w):Le (hp a) (hp w):=h.ext.le
theorem Bd.lt[Dr]{a w:World}{O:List BS}(h:Bd a O w){b:Nat}(hb:owned O b=true):b<w.heap.size:=by
 obtain⟨r,hr,e⟩:=CZ.1 hb;exact(h.res r hr).lt e
theorem Bd.Aea[Dr]{a w:World}{O:List BS}(h:Bd a O w):Le (hp a) (fz w O):=fun b o e=>by
 unfold fz;rw [if_neg]
 ·exact h.arg b o e
 ·intro ho;obtain⟨r,hr,e'⟩:=CZ.1 ho;have:=h.own r hr b e';have:=lt_of_heap (w:=a) e;omega
theorem Bd.call[Dr]{a w w':World}{O:List BS}(h:Bd a O w)(hx:Ext w w'):Bd a O w':=
 ⟨h.ext.trans hx,fun r hr=>(h.res r hr).ext hx,h.own,h.dis⟩
theorem AT[Dr]{a w w':World}{O:List BS}(_h:Bd a O w)(hx:Ext w w'):Le (fz w O) (fz w' O):=fun b o e=>by
 unfold fz at e ⊢
 split at e
 ·cases e
 ·rename_i ho;rw [if_neg ho];exact hx.le b o e
theorem Ac6[Dr]{a w w':World}{O:List BS}(h:Bd a O w):Le (nw w w') (fz w' O):=fun b o e=>by
 unfold nw at e
 split at e
 ·rename_i hb;unfold fz;rw [if_neg]
  ·exact e
  ·intro ho;have:=h.lt ho;omega
 ·cases e
theorem Bd.drop[Dr]{a w:World}{O:List BS}{r:BS}(h:Bd a (r::O) w):Bd a O w:=
 ⟨h.ext,fun s hs=>h.res s (.tail _ hs),fun s hs=>h.own s (.tail _ hs),(List.pairwise_cons.1 h.dis).2⟩
theorem Abr{w:World}{O:List BS}{r:BS}:Le (fz w (r::O)) (fz w O):=fun b o e=>by
 unfold fz at e ⊢
 split at e
 ·cases e
 ·rename_i ho;rw [if_neg]
  ·exact e
  ·intro h;apply ho;obtain⟨s,hs,e'⟩:=CZ.1 h;exact CZ.2 ⟨s,.tail _ hs,e'⟩
theorem Bd.perm[Dr]{a w:World}{O O':List BS}(h:Bd a O w)(hp:O'.Perm O):Bd a O' w:=
 ⟨h.ext,fun r hr=>h.res r (hp.mem_iff.1 hr),fun r hr=>h.own r (hp.mem_iff.1 hr),
  (hp.symm.pairwise h.dis (fun {_x _y} hxy b hb hx=>hxy b hx hb))⟩
theorem I3{w:World}{O O':List BS}(hp:O'.Perm O):fz w O'=fz w O:=by
 funext b
 unfold fz
 have:owned O' b=owned O b:=by
  rw [Bool.eq_iff_iff,CZ,CZ];exact⟨fun⟨r,h,e⟩=>⟨r,hp.mem_iff.1 h,e⟩,fun⟨r,h,e⟩=>⟨r,hp.mem_iff.2 h,e⟩⟩
 rw [this]
theorem Bd.AeC[Dr]{a w w':World}{O:List BS}{r r':BS}(h:Bd a (r::O) w)(hdr:w.drawn<=w'.drawn)(hg:w.grownBy w' r.block)(hok:r'.ok w')(hb:∀ b,r'.block=some b->r.block=some b\/w.heap.size<=b):Bd a (r'::O) w':=by
 have hh:=List.pairwise_cons.1 h.dis
 have hsame:∀ s∈O,∀ b,s.block=some b->w'.heap[b]? = w.heap[b]?:=fun s hs b e=>by
  refine hg.block b ((h.res s (.tail _ hs)).lt e) (fun e'=>?_);exact hh.1 s hs b e'.symm e
 refine⟨⟨⟨hg.os.trans h.ext.os,hg.tape.trans h.ext.tape,hg.output.trans h.ext.output,Nat.le_trans h.ext.size hg.size,fun k hk=>?_⟩,fun o=>Nat.le_trans (h.ext.drawn o) hdr⟩,fun s hs=>?_,fun s hs b e=>?_,?_⟩
 ·rw [hg.block k (Nat.lt_of_lt_of_le hk h.ext.size) (fun e=>?_)]
  ·exact h.ext.block k hk
  ·have:=h.own r (.head _) k e.symm;omega
 ·cases hs with
  | head=>exact hok
  | tail _ hs=>exact(h.res s (.tail _ hs)).same (hsame s hs)
 ·cases hs with
  | head=>
   rcases hb b e with e' | e'
   ·exact h.own r (.head _) b e'
   ·exact Nat.le_trans h.ext.size e'
  | tail _ hs=>exact h.own s (.tail _ hs) b e
 ·refine List.pairwise_cons.2 ⟨fun s hs b e e'=>?_,hh.2⟩
  rcases hb b e with e'' | e''
  ·exact hh.1 s hs b e'' e'
  ·have:=(h.res s (.tail _ hs)).lt e';omega
theorem Abs[Dr]{c w w':World}{O:List BS}{r r':BS}(_h:Bd c (r::O) w)(hg:w.grownBy w' r.block)(hb:∀ b,r'.block=some b->r.block=some b\/w.heap.size<=b):Le (fz w (r::O)) (fz w' (r'::O)):=fun b o e=>by
 unfold fz at e ⊢
 split at e
 ·cases e
 ·rename_i ho;have hlt:=lt_of_heap e;have hnr:r.block≠some b:=fun e'=>ho (CZ.2 ⟨r,.head _,e'⟩);rw [if_neg]
  ·rw [hg.block b hlt (fun e'=>hnr e'.symm)];exact e
  ·intro hc;obtain⟨s,hs,e'⟩:=CZ.1 hc
   cases hs with
   | head=>
    rcases hb b e' with a | a
    ·exact hnr a
    ·omega
   | tail _ hs=>exact ho (CZ.2 ⟨s,.tail _ hs,e'⟩)
theorem Bd.new[Dr]{a w w':World}{O:List BS}{r:BS}(h:Bd a O w)(hx:Ext w w')(hok:r.ok w')(hb:∀ b,r.block=some b->w.heap.size<=b):Bd a (r::O) w':=by
 have h':=h.call hx;refine⟨h'.ext,fun s hs=>?_,fun s hs b e=>?_,List.pairwise_cons.2 ⟨fun s hs b e e'=>?_,h.dis⟩⟩
 ·cases hs with
  | head=>exact hok
  | tail _ hs=>exact h'.res s hs
 ·cases hs with
  | head=>exact Nat.le_trans h.ext.size (hb b e)
  | tail _ hs=>exact h.own s hs b e
 ·have:=hb b e;have:=(h.res s hs).lt e';omega
theorem PF[Dr]{a w w':World}{O:List BS}{r:BS}(_h:Bd a O w)(hx:Ext w w')(hb:∀ b,r.block=some b->w.heap.size<=b):Le (fz w O) (fz w' (r::O)):=fun b o e=>by
 unfold fz at e ⊢
 split at e
 ·cases e
 ·rename_i ho;have hlt:=lt_of_heap e;rw [if_neg]
  ·exact hx.le b o e
  ·intro hc;obtain⟨s,hs,e'⟩:=CZ.1 hc
   cases hs with
   | head=>have:=hb b e';omega
   | tail _ hs=>exact ho (CZ.2 ⟨s,hs,e'⟩)
def P0(w w':World)(v:Value):PH:=fun b=>if v.ownBlock=some b then none else nw w w' b
theorem VC[Dr]{c w w':World}{O:List BS}{v:Value}{e:TypeId}{sz n:Nat}{xs:List Value}(h:Bd c O w):Le (P0 w w' v) (fz w' (.row v e sz n xs::O)):=fun b o hb=>by
 unfold P0 at hb
 split at hb
 ·cases hb
 ·rename_i hne;have a:=Ac6 (w':=w') h b o hb;unfold fz at a ⊢
  split at a
  ·cases a
  ·rename_i ho;rw [if_neg]
   ·exact a
   ·intro hc;obtain⟨s,hs,e'⟩:=CZ.1 hc
    cases hs with
    | head=>exact hne e'
    | tail _ hs=>exact ho (CZ.2 ⟨s,hs,e'⟩)
theorem VD{w w':World}{v:Value}:Le (P0 w w' v) (nw w w'):=fun b o hb=>by
 unfold P0 at hb
 split at hb
 ·cases hb
 ·exact hb
inductive AJ {α:Type} (r:Rp α) (H:PH):List α->List Value->Prop
 | nil:AJ r H [] []
 | cons {x:α} {l:List α} {c cs:List Value} (h:r.rel H x c) (t:AJ r H l cs):AJ r H (x::l) (c++cs)
section
variable {α:Type} {r:Rp α} {H H':PH}
theorem AJ.mono{l:List α}{cs:List Value}(h:AJ r H l cs)(hs:Le H H'):AJ r H' l cs:=by
 induction h with
 | nil=>exact .nil
 | cons h _ ih=>exact .cons (r.mono hs h) ih
theorem AJ.len{l:List α}{cs:List Value}(h:AJ r H l cs):cs.length=l.length * r.sz:=by
 induction h with
 | nil=>simp
 | cons h _ ih=>simp [ih,r.len h,Nat.add_mul,Nat.add_comm]
theorem AJ.one{l:List α}{cs:List Value}(h:AJ r H l cs):∀ u∈cs,u.oneCell'=true:=by
 induction h with
 | nil=>simp
 | cons h _ ih=>intro u hu;rcases List.mem_append.1 hu with hu | hu;exact r.one h u hu;exact ih u hu
theorem AJ.append{l m:List α}{cs ds:List Value}(h:AJ r H l cs)(k:AJ r H m ds):AJ r H (l++m) (cs++ds):=by
 induction h with
 | nil=>exact k
 | cons h _ ih=>rw [List.cons_append,List.append_assoc];exact .cons h ih
theorem AJ.single{x:α}{c:List Value}(h:r.rel H x c):AJ r H [x] c:=by simpa using AJ.cons h .nil
theorem AJ.at{l:List α}{cs:List Value}(h:AJ r H l cs):∀ i x,l[i]? = some x->∃ c,r.rel H x c/\∀ j u,c[j]? = some u->cs[i * r.sz+j]? = some u:=by
 induction h with
 | nil=>intro i x hx;cases hx
 | @cons y l c cs h _ ih=>
  intro i x hx
  cases i with
  | zero=>
   simp only [List.getElem?_cons_zero,Option.some.injEq] at hx;subst hx;refine⟨c,h,fun j u hu=>?_⟩;rw [Nat.zero_mul,Nat.zero_add,List.getElem?_append_left (List.getElem?_eq_some_iff.1 hu).1];exact hu
  | succ i=>
   simp only [List.getElem?_cons_succ] at hx;obtain⟨d,hd,hh⟩:=ih i x hx;refine⟨d,hd,fun j u hu=>?_⟩;rw [List.getElem?_append_right (by rw [r.len h,Nat.add_mul];omega),r.len h];rw [show(i+1) * r.sz+j - r.sz=i * r.sz+j from by rw [Nat.add_mul];omega];exact hh j u hu
end
def Own{α:Type}(e:TypeId)(r:Rp α)(w w':World)(v:Value)(l:List α):Prop:=
 ∃ xs,w'.ownsRow w.heap.size e r.sz v l.length xs/\AJ r (P0 w w' v) l xs
theorem Qd{w:World}{b b':Nat}{e:TypeId}{sz n:Nat}{v:Value}{xs:List Value}(h:w.ownsRow b e sz v n xs)(hb:∀ k,v.ownBlock=some k->b'<=k):w.ownsRow b' e sz v n xs:=by
 refine⟨h.1,?_⟩
 rcases h.2 with hn | ⟨g,cap,cur,rfl,hbg,hgg,rest⟩
 ·exact .inl hn
 ·exact .inr ⟨g,cap,cur,rfl,hb g rfl,hgg,rest⟩
theorem Nv{α:Type}{r:Rp α}{w:World}{b:Nat}{e:TypeId}{v:Value}{l:List α}{xs:List Value}{H H':PH}(h:w.ownsRow b e r.sz v l.length xs)(he:AJ r H l xs)(hs:Le H H')
  (hb:∀ k,v.ownBlock=some k->∀ o,w.heap[k]? = some o->H' k=some o):AI r H' v l:=by
 rcases h.2 with ⟨rfl,hn⟩ | ⟨g,cap,cur,rfl,hbg,hgg,hnc,hcm,hcs,htake⟩
 ·have:l=[]:=List.eq_nil_of_length_eq_zero hn;subst this;exact AI.nil r H'
 ·refine⟨some ⟨g,0,none⟩,cap,rfl,hnc,hcm,(fun h=>by cases h),fun A hA _=>?_⟩
  cases hA
  refine⟨rfl,fun i x hx=>?_⟩;obtain⟨c,hc,hcell⟩:=he.at i x hx;refine⟨c,r.mono hs hc,fun j u hu=>?_⟩;have a:=hcell j u hu;rw [<- htake,List.getElem?_take] at a
  split at a
  ·simp only [Addr.add_lit,Nat.zero_add,G9];rw [hb g rfl _ hgg]
   simpa using a
  ·cases a
theorem Own.vec{α:Type}{e:TypeId}{r:Rp α}{w w':World}{v:Value}{l:List α}(h:Own e r w w' v l):AI r (nw w w') v l:=by
 obtain⟨xs,a,h2⟩:=h;refine Nv a h2 VD fun k hk o ho=>?_;have:=(a.lt k hk).1;unfold nw;rw [if_pos this];exact ho
end Go.E
namespace Go.E
open Go Go.RowKit
inductive Tr where
 | tail (k:Nat)
 | q (i:Nat) (t:Tr)
 | h (i:Nat) (t:Tr)
 | h2 (i:Nat) (t:Tr) (j:Nat) (u:Tr)
 | h3 (i:Nat) (t:Tr) (j:Nat) (u:Tr) (l:Nat) (v:Tr)
def Tr.count:Tr->Nat
 | .tail _=>0
 | .q _ t=>t.count+1
 | .h _ t=>t.count+1
 | .h2 _ t _ _=>t.count+1
 | .h3 _ t _ _ _ _=>t.count+1
def Tr.last:Tr->Nat
 | .tail k=>k
 | .q _ t=>t.last
 | .h _ t=>t.last
 | .h2 _ t _ _=>t.last
 | .h3 _ t _ _ _ _=>t.last
def chainB(ops:Array Oper):Nat->Nat->Array Bool->Bool
 | 0,_,listed=>Region.ready .any ops listed==[]
 | m+1,k,listed=>Region.ready .any ops listed==[k]&&chainB ops m (k+1) (listed.setIfInBounds k true)
def AS(ops:Array Oper):Tr->Array Bool->Bool
 | .tail k,listed=>chainB ops (ops.size - k) k listed
 | .q i t,listed=>(Region.ready .any ops listed).contains i&&Region.free .any ops listed i&&Nat.blt i t.last&&AS ops t (listed.setIfInBounds i true)
 | .h i t,listed=>Region.ready .any ops listed==[i]&&Nat.blt i t.last&&AS ops t (listed.setIfInBounds i true)
 | .h2 i t j u,listed=>Region.ready .any ops listed==[i,j]&&Nat.blt i t.last&&Nat.blt j t.last&&t.count==u.count&&t.last==u.last&&AS ops t (listed.setIfInBounds i true)&&AS ops u (listed.setIfInBounds j true)
 | .h3 i t j u l v,listed=>Region.ready .any ops listed==[i,j,l]&&Nat.blt i t.last&&Nat.blt j t.last&&Nat.blt l t.last&&t.count==u.count&&t.last==u.last&&t.count==v.count&&t.last==v.last&&AS ops t (listed.setIfInBounds i true)&&AS ops u (listed.setIfInBounds j true)&&AS ops v (listed.setIfInBounds l true)
section
variable (P:Program) (ops:Array Oper)
def T9(a:Act)(o:Oper)(K:Act->World->Prop):Result Next->Prop
 | .ok (.value v) w'=>K (a.put o.dst v) w'
 | .ok .skip w'=>K (a.put o.dst undef) w'
 | .ok (.enter f args) w'=>Calls P f args w' (fun e w''=>∃ v,e=.returned v/\K (a.put o.dst v) w'')
 | _=>False
def VE(o:Oper)(K:Act->World->Prop)(a:Act)(w:World):Prop:=
 if Region.wanted o (yielded ops a.tmps) then T9 P a o K ((execOp a.eval o).run P w) else K (a.put o.dst undef) w
def yx[Dr](o:Oper)(v:Value)(a:Act)(w:World):Prop:=
 (Region.wanted o (yielded ops a.tmps)=true/\∀ w',Ext w w'->match(execOp a.eval o).run P w' with
  | .ok (.value u) w''=>w''=w'/\u=v
  | .ok (.enter f args) w''=>w''=w'/\Calls P f args w' (fun e b=>e=.returned v/\Ext w' b)
  | _=>False)\/
 (Region.wanted o (yielded ops a.tmps)=false/\v=undef)
def X[Dr](Q:Exit->Act->World->Prop):Tr->World->Act->World->Prop
 | .tail k,_,a,w=>∀ w',Ext w w'->wpOps P ops Q (List.range' k (ops.size - k)) a w'
 | .q i t,b,a,w=>∃ o v,ops[i]? = some o/\yx P ops o v a b/\X Q t b (a.put o.dst v) w
 | .h i t,b,a,w=>∃ o,ops[i]? = some o/\∀ w',Ext w w'->VE P ops o (fun a'' w''=>∃ b',Ext b b'/\Ext b' w''/\X Q t b' a'' w'') a w'
 | .h2 i t j u,b,a,w=>(∃ o,ops[i]? = some o/\∀ w',Ext w w'->VE P ops o (fun a'' w''=>∃ b',Ext b b'/\Ext b' w''/\X Q t b' a'' w'') a w')/\
   (∃ o,ops[j]? = some o/\∀ w',Ext w w'->VE P ops o (fun a'' w''=>∃ b',Ext b b'/\Ext b' w''/\X Q u b' a'' w'') a w')
 | .h3 i t j u l v,b,a,w=>(∃ o,ops[i]? = some o/\∀ w',Ext w w'->VE P ops o (fun a'' w''=>∃ b',Ext b b'/\Ext b' w''/\X Q t b' a'' w'') a w')/\
   (∃ o,ops[j]? = some o/\∀ w',Ext w w'->VE P ops o (fun a'' w''=>∃ b',Ext b b'/\Ext b' w''/\X Q u b' a'' w'') a w')/\
   (∃ o,ops[l]? = some o/\∀ w',Ext w w'->VE P ops o (fun a'' w''=>∃ b',Ext b b'/\Ext b' w''/\X Q v b' a'' w'') a w')
def Y[Dr](Q:Exit->Act->World->Prop)(k:Nat)(b:World):Nat->Array Bool->Act->World->Prop
 | 0,listed,a,w=>chainB ops (ops.size - k) k listed=true/\∀ w',Ext w w'->wpOps P ops Q (List.range' k (ops.size - k)) a w'
 | m
  + 1,listed,a,w=>Region.ready .any ops listed≠[]/\∀ w',Ext w w'->∀ i∈Region.ready .any ops listed,∃ o,ops[i]? = some o/\
  VE P ops o (fun a'' w''=>Ext b w''/\Y Q k b m (listed.setIfInBounds i true) a'' w'') a w'
end
section
variable {P:Program} {ops:Array Oper} {Q:Exit->Act->World->Prop}
theorem Yq{a:Act}{o:Oper}{K K':Act->World->Prop}(h:∀ a w,K a w->K' a w):∀ {r:Result Next},T9 P a o K r->T9 P a o K' r:=by
 intro r hr
 cases r with
 | ok nx w'=>
  cases nx <;> simp only [T9] at hr ⊢
  case value v=>exact h _ _ hr
  case skip=>exact h _ _ hr
  case enter f args=>exact hr.mono fun e w'' ⟨v,he,hv⟩=>⟨v,he,h _ _ hv⟩
 | halt x w'=>simp only [T9] at hr
theorem KH{o:Oper}{K K':Act->World->Prop}(h:∀ a w,K a w->K' a w){a:Act}{w:World}(hh:VE P ops o K a w):VE P ops o K' a w:=by
 unfold VE at hh ⊢
 split
 ·rename_i hw;rw [if_pos hw] at hh;exact Yq h hh
 ·rename_i hw;rw [if_neg hw] at hh;exact h _ _ hh
theorem VF{i:Nat}{o:Oper}(hi:ops[i]? = some o){K:Act->World->Prop}{a:Act}{w:World}(h:VE P ops o K a w):wpOp P ops Q i K a w:=by
 unfold wpOp;simp only [hi];unfold VE at h
 split
 ·rename_i hw;rw [if_pos hw] at h;refine .inl ?_;unfold Oper.wp;generalize (execOp a.eval o).run P w=r at h ⊢
  cases r with
  | ok nx w'=>
   cases nx <;> simp only [T9] at h <;> simp only [Oper.upon]
   case value v=>exact h
   case skip=>exact h
   case enter f args=>exact h.mono fun e w'' ⟨v,he,hv⟩=>by subst he;exact hv
  | halt x w'=>simp only [T9] at h
 ·rename_i hw;rw [if_neg hw] at h;exact h
theorem TW[Dr]{o:Oper}{v:Value}{a:Act}{w w':World}(h:yx P ops o v a w)(hx:Ext w w'){K:Act->World->Prop}(hK:∀ w'',Ext w' w''->K (a.put o.dst v) w''):VE P ops o K a w':=by
 unfold VE
 rcases h with ⟨hw,h⟩ | ⟨hw,rfl⟩
 ·rw [if_pos hw];have b:=h w' hx;generalize (execOp a.eval o).run P w'=r at b ⊢
  cases r with
  | ok nx c=>
   cases nx <;> simp only at b <;> simp only [T9]
   case value u=>obtain⟨rfl,rfl⟩:=b;exact hK _ (Ext.refl _)
   case enter f args=>obtain⟨rfl,b⟩:=b;exact b.mono fun e w'' ⟨he,hv⟩=>⟨v,he,hK _ hv⟩
  | halt x c=>simp only at b
 ·rw [if_neg (by simp [hw])];exact hK _ (Ext.refl _)
theorem AcY[Dr]{o oj:Oper}{v u:Value}{a:Act}{w:World}(hs:∀ cs b,o.op≠.select cs b)(h3:∀ d,oj.dst=some d->d∉o.looksAt ops)(h:yx P ops o v a w):yx P ops o v (a.put oj.dst u) w:=by
 unfold yx at h ⊢;rw [wanted_put o a oj.dst u h3,execOp_put (ops:=ops) o hs a oj.dst u h3];exact h
def X2(ops:Array Oper)(k:Nat):Prop:=∀ listed,HeadInv .any ops k listed->∀ i,i<k->listed.getD i true=false->∀ t,k<=t->t∉Region.ready .any ops listed
theorem Zk{k:Nat}(h:ops.size<=k\/(Region.sinkB .any ops k=true/\Region.chainB .any ops k=true)):X2 ops k:=by
 intro listed inv i hi hun t ht hr
 rcases Nat.lt_or_ge k ops.size with hk | hk
 ·rcases h with h | ⟨a,h2⟩
  ·omega
  ·exact tail_waits a h2 hk inv _ i rfl hi hun t ht hr
 ·obtain⟨_,o,ho,_⟩:=mem_ready.1 hr;have:=(Array.getElem?_eq_some_iff.1 ho).1;omega
theorem VG{m k:Nat}{listed:Array Bool}(h:chainB ops m k listed=true):∀ j∈Region.ready .any ops listed,j=k:=by
 intro j hj
 cases m with
 | zero=>simp only [chainB,beq_iff_eq] at h;rw [h] at hj;cases hj
 | succ m=>simp only [chainB,Bool.and_eq_true,beq_iff_eq] at h;rw [h.1] at hj;simpa using hj
theorem PG[Dr]{k:Nat}{b b':World}(hb:Ext b b'):∀ (m:Nat) (listed:Array Bool) (a:Act) (w:World),Y P ops Q k b' m listed a w->Y P ops Q k b m listed a w
 | 0,_,_,_,h=>h
 | m
  + 1,listed,a,w,h=>⟨h.1,fun w' hx i hi=>by
  obtain⟨o,ho,c⟩:=h.2 w' hx i hi;exact⟨o,ho,KH (fun a'' w'' ⟨d,e⟩=>⟨hb.trans d,PG hb m _ _ _ e⟩) c⟩⟩
theorem Abt[Dr]{b:World}{k i:Nat}{oi:Oper}{v:Value}(hw:X2 ops k)(hi:ops[i]? = some oi)(hik:i<k)(hsel:∀ (j:Nat) (o:Oper) cs b,ops[j]? = some o->o.op≠.select cs b):
  ∀
   (m:Nat) (listed:Array Bool) (a:Act) (w:World),HeadInv .any ops k listed->
   (∀ j oj,ops[j]? = some oj->j≠i->listed.getD j true=false->(∀ e∈oj.after,Region.binds .any e=true->e.on≠i)->oi.apart ops oj=true)->
   i∈Region.ready .any ops listed->Ext b w->yx P ops oi v a b->
   Y P ops Q k b m (listed.setIfInBounds i true) (a.put oi.dst v) w->Y P ops Q k b (m+1) listed a w:=by
 intro m
 induction m with
 | zero=>
  intro listed a w inv hfree hr hb hy H;refine⟨fun h=>(by rw [h] at hr;cases hr),fun w' hx j hj=>?_⟩
  have hji:j=i:=by
   refine Decidable.byContradiction fun hne=>?_;have:=VG H.1 j (ready_mono hj hne);subst this;exact hw listed inv i hik (mem_ready.1 hr).1 j (Nat.le_refl _) hj
  subst hji;exact⟨oi,hi,TW hy (hb.trans hx) fun w'' hx'=>⟨(hb.trans hx).trans hx',H.1,fun d h3=>H.2 d ((hx.trans hx').trans h3)⟩⟩
 | succ m ih=>
  intro listed a w inv hfree hr hb hy H;refine⟨fun h=>(by rw [h] at hr;cases hr),fun w' hx j hj=>?_⟩
  by_cases hji:j=i
  ·subst hji;refine⟨oi,hi,TW hy (hb.trans hx) fun w'' hx'=>⟨(hb.trans hx).trans hx',H.1,fun d h3=>H.2 d ((hx.trans hx').trans h3)⟩⟩
  ·obtain⟨oj,hoj,c⟩:=H.2 w' hx j (ready_mono hj hji);refine⟨oj,hoj,?_⟩;obtain⟨hjun,oj',hoj',hall⟩:=mem_ready.1 hj;obtain rfl:oj=oj':=Option.some.inj (hoj.symm.trans hoj')
   have hnot:∀ e∈oj.after,Region.binds .any e=true->e.on≠i:=fun e he hb heq=>by
    have c:=hall e he hb;have g:=(mem_ready.1 hr).1;rw [heq] at c
    rcases Nat.lt_or_ge i listed.size with h' | h'
    ·simp [h'] at g c;rw [g] at c;cases c
    ·simp [Array.getElem?_eq_none h'] at c
   obtain⟨l,n,p⟩:=Oper.apart_spec (hfree j oj hoj hji hjun hnot);have hsj:=fun cs b=>hsel j oj cs b hoj;have hsi:=fun cs b=>hsel i oi cs b hi
   have hjk:j<k:=by
    rcases Nat.lt_or_ge j k with h | h
    ·exact h
    ·exact absurd hj (hw listed inv i hik (mem_ready.1 hr).1 j h)
   have hfree':∀ k' ok,ops[k']? = some ok->k'≠i->(listed.setIfInBounds j true).getD k' true=false->
     (∀ e∈ok.after,Region.binds .any e=true->e.on≠i)->oi.apart ops ok=true:=fun k' ok hk hki hun hno=>by
    refine hfree k' ok hk hki ?_ hno
    by_cases hjk:j=k'
    ·subst hjk;exact hjun
    ·rw [getD_set_ne true hjk] at hun;exact hun
   have next:∀ u w'',Ext b w''->Y P ops Q k b m ((listed.setIfInBounds i true).setIfInBounds j true) ((a.put oi.dst v).put oj.dst u) w''->Y P ops Q k b (m+1) (listed.setIfInBounds j true) (a.put oj.dst u) w'':=by
    intro u w'' hx' hY;refine ih (listed.setIfInBounds j true) (a.put oj.dst u) w'' (inv.set hj hjk) hfree' (ready_mono hr (Ne.symm hji)) hx' (AcY hsi p hy) ?_;rw [Array.setIfInBounds_comm _ _ hji,<- Act.put_comm a v u n];exact hY
   unfold VE at c ⊢;rw [wanted_put oj a oi.dst v l,execOp_put (ops:=ops) oj hsj a oi.dst v l] at c
   split
   ·rename_i hw;rw [if_pos hw] at c;generalize (execOp a.eval oj).run P w'=r at c ⊢
    cases r with
    | ok nx q=>
     cases nx <;> simp only [T9] at c ⊢
     case value u=>exact⟨c.1,next _ _ c.1 c.2⟩
     case skip=>exact⟨c.1,next _ _ c.1 c.2⟩
     case enter f args=>exact c.mono fun e w'' ⟨u,he,hu⟩=>⟨u,he,hu.1,next _ _ hu.1 hu.2⟩
    | halt x q=>simp only [T9] at c
   ·rename_i hw;rw [if_neg hw] at c;exact⟨c.1,next _ _ c.1 c.2⟩
theorem Oi{i j:Nat}(h:Nat.blt i j=true):i<j:=by simpa [Nat.blt_eq] using h
theorem Oj[Dr]{k:Nat}(hw:X2 ops k)(hsel:∀ (j:Nat) (o:Oper) cs b,ops[j]? = some o->o.op≠.select cs b):
  ∀ (t:Tr) (listed:Array Bool) (b:World) (a:Act) (w:World),t.last=k->HeadInv .any ops k listed->AS ops t listed=true->Ext b w->X P ops Q t b a w->Y P ops Q k b t.count listed a w
 | .tail k',listed,b,a,w,hk,inv,hc,hb,h=>by
  obtain rfl:k'=k:=hk;exact⟨hc,h⟩
 | .q i t,listed,b,a,w,hk,inv,hc,hb,h=>by
  simp only [AS,Bool.and_eq_true] at hc;obtain⟨⟨⟨c1,c2⟩,c3⟩,c4⟩:=hc;obtain⟨o,v,ho,hy,hX⟩:=h;have hr:i∈Region.ready .any ops listed:=by simpa using c1
  have hlt:i<k:=by rw [<- hk];exact Oi c3
  exact Abt hw ho hlt hsel t.count listed a w inv (fun j oj=>Region.free_spec ho c2 j oj) hr hb hy (Oj hw hsel t _ _ _ _ hk (inv.set hr hlt) c4 hb hX)
 | .h i t,listed,b,a,w,hk,inv,hc,hb,h=>by
  simp only [AS,Bool.and_eq_true,beq_iff_eq] at hc;obtain⟨⟨c1,c3⟩,c4⟩:=hc;obtain⟨o,ho,hX⟩:=h;have hr:i∈Region.ready .any ops listed:=by simp [c1]
  have hlt:i<k:=by rw [<- hk];exact Oi c3
  refine⟨by simp [c1],fun w' hx j hj=>?_⟩;obtain rfl:j=i:=by simpa [c1] using hj
  exact⟨o,ho,KH (fun a'' w'' ⟨b',c,d,e⟩=>⟨c.trans d,PG c _ _ _ _ (Oj hw hsel t _ b' _ _ hk (inv.set hr hlt) c4 d e)⟩) (hX w' hx)⟩
 | .h2 i t j u,listed,b,a,w,hk,inv,hc,hb,h=>by
  simp only [AS,Bool.and_eq_true,beq_iff_eq] at hc;obtain⟨⟨⟨⟨⟨⟨c1,c3⟩,c3'⟩,c5⟩,c6⟩,c4⟩,c4'⟩:=hc;obtain⟨⟨o,ho,hX⟩,⟨o',ho',hX'⟩⟩:=h;have hr:i∈Region.ready .any ops listed:=by simp [c1]
  have hr':j∈Region.ready .any ops listed:=by simp [c1]
  have hlt:i<k:=by rw [<- hk];exact Oi c3
  have hlt':j<k:=by rw [<- hk];exact Oi c3'
  have hk':u.last=k:=by rw [<- c6];exact hk
  refine⟨by simp [c1],fun w' hx l hl=>?_⟩;have hl':l=i\/l=j:=by simpa [c1] using hl
  rcases hl' with rfl | rfl
  ·exact⟨o,ho,KH (fun a'' w'' ⟨b',c,d,e⟩=>⟨c.trans d,PG c _ _ _ _ (Oj hw hsel t _ b' _ _ hk (inv.set hr hlt) c4 d e)⟩) (hX w' hx)⟩
  ·refine⟨o',ho',KH (fun a'' w'' ⟨b',c,d,e⟩=>⟨c.trans d,?_⟩) (hX' w' hx)⟩;have:=PG c _ _ _ _ (Oj hw hsel u _ b' _ _ hk' (inv.set hr' hlt') c4' d e)
   show Y P ops Q k b t.count _ _ _
   rw [c5];exact this
 | .h3 i t j u m v,listed,b,a,w,hk,inv,hc,hb,h=>by
  simp only [AS,Bool.and_eq_true,beq_iff_eq] at hc;obtain⟨⟨⟨⟨⟨⟨⟨⟨⟨⟨c1,c3⟩,c3'⟩,c3''⟩,c5⟩,c6⟩,c7⟩,c8⟩,c4⟩,c4'⟩,c4''⟩:=hc;obtain⟨⟨o,ho,hX⟩,⟨o',ho',hX'⟩,⟨o'',ho'',hX''⟩⟩:=h;have hr:i∈Region.ready .any ops listed:=by simp [c1]
  have hr':j∈Region.ready .any ops listed:=by simp [c1]
  have hr'':m∈Region.ready .any ops listed:=by simp [c1]
  have hlt:i<k:=by rw [<- hk];exact Oi c3
  have hlt':j<k:=by rw [<- hk];exact Oi c3'
  have hlt'':m<k:=by rw [<- hk];exact Oi c3''
  have hk':u.last=k:=by rw [<- c6];exact hk
  have hk'':v.last=k:=by rw [<- c8];exact hk
  refine⟨by simp [c1],fun w' hx l hl=>?_⟩;have hl':l=i\/l=j\/l=m:=by simpa [c1] using hl
  rcases hl' with rfl | rfl | rfl
  ·exact⟨o,ho,KH (fun a'' w'' ⟨b',c,d,e⟩=>⟨c.trans d,PG c _ _ _ _ (Oj hw hsel t _ b' _ _ hk (inv.set hr hlt) c4 d e)⟩) (hX w' hx)⟩
  ·refine⟨o',ho',KH (fun a'' w'' ⟨b',c,d,e⟩=>⟨c.trans d,?_⟩) (hX' w' hx)⟩;have:=PG c _ _ _ _ (Oj hw hsel u _ b' _ _ hk' (inv.set hr' hlt') c4' d e)
   show Y P ops Q k b t.count _ _ _
   rw [c5];exact this
  ·refine⟨o'',ho'',KH (fun a'' w'' ⟨b',c,d,e⟩=>⟨c.trans d,?_⟩) (hX'' w' hx)⟩;have:=PG c _ _ _ _ (Oj hw hsel v _ b' _ _ hk'' (inv.set hr'' hlt'') c4'' d e)
   show Y P ops Q k b t.count _ _ _
   rw [c7];exact this
theorem Ol:∀ (m k:Nat) (listed:Array Bool) (a:Act) (w:World),chainB ops m k listed=true->wpOps P ops Q (List.range' k m) a w->wpAny P .any ops Q m listed a w
 | 0,k,listed,a,w,h,hw=>by
  simp only [chainB,beq_iff_eq] at h;exact⟨h,by simpa [wpOps] using hw⟩
 | m+1,k,listed,a,w,h,hw=>by
  simp only [chainB,Bool.and_eq_true,beq_iff_eq] at h;refine wpAny_all h.1 (by simp) fun i hi=>?_;obtain rfl:i=k:=by simpa using hi
  rw [List.range'_succ,wpOps_cons] at hw;exact wpOp_mono (fun a' w' h'=>Ol m (i+1) _ a' w' h.2 h') hw
theorem Sw[Dr]{k:Nat}{b:World}:∀ (m:Nat) (listed:Array Bool) (a:Act) (w:World),Y P ops Q k b m listed a w->wpAny P .any ops Q (m+(ops.size - k)) listed a w
 | 0,listed,a,w,h=>by rw [Nat.zero_add];exact Ol _ k listed a w h.1 (h.2 w (Ext.refl w))
 | m+1,listed,a,w,h=>by
  rw [show m+1+(ops.size - k)=(m+(ops.size - k))+1 by omega];refine⟨fun c=>absurd c h.1,fun i hi=>?_⟩;obtain⟨o,ho,hx⟩:=h.2 w (Ext.refl w) i hi;exact VF ho (KH (fun a' w' h'=>Sw m _ a' w' h'.2) hx)
theorem TA(k:Nat):HeadInv .any ops k (Array.replicate ops.size false):=
 ⟨by simp,(fun j oj _ hl=>by rw [getD_replicate_false] at hl;cases hl),fun t _ ht=>by simp [ht]⟩
def Sx(l:List Oper)(t:Tr):Bool:=
 Region.noSelect l.toArray&&(Nat.ble l.length t.last||(Region.sinkB .any l.toArray t.last&&Region.chainB .any l.toArray t.last))&&AS l.toArray t (Array.replicate l.length false)&&Nat.beq (t.count+(l.length - t.last)) l.length
theorem KI[Dr]{w:World}:Ext w {w with drawn:=w.drawn+1}:=⟨⟨rfl,rfl,rfl,Nat.le_refl _,fun _ _=>rfl⟩,fun _=>Nat.le_succ _⟩
theorem Zl[Dr]{id:Nat}{l:List Oper}{a:Act}{w:World}(t:Tr)(hm:P.follows .mixedOrders=true)(hc:Sx l t=true)(h:X P l.toArray Q t {w with drawn:=w.drawn+1} a {w with drawn:=w.drawn+1}):(Code.region id l.toArray true).wp P Q a w:=by
 simp only [Sx,Bool.and_eq_true,Bool.or_eq_true] at hc;obtain⟨⟨⟨c1,c2⟩,c3⟩,c4⟩:=hc
 have hw:X2 l.toArray t.last:=Zk (by
  rcases c2 with c2 | c2
  ·left;simpa [Nat.ble_eq] using c2
  ·right;exact c2)
 have hlen:=Nat.eq_of_beq_eq_true c4;have hY:=Oj hw (Region.noSelect_spec c1) t (Array.replicate l.toArray.size false) _ a _ rfl (TA _) (by simpa using c3) (Ext.refl _) h;have:=Sw _ _ _ _ hY;refine wp_region_any hm ?_;have e:t.count+(l.toArray.size - t.last)=l.toArray.size:=by simpa using hlen
 rw [e] at this;exact this
end
def HR:List Oper->Nat->Option Oper
 | [],_=>none
 | o::_,0=>some o
 | _::l,i+1=>HR l i
theorem Fg:∀ (l:List Oper) (i:Nat),HR l i=l[i]?
 | [],_=>rfl
 | _::_,0=>rfl
 | _::l,i+1=>by simpa [HR] using Fg l i
def TX:Nat->List Oper->List Oper
 | 0,l=>l
 | _+1,[]=>[]
 | k+1,_::l=>TX k l
theorem VH:∀ (k:Nat) (l:List Oper),TX k l=l.drop k
 | 0,_=>by simp [TX]
 | _+1,[]=>by simp [TX]
 | k+1,_::l=>by simpa [TX] using VH k l
def D[Dr](P:Program)(n:Sz)(l:List Oper)(Q:Exit->Act->World->Prop)(t:Tr)(L:Env)(w:World):Prop:=∀ a,Fr n a L->X P l.toArray Q t w a w
def Bw[Dr](P:Program)(L:Env)(w:World)(op:Op)(ty:TypeId)(v:Value):Prop:=
 ∀ w',Ext w w'->∀ ρ,WG L ρ->∀ dst pos af g,(execOp ρ ⟨dst,op,ty,pos,af,g⟩).run P w'=.ok (.value v) w'
section
variable {P:Program} {n:Sz} {l:List Oper} {Q:Exit->Act->World->Prop} {L:Env} {w:World} {t u:Tr} {i j:Nat}
 {d:Nat} {op:Op} {ty:TypeId} {pos:String} {af:Array Edge} {y:Code}
theorem X3[Dr]{id:Nat}(t:Tr)(hm:P.follows .mixedOrders=true)(hc:Sx l t=true)(h:D P n l Q t L {w with drawn:=w.drawn+1}):W P n (.region id l.toArray true) Q L w:=
 fun a fr=>Zl t hm hc (h a fr)
theorem DD[Dr]{id:Nat}(t:Tr)(hm:P.follows .mixedOrders=true)(hc:Sx l t=true)(h:∀ w',Ext w w'->D P n l (Qc P y Q) t L w'):W P n (.seq (.region id l.toArray true) y) Q L w:=
 A7 (X3 t hm hc (h _ KI))
theorem PI[Dr]{id:Nat}(t:Tr)(hm:P.follows .mixedOrders=true)(hc:Sx l t=true)(h:∀ w',Ext w w'->D P n l Q t L w'):W P n (.region id l.toArray true) Q L w:=
 X3 t hm hc (h _ KI)
theorem BQ[Dr]{v:Value}(hr:Bw P L w op ty v)(ho:HR l i=some ⟨some d,op,ty,pos,af,none⟩)(hn:Nat.blt d n.n=true)(h:D P n l Q t ((d,v)::L) w):D P n l Q (.q i t) L w:=fun a fr=>by
 refine⟨_,v,by rw [Fg] at ho;simpa using ho,.inl ⟨by simp [Region.wanted],fun w' hx=>?_⟩,h _ (fr.put hn)⟩;rw [hr w' hx _ fr.RC];exact⟨rfl,rfl⟩
theorem Kr[Dr]{v:Value}{j:Nat}{want b:Bool}{s:Nat}{oj:Oper}(hr:Bw P L w op ty v)(ho:HR l i=some ⟨some d,op,ty,pos,af,some (j,want)⟩)(hj:HR l j=some oj)(hd:oj.dst=some s)(hb:gt L s=some (.bool b))(hw:b=want)(hn:Nat.blt d n.n=true)
  (h:D P n l Q t ((d,v)::L) w):D P n l Q (.q i t) L w:=fun a fr=>by
 have hj':l.toArray[j]? = some oj:=by rw [Fg] at hj;simpa using hj
 have hy:yielded l.toArray a.tmps j=some b:=by simp only [yielded,hj',Option.bind_some,hd,fr.get s _ hb]
 refine⟨_,v,by rw [Fg] at ho;simpa using ho,.inl ⟨by simp [Region.wanted,hy,hw],fun w' hx=>?_⟩,h _ (fr.put hn)⟩;rw [hr w' hx _ fr.RC];exact⟨rfl,rfl⟩
theorem TB[Dr]{j:Nat}{want b:Bool}{s:Nat}{oj:Oper}(ho:HR l i=some ⟨some d,op,ty,pos,af,some (j,want)⟩)(hj:HR l j=some oj)(hd:oj.dst=some s)(hb:gt L s=some (.bool b))(hw:b = !want)(hn:Nat.blt d n.n=true)
  (h:D P n l Q t ((d,undef)::L) w):D P n l Q (.q i t) L w:=fun a fr=>by
 have hj':l.toArray[j]? = some oj:=by rw [Fg] at hj;simpa using hj
 have hy:yielded l.toArray a.tmps j=some b:=by simp only [yielded,hj',Option.bind_some,hd,fr.get s _ hb]
 exact⟨_,undef,by rw [Fg] at ho;simpa using ho,.inr ⟨by simp [Region.wanted,hy,hw],rfl⟩,h _ (fr.put hn)⟩
theorem Zm[Dr]{j:Nat}{want:Bool}{s:Nat}{oj:Oper}(ho:HR l i=some ⟨some d,op,ty,pos,af,some (j,want)⟩)(hj:HR l j=some oj)(hd:oj.dst=some s)(hb:gt L s=some undef)(hn:Nat.blt d n.n=true)
  (h:D P n l Q t ((d,undef)::L) w):D P n l Q (.q i t) L w:=fun a fr=>by
 have hj':l.toArray[j]? = some oj:=by rw [Fg] at hj;simpa using hj
 have hy:yielded l.toArray a.tmps j=none:=by simp only [yielded,hj',Option.bind_some,hd,fr.get s _ hb,undef]
 exact⟨_,undef,by rw [Fg] at ho;simpa using ho,.inr ⟨by simp [Region.wanted,hy],rfl⟩,h _ (fr.put hn)⟩
theorem Ad[Dr]{v:Value}(h:pu L op=some v):Bw P L w op ty v:=fun _ _ ρ hρ dst pos af _=>Zh (dst:=dst) (pos:=pos) (af:=af) h ρ hρ
def puD(n:Sz)(l:List Oper):Nat->Tr->Env->Option (Tr×Env)
 | 0,t,L=>some (t,L)
 | k+1,.q i t,L=>match HR l i with
  | some ⟨some d,op,_,_,_,none⟩=>match pu L op with
   | some v=>bif Nat.blt d n.n then puD n l k t ((d,v)::L) else none
   | none=>none
  | _=>none
 | _+1,_,_=>none
theorem Df[Dr]:∀ (k:Nat) {t t':Tr} {L L':Env},puD n l k t L=some (t',L')->D P n l Q t' L' w->D P n l Q t L w
 | 0,t,t',L,L',h,hD=>by simp only [puD,Option.some.injEq,Prod.mk.injEq] at h;obtain⟨rfl,rfl⟩:=h;exact hD
 | k+1,.tail _,t',L,L',h,hD=>by simp only [puD,reduceCtorEq] at h
 | k+1,.h _ _,t',L,L',h,hD=>by simp only [puD,reduceCtorEq] at h
 | k+1,.h2 _ _ _ _,t',L,L',h,hD=>by simp only [puD,reduceCtorEq] at h
 | k+1,.h3 _ _ _ _ _ _,t',L,L',h,hD=>by simp only [puD,reduceCtorEq] at h
 | k+1,.q i t,t',L,L',h,hD=>by
  simp only [puD] at h
  split at h
  ·rename_i d op ty pos af ho
   split at h
   ·rename_i v hv
    cases hd:Nat.blt d n.n with
    | false=>rw [hd] at h;cases h
    | true=>rw [hd] at h;exact BQ (Ad hv) ho hd (Df k h hD)
   ·cases h
  ·cases h
theorem Ec[Dr]{f:FuncId}{args:List Operand}{vs:List Value}{at_:Array TypeId}{v:Value}(ho:HR l i=some ⟨some d,.call ⟨.value (.func f),args.toArray,at_⟩,ty,pos,af,none⟩)(ha:Qb L args=some vs)(hn:Nat.blt d n.n=true)
  (hok:∀ w',Ext w w'->Ok P f vs w' (fun u w''=>Ext w' w''/\u=v)) (h:D P n l Q t ((d,v)::L) w):D P n l Q (.q i t) L w:=fun a fr=>by
 refine⟨_,v,by rw [Fg] at ho;simpa using ho,.inl ⟨by simp [Region.wanted],fun w' hx=>?_⟩,h _ (fr.put hn)⟩;rw [JN (hok w' hx).1 ha _ fr.RC];exact⟨rfl,(hok w' hx).2.mono fun e w'' ⟨u,he,hx',hu⟩=>⟨by rw [he,hu],hx'⟩⟩
theorem U8[Dr]{f:FuncId}{args:List Operand}{vs:List Value}{at_:Array TypeId}{v:Value}{j:Nat}{want b:Bool}{s:Nat}{oj:Oper}(ho:HR l i=some ⟨some d,.call ⟨.value (.func f),args.toArray,at_⟩,ty,pos,af,some (j,want)⟩)
  (hj:HR l j=some oj) (hd:oj.dst=some s) (hb:gt L s=some (.bool b)) (hw:b=want) (ha:Qb L args=some vs) (hn:Nat.blt d n.n=true)
  (hok:∀ w',Ext w w'->Ok P f vs w' (fun u w''=>Ext w' w''/\u=v)) (h:D P n l Q t ((d,v)::L) w):D P n l Q (.q i t) L w:=fun a fr=>by
 have hj':l.toArray[j]? = some oj:=by rw [Fg] at hj;simpa using hj
 have hy:yielded l.toArray a.tmps j=some b:=by simp only [yielded,hj',Option.bind_some,hd,fr.get s _ hb]
 refine⟨_,v,by rw [Fg] at ho;simpa using ho,.inl ⟨by simp [Region.wanted,hy,hw],fun w' hx=>?_⟩,h _ (fr.put hn)⟩;have hrun:=JN (P:=P) (w:=w') (ty:=ty) (pos:=pos) (af:=af) (at_:=at_) (dst:=some d) (hok w' hx).1 ha _ fr.RC;have e:execOp a.eval ⟨some d,.call ⟨.value (.func f),args.toArray,at_⟩,ty,pos,af,some (j,want)⟩=execOp a.eval ⟨some d,.call ⟨.value (.func f),args.toArray,at_⟩,ty,pos,af,none⟩:=rfl;rw [e,hrun];exact⟨rfl,(hok w' hx).2.mono fun e w'' ⟨u,he,hx',hu⟩=>⟨by rw [he,hu],hx'⟩⟩
theorem Cs[Dr]{f:FuncId}{args:List Operand}{vs:List Value}{at_:Array TypeId}{R:World->Value->World->Prop}(ho:HR l i=some ⟨some d,.call ⟨.value (.func f),args.toArray,at_⟩,ty,pos,af,none⟩)(ha:Qb L args=some vs)(hn:Nat.blt d n.n=true)
  (hok:∀ w',Ext w w'->Ok P f vs w' (fun u w''=>Ext w' w''/\R w' u w'')) (h:∀ w' v w'',Ext w w'->Ext w' w''->R w' v w''->D P n l Q t ((d,v)::L) w''):D P n l Q (.h i t) L w:=fun a fr=>by
 refine⟨_,by rw [Fg] at ho;simpa using ho,fun w' hx=>?_⟩;unfold VE;rw [if_pos (by simp [Region.wanted]),JN (hok w' hx).1 ha _ fr.RC];exact(hok w' hx).2.mono fun e w'' ⟨v,he,b,h2⟩=>⟨v,he,w'',hx.trans b,Ext.refl _,h w' v w'' hx b h2 _ (fr.put hn)⟩
theorem X4[Dr]{R:World->Value->World->Prop}(ho:HR l i=some ⟨some d,op,ty,pos,af,none⟩)(hn:Nat.blt d n.n=true)
  (hok:∀ w',Ext w w'->∀ ρ,WG L ρ->∃ v w'',(execOp ρ ⟨some d,op,ty,pos,af,none⟩).run P w'=.ok (.value v) w''/\Ext w' w''/\R w' v w'') (h:∀ w' v w'',Ext w w'->Ext w' w''->R w' v w''->D P n l Q t ((d,v)::L) w''):D P n l Q (.h i t) L w:=fun a fr=>by
 refine⟨_,by rw [Fg] at ho;simpa using ho,fun w' hx=>?_⟩;obtain⟨v,w'',hrun,b,h2⟩:=hok w' hx _ fr.RC;unfold VE;rw [if_pos (by simp [Region.wanted]),hrun];exact⟨w'',hx.trans b,Ext.refl _,h w' v w'' hx b h2 _ (fr.put hn)⟩
theorem VI[Dr](b:D P n l Q (.h i t) L w)(h2:D P n l Q (.h j u) L w):D P n l Q (.h2 i t j u) L w:=fun a fr=>⟨b a fr,h2 a fr⟩
theorem AeD[Dr]{m:Nat}{v:Tr}(b:D P n l Q (.h i t) L w)(h2:D P n l Q (.h j u) L w)(h3:D P n l Q (.h m v) L w):D P n l Q (.h3 i t j u m v) L w:=fun a fr=>⟨b a fr,h2 a fr,h3 a fr⟩
theorem Cd[Dr]{k:Nat}(h:∀ w',Ext w w'->S P n l.toArray Q (TX k l) L w'):D P n l Q (.tail k) L w:=fun a fr=>fun w' hx=>by
 have:=h w' hx a fr;rw [VH] at this;have e:=wpOps_eq_wpList (P:=P) (ops:=l.toArray) (Q:=Q) (l.drop k) k (fun j=>by simp);rw [List.length_drop] at e
 show wpOps P l.toArray Q (List.range' k (l.toArray.size - k)) a w'
 rw [List.size_toArray,e];exact this
theorem Nx[Dr]{s:Nat}{b:Bool}(_hb:gt L s=some (.bool b))(a:b=true->D P n l Q t L w)(h2:b=false->D P n l Q t L w):D P n l Q t L w:=by
 cases b
 ·exact h2 rfl
 ·exact a rfl
theorem AP{ops:Array Oper}{rest:List Oper}{s:Nat}{b:Bool}(_hb:gt L s=some (.bool b))(a:b=true->S P n ops Q rest L w)(h2:b=false->S P n ops Q rest L w):S P n ops Q rest L w:=by
 cases b
 ·exact h2 rfl
 ·exact a rfl
theorem A2[Dr]{c x y:Operand}{b:Bool}{v:Value}(hc:ev L c=some (.bool b))(hb:b=true)(hx:ev L x=some v):Bw P L w (.pick c x y) ty v:=fun w' _ ρ hρ dst pos af g=>by
 subst hb;simp [execOp,hρ c _ hc,hρ x _ hx,asBool]
theorem A9[Dr]{c x y:Operand}{b:Bool}{v:Value}(hc:ev L c=some (.bool b))(hb:b=false)(hx:ev L y=some v):Bw P L w (.pick c x y) ty v:=fun w' _ ρ hρ dst pos af g=>by
 subst hb;simp [execOp,hρ c _ hc,hρ y _ hx,asBool]
theorem Ag[Dr]{ops:Array Oper}{rest:List Oper}{v:Value}(hr:Bw P L w op ty v)(hn:Nat.blt d n.n=true)(h:S P n ops Q rest ((d,v)::L) w):S P n ops Q (⟨some d,op,ty,pos,af,none⟩::rest) L w:=
 Du rfl rfl hn (fun ρ hρ=>hr w (Ext.refl w) ρ hρ _ _ _ _) h
end
end Go.E
end
noncomputable section
namespace Go.E
open Go Go.RowKit
def Zr(P:Program)(t:TypeId)(z:Value)(sz bt:Nat):Prop:=(P.info? t).map (fun i=>(i.zero,i.size,i.bytes))=some (some z,sz,bt)
theorem Zr.parts{P:Program}{t:TypeId}{z:Value}{sz bt:Nat}(h:Zr P t z sz bt):∃ i,P.info? t=some i/\i.zero=some z/\i.size=sz/\i.bytes=bt:=by
 unfold Zr at h
 cases hi:P.info? t with
 | none=>rw [hi] at h;cases h
 | some i=>rw [hi] at h;simp at h;exact⟨i,rfl,h.1,h.2.1,h.2.2⟩
def PJ:TypeDesc->Bool
 | .struct _ | .array _ _=>false
 | _=>true
def VJ:TypeDesc->Bool
 | .struct _ | .array _ _=>true
 | _=>false
def Dy:List BS->Nat->Option BS
 | [],_=>none
 | r::_,0=>some r
 | _::l,i+1=>Dy l i
def CX:List BS->Nat->BS->List BS
 | [],_,_=>[]
 | _::l,0,s=>s::l
 | r::l,i+1,s=>r::CX l i s
def L9:List BS->Nat->List BS
 | [],_=>[]
 | _::l,0=>l
 | r::l,i+1=>r::L9 l i
theorem D1:∀ {O:List BS} {i:Nat} {r:BS},Dy O i=some r->O.Perm (r::L9 O i)
 | r::l,0,s,h=>by simp only [Dy,Option.some.injEq] at h;subst h;exact List.Perm.refl _
 | r::l,i+1,s,h=>((D1 (O:=l) (i:=i) h).cons r).trans (List.Perm.swap _ _ _)
theorem Sy:∀ {O:List BS} {i:Nat} {r:BS} (s:BS),Dy O i=some r->(CX O i s).Perm (s::L9 O i)
 | _r::_l,0,_,_s,_h=>List.Perm.refl _
 | r::l,i+1,_,s,h=>((Sy (O:=l) (i:=i) s h).cons r).trans (List.Perm.swap _ _ _)
section
variable {w0 w w':World} {O:List BS} {r r':BS} {i:Nat}
theorem Bd.at[Dr](h:Bd w0 O w)(hi:Dy O i=some r):r.ok w:=h.res r ((D1 hi).mem_iff.2 (.head _))
theorem Bd.MC[Dr](h:Bd w0 O w)(hi:Dy O i=some r)(hdr:w.drawn<=w'.drawn)(hg:w.grownBy w' r.block)(hok:r'.ok w')(hb:∀ b,r'.block=some b->r.block=some b\/w.heap.size<=b):Bd w0 (CX O i r') w':=
 ((h.perm (D1 hi).symm).AeC hdr hg hok hb).perm (Sy r' hi)
theorem HK[Dr](h:Bd w0 O w)(hi:Dy O i=some r)(hg:w.grownBy w' r.block)(hb:∀ b,r'.block=some b->r.block=some b\/w.heap.size<=b):Le (fz w O) (fz w' (CX O i r')):=by
 rw [I3 (Sy r' hi),I3 (D1 hi)];exact Abs (h.perm (D1 hi).symm) hg hb
theorem Bd.AQ[Dr](h:Bd w0 O w)(hi:Dy O i=some r):Bd w0 (L9 O i) w:=(h.perm (D1 hi).symm).drop
theorem Au(hi:Dy O i=some r):Le (fz w O) (fz w (L9 O i)):=by
 rw [I3 (D1 hi)];exact Abr
theorem S0{k:Nat}(hi:Dy O i=some r)(hb:r.block=some k)(hdis:O.Pairwise fun r s=>∀ b,r.block=some b->s.block≠some b):fz w (L9 O i) k=w.heap[k]?:=by
 unfold fz;rw [if_neg];intro ho;obtain⟨s,hs,e⟩:=CZ.1 ho;have:=(D1 hi).pairwise hdis (fun {x y} hxy b hb hx=>hxy b hx hb);exact(List.pairwise_cons.1 this).1 s hs k hb e
end
section
variable {P:Program} {n:Sz} {ops:Array Oper} {Q:Exit->Act->World->Prop} {L:Env} {w w0:World} {O:List BS} {rest:List Oper}
 {d:Nat} {ty:TypeId} {pos:String} {af:Array Edge} {α:Type} {r:Rp α} {H:PH} {x y:Operand} {v:Value} {t e:TypeId}
theorem Bu[Dr]{l:List α}(hx:ev L x=some v)(ht:P.underlying t=some (.slice e))(hv:AI r H v l):Bw P L w (.call ⟨.builtin .len,#[x],#[t]⟩) ty (.int .i64 (l.length:Int)):=by
 obtain⟨a,cap,rfl⟩:=hv.header;intro w' _ ρ hρ dst pos af g;simp [execOp,resolve,hρ x _ hx,invoke,builtin,Builtin.len_,run_underlying ht,goInt]
theorem S1[Dr]{a:Option Addr}{m cap:Nat}(hx:ev L x=some (.slice a m cap))(ht:P.underlying t=some (.slice e)):Bw P L w (.call ⟨.builtin .len,#[x],#[t]⟩) ty (.int .i64 (m:Int)):=by
 intro w' _ ρ hρ dst pos af g;simp [execOp,resolve,hρ x _ hx,invoke,builtin,Builtin.len_,run_underlying ht,goInt]
theorem LA{b sz m:Nat}{xs:List Value}(h:w.ownsRow b e sz v m xs):∃ a cap,v=.slice a m cap:=by
 rcases h.2 with ⟨rfl,hn⟩ | ⟨g,cap,cur,rfl,_⟩
 ·exact⟨none,0,by rw [hn]⟩
 ·exact⟨_,_,rfl⟩
theorem Om[Dr]{i sz m:Nat}{xs:List Value}{e':TypeId}(hx:ev L x=some v)(ht:P.underlying t=some (.slice e))(hL:Bd w0 O w)(hi:Dy O i=some (.row v e' sz m xs)):Bw P L w (.call ⟨.builtin .len,#[x],#[t]⟩) ty (.int .i64 (m:Int)):=by
 obtain⟨a,cap,rfl⟩:=LA (hL.at hi);exact S1 hx ht
theorem Ll{A:Addr}(h:A.spot=none)(i j:Nat):(A.add i).add j=A.add (i+j):=by
 obtain⟨b,o,s⟩:=A
 cases h
 simp [Addr.add_lit,Nat.add_assoc]
theorem K3{A:Addr}(h:A.spot=none)(i:Nat):(A.add i).spot=none:=by
 obtain⟨b,o,s⟩:=A
 cases h
 simp [Addr.add_lit]
theorem Hi.add{p:Addr}{c:List Value}(h:Hi H p c)(k:Nat):Hi H (p.add k) (c.drop k):=
 ⟨K3 h.1 k,fun j u hu=>by rw [Ll h.1];exact h.2 (k+j) u (by simpa using hu)⟩
theorem Hi.mono{H':PH}{p:Addr}{c:List Value}(h:Hi H p c)(hs:Le H H'):Hi H' p c:=⟨h.1,fun j u hu=>Hl hs (h.2 j u hu)⟩
theorem AI.ptr{l:List α}(hv:AI r H v l)(m:Nat){z:α}(hl:l[m]? = some z):∃ (a:Addr) (cap:Nat) (c:List Value),v=.slice (some a) l.length cap/\r.rel H z c/\Hi H (a.add (m * r.sz)) c:=by
 obtain⟨a,cap,b,h2,h3,d,f⟩:=hv.ex;have hlt:m<l.length:=(List.getElem?_eq_some_iff.1 hl).1
 cases a with
 | none=>have:=d rfl;omega
 | some A=>
  obtain⟨hs,hh⟩:=f A rfl (fun e=>by subst e;simp at hlt);obtain⟨c,hc,hcell⟩:=hh m z hl;exact⟨A,cap,c,b,hc,K3 hs _,fun j u hu=>by rw [Ll hs];exact hcell j u hu⟩
theorem X5[Dr]{l:List α}{k:IntKind}{i:Int}{zz:Value}{bt:Nat}(hx:ev L x=some v)(hy:ev L y=some (.int k i))(ht:P.underlying t=some (.slice e))(he:Zr P e zz r.sz bt)(hv:AI r H v l)(m:Nat)(hm:i=(m:Int)){z:α}(hl:l[m]? = some z):
  ∃ p c,r.rel H z c/\Hi H p c/\∀ w,Bw P L w (.indexAddr t x y) ty (.pointer (some p)):=by
 obtain⟨a,cap,c,rfl,hc,hp⟩:=hv.ptr m hl;refine⟨_,c,hc,hp,fun w w' _ ρ hρ dst pos af g=>?_⟩;obtain⟨inf,b,h2,h3,d⟩:=he.parts;have hlt:m<l.length:=(List.getElem?_eq_some_iff.1 hl).1;subst hm;have f:(0:Int)<=(m:Int)/\(m:Int)<(l.length:Int):=by omega
 simp [execOp,hρ x _ hx,hρ y _ hy,Instr.indexAt,asIntOf,run_underlying ht,sizeOf,typeInfo,b,h3,hlt]
theorem Bj[Dr]{p:Addr}{u:Value}{c:List Value}{dd:TypeDesc}(hx:ev L x=some (.pointer (some p)))(ht:P.underlying t=some dd)(hd:PJ dd=true)(hp':Hi H p (u::c))(hs:Le H (hp w)):Bw P L w (.load t x) ty u:=by
 intro w' hw ρ hρ dst pos af g
 have hcell:w'.cell? p=some u:=by
  have:=hp'.2 0 u (by simp);rw [Addr.add_zero'] at this;exact cell_of (hs.ext hw) this
 cases dd <;> simp only [PJ,Bool.false_eq_true] at hd <;>
  simp [execOp,hρ x _ hx,Instr.loadAt,Instr.sureAddr,loadVar,isAgg,run_underlying ht,hcell]
theorem run_loadCellsFrom{p:Addr}(w:World):∀ (m i:Nat) (c:List Value) (acc:Array Value),c.length=m->(∀ j u,c[j]? = some u->w.cell? (p.add (i+j))=some u)->
  (loadCellsFrom p i m acc).run P w=.ok (acc++c.toArray) w
 | 0,i,c,acc,hl,_=>by
  have:c=[]:=List.eq_nil_of_length_eq_zero hl;subst this;simp [loadCellsFrom]
 | m+1,i,[],acc,hl,_=>by simp at hl
 | m+1,i,u::c,acc,hl,h=>by
  have a:w.cell? (p.add i)=some u:=by simpa using h 0 u (by simp)
  have ih:=run_loadCellsFrom w m (i+1) c (acc.push u) (by simpa using hl) (fun j v hv=>by have:=h (j+1) v (by simpa using hv);rwa [show i+(j+1)=i+1+j from by omega] at this);simp [loadCellsFrom,a,ih]
theorem C9[Dr]{p:Addr}{c:List Value}{dd:TypeDesc}{zz:Value}{bt:Nat}(hx:ev L x=some (.pointer (some p)))(ht:P.underlying t=some dd)(hd:VJ dd=true)(hz:Zr P t zz c.length bt)(hp':Hi H p c)(hs:Le H (hp w)):Bw P L w (.load t x) ty (.agg c.toArray):=by
 intro w' hw ρ hρ dst pos af g;obtain⟨inf,a,h2,h3,b⟩:=hz.parts;have hload:=run_loadCellsFrom (P:=P) (p:=p) w' c.length 0 c #[] rfl (fun j u hu=>by rw [Nat.zero_add];exact cell_of (hs.ext hw) (hp'.2 j u hu))
 cases dd <;> simp only [VJ,Bool.false_eq_true] at hd <;>
  simp [execOp,hρ x _ hx,Instr.loadAt,Instr.sureAddr,loadVar,isAgg,run_underlying ht,loadCells,sizeOf,typeInfo,a,h3,hload]
theorem Abu[Dr]{p:Addr}{fs:Array Field}{f:Nat}{fd:Field}{zz:Value}{sz bt:Nat}(hx:ev L x=some (.pointer (some p)))(ht:P.underlying t=some (.struct fs))(hf:fs[f]? = some fd)(hz:Zr P fd.type zz sz bt)(hne:sz≠0):
  Bw P L w (.fieldAddr t x f) ty (.pointer (some (p.add fd.offset))):=by
 intro w' hw ρ hρ dst pos af g;obtain⟨inf,a,h2,h3,b⟩:=hz.parts;simp [execOp,hρ x _ hx,Instr.fieldAt,run_underlying ht,hf,Instr.sureAddr,fieldPlace,sizeOf,typeInfo,a,h3,hne]
theorem Ae[Dr]{p:Addr}{fs:Array Field}{f:Nat}{fd:Field}{zz:Value}{sz bt:Nat}(hx:ev L x=some (.pointer (some p)))(ht:P.underlying t=some (.struct fs))(hf:fs[f]? = some fd)(hz:Zr P fd.type zz sz bt)(hne:sz≠0:=by decide):
  Bw P L w (.fieldAddr t x f) ty (.pointer (some (p.add fd.offset))):=Abu hx ht hf hz hne
theorem AcZ[Dr]{cs:Array Value}{fs:Array Field}{f:Nat}{fd:Field}{dd:TypeDesc}{u:Value}(hx:ev L x=some (.agg cs))(ht:P.underlying t=some (.struct fs))(hf:fs[f]? = some fd)(hd:P.underlying fd.type=some dd)(hp:PJ dd=true)(hu:nth cs.toList fd.offset=some u):
  Bw P L w (.field t x f) ty u:=by
 intro w' hw ρ hρ dst pos af g;rw [WH] at hu;have hu':cs[fd.offset]? = some u:=by simpa using hu
 cases dd <;> simp only [PJ,Bool.false_eq_true] at hp <;>
  simp [execOp,hρ x _ hx,Instr.field,run_underlying ht,hf,asAgg,part,isAgg,run_underlying hd,hu']
theorem AI.sub{l:List α}(hv:AI r H v l)(lo hi:Nat)(f:lo<=hi)(h2:hi<=l.length):∃ a cap,v=.slice a l.length cap/\AI r H (.slice (if cap=lo then a else a.map (·.add (lo * r.sz))) (hi - lo) (cap - lo)) ((l.drop lo).take (hi - lo)):=by
 obtain⟨a,cap,rfl,h2',h3,b,d⟩:=hv.ex;refine⟨a,cap,rfl,?_⟩;have hlen:((l.drop lo).take (hi - lo)).length=hi - lo:=by simp;omega
 refine⟨_,cap - lo,by rw [hlen],by rw [hlen];omega,by omega,?_,?_⟩
 ·intro ha
  split at ha
  ·rename_i e;omega
  ·cases a with
   | none=>have:=b rfl;omega
   | some A=>cases ha
 ·intro A hA hne
  have hpos:lo<hi:=by
   rcases Nat.lt_or_ge lo hi with h | h
   ·exact h
   ·exfalso;apply hne;simp;omega
  rw [if_neg (by omega)] at hA
  cases a with
  | none=>cases hA
  | some A0=>
   cases hA
   obtain⟨hs,hh⟩:=d A0 rfl (fun e=>by subst e;simp at h2;omega);refine⟨K3 hs _,fun i z hz=>?_⟩;rw [List.getElem?_take] at hz
   split at hz
   ·rw [List.getElem?_drop] at hz;obtain⟨c,hc,hcell⟩:=hh (lo+i) z hz;refine⟨c,hc,fun j u hu=>?_⟩;rw [Ll hs,show lo * r.sz+(i * r.sz+j)=(lo+i) * r.sz+j from by rw [Nat.add_mul];omega];exact hcell j u hu
   ·cases hz
def loB(L:Env)(lo:Option Operand)(a:Nat):Prop:=match lo with | some o=>∃ k,ev L o=some (.int k (a:Int)) | none=>a=0
def hiB(L:Env)(hi:Option Operand)(b m:Nat):Prop:=match hi with | some o=>∃ k,ev L o=some (.int k (b:Int)) | none=>b=m
theorem X6[Dr]{l:List α}{lo hi:Option Operand}{zz:Value}{bt:Nat}(hx:ev L x=some v)(ht:P.underlying t=some (.slice e))(he:Zr P e zz r.sz bt)(hv:AI r H v l)(a b:Nat)
  (ha:loB L lo a) (hb:hiB L hi b l.length) (f:a<=b) (h2:b<=l.length) :
  ∃ v',AI r H v' ((l.drop a).take (b - a))/\∀ w,Bw P L w (.slice t x lo hi none) ty v':=by
 obtain⟨A,cap,d,hsub⟩:=hv.sub a b f h2;refine⟨_,hsub,fun w w' _ ρ hρ dst pos af g=>?_⟩;obtain⟨inf,c,u,j,y⟩:=he.parts;obtain⟨A',cap',k,o,p,q,s⟩:=hv.ex;have hcc:cap=cap':=by rw [d] at k;cases k;rfl
 have hbc:b<=cap:=by omega
 subst d;have z:(b:Int)<=(cap:Int):=by omega
 have e3:(a:Int)<=(b:Int):=by omega
 cases lo with
 | none=>
  simp only [loB] at ha;subst ha
  cases hi with
  | none=>
   simp only [hiB] at hb;subst hb;simp [execOp,hρ x _ hx,Instr.sliceAt,run_underlying ht,Instr.slice,Instr.sliceBounds,sizeOf,typeInfo,c]
  | some i=>
   obtain⟨n,hb⟩:=hb;simp [execOp,hρ x _ hx,hρ i _ hb,Instr.sliceAt,run_underlying ht,Instr.slice,Instr.sliceBounds,Instr.sliceBound,asIntOf,sizeOf,typeInfo,c,hbc]
 | some m=>
  obtain⟨k1,ha⟩:=ha
  cases hi with
  | none=>
   simp only [hiB] at hb;subst hb;simp [execOp,hρ x _ hx,hρ m _ ha,Instr.sliceAt,run_underlying ht,Instr.slice,Instr.sliceBounds,Instr.sliceBound,asIntOf,sizeOf,typeInfo,c,j,f]
  | some i=>
   obtain⟨n,hb⟩:=hb;simp [execOp,hρ x _ hx,hρ m _ ha,hρ i _ hb,Instr.sliceAt,run_underlying ht,Instr.slice,Instr.sliceBounds,Instr.sliceBound,asIntOf,sizeOf,typeInfo,c,j,hbc,f]
theorem getD_some{β:Type}[Inhabited β]{l:List β}{m:Nat}(h:m<l.length):l[m]? = some (l.getD m default):=by simp [h]
theorem Bf[Dr][Inhabited α]{l:List α}{k:IntKind}{i:Int}{zz:Value}{bt:Nat}(hx:ev L x=some v)(hy:ev L y=some (.int k i))(ht:P.underlying t=some (.slice e))(he:Zr P e zz r.sz bt)(hv:AI r H v l)(m:Nat)(hm:i=(m:Int))(hlt:m<l.length)(hn:Nat.blt d n.n=true)
  (h:∀ p c,r.rel H (l.getD m default) c->Hi H p c->S P n ops Q rest ((d,.pointer (some p))::L) w):S P n ops Q (⟨some d,.indexAddr t x y,ty,pos,af,none⟩::rest) L w:=by
 obtain⟨p,c,a,h2,h3⟩:=X5 (P:=P) (ty:=ty) hx hy ht he hv m hm (getD_some hlt);exact Ag (h3 w) hn (h p c a h2)
theorem HX[Dr][Inhabited α]{lo:List Oper}{ix:Nat}{tr:Tr}{l:List α}{k:IntKind}{i:Int}{zz:Value}{bt:Nat}(ho:HR lo ix=some ⟨some d,.indexAddr t x y,ty,pos,af,none⟩)(hx:ev L x=some v)(hy:ev L y=some (.int k i))(ht:P.underlying t=some (.slice e))(he:Zr P e zz r.sz bt)(hv:AI r H v l)(m:Nat)(hm:i=(m:Int))(hlt:m<l.length)(hn:Nat.blt d n.n=true)
  (h:∀ p c,r.rel H (l.getD m default) c->Hi H p c->D P n lo Q tr ((d,.pointer (some p))::L) w):D P n lo Q (.q ix tr) L w:=by
 obtain⟨p,c,a,h2,h3⟩:=X5 (P:=P) (ty:=ty) hx hy ht he hv m hm (getD_some hlt);exact BQ (h3 w) ho hn (h p c a h2)
theorem U9[Dr]{l:List α}{lo hi:Option Operand}{zz:Value}{bt:Nat}(hx:ev L x=some v)(ht:P.underlying t=some (.slice e))(he:Zr P e zz r.sz bt)(hv:AI r H v l)(a b:Nat)
  (ha:loB L lo a) (hb:hiB L hi b l.length) (hab:a<=b/\b<=l.length) (hn:Nat.blt d n.n=true)
  (h:∀ v',AI r H v' ((l.drop a).take (b - a))->S P n ops Q rest ((d,v')::L) w):S P n ops Q (⟨some d,.slice t x lo hi none,ty,pos,af,none⟩::rest) L w:=by
 obtain⟨v',c,h2⟩:=X6 (P:=P) (ty:=ty) hx ht he hv a b ha hb hab.1 hab.2;exact Ag (h2 w) hn (h v' c)
theorem Abv[Dr]{lop:List Oper}{ix:Nat}{tr:Tr}{l:List α}{lo hi:Option Operand}{zz:Value}{bt:Nat}(ho:HR lop ix=some ⟨some d,.slice t x lo hi none,ty,pos,af,none⟩)(hx:ev L x=some v)(ht:P.underlying t=some (.slice e))(he:Zr P e zz r.sz bt)(hv:AI r H v l)(a b:Nat)
  (ha:loB L lo a) (hb:hiB L hi b l.length) (hab:a<=b/\b<=l.length) (hn:Nat.blt d n.n=true)
  (h:∀ v',AI r H v' ((l.drop a).take (b - a))->D P n lop Q tr ((d,v')::L) w):D P n lop Q (.q ix tr) L w:=by
 obtain⟨v',c,h2⟩:=X6 (P:=P) (ty:=ty) hx ht he hv a b ha hb hab.1 hab.2;exact BQ (h2 w) ho hn (h v' c)
theorem AI.one{l:List α}(h:AI r H v l):v.oneCell'=true:=by obtain⟨a,c,rfl⟩:=h.header;rfl
end
end Go.E
namespace Go.E
open Go Go.RowKit
theorem Hj:∀ u∈([]:List Value),u.oneCell'=true:=fun _ h=>by cases h
theorem AU{v:Value}{l:List Value}(hv:v.oneCell'=true)(hl:∀ u∈l,u.oneCell'=true):∀ u∈v::l,u.oneCell'=true:=fun u hu=>by
 cases hu with
 | head=>exact hv
 | tail _ h=>exact hl u h
theorem Bc{l:List Value}(h:l.map Value.oneCell'=l.map fun _=>true):∀ u∈l,u.oneCell'=true:=by
 induction l with
 | nil=>exact Hj
 | cons v l ih=>exact AU (List.cons.inj h).1 (ih (List.cons.inj h).2)
theorem C8[Dr](w:World)(o:Obj):Ext w (w.alloc o):=⟨(Below.refl _ _).alloc (Nat.le_refl _) o,fun _=>Nat.le_refl _⟩
theorem On[Dr]{w w':World}(hd:w.drawn<=w'.drawn)(h:w.grownBy w' none):Ext w w':=⟨⟨h.os,h.tape,h.output,h.size,fun k hk=>h.block k hk (by simp)⟩,fun _=>hd⟩
def VK:List Value->Nat->Value->List Value
 | [],_,_=>[]
 | _::l,0,v=>v::l
 | u::l,i+1,v=>u::VK l i v
theorem X7:∀ (l:List Value) (i:Nat) (v:Value),VK l i v=l.set i v
 | [],_,_=>by simp [VK]
 | _::_,0,_=>by simp [VK]
 | _::l,i+1,v=>by simp [VK,X7 l i v]
section
variable {P:Program} {n:Sz} {ops:Array Oper} {Q:Exit->Act->World->Prop} {L:Env} {w w0:World} {O:List BS} {rest:List Oper}
 {d:Nat} {ty:TypeId} {pos:String} {af:Array Edge} {α:Type} {r:Rp α} {H:PH} {x y:Operand} {v:Value} {t e:TypeId}
theorem TY{z:Value}{sz bt:Nat}(hz:Zr P t z sz bt)(w:World)(ρ:Operand->Value)(o:Oper)(ho:o.op=.alloc t):(execOp ρ o).run P w=.ok (.value (.pointer (some ⟨w.heap.size,0,none⟩))) (w.alloc (.cells z.cells t)):=by
 obtain⟨inf,a,h2,h3,b⟩:=hz.parts;simp [execOp,ho,Instr.alloc,zeroValue,typeInfo,a,h2,newVar,newRow]
theorem UA[Dr]{cs:List Value}(hL:Bd w0 O w):Bd w0 (.box w.heap.size cs t::O) (w.alloc (.cells cs.toArray t)):=
 hL.new (C8 _ _) (heap_alloc_new w _) (fun b hb=>by cases hb;exact Nat.le_refl _)
theorem QK[Dr]{cs:List Value}(hL:Bd w0 O w):Le (fz w O) (fz (w.alloc (.cells cs.toArray t)) (.box w.heap.size cs t::O)):=
 PF hL (C8 _ _) (fun b hb=>by cases hb;exact Nat.le_refl _)
theorem AH[Dr]{z:Value}{sz bt:Nat}{cs:List Value}(hz:Zr P t z sz bt)(hc:z.cells.toList=cs)(hn:Nat.blt d n.n=true)(hL:Bd w0 O w)
  (h:∀ w' b,Bd w0 (.box b cs t::O) w'->Le (fz w O) (fz w' (.box b cs t::O))->Ext w w'->S P n ops Q rest ((d,.pointer (some ⟨b,0,none⟩))::L) w'):S P n ops Q (⟨some d,.alloc t,ty,pos,af,none⟩::rest) L w:=by
 subst hc;refine Du rfl rfl hn (fun ρ _=>TY hz w ρ _ rfl) ?_;have e:(Obj.cells z.cells t:Obj)=.cells z.cells.toList.toArray t:=by simp
 rw [e];exact h _ _ (UA hL) (QK hL) (C8 _ _)
theorem CY[Dr]{cs:List Value}(hx:ev L x=some v)(hc:v.cells.toList=cs)(hn:Nat.blt d n.n=true)(hL:Bd w0 O w)
  (h:∀ w' b,Bd w0 (.box b cs t::O) w'->Le (fz w O) (fz w' (.box b cs t::O))->Ext w w'->S P n ops Q rest ((d,.pointer (some ⟨b,0,none⟩))::L) w'):S P n ops Q (⟨some d,.box t x,ty,pos,af,none⟩::rest) L w:=by
 subst hc;refine Du (v:=.pointer (some ⟨w.heap.size,0,none⟩)) (w':=w.alloc (.cells v.cells t)) rfl rfl hn (fun ρ hρ=>by simp [execOp,hρ x _ hx,Instr.box,newVar,newRow]) ?_;have e:(Obj.cells v.cells t:Obj)=.cells v.cells.toList.toArray t:=by simp
 rw [e];exact h _ _ (UA hL) (QK hL) (C8 _ _)
theorem AL[Dr]{i b:Nat}{cs:List Value}{t':TypeId}(hL:Bd w0 O w)(hi:Dy O i=some (.box b cs t')):Hi (hp w) ⟨b,0,none⟩ cs:=
 ⟨rfl,fun j u hu=>by
  have:=hL.at hi;rw [Addr.add_lit,Nat.zero_add,VB,cell_of_row w b j _ _ _ this]
  simpa using hu⟩
theorem S2:∀ (cs:List Value) (o:Nat) (u:Value),nth cs o=some u->∃ c,cs.drop o=u::c
 | _::cs,0,u,h=>by simp only [nth,Option.some.injEq] at h;subst h;exact⟨cs,rfl⟩
 | _::cs,o+1,u,h=>S2 cs o u h
theorem Oo[Dr](i:Nat){b off:Nat}{cs:List Value}{t':TypeId}{u:Value}{dd:TypeDesc}(hx:ev L x=some (.pointer (some ⟨b,off,none⟩)))(ht:P.underlying t=some dd)(hd:PJ dd=true)(hL:Bd w0 O w)(hi:Dy O i=some (.box b cs t'))(hu:nth cs off=some u):Bw P L w (.load t x) ty u:=by
 obtain⟨c,hc⟩:=S2 cs off u hu;have a:=(AL hL hi).add off;rw [hc,Addr.add_lit,Nat.zero_add] at a;exact Bj hx ht hd a (Le.refl _)
theorem Af[Dr](i:Nat){b off:Nat}{cs:List Value}{t':TypeId}{u:Value}{dd:TypeDesc}(hx:ev L x=some (.pointer (some ⟨b,off,none⟩)))(ht:P.underlying t=some dd)(hd:PJ dd=true)(hL:Bd w0 O w)(hp:(Dy O i,nth cs off)=(some (.box b cs t'),some u)):Bw P L w (.load t x) ty u:=by
 simp only [Prod.mk.injEq] at hp;exact Oo i hx ht hd hL hp.1 hp.2
theorem AE[Dr](i:Nat){b:Nat}{cs:List Value}{t':TypeId}{dd:TypeDesc}{zz:Value}{bt:Nat}(hx:ev L x=some (.pointer (some ⟨b,0,none⟩)))(ht:P.underlying t=some dd)(hd:VJ dd=true)(hz:Zr P t zz cs.length bt)(hL:Bd w0 O w)(hi:Dy O i=some (.box b cs t')):Bw P L w (.load t x) ty (.agg cs.toArray):=
 C9 hx ht hd hz (AL hL hi) (Le.refl _)
theorem MU(w:World)(g:Nat)(cur cs:Array Value)(t:TypeId)(hg:w.heap[g]? = some (.cells cur t (0,0))):(w.setRow g cs).heap[g]? = some (.cells cs t (0,0)):=setRow_heap w g cur cs t (0,0) hg
theorem Oq(w:World)(g:Nat)(cs:Array Value):w.grownBy (w.setRow g cs) (some g):=
 ⟨rfl,rfl,rfl,by simp,fun k _ hk=>setRow_other w g k _ (fun e=>hk (by simp [e]))⟩
theorem QL[Dr](i:Nat){b:Nat}{cs vs:List Value}{t':TypeId}{zz:Value}{bt:Nat}(hx:ev L x=some (.pointer (some ⟨b,0,none⟩)))(hy:ev L y=some v)(hc:v.cells.toList=vs)(hz:Zr P t zz vs.length bt)(hL:Bd w0 O w)(hi:Dy O i=some (.box b cs t'))(hlen:cs.length=vs.length)(a:∀ u∈vs,u.oneCell'=true)
  (h:∀ w',Bd w0 (CX O i (.box b vs t')) w'->Le (fz w O) (fz w' (CX O i (.box b vs t')))->S P n ops Q rest L w'):S P n ops Q (⟨none,.store t x y,ty,pos,af,none⟩::rest) L w:=by
 subst hc;obtain⟨inf,c,f,d,g⟩:=hz.parts;have hb:w.heap[b]? = some (.cells cs.toArray t' (0,0)):=hL.at hi;have hst:=run_storeCells_at P b 0 t' v.cells.toList 0 cs.toArray w hb (by simp at hlen ⊢;omega) a;simp only [Nat.zero_add,List.take_zero,List.nil_append] at hst;have hdrop:cs.drop v.cells.toList.length=[]:=by simp at hlen ⊢;omega
 simp only [hdrop,List.append_nil,Array.toArray_toList] at hst;have hsz:v.cells.size=inf.size:=by rw [d];simp
 refine MR (w':=w.setRow b v.cells) rfl rfl (fun ρ hρ=>by
  simp [execOp,hρ x _ hx,hρ y _ hy,Instr.storeAt,Instr.sureAddr,storeVar,sizeOf,typeInfo,c,hsz,hst]) ?_
 have hg:=Oq w b v.cells
 have hok:BS.ok (w.setRow b v.cells) (.box b v.cells.toList t'):=by
  show(w.setRow b v.cells).heap[b]? = _
  simpa using MU w b cs.toArray v.cells t' hb
 exact h _ (hL.MC hi (Nat.le_refl _) hg hok (fun b' e=>.inl e)) (HK hL hi hg (fun b' e=>.inl e))
theorem Ah[Dr](i:Nat){b:Nat}{cs vs:List Value}{t':TypeId}{zz:Value}{bt:Nat}(hq:(ev L x,ev L y,v.cells.toList)=(some (.pointer (some ⟨b,0,none⟩)),some v,vs))(hz:Zr P t zz vs.length bt)(hL:Bd w0 O w)(hp:(Dy O i,cs.length)=(some (.box b cs t'),vs.length))(a:∀ u∈vs,u.oneCell'=true)
  (h:∀ w',Bd w0 (CX O i (.box b vs t')) w'->Le (fz w O) (fz w' (CX O i (.box b vs t')))->S P n ops Q rest L w'):S P n ops Q (⟨none,.store t x y,ty,pos,af,none⟩::rest) L w:=by
 simp only [Prod.mk.injEq] at hq hp;exact QL i hq.1 hq.2.1 hq.2.2 hz hL hp.1 hp.2 a h
theorem Bm[Dr](i:Nat){b off:Nat}{cs:List Value}{t':TypeId}{zz:Value}{bt:Nat}(hx:ev L x=some (.pointer (some ⟨b,off,none⟩)))(hy:ev L y=some v)(hv:v.oneCell'=true)(hz:Zr P t zz 1 bt)(hL:Bd w0 O w)(hi:Dy O i=some (.box b cs t'))(hlt:Nat.blt off cs.length=true)
  (h:∀ w',Bd w0 (CX O i (.box b (VK cs off v) t')) w'->Le (fz w O) (fz w' (CX O i (.box b (VK cs off v) t')))->S P n ops Q rest L w'):S P n ops Q (⟨none,.store t x y,ty,pos,af,none⟩::rest) L w:=by
 obtain⟨inf,a,d,c,f⟩:=hz.parts;have hb:w.heap[b]? = some (.cells cs.toArray t' (0,0)):=hL.at hi;have hlt':=Oi hlt;have hvc:v.cells = #[v]:=by cases v <;> simp_all [Value.cells,Value.oneCell']
 have hst:=run_storeCells_at P b off t' [v] 0 cs.toArray w hb (by simp;omega) (by simpa using hv);have hcell:w.cell? ⟨b,off,none⟩=some cs[off]:=by rw [cell_of_row w b off _ _ _ hb];simp [hlt']
 have hfz:w.frozen? ⟨b,off,none⟩=false:=frozen_of_row w b off _ _ hb
 refine MR (w':=w.setCell ⟨b,off,none⟩ v) rfl rfl (fun ρ hρ=>by
  simp [execOp,hρ x _ hx,hρ y _ hy,Instr.storeAt,Instr.sureAddr,storeVar,sizeOf,typeInfo,a,c,hvc,storeCells,run_store,hv,Addr.add_zero',hcell,hfz]) ?_
 have hsame:=heap_setCell_same w b off cs.toArray t' v hb;have hg:w.grownBy (w.setCell ⟨b,off,none⟩ v) (some b):=⟨rfl,rfl,rfl,by simp,fun k _ hk=>heap_setCell_other w ⟨b,off,none⟩ k v (fun e=>hk (by simp [e]))⟩
 have hok:BS.ok (w.setCell ⟨b,off,none⟩ v) (.box b (VK cs off v) t'):=by
  show(w.setCell ⟨b,off,none⟩ v).heap[b]? = _
  rw [hsame,X7];simp
 exact h _ (hL.MC hi (Nat.le_refl _) hg hok (fun b' e=>.inl e)) (HK hL hi hg (fun b' e=>.inl e))
theorem Bn[Dr]{f:FuncId}{args:List Operand}{vs:List Value}{at_:Array TypeId}{R:Value->World->Prop}(ha:Qb L args=some vs)(hn:Nat.blt d n.n=true)(hL:Bd w0 O w)(hok:Ok P f vs w (fun v w'=>Ext w w'/\R v w'))
  (h:∀ v w',R v w'->Ext w w'->Bd w0 O w'->Le (fz w O) (fz w' O)->S P n ops Q rest ((d,v)::L) w'):S P n ops Q (⟨some d,.call ⟨.value (.func f),args.toArray,at_⟩,ty,pos,af,none⟩::rest) L w:=
 DC ha hn hok fun v w' ⟨hx,hR⟩=>h v w' hR hx (hL.call hx) (AT hL hx)
theorem AA[Dr]{f:FuncId}{args:List Operand}{vs:List Value}{at_:Array TypeId}{v:Value}(ha:Qb L args=some vs)(hn:Nat.blt d n.n=true)(hL:Bd w0 O w)(hok:Ok P f vs w (fun u w'=>Ext w w'/\u=v))
  (h:∀ w',Ext w w'->Bd w0 O w'->Le (fz w O) (fz w' O)->S P n ops Q rest ((d,v)::L) w'):S P n ops Q (⟨some d,.call ⟨.value (.func f),args.toArray,at_⟩,ty,pos,af,none⟩::rest) L w:=
 Bn (R:=fun u _=>u=v) ha hn hL hok fun u w' hu hx a h2=>by subst hu;exact h w' hx a h2
def evp(L:Env):List (Nat×Operand)->Option (List (Nat×Value))
 | []=>some []
 | (i,x)::l=>match ev L x,evp L l with
  | some v,some vs=>some ((i,v)::vs)
  | _,_=>none
theorem WG.Abx{ρ:Operand->Value}(h:WG L ρ):∀ (l:List (Nat×Operand)) (vs:List (Nat×Value)),evp L l=some vs->l.map (fun(i,x)=>(i,ρ x))=vs
 | [],vs,e=>by simp only [evp,Option.some.injEq] at e;simpa using e
 | (i,x)::l,vs,e=>by
  unfold evp at e
  split at e
  ·rename_i v us a h2;cases e;simp [h x v a,WG.Abx h l us h2]
  ·cases e
theorem AR[Dr]{ps:List (Nat×Operand)}{vs:List (Nat×Value)}{u:Value}(hp:evp L ps=some vs)(hr:∀ w,(Instr.build t vs.toArray).run P w=.ok u w):Bw P L w (.build t ps.toArray) ty u:=by
 intro w' _ ρ hρ dst pos af g;have e:=hρ.Abx _ _ hp;have e':(ps.toArray.map fun(i,x)=>(i,ρ x))=vs.toArray:=by rw [<- e];simp
 simp [execOp,e',hr w',-List.map_toArray]
def Src(H:PH)(sz:Nat)(v:Value)(m:Nat)(news:List Value):Prop:=
 news.length=m * sz/\∃ a cap,v=.slice a m cap/\m<=cap/\cap<=maxLen/\(a=none->cap=0)/\∀ A,a=some A->m≠0->A.spot=none/\∀ j u,news[j]? = some u->G9 H (A.add j)=some u
theorem Src.mono{H':PH}{sz m:Nat}{news:List Value}(h:Src H sz v m news)(hs:Le H H'):Src H' sz v m news:=by
 obtain⟨c,a,cap,h2,h3,d,e,b⟩:=h;exact⟨c,a,cap,h2,h3,d,e,fun A hA hm=>⟨(b A hA hm).1,fun j u hu=>Hl hs ((b A hA hm).2 j u hu)⟩⟩
theorem AI.elems{l:List α}(hv:AI r H v l):∃ news,AJ r H l news/\Src H r.sz v l.length news:=by
 obtain⟨a,cap,f,h2,h3,e,g⟩:=hv.ex
 cases a with
 | none=>
  have:l.length=0:=by have:=e rfl;omega
  have:l=[]:=List.eq_nil_of_length_eq_zero this;subst this;exact⟨[],.nil,by simp,none,cap,f,h2,h3,e,fun A hA=>by cases hA⟩
 | some A=>
  by_cases hl:l=[]
  ·subst hl;exact⟨[],.nil,by simp,some A,cap,f,h2,h3,e,fun _ _ hm=>absurd rfl hm⟩
  obtain⟨hs,hh⟩:=g A rfl hl
  have key:∀ (m:List α) (k:Nat),(∀ i x,m[i]? = some x->∃ c,r.rel H x c/\∀ j u,c[j]? = some u->G9 H (A.add ((k+i) * r.sz+j))=some u)->
    ∃ news,AJ r H m news/\∀ j u,news[j]? = some u->G9 H (A.add (k * r.sz+j))=some u:=by
   intro m
   induction m with
   | nil=>intro k _;exact⟨[],.nil,fun j u hu=>by cases hu⟩
   | cons x m ih=>
    intro k hm;obtain⟨c,hc,hcell⟩:=hm 0 x (by simp);obtain⟨news,b,d⟩:=ih (k+1) (fun i y hy=>by have:=hm (i+1) y (by simpa using hy);rwa [show k+(i+1)=k+1+i from by omega] at this);refine⟨c++news,.cons hc b,fun j u hu=>?_⟩
    rcases Nat.lt_or_ge j c.length with hj | hj
    ·rw [List.getElem?_append_left hj] at hu;have:=hcell j u hu
     rwa [Nat.add_zero] at this
    ·rw [List.getElem?_append_right hj] at hu;have:=d _ u hu;rw [r.len hc] at this hj;rw [show k * r.sz+j=(k+1) * r.sz+(j - r.sz) from by rw [Nat.add_mul];omega];exact this
  obtain⟨news,b,d⟩:=key l 0 (fun i x hx=>by rw [Nat.zero_add];exact hh i x hx);refine⟨news,b,b.len,some A,cap,f,h2,h3,e,fun A' hA' _=>?_⟩
  cases hA'
  exact⟨hs,fun j u hu=>by have:=d j u hu;rwa [Nat.zero_mul,Nat.zero_add] at this⟩
theorem S3{l:List α}{news:List Value}(he:AJ r H l news)(h:Src H r.sz v l.length news):AI r H v l:=by
 obtain⟨g,a,cap,h2,h3,b,d,f⟩:=h;refine⟨a,cap,h2,h3,b,d,fun A hA hl=>?_⟩;obtain⟨hs,hh⟩:=f A hA (fun e=>hl (List.eq_nil_of_length_eq_zero e));refine⟨hs,fun i x hx=>?_⟩;obtain⟨c,hc,hcell⟩:=he.at i x hx;exact⟨c,hc,fun j u hu=>hh _ u (hcell j u hu)⟩
theorem WK[Dr]{i sz bt m k:Nat}{zz u:Value}{xs news:List Value}(ht:P.underlying t=some (.slice e))(hz:Zr P e zz sz bt)(hzs:zz.cells.size=sz)(hsz:0<sz)(hL:Bd w0 O w)(hi:Dy O i=some (.row v e sz m xs))(hs:Src (hp w) sz u k news)(n:∀ c∈news,c.oneCell'=true)
  (hby:(m+k) * bt<=140737488355328) (hm:m+k<=9223372036854775807) :
  ∃ v' w',(Builtin.append_ #[t,t] ty #[v,u]).run P w=.ok v' w'/\Bd w0 (CX O i (.row v' e sz (m+k) (xs++news))) w'/\Le (fz w O) (fz w' (CX O i (.row v' e sz (m+k) (xs++news)))):=by
 obtain⟨inf,f,l,o,p⟩:=hz.parts;have hown:w.ownsRow 0 e sz v m xs:=hL.at hi;obtain⟨hl,a,cap,hu,x,y,q,r⟩:=hs;have s:m+k<=maxLen:=by unfold maxLen;omega
 have fin:∀ v' w',w.drawn<=w'.drawn->w'.ownsRow 0 e sz v' (m+k) (xs++news)->w.grownBy w' v.ownBlock->(∀ b,v'.ownBlock=some b->v.ownBlock=some b\/w.heap.size<=b)->
   Bd w0 (CX O i (.row v' e sz (m+k) (xs++news))) w'/\Le (fz w O) (fz w' (CX O i (.row v' e sz (m+k) (xs++news)))):=fun v' w' hdr h2 h3 hb=>
  ⟨hL.MC hi hdr h3 h2 hb,HK (r':=.row v' e sz (m+k) (xs++news)) hL hi h3 hb⟩
 by_cases h:k=0
 ·subst h;have hn:news=[]:=List.eq_nil_of_length_eq_zero (by simpa using hl);subst hn;refine⟨v,w,?_,?_⟩
  ·obtain⟨va,vc,rfl⟩:=LA hown
   have hle:m<=vc:=by
    rcases hown.2 with ⟨he,hn⟩ | ⟨g,cap,cur,he,_,_,hnc,_⟩
    ·cases he;omega
    ·cases he;exact hnc
   subst hu
   cases a with
   | none=>cases va <;> simp [Builtin.append_,run_underlying ht,sizeOf,typeInfo,f,Builtin.lenOf,Builtin.firstCells,hle,storeCells]
   | some A=>cases va <;> simp [Builtin.append_,run_underlying ht,sizeOf,typeInfo,f,Builtin.lenOf,Builtin.firstCells,hle,storeCells,loadCells,loadCellsFrom]
  ·have:=fin v w (Nat.le_refl _) (by simpa using hown) (World.grownBy.refl w _) (fun b hb=>.inl hb);exact this
 ·cases a with
  | none=>have:=q rfl;omega
  | some A=>
   subst hu;obtain⟨hspot,hcell⟩:=r A rfl h;obtain⟨v',w',hr,h2,h3,z⟩:=run_append_own (P:=P) w 0 t ty e inf zz sz bt ht f l o p hzs hsz v m xs hown A k cap news hl (fun j c hc=>hcell j c hc) n s hby (Nat.zero_le _);refine⟨v',w',hr,fin v' w' (OR _ _ _ _ hr) h2 h3 fun b hb=>?_⟩;subst o;subst p
   rcases hown.2 with ⟨rfl,rfl⟩ | ⟨g,cp,cur,rfl,hbg,hg,hnc,hcm,hcs,htake⟩
   ·have d:=run_append_nil (P:=P) w t ty e inf zz ht f l A k cap news hl (fun j c hc=>hcell j c hc) (by omega) (by omega) (by simp only [Nat.zero_add] at hby;omega);rw [hr] at d;simp only [Result.ok.injEq] at d;rw [d.1] at hb
    right;cases hb;exact Nat.le_refl _
   ·by_cases hroom:m+k<=cp
    ·have hfit:m * inf.size+news.length<=cur.size:=by rw [hl,hcs,<- Nat.add_mul];exact Nat.mul_le_mul_right _ hroom
     have d:=run_append_room (P:=P) w t ty e inf ht f g m cp cur hg A k cap news hl (fun j c hc=>hcell j c hc) n hroom hfit;rw [hr] at d;simp only [Result.ok.injEq] at d;rw [d.1] at hb
     left;exact hb
    ·have holds:∀ j u,xs[j]? = some u->w.cell? ((⟨g,0,none⟩:Addr).add j)=some u:=hown.cells (g:=g) rfl;have d:=run_append_grow (P:=P) w t ty e inf zz ht f l ⟨g,0,none⟩ m cp xs hown.1 holds A k cap news hl (fun j c hc=>hcell j c hc) (by omega) (by omega) (growslice_fits (by omega) hby);rw [hr] at d;simp only [Result.ok.injEq] at d;rw [d.1] at hb
     right;cases hb;exact Nat.le_refl _
theorem S4[Dr](i:Nat){sz bt m k:Nat}{zz u:Value}{xs news:List Value}(hx:ev L x=some v)(hy:ev L y=some u)(ht:P.underlying t=some (.slice e))(hz:Zr P e zz sz bt)(hzs:zz.cells.size=sz)(hsz:0<sz)(hn:Nat.blt d n.n=true)(hL:Bd w0 O w)(hi:Dy O i=some (.row v e sz m xs))(hs:Src (hp w) sz u k news)(a:∀ c∈news,c.oneCell'=true)
  (hby:(m+k) * bt<=140737488355328/\m+k<=9223372036854775807)
  (h:∀ v' w',Bd w0 (CX O i (.row v' e sz (m+k) (xs++news))) w'->Le (fz w O) (fz w' (CX O i (.row v' e sz (m+k) (xs++news))))->S P n ops Q rest ((d,v')::L) w') :
  S P n ops Q (⟨some d,.call ⟨.builtin .append,#[x,y],#[t,t]⟩,ty,pos,af,none⟩::rest) L w:=by
 obtain⟨v',w',hr,hL',hle⟩:=WK (ty:=ty) ht hz hzs hsz hL hi hs a hby.1 hby.2;refine Du (v:=v') (w':=w') rfl rfl hn (fun ρ hρ=>?_) (h v' w' hL' hle);simp [execOp,resolve,invoke,builtin,hρ x _ hx,hρ y _ hy,hr]
theorem Lm[Dr]{w':World}{sz m:Nat}{xs:List Value}(hL:Bd w0 O w)(hx:Ext w w')(ho:w'.ownsRow w.heap.size e sz v m xs):Bd w0 (.row v e sz m xs::O) w'/\Le (fz w O) (fz w' (.row v e sz m xs::O)):=by
 have hb:∀ b,BS.block (.row v e sz m xs)=some b->w.heap.size<=b:=fun b hb=>(ho.lt b hb).1;exact⟨hL.new hx (Qd ho (fun _ _=>Nat.zero_le _)) hb,PF hL hx hb⟩
theorem Sd[Dr](hL:Bd w0 O w)(e:TypeId)(sz:Nat):Bd w0 (.row (.slice none 0 0) e sz 0 []::O) w/\Le (fz w O) (fz w (.row (.slice none 0 0) e sz 0 []::O)):=
 Lm hL (Ext.refl w) (World.ownsRow_nil w _ e sz)
theorem Ada[Dr]{bt m:Nat}{k k':IntKind}{zz:Value}{c c':Int}(hx:ev L x=some (.int k c))(hy:ev L y=some (.int k' c'))(hcc:c=m/\c'=m)(ht:P.underlying t=some (.slice e))(hz:Zr P e zz 1 bt)(hzc:zz.cells = #[zz])(hn:Nat.blt d n.n=true)(hL:Bd w0 O w)(hm:bt * m<=281474976710656/\m<=9223372036854775807)
  (h:∀ v' w',Ext w w'->Bd w0 (.row v' e 1 m (List.replicate m zz)::O) w'->Le (fz w O) (fz w' (.row v' e 1 m (List.replicate m zz)::O))->S P n ops Q rest ((d,v')::L) w') :
  S P n ops Q (⟨some d,.makeSlice t x y,ty,pos,af,none⟩::rest) L w:=by
 obtain⟨inf,a,b,f,g⟩:=hz.parts;obtain⟨rfl,rfl⟩:=hcc;obtain⟨w',hr,ho,hg⟩:=run_make_full (P:=P) w w.heap.size t e inf zz 1 ht a b f k k' m (by rw [g];exact hm.1) (by unfold maxLen;omega) (Nat.le_refl _);rw [hzc,Nat.mul_one,toList_madeCells_one] at ho;have hx':=On (OR _ _ _ _ hr) hg;obtain⟨i,h2⟩:=Lm hL hx' ho;exact Du rfl rfl hn (fun ρ hρ=>by simp [execOp,hρ x _ hx,hρ y _ hy,hr]) (h _ _ hx' i h2)
theorem Ac9[Dr]{ps:List (Nat×Operand)}{vs:List (Nat×Value)}{len sz:Nat}{cs:List Value}(hp':evp L ps=some vs)(hr:∀ w,(Instr.buildSlice t len vs.toArray).run P w=.ok (.slice (some ⟨w.heap.size,0,none⟩) len len) (w.alloc (.cells cs.toArray e)))(hc:cs.length=len * sz)(hlen:len<=9223372036854775807)(hn:Nat.blt d n.n=true)(hL:Bd w0 O w)
  (h:∀ u w',Ext w w'->Bd w0 O w'->Le (fz w O) (fz w' O)->Src (nw w w') sz u len cs->w'.ownsRow w.heap.size e sz u len cs->S P n ops Q rest ((d,u)::L) w') :
  S P n ops Q (⟨some d,.buildSlice t len ps.toArray,ty,pos,af,none⟩::rest) L w:=by
 have hx:=C8 w (.cells cs.toArray e);refine Du rfl rfl hn (fun ρ hρ=>?_) (h _ _ hx (hL.call hx) (AT hL hx) ⟨hc,some ⟨w.heap.size,0,none⟩,len,rfl,Nat.le_refl _,by unfold maxLen;omega,(fun e=>by cases e),fun A hA _=>?_⟩ ?_)
 ·have a:=hρ.Abx _ _ hp';have e':(ps.toArray.map fun(i,x)=>(i,ρ x))=vs.toArray:=by rw [<- a];simp
  simp [execOp,e',hr w,-List.map_toArray]
 ·cases hA
  refine⟨rfl,fun j u hu=>?_⟩;simp only [Addr.add_lit,Nat.zero_add,G9,nw,Nat.le_refl,if_true,heap_alloc_new]
  simpa using hu
 ·have:=World.ownsRow_lit (base:=w.heap.size) (e:=e) (size:=sz) w cs.toArray len (Nat.le_refl _) (by unfold maxLen;omega) (by simpa using hc)
  simpa using this
def Ot(v:Value)(k:Nat)(p:Addr):Prop:=v.ownBlock=some p.block/\p.off=k/\p.spot=none
theorem Zn[Dr](i:Nat){sz bt m:Nat}{zz:Value}{xs:List Value}{k:IntKind}{c:Int}(hx:ev L x=some v)(hy:ev L y=some (.int k c))(ht:P.underlying t=some (.slice e))(hz:Zr P e zz sz bt)(hL:Bd w0 O w)(hi:Dy O i=some (.row v e sz m xs))(j:Nat)(hj:c=(j:Int))(hlt:j<m):
  ∃ p,Ot v (j * sz) p/\∀ w,Bw P L w (.indexAddr t x y) ty (.pointer (some p)):=by
 obtain⟨inf,a,d,b,f⟩:=hz.parts;have hown:w.ownsRow 0 e sz v m xs:=hL.at hi
 rcases hown.2 with ⟨rfl,rfl⟩ | ⟨g,cp,cur,rfl,hbg,hg,hnc,hcm,hcs,htake⟩
 ·omega
 ·subst hj;refine⟨⟨g,j * sz,none⟩,⟨rfl,rfl,rfl⟩,fun w w' _ ρ hρ dst pos af gd=>?_⟩;have l:(0:Int)<=(j:Int)/\(j:Int)<(m:Int):=by omega
  simp [execOp,hρ x _ hx,hρ y _ hy,Instr.indexAt,asIntOf,run_underlying ht,sizeOf,typeInfo,a,b,hlt,Addr.add_lit]
theorem LB[Dr](i:Nat){sz bt m:Nat}{zz:Value}{xs:List Value}{k:IntKind}{c:Int}(hx:ev L x=some v)(hy:ev L y=some (.int k c))(ht:P.underlying t=some (.slice e))(hz:Zr P e zz sz bt)(hL:Bd w0 O w)(hi:Dy O i=some (.row v e sz m xs))(j:Nat)(hj:c=(j:Int))(hlt:j<m)(hn:Nat.blt d n.n=true)
  (h:∀ p,Ot v (j * sz) p->S P n ops Q rest ((d,.pointer (some p))::L) w):S P n ops Q (⟨some d,.indexAddr t x y,ty,pos,af,none⟩::rest) L w:=by
 obtain⟨p,a,h2⟩:=Zn (P:=P) (ty:=ty) i hx hy ht hz hL hi j hj hlt;exact Ag (h2 w) hn (h p a)
theorem Zo[Dr]{i sz m k:Nat}{xs:List Value}{p:Addr}{u:Value}{e':TypeId}(hL:Bd w0 O w)(hi:Dy O i=some (.row v e' sz m xs))(hp':Ot v k p)(hu:xs[k]? = some u):w.cell? p=some u:=by
 have hown:w.ownsRow 0 e' sz v m xs:=hL.at hi;obtain⟨a,h2,h3⟩:=hp';obtain⟨b,o,s⟩:=p;simp only at a h2 h3;subst h2;subst h3;have hc:=hown.cells a o u hu
 rwa [Addr.add_lit,Nat.zero_add] at hc
theorem Zp[Dr](i:Nat){sz bt m k:Nat}{zz u:Value}{xs:List Value}{p:Addr}{e':TypeId}(hx:ev L x=some (.pointer (some p)))(hy:ev L y=some u)(hv:u.oneCell'=true)(hz:Zr P t zz 1 bt)(hL:Bd w0 O w)(hi:Dy O i=some (.row v e' sz m xs))(hp':Ot v k p)(hlt:k<xs.length)
  (h:∀ w',Bd w0 (CX O i (.row v e' sz m (xs.set k u))) w'->Le (fz w O) (fz w' (CX O i (.row v e' sz m (xs.set k u))))->S P n ops Q rest L w'):S P n ops Q (⟨none,.store t x y,ty,pos,af,none⟩::rest) L w:=by
 obtain⟨inf,c,f,d,j⟩:=hz.parts;have hown:w.ownsRow 0 e' sz v m xs:=hL.at hi;have hcell:=Zo hL hi hp' (List.getElem?_eq_getElem hlt);obtain⟨a,h2,h3⟩:=hp';obtain⟨b,o,s⟩:=p;simp only at a h2 h3;subst h2;subst h3
 rcases hown.2 with ⟨rfl,rfl⟩ | ⟨g,cp,cur,rfl,hbg,hg,hnc,hcm,hcs,htake⟩
 ·simp [Value.ownBlock] at a
 ·simp only [Value.ownBlock,Option.some.injEq] at a;subst a;have hst:=hown.stored o u;have hfz:w.frozen? ⟨g,o,none⟩=false:=hown.frozenAt o;have hvc:u.cells = #[u]:=by cases u <;> simp_all [Value.cells,Value.oneCell']
  refine MR (w':=w.setCell ⟨g,o,none⟩ u) rfl rfl (fun ρ hρ=>by
   simp [execOp,hρ x _ hx,hρ y _ hy,Instr.storeAt,Instr.sureAddr,storeVar,sizeOf,typeInfo,c,d,hvc,storeCells,run_store,hv,Addr.add_zero',hcell,hfz]) ?_
  exact h _ (hL.MC hi (by rw [drawn_setCell];exact Nat.le_refl _) hst.2 hst.1 (fun b e=>.inl e)) (HK (r':=.row (.slice (some ⟨g,0,none⟩) m cp) e' sz m (xs.set o u)) hL hi hst.2 (fun b e=>.inl e))
theorem Bd.AeE[Dr]{i:Nat}{l:List α}{xs:List Value}{e':TypeId}(hL:Bd w0 O w)(hi:Dy O i=some (.row v e' r.sz l.length xs))(he:AJ r (fz w O) l xs):AI r (hp w) v l:=
 Nv (hL.at hi) he (X1 w O) (fun _k _ _o ho=>ho)
theorem Own.take[Dr]{w':World}{l:List α}(hL:Bd w0 O w)(hx:Ext w w')(h:Own e r w w' v l):∃ xs,Bd w0 (.row v e r.sz l.length xs::O) w'/\Le (fz w O) (fz w' (.row v e r.sz l.length xs::O))/\AJ r (fz w' (.row v e r.sz l.length xs::O)) l xs:=by
 obtain⟨xs,a,h2⟩:=h;obtain⟨h3,b⟩:=Lm hL hx a;exact⟨xs,h3,b,h2.mono (VC hL)⟩
end
theorem row_one{w:World}{v:Value}{e:TypeId}{sz n:Nat}{xs:List Value}(h:BS.ok w (.row v e sz n xs)):v.oneCell'=true:=by
 obtain⟨a,c,rfl⟩:=LA (b:=0) h;rfl
theorem Zq{α:Type}{r:Rp α}{f:α->Value}(hf:∀ H x c,r.rel H x c->c=[f x]){H:PH}{l:List α}{xs:List Value}(h:AJ r H l xs):xs=l.map f:=by
 induction h with
 | nil=>rfl
 | cons h _ ih=>rw [hf _ _ _ h,ih];rfl
def bv(b:UInt8):Value:=.int .u8 (b.toNat:Int)
theorem VL{H:PH}{l:List UInt8}{xs:List Value}(h:AJ Rp.byte H l xs):xs=l.map bv:=Zq (fun _ _ _ h=>h) h
def nf(w0 w:World)(O:List BS):PH:=fun b=>if w0.heap.size<=b then fz w O b else none
theorem Aby{w0 w w':World}{O O':List BS}(h:Le (fz w O) (fz w' O')):Le (nf w0 w O) (nf w0 w' O'):=fun b o e=>by
 unfold nf at e ⊢
 split at e
 ·rename_i hb;rw [if_pos hb];exact h b o e
 ·cases e
theorem AcA{w0 w:World}{O:List BS}:Le (nf w0 w O) (fz w O):=fun b o e=>by
 unfold nf at e
 split at e
 ·exact e
 ·cases e
theorem AcB{w0 w:World}{O:List BS}:Le (nf w0 w O) (nw w0 w):=fun b o e=>by
 unfold nf at e
 split at e
 ·rename_i hb;unfold nw;rw [if_pos hb];exact X1 w O b o e
 ·cases e
theorem Aeb[Dr]{w0 w w':World}{O:List BS}(h:Bd w0 O w):Le (nw w w') (nf w0 w' O):=fun b o e=>by
 have a:=Ac6 (w':=w') h b o e;unfold nw at e
 split at e
 ·rename_i hb;unfold nf;rw [if_pos (Nat.le_trans h.ext.size hb)];exact a
 ·cases e
theorem Adb{w0 w:World}{O:List BS}{i:Nat}{v:Value}{e:TypeId}{sz n:Nat}{xs:List Value}(hi:Dy O i=some (.row v e sz n xs)):Le (nf w0 w O) (P0 w0 w v):=fun b o h=>by
 have a:=AcB b o h;have h2:=AcA b o h;unfold P0;rw [if_neg]
 ·exact a
 ·intro hb;unfold fz at h2;rw [if_pos (CZ.2 ⟨_,(D1 hi).mem_iff.2 (.head _),hb⟩)] at h2
  cases h2
theorem EB(b:UInt8):IntKind.i64.wrap (b.toNat:Int)=(b.toNat:Int):=by
 have:=b.toNat_lt;exact wrap64 (by omega) (by omega)
section
variable {P:Program} {n:Sz} {ops:Array Oper} {Q:Exit->Act->World->Prop} {L:Env} {w w0:World} {O:List BS} {rest:List Oper}
 {d:Nat} {ty:TypeId} {pos:String} {af:Array Edge} {α:Type} {r:Rp α} {H:PH} {x y:Operand} {v:Value} {t t' e:TypeId}
theorem Abz[Dr]{op:BinOp}{k:IntKind}{a b c s:Int}(hx:ev L x=some (.int k a))(hy:ev L y=some (.int k b))(ho:arI op a b=some c)(hw:k.wrap c=s):Bw P L w (.binOp op t x y t') ty (.int k s):=by
 intro w' _ ρ hρ dst pos af g;subst hw
 cases op <;> simp only [arI,Option.some.injEq,reduceCtorEq] at ho <;> subst ho <;>
  simp [execOp,hρ x _ hx,hρ y _ hy,eqGuard,binOp,Op.intArith]
theorem Adc[Dr]{op:BinOp}{a b c:Int}(hx:ev L x=some (.int .i64 a))(hy:ev L y=some (.int .i64 b))(ho:arI op a b=some c)(d : -9223372036854775808<=c/\c<=9223372036854775807):Bw P L w (.binOp op t x y t') ty (.int .i64 c):=
 Abz hx hy ho (wrap64 d.1 d.2)
theorem A1[Dr]{op:BinOp}{a b c:Int}(hq:(ev L x,ev L y,arI op a b)=(some (.int .i64 a),some (.int .i64 b),some c))(d : -9223372036854775808<=c/\c<=9223372036854775807):Bw P L w (.binOp op t x y t') ty (.int .i64 c):=by
 simp only [Prod.mk.injEq] at hq;exact Adc hq.1 hq.2.1 hq.2.2 d
theorem Aec[Dr]{a b:Int}(hx:ev L x=some (.int .i64 a))(hy:ev L y=some (.int .i64 b))(c:0<=a/\a<=9223372036854775807/\0<b):Bw P L w (.binOp .quo t x y t') ty (.int .i64 (a / b)):=by
 intro w' _ ρ hρ dst pos af g;have hb:b≠0:=by omega
 have⟨d,e⟩:=Abo c.1 c.2.2;simp [execOp,hρ x _ hx,hρ y _ hy,eqGuard,binOp,Op.intDiv,hb,Zi c.1,wrap64 (x:=a / b) (by omega) (by omega)]
theorem Aed[Dr]{a b:Int}{k:IntKind}(hx:ev L x=some (.int k a))(hy:ev L y=some (.int k b))(c:0<=a/\0<b):Bw P L w (.binOp .rem t x y t') ty (.int k (a % b)):=by
 intro w' _ ρ hρ dst pos af g;have hb:b≠0:=by omega
 simp [execOp,hρ x _ hx,hρ y _ hy,eqGuard,binOp,Op.intDiv,hb,Zj c.1]
theorem DE[Dr]{k k':IntKind}{a s:Int}{u:TypeDesc}(hs:P.underlying t=some u)(ht:P.underlying t'=some (.int k))(hx:ev L x=some (.int k' a))(hw:k.wrap a=s):Bw P L w (.convert t t' x) ty (.int k s):=by
 intro w' _ ρ hρ dst pos af g;subst hw;simp [execOp,hρ x _ hx,convert,run_underlying hs,run_underlying ht,Conv.intToInt]
def Aee:BinOp->UInt8->UInt8->Option UInt8
 | .xor,a,b=>some (a ^^^ b)
 | .and,a,b=>some (a &&& b)
 | .or,a,b=>some (a ||| b)
 | _,_,_=>none
theorem ofInt8(a:UInt8):BitVec.ofInt 8 (a.toNat:Int)=a.toBitVec:=by
 apply BitVec.eq_of_toNat_eq;have:=a.toNat_lt;simp
theorem Ade[Dr]{op:BinOp}{a b c:UInt8}(hx:ev L x=some (.int .u8 (a.toNat:Int)))(hy:ev L y=some (.int .u8 (b.toNat:Int)))(ho:Aee op a b=some c):Bw P L w (.binOp op t x y t') ty (.int .u8 (c.toNat:Int)):=by
 intro w' _ ρ hρ dst pos af g;have hc:=c.toNat_lt
 cases op <;> simp only [Aee,Option.some.injEq,reduceCtorEq] at ho <;> subst ho
 ·have e:(Op.intBits .and .u8 (a.toNat:Int) (b.toNat:Int)).run P w'=.ok (.int .u8 ((a &&& b).toNat:Int)) w':=by
   show Result.ok (Value.int .u8 (IntKind.u8.wrap ((BitVec.ofInt 8 (a.toNat:Int) &&& BitVec.ofInt 8 (b.toNat:Int)).toNat:Int))) w'=_
   rw [ofInt8,ofInt8,show(a.toBitVec &&& b.toBitVec).toNat=(a &&& b).toNat from rfl,WJ (by omega) (by omega)]
  simp only [execOp,hρ x _ hx,hρ y _ hy,eqGuard,binOp,Sem.run_bind,ne_eq,not_true_eq_false,if_false,Bool.not_false,if_true,Sem.run_pure,Result.andThen_ok,e]
 ·have e:(Op.intBits .or .u8 (a.toNat:Int) (b.toNat:Int)).run P w'=.ok (.int .u8 ((a ||| b).toNat:Int)) w':=by
   show Result.ok (Value.int .u8 (IntKind.u8.wrap ((BitVec.ofInt 8 (a.toNat:Int) ||| BitVec.ofInt 8 (b.toNat:Int)).toNat:Int))) w'=_
   rw [ofInt8,ofInt8,show(a.toBitVec ||| b.toBitVec).toNat=(a ||| b).toNat from rfl,WJ (by omega) (by omega)]
  simp only [execOp,hρ x _ hx,hρ y _ hy,eqGuard,binOp,Sem.run_bind,ne_eq,not_true_eq_false,if_false,Bool.not_false,if_true,Sem.run_pure,Result.andThen_ok,e]
 ·have e:(Op.intBits .xor .u8 (a.toNat:Int) (b.toNat:Int)).run P w'=.ok (.int .u8 ((a ^^^ b).toNat:Int)) w':=by
   show Result.ok (Value.int .u8 (IntKind.u8.wrap ((BitVec.ofInt 8 (a.toNat:Int) ^^^ BitVec.ofInt 8 (b.toNat:Int)).toNat:Int))) w'=_
   rw [ofInt8,ofInt8,show(a.toBitVec ^^^ b.toBitVec).toNat=(a ^^^ b).toNat from rfl,WJ (by omega) (by omega)]
  simp only [execOp,hρ x _ hx,hρ y _ hy,eqGuard,binOp,Sem.run_bind,ne_eq,not_true_eq_false,if_false,Bool.not_false,if_true,Sem.run_pure,Result.andThen_ok,e]
def Zs:BinOp->Nat->Nat->Option Nat
 | .xor,a,b=>some (a ^^^ b)
 | .and,a,b=>some (a &&& b)
 | .or,a,b=>some (a ||| b)
 | _,_,_=>none
theorem Ab0[Dr]{op:BinOp}{a b c:Nat}{p q:Int}(hx:ev L x=some (.int .i64 p))(hy:ev L y=some (.int .i64 q))(hpa:p=a)(hqb:q=b)(ho:Zs op a b=some c)(ha:a<2 ^ 63)(hb:b<2 ^ 63):Bw P L w (.binOp op t x y t') ty (.int .i64 (c:Int)):=by
 intro w' _ ρ hρ dst pos af g;subst hpa;subst hqb;have ea:(BitVec.ofInt 64 (a:Int)).toNat=a:=by simp;omega
 have eb:(BitVec.ofInt 64 (b:Int)).toNat=b:=by simp;omega
 cases op <;> simp only [Zs,Option.some.injEq,reduceCtorEq] at ho <;> subst ho
 ·have hlt:a &&& b<2 ^ 63:=Nat.and_lt_two_pow _ hb
  have e:(Op.intBits .and .i64 (a:Int) (b:Int)).run P w'=.ok (.int .i64 ((a &&& b:Nat):Int)) w':=by
   show Result.ok (Value.int .i64 (IntKind.i64.wrap ((BitVec.ofInt 64 (a:Int) &&& BitVec.ofInt 64 (b:Int)).toNat:Int))) w'=_
   rw [BitVec.toNat_and,ea,eb,wrap64 (by omega) (by omega)]
  simp only [execOp,hρ x _ hx,hρ y _ hy,eqGuard,binOp,Sem.run_bind,ne_eq,not_true_eq_false,if_false,Bool.not_false,if_true,Sem.run_pure,Result.andThen_ok,e]
 ·have hlt:a ||| b<2 ^ 63:=Nat.or_lt_two_pow ha hb
  have e:(Op.intBits .or .i64 (a:Int) (b:Int)).run P w'=.ok (.int .i64 ((a ||| b:Nat):Int)) w':=by
   show Result.ok (Value.int .i64 (IntKind.i64.wrap ((BitVec.ofInt 64 (a:Int) ||| BitVec.ofInt 64 (b:Int)).toNat:Int))) w'=_
   rw [BitVec.toNat_or,ea,eb,wrap64 (by omega) (by omega)]
  simp only [execOp,hρ x _ hx,hρ y _ hy,eqGuard,binOp,Sem.run_bind,ne_eq,not_true_eq_false,if_false,Bool.not_false,if_true,Sem.run_pure,Result.andThen_ok,e]
 ·have hlt:a ^^^ b<2 ^ 63:=Nat.xor_lt_two_pow ha hb
  have e:(Op.intBits .xor .i64 (a:Int) (b:Int)).run P w'=.ok (.int .i64 ((a ^^^ b:Nat):Int)) w':=by
   show Result.ok (Value.int .i64 (IntKind.i64.wrap ((BitVec.ofInt 64 (a:Int) ^^^ BitVec.ofInt 64 (b:Int)).toNat:Int))) w'=_
   rw [BitVec.toNat_xor,ea,eb,wrap64 (by omega) (by omega)]
  simp only [execOp,hρ x _ hx,hρ y _ hy,eqGuard,binOp,Sem.run_bind,ne_eq,not_true_eq_false,if_false,Bool.not_false,if_true,Sem.run_pure,Result.andThen_ok,e]
theorem AcC[Dr]{k k':IntKind}{a s m:Int}{c:Nat}(hx:ev L x=some (.int k a))(hy:ev L y=some (.int k' (c:Int)))(hm:(2:Int) ^ c=m)(hc:c<=k.bits)(hw:k.wrap (a * m)=s):Bw P L w (.binOp .shl t x y t') ty (.int k s):=by
 intro w' _ ρ hρ dst pos af g;subst hm;subst hw;have : ¬ ((c:Int)<0):=by omega
 simp [execOp,hρ x _ hx,hρ y _ hy,eqGuard,binOp,Op.shift,this,Nat.min_eq_left hc]
theorem TZ[Dr]{k k':IntKind}{a m:Int}{c:Nat}(hx:ev L x=some (.int k a))(hy:ev L y=some (.int k' (c:Int)))(hm:(2:Int) ^ c=m)(hc:c<=k.bits):Bw P L w (.binOp .shr t x y t') ty (.int k (a / m)):=by
 intro w' _ ρ hρ dst pos af g;subst hm;have : ¬ ((c:Int)<0):=by omega
 have e:a.fdiv (2 ^ c)=a / 2 ^ c:=Int.fdiv_eq_ediv_of_nonneg a (by exact Int.le_of_lt (Int.pow_pos (by decide)));simp [execOp,hρ x _ hx,hρ y _ hy,eqGuard,binOp,Op.shift,this,Nat.min_eq_left hc,e]
theorem X8[Dr]{xs ys:Array Value}{q:Bool}(hx:ev L x=some (.agg xs))(hy:ev L y=some (.agg ys))(hg:P.eqGuardType P.depth t=false)(he:∀ w,(Op.equalIn 10000 t (.agg xs) (.agg ys)).run P w=.ok q w):Bw P L w (.binOp .eql t x y t') ty (.bool q):=by
 intro w' _ ρ hρ dst pos af g;simp [execOp,hρ x _ hx,hρ y _ hy,run_eqGuard_agg w' .eql t x y xs ys hg,run_eql_struct,he w']
theorem Lh[Dr]{xs ys:Array Value}{q:Bool}(hx:ev L x=some (.agg xs))(hy:ev L y=some (.agg ys))(hg:P.eqGuardType P.depth t=false)(he:∀ w,(Op.equalIn 10000 t (.agg xs) (.agg ys)).run P w=.ok q w):Bw P L w (.binOp .neq t x y t') ty (.bool (!q)):=by
 intro w' _ ρ hρ dst pos af g;simp [execOp,hρ x _ hx,hρ y _ hy,run_eqGuard_agg w' .neq t x y xs ys hg,run_neq_struct,he w']
theorem Adf {f0 f1 : Field} {d f : IntKind} (ht : P.underlying t = some (.struct (P.fieldsOf t))) (hp : P.stoodInHeld t = false) (hf : (P.fieldsOf t).toList = [f0, f1]) (g : f0.name ≠ "_" /\ f0.offset = 0) (h : f1.name ≠ "_" /\ f1.offset = 1)
  (i:P.underlying f0.type=some (.int d)) (j:P.underlying f1.type=some (.int f)) (a b c e:Int) (w:World) :
  (Op.equalIn 10000 t (.agg #[.int d a,.int f b]) (.agg #[.int d c,.int f e])).run P w=.ok (decide (a=c/\b=e)) w:=by
 rw [run_equalIn_struct w 9999 t _ _ ht hp,hf]
 have key:∀ dd:Nat,(Op.eqFields (dd+1) #[.int d a,.int f b] #[.int d c,.int f e] [f0,f1]).run P w=.ok (decide (a=c/\b=e)) w:=by
  intro dd
  by_cases k:a=c <;> by_cases l:b=e <;>
   simp [Op.eqFields,g.1,h.1,g.2,h.2,part,isAgg,run_underlying i,run_underlying j,run_equalIn_int w dd _ _ _ _ _ i,run_equalIn_int w dd _ _ _ _ _ j,k,l]
 exact key 9998
theorem foldl_push:∀ (l:List UInt8) (s:ByteArray),(l.map (fun b=>((b.toNat:Nat):Int))).foldl (fun r n=>r.push (UInt8.ofNat n.toNat)) s=⟨s.data++l.toArray⟩
 | [],s=>by simp
 | b::l,s=>by
  rw [List.map_cons,List.foldl_cons,foldl_push l];simp [ByteArray.push]
theorem KJ[Dr]{l:List UInt8}(hx:ev L x=some v)(ht:P.underlying t=some (.slice e))(he:P.underlying e=some (.int .u8))(ht':P.underlying t'=some .string)(hv:AI .byte H v l)(hs:Le H (hp w)):Bw P L w (.convert t t' x) ty (.string ⟨l.toArray⟩):=by
 intro w' hw ρ hρ dst pos af g;obtain⟨news,c,d⟩:=hv.elems;obtain rfl:=VL c;obtain⟨k,a,cap,rfl,h3,m,f,i⟩:=d
 cases a with
 | none=>
  have:l.length=0:=by have:=f rfl;omega
  have:l=[]:=List.eq_nil_of_length_eq_zero this;subst this;simp [execOp,hρ x _ hx,run_convert_bytes_string w' t t' e none _ cap ht he ht',Conv.bytesToString]
  rfl
 | some A=>
  have hload:(loadCells A l.length).run P w'=.ok ((l.map (fun b=>((b.toNat:Nat):Int))).map (Value.int .u8)).toArray w':=by
   by_cases hl:l.length=0
   ·have:l=[]:=List.eq_nil_of_length_eq_zero hl;subst this;simp [loadCells,loadCellsFrom]
   ·have:=run_loadCellsFrom (P:=P) (p:=A) w' l.length 0 (l.map bv) #[] (by simp) (fun j u hu=>by rw [Nat.zero_add];exact cell_of (hs.ext hw) ((i A rfl hl).2 j u hu));unfold loadCells;rw [this];simp [bv,Function.comp_def]
  have hb:=run_bytesToString w' A l.length cap _ hload;rw [foldl_push] at hb;simp [execOp,hρ x _ hx,run_convert_bytes_string w' t t' e (some A) _ cap ht he ht',hb]
theorem Mm[Dr]{l m:List UInt8}(hx:ev L x=some (.string ⟨l.toArray⟩))(hy:ev L y=some (.string ⟨m.toArray⟩)):Bw P L w (.binOp .eql t x y t') ty (.bool (decide (l=m))):=by
 intro w' _ ρ hρ dst pos af g;have e:(l==m)=decide (l=m):=by rw [Bool.eq_iff_iff];simp
 simp [execOp,hρ x _ hx,hρ y _ hy,eqGuard,binOp,Op.stringOp,e]
theorem Yr{f:FuncId}{args:List Operand}{vs:List Value}{at_:Array TypeId}{dst:Option Tmp}{cap:List Value}{fo:Operand}(hc:Ip P f)(hf:ev L fo=some (.func (.func f) #[] cap.toArray))(ha:Qb L args=some vs)(ρ:Operand->Value)(hρ:WG L ρ):
  (execOp ρ ⟨dst,.call ⟨.value fo,args.toArray,at_⟩,ty,pos,af,none⟩).run P w=.ok (.enter f (vs++cap).toArray) w:=by
 obtain ⟨fn, c, a, h2, h3⟩ := hc;have b := hρ.map _ _ ha;have h2' : ¬ fn.name = "runtime.NumGoroutine" := by simpa using h2
 simp [execOp,resolve,hρ fo _ hf,Deferred.ofValue,b,invoke,callFunc,a,h2',h3]
theorem Ep{f:FuncId}{args:List Operand}{vs:List Value}{at_:Array TypeId}{cap:List Value}{fo:Operand}{R:Value->World->Prop}(hf:ev L fo=some (.func (.func f) #[] cap.toArray))(ha:Qb L args=some vs)(hn:Nat.blt d n.n=true)(hok:Ok P f (vs++cap) w R)
  (h:∀ v w',R v w'->S P n ops Q rest ((d,v)::L) w'):S P n ops Q (⟨some d,.call ⟨.value fo,args.toArray,at_⟩,ty,pos,af,none⟩::rest) L w:=
 QI rfl fun a fr=>by
  unfold Oper.wp;rw [Yr hok.1 hf ha _ fr.RC];refine hok.2.mono fun e w' ⟨v,he,hv⟩=>?_;subst he;exact h v w' hv _ (fr.put hn)
inductive Got (P:Program) (L:Env) (w:World):ResultVar->Value->Prop
 | tmp {t:Nat} {v:Value} (h:gt L t=some v):Got P L w (.tmp t) v
 | cell {s t:Nat} {b:Nat} {cs:List Value} {zz:Value} {bt:Nat} {dd:TypeDesc} (h:gt L s=some (.pointer (some ⟨b,0,none⟩))) (ht:P.underlying t=some dd) (hd:VJ dd=true) (hz:Zr P t zz cs.length bt) (hp':Hi (hp w) ⟨b,0,none⟩ cs):Got P L w (.cell s t) (.agg cs.toArray)
def UB(tmps:Array Value):ResultVar->Sem Value
 | .tmp t=>pure (tmps.getD t undef)
 | .cell a t=>do loadVar t (<- asAddr (tmps.getD a undef))
theorem PK(fn:Func)(tmps:Array Value):results fn tmps=(do let vs <- fn.results.mapM (UB tmps);pure (if h:vs.size=1 then vs[0] else .tuple vs)):=by
 unfold results
 congr 1
theorem Got.run{a:Act}{q:ResultVar}(fr:Fr n a L)(h:Got P L w q v):(UB a.tmps q).run P w=.ok v w:=by
 cases h with
 | tmp h=>have:=fr.get _ _ h;simp [UB,Array.getD_eq_getD_getElem?,this]
 | cell h ht hd hz hp'=>
  rename_i s t b cs zz bt dd;have:=fr.get _ _ h;obtain⟨inf,c,e,d,f⟩:=hz.parts;have hload:=run_loadCellsFrom (P:=P) (p:=⟨b,0,none⟩) w cs.length 0 cs #[] rfl (fun j u hu=>by rw [Nat.zero_add];exact hp'.2 j u hu)
  cases dd <;> simp only [VJ,Bool.false_eq_true] at hd <;>
   simp [UB,Array.getD_eq_getD_getElem?,this,asAddr,loadVar,isAgg,run_underlying ht,loadCells,sizeOf,typeInfo,c,d,hload]
theorem BH{k₀:Nat}{fn:Func}{R:Value->World->Prop}{q:ResultVar}(hl:fn.results = #[q])(h:Got P L w q v)(hR:R v w):At ⟨k₀,[]⟩ (Mk P fn R) .ret L w:=
 fun a fr=>⟨fr.defers,v,by rw [PK,hl];simp [h.run fr],v,rfl,hR⟩
theorem Bz{k₀:Nat}{fn:Func}{R:Value->World->Prop}{q q':ResultVar}{v':Value}(hl:fn.results = #[q,q'])(h:Got P L w q v)(h':Got P L w q' v')(hR:R (.tuple #[v,v']) w):At ⟨k₀,[]⟩ (Mk P fn R) .ret L w:=
 fun a fr=>⟨fr.defers,_,by rw [PK,hl];simp [h.run fr,h'.run fr],_,rfl,hR⟩
theorem Ab2{k₀:Nat}{fn:Func}{R:Value->World->Prop}(hl:fn.results = #[])(hR:R (.tuple #[]) w):At ⟨k₀,[]⟩ (Mk P fn R) .ret L w:=
 fun _a fr=>⟨fr.defers,_,results_none hl _ _ _,_,rfl,hR⟩
theorem JO{k₀:Nat}{fn:Func}{R:Value->World->Prop}(hl:fn.results = #[])(hR:R (.tuple #[]) w):At ⟨k₀,[]⟩ (Mk P fn R) .normal L w:=
 fun _a fr=>⟨fr.defers,_,results_none hl _ _ _,_,rfl,hR⟩
end
end Go.E
namespace Go.E
open Go Go.RowKit
def NN(n:Nat)(done:List Nat):Array Bool:=done.foldr (fun i a=>a.setIfInBounds i true) (Array.replicate n false)
section
variable {P:Program} {n:Sz} {l:List Oper} {Q:Exit->Act->World->Prop} {L:Env} {w:World} {y:Code} {fuel:Nat} {m:Nat} {done:List Nat}
theorem Ys{i:Nat}{o:Oper}{K:Act->World->Prop}{a:Act}(ho:HR l i=some o)(h:wpList P l.toArray (Exit.then K Q) [o] a w)(_hQ:∀ e a w,e≠.normal->Exit.then K Q e a w->Q e a w):wpOp P l.toArray Q i K a w:=by
 have ho':l.toArray[i]? = some o:=by rw [Fg] at ho;simpa using ho
 unfold wpOp;simp only [ho'];simp only [wpList] at h
 split
 ·rename_i hw;rw [if_pos hw] at h
  rcases h with h | ⟨b,h2⟩
  ·left
   unfold Oper.wp at h ⊢;generalize (execOp a.eval o).run P w=r at h ⊢
   cases r with
   | ok nx w'=>
    cases nx <;> simp only [Oper.upon] at h ⊢
    case value v=>exact h
    case skip=>exact h
    case defer=>exact h
    case enter f args=>
     exact h.mono fun e w'' he=>by
      cases e with
      | returned v=>exact he
      | panicked ch=>exact he
      | outgrown=>exact he
    case row=>exact h
   | halt hh w'=>cases hh <;> simp only [Oper.upon] at h ⊢ <;> exact h
  ·exact .inr ⟨b,h2⟩
 ·rename_i hw;rw [if_neg hw] at h;exact h
end
section
variable {P:Program} {n:Sz} {lo:List Oper} {Q:Exit->Act->World->Prop} {L:Env} {w w0:World} {O:List BS} {tr:Tr} {ix:Nat}
 {d:Nat} {ty:TypeId} {pos:String} {af:Array Edge} {α:Type} {r:Rp α} {x y:Operand} {v:Value} {t e:TypeId}
theorem Adg[Dr]{bt m:Nat}{k k':IntKind}{zz:Value}{c c':Int}(ho:HR lo ix=some ⟨some d,.makeSlice t x y,ty,pos,af,none⟩)(hx:ev L x=some (.int k c))(hy:ev L y=some (.int k' c'))(hcc:c=m/\c'=m)(ht:P.underlying t=some (.slice e))(hz:Zr P e zz 1 bt)(hzc:zz.cells = #[zz])(hn:Nat.blt d n.n=true)(hL:Bd w0 O w)(hm:bt * m<=281474976710656/\m<=9223372036854775807)
  (h:∀ v' w',Ext w w'->Bd w0 (.row v' e 1 m (List.replicate m zz)::O) w'->Le (fz w O) (fz w' (.row v' e 1 m (List.replicate m zz)::O))->D P n lo Q tr ((d,v')::L) w'):D P n lo Q (.h ix tr) L w:=by
 obtain⟨inf,g,i,j,l⟩:=hz.parts;obtain⟨rfl,rfl⟩:=hcc;refine X4 (R:=fun b v' w'=>w'.ownsRow b.heap.size e 1 v' m (List.replicate m zz)) ho hn (fun b a ρ hρ=>?_) (fun b v' w' a f hR=>?_)
 ·obtain⟨w',hr,ho',hg⟩:=run_make_full (P:=P) b b.heap.size t e inf zz 1 ht g i j k k' m (by rw [l];exact hm.1) (by unfold maxLen;omega) (Nat.le_refl _);rw [hzc,Nat.mul_one,toList_madeCells_one] at ho';exact⟨_,w',by simp [execOp,hρ x _ hx,hρ y _ hy,hr],On (OR _ _ _ _ hr) hg,ho'⟩
 ·obtain⟨o,h2⟩:=Lm (hL.call a) f hR;exact h v' w' (a.trans f) o ((AT hL a).trans h2)
theorem Le.mono{A B C:PH}(h:Le A B)(k:Le B C):Le A C:=h.trans k
theorem Bd.pick[Dr]{i:Nat}{q:BS}(h:Bd w0 O w)(hi:Dy O i=some q):Bd w0 (q::L9 O i) w:=h.perm (D1 hi).symm
end
end Go.E
namespace Go.E
open Go Go.RowKit
section
variable {P:Program} {L:Env} {w:World} {x y:Operand} {ty t t':TypeId}
theorem Aef[Dr]{a b:Int}(hx:ev L x=some (.int .i64 a))(hy:ev L y=some (.int .i64 b)):Bw P L w (.call ⟨.builtin .max,#[x,y],#[t,t']⟩) ty (.int .i64 (max a b)):=by
 intro w' _ ρ hρ dst pos af g;simp [execOp,resolve,hρ x _ hx,hρ y _ hy,invoke,builtin,Builtin.max_,Builtin.max2]
 by_cases h:a<b
 ·simp [h,show max a b=b by omega]
 ·simp [h,show max a b=a by omega]
end
def un(A B:PH):PH:=fun b=>match B b with
 | some o=>some o
 | none=>A b
theorem S5{A B C:PH}(hA:Le A C)(hB:Le B C):Le (un A B) C:=fun b o e=>by
 unfold un at e
 cases h:B b with
 | some o'=>rw [h] at e;cases e;exact hB b o h
 | none=>rw [h] at e;exact hA b o e
theorem Gl{A B:PH}:Le B (un A B):=fun b o e=>by unfold un;rw [e]
theorem Ks{w w':World}{A:PH}(hA:Le A (hp w)):Le A (un A (nw w w')):=fun b o e=>by
 have hb:b<w.heap.size:=lt_of_heap (hA b o e);unfold un nw;rw [if_neg (by omega)];exact e
end Go.E
end
noncomputable section
namespace Go.L
abbrev B0(x:Int):Prop:=-9223372036854775808<=x/\x<=9223372036854775807
def AS{α:Type}(p:Prop)[Decidable p](k:Option α):Option α:=if p then k else none
theorem EY{α:Type}{p:Prop}[Decidable p]{k:Option α}{e:α}(h:AS p k=some e):p/\k=some e:=by
 unfold AS at h
 split at h
 ·rename_i hp;exact⟨hp,h⟩
 ·cases h
theorem Al{α:Type}{p:Prop}[Decidable p]{k:Option α}(h:p):AS p k=k:=by unfold AS;rw [if_pos h]
theorem bind_some{α β:Type}{m:Option α}{f:α->Option β}{e:β}(h:m.bind f=some e):∃ x,m=some x/\f x=some e:=Option.bind_eq_some_iff.1 h
theorem Az{α:Type}{p G:Prop}[Decidable p]{k:Option α}{e:α}(h:AS p k=some e)(f:p->k=some e->G):G:=f (EY h).1 (EY h).2
theorem Ay{α β:Type}{G:Prop}{m:Option α}{f:α->Option β}{e:β}(h:m.bind f=some e)(k:∀ x,m=some x->f x=some e->G):G:=by
 obtain⟨x,a,h2⟩:=bind_some h;exact k x a h2
theorem HA{α:Type}{b:Bool}{x y:Option α}{e:α}(hb:b=true)(h:(if b then x else y)=some e):x=some e:=by rw [if_pos hb] at h;exact h
theorem HB{α:Type}{b:Bool}{x y:Option α}{e:α}(hb:b=false)(h:(if b then x else y)=some e):y=some e:=by rw [if_neg (by rw [hb];decide)] at h;exact h
theorem BI{α:Type}{p:Prop}[Decidable p]{x y:Option α}{e:α}(hb:p)(h:(if p then x else y)=some e):x=some e:=by rw [if_pos hb] at h;exact h
theorem BJ{α:Type}{p:Prop}[Decidable p]{x y:Option α}{e:α}(hb : ¬ p)(h:(if p then x else y)=some e):y=some e:=by rw [if_neg hb] at h;exact h
section
variable {σ ρ:Type}
def F6(b:σ->Option (σ ⊕ ρ)):Nat->σ->Option ρ
 | 0,_=>none
 | n+1,s=>(b s).bind fun e=>match e with | .inl s'=>F6 b n s' | .inr r=>some r
def BP(b:σ->Option (σ ⊕ ρ))(n:Nat)(r:ρ):σ ⊕ ρ->Prop
 | .inl s=>F6 b n s=some r
 | .inr x=>x=r
theorem AY{b:σ->Option (σ ⊕ ρ)}{n:Nat}{s:σ}{r:ρ}(h:F6 b n s=some r):∃ m e,n=m+1/\b s=some e/\BP b m r e:=by
 cases n with
 | zero=>cases h
 | succ m=>
  obtain⟨e,a,h2⟩:=Option.bind_eq_some_iff.1 h;refine⟨m,e,rfl,a,?_⟩
  cases e with
  | inl s'=>exact h2
  | inr x=>exact Option.some.inj h2
theorem BP.out{b:σ->Option (σ ⊕ ρ)}{n:Nat}{r:ρ}{e:σ ⊕ ρ}{m:Option ρ}(h:m.map Sum.inr=some e)(hm:BP b n r e):m=some r:=by
 cases m with
 | none=>cases h
 | some x=>cases h;exact congrArg some hm
theorem BP.again{b:σ->Option (σ ⊕ ρ)}{n:Nat}{r:ρ}{e:σ ⊕ ρ}{s:σ}(h:some (Sum.inl s)=some e)(hm:BP b n r e):F6 b n s=some r:=by cases h;exact hm
theorem S6{b:σ->Option (σ ⊕ ρ)}:∀ {n:Nat} {s:σ} {r:ρ} (k:Nat),F6 b n s=some r->F6 b (n+k) s=some r
 | 0,_,_,_,h=>by cases h
 | n+1,s,r,k,h=>by
  obtain⟨m,e,hm,a,h2⟩:=AY h;obtain rfl:n=m:=by omega
  rw [show n+1+k=(n+k)+1 by omega,F6,a]
  cases e with
  | inl s'=>exact S6 k h2
  | inr x=>exact congrArg some h2
theorem Ab3{b:σ->Option (σ ⊕ ρ)}{n m:Nat}{s:σ}{r q:ρ}(h:F6 b n s=some r)(k:F6 b m s=some q):r=q:=by
 have a:=S6 m h;have h2:=S6 n k;rw [Nat.add_comm] at h2;exact Option.some.inj (a.symm.trans h2)
def run(b:σ->Option (σ ⊕ ρ))(s:σ):Option ρ:=
 open Classical in if h : ∃ r, ∃ n, F6 b n s = some r then some h.choose else none
theorem UC{b:σ->Option (σ ⊕ ρ)}{n:Nat}{s:σ}{r:ρ}(h:F6 b n s=some r):run b s=some r:=by
 have hx:∃ r,∃ n,F6 b n s=some r:=⟨r,n,h⟩;unfold run;rw [dif_pos hx];obtain⟨m,hm⟩:=hx.choose_spec;rw [Ab3 hm h]
theorem AZ{b:σ->Option (σ ⊕ ρ)}{s:σ}{r:ρ}(h:run b s=some r):∃ n,F6 b n s=some r:=by
 unfold run at h
 split at h
 ·rename_i hx
  cases h
  exact hx.choose_spec
 ·cases h
theorem B2{b:σ->Option (σ ⊕ ρ)}{s s':σ}(h:b s=some (.inl s')):run b s=run b s':=by
 cases hr:run b s' with
 | some r=>
  obtain⟨n,hn⟩:=AZ hr;exact UC (n:=n+1) (by rw [F6,h];exact hn)
 | none=>
  cases hs:run b s with
  | none=>rfl
  | some r=>
   obtain⟨n,hn⟩:=AZ hs;obtain⟨m,e,_,a,h2⟩:=AY hn;rw [h] at a;cases a;rw [UC h2] at hr;cases hr
theorem Bh{b:σ->Option (σ ⊕ ρ)}{s:σ}{m:Option ρ}(h:b s=m.map .inr):run b s=m:=by
 cases m with
 | some r=>exact UC (n:=1) (by rw [F6,h];rfl)
 | none=>
  cases hs:run b s with
  | none=>rfl
  | some r=>
   obtain⟨n,hn⟩:=AZ hs;obtain⟨m,e,_,a,h2⟩:=AY hn;rw [h] at a;cases a
theorem QM{b:σ->Option (σ ⊕ ρ)}(st:Nat->σ)(k:Nat){m:Option ρ}(step:∀ i,i<k->b (st i)=some (.inl (st (i+1))))(last:b (st k)=m.map .inr)(i:Nat)(hi:i<=k):run b (st i)=m:=by
 have key:∀ d i,i+d=k->run b (st i)=m:=by
  intro d
  induction d with
  | zero=>intro i h;rw [Nat.add_zero] at h;subst h;exact Bh last
  | succ d ih=>intro i h;rw [B2 (step i (by omega))];exact ih (i+1) (by omega)
 exact key (k - i) i (by omega)
end
def u8(a:Int):UInt8:=UInt8.ofNat (a % 256).toNat
theorem VM(a:Int):((u8 a).toNat:Int)=a % 256:=by
 unfold u8;rw [UInt8.toNat_ofNat'];omega
theorem Aeg(b:UInt8):u8 (b.toNat:Int)=b:=by
 apply UInt8.toNat.inj;have h:=VM (b.toNat:Int);have:=b.toNat_lt;omega
end Go.L
namespace Go.E
open Go Go.RowKit
def gz(H:PH)(w0 w:World)(O:List BS):PH:=un H (nf w0 w O)
section
variable {H:PH} {w0 w w':World} {O O':List BS}
theorem Rw{A B:PH}(hA:Le A (hp w0))(hB:∀ b o,B b=some o->w0.heap.size<=b):Le A (un A B):=fun b o e=>by
 have hb:b<w0.heap.size:=lt_of_heap (hA b o e);unfold un
 cases h:B b with
 | none=>exact e
 | some o'=>have:=hB b o' h;omega
theorem Aeh{b:Nat}{o:Obj}(h:nf w0 w O b=some o):w0.heap.size<=b:=by
 unfold nf at h
 split at h
 ·assumption
 ·cases h
theorem Aj(hH:Le H (hp w0)):Le H (gz H w0 w O):=Rw hH (fun _ _ h=>Aeh h)
theorem Qe:Le (nf w0 w O) (gz H w0 w O):=Gl
theorem TC{A B C:PH}(hA:Le A (un A C))(h:Le B C):Le (un A B) (un A C):=S5 hA (h.trans Gl)
theorem Ab(hH:Le H (hp w0))(h:Le (fz w O) (fz w' O')):Le (gz H w0 w O) (gz H w0 w' O'):=TC (Aj hH) (Aby h)
theorem Zt[Dr](hH:Le H (hp w0))(hL:Bd w0 O w):Le (gz H w0 w O) (fz w O):=S5 (hH.trans hL.Aea) AcA
theorem Ar[Dr](hH:Le H (hp w0))(hL:Bd w0 O w):Le (gz H w0 w O) (hp w):=(Zt hH hL).trans (X1 _ _)
theorem S7[Dr](hL:Bd w0 O w):Le (nw w w') (gz H w0 w' O):=(Aeb hL).trans Gl
theorem Cm[Dr](hH:Le H (hp w0))(hL:Bd w0 O w)(hx:Ext w w'):Le (un (gz H w0 w O) (nw w w')) (gz H w0 w' O):=S5 (Ab hH (AT hL hx)) (S7 hL)
theorem B5(hH:Le H (hp w0)):Le (gz H w0 w O) (un H (nw w0 w)):=S5 (Ks hH) (AcB.trans Gl)
theorem Bd.rG[Dr](_:Bd w0 O w)(H:PH):Le (gz H w0 w O) (gz H w0 w O):=Le.refl _
end
def BN{α:Type}(e:TypeId)(r:Rp α)(H:PH)(w w':World)(v:Value)(l:List α):Prop:=
 ∃ xs,w'.ownsRow w.heap.size e r.sz v l.length xs/\AJ r (un H (P0 w w' v)) l xs
section
variable {α:Type} {e:TypeId} {r:Rp α} {H:PH} {w0 w w':World} {O:List BS} {v:Value} {l:List α} {i:Nat} {xs:List Value}
theorem VN{b:Nat}{o:Obj}(h:P0 w w' v b=some o):w.heap.size<=b:=by
 unfold P0 nw at h
 split at h
 ·cases h
 ·split at h
  ·assumption
  ·cases h
theorem BN.vec(hH:Le H (hp w))(h:BN e r H w w' v l):AI r (un H (nw w w')) v l:=by
 obtain⟨xs,a,h2⟩:=h;refine Nv a h2 (S5 (Ks hH) (VD.trans Gl)) fun k hk o ho=>?_;have:=(a.lt k hk).1;apply Gl;unfold nw;rw [if_pos this];exact ho
theorem BN.Cz[Dr](h:BN e r (gz H w0 w O) w w' v l)(hH:Le H (hp w0))(hL:Bd w0 O w)(hx:Ext w w'):AI r (gz H w0 w' O) v l:=(h.vec (Ar hH hL)).mono (Cm hH hL hx)
theorem BN.take[Dr](h:BN e r (gz H w0 w O) w w' v l)(hH:Le H (hp w0))(hL:Bd w0 O w)(hx:Ext w w'):∃ xs,Bd w0 (.row v e r.sz l.length xs::O) w'/\Le (fz w O) (fz w' (.row v e r.sz l.length xs::O))/\AJ r (gz H w0 w' (.row v e r.sz l.length xs::O)) l xs:=by
 obtain⟨xs,c,h2⟩:=h;obtain⟨h3,a⟩:=Lm hL hx c;refine⟨xs,h3,a,h2.mono (S5 (Ab hH a) (fun b o hb=>Qe b o ?_))⟩;have hge:w0.heap.size<=b:=Nat.le_trans hL.ext.size (VN hb);unfold nf;rw [if_pos hge];exact VC hL b o hb
theorem BN.nil{H:PH}:BN e r H w w' (.slice none 0 0) ([]:List α):=⟨[],World.ownsRow_nil w' _ e _,.nil⟩
theorem Bd.Ge[Dr](hL:Bd w0 O w)(hH:Le H (hp w0))(hi:Dy O i=some (.row v e r.sz l.length xs))(he:AJ r (gz H w0 w O) l xs):BN e r H w0 w v l:=
 ⟨xs,Qd (hL.at hi) (fun k hk=>hL.own _ ((D1 hi).mem_iff.2 (.head _)) k hk),he.mono (S5 (Rw hH (fun _ _ h=>VN h)) ((Adb hi).trans Gl))⟩
theorem Bd.Cz[Dr](hL:Bd w0 O w)(hH:Le H (hp w0))(hi:Dy O i=some (.row v e r.sz l.length xs))(he:AJ r (gz H w0 w O) l xs):AI r (gz H w0 w (L9 O i)) v l:=
 Nv (hL.at hi) he (Ab hH (Au hi)) (fun k hk o ho=>Qe k o (by
  unfold nf;rw [if_pos (hL.own _ ((D1 hi).mem_iff.2 (.head _)) k hk),S0 hi hk hL.dis];exact ho))
theorem Bd.UD[Dr](hL:Bd w0 O w)(hH:Le H (hp w0))(hi:Dy O i=some (.row v e r.sz l.length xs))(he:AJ r (gz H w0 w O) l xs):AI r (hp w) v l:=hL.AeE hi (he.mono (Zt hH hL))
end
def Rp.st:Rp (List UInt8):=⟨1,fun _ x c=>c=[.string ⟨x.toArray⟩],fun h=>by simp [h],fun _ h=>h,fun h u hu=>by subst h;simp at hu;subst hu;rfl⟩
theorem AJ.set{α:Type}{r:Rp α}{H:PH}{l:List α}{cs:List Value}{x:α}{u:Value}(h:AJ r H l cs)(hx:r.rel H x [u]):∀ i,i<l.length->AJ r H (l.set i x) (cs.set (i * r.sz) u):=by
 have hsz:r.sz=1:=(r.len hx).symm
 induction h with
 | nil=>intro i hi;cases hi
 | @cons y l c cs h t ih=>
  intro i hi;have hc:c.length=1:=by rw [r.len h,hsz]
  obtain⟨z,rfl⟩:=List.length_eq_one_iff.1 hc
  cases i with
  | zero=>rw [Nat.zero_mul];exact .cons hx t
  | succ i=>
   rw [hsz,Nat.mul_one] at *;simp only [List.length_cons] at hi;have:=ih i (by omega);rw [Nat.mul_one] at this;exact .cons h this
section
variable {P:Program} {n:Sz} {ops:Array Oper} {Q:Exit->Act->World->Prop} {L:Env} {w w0:World} {O:List BS} {rest:List Oper}
 {d:Nat} {ty:TypeId} {pos:String} {af:Array Edge} {α:Type} {r:Rp α} {x y:Operand} {v u:Value} {t t' e:TypeId} {H:PH}
abbrev J3(bt n:Nat):Prop:=n * bt<=140737488355328/\n<=9223372036854775807
theorem Bt[Dr](i:Nat){bt:Nat}{zz:Value}{l m:List α}{xs:List Value}(hx:ev L x=some v)(hy:ev L y=some u)(ht:P.underlying t=some (.slice e))(hz:Zr P e zz r.sz bt)(hzs:zz.cells.size=r.sz)(hsz:0<r.sz)(hn:Nat.blt d n.n=true)
  (hH:Le H (hp w0)) (hL:Bd w0 O w) (hi:Dy O i=some (.row v e r.sz l.length xs)) (he:AJ r (gz H w0 w O) l xs) (hm:AI r (gz H w0 w O) u m) (hby:J3 bt (l.length+m.length))
  (h:∀ v' w' xs',Bd w0 (CX O i (.row v' e r.sz (l++m).length xs')) w'->Le (fz w O) (fz w' (CX O i (.row v' e r.sz (l++m).length xs')))->AJ r (gz H w0 w' (CX O i (.row v' e r.sz (l++m).length xs'))) (l++m) xs'->S P n ops Q rest ((d,v')::L) w') :
  S P n ops Q (⟨some d,.call ⟨.builtin .append,#[x,y],#[t,t]⟩,ty,pos,af,none⟩::rest) L w:=by
 obtain⟨news,a,hs⟩:=hm.elems;refine S4 i hx hy ht hz hzs hsz hn hL hi (hs.mono (Ar hH hL)) a.one hby fun v' w' b h2=>?_;rw [<- List.length_append] at b h2;exact h v' w' _ b h2 ((he.append a).mono (Ab hH h2))
theorem LC[Dr](i:Nat){bt k j:Nat}{zz:Value}{l:List α}{xs:List Value}{p:Addr}{z:α}(hx:ev L x=some (.pointer (some p)))(hy:ev L y=some u)(hu:u.oneCell'=true)(hz:Zr P t zz 1 bt)(hH:Le H (hp w0))(hL:Bd w0 O w)(hi:Dy O i=some (.row v e r.sz l.length xs))(he:AJ r (gz H w0 w O) l xs)
  (hp':Ot v k p) (hk:k=j * r.sz) (hj:j<l.length) (hz':r.rel (gz H w0 w O) z [u])
  (h:∀ w' xs',Bd w0 (CX O i (.row v e r.sz (l.set j z).length xs')) w'->Le (fz w O) (fz w' (CX O i (.row v e r.sz (l.set j z).length xs')))->AJ r (gz H w0 w' (CX O i (.row v e r.sz (l.set j z).length xs'))) (l.set j z) xs'->S P n ops Q rest L w') :
  S P n ops Q (⟨none,.store t x y,ty,pos,af,none⟩::rest) L w:=by
 subst hk;have hlen:=he.len;have hsz:r.sz=1:=(r.len hz').symm;refine Zp i hx hy hu hz hL hi hp' (by rw [hlen,hsz];omega) fun w' a h2=>?_;have b:l.length=(l.set j z).length:=by simp
 rw [b] at a h2;exact h w' _ a h2 ((he.set hz' j hj).mono (Ab hH h2))
theorem Bp[Dr]{ps:List (Nat×Operand)}{vs:List (Nat×Value)}{cs:List Value}{l:List α}(hp':evp L ps=some vs)(hr:∀ w,(Instr.buildSlice t l.length vs.toArray).run P w=.ok (.slice (some ⟨w.heap.size,0,none⟩) l.length l.length) (w.alloc (.cells cs.toArray e)))(hn:Nat.blt d n.n=true)(hlen:l.length<=9223372036854775807)(hH:Le H (hp w0))(hL:Bd w0 O w)(he:AJ r (gz H w0 w O) l cs)
  (h:∀ u w',Ext w w'->Bd w0 O w'->Le (fz w O) (fz w' O)->AI r (gz H w0 w' O) u l->S P n ops Q rest ((d,u)::L) w') :
  S P n ops Q (⟨some d,.buildSlice t l.length ps.toArray,ty,pos,af,none⟩::rest) L w:=
 Ac9 (sz:=r.sz) hp' hr he.len hlen hn hL fun u w' hx hL' hle hs _=>h u w' hx hL' hle (S3 (he.mono (Ab hH hle)) (hs.mono (S7 hL)))
theorem Kt[Dr]{ps:List (Nat×Operand)}{vs:List (Nat×Value)}{cs:List Value}{l:List α}(hp':evp L ps=some vs)(hr:∀ w,(Instr.buildSlice t l.length vs.toArray).run P w=.ok (.slice (some ⟨w.heap.size,0,none⟩) l.length l.length) (w.alloc (.cells cs.toArray e)))(hn:Nat.blt d n.n=true)(hlen:l.length<=9223372036854775807)(hH:Le H (hp w0))(hL:Bd w0 O w)(he:AJ r (gz H w0 w O) l cs)
  (h:∀ u w' xs,Bd w0 (.row u e r.sz l.length xs::O) w'->Le (fz w O) (fz w' (.row u e r.sz l.length xs::O))->AJ r (gz H w0 w' (.row u e r.sz l.length xs::O)) l xs->S P n ops Q rest ((d,u)::L) w') :
  S P n ops Q (⟨some d,.buildSlice t l.length ps.toArray,ty,pos,af,none⟩::rest) L w:=
 Ac9 (sz:=r.sz) hp' hr he.len hlen hn hL fun u w' hx _ _ _ ho=>by
  obtain⟨a,h2⟩:=Lm hL hx ho;exact h u w' _ a h2 (he.mono (Ab hH h2))
theorem UE[Dr]{bt:Nat}{k k':IntKind}{zz:Value}{c c':Int}{z:α}(hx:ev L x=some (.int k c))(hy:ev L y=some (.int k' c'))(hcc:c'=c)(ht:P.underlying t=some (.slice e))(hz:Zr P e zz r.sz bt)(hzc:zz.cells = #[zz])(hrz:∀ G,r.rel G z [zz])(hn:Nat.blt d n.n=true)(_hH:Le H (hp w0))(hL:Bd w0 O w)(hm:0<=c/\(bt:Int) * c<=281474976710656/\c<=9223372036854775807)
  (h:∀ v' w' xs,Bd w0 (.row v' e r.sz (List.replicate c.toNat z).length xs::O) w'->Le (fz w O) (fz w' (.row v' e r.sz (List.replicate c.toNat z).length xs::O))->AJ r (gz H w0 w' (.row v' e r.sz (List.replicate c.toNat z).length xs::O)) (List.replicate c.toNat z) xs->S P n ops Q rest ((d,v')::L) w') :
  S P n ops Q (⟨some d,.makeSlice t x y,ty,pos,af,none⟩::rest) L w:=by
 have hsz:r.sz=1:=(r.len (hrz H)).symm;obtain⟨m,rfl⟩:=Int.eq_ofNat_of_zero_le hm.1;subst hcc;rw [hsz] at hz;refine Ada (m:=m) hx hy ⟨rfl,rfl⟩ ht hz hzc hn hL ⟨by have:=hm.2.1;rw [<- Int.natCast_mul] at this;exact Int.ofNat_le.1 this,by omega⟩ fun v' w' _ a h2=>?_;have b:m=(List.replicate (m:Int).toNat z).length:=by simp
 have f:BS.row v' e 1 m (List.replicate m zz)=.row v' e r.sz (List.replicate (m:Int).toNat z).length (List.replicate m zz):=by rw [hsz,<- b]
 rw [f] at a h2;refine h v' w' _ a h2 ?_
 have key:∀ (G:PH) (k:Nat),AJ r G (List.replicate k z) (List.replicate k zz):=fun G k=>by
  induction k with
  | zero=>exact .nil
  | succ k ih=>exact .cons (c:=[zz]) (hrz G) ih
 exact key _ _
end
section
variable {P:Program} {n:Sz} {lo:List Oper} {Q:Exit->Act->World->Prop} {L:Env} {w w0:World} {O:List BS} {tr:Tr} {ix:Nat}
 {d:Nat} {ty:TypeId} {pos:String} {af:Array Edge} {α:Type} {r:Rp α} {x y:Operand} {v:Value} {t e:TypeId} {H:PH}
theorem MD[Dr]{ps:List (Nat×Operand)}{vs:List (Nat×Value)}{cs:List Value}{l:List α}(ho:HR lo ix=some ⟨some d,.buildSlice t l.length ps.toArray,ty,pos,af,none⟩)(hp':evp L ps=some vs)(hr:∀ w,(Instr.buildSlice t l.length vs.toArray).run P w=.ok (.slice (some ⟨w.heap.size,0,none⟩) l.length l.length) (w.alloc (.cells cs.toArray e)))(hn:Nat.blt d n.n=true)(hlen:l.length<=9223372036854775807)(hH:Le H (hp w0))(hL:Bd w0 O w)(he:AJ r (gz H w0 w O) l cs)
  (h:∀ u w',Ext w w'->Bd w0 O w'->Le (fz w O) (fz w' O)->AI r (gz H w0 w' O) u l->D P n lo Q tr ((d,u)::L) w'):D P n lo Q (.h ix tr) L w:=by
 refine X4 (R:=fun b u w'=>Src (nw b w') r.sz u l.length cs) ho hn (fun b a ρ hρ=>?_) (fun b u w' a c hR=>?_)
 ·have g:=hρ.Abx _ _ hp';have e':(ps.toArray.map fun(i,x)=>(i,ρ x))=vs.toArray:=by rw [<- g];simp
  refine⟨_,_,by simp [execOp,e',hr b,-List.map_toArray],C8 b (.cells cs.toArray e),he.len,some ⟨b.heap.size,0,none⟩,l.length,rfl,Nat.le_refl _,by unfold maxLen;omega,(fun e=>by cases e),fun A hA _=>?_⟩
  cases hA
  refine⟨rfl,fun j u hu=>?_⟩;simp only [Addr.add_lit,Nat.zero_add,G9,nw,Nat.le_refl,if_true,heap_alloc_new]
  simpa using hu
 ·have f:=hL.call a;have hle:=(AT hL a).trans (AT f c);exact h u w' (a.trans c) (f.call c) hle (S3 (he.mono (Ab hH hle)) (hR.mono (S7 f)))
theorem K4[Dr]{bt:Nat}{k k':IntKind}{zz:Value}{c c':Int}{z:α}(ho:HR lo ix=some ⟨some d,.makeSlice t x y,ty,pos,af,none⟩)(hx:ev L x=some (.int k c))(hy:ev L y=some (.int k' c'))(hcc:c'=c)(ht:P.underlying t=some (.slice e))(hz:Zr P e zz r.sz bt)(hzc:zz.cells = #[zz])(hrz:∀ G,r.rel G z [zz])(hn:Nat.blt d n.n=true)(_hH:Le H (hp w0))(hL:Bd w0 O w)(hm:0<=c/\(bt:Int) * c<=281474976710656/\c<=9223372036854775807)
  (h:∀ v' w' xs,Bd w0 (.row v' e r.sz (List.replicate c.toNat z).length xs::O) w'->Le (fz w O) (fz w' (.row v' e r.sz (List.replicate c.toNat z).length xs::O))->AJ r (gz H w0 w' (.row v' e r.sz (List.replicate c.toNat z).length xs::O)) (List.replicate c.toNat z) xs->D P n lo Q tr ((d,v')::L) w'):D P n lo Q (.h ix tr) L w:=by
 have hsz:r.sz=1:=(r.len (hrz H)).symm;obtain⟨m,rfl⟩:=Int.eq_ofNat_of_zero_le hm.1;subst hcc;rw [hsz] at hz;refine Adg (m:=m) ho hx hy ⟨rfl,rfl⟩ ht hz hzc hn hL ⟨by have:=hm.2.1;rw [<- Int.natCast_mul] at this;exact Int.ofNat_le.1 this,by omega⟩ fun v' w' _ a h2=>?_;have b:m=(List.replicate (m:Int).toNat z).length:=by simp
 have f:BS.row v' e 1 m (List.replicate m zz)=.row v' e r.sz (List.replicate (m:Int).toNat z).length (List.replicate m zz):=by rw [hsz,<- b]
 rw [f] at a h2;refine h v' w' _ a h2 ?_
 have key:∀ (G:PH) (k:Nat),AJ r G (List.replicate k z) (List.replicate k zz):=fun G k=>by
  induction k with
  | zero=>exact .nil
  | succ k ih=>exact .cons (c:=[zz]) (hrz G) ih
 exact key _ _
end
end Go.E
end
noncomputable section
namespace Go.E
open Go Go.RowKit
theorem Ba{i:Int}{n:Nat}(h:0<=i/\i<(n:Int)):i.toNat<n:=by omega
theorem EX{i n:Int}(h:0<=i/\i<n):i=(i.toNat:Int):=(Int.toNat_of_nonneg h.1).symm
theorem CG{p:Prop}[Decidable p](h:(!decide p)=true): ¬ p:=by simpa using h
theorem CH{p:Prop}[Decidable p](h:(!decide p)=false):p:=by simpa using h
section
variable {α:Type} {P:Program} {n:Sz} {Q:Exit->Act->World->Prop} {L:Env} {w:World} {x y:Code} {t:Operand} {A B:Option α} {e:α}
theorem Bb{b:Bool}(hc:ev L t=some (.bool b))(h:(if b then A else B)=some e)(ht:b=true->A=some e->W P n x Q L w)(hf:b=false->B=some e->W P n y Q L w):W P n (.cond t x y) Q L w:=
 WE hc (fun c=>ht c (Go.L.HA c h)) (fun c=>hf c (Go.L.HB c h))
theorem AM{p:Prop}[Decidable p](hc:ev L t=some (.bool (decide p)))(h:(if p then A else B)=some e)(ht:p->A=some e->W P n x Q L w)(hf : ¬ p->B=some e->W P n y Q L w):W P n (.cond t x y) Q L w:=
 AeB hc (fun c=>ht c (Go.L.BI c h)) (fun c=>hf c (Go.L.BJ c h))
theorem BV{p:Prop}[Decidable p](hc:ev L t=some (.bool (!decide p)))(h:(if p then A else B)=some e)(ht : ¬ p->B=some e->W P n x Q L w)(hf:p->A=some e->W P n y Q L w):W P n (.cond t x y) Q L w:=
 AdY hc (fun c=>ht c (Go.L.BJ c h)) (fun c=>hf c (Go.L.BI c h))
end
theorem Ot.add{v:Value}{k:Nat}{p:Addr}(h:Ot v k p)(j:Nat):Ot v (k+j) (p.add j):=by
 obtain⟨b,o,s⟩:=p;obtain⟨a,h2,h3⟩:=h;simp only at a h2 h3;subst h3;exact⟨by simpa [Addr.add_lit] using a,by simp [Addr.add_lit,h2],by simp [Addr.add_lit]⟩
def Plain{α:Type}(r:Rp α):Prop:=∀ {H H':PH} {x:α} {c:List Value},r.rel H x c->r.rel H' x c
theorem WL:Plain .byte:=fun h=>h
theorem AJ.UF{α:Type}{r:Rp α}(hp:Plain r){H H':PH}{l:List α}{cs:List Value}(h:AJ r H l cs):AJ r H' l cs:=by
 induction h with
 | nil=>exact .nil
 | cons h _ ih=>exact .cons (hp h) ih
theorem BN.UF{α:Type}{e:TypeId}{r:Rp α}{H1 H2:PH}{w w':World}{v:Value}{l:List α}(h:BN e r H1 w w' v l)(hp:Plain r):BN e r H2 w w' v l:=by
 obtain⟨xs,a,h2⟩:=h;exact⟨xs,a,h2.UF hp⟩
section
variable {P:Program} {L:Env} {w:World} {x y z:Operand} {ty t t' t'' e:TypeId}
theorem Hm(a:Int):IntKind.u8.wrap a=((Go.L.u8 a).toNat:Int):=by rw [Sc,Go.L.VM]
def ar8:BinOp->UInt8->UInt8->Option UInt8
 | .add,a,b=>some (a+b)
 | .sub,a,b=>some (a - b)
 | .mul,a,b=>some (a * b)
 | _,_,_=>none
theorem Zu{op:BinOp}{a b c:UInt8}(h:ar8 op a b=some c):∃ s,arI op (a.toNat:Int) (b.toNat:Int)=some s/\IntKind.u8.wrap s=(c.toNat:Int):=by
 have ha:=a.toNat_lt;have hb:=b.toNat_lt
 cases op <;> simp only [ar8,Option.some.injEq,reduceCtorEq] at h <;> subst h
 ·refine⟨_,rfl,?_⟩;rw [Sc,UInt8.toNat_add];omega
 ·refine⟨_,rfl,?_⟩;rw [Sc,UInt8.toNat_sub];omega
 ·refine⟨_,rfl,?_⟩;rw [Sc,UInt8.toNat_mul,<- Int.natCast_mul];omega
theorem Rx[Dr]{op:BinOp}{a b c:UInt8}(hx:ev L x=some (.int .u8 (a.toNat:Int)))(hy:ev L y=some (.int .u8 (b.toNat:Int)))(ho:ar8 op a b=some c):Bw P L w (.binOp op t x y t') ty (.int .u8 (c.toNat:Int)):=by
 obtain⟨s,d,h2⟩:=Zu ho;exact Abz hx hy d h2
theorem Adh[Dr]{op:BinOp}{c:Nat}{p q:Int}(hx:ev L x=some (.int .i64 p))(hy:ev L y=some (.int .i64 q))(ho:Zs op p.toNat q.toNat=some c)(h:(0<=p/\p<2 ^ 63)/\(0<=q/\q<2 ^ 63)):Bw P L w (.binOp op t x y t') ty (.int .i64 (c:Int)):=
 Ab0 hx hy (by omega) (by omega) ho (by omega) (by omega)
theorem Adi[Dr]{a:UInt8}{c:Nat}{k':IntKind}(hx:ev L x=some (.int .u8 (a.toNat:Int)))(hy:ev L y=some (.int k' (c:Int)))(hc:c<8):Bw P L w (.binOp .shr t x y t') ty (.int .u8 ((a >>> (UInt8.ofNat c)).toNat:Int)):=by
 have h:=TZ (P:=P) (w:=w) (t:=t) (t':=t') (ty:=ty) hx hy rfl (show c<=IntKind.u8.bits by simp [IntKind.bits];omega)
 have e:(a.toNat:Int) / 2 ^ c=((a >>> (UInt8.ofNat c)).toNat:Int):=by
  rw [UInt8.toNat_shiftRight,UInt8.toNat_ofNat',Nat.mod_eq_of_lt (show c<2 ^ 8 by omega),Nat.mod_eq_of_lt hc,Nat.shiftRight_eq_div_pow];simp
 rw [e] at h;exact h
theorem Cv[Dr]{l:List UInt8}(hx:ev L x=some (.string ⟨l.toArray⟩))(ht:P.underlying t=some .string):Bw P L w (.call ⟨.builtin .len,#[x],#[t]⟩) ty (.int .i64 (l.length:Int)):=by
 intro w' _ ρ hρ dst pos af g;have:(ByteArray.mk l.toArray).size=l.length:=by simp [ByteArray.size]
 simp [execOp,resolve,hρ x _ hx,invoke,builtin,Builtin.len_,run_underlying ht,goInt,this]
theorem Mn[Dr]{l m:List UInt8}(hx:ev L x=some (.string ⟨l.toArray⟩))(hy:ev L y=some (.string ⟨m.toArray⟩)):Bw P L w (.binOp .neq t x y t') ty (.bool (!decide (l=m))):=by
 intro w' _ ρ hρ dst pos af g;have e:(l==m)=decide (l=m):=by rw [Bool.eq_iff_iff];simp
 simp [execOp,hρ x _ hx,hρ y _ hy,eqGuard,binOp,Op.stringOp,e]
theorem Dx[Dr]{l m:List UInt8}(hx:ev L x=some (.string ⟨l.toArray⟩))(hy:ev L y=some (.string ⟨m.toArray⟩))(h:l.length+m.length<=9223372036854775807):Bw P L w (.binOp .add t x y t') ty (.string ⟨(l++m).toArray⟩):=by
 intro w' _ ρ hρ dst pos af g;have c:(ByteArray.mk l.toArray).size=l.length:=by simp [ByteArray.size]
 have f:(ByteArray.mk m.toArray).size=m.length:=by simp [ByteArray.size]
 have o:ByteArray.mk l.toArray++ByteArray.mk m.toArray=ByteArray.mk (l++m).toArray:=by
  apply ByteArray.ext;simp
 have p : ¬ (IntKind.i64.max<((l.length+m.length:Nat):Int)):=by
  have:IntKind.i64.max=9223372036854775807:=by decide
  omega
 simp only [execOp,hρ x _ hx,hρ y _ hy,eqGuard,binOp,Op.stringOp,c,f,o];simp;omega
end
section
variable {P:Program} {n:Sz} {ops:Array Oper} {Q:Exit->Act->World->Prop} {L:Env} {w w0:World} {O:List BS} {rest:List Oper} {lop:List Oper} {ix:Nat} {tr:Tr}
 {d:Nat} {ty:TypeId} {pos:String} {af:Array Edge} {α:Type} {r:Rp α} {x a b:Operand} {v:Value} {t e:TypeId} {H:PH} {l:List α} {k k':IntKind} {i j:Int} {zz:Value} {bt:Nat}
theorem Zv[Dr](hx:ev L x=some v)(ha:ev L a=some (.int k i))(hb:ev L b=some (.int k' j))(ht:P.underlying t=some (.slice e))(he:Zr P e zz r.sz bt)(hv:AI r H v l)(hc:0<=i/\i<=j/\j<=(l.length:Int))(hn:Nat.blt d n.n=true)
  (h:∀ v',AI r H v' ((l.drop i.toNat).take (j.toNat - i.toNat))->S P n ops Q rest ((d,v')::L) w):S P n ops Q (⟨some d,.slice t x (some a) (some b) none,ty,pos,af,none⟩::rest) L w:=
 U9 hx ht he hv i.toNat j.toNat ⟨k,by rw [Int.toNat_of_nonneg (by omega)];exact ha⟩ ⟨k',by rw [Int.toNat_of_nonneg (by omega)];exact hb⟩ (by omega) hn h
theorem VO[Dr](hx:ev L x=some v)(ha:ev L a=some (.int k i))(ht:P.underlying t=some (.slice e))(he:Zr P e zz r.sz bt)(hv:AI r H v l)(hc:0<=i/\i<=(l.length:Int))(hn:Nat.blt d n.n=true)
  (h:∀ v',AI r H v' (l.drop i.toNat)->S P n ops Q rest ((d,v')::L) w):S P n ops Q (⟨some d,.slice t x (some a) none none,ty,pos,af,none⟩::rest) L w:=
 U9 hx ht he hv i.toNat l.length ⟨k,by rw [Int.toNat_of_nonneg (by omega)];exact ha⟩ rfl (by omega) hn fun v' h'=>h v' (by rwa [List.take_of_length_le (by simp)] at h')
theorem VP[Dr](hx:ev L x=some v)(hb:ev L b=some (.int k' j))(ht:P.underlying t=some (.slice e))(he:Zr P e zz r.sz bt)(hv:AI r H v l)(hc:0<=j/\j<=(l.length:Int))(hn:Nat.blt d n.n=true)
  (h:∀ v',AI r H v' (l.take j.toNat)->S P n ops Q rest ((d,v')::L) w):S P n ops Q (⟨some d,.slice t x none (some b) none,ty,pos,af,none⟩::rest) L w:=
 U9 hx ht he hv 0 j.toNat rfl ⟨k',by rw [Int.toNat_of_nonneg (by omega)];exact hb⟩ (by omega) hn fun v' h'=>h v' (by simpa using h')
theorem VQ[Dr](ho:HR lop ix=some ⟨some d,.slice t x (some a) none none,ty,pos,af,none⟩)(hx:ev L x=some v)(ha:ev L a=some (.int k i))(ht:P.underlying t=some (.slice e))(he:Zr P e zz r.sz bt)(hv:AI r H v l)(hc:0<=i/\i<=(l.length:Int))(hn:Nat.blt d n.n=true)
  (h:∀ v',AI r H v' (l.drop i.toNat)->D P n lop Q tr ((d,v')::L) w):D P n lop Q (.q ix tr) L w:=
 Abv ho hx ht he hv i.toNat l.length ⟨k,by rw [Int.toNat_of_nonneg (by omega)];exact ha⟩ rfl (by omega) hn fun v' h'=>h v' (by rwa [List.take_of_length_le (by simp)] at h')
theorem Ny[Dr]{z:Value}{sz:Nat}{cs:List Value}(ho:HR lop ix=some ⟨some d,.alloc t,ty,pos,af,none⟩)(hz:Zr P t z sz bt)(hc:z.cells.toList=cs)(hn:Nat.blt d n.n=true)(hL:Bd w0 O w)
  (h:∀ w' b,Bd w0 (.box b cs t::O) w'->Le (fz w O) (fz w' (.box b cs t::O))->D P n lop Q tr ((d,.pointer (some ⟨b,0,none⟩))::L) w'):D P n lop Q (.h ix tr) L w:=by
 subst hc;refine X4 (R:=fun a u w'=>u=.pointer (some ⟨a.heap.size,0,none⟩)/\w'=a.alloc (.cells z.cells.toList.toArray t)) ho hn (fun a c ρ hρ=>?_) (fun a u w' c f hR=>?_)
 ·refine⟨_,_,TY hz a ρ _ rfl,C8 _ _,rfl,by simp⟩
 ·obtain⟨rfl,rfl⟩:=hR;have e:=hL.call c;exact h _ _ (UA e) ((AT hL c).trans (QK e))
end
end Go.E
namespace Go.E
open Go Go.RowKit
theorem AJ.c1{α:Type}{r:Rp α}{H:PH}{x:α}{l:List α}{a:Value}{cs:List Value}(h:r.rel H x [a])(t:AJ r H l cs):AJ r H (x::l) (a::cs):=.cons (c:=[a]) h t
theorem AJ.c2{α:Type}{r:Rp α}{H:PH}{x:α}{l:List α}{a b:Value}{cs:List Value}(h:r.rel H x [a,b])(t:AJ r H l cs):AJ r H (x::l) (a::b::cs):=.cons (c:=[a,b]) h t
theorem AJ.c3{α:Type}{r:Rp α}{H:PH}{x:α}{l:List α}{a b d:Value}{cs:List Value}(h:r.rel H x [a,b,d])(t:AJ r H l cs):AJ r H (x::l) (a::b::d::cs):=.cons (c:=[a,b,d]) h t
theorem AJ.c4{α:Type}{r:Rp α}{H:PH}{x:α}{l:List α}{a b d e:Value}{cs:List Value}(h:r.rel H x [a,b,d,e])(t:AJ r H l cs):AJ r H (x::l) (a::b::d::e::cs):=.cons (c:=[a,b,d,e]) h t
theorem AJ.c5{α:Type}{r:Rp α}{H:PH}{x:α}{l:List α}{a b d e f:Value}{cs:List Value}(h:r.rel H x [a,b,d,e,f])(t:AJ r H l cs):AJ r H (x::l) (a::b::d::e::f::cs):=.cons (c:=[a,b,d,e,f]) h t
theorem AJ.c6{α:Type}{r:Rp α}{H:PH}{x:α}{l:List α}{a b d e f g:Value}{cs:List Value}(h:r.rel H x [a,b,d,e,f,g])(t:AJ r H l cs):AJ r H (x::l) (a::b::d::e::f::g::cs):=.cons (c:=[a,b,d,e,f,g]) h t
theorem AJ.c7{α:Type}{r:Rp α}{H:PH}{x:α}{l:List α}{a b d e f g i:Value}{cs:List Value}(h:r.rel H x [a,b,d,e,f,g,i])(t:AJ r H l cs):AJ r H (x::l) (a::b::d::e::f::g::i::cs):=.cons (c:=[a,b,d,e,f,g,i]) h t
theorem AJ.c8{α:Type}{r:Rp α}{H:PH}{x:α}{l:List α}{a b d e f g i j:Value}{cs:List Value}(h:r.rel H x [a,b,d,e,f,g,i,j])(t:AJ r H l cs):AJ r H (x::l) (a::b::d::e::f::g::i::j::cs):=.cons (c:=[a,b,d,e,f,g,i,j]) h t
theorem C0[Dr]{α:Type}(r:Rp α){w0 w:World}{O:List BS}(H:PH)(e:TypeId)(hL:Bd w0 O w):
  Bd w0 (.row (.slice none 0 0) e r.sz ([]:List α).length []::O) w/\Le (fz w O) (fz w (.row (.slice none 0 0) e r.sz ([]:List α).length []::O))/\AJ r (gz H w0 w (.row (.slice none 0 0) e r.sz ([]:List α).length []::O)) [] []:=
 ⟨(Sd hL e r.sz).1,(Sd hL e r.sz).2,.nil⟩
def HY(Q:Exit->Act->World->Prop):Prop:=∀ c a (d:Option Tmp) (v:Value) w,Q (.panic c) (a.put d v) w->Q (.panic c) a w
section
variable {P:Program} {n:Sz} {Q:Exit->Act->World->Prop}
theorem Mo{fn:Func}{R:Value->World->Prop}:HY (Mk P fn R):=fun _ _ d _ _ h=>by cases d <;> exact h
theorem WM{y:Code}(h:HY Q):HY (Qc P y Q):=fun c a d v w k=>h c a d v w k
theorem ME{σ:Type}{I:σ->Env}{R:σ->World->Prop}(h:HY Q):HY (V9 n I R Q):=fun c a d v w k=>h c a d v w k
theorem Se{σ:Type}{I:σ->Env}{R:σ->World->Prop}{μ:σ->Nat}{x:σ}(h:HY Q):HY (Sr n I R μ x Q):=fun c a d v w k=>h c a d v w k
theorem Jb{id:Nat}(h:HY Q):HY (Exit.inBlock id Q):=fun c a d v w k=>h c a d v w k
end
section
variable {P:Program} {n:Sz} {m fuel:Nat} {l:List Oper} {Q:Exit->Act->World->Prop} {L:Env} {w w0:World} {done:List Nat} {i d:Nat} {op:Op} {ty:TypeId} {pos:String} {af:Array Edge}
def QN(l:List Oper)(m:Nat)(done:List Nat)(i:Nat):Bool:=
 Region.noSelect l.toArray&&Region.free .any l.toArray (NN m done) i&&(Region.ready .any l.toArray (NN m done)).contains i
end
section
variable {P:Program} {n:Sz} {m fuel:Nat} {lo:List Oper} {Q:Exit->Act->World->Prop} {L:Env} {w w0:World} {done:List Nat} {i d:Nat} {ty:TypeId} {pos:String} {af:Array Edge} {α:Type} {r:Rp α} {H:PH} {x y:Operand} {v:Value} {t e:TypeId} {O:List BS}
end
end Go.E
namespace Go.E
open Go Go.RowKit
theorem Bd.AeG[Dr]{w0 w w':World}{O:List BS}{g:Nat}(h:Bd w0 O w)(hg:w.grownBy w' (some g))(hdr:w.drawn<=w'.drawn)(hge:w0.heap.size<=g)(hno:owned O g=false):Bd w0 O w':=by
 have hs:∀ r∈O,∀ b,r.block=some b->w'.heap[b]? = w.heap[b]?:=fun r hr b hb=>by
  refine hg.block b ((h.res r hr).lt hb) (fun e=>?_);have e':b=g:=by simpa [eq_comm] using e
  have:owned O b=true:=CZ.2 ⟨r,hr,hb⟩;rw [e',hno] at this;cases this
 refine⟨⟨⟨hg.os.trans h.ext.os,hg.tape.trans h.ext.tape,hg.output.trans h.ext.output,Nat.le_trans h.ext.size hg.size,fun k hk=>?_⟩,fun o=>Nat.le_trans (h.ext.drawn o) hdr⟩,fun r hr=>(h.res r hr).same (hs r hr),h.own,h.dis⟩
 have hne : ¬ (some k=some g):=fun e=>by
  have e':k=g:=by simpa using e
  omega
 rw [hg.block k (Nat.lt_of_lt_of_le hk h.ext.size) hne];exact h.ext.block k hk
section
variable {P:Program} {L:Env} {w:World} {x y:Operand} {ty t t':TypeId}
end
theorem cells_one{v:Value}(h:v.oneCell'=true):v.cells.toList=[v]:=by cases v <;> simp_all [Value.cells,Value.oneCell']
section
variable {P:Program} {n:Sz} {ops:Array Oper} {Q:Exit->Act->World->Prop} {L:Env} {w w0:World} {O:List BS} {rest:List Oper} {d:Nat} {ty:TypeId} {pos:String} {af:Array Edge} {x:Operand} {v:Value} {t e:TypeId} {H:PH}
theorem UG[Dr](hx:ev L x=some v)(a:v.oneCell'=true)(hn:Nat.blt d n.n=true)(hL:Bd w0 O w)
  (h:∀ w' b,Bd w0 (.box b [v] t::O) w'->Le (fz w O) (fz w' (.box b [v] t::O))->Ext w w'->S P n ops Q rest ((d,.pointer (some ⟨b,0,none⟩))::L) w'):S P n ops Q (⟨some d,.box t x,ty,pos,af,none⟩::rest) L w:=
 CY hx (cells_one a) hn hL h
theorem Zw[Dr](i:Nat){l:List UInt8}{xs:List Value}(hx:ev L x=some v)(ht:P.underlying t=some (.slice e))(he:P.underlying e=some (.int .u8))(hn:Nat.blt d n.n=true)(_hH:Le H (hp w0))(hL:Bd w0 O w)(hi:Dy O i=some (.row v e 1 l.length xs))(hel:AJ .byte (gz H w0 w O) l xs)(hne:l≠[])
  (h:∀ w',Bd w0 (L9 O i) w'->Le (fz w O) (fz w' (L9 O i))->AI .byte (gz H w0 w' (L9 O i)) v l->S P n ops Q rest ((d,v)::L) w') :
  S P n ops Q (⟨some d,.convert t t x,ty,pos,af,none⟩::rest) L w:=by
 have hown:w.ownsRow 0 e 1 v l.length xs:=hL.at hi
 rcases hown.2 with ⟨_,f⟩ | ⟨g,cap,cur,rfl,hb,hg,hnc,hcm,hcs,htake⟩
 ·exact absurd (List.eq_nil_of_length_eq_zero f) hne
 have hgl:=lt_of_heap hg
 have hfr:w.freeze ⟨g,cur.size,none⟩ 1={w with heap:=w.heap.setIfInBounds g (.cells cur e (cur.size,cur.size+1))}:=by
  unfold World.freeze;rw [if_neg (by decide)]
  congr 1
  apply Array.ext_getElem?;intro k;rw [Array.getElem?_modify,Array.getElem?_setIfInBounds]
  by_cases hk:g=k
  ·subst hk;rw [if_pos rfl,if_pos rfl,if_pos hgl,hg];rfl
  ·rw [if_neg hk,if_neg hk]
 have hrun:(convert t t (.slice (some ⟨g,0,none⟩) l.length cap)).run P w=.ok (.slice (some ⟨g,0,none⟩) l.length cap) (w.freeze ⟨g,cur.size,none⟩ 1):=by
  simp [convert,run_underlying ht,run_underlying he,markStringish,shape,freeze,Sem.run,World.shape?,hg]
 rw [hfr] at hrun
 have hgr:w.grownBy {w with heap:=w.heap.setIfInBounds g (.cells cur e (cur.size,cur.size+1))} (some g):=
  ⟨rfl,rfl,rfl,by simp,fun k _ hne=>by
   show(w.heap.setIfInBounds g _)[k]? = _
   rw [Array.getElem?_setIfInBounds,if_neg (fun e=>hne (by rw [e]))]⟩
 have hmem:BS.row (.slice (some ⟨g,0,none⟩) l.length cap) e 1 l.length xs∈O:=(D1 hi).mem_iff.2 (.head _);have hge:w0.heap.size<=g:=hL.own _ hmem g rfl
 have hno:owned (L9 O i) g=false:=by
  cases hc:owned (L9 O i) g with
  | false=>rfl
  | true=>
   obtain⟨r,hr,hb'⟩:=CZ.1 hc;have hd:=List.pairwise_cons.1 (hL.perm (D1 hi).symm).dis;exact absurd hb' (hd.1 r hr g rfl)
 have hL':=(hL.AQ hi).AeG hgr (Nat.le_refl _) hge hno
 have hle:Le (fz w O) (fz {w with heap:=w.heap.setIfInBounds g (.cells cur e (cur.size,cur.size+1))} (L9 O i)):=fun b o hbo=>by
  have hbg:b≠g:=fun e=>by
   subst e;unfold fz at hbo;rw [if_pos (CZ.2 ⟨_,hmem,rfl⟩)] at hbo
   cases hbo
  have a:=Au (w:=w) hi b o hbo;unfold fz at a ⊢
  split at a
  ·cases a
  ·rename_i ho;rw [if_neg ho]
   show(w.heap.setIfInBounds g _)[b]? = some o
   rw [Array.getElem?_setIfInBounds,if_neg (fun e=>hbg e.symm)];exact a
 refine Du rfl rfl hn (fun ρ hρ=>by simp [execOp,hρ x _ hx,hrun]) (h _ hL' hle ?_);refine⟨some ⟨g,0,none⟩,cap,rfl,hnc,hcm,(fun h=>by cases h),fun A hA _=>?_⟩
 cases hA
 refine⟨rfl,fun j y hy=>?_⟩;obtain⟨c,hc,hcell⟩:=hel.at j y hy;refine⟨c,hc,fun k u hu=>?_⟩;have a:=hcell k u hu;rw [<- htake,List.getElem?_take] at a
 split at a
 ·have hgz:gz H w0 {w with heap:=w.heap.setIfInBounds g (.cells cur e (cur.size,cur.size+1))} (L9 O i) g=some (.cells cur e (cur.size,cur.size+1)):=by
   apply Qe;unfold nf fz;rw [if_pos hge,hno]
   show(w.heap.setIfInBounds g _)[g]? = _
   rw [Array.getElem?_setIfInBounds,if_pos rfl,if_pos hgl]
  simp only [Addr.add_lit,Nat.zero_add,G9,hgz]
  simpa using a
 ·cases a
end
theorem Hi.part{H:PH}{p:Addr}{c:List Value}(h:Hi H p c)(m:Nat):Hi H p (c.take m):=
 ⟨h.1,fun j u hu=>h.2 j u (by
  rw [List.getElem?_take] at hu
  split at hu
  ·exact hu
  ·cases hu)⟩
section
variable {P:Program} {L:Env} {w w0:World} {O:List BS} {x:Operand} {ty t:TypeId} {H:PH}
theorem S8[Dr](i m:Nat){b off:Nat}{cs c:List Value}{t':TypeId}{dd:TypeDesc}{zz:Value}{bt:Nat}(hx:ev L x=some (.pointer (some ⟨b,off,none⟩)))(ht:P.underlying t=some dd)(hd:VJ dd=true)(hz:Zr P t zz c.length bt)(hL:Bd w0 O w)(hi:Dy O i=some (.box b cs t'))(hc:(cs.drop off).take m=c):Bw P L w (.load t x) ty (.agg c.toArray):=by
 have a:=((AL hL hi).add off).part m;rw [hc,Addr.add_lit,Nat.zero_add] at a;exact C9 hx ht hd hz a (Le.refl _)
theorem UH{α:Type}{r:Rp α}{v:Value}{l:List α}(h:AI r H v l):(v=.slice none 0 0/\l=[])\/∃ A n c,v=.slice (some A) n c:=by
 obtain⟨a,cap,b,h2,_,d,_⟩:=h.ex
 cases a with
 | none=>
  have hc:=d rfl;have hl:l.length=0:=by omega
  left
  rw [b,hl,hc];exact⟨rfl,List.eq_nil_of_length_eq_zero hl⟩
 | some A=>exact .inr ⟨A,_,_,b⟩
theorem UI[Dr]{y:Operand}{e t':TypeId}(hx:ev L x=some (.slice none 0 0))(hy:ev L y=some (.slice none 0 0))(ht:P.underlying t=some (.slice e)):Bw P L w (.binOp .eql t x y t') ty (.bool true):=by
 intro w' _ ρ hρ dst pos af g;have key:∀ dd:Nat,(Op.equalIn (dd+1) t (.slice none 0 0) (.slice none 0 0)).run P w'=.ok true w':=fun dd=>by simp [Op.equalIn,run_underlying ht]
 have a:(Op.equal t (.slice none 0 0) (.slice none 0 0)).run P w'=.ok true w':=key 9999;simp [execOp,hρ x _ hx,hρ y _ hy,eqGuard,binOp,a]
theorem UJ[Dr]{v:Value}{y:Operand}{e t':TypeId}(hx:ev L x=some v)(hy:ev L y=some (.slice none 0 0))(ht:P.underlying t=some (.slice e))(hv:∃ A n c,v=.slice (some A) n c):Bw P L w (.binOp .eql t x y t') ty (.bool false):=by
 obtain⟨A,n,c,rfl⟩:=hv;intro w' _ ρ hρ dst pos af g;have key:∀ dd:Nat,(Op.equalIn (dd+1) t (.slice (some A) n c) (.slice none 0 0)).run P w'=.ok false w':=fun dd=>by simp [Op.equalIn,run_underlying ht]
 have a:(Op.equal t (.slice (some A) n c) (.slice none 0 0)).run P w'=.ok false w':=key 9999;simp [execOp,hρ x _ hx,hρ y _ hy,eqGuard,binOp,a]
theorem UK[Dr]{α:Type}(r:Rp α){e:TypeId}(hL:Bd w0 O w)(hH:Le H (hp w0)):BN e r H w0 w (.slice none 0 0) ([]:List α):=
 (C0 r H e hL).1.Ge (i:=0) hH rfl (C0 r H e hL).2.2
end
end Go.E
namespace Go.E
open Go Go.RowKit
section
variable {P:Program} {n:Sz} {ops:Array Oper} {Q:Exit->Act->World->Prop} {L:Env} {w w0:World} {O:List BS} {rest:List Oper} {d:Nat} {ty:TypeId} {pos:String} {af:Array Edge} {x y:Operand} {t tn e:TypeId} {H:PH}
theorem X9[Dr]{a:Option Addr}{m c:Nat}(hx:ev L x=some (.slice a m c))(ht:P.underlying t=some (.slice e)):Bw P L w (.call ⟨.builtin .cap,#[x],#[t]⟩) ty (.int .i64 (c:Int)):=by
 intro w' _ ρ hρ dst pos af g;simp [execOp,resolve,invoke,builtin,hρ x _ hx,Builtin.cap_,run_underlying ht]
 rfl
theorem XA[Dr]{k kn:IntKind}{zz:Value}{bt m:Nat}(hx:ev L x=some (.slice none 0 0))(hy:ev L y=some (.int k (m:Int)))(ht:P.underlying t=some (.slice e))(htn:P.underlying tn=some (.int kn))(hz:Zr P e zz 1 bt)(hzc:zz.cells = #[zz])(hn:Nat.blt d n.n=true)(c:0<m)(a:(m:Int)<=9223372036854775807)(b:m * bt<=281474976710656)
  (h:∀ g cap cur w',Ext w w'->w.heap.size<=g->w'.heap[g]? = some (.cells cur e (0,0))->cap<=maxLen->cur.size=cap->S P n ops Q rest ((d,.slice (some ⟨g,0,none⟩) m cap)::L) w') :
  S P n ops Q (⟨some d,.call ⟨.builtin .append,#[x,y],#[t,tn]⟩,ty,pos,af,none⟩::rest) L w:=by
 obtain⟨inf,f,i,j,l⟩:=hz.parts;have hr:=Lib.run_append_nil_zeros (P:=P) w t tn ty e inf zz k kn ht htn f i m c (by rw [j];decide) a (by rw [l];exact b);have hge:=grownCap_ge w m 0 e;have hsz:∀ k,(Builtin.zeroCells zz.cells k).size=k:=fun k=>by rw [hzc];simp [Builtin.zeroCells]
 refine Du (v:=.slice (some ⟨w.heap.size,0,none⟩) m (grownCap w m 0 e)) (w':=w.drew.alloc (.cells (Builtin.zeroCells zz.cells m++Builtin.zeroCells zz.cells (grownCap w m 0 e - m)) e)) rfl rfl hn (fun ρ hρ=>by simp [execOp,resolve,invoke,builtin,hρ x _ hx,hρ y _ hy,hr]) (h _ _ (Builtin.zeroCells zz.cells m++Builtin.zeroCells zz.cells (grownCap w m 0 e - m)) _ ?_ (Nat.le_refl _) ?_ (grownCap_le_maxLen w m 0 e (by unfold maxLen;omega)) ?_)
 ·exact(show Ext w w.drew from KI).trans (C8 _ _)
 ·show(w.heap.push _)[w.heap.size]? = _
  simp
 ·rw [Array.size_append,hsz,hsz];omega
theorem Zx[Dr]{g m cap:Nat}{k:IntKind}{zz:Value}{bt:Nat}(hx:ev L x=some (.slice (some ⟨g,0,none⟩) m cap))(hy:ev L y=some (.int k 0))(ht:P.underlying t=some (.slice e))(hz:Zr P e zz 1 bt):Bw P L w (.slice t x none (some y) none) ty (.slice (some ⟨g,0,none⟩) 0 cap):=by
 obtain⟨inf,a,_,_,_⟩:=hz.parts;intro w' _ ρ hρ dst pos af gd;simp [execOp,hρ x _ hx,hρ y _ hy,Instr.sliceAt,run_underlying ht,Instr.slice,Instr.sliceBounds,Instr.sliceBound,asIntOf,sizeOf,typeInfo,a];exact fun _=>by rw [Addr.add_lit]
theorem S9[Dr]{k:IntKind}{zz:Value}{bt:Nat}(hx:ev L x=some (.slice none 0 0))(hy:ev L y=some (.int k 0))(ht:P.underlying t=some (.slice e))(hz:Zr P e zz 1 bt):Bw P L w (.slice t x none (some y) none) ty (.slice none 0 0):=by
 obtain⟨inf,a,_,_,_⟩:=hz.parts;intro w' _ ρ hρ dst pos af gd;simp [execOp,hρ x _ hx,hρ y _ hy,Instr.sliceAt,run_underlying ht,Instr.slice,Instr.sliceBounds,Instr.sliceBound,asIntOf,sizeOf,typeInfo,a]
theorem Ab4[Dr]{α:Type}{r:Rp α}{bt:Nat}{k k':IntKind}{zz:Value}{c:Int}(hx:ev L x=some (.int k 0))(hy:ev L y=some (.int k' c))(ht:P.underlying t=some (.slice e))(hz:Zr P e zz r.sz bt)(hn:Nat.blt d n.n=true)(hL:Bd w0 O w)(hm:0<=c/\(bt:Int) * c<=281474976710656/\c<=9223372036854775807)
  (h:∀ v' w' xs,Bd w0 (.row v' e r.sz ([]:List α).length xs::O) w'->Le (fz w O) (fz w' (.row v' e r.sz ([]:List α).length xs::O))->AJ r (gz H w0 w' (.row v' e r.sz ([]:List α).length xs::O)) [] xs->S P n ops Q rest ((d,v')::L) w') :
  S P n ops Q (⟨some d,.makeSlice t x y,ty,pos,af,none⟩::rest) L w:=by
 obtain⟨inf,a,b,f,g⟩:=hz.parts;obtain⟨m,rfl⟩:=Int.eq_ofNat_of_zero_le hm.1;obtain⟨w',hr,ho,hg⟩:=run_make_own (P:=P) w w.heap.size t e inf zz r.sz ht a b f k k' m (by rw [g];have:=hm.2.1;rw [<- Int.natCast_mul] at this;exact Int.ofNat_le.1 this) (by unfold maxLen;omega) (Nat.le_refl _);have hx':=On (OR _ _ _ _ hr) hg;obtain⟨i,h2⟩:=Lm hL hx' ho;exact Du rfl rfl hn (fun ρ hρ=>by simp [execOp,hρ x _ hx,hρ y _ hy,hr]) (h _ _ _ i h2 .nil)
theorem Dz[Dr]{l:List UInt8}{k:IntKind}{i:Int}(hx:ev L x=some (.string ⟨l.toArray⟩))(hy:ev L y=some (.int k i))(ht:P.underlying t=some .string)(hi:0<=i/\i<(l.length:Int)):Bw P L w (.index t x y) ty (.int .u8 ((l.getD i.toNat default).toNat:Int)):=by
 intro w' _ ρ hρ dst pos af g;have a:i.toNat<l.length:=by omega
 have h2:(⟨l.toArray⟩:ByteArray)[i.toNat]? = some (l.getD i.toNat default):=by
  have hb:i.toNat<(⟨l.toArray⟩:ByteArray).size:=a;rw [show l.getD i.toNat default=(⟨l.toArray⟩:ByteArray)[i.toNat] by rw [List.getD_eq_getElem?_getD,List.getElem?_eq_getElem a];rfl];simp [hb]
 simp [execOp,hρ x _ hx,hρ y _ hy,Instr.index,asIntOf,run_underlying ht,hi.1,h2]
end
end Go.E
namespace Go.E
open Go Go.RowKit
section
variable {P:Program} {n:Sz} {m fuel:Nat} {l:List Oper} {Q:Exit->Act->World->Prop} {L:Env} {w w0:World} {done:List Nat} {i d:Nat} {op:Op} {ty:TypeId} {pos:String} {af:Array Edge}
end
end Go.E
namespace Go.E
open Go Go.RowKit
theorem run_loadBytes{P:Program}{w:World}:∀ (l:List UInt8) (A:Addr) (acc:ByteArray),A.spot=none->(∀ i x,l[i]? = some x->w.cell? (A.add i)=some (.int .u8 (x.toNat:Int)))->
  (Extern.Bytes.loadBytes A l.length acc).run P w=.ok ⟨acc.data++l.toArray⟩ w
 | [],A,acc,_,_=>by simp [Extern.Bytes.loadBytes]
 | b::l,A,acc,hs,h=>by
  have a:=h 0 b rfl;rw [Addr.add_zero'] at a;have ih:=run_loadBytes (P:=P) (w:=w) l (A.add 1) (acc.push b) (K3 hs 1) (fun i x hx=>by rw [Ll hs,Nat.add_comm];exact h (i+1) x hx);have e:((b.toNat:Int).toNat).toUInt8=b:=by simp
  simp only [List.length_cons,Extern.Bytes.loadBytes,Sem.run_bind];have hl:(load A).run P w=.ok (.int .u8 (b.toNat:Int)) w:=by simp [load,Sem.run,a]
  rw [hl];simp only [Result.andThen_ok,e,ih];simp
theorem Ry{P:Program}{w:World}{H:PH}{v:Value}{l:List UInt8}(hv:AI .byte H v l)(hs:Le H (hp w)):(Extern.Bytes.bytesOf v).run P w=.ok ⟨l.toArray⟩ w:=by
 obtain⟨a,cap,rfl,h2,h3,b,d⟩:=hv.ex
 cases a with
 | none=>
  have:cap=0:=b rfl;have hl:l=[]:=List.eq_nil_of_length_eq_zero (by omega);subst hl
  rfl
 | some A=>
  by_cases hl:l=[]
  ·subst hl;rfl
  ·obtain⟨e,f⟩:=d A rfl hl
   have:=run_loadBytes (P:=P) (w:=w) l A .empty e (fun i x hx=>by
    obtain⟨c,hc,hcell⟩:=f i x hx;obtain rfl:c=[.int .u8 (x.toNat:Int)]:=hc;have:=hcell 0 _ rfl;rw [show(Rp.byte).sz=1 from rfl,Nat.mul_one,Nat.add_zero] at this;exact cell_of hs this)
   show(Extern.Bytes.loadBytes A l.length .empty).run P w=_
   rw [this];simp
section
variable {P:Program} {L:Env} {w:World} {x y:Operand} {ty:TypeId} {H H':PH} {u v:Value}
theorem Adj [Dr] {f : FuncId} {fn : Func} {at_ : Array TypeId} {l m : List UInt8} (hf : P.funcs[f]? = some fn) (a : (fn.name == "runtime.NumGoroutine") = false) (h2 : fn.body.isNone = true) (h3 : Extern.findNext fn = none) (b : Extern.find fn = some Extern.BytealgCompare.compare)
  (hx:ev L x=some u) (hy:ev L y=some v) (hu:AI .byte H u l) (hsu:Le H (hp w)) (hv:AI .byte H' v m) (hsv:Le H' (hp w)):Bw P L w (.call ⟨.value (.func f),#[x,y],at_⟩) ty (.int .i64 (Lib.compareBytes l m)):=by
 intro w' hw ρ hρ dst pos af g;have c:ρ (.func f)=.func (.func f) #[] #[]:=hρ _ _ rfl;have d:=Ry (P:=P) hu (hsu.ext hw);have i:=Ry (P:=P) hv (hsv.ext hw)
 have hc:(Extern.BytealgCompare.compare #[u,v]).run P w'=.ok (.int .i64 (Lib.compareBytes l m)) w':=by
  show Sem.run P (do pure (goInt (Extern.BytealgCompare.cmp (<- Extern.Bytes.bytesOf u) (<- Extern.Bytes.bytesOf v)))) w'=_
  simp only [Sem.run_bind,d,i,Result.andThen_ok,Sem.run_pure,Lib.cmp_eq];simp [goInt]
 have hcall:(callFunc f #[u,v]).run P w'=.ok (.value (.int .i64 (Lib.compareBytes l m))) w':=by
  rw [run_callFunc_extern hf a h2 h3 b,hc];rfl
 simp [execOp,resolve,c,hρ x _ hx,hρ y _ hy,Deferred.ofValue,invoke,hcall]
end
end Go.E
namespace Go.E
open Go Go.RowKit
section
variable {P:Program} {L:Env} {w:World} {x y:Operand} {ty t t' e:TypeId}
theorem Aei[Dr]{a:Int}(hx:ev L x=some (.int .i64 a))(h:Go.L.B0 (-a)):Bw P L w (.unOp .neg t x) ty (.int .i64 (-a)):=by
 intro w' _ ρ hρ dst pos af g;have e:=wrap64 h.1 h.2;simp [execOp,hρ x _ hx,Op.unary,Op.intArith,e]
theorem Adk[Dr]{a:Int}(hx:ev L x=some (.int .i64 a)):Bw P L w (.unOp .neg t x) ty (.int .i64 (IntKind.i64.wrap (-a))):=by
 intro w' _ ρ hρ dst pos af g;simp [execOp,hρ x _ hx,Op.unary,Op.intArith]
theorem CB[Dr]{p:Addr}(hx:ev L x=some (.pointer (some p))):Bw P L w (.nilCheck x) ty (.pointer (some p)):=by
 intro w' _ ρ hρ dst pos af g;simp [execOp,hρ x _ hx]
theorem Adl [Dr] {f : FuncId} {fn : Func} {at_ : Array TypeId} {l m : List UInt8} (hf : P.funcs[f]? = some fn) (a : (fn.name == "runtime.NumGoroutine") = false) (h2 : fn.body.isNone = true) (h3 : Extern.findNext fn = none) (b : Extern.find fn = some Extern.BytealgCompare.compare)
  (hx:ev L x=some (.string ⟨l.toArray⟩)) (hy:ev L y=some (.string ⟨m.toArray⟩)):Bw P L w (.call ⟨.value (.func f),#[x,y],at_⟩) ty (.int .i64 (Lib.compareBytes l m)):=by
 intro w' hw ρ hρ dst pos af g;have c:ρ (.func f)=.func (.func f) #[] #[]:=hρ _ _ rfl
 have hc:(Extern.BytealgCompare.compare #[.string ⟨l.toArray⟩,.string ⟨m.toArray⟩]).run P w'=.ok (.int .i64 (Lib.compareBytes l m)) w':=by
  show Sem.run P (do pure (goInt (Extern.BytealgCompare.cmp (<- Extern.Bytes.bytesOf (.string ⟨l.toArray⟩)) (<- Extern.Bytes.bytesOf (.string ⟨m.toArray⟩))))) w'=_
  simp only [Extern.Bytes.bytesOf,Sem.run_bind,Result.andThen_ok,Sem.run_pure,Lib.cmp_eq];simp [goInt]
 have hcall:(callFunc f #[.string ⟨l.toArray⟩,.string ⟨m.toArray⟩]).run P w'=.ok (.value (.int .i64 (Lib.compareBytes l m))) w':=by
  rw [run_callFunc_extern hf a h2 h3 b,hc];rfl
 simp [execOp,resolve,c,hρ x _ hx,hρ y _ hy,Deferred.ofValue,invoke,hcall]
theorem XB[Dr]{a:UInt8}(hx:ev L x=some (.int .u8 (a.toNat:Int)))(ht:P.underlying t=some (.int .u8))(ht':P.underlying t'=some .string)(ha:a.toNat<128):Bw P L w (.convert t t' x) ty (.string ⟨[a].toArray⟩):=by
 intro w' _ ρ hρ dst pos af g;have hv:Utf8.valid (a.toNat:Int)=true:=by simp [Utf8.valid];omega
 have e:Utf8.encode (a.toNat:Int)=⟨[a].toArray⟩:=by
  unfold Utf8.encode;rw [if_pos hv,Int.toNat_natCast,if_pos (by omega)];simp only [UInt8.ofNat_toNat]
 simp [execOp,hρ x _ hx,convert,run_underlying ht,run_underlying ht',Conv.intToString,e]
end
section
variable {P:Program} {n:Sz} {ops:Array Oper} {Q:Exit->Act->World->Prop} {L:Env} {w w0:World} {O:List BS} {rest:List Oper} {d:Nat} {ty:TypeId} {pos:String} {af:Array Edge} {x:Operand} {t t' e:TypeId} {H:PH}
theorem QO[Dr](w:World)(e:TypeId){l:List UInt8}(hl:l.length<=9223372036854775807):Ext w (Lib.bytesWorld w e ⟨l.toArray⟩)/\AI .byte (nw w (Lib.bytesWorld w e ⟨l.toArray⟩)) (.slice (some ⟨w.heap.size,0,none⟩) l.length (grownCap w l.length 0 e)) l:=by
 have hs:(ByteArray.mk l.toArray).size=l.length:=by simp [ByteArray.size]
 refine⟨⟨⟨rfl,rfl,rfl,?_,fun k hk=>?_⟩,fun _=>(by first | exact Nat.le_refl _ | exact Nat.le_succ _)⟩,⟨some ⟨w.heap.size,0,none⟩,_,rfl,grownCap_ge _ _ _ _,grownCap_le_maxLen _ _ _ _ (by unfold maxLen;omega),(fun h=>by cases h),fun A hA _=>?_⟩⟩
 ·rw [Lib.bytesWorld_size];omega
 ·exact Lib.bytesWorld_at_old w e _ k hk
 ·cases hA
  refine⟨rfl,fun i b hb=>⟨_,rfl,fun j u hu=>?_⟩⟩;have hi:=(List.getElem?_eq_some_iff.1 hb).1
  cases j with
  | zero=>
   simp only [List.getElem?_cons_zero,Option.some.injEq] at hu;subst hu
   show G9 _ (Addr.add ⟨w.heap.size,0,none⟩ (i * 1+0))=_
   have:=Lib.bytesWorld_cell w e ⟨l.toArray⟩ i (by rw [hs];exact hi);simp only [Addr.add_lit,Nat.zero_add,Nat.mul_one,Nat.add_zero,G9,nw,Nat.le_refl,if_true];unfold World.cell? at this;rw [show(l.toArray.toList.getD i 0)=b by simp [List.getD_eq_getElem?_getD,hb]] at this;exact this
  | succ j=>cases hu
theorem Zy[Dr]{l:List UInt8}{u:TypeDesc}(hx:ev L x=some (.string ⟨l.toArray⟩))(ht:P.underlying t=some u)(ht':P.underlying t'=some (.slice e))(he:P.underlying e=some (.int .u8))(hn:Nat.blt d n.n=true)(hL:Bd w0 O w)(hl:l.length<=9223372036854775807)
  (h:∀ v w',Ext w w'->Bd w0 O w'->Le (fz w O) (fz w' O)->AI .byte (gz H w0 w' O) v l->S P n ops Q rest ((d,v)::L) w'):S P n ops Q (⟨some d,.convert t t' x,ty,pos,af,none⟩::rest) L w:=by
 obtain⟨a,h2⟩:=QO w e hl;have hs:(ByteArray.mk l.toArray).size=l.length:=by simp [ByteArray.size]
 refine Du (v:=.slice (some ⟨w.heap.size,0,none⟩) l.length (grownCap w l.length 0 e)) (w':=Lib.bytesWorld w e ⟨l.toArray⟩) rfl rfl hn (fun ρ hρ=>?_) (h _ _ a (hL.call a) (AT hL a) (h2.mono (S7 hL)));have:=Lib.run_convert_string_bytes (P:=P) w t t' e ⟨l.toArray⟩ ht ht' he;rw [hs] at this;simp [execOp,hρ x _ hx,this]
end
def XC(O:List BS)(i:Nat):List BS:=match Dy O i with | some q=>q::L9 O i | none=>O
def UL:List BS->List Nat->List BS
 | O,[]=>O
 | O,i::l=>UL (XC O i) l
theorem WN(O:List BS)(i:Nat):O.Perm (XC O i):=by
 unfold XC
 split
 ·rename_i q hq;exact D1 hq
 ·exact List.Perm.refl _
theorem Ou:∀ (l:List Nat) (O:List BS),O.Perm (UL O l)
 | [],_O=>List.Perm.refl _
 | i::l,O=>(WN O i).trans (Ou l (XC O i))
theorem Bd.CC[Dr]{w0 w:World}{O O':List BS}(l:List Nat)(h:Bd w0 O w)(e:UL O l=O'):Bd w0 O' w:=e ▸ h.perm (Ou l O).symm
theorem BC[Dr]{w0 w:World}{O O':List BS}(l:List Nat)(_:Bd w0 O w)(_:Bd w0 O' w)(e:UL O l=O'):Le (fz w O) (fz w O'):=by
 rw [<- e,I3 (Ou l O).symm];exact Le.refl _
abbrev DF[Dr](w0:World)(O:List BS)(w:World)(P:List BS->Prop):Prop:=Bd w0 O w/\P O
end Go.E
end
noncomputable section
namespace Go.L
def QP{α β:Type}(x:Option α)(ex:Option β)(k:α->Option β):Option β:=match x with
 | none=>ex
 | some y=>k y
theorem DG{α β:Type}{ex:Option β}{k:α->Option β}{e:β}(h:QP none ex k=some e):ex=some e:=h
theorem DH{α β:Type}{y:α}{ex:Option β}{k:α->Option β}{e:β}(h:QP (some y) ex k=some e):k y=some e:=h
end Go.L
namespace Go.E
open Go Go.RowKit
def Ua{α:Type}(r:Option α)(v:Option Value)(R:α->Value->Prop)(N:Prop):Prop:=match r,v with
 | none,none=>N
 | some x,some u=>R x u
 | _,_=>False
theorem DI{α:Type}{x:α}{u:Value}{R:α->Value->Prop}{N:Prop}(h:R x u):Ua (some x) (some u) R N:=h
theorem CM{α:Type}{R:α->Value->Prop}{N:Prop}(h:N):Ua none none R N:=h
abbrev Zc(v:Value):List PanicEntry:=[{v:=v,recovered:=false}]
abbrev Yt(v:Value):List PanicEntry:=[{v:=v,recovered:=true}]
def RqX(pv:Value)(R:Option Value->World->Prop):Ending->World->Prop
 | .returned v,w=>R (some v) w
 | .panicked c,w=>c=Zc pv/\R none w
 | .outgrown,_=>False
def SA(P:Program)(f:FuncId)(args:List Value)(w:World)(pv:Value)(R:Option Value->World->Prop):Prop:=
 Ip P f/\Calls P f args.toArray w (RqX pv R)
theorem SA.mono{P:Program}{f:FuncId}{args:List Value}{w:World}{pv:Value}{R R':Option Value->World->Prop}(h:SA P f args w pv R)(hr:∀ v w',R v w'->R' v w'):SA P f args w pv R':=
 ⟨h.1,h.2.mono fun e w' k=>by
  cases e with
  | returned v=>exact hr _ _ k
  | panicked c=>exact⟨k.1,hr _ _ k.2⟩
  | outgrown=>exact k⟩
def XD(P:Program)(fn:Func)(pv:Value)(R:Option Value->World->Prop):Exit->Act->World->Prop:=bodyPost P fn (RqX pv R)
def XE(P:Program)(fn:Func)(R:Value->World->Prop):Exit->Act->World->Prop:=bodyPostD P fn (Rq R)
theorem Sf{args:List Value}{L:Env}{k:Nat}(hk:Nat.ble args.length k=true)(hL:MB 0 args=L):Fr ⟨k,[]⟩ {tmps:=args.toArray++Array.replicate (k - args.toArray.size) undef,defers:=[]} L:=by
 have hk':args.length<=k:=by simpa [Nat.ble_eq] using hk
 refine⟨?_,rfl,?_⟩
 ·simp;omega
 ·intro t v ht;subst hL;have⟨_,h2⟩:=QH args 0 t v ht;simp only [Nat.sub_zero] at h2;have hlt:t<args.length:=(List.getElem?_eq_some_iff.1 h2).1;simp only [List.size_toArray];rw [Array.getElem?_append_left (by simpa using hlt)]
  simpa using h2
theorem I4{P:Program}{f:FuncId}{fn:Func}{c:Code}{args:List Value}{w:World}{pv:Value}{R:Option Value->World->Prop}{n:Nat}(L:Env)
  (hf : P.funcs[f]? = some fn) (hname : (fn.name == "runtime.NumGoroutine") = false) (hb : fn.body = some c) (hn : fn.ntmps = n) (hk : Nat.ble args.length n = true) (hL : MB 0 args = L)
  (h:W P ⟨n,[]⟩ c (XD P fn pv R) L w):SA P f args w pv R:=
 ⟨⟨fn,c,hf,hname,hb⟩,calls_of_wp hf hb (h _ (by rw [hn];exact Sf hk hL))⟩
theorem Yu{P:Program}{f:FuncId}{fn:Func}{c:Code}{args:List Value}{w:World}{R:Value->World->Prop}{n:Nat}(L:Env)
  (hf : P.funcs[f]? = some fn) (hname : (fn.name == "runtime.NumGoroutine") = false) (hb : fn.body = some c) (hn : fn.ntmps = n) (hk : Nat.ble args.length n = true) (hL : MB 0 args = L)
  (h:W P ⟨n,[]⟩ c (XE P fn R) L w):Ok P f args w R:=
 ⟨⟨fn,c,hf,hname,hb⟩,calls_of_wp_defers hf hb (h _ (by rw [hn];exact Sf hk hL))⟩
section
variable {P:Program} {n:Sz} {ops:Array Oper} {Q:Exit->Act->World->Prop} {L:Env} {w:World} {rest:List Oper} {d:Nat} {dst:Option Tmp} {ty:TypeId} {pos:String} {af:Array Edge} {pv:Value}
theorem OS{x:Operand}{t:TypeId}{u:Value}(hx:ev L x=some pv)(hp:pv=.iface t u)(h:At n Q (.panic (Zc pv)) L w):S P n ops Q (⟨dst,.panic x,ty,pos,af,none⟩::rest) L w:=
 QI rfl fun a fr=>by
  unfold Oper.wp
  have e:(execOp a.eval ⟨dst,.panic x,ty,pos,af,none⟩).run P w=.halt (.panic pv) w:=by
   subst hp;simp [execOp,fr.RC x _ hx,Instr.panic,goPanic]
  rw [e];exact h a fr
theorem Ab5{f:FuncId}{args:List Operand}{vs:List Value}{at_:Array TypeId}{R:Option Value->World->Prop}(ha:Qb L args=some vs)(hn:Nat.blt d n.n=true)(hok:SA P f vs w pv R)
  (b:∀ w',R none w'->At n Q (.panic (Zc pv)) L w') (h:∀ v w',R (some v) w'->S P n ops Q rest ((d,v)::L) w'):S P n ops Q (⟨some d,.call ⟨.value (.func f),args.toArray,at_⟩,ty,pos,af,none⟩::rest) L w:=
 QI rfl fun a fr=>by
  unfold Oper.wp;rw [JN hok.1 ha _ fr.RC];refine hok.2.mono fun e w' k=>?_
  cases e with
  | returned v=>exact h v w' k _ (fr.put hn)
  | panicked c=>obtain⟨rfl,k⟩:=k;exact b w' k a fr
  | outgrown=>exact k.elim
theorem FA{α:Type}{r:Option α}{f:FuncId}{args:List Operand}{vs:List Value}{at_:Array TypeId}{R:World->α->Value->Prop}{N:World->Prop}(ha:Qb L args=some vs)(hn:Nat.blt d n.n=true)
  (hok:SA P f vs w pv (fun v w'=>Ua r v (R w') (N w'))) (a:r=none->∀ w',N w'->At n Q (.panic (Zc pv)) L w')
  (h:∀ y,r=some y->∀ v w',R w' y v->S P n ops Q rest ((d,v)::L) w'):S P n ops Q (⟨some d,.call ⟨.value (.func f),args.toArray,at_⟩,ty,pos,af,none⟩::rest) L w:=
 Ab5 ha hn hok (fun w' hr=>by
  cases r with
  | none=>exact a rfl w' hr
  | some y=>exact hr.elim) (fun v w' hr=>by
  cases r with
  | none=>exact hr.elim
  | some y=>exact h y rfl v w' hr)
theorem B6{y:Code}{c:List PanicEntry}(h:At n Q (.panic c) L w):At n (Qc P y Q) (.panic c) L w:=h
theorem Fh{σ:Type}{I:σ->Env}{R:σ->World->Prop}{c:List PanicEntry}(h:At n Q (.panic c) L w):At n (V9 n I R Q) (.panic c) L w:=h
theorem Jc{σ:Type}{I:σ->Env}{R:σ->World->Prop}{μ:σ->Nat}{a:σ}{c:List PanicEntry}(h:At n Q (.panic c) L w):At n (Sr n I R μ a Q) (.panic c) L w:=h
theorem BD{id:Nat}{c:List PanicEntry}(h:At n Q (.panic c) L w):At n (Exit.inBlock id Q) (.panic c) L w:=h
theorem FR{k:Nat}{fn:Func}{R:Option Value->World->Prop}(h:At ⟨k,[]⟩ (Mk P fn (fun v w=>R (some v) w)) .ret L w):At ⟨k,[]⟩ (XD P fn pv R) .ret L w:=fun a fr=>by
 obtain⟨b,v,h2,u,h3,c⟩:=h a fr
 cases h3
 exact⟨b,_,h2,c⟩
theorem Ab6{k:Nat}{fn:Func}{R:Option Value->World->Prop}(h:At ⟨k,[]⟩ (Mk P fn (fun v w=>R (some v) w)) .normal L w):At ⟨k,[]⟩ (XD P fn pv R) .normal L w:=fun a fr=>by
 obtain⟨b,v,h2,u,h3,c⟩:=h a fr
 cases h3
 exact⟨b,_,h2,c⟩
theorem DJ{k:Nat}{fn:Func}{R:Option Value->World->Prop}(h:R none w):At ⟨k,[]⟩ (XD P fn pv R) (.panic (Zc pv)) L w:=fun _ fr=>⟨fr.defers,rfl,h⟩
def XF:TypeDesc->Bool
 | .interface _=>false
 | _=>true
theorem Ub[Dr]{t t':TypeId}{x:Operand}{v:Value}{w:World}{dd:TypeDesc}(hx:ev L x=some v)(ht:P.underlying t=some dd)(hd:XF dd=true):Bw P L w (.makeInterface t x) t' (.iface t v):=fun w' _ ρ hρ dst pos af g=>by
 cases dd <;> simp [XF] at hd <;> simp [execOp,hρ x _ hx,Instr.makeInterface,run_underlying ht]
theorem AcD{t:TypeId}{ms:Array (String×TypeId)}{w:World}(ht:P.underlying t=some (.interface ms))(x:Value)(hx:x=.nilIface\/∃ u v,x=.iface u v):(Op.equal t x .nilIface).run P w=.ok (match x with | .nilIface=>true | _=>false) w:=by
 unfold Op.equal;obtain⟨d,hd⟩:∃ d,Op.maxDepth=d+1:=⟨9999,rfl⟩;rw [hd]
 rcases hx with rfl | ⟨u,v,rfl⟩ <;> simp [Op.equalIn,run_underlying ht]
theorem Zz[Dr]{t t':TypeId}{x:Operand}{u:TypeId}{v:Value}{w:World}{ms:Array (String×TypeId)}(hx:ev L x=some (.iface u v))(ht:P.underlying t=some (.interface ms)):Bw P L w (.binOp .neq t x (.const .nilIface) t') ty (.bool true):=fun w' _ ρ hρ dst pos af g=>by
 have hy:ρ (.const .nilIface)=.nilIface:=hρ _ _ rfl;simp [execOp,hρ x _ hx,hy,eqGuard,binOp,AcD ht (.iface u v) (.inr ⟨u,v,rfl⟩)]
theorem AcE[Dr]{t t':TypeId}{x:Operand}{w:World}{ms:Array (String×TypeId)}(hx:ev L x=some .nilIface)(ht:P.underlying t=some (.interface ms)):Bw P L w (.binOp .neq t x (.const .nilIface) t') ty (.bool false):=fun w' _ ρ hρ dst pos af g=>by
 have hy:ρ (.const .nilIface)=.nilIface:=hρ _ _ rfl;simp [execOp,hρ x _ hx,hy,eqGuard,binOp,AcD ht .nilIface (.inl rfl)]
abbrev dfr(g:FuncId)(cap:List Value):Deferred:={target:=.fn (.func g) cap.toArray,args:=#[]}
theorem Ab7{k:Nat}{ds:List Deferred}{g:FuncId}{cap:List Value}{fo:Operand}(hf:ev L fo=some (.func (.func g) #[] cap.toArray))(h:S P ⟨k,dfr g cap::ds⟩ ops Q rest L w):
  S P ⟨k,ds⟩ ops Q (⟨none,.defer ⟨.value fo,#[],#[]⟩,ty,pos,af,none⟩::rest) L w:=
 QI rfl fun a fr=>by
  unfold Oper.wp
  have e:(execOp a.eval ⟨none,.defer ⟨.value fo,#[],#[]⟩,ty,pos,af,none⟩).run P w=.ok (.defer (dfr g cap)) w:=by
   simp [execOp,resolve,fr.RC fo _ hf,Deferred.ofValue]
  rw [e];refine h _ ⟨fr.size,?_,fr.get⟩
  show dfr g cap::a.defers=_
  rw [fr.defers]
def OkF(P:Program)(g:FuncId)(cap:List Value)(u u':FrameMode)(w:World)(R:World->Prop):Prop:=
 Ip P g/\CallsD P g cap.toArray u w (fun e a w'=>(∃ v,e=.returned v)/\a=u'/\R w')
theorem SB{fn:Func}{tmps:Array Value}{R:Ending->World->Prop}{g:FuncId}{cap:List Value}{u u':FrameMode}{Rd:World->Prop}(hu:u≠.run)(hs:settle u'=.returning)(h:OkF P g cap u u' w Rd)
  (hr:∀ w',Rd w'->∃ v,(results fn tmps).run P w'=.ok v w'/\R (.returned v) w'):Leaves P fn tmps R [dfr g cap] u w:=by
 obtain ⟨fn', c, b, h2, h3⟩ := h.1;have h2' : ¬ fn'.name = "runtime.NumGoroutine" := by simpa using h2
 refine leaves_cons (f:=g) (args:=cap.toArray) hu (by simp [invoke,callFunc,b,h2',h3]) (h.2.mono fun e d w' ⟨⟨v,he⟩,a,hR⟩=>?_);subst he;subst a;simp only [hs,Leaves];exact hr w' hR
theorem Ab8{k:Nat}{fn:Func}{R:Value->World->Prop}{g:FuncId}{cap:List Value}{Rd:World->Prop}(h:OkF P g cap .returning .returning w Rd)
  (hr:∀ w',Rd w'->∀ a,Fr ⟨k,[dfr g cap]⟩ a L->∃ v,(results fn a.tmps).run P w'=.ok v w'/\R v w'):At ⟨k,[dfr g cap]⟩ (XE P fn R) .ret L w:=fun a fr=>by
 show Leaves P fn a.tmps (Rq R) a.defers .returning w
 rw [fr.defers];exact SB (by simp) rfl h fun w' hR=>by obtain⟨v,b,h2⟩:=hr w' hR a fr;exact⟨v,b,v,rfl,h2⟩
theorem XG{k:Nat}{fn:Func}{R:Value->World->Prop}{g:FuncId}{cap:List Value}{Rd:World->Prop}(h:OkF P g cap (.panicking (Zc pv)) (.panicking (Yt pv)) w Rd)
  (hr:∀ w',Rd w'->∀ a,Fr ⟨k,[dfr g cap]⟩ a L->∃ v,(results fn a.tmps).run P w'=.ok v w'/\R v w'):At ⟨k,[dfr g cap]⟩ (XE P fn R) (.panic (Zc pv)) L w:=fun a fr=>by
 show Leaves P fn a.tmps (Rq R) a.defers (.panicking (Zc pv)) w
 rw [fr.defers];exact SB (by simp) rfl h fun w' hR=>by obtain⟨v,b,h2⟩:=hr w' hR a fr;exact⟨v,b,v,rfl,h2⟩
theorem Z0{k:Nat}{fn:Func}{R:Value->World->Prop}(h:At ⟨k,[]⟩ (Mk P fn R) .ret L w):At ⟨k,[]⟩ (XE P fn R) .ret L w:=fun a fr=>by
 obtain⟨b,v,h2,h3⟩:=h a fr
 show Leaves P fn a.tmps (Rq R) a.defers .returning w
 rw [fr.defers];exact⟨v,h2,h3⟩
theorem SC{fn:Func}{q q':ResultVar}{v v':Value}{a:Act}(hl:fn.results = #[q,q'])(h:Got P L w q v)(h':Got P L w q' v')(fr:Fr n a L):(results fn a.tmps).run P w=.ok (.tuple #[v,v']) w:=by
 rw [PK,hl];simp [h.run fr,h'.run fr]
inductive Z1 (pv:Value):FrameMode->FrameMode->Value->Prop
 | no:Z1 pv .returning .returning .nilIface
 | yes:Z1 pv (.panicking (Zc pv)) (.panicking (Yt pv)) pv
theorem QQ[Dr]{g:FuncId}{fn:Func}{cap:List Value}{u u':FrameMode}{rv f:Value}{k id a d:Nat}{op2:Op}{ty1 ty2:TypeId}{pos1 pos2:String}{af1 af2:Array Edge}{at_:Array TypeId}{y:Code}{R:World->Prop}(L:Env)
  (hf : P.funcs[g]? = some fn) (hname : (fn.name == "runtime.NumGoroutine") = false)
  (hb:fn.body=some (.seq (.region id #[⟨some a,.call ⟨.builtin .recover,#[],at_⟩,ty1,pos1,af1,none⟩,⟨some d,op2,ty2,pos2,af2,none⟩] false) y)) (hk:fn.ntmps=k) (hkl:Nat.ble cap.length k=true) (hL:MB 0 cap=L)
  (n:Nat.blt a k=true) (o:Nat.blt d k=true) (hrec:Z1 pv u u' rv) (h2:Bw P ((a,rv)::L) w op2 ty2 f)
  (h:W P ⟨k,[]⟩ y (Mk P fn (fun _ w'=>R w')) ((d,f)::(a,rv)::L) w):OkF P g cap u u' w R:=by
 refine⟨⟨fn,_,hf,hname,hb⟩,callsD_of_wpS hf hb fun b cs hu=>?_⟩;have fr0:=Sf (k:=k) hkl hL;rw [<- hk] at fr0;refine wpS_seq (wpS_region ?_)
 have r:∀ ρ:Operand->Value,(execOp ρ ⟨some a,.call ⟨.builtin .recover,#[],at_⟩,ty1,pos1,af1,none⟩).run P w=.ok .recover w:=fun ρ=>by
  simp [execOp,resolve,invoke,builtin]
 have fr1:Fr ⟨k,[]⟩ ((⟨cap.toArray++Array.replicate (fn.ntmps - cap.toArray.size) undef,[]⟩:Act).put (some a) rv) ((a,rv)::L):=by rw [hk] at fr0 ⊢;exact fr0.put n
 have fr2:=fr1.put (v:=f) o;have p:=h2 w (Ext.refl w) _ fr1.RC (some d) pos2 af2 none;have hw:=h _ fr2
 have hlast:∀ c0':Frame,c0'.mode=u'->({b with mode:=u'}:Frame)=c0'->y.wpS P (bodyPostS P fn b cs fun e s w'=>(∃ v,e=.returned v)/\s=u'/\R w')
   (((⟨cap.toArray++Array.replicate (fn.ntmps - cap.toArray.size) undef,[]⟩:Act).put (some a) rv).put (some d) f) (c0'::cs) w:=by
  intro c0' _ he;refine wpS_of_wp (wp_mono hw fun e a' w' q=>?_)
  cases e with
  | normal=>obtain⟨i,v,j,u,t,m⟩:=q;exact⟨i,u',by rw [he],v,j,⟨v,rfl⟩,rfl,m⟩
  | ret=>obtain⟨i,v,j,u,t,m⟩:=q;exact⟨i,u',by rw [he],v,j,⟨v,rfl⟩,rfl,m⟩
  | panic c=>obtain⟨_,v,q,_⟩:=q;cases q
  | exit id=>exact q.elim
  | goto l=>exact q.elim
  | outgrown=>obtain⟨v,q,_⟩:=q;cases q
 have hr:List.range (#[⟨some a,.call ⟨.builtin .recover,#[],at_⟩,ty1,pos1,af1,none⟩,⟨some d,op2,ty2,pos2,af2,none⟩]:Array Oper).size=[0,1]:=rfl;rw [hr];simp only [wpOpsS,List.getElem?_toArray,List.getElem?_cons_zero,List.getElem?_cons_succ,Region.wanted,if_true,r]
 cases hrec with
 | no=>
  have:recoverD (b::cs)=none:=by simp [recoverD,hu]
  simp only [this,p,Oper.upon];exact hlast b hu (by rw [<- hu])
 | yes=>
  have:recoverD (b::cs)=some (pv,{b with mode:=.panicking (Yt pv)}::cs):=by simp [recoverD,hu]
  simp only [this,p,Oper.upon];exact hlast {b with mode:=.panicking (Yt pv)} rfl rfl
end
end Go.E
namespace Go.E
open Go Go.RowKit
def Li(Q:Exit->Act->World->Prop):Prop:=∀ a w,¬ Q .outgrown a w
section
variable {P:Program} {n:Sz} {Q:Exit->Act->World->Prop} {L:Env} {w:World}
theorem Hn{fn:Func}{R:Value->World->Prop}:Li (Mk P fn R):=fun _ _ ⟨_,h,_⟩=>by cases h
theorem C1{y:Code}(h:Li Q):Li (Qc P y Q):=fun a w k=>h a w k
theorem Ku{σ:Type}{I:σ->Env}{R:σ->World->Prop}(h:Li Q):Li (V9 n I R Q):=fun a w k=>h a w k
theorem CL{σ:Type}{I:σ->Env}{R:σ->World->Prop}{μ:σ->Nat}{x:σ}(h:Li Q):Li (Sr n I R μ x Q):=fun a w k=>h a w k
theorem Bq{id:Nat}(h:Li Q):Li (Exit.inBlock id Q):=fun a w k=>h a w k
theorem FB(h:Li Q):Li (Exit.noGoto Q):=fun a w k=>h a w k
theorem UM{c:Code}(h:W P n c (Exit.noGoto Q) L w):W P n (.scope c) Q L w:=fun a fr=>wp_scope_straight (h a fr)
theorem Ab9{l:Nat}(h:At n Q .normal L w):W P n (.label l) Q L w:=fun a fr=>wp_label (h a fr)
theorem Z2(h:At n Q .normal L w):At n (Exit.noGoto Q) .normal L w:=h
theorem I5(h:At n Q .ret L w):At n (Exit.noGoto Q) .ret L w:=h
end
def Wid(F:Fence):Prop:=F=Fence.wide\/∃ l,F=Fence.wide.inRound l
theorem Wid.fn{F:Fence}(h:Wid F)(f:FuncId):F.fn f:=by rcases h with rfl | ⟨l,rfl⟩ <;> exact trivial
theorem Wid.dep{F:Fence}(h:Wid F):F.depth=none:=by rcases h with rfl | ⟨l,rfl⟩ <;> rfl
theorem Wid.calls{F:Fence}(h:Wid F){n:Nat}{P:Program}{f:FuncId}{args:Array Value}{w:World}{R:Ending->World->Prop}(k:Calls P f args w R):CallsIn F n P f args w R:=by
 rcases h with rfl | ⟨l,rfl⟩
 ·exact callsIn_wide.2 k
 ·exact(callsIn_wide.2 k).inRound l
theorem Wid.rows{F:Fence}(h:Wid F){n:Nat}{P:Program}{row:String}{args:Array Value}{w:World}{R:Value->World->Prop}(k:Rows P row args w R):RowsIn F n P row args w R:=by
 intro c cs _;obtain⟨v,w',hR,hs⟩:=k c cs;refine⟨v,w',hR,?_⟩
 rcases h with rfl | ⟨l,rfl⟩
 ·exact stepsIn_wide.2 hs
 ·rw [fenced_inRound];exact stepsIn_wide.2 hs
def Qg:Op->Bool
 | .defer _=>true
 | _=>false
theorem Z3{o:Op}(h:Qg o=false):∀ c,o≠.defer c:=fun c e=>by subst e;cases h
section
variable {P:Program} {n:Sz} {ops:Array Oper} {Q:Exit->Act->World->Prop} {L:Env} {w:World} {rest:List Oper}
theorem SD{F:Fence}(hF:Wid F){o:Oper}(hd:Qg o.op=false){next:Act->World->Prop}{a:Act}(h:o.wp P a w next Q):o.wpIn F 0 P a w next Q:=by
 refine⟨fun f _=>hF.fn f,?_⟩;rw [Oper.semAt_eq _ _ _ (Z3 hd)];unfold Oper.wp at h;generalize (execOp a.eval o).run P w=r at h ⊢;have b:F.depth.isSome=true->1<=0:=fun e=>by rw [hF.dep] at e;cases e
 cases r with
 | ok nx w'=>
  cases nx <;> simp only [Oper.upon] at h <;> simp only [Oper.uponIn]
  case value v=>exact h
  case skip=>exact h
  case defer d=>exact h
  case enter f args=>exact⟨b,(hF.calls h).mono fun e w' k=>by cases e <;> exact k⟩
  case row row args=>exact⟨b,hF.rows h⟩
 | halt x w'=>cases x <;> simp only [Oper.upon] at h <;> simp only [Oper.uponIn];exact h
theorem J4{F:Fence}(hF:Wid F)(hq:Li Q):∀ (l:List Oper) (a:Act) (w:World),l.all (fun o=>!Qg o.op)=true->wpList P ops Q l a w->wpListIn F 0 P ops Q l a w
 | [],_,_,_,h=>h
 | o::l,a,w,hd,h=>by
  simp only [List.all_cons,Bool.and_eq_true,Bool.not_eq_true'] at hd;simp only [wpList] at h;simp only [wpListIn]
  split
  ·rename_i hw;rw [if_pos hw] at h
   rcases h with h | ⟨_,a',w',h⟩
   ·have b:=SD hF hd.1 h;exact Oper.wpIn_mono (fun a w k=>J4 hF hq l a w (by simpa using hd.2) k) b
   ·exact absurd h (hq a' w')
  ·rename_i hw;rw [if_neg hw] at h;exact⟨fun f _=>hF.fn f,J4 hF hq l _ _ (by simpa using hd.2) h⟩
def SY(P:Program)(n:Sz)(ops:Array Oper)(Q:Exit->Act->World->Prop)(l:List Oper)(L:Env)(w:World):Prop:=∀ a,Fr n a L->wpListIn Fence.wide 0 P ops Q l a w
def yQ(P:Program)(ops:Array Oper)(Q:Exit->Act->World->Prop)(rest:List Oper):Exit->Act->World->Prop:=Exit.then (fun a w=>wpListIn Fence.wide 0 P ops Q rest a w) Q
theorem Adn{id:Nat}{l:List Oper}(h:SY P n l.toArray Q l L w):W P n (.region id l.toArray false) Q L w:=fun a fr=>(wpIn_wide (n:=0)).1 (wpIn_region_lit (h a fr))
theorem Z4{id:Nat}{l:List Oper}{y:Code}(h:SY P n l.toArray (Qc P y Q) l L w):W P n (.seq (.region id l.toArray false) y) Q L w:=A7 (Adn h)
theorem QR{y:Code}(h:W P n y Q L w):SY P n ops (Qc P y Q) [] L w:=fun a fr=>h a fr
theorem LD{o:Oper}(hq:Li Q)(hd:Qg o.op=false)(h:S P n ops (yQ P ops Q rest) [o] L w):SY P n ops Q (o::rest) L w:=fun a fr=>by
 have b:=h a fr;simp only [wpList] at b;simp only [wpListIn]
 split
 ·rename_i hw;rw [if_pos hw] at b
  rcases b with b | ⟨_,a',w',b⟩
  ·have h2:=SD (.inl rfl) hd b
   have hm:∀ {r:Result Next},o.uponIn Fence.wide 0 P a (fun a w=>yQ P ops Q rest .normal a w) (yQ P ops Q rest) r->o.uponIn Fence.wide 0 P a (wpListIn Fence.wide 0 P ops Q rest) Q r:=by
    intro r hr
    cases r with
    | ok nx w'=>cases nx <;> exact hr
    | halt x w'=>cases x <;> exact hr
   exact⟨h2.1,hm h2.2⟩
  ·exact absurd b (hq a' w')
 ·rename_i hw;rw [if_neg hw] at b;exact⟨fun _ _=>trivial,b⟩
theorem Ho(h:SY P n ops Q rest L w):S P n ops (yQ P ops Q rest) [] L w:=fun a fr=>h a fr
theorem Z5{s:Nat}{b:Bool}(_hb:gt L s=some (.bool b))(a:b=true->SY P n ops Q rest L w)(h2:b=false->SY P n ops Q rest L w):SY P n ops Q rest L w:=by
 cases b
 ·exact h2 rfl
 ·exact a rfl
theorem VR{d l:Nat}{fo:Operand}{args:List Operand}{vs:List Value}{at_:Array TypeId}{ty:TypeId}{pos:String}{af:Array Edge}{R:World->Prop}(hf:ev L fo=some (.func (.yield l) #[] #[]))(ha:Qb L args=some vs)(hn:Nat.blt d n.n=true)
  (hy:YieldAt Fence.wide 0 P l vs.toArray w (fun e w'=>e=.returned (.bool true)/\R w')) (h:∀ w',R w'->SY P n ops Q rest ((d,.bool true)::L) w'):SY P n ops Q (⟨some d,.call ⟨.value fo,args.toArray,at_⟩,ty,pos,af,none⟩::rest) L w:=fun a fr=>by
 obtain⟨fn,tmps,assign,body,hrun,hround⟩:=hy;simp only [wpListIn];rw [if_pos (by simp [Region.wanted])];refine⟨fun _ _=>trivial,?_⟩;have b:=fr.RC.map _ _ ha
 have e:(Oper.semAt Fence.wide.round a.eval ⟨some d,.call ⟨.value fo,args.toArray,at_⟩,ty,pos,af,none⟩).run P w=.ok (.round l fn tmps assign body) w:=by
  rw [Oper.semAt_eq _ _ _ (fun c h=>by cases h)];simp [execOp,resolve,fr.RC fo _ hf,Deferred.ofValue,invoke,b,hrun]
 rw [e];refine⟨fun h=>by simp [Fence.wide] at h,hround.mono fun e w' ⟨he,hR⟩=>?_⟩;subst he;exact h w' hR _ (fr.put hn)
theorem Nz{dst:Option Tmp}{op:Op}{j:Nat}{want b:Bool}{t:Nat}{ty:TypeId}{pos:String}{af:Array Edge}(hj:((ops[j]?).bind (·.dst))=some t)(hb:gt L t=some (.bool b))(hw:b=want)
  (h:SY P n ops Q (⟨dst,op,ty,pos,af,none⟩::rest) L w):SY P n ops Q (⟨dst,op,ty,pos,af,some (j,want)⟩::rest) L w:=fun a fr=>by
 have c:=h a fr;simp only [wpListIn] at c ⊢;have hy:yielded ops a.tmps j=some b:=by simp [yielded,hj,fr.get t _ hb]
 have hwant:Region.wanted ⟨dst,op,ty,pos,af,some (j,want)⟩ (yielded ops a.tmps)=true:=by simp [Region.wanted,hy,hw]
 rw [if_pos hwant];have d:Region.wanted ⟨dst,op,ty,pos,af,none⟩ (yielded ops a.tmps)=true:=by simp [Region.wanted]
 rw [if_pos d] at c;exact c
end
abbrev yR[Dr](l D b:Nat)(rec:Loop)(tb te:TypeId)(sz:Nat)(v:Value)(k:Nat)(xs:List Value):List BS:=
 [.obj l (.loop rec),.obj D (.deferred (some [])),.box b [v] tb,.row v te sz k xs]
def Z6[Dr](P:Program){α:Type}(r:Rp α)(sz bt:Nat)(l D b:Nat)(rec:Loop)(tb te:TypeId):Prop:=
 ∀
  {d w:World} {H:PH} {O:List BS} {v u:Value} {xs c:List Value} {a:List α} {x:α},Le H (hp d)->Bd d (yR l D b rec tb te sz v a.length xs++O) w->
  AJ r (gz H d w (yR l D b rec tb te sz v a.length xs++O)) a xs->u.cells.toList=c->r.rel (gz H d w (yR l D b rec tb te sz v a.length xs++O)) x c->J3 bt (a.length+1)->
  YieldAt Fence.wide 0 P l #[u] w (fun e w'=>e=.returned (.bool true)/\∃ v' xs',Bd d (yR l D b rec tb te sz v' (a++[x]).length xs'++O) w'/\
   Le (fz w (yR l D b rec tb te sz v a.length xs++O)) (fz w' (yR l D b rec tb te sz v' (a++[x]).length xs'++O))/\AJ r (gz H d w' (yR l D b rec tb te sz v' (a++[x]).length xs'++O)) (a++[x]) xs')
def WR(P:Program)(l:Nat)(n:Sz)(c:Code)(Q:Exit->Act->World->Prop)(L:Env)(w:World):Prop:=∀ a,Fr n a L->c.wpIn (Fence.wide.inRound l) 0 P Q a w
section
variable {P:Program} {j:Nat} {n:Sz} {Q:Exit->Act->World->Prop} {L:Env} {w:World}
theorem Uc{id:Nat}{l:List Oper}(hd:l.all (fun o=>!Qg o.op)=true)(hq:Li Q)(h:S P n l.toArray Q l L w):WR P j n (.region id l.toArray false) Q L w:=fun a fr=>
 wpIn_region_lit (J4 (.inr ⟨j,rfl⟩) hq l a w hd (h a fr))
theorem Z7{id:Nat}{c:Code}(h:WR P j n c (Exit.inBlock id Q) L w):WR P j n (.block id c) Q L w:=fun a fr=>wpIn_block (h a fr)
theorem Bd.putAt[Dr]{a:World}{O:List BS}{i b:Nat}{o:Obj}(o':Obj)(hL:Bd a O w)(hi:Dy O i=some (.obj b o)):Bd a (CX O i (.obj b o')) (w.putObj b o')/\Le (fz w O) (fz (w.putObj b o') (CX O i (.obj b o'))):=by
 have hg:w.grownBy (w.putObj b o') (some b):=⟨rfl,rfl,rfl,by simp,fun k _ hk=>World.putObj_heap_other (fun e=>hk (by rw [e]))⟩;have hlt:b<w.heap.size:=(hL.at hi).lt rfl;exact⟨hL.MC hi (Nat.le_refl _) hg (World.putObj_heap_same hlt) (fun k e=>.inl e),HK hL hi hg (fun k e=>.inl e)⟩
def Ado(P:Program)(l:Nat)(body:Code)(R:Ending->World->Prop):Exit->Act->World->Prop:=
 Exit.then (fun a₁ w₁=>∃ w₂,(Instr.beginRound l).run P w₁=.ok () w₂/\body.wpIn (Fence.wide.inRound l) 0 P (roundPost P l R) a₁ w₂) (fun _ _ _=>False)
theorem AbA{l:Nat}{body:Code}{R:Ending->World->Prop}:Li (Ado P l body R):=fun _ _ h=>h
theorem Z8{l:Nat}{R:Ending->World->Prop}:Li (roundPost P l R):=fun _ _ h=>h
theorem Z9[Dr]{l i:Nat}{rec:Loop}{body:Code}{R:Ending->World->Prop}{b:World}{O:List BS}(hst:rec.state=.ready)(hL:Bd b O w)(hi:Dy O i=some (.obj l (.loop rec)))
  (h:∀ w',Bd b (CX O i (.obj l (.loop {rec with state:=.busy}))) w'->Le (fz w O) (fz w' (CX O i (.obj l (.loop {rec with state:=.busy}))))->WR P l n body (roundPost P l R) L w'):At n (Ado P l body R) .normal L w:=fun a fr=>by
 have c:=hL.at hi;have hp:=hL.putAt (.loop {rec with state:=.busy}) hi;exact⟨_,run_beginRound c hst,h _ hp.1 hp.2 a fr⟩
theorem UN[Dr]{l i:Nat}{rec:Loop}{R:Ending->World->Prop}{b:World}{O:List BS}(hL:Bd b O w)(hi:Dy O i=some (.obj l (.loop rec)))
  (h:∀ w',Bd b (CX O i (.obj l (.loop {rec with state:=.ready,pending:=none}))) w'->Le (fz w O) (fz w' (CX O i (.obj l (.loop {rec with state:=.ready,pending:=none}))))->R (.returned (.bool true)) w'):At n (roundPost P l R) .normal L w:=fun a _=>by
 have c:=hL.at hi;have hp:=hL.putAt (.loop {rec with state:=.ready,pending:=none}) hi;exact⟨_,_,run_endRound none c,h _ hp.1 hp.2⟩
theorem ZA[Dr]{α:Type}{r:Rp α}{sz bt l D b p k:Nat}{rec:Loop}{tb te:TypeId}{Lr:Env}(_hst:rec.state=.ready)(_hpe:rec.pending=none)(hps:rec.params = #[p])(fr:Fr ⟨k,[]⟩ ⟨rec.tmps,[]⟩ Lr)(hpk:Nat.blt p k=true)
  (hround:∀ {f w:World} {H:PH} {O:List BS} {v u:Value} {xs c:List Value} {a:List α} {x:α},Le H (hp f)->Bd f (yR l D b rec tb te sz v a.length xs++O) w->
   AJ r (gz H f w (yR l D b rec tb te sz v a.length xs++O)) a xs->u.cells.toList=c->r.rel (gz H f w (yR l D b rec tb te sz v a.length xs++O)) x c->J3 bt (a.length+1)->
   WR P l ⟨k,[]⟩ rec.assign (Ado P l rec.body (fun e w'=>e=.returned (.bool true)/\∃ v' xs',Bd f (yR l D b rec tb te sz v' (a++[x]).length xs'++O) w'/\
    Le (fz w (yR l D b rec tb te sz v a.length xs++O)) (fz w' (yR l D b rec tb te sz v' (a++[x]).length xs'++O))/\AJ r (gz H f w' (yR l D b rec tb te sz v' (a++[x]).length xs'++O)) (a++[x]) xs')) ((p,u)::Lr) w) :
  Z6 P r sz bt l D b rec tb te:=fun {f w H O v u xs c a x} hH hL he hu hx hc=>by
 refine⟨rec.fn,_,rec.assign,rec.body,run_yield (hL.at (i:=0) rfl) (by rw [hps];rfl),roundIn_of_wpIn trivial ?_⟩;rw [hps];have e:((#[p]:Array Tmp).zip #[u]).foldl (fun tmps (x:Tmp×Value)=>tmps.setIfInBounds x.1 x.2) rec.tmps=rec.tmps.setIfInBounds p u:=by simp
 rw [show _=_ from e];exact hround hH hL he hu hx hc _ (fr.put (d:=p) (v:=u) hpk)
theorem AbB[Dr]{g:FuncId}{cap:List Value}{go:Operand}{ps:Array Tmp}{assign body:Code}(hg:ev L go=some (.func (.func g) #[] cap.toArray))(hc:Ip P g){f:World}{O:List BS}(hL:Bd f O w)
  (h:∀ (a:Act),Fr n a L->∀ (fn:FuncId) (l D:Nat) (m:World) (rec:Loop),rec={state:=.ready,pending:=none,fn,tmps:=a.tmps,params:=ps,assign,body,defers:=D}->
   Bd f (.obj l (.loop rec)::.obj D (.deferred (some []))::O) m->Le (fz w O) (fz m (.obj l (.loop rec)::.obj D (.deferred (some []))::O))->
   Calls P g (#[.func (.yield l) #[] #[]]++cap.toArray) m (fun e o=>(∃ v,e=.returned v)/\∃ O',Bd f (.obj l (.loop rec)::O') o/\
    ∀
     p,Bd f (.obj l (.loop {rec with state:=.exhausted})::O') p->Le (fz o (.obj l (.loop rec)::O')) (fz p (.obj l (.loop {rec with state:=.exhausted})::O'))->
     At ⟨n.n,{target:=.collected D,args:=#[]}::n.d⟩ Q .normal L p)):W P n (.rangeFunc go ps assign body) Q L w:=fun a fr=>by
 refine (wpIn_wide (n := 0)).1 (wpIn_rangeFunc fun fn _ => ?_);obtain ⟨fn', c, t, h2, h3⟩ := hc;have h2' : ¬ fn'.name = "runtime.NumGoroutine" := by simpa using h2
 have q:=hL.new (r:=.obj w.heap.size (.deferred (some []))) (C8 w (.deferred (some []))) (show(w.alloc _).heap[w.heap.size]? = _ from World.alloc_heap_new w _) (fun b hb=>by cases hb;exact Nat.le_refl _);have f1:=PF hL (r:=.obj w.heap.size (.deferred (some []))) (C8 w (.deferred (some []))) (fun b hb=>by cases hb;exact Nat.le_refl _);have hs:(w.alloc (.deferred (some []))).heap.size=w.heap.size+1:=by simp
 have s:=q.new (r:=.obj (w.heap.size+1) (.loop {state:=.ready,pending:=none,fn,tmps:=a.tmps,params:=ps,assign,body,defers:=w.heap.size})) (C8 _ _)
  (by rw [<- hs];exact World.alloc_heap_new _ _) (fun b hb=>by cases hb;exact Nat.le_of_eq hs)
 have f2:=PF q (r:=.obj (w.heap.size+1) (.loop {state:=.ready,pending:=none,fn,tmps:=a.tmps,params:=ps,assign,body,defers:=w.heap.size})) (C8 _ (.loop {state:=.ready,pending:=none,fn,tmps:=a.tmps,params:=ps,assign,body,defers:=w.heap.size}))
  (fun b hb=>by cases hb;exact Nat.le_of_eq hs)
 obtain⟨W1,j⟩:∃ W1,W1=(w.alloc (.deferred (some []))).alloc (.loop {state:=.ready,pending:=none,fn,tmps:=a.tmps,params:=ps,assign,body,defers:=w.heap.size}):=⟨_,rfl⟩;rw [<- j] at s f2;have hcall:=h a fr fn (w.heap.size+1) w.heap.size W1 _ rfl s (f1.trans f2);refine⟨w.heap.size+1,[{target:=.collected w.heap.size,args:=#[]}],W1,{target:=.fn (.func g) cap.toArray,args:=#[.func (.yield (w.heap.size+1)) #[] #[]]},W1,g,#[.func (.yield (w.heap.size+1)) #[] #[]]++cap.toArray,W1,by rw [j];exact run_enterLoop_outer _ _ _ _ _,?_,fun _ _=>trivial,?_,fun e=>by simp [Fence.wide] at e,?_⟩
 ·have hgo:=fr.RC go _ hg;simp only [resolve,hgo];simp [Deferred.ofValue,Act.eval]
 ·simp [invoke,callFunc,t,h2',h3]
 ·refine(callsIn_wide.2 hcall).mono fun e o ⟨⟨v,he⟩,O',k,hk⟩=>?_;subst he;have hp:=k.putAt (i:=0) (.loop {state:=.exhausted,pending:=none,fn,tmps:=a.tmps,params:=ps,assign,body,defers:=w.heap.size}) rfl;refine⟨none,_,run_endLoop (k.at (i:=0) rfl) (by simp),?_⟩;exact hk _ hp.1 hp.2 {a with defers:=[{target:=.collected w.heap.size,args:=#[]}]++a.defers} ⟨fr.size,by rw [fr.defers];rfl,fr.get⟩
def AcG(P:Program)(fn:Func)(R:Value->World->Prop):Exit->Act->World->Prop:=bodyPostM Fence.wide 0 P fn (Rq R)
theorem Yv{f:FuncId}{fn:Func}{c:Code}{args:List Value}{R:Value->World->Prop}{k:Nat}(L:Env)
  (hf : P.funcs[f]? = some fn) (hname : (fn.name == "runtime.NumGoroutine") = false) (hb : fn.body = some c) (hn : fn.ntmps = k) (hk : Nat.ble args.length k = true) (hL : MB 0 args = L)
  (h:W P ⟨k,[]⟩ c (AcG P fn R) L w):Ok P f args w R:=
 ⟨⟨fn,c,hf,hname,hb⟩,callsIn_wide.1 (callsIn_of_wp_marks hf hb trivial ((wpIn_wide (n:=0)).2 (h _ (by rw [hn];exact Sf hk hL))))⟩
theorem AbC[Dr]{k D i:Nat}{fn:Func}{R:Value->World->Prop}{l:List ResultVar}{v:Value}{b:World}{O:List BS}(hl:fn.results=l.toArray)(hr:Oh l L=some v)(hL:Bd b O w)(hi:Dy O i=some (.obj D (.deferred (some []))))
  (h:∀ w',Bd b (CX O i (.obj D (.deferred none))) w'->Le (fz w O) (fz w' (CX O i (.obj D (.deferred none))))->R v w'):At ⟨k,[{target:=.collected D,args:=#[]}]⟩ (AcG P fn R) .ret L w:=fun a fr=>by
 show LeavesInM Fence.wide 0 P fn a.tmps (Rq R) a.defers .returning w
 rw [fr.defers];have hp:=hL.putAt (.deferred none) hi;exact⟨by simp,.inl ⟨_,_,rfl,run_takeDeferred (hL.at hi),v,Ss fr hl hr,v,rfl,h _ hp.1 hp.2⟩⟩
end
end Go.E
end
