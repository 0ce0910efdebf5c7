/- Texts of a claim, merged. -/
import Derived.Test.YtekmbcbgknmhiaaGreatDoorLt6
import Derived.KernelRfl
open _root_.Go.Proofs.Tryz renaming underlying5→AcH,underlying23→Afr,underlying24→Aj6,underlying86→AjF,underlying82→AjH,underlying28→Aje,underlying26→Ajl
open Option renaming bind->Qq4,bind_some->Qq6,map->Qq7
open List renaming getD_eq_getElem?_getD->Qq9,getElem?_eq_getElem->Qzj,length_map->Qzk,length_cons->Qzw,length_append->Qzu,range->Qzv,mem_cons_of_mem->QzC,mem_cons->Qzy,mem_cons_self->Qz0,mem_singleton->QzB,length_nil->Qzd,mem_append->QzQ,length_take->QzK,take_of_length_le->Qxj,pairwise_cons->Qz1,map_cons->Qze,append_nil->QzZ,mem_range->QzX,getElem?_map->Qz6,mem_map->QzJ,getElem_mem->Qz9,flatMap_cons->Qxd,length_range->QxQ,take_add_one->QxJ,map_append->Qxa,nil_append->Qxv,length_singleton->QxD,range_succ->QxB,countP_cons->Qx2,take_length->Qx4,cons_append->QxZ,mem_filter->Qx3,append_assoc->QxX,countP_append->QkQ,length_filter_le->Qkd,drop_zero->QxE,pairwise_map->Qkx,not_mem_nil->Qkw,pairwise_singleton->QkJ,countP_congr->Qk3,countP_singleton->Qjw,countP_le_length->Qjv,pairwise_append->Qjy,filter_append->Qjj,range'->Qx8
open Int renaming toNat_natCast->Qq8,lt_trichotomy->Qke
open Prod renaming fst->Qq5,snd->Qzf
open Nat renaming le_refl->Qzx,zero_le->Qz3,lt_or_ge->Qxx,add_sub_cancel->Qkz,add_mul->Qx6
open Bool renaming and_eq_true->Qzb,or_eq_true->Qz8,false_ne_true->QkC
open ByteArray renaming size->Qxc
set_option linter.unusedVariables false
set_option linter.unusedSimpArgs false
set_option linter.unusedSectionVars false
noncomputable section
namespace Go.L
theorem AeJ{α:Type}[Inhabited α](f:α->Nat){l:List α}{i:Nat}(h:i<l.length):((l.drop i).map f).sum=f (l.getD i Qq2)+((l.drop (i+1)).map f).sum:=by rw [drop_cons h];simp
end Go.L
namespace Go.Proofs.YtekmbcbgknmhiaaGreatDoor
open Go Go.L
theorem Z0{d:Nat}{v:Pv}{a2:Int}{self:Pv->Int->Int->Option (Int×(Int×Int))}(hlen:v.f.2.2.2.2.length<=1000)(ha:Bz (a2+1))
  (hs:∀ p∈v.f.2.2.2.2,∀ m:Int,0<=m->∃ r,self p m (a2+1)=some r/\((r.2=(0,0)/\Vd d p/\r.1=m+(nodes d p:Nat)/\r.1<=600)\/r.2.1≠0)) :
  ∀ (k i:Nat) (m:Int),i+k=v.f.2.2.2.2.length->0<=m->m<=600->∃ r,Go.L.run (CG v a2 self) (m,(i:Int))=some r/\((r.2=(0,0)/\(∀ p∈v.f.2.2.2.2.drop i,Vd d p)/\r.1=m+(((v.f.2.2.2.2.drop i).map (nodes d)).sum:Nat)/\r.1<=600)\/r.2.1≠0)
 | 0,i,m,hi,a,b=>by
  refine⟨(m,0,0),AP (m:=some (m,0,0)) ?_,.inl ⟨Z,?_⟩⟩
  ·unfold CG GX;dsimp only;rw [if_neg U]
  ·rw [List.drop_eq_nil_of_le U];exact⟨by simp,by simp,b⟩
 | k+1,i,m,hi,a,b=>by
  have hil:i<v.f.2.2.2.2.length:=by omega
  obtain⟨r,c,h2⟩:=hs _ (Et hil) m a
  rcases h2 with ⟨hr,e,g,h⟩ | hr
  ·have hb:CG v a2 self (m,(i:Int))=some (.inl (r.1,((i+1:Nat):Int))):=by
    unfold CG;dsimp only;rw [if_pos U,Ad U,Ad ha,Qq8,c,Qq6,if_pos (by rw [hr];exact⟨Z,Z⟩),Ad (by unfold Bz;omega)]
    rfl
   obtain⟨q,j,l⟩:=Z0 hlen ha hs k (i+1) r.1 U U h;refine⟨q,by rw [Bg hb,j],?_⟩
   rcases l with ⟨hq,n,o,s⟩ | hq
   rotate_left
   ·exact .inr hq
   rw [drop_cons hil];refine .inl ⟨hq,fun p hp=>?_,?_,s⟩
   ·rcases Qzy.1 hp with rfl | hp
    ·exact e
    ·exact n p hp
   ·rw [Qze,List.sum_cons,o,g];omega
  ·refine⟨(0,r.2.1,r.2.2),AP (m:=some (0,r.2.1,r.2.2)) ?_,.inr hr⟩;unfold CG;dsimp only;rw [if_pos U,Ad U,Ad ha,Qq8,c,Qq6,if_neg (fun hh=>hr hh.1)]
theorem AeK{B:Nat}(hB:B<=100000000000):∀ (d n:Nat) (v:Pv) (m:Int),d<n->Sm B d v->d<=10->0<=m->∃ r,Fg n v m (11 - (d:Int))=some r/\((r.2=(0,0)/\Vd d v/\r.1=m+(nodes d v:Nat)/\r.1<=600)\/r.2.1≠0)
 | _,0,_,_,h,_,_,_=>absurd h U
 | 0,n+1,v,m,_,_,_,_=>by
  refine⟨(0,2,m),?_,.inr Qqd⟩
  show El (Fg n) v m _=_
  unfold El;rw [if_pos (by right;omega)]
  rfl
 | d+1,n+1,v,m,hn,hs,hd,hm=>by
  obtain⟨s1,l,o,s,t,u,e⟩:=hs
  show ∃ r,El (Fg n) v m _=some r/\_
  unfold El
  by_cases g:(600:Int)<=m
  ·rw [if_pos (.inl g)];exact⟨(0,2,m),Z,.inr Qqd⟩
  ·rw [if_neg U];obtain⟨c,h2,h3⟩:=Yc v U;rw [h2,Qq6]
   by_cases hc:c=0
   ·rw [if_pos hc,Ad (by unfold Bz;omega)];have hok:=h3 hc
    obtain⟨r,i,j⟩:=Z0 (d:=d) (v:=v) (a2:=11 - ((d+1:Nat):Int)) (self:=Fg n) (by have:=hok.many;omega) (by unfold Bz;omega)
     (fun p hp q hq=>by
      have:=AeK hB d n p q U (e p hp) U hq
      rwa [show(11:Int) - ((d+1:Nat):Int)+1=11 - (d:Int) by omega]) v.f.2.2.2.2.length 0 (m+1) U U U
    refine⟨r,i,?_⟩
    rcases j with ⟨hr,a,b,k⟩ | hr
    rotate_left
    ·exact .inr hr
    rw [QxE] at a b;refine .inl ⟨hr,⟨hok,a⟩,?_,k⟩;rw [b];unfold nodes;omega
   ·rw [if_neg hc];exact⟨(0,c,m),Z,.inr hc⟩
theorem Z1{B:Nat}(hB:B<=100000000000){b:List UInt8}(h:b.length<=B):HH b=some (Pd (zz (b.length:Int))++b):=by
 unfold HH;have:=GF (zz (b.length:Int));rw [Jd (by unfold Bz;omega),Qq6,Ad (by unfold Go.E.H7;omega)]
theorem VR{B d:Nat}(hB:B<=100000000000){v:Pv}{self:Pv->Option (List UInt8)}(hlen:v.f.2.2.2.2.length<=600)(hsame:v.f.1=4->v.f.2.2.2.1.length=v.f.2.2.2.2.length)(hnm:∀ x∈v.f.2.2.2.1,x.length<=32)
  (hnod:((v.f.2.2.2.2).map (nodes d)).sum<=600)
  (hs:∀ p∈v.f.2.2.2.2,∃ b,self p=some b/\b.length+42<=nodes d p * (B+100)) :
  ∀ (k i:Nat) (L:List UInt8) (C:Nat),i+k=v.f.2.2.2.2.length->C<=700->L.length+42+(((v.f.2.2.2.2.drop i).map (nodes d)).sum) * (B+100)<=C * (B+100)->∃ b,Go.L.run (Cc v self) (L,(i:Int))=some b/\b.length+42<=C * (B+100)
 | 0,i,L,C,hi,hC,hL=>by
  refine⟨L,AP (m:=some L) ?_,by omega⟩;unfold Cc GC;dsimp only;rw [if_neg U]
 | k+1,i,L,C,hi,hC,hL=>by
  have hil:i<v.f.2.2.2.2.length:=by omega
  obtain⟨b,h,h2⟩:=hs _ (Et hil);rw [AeJ _ hil,Qx6] at hL;have hCB:C * (B+100)<=700 * (100000000000+100):=Nat.mul_le_mul hC U
  have a:∀ M:List UInt8,M.length+b.length+42+((v.f.2.2.2.2.drop (i+1)).map (nodes d)).sum * (B+100)<=C * (B+100)->Eb v (i:Int) self M=some (.inl (M++b,((i+1:Nat):Int))):=by
   intro M hM;unfold Eb;rw [Qq8,h,Qq6,Ad (by unfold Go.E.H7;omega),Ad (by unfold Bz;omega)]
   rfl
  by_cases c:v.f.1=4
  ·have hin:i<v.f.2.2.2.1.length:=by rw [hsame c];exact hil
   have hx:=hnm _ (Et hin);have hv:=GF (zz ((v.f.2.2.2.1.getD i Qq2).length:Int))
   have hb:Cc v self (L,(i:Int))=some (.inl ((L++(Pd (zz ((v.f.2.2.2.1.getD i Qq2).length:Int))++v.f.2.2.2.1.getD i Qq2))++b,((i+1:Nat):Int))):=by
    unfold Cc;dsimp only;rw [if_pos U,Ad U,if_pos c,Ad U,Qq8,Ad U,Z1 (B:=32) Qqc hx,Qq6,Ad (by unfold Go.E.H7;simp only [Qzu];omega)];exact a _ (by simp only [Qzu];omega)
   obtain⟨q,e,g⟩:=VR hB hlen hsame hnm hnod hs k (i+1) _ C U hC (show((L++(Pd (zz ((v.f.2.2.2.1.getD i Qq2).length:Int))++v.f.2.2.2.1.getD i Qq2))++b).length+42+_<=_ by simp only [Qzu];omega);exact⟨q,by rw [Bg hb,e],g⟩
  ·have hb:Cc v self (L,(i:Int))=some (.inl (L++b,((i+1:Nat):Int))):=by
    unfold Cc;dsimp only;rw [if_pos U,Ad U,if_neg c];exact a _ U
   obtain⟨q,e,g⟩:=VR hB hlen hsame hnm hnod hs k (i+1) _ C U hC (show(L++b).length+42+_<=_ by simp only [Qzu];omega);exact⟨q,by rw [Bg hb,e],g⟩
theorem AgA{x:List UInt8}(h:S5 x=true):x.length<=32:=by
 unfold S5 at h;rw [Qzb,decide_eq_true_eq] at h;omega
theorem Ac1{d:Nat}{l:List Pv}{p:Pv}(h:p∈l):nodes d p<=(l.map (nodes d)).sum:=by
 induction l with
 | nil=>cases h
 | cons a l ih=>
  rw [Qze,List.sum_cons]
  rcases Qzy.1 h with rfl | h
  ·omega
  ·have:=ih h;omega
theorem AeL{B:Nat}(hB:B<=100000000000):∀ (d n:Nat) (v:Pv),d<=n->Sm B d v->Vd d v->nodes d v<=600->∃ b,Fm n v=some b/\b.length+42<=nodes d v * (B+100)
 | 0,_,_,_,_,h,_=>h.elim
 | d+1,0,_,h,_,_,_=>absurd h U
 | d+1,n+1,v,hn,hs,hv,hnod=>by
  obtain⟨s1,k,l,m,e,g,i⟩:=hs;obtain⟨hok,hvp⟩:=hv;unfold nodes at hnod
  show ∃ b,Fl (Fm n) v=some b/\_
  unfold Fl;have o:=GF (zz v.f.1);have q:=GF (zz v.f.2.1);have r:=GF (zz (v.f.2.2.1.length:Int));have s:=GF (zz (v.f.2.2.2.2.length:Int));have hN:1 * (B+100)<=nodes (d+1) v * (B+100):=Nat.mul_le_mul_right _ (by unfold nodes;omega);rw [Jd e,Qq6]
  by_cases a:v.f.1=1
  ·rw [if_pos a,Jd g,Qq6,Ad (by unfold Go.E.H7;omega)];exact⟨_,Z,by simp only [Qzu];omega⟩
  ·rw [if_neg a]
   by_cases c:v.f.1=2
   ·rw [if_pos c,Z1 hB s1,Qq6,Ad (by unfold Go.E.H7;simp only [Qzu];omega)];exact⟨_,Z,by simp only [Qzu];omega⟩
   ·have hmany:=hok.many;rw [if_neg c,Jd (by unfold Bz;omega),Qq6,Ad (by unfold Go.E.H7;omega)]
    obtain⟨b,j,h2⟩:=VR (d:=d) hB (v:=v) (self:=Fm n) hok.many hok.same (fun x hx=>AgA (hok.S5 x hx)) U
     (fun p hp=>AeL hB d n p U (i p hp) (hvp p hp) (by have:=Ac1 (d:=d) hp;omega)) v.f.2.2.2.2.length 0 (Pd (zz v.f.1)++Pd (zz (v.f.2.2.2.2.length:Int))) ((v.f.2.2.2.2.map (nodes d)).sum+1) U U
     (by rw [QxE,Qx6];simp only [Qzu];omega)
    refine⟨b,j,?_⟩;unfold nodes
    rwa [Nat.add_comm 1]
theorem TS{B:Nat}(hB:B<=100000000000){v:Pv}(hs:Sm B 10 v):∃ f,EA v=some f/\((f=(0,0)/\Vd 10 v/\nodes 10 v<=600)\/f.1≠0):=by
 obtain⟨r,d,h2⟩:=AeK hB 10 1000 v 0 U hs U (Int.le_refl _);have h1':MV v 0 1=some r:=d;unfold EA LJ;rw [h1',Qq6]
 rcases h2 with ⟨hr,a,e,g⟩ | hr
 ·rw [if_pos (by rw [hr];exact⟨Z,Z⟩)];obtain⟨b,h3,i⟩:=AeL hB 10 1000 v U hs a U;have h3':LI v=some b:=h3;rw [h3',Qq6]
  by_cases c:(4000:Int)<(b.length:Int)
  ·rw [if_pos c];exact⟨(14,-1),Z,.inr Qqd⟩
  ·rw [if_neg c];exact⟨(0,0),Z,.inl ⟨Z,a,by omega⟩⟩
 ·rw [if_neg (fun h=>hr h.1)];exact⟨r.2,Z,.inr hr⟩
end Go.Proofs.YtekmbcbgknmhiaaGreatDoor
end
noncomputable section
namespace Go.L
def QH{σ α:Type}(step:σ->α->Option σ):σ->List α->Option σ
 | s,[]=>some s
 | s,x::l=>(step s x).bind fun s'=>QH step s' l
theorem SG{σ α:Type}{step:σ->α->Option σ}:∀ (l m:List α) (s:σ),QH step s (l++m)=(QH step s l).bind fun s'=>QH step s' m
 | [],_,_=>rfl
 | x::l,m,s=>by
  simp only [QxZ,QH]
  cases step s x with
  | none=>rfl
  | some s'=>exact SG l m s'
def cst(v:Pv)(i:Nat):List UInt8:=if v.f.1=4 then v.f.2.2.2.1.getD i Qq2 else[35]
def Yg:Nat->Pv->List (List UInt8)->List Lf
 | 0,_,_=>[]
 | d+1,v,p=>(jn p,v.f.1,v.f.2.1,v.f.2.2.1)::(Qx8 0 v.f.2.2.2.2.length).flatMap fun i=>Yg d (v.f.2.2.2.2.getD i Qq2) (p++[cst v i])
theorem AeM{α:Type}[Inhabited α](l:List α):(Qx8 0 l.length).map (fun i=>l.getD i Qq2)=l:=by
 rw [<- List.range_eq_range'];apply List.ext_getElem
 ·simp
 ·intro i a h2;simp [Qq9,h2]
theorem Yh:∀ (d:Nat) (v:Pv) (p:List (List UInt8)),(Yg d v p).length=nodes d v
 | 0,_,_=>rfl
 | d+1,v,p=>by
  unfold Yg nodes;rw [Qzw,List.length_flatMap,Nat.add_comm]
  congr 2
  conv=>rhs;rw [<- AeM v.f.2.2.2.2]
  rw [List.map_map];apply List.map_congr_left;intro i _;exact Yh d _ _
theorem AgB:∀ p:List (List UInt8),Lib.join p [47]=jn p
 | []=>rfl
 | x::l=>by
  have key:∀ (l:List (List UInt8)) (x:List UInt8),jn (x::l)=x++Lib.joinTail [47] l:=by
   intro l
   induction l with
   | nil=>intro x;simp [jn,Lib.joinTail]
   | cons y l ih=>
    intro x;unfold jn;rw [if_neg Qqd,ih y];simp [Lib.joinTail]
  rw [Lib.join_cons,key]
def POk(p:List (List UInt8)):Prop:=∀ x∈p,stp x=true
theorem AgC{x:List UInt8}(h:stp x=true):x.length<=32:=by
 unfold stp at h;rw [Qz8,decide_eq_true_eq] at h
 rcases h with h | rfl
 ·unfold S5 at h;rw [Qzb,decide_eq_true_eq] at h;omega
 ·decide
theorem POk.TM{p:List (List UInt8)}(h:POk p):TM p<=33 * p.length:=by
 induction p with
 | nil=>simp [Go.L.TM]
 | cons x p ih=>
  have:=AgC (h x (.head _));have:=ih fun y hy=>h y (.tail _ hy);unfold Go.L.TM;simp only [Qzw];omega
theorem POk.VQ{p:List (List UInt8)}(h:POk p):(jn p).length<=33 * p.length:=by
 by_cases a:p=[]
 ·subst a;simp [jn]
 ·have:=Go.L.VQ a;have:=h.TM;omega
theorem POk.snoc{p:List (List UInt8)}(h:POk p){x:List UInt8}(hx:stp x=true):POk (p++[x]):=fun y hy=>by
 rcases QzQ.1 hy with hy | hy
 ·exact h y hy
 ·rw [QzB] at hy;subst hy;exact hx
theorem AeN{v:Pv}(h:Ty v){i:Nat}(hi:i<v.f.2.2.2.2.length):stp (cst v i)=true:=by
 unfold cst
 by_cases a:v.f.1=4
 ·rw [if_pos a];have:=h.S5 _ (Et (by rw [h.same a];exact hi));unfold stp;rw [this];rfl
 ·rw [if_neg a];decide
theorem POk.nil{p:List (List UInt8)}(h:POk p):jn p=[]↔p=[]:=by
 constructor
 ·intro hj
  cases p with
  | nil=>rfl
  | cons x p=>
   have:=(Aaz (h x (.head _))).1;unfold jn at hj
   split at hj
   ·exact absurd hj this
   ·simp at hj
 ·rintro rfl;rfl
end Go.L
namespace Go.Proofs.YtekmbcbgknmhiaaGreatDoor
open Go Go.L
section
variable {σ:Type} {step:σ->Lf->Option σ}
theorem Ab3{v:Pv}{p:List (List UInt8)}{self:Pv->List (List UInt8)->σ->Option σ}{d:Nat}(hv:Ty v)(hp:p.length<=20)(hs:∀ i s,i<v.f.2.2.2.2.length->self (v.f.2.2.2.2.getD i Qq2) (p++[cst v i]) s=QH step s (Yg d (v.f.2.2.2.2.getD i Qq2) (p++[cst v i]))):
  ∀ (k i:Nat) (s:σ),i+k=v.f.2.2.2.2.length->Go.L.run (CH v p self) ((i:Int),s)=QH step s ((Qx8 i k).flatMap fun i=>Yg d (v.f.2.2.2.2.getD i Qq2) (p++[cst v i]))
 | 0,i,s,hi=>by
  refine AP (m:=some s) ?_;unfold CH;dsimp only;rw [if_neg U]
 | k+1,i,s,hi=>by
  have hil:i<v.f.2.2.2.2.length:=by omega
  have hmany:=hv.many;rw [List.range'_succ,Qxd,SG,<- hs i s hil]
  have hk:∀ x,x=cst v i->DD v p (i:Int) self x s=(self (v.f.2.2.2.2.getD i Qq2) (p++[cst v i]) s).bind fun s'=>some (.inl (((i+1:Nat):Int),s')):=by
   rintro x rfl;unfold DD Db;rw [Ad (by unfold Go.E.H7;simp;omega),Qq6,Ad (by unfold Go.E.H7;simp;omega),Qq8,Qxv];refine congrArg (Qq4 _) (funext fun x=>?_);rw [Ad (by unfold Bz;omega)]
   rfl
  have hb:CH v p self ((i:Int),s)=(self (v.f.2.2.2.2.getD i Qq2) (p++[cst v i]) s).bind fun s'=>some (.inl (((i+1:Nat):Int),s')):=by
   unfold CH;dsimp only;rw [if_pos U,Ad U]
   by_cases a:v.f.1=4
   ·have:=hv.same a;rw [if_pos a,Ad U,Qq8];exact hk _ (by unfold cst;rw [if_pos a])
   ·rw [if_neg a];exact hk _ (by unfold cst;rw [if_neg a])
  cases hc:self (v.f.2.2.2.2.getD i Qq2) (p++[cst v i]) s with
  | none=>
   rw [hc] at hb;exact AP (m:=none) hb
  | some s'=>
   rw [hc] at hb;rw [Bg hb];exact Ab3 hv hp hs k (i+1) s' U
theorem AiW:∀ (d n:Nat) (v:Pv) (p:List (List UInt8)) (s:σ),d<=n->Vd d v->POk p->p.length+d<=20->FP step n v p s=QH step s (Yg d v p)
 | 0,_,_,_,_,_,h,_,_=>h.elim
 | d+1,0,_,_,_,h,_,_,_=>absurd h U
 | d+1,n+1,v,p,s,hn,hv,hp,hl=>by
  obtain⟨hok,hvp⟩:=hv
  show EM step (FP step n) v p s=_
  unfold EM Sr Yg;have:=hp.VQ;rw [AgB,Ad U,Qq6]
  show(step s (jn p,v.f.1,v.f.2.1,v.f.2.2.1)).bind _=(step s (jn p,v.f.1,v.f.2.1,v.f.2.2.1)).bind _
  congr 1
  funext s'
  exact Ab3 hok U (fun i s hi=>AiW d n _ _ s U (hvp _ (Et hi)) (hp.snoc (AeN hok hi)) (by simp;omega)) v.f.2.2.2.2.length 0 s' U
theorem Ac2{v:Pv}(hv:Vd 10 v)(s:σ):J5 step v [] s=QH step s (Yg 10 v []):=AiW 10 1000 v [] s U hv (fun x hx=>by cases hx) Qqd
end
end Go.Proofs.YtekmbcbgknmhiaaGreatDoor
end
noncomputable section
namespace Go.L
def Ih(P:List (Lf×Int))(M:List (Lf×List Int)):List (Lf×List Int):=P.foldl (fun M p=>PF p.1 p.2 M) M
theorem Z2(P Q:List (Lf×Int))(M:List (Lf×List Int)):Ih (P++Q) M=Ih Q (Ih P M):=List.foldl_append
theorem AeO(k k':Lf)(i z:Int)(M:List (Lf×List Int)):z∈BT [] k' (PF k i M)↔z∈BT [] k' M\/(k'=k/\z=i):=by
 unfold PF;rw [T2]
 by_cases h:k'=k
 ·subst h;simp
 ·simp [h]
theorem Ac3(k k':Lf)(i:Int)(M:List (Lf×List Int)):k'∈(PF k i M).map Qq5↔k'=k\/k'∈M.map Qq5:=by
 unfold PF
 by_cases h:k∈M.map Qq5
 ·rw [SE _ h];exact⟨.inr,fun hh=>by rcases hh with rfl | hh;exact h;exact hh⟩
 ·rw [SF _ h];simp only [Qxa,Qze,List.map_nil,QzQ,QzB];exact⟨fun hh=>hh.symm,fun hh=>hh.symm⟩
theorem Aa0(k:Lf)(i:Int){M:List (Lf×List Int)}(h:(M.map Qq5).Nodup):((PF k i M).map Qq5).Nodup:=by
 unfold PF
 by_cases hk:k∈M.map Qq5
 ·rw [SE _ hk];exact h
 ·rw [SF _ hk,Qxa]
  exact List.nodup_append.2 ⟨h,QkJ _ _,fun a ha b hb e=>by
   simp only [Qze,List.map_nil,QzB] at hb;subst hb;subst e;exact hk ha⟩
theorem QI(k:Lf)(z:Int):∀ (P:List (Lf×Int)) (M:List (Lf×List Int)),z∈BT [] k (Ih P M)↔z∈BT [] k M\/(k,z)∈P
 | [],M=>by simp [Ih]
 | p::P,M=>by
  show z∈BT [] k (Ih P (PF p.1 p.2 M))↔_
  rw [QI k z P,AeO,Qzy,or_assoc];have:(k=p.1/\z=p.2)↔(k,z)=p:=⟨fun h=>Prod.ext h.1 h.2,fun h=>by rw [<- h];exact⟨Z,Z⟩⟩;rw [this]
theorem Rh(k:Lf):∀ (P:List (Lf×Int)) (M:List (Lf×List Int)),k∈(Ih P M).map Qq5↔k∈M.map Qq5\/∃ z,(k,z)∈P
 | [],M=>by simp [Ih]
 | p::P,M=>by
  show k∈(Ih P (PF p.1 p.2 M)).map Qq5↔_
  rw [Rh k P,Ac3]
  constructor
  ·rintro((rfl | h) | ⟨z,h⟩)
   ·exact .inr ⟨p.2,.head _⟩
   ·exact .inl h
   ·exact .inr ⟨z,.tail _ h⟩
  ·rintro(h | ⟨z,h⟩)
   ·exact .inl (.inr h)
   ·rcases Qzy.1 h with rfl | h
    ·exact .inl (.inl Z)
    ·exact .inr ⟨z,h⟩
theorem VS:∀ (P:List (Lf×Int)) {M:List (Lf×List Int)},(M.map Qq5).Nodup->((Ih P M).map Qq5).Nodup
 | [],_,h=>h
 | p::P,_,h=>VS P (Aa0 p.1 p.2 h)
theorem Z3(k:Lf)(i:Int)(M:List (Lf×List Int))(k':Lf):(BT [] k' (PF k i M)).length<=(BT [] k' M).length+1:=by
 unfold PF;rw [T2]
 split
 ·rename_i h;subst h;simp
 ·omega
theorem Aa1(k:Lf)(i:Int)(M:List (Lf×List Int)):(PF k i M).length<=M.length+1:=by
 unfold PF
 by_cases h:k∈M.map Qq5
 ·have:=congrArg List.length (SE (BT [] k M++[i]) h);rw [Qzk,Qzk] at this;omega
 ·rw [SF _ h];simp
theorem Z4(k:Lf):∀ (P:List (Lf×Int)) (M:List (Lf×List Int)),(BT [] k (Ih P M)).length<=(BT [] k M).length+P.length
 | [],M=>by simp [Ih]
 | p::P,M=>by
  have a:=Z4 k P (PF p.1 p.2 M);have h2:=Z3 p.1 p.2 M k
  show(BT [] k (Ih P (PF p.1 p.2 M))).length<=_
  rw [Qzw];omega
theorem VT:∀ (P:List (Lf×Int)) (M:List (Lf×List Int)),(Ih P M).length<=M.length+P.length
 | [],M=>by simp [Ih]
 | p::P,M=>by
  have a:=VT P (PF p.1 p.2 M);have h2:=Aa1 p.1 p.2 M
  show(Ih P (PF p.1 p.2 M)).length<=_
  rw [Qzw];omega
end Go.L
namespace Go.Proofs.YtekmbcbgknmhiaaGreatDoor
open Go Go.L
theorem VU{P:List (Lf×Int)}{e:En}:e∈Od (Ih P [])↔(∃ z,(e.1,z)∈P)/\e.2=Pg (BT [] e.1 (Ih P [])):=by
 unfold Od;rw [QzJ]
 constructor
 ·rintro⟨k,hk,rfl⟩;have:=(Rh k P []).1 ((NU _).mem_iff.1 hk);simp only [List.map_nil,Qkw,false_or] at this;exact⟨this,Z⟩
 ·rintro⟨a,h2⟩;exact⟨e.1,(NU _).mem_iff.2 ((Rh e.1 P []).2 (.inr a)),Prod.ext Z h2.symm⟩
def Ov:Int->List Pv->List (Lf×Int)
 | _,[]=>[]
 | i,v::l=>((Yg 10 v []).map fun x=>(x,i))++Ov (i+1) l
theorem VV:∀ (i:Int) (a b:List Pv),Ov i (a++b)=Ov i a++Ov (i+a.length) b
 | i,[],b=>by simp [Ov]
 | i,v::a,b=>by
  simp only [QxZ,Ov,QxX];rw [VV (i+1) a b];simp only [Qzw];rw [show i+1+(a.length:Int)=i+((a.length+1:Nat):Int) by omega]
theorem U2:∀ {i:Int} {a:List Pv} {p:Lf×Int},p∈Ov i a↔∃ j:Nat,j<a.length/\p.2=i+j/\p.1∈Yg 10 (a.getD j Qq2) []
 | _,[],p=>by simp [Ov]
 | i,v::a,p=>by
  simp only [Ov,QzQ,QzJ];rw [U2]
  constructor
  ·rintro(⟨x,hx,rfl⟩ | ⟨j,b,h2,h3⟩)
   ·exact⟨0,by simp,by simp,hx⟩
   ·exact⟨j+1,by simp;omega,by omega,h3⟩
  ·rintro⟨j,b,h2,h3⟩
   cases j with
   | zero=>exact .inl ⟨p.1,h3,Prod.ext Z (by simpa using h2.symm)⟩
   | succ j=>exact .inr ⟨j,by simpa using b,by omega,h3⟩
theorem Yi:∀ (i:Int) {a:List Pv},(∀ v∈a,nodes 10 v<=600)->(Ov i a).length<=600 * a.length
 | _,[],_=>by simp [Ov]
 | i,v::a,h=>by
  simp only [Ov,Qzu,Qzk,Qzw];have b:=Yi (i+1) fun v hv=>h v (.tail _ hv);have h2:=h v (.head _);rw [Yh];omega
theorem VW(i:Int):∀ (l:List Lf) (M:List (Lf×List Int)) (N:Nat),Bd N M->N+l.length<=1000000000->QH (Kl i) M l=some (Ih (l.map fun x=>(x,i)) M)
 | [],_,_,_,_=>rfl
 | x::l,M,N,hM,hN=>by
  rw [Qzw] at hN;unfold QH;have hx:=hM x
  have e:Kl i M x=some (PF x i M):=by
   unfold Kl;rw [Ad (by unfold Go.E.H7;omega)]
   rfl
  rw [e,Qq6,VW i l (PF x i M) (N+1) (fun k=>by have:=Z3 x i M k;have:=hM k;omega) U]
  rfl
def Ww(a:List Pv):Prop:=∀ v∈a,EA v=some (0,0)/\Vd 10 v/\nodes 10 v<=600
theorem Ab4(P:List (Lf×Int)):Bd P.length (Ih P []):=fun k=>by have:=Z4 k P [];simpa [BT] using this
theorem Xl{B:Nat}(hB:B<=100000000000){a:List Pv}(hl:a.length<=64)(hs:∀ v∈a,Sm B 10 v):∀ (k i:Nat),i+k=a.length->Ww (a.take i)->
  (∃ j f,j<a.length/\EA (a.getD j Qq2)=some f/\f.1≠0/\Ww (a.take j)/\Go.L.run (Dd a) (Ih (Ov 0 (a.take i)) [],(i:Int))=some ((0,[]),(f.1,(j:Int))))\/
  (Ww a/\Go.L.run (Dd a) (Ih (Ov 0 (a.take i)) [],(i:Int))=Hj (a.length:Int) (Ih (Ov 0 a) []))
 | 0,i,hi,hv=>by
  right
  rw [Qxj U] at hv ⊢;refine⟨hv,?_⟩
  have e:Dd a (Ih (Ov 0 a) [],(i:Int))=(Hj (a.length:Int) (Ih (Ov 0 a) [])).map Sum.inr:=by
   unfold Dd Jy;dsimp only;rw [if_neg U]
   cases Hj (a.length:Int) (Ih (Ov 0 a) []) <;> rfl
  exact AP e
 | k+1,i,hi,hv=>by
  have hil:i<a.length:=by omega
  obtain⟨f,b,h2⟩:=TS hB (hs _ (Et hil))
  have htk:a.take (i+1)=a.take i++[a.getD i Qq2]:=by
   rw [QxJ,Qzj hil];simp [Qq9,Qzj hil]
  rcases h2 with ⟨rfl,h3,c⟩ | hf
  ·have hlen:=Yi 0 fun v hvm=>(hv v hvm).2.2;rw [QzK] at hlen
   have hadd:Ov 0 (a.take (i+1))=Ov 0 (a.take i)++(Yg 10 (a.getD i Qq2) []).map fun x=>(x,(i:Int)):=by
    rw [htk,VV];simp only [Ov,QzZ,QzK];rw [show(0:Int)+((min i a.length:Nat):Int)=(i:Int) by omega]
   have hb:Dd a (Ih (Ov 0 (a.take i)) [],(i:Int))=some (.inl (Ih (Ov 0 (a.take (i+1))) [],((i+1:Nat):Int))):=by
    unfold Dd;dsimp only;rw [if_pos U,Ad U,Qq8,b,Qq6,if_pos ⟨Z,Z⟩,Ac2 h3,VW (i:Int) _ _ _ (Ab4 _) (by rw [Yh];omega),Qq6,Ad (by unfold Bz;omega),hadd,Z2]
    rfl
   rw [Bg hb];refine Xl hB hl hs k (i+1) U ?_;rw [htk];intro v hvm
   rcases QzQ.1 hvm with h | h
   ·exact hv v h
   ·rw [QzB] at h;subst h;exact⟨b,h3,c⟩
  ·left
   refine⟨i,f,hil,b,hf,hv,AP (m:=some ((0,[]),(f.1,(i:Int)))) ?_⟩;unfold Dd DH;dsimp only;rw [if_pos U,Ad U,Qq8,b,Qq6,if_neg (fun h=>hf h.1)]
   rfl
theorem Ab5:∀ (d:Nat) (v:Pv) (p:List (List UInt8)) {x:Lf},Vd d v->POk p->x∈Yg d v p->∃ (q:List (List UInt8)) (u:Pv),x=(jn q,u.f.1,u.f.2.1,u.f.2.2.1)/\POk q/\q.length+1<=p.length+d/\Ty u/\∀ B,Sm B d v->Bz u.f.1/\Bz u.f.2.1/\u.f.2.2.1.length<=B
 | 0,_,_,_,h,_,_=>h.elim
 | d+1,v,p,x,hv,hp,hx=>by
  obtain⟨hok,hvp⟩:=hv;unfold Yg at hx
  rcases Qzy.1 hx with rfl | hx
  ·exact⟨p,v,Z,hp,by omega,hok,fun B hB=>⟨hB.2.2.2.2.1,hB.2.2.2.2.2.1,hB.1⟩⟩
  ·obtain⟨i,hi,hxi⟩:=List.mem_flatMap.1 hx
   have hil:i<v.f.2.2.2.2.length:=by
    have:=List.mem_range'_1.1 hi;omega
   obtain⟨q,u,a,h2,h3,b,c⟩:=Ab5 d _ _ (hvp _ (Et hil)) (hp.snoc (AeN hok hil)) hxi;refine⟨q,u,a,h2,by simp at h3;omega,b,fun B hB=>c B (hB.2.2.2.2.2.2 _ (Et hil))⟩
theorem AgD{v:Pv}{x:Lf}(hv:Vd 10 v)(hs:Sm 1048576 10 v)(hx:x∈Yg 10 v []):(x.1.length<=330/\¬ 0<=wr false 0 (sl x.1))/\(1<=x.2.1/\x.2.1<=4)/\(x.2.2.1=0\/x.2.1=1)/\(x.2.2.2=[]\/x.2.1=2)/\Bz x.2.2.1/\x.2.2.2.length<=1048576:=by
 obtain⟨q,u,rfl,h2,h3,a,b⟩:=Ab5 10 v [] hv (fun y hy=>by cases hy) hx;obtain⟨e,c,d⟩:=b _ hs;have hj:=h2.VQ;simp only [Qzd] at h3;refine⟨⟨by show(jn q).length<=330;omega,?_⟩,?_,?_,?_,c,d⟩
 ·show ¬ 0<=wr false 0 (sl (jn q))
  rw [AiU (fun y hy=>(Aaz (h2 y hy)).1) (fun y hy=>(Aaz (h2 y hy)).2.1),AiV (fun y hy=>by rw [h2 y hy];rfl)]
  decide
 ·show 1<=u.f.1/\u.f.1<=4
  rcases a.kind with h | h | h | h <;> omega
 ·show u.f.2.1=0\/u.f.1=1
  exact a.num.symm
 ·show u.f.2.2.1=[]\/u.f.1=2
  exact a.bytes.symm
theorem AgE{P:List (Lf×Int)}(hP:P.length<=1000000)(h:∀ p∈P,p.1.1.length<=2000000/\Bz p.1.2.1/\Bz p.1.2.2.1/\p.1.2.2.2.length<=2000000/\Bz p.2):MS (Ih P []):=by
 refine⟨by have:=VT P [];simp at this;omega,fun k hk=>?_⟩
 rcases(Rh k P []).1 hk with a | ⟨z,hz⟩
 ·cases a
 ·obtain⟨b,h2,h3,c,_⟩:=h _ hz;refine⟨b,h2,h3,c,by have:=Ab4 P k;omega,fun y hy=>?_⟩
  rcases(QI k y P []).1 hy with a | hy
  ·simp [BT] at a
  ·exact(h _ hy).2.2.2.2
theorem Z5{l:List Lf}(h:l.Nodup):(M1 l).Pairwise (fun a b=>MW a b<0):=by
 have hsorted:(M1 l).Pairwise fun x y=>(!(Go.Proofs.ltOf MW) y x)=true:=by
  rw [<- AeF];have hlt:∀ a b,(!(Go.Proofs.ltOf MW) b a)=true↔¬ MW b a<0:=fun a b=>by simp [Go.Proofs.ltOf]
  refine RT (fun a b c f h2=>?_) (fun a b=>?_) l
  ·rw [hlt] at *;intro h3;have s1:=Oj.swap a b
   rcases Qke (MW a b) 0 with d | d | d
   ·exact h2 (Oj.trans c a b h3 d)
   ·rw [Oj.zero a b d] at h3;exact h2 h3
   ·omega
  ·rw [hlt,hlt];have s1:=Oj.swap a b;omega
 have hn:(M1 l).Nodup:=(NU l).nodup_iff.2 h;refine(List.pairwise_and_iff.2 ⟨hsorted,hn⟩).imp fun {a b} hab=>?_;obtain⟨f,h2⟩:=hab;have h1' : ¬ MW b a<0:=by simpa [Go.Proofs.ltOf] using f
 have s1:=Oj.swap a b;have:MW a b≠0:=fun e=>h2 (Oj.zero a b e);omega
theorem Z6{a:List Pv}(hl:a.length<=64)(hv:Ww a)(hs:∀ v∈a,Sm 1048576 10 v):GI (a.length:Int) (Od (Ih (Ov 0 a) []))/\MS (Ih (Ov 0 a) []):=by
 have hlen:=Yi 0 fun v hvm=>(hv v hvm).2.2
 have hp:∀ p∈Ov 0 a,((p.1.1.length<=330/\¬ 0<=wr false 0 (sl p.1.1))/\(1<=p.1.2.1/\p.1.2.1<=4)/\(p.1.2.2.1=0\/p.1.2.1=1)/\(p.1.2.2.2=[]\/p.1.2.1=2)/\Bz p.1.2.2.1/\p.1.2.2.2.length<=1048576)/\0<=p.2/\p.2<a.length:=fun p hpm=>by
  obtain⟨j,c,h2,h3⟩:=U2.1 hpm;exact⟨AgD (hv _ (Et c)).2.1 (hs _ (Et c)) h3,by omega,by omega⟩
 have hMS:MS (Ih (Ov 0 a) []):=AgE U fun p hpm=>by
  obtain⟨⟨c,h2,h3,m,d,n⟩,o,q⟩:=hp p hpm;exact⟨by omega,by unfold Bz;omega,d,by omega,by unfold Bz;omega⟩
 refine⟨⟨by omega,by omega,fun e he=>?_,AeG hMS,by rw [Zy];exact hMS.1,?_⟩,hMS⟩
 ·obtain⟨⟨z,hz⟩,h2⟩:=VU.1 he;obtain⟨⟨f,g,i,k,r,s⟩,t,u⟩:=hp _ hz
  have hm:∀ y,y∈e.2↔(e.1,y)∈Ov 0 a:=fun y=>by
   rw [h2,(MA _).2,QI];simp [BT]
  refine⟨f,g,i,k,fun l=>?_,fun y hy=>?_,?_⟩
  ·have:=(hm z).2 hz;rw [l] at this
   cases this
  ·exact(hp _ ((hm y).1 hy)).2
  ·rw [h2];exact(MA _).1.imp fun {a b} h=>by omega
 ·unfold Od;rw [Qkx];exact Z5 (VS _ Qqd)
theorem Z7{a:List Pv}(hs:∀ v∈a,Sm 1048576 10 v):∃ r,Kn a=some r/\((64<a.length/\r=((0,[]),(2,-1)))\/
  (a.length<=64/\∃ j f,j<a.length/\EA (a.getD j Qq2)=some f/\f.1≠0/\Ww (a.take j)/\r=((0,[]),(f.1,(j:Int))))\/
  (a.length<=64/\Ww a/\r=Aay (a.length:Int) (Ih (Ov 0 a) []))):=by
 unfold Kn DH
 by_cases h:64<a.length
 ·rw [if_pos U];exact⟨_,Z,.inl ⟨h,Z⟩⟩
 ·rw [if_neg U];unfold KT
  rcases Xl (B:=1048576) U U hs a.length 0 U (fun v hv=>by simp at hv) with ⟨j,f,b,h2,h3,c,d⟩ | ⟨b,h2⟩
  ·exact⟨_,d,.inr (.inl ⟨by omega,j,f,b,h2,h3,c,Z⟩)⟩
  ·refine⟨Aay (a.length:Int) (Ih (Ov 0 a) []),?_,.inr (.inr ⟨by omega,b,Z⟩)⟩;have:=h2.trans (AeH (by unfold Bz;omega) (Z6 U b hs).2);exact this
end Go.Proofs.YtekmbcbgknmhiaaGreatDoor
end
noncomputable section
namespace Go.Proofs.YtekmbcbgknmhiaaGreatDoor
open Go Go.L
def Sd(d:List UInt8×Pv):Prop:=d.1.length<=1048576/\Sm 1048576 10 d.2
theorem VX(i:Nat)(l:List (List UInt8)):(∀ t∈l,t.length<=2048)->N2 i l=none:=by
 induction l generalizing i with
 | nil=>intro _;rfl
 | cons a l ih=>
  intro h;have:=h a (Qz0 ..);unfold N2;rw [if_neg U];exact ih _ fun t ht=>h t (QzC _ ht)
theorem AeP{items:List (List UInt8)}(hn:items.length<=64)(ht:∀ t∈items,t.length<=2048):∃ r,Ji items=some r:=by
 have hl:=VX 0 items ht;rw [Zq hn ht hl]
 split
 ·exact⟨_,Z⟩
 ·exact⟨_,Z⟩
def OA:((Int×(List ((List UInt8)×(List (Int×Int)))))×(Int×(List (((List UInt8)×Int×Int×(List UInt8))×(List Int))))×(List (((List Int))×(List Int)×(List Int)))):=(((0:Int),[]),((0:Int),[]),[])
theorem Ac4{l:List (List UInt8×Pv)}(hl:l.length<=64)(hs:∀ d∈l,Sd d)(ht:∀ d∈l,d.1.length<=2048):∃ r,EI (l.map Qzf) (l.map Qq5) (l.map fun d=>idx d.1)=some r/\(r.2.1=0/\r.1.2.2=l.map (fun d=>idx d.1)\/r.2.1≠0/\r.1=OA):=by
 have h:∀ (p:List (((List Int))×(List Int)×(List Int))) (a b c e:Int) (f:List ((List UInt8)×(List (Int×Int)))) (g:List (((List UInt8)×Int×Int×(List UInt8))×(List Int))),∃ r,Eh p a b c f e g=some r/\(r.2.1=0/\r.1.2.2=p\/r.2.1≠0/\r.1=OA):=fun p a b c e f g=>by
  unfold Eh Cx
  split
  ·exact⟨_,Z,.inl ⟨Z,Z⟩⟩
  ·exact⟨_,Z,.inr ⟨(show(14:Int)≠0 by decide),Z⟩⟩
 unfold EI;obtain⟨w,hw⟩:=AeP (items:=l.map Qq5) (by simpa using hl) (fun t ht'=>by obtain⟨d,hd,rfl⟩:=QzJ.1 ht';exact ht d hd);obtain⟨s,hsb,_⟩:=Z7 (a:=l.map Qzf) (fun v hv=>by obtain⟨d,hd,rfl⟩:=QzJ.1 hv;exact(hs d hd).2);rw [hw,Qq6,hsb]
 split
 ·exact h _ _ _ _ _ _ _
 ·exact h _ _ _ _ _ _ _
theorem VY{l:List (List UInt8×Pv)}(hl:l.length<=64)(hs:∀ d∈l,Sd d):∀ (d i:Nat),i+d=l.length->(∀ x∈l.take i,x.1.length<=2048)->
  ∃ r,J2 l ((l.take i).map Qzf,(l.take i).map Qq5,(l.take i).map (fun d=>idx d.1),(i:Int))=some r/\((∀ d∈l,d.1.length<=2048)/\EI (l.map Qzf) (l.map Qq5) (l.map fun d=>idx d.1)=some r\/r.2.1≠0/\r.1=OA)
 | 0,i,hi,ht=>by
  have he:l.take i=l:=Qxj U;rw [he] at ht ⊢;obtain⟨r,a,h2⟩:=Ac4 hl hs ht;refine⟨r,?_,.inl ⟨ht,a⟩⟩;rw [<- a];refine AP ?_;unfold Di;simp only;rw [if_neg U]
 | d+1,i,hi,ht=>by
  have hil:i<l.length:=by omega
  have hg:l.getD ((i:Int)).toNat Qq2=l[i]:=by rw [Qq8,Qq9,Qzj hil];rfl
  have hm:l[i]∈l:=Qz9 _;have hlt:(l.take i).length<=64:=by rw [QzK];omega
  have hc:∀ (n b:Nat),n<=64->b<=100->Go.E.H7 b (n+1):=fun n b hn hb=>by
   unfold Go.E.H7;have:=Nat.mul_le_mul (show n+1<=65 by omega) hb;exact⟨by omega,by omega⟩
  unfold J2
  by_cases h2:l[i].1.length<=2048
  ·obtain⟨f,hf,hv⟩:=TS (B:=1048576) U (hs _ hm).2
   by_cases h3:f.1=0/\f.2=0
   ·have hb:Di l ((l.take i).map Qzf,(l.take i).map Qq5,(l.take i).map (fun d=>idx d.1),(i:Int))=some (.inl ((l.take i).map Qzf++[l[i].2],(l.take i).map Qq5++[l[i].1],(l.take i).map (fun d=>idx d.1)++[idx l[i].1],((i+1:Nat):Int))):=by
     unfold Di;simp only;rw [if_pos U,Ad U,hg,VC,Qq6,if_pos h2];simp only [and_self,if_true];rw [hf,Qq6,if_pos h3,Ad (by rw [Qzk];exact hc _ _ hlt U),Ad (by rw [Qzk];exact hc _ _ hlt U),Ad (by rw [Qzk];exact hc _ _ hlt U)];unfold J1;rw [Ad (by unfold Bz;omega)]
     rfl
    have e:l.take (i+1)=l.take i++[l[i]]:=(List.take_append_getElem hil).symm
    have ih:=VY hl hs d (i+1) U (fun x hx=>by
     rw [e] at hx
     rcases QzQ.1 hx with hx | hx
     ·exact ht x hx
     ·obtain rfl:=QzB.1 hx;exact h2)
    rw [Bg hb];rw [e,Qxa,Qxa,Qxa] at ih;exact ih
   ·have hb:Di l ((l.take i).map Qzf,(l.take i).map Qq5,(l.take i).map (fun d=>idx d.1),(i:Int))=some (.inr (OA,(f.1,(i:Int)))):=by
     unfold Di;simp only;rw [if_pos U,Ad U,hg,VC,Qq6,if_pos h2];simp only [and_self,if_true];rw [hf,Qq6,if_neg h3]
     rfl
    refine⟨(OA,(f.1,(i:Int))),AP (m:=some (OA,(f.1,(i:Int)))) hb,.inr ⟨?_,Z⟩⟩;intro c
    rcases hv with ⟨rfl,_⟩ | hv
    ·exact h3 ⟨Z,Z⟩
    ·exact hv c
  ·have hb:Di l ((l.take i).map Qzf,(l.take i).map Qq5,(l.take i).map (fun d=>idx d.1),(i:Int))=some (.inr (OA,(3,(i:Int)))):=by
    unfold Di;simp only;rw [if_pos U,Ad U,hg,VC,Qq6,if_neg h2]
    rfl
   exact⟨(OA,(3,(i:Int))),AP (m:=some (OA,(3,(i:Int)))) hb,.inr ⟨(show(3:Int)≠0 by decide),Z⟩⟩
theorem AeQ{n:Int}{es:HM}(hn:es.length<=1000000000)(hs:Inc (es.map Qq5))(w:List UInt8)(hh:(BT [] w es).length<=1000000000):Gp (n,es) w=some (if wf w=(0,0) then BT [] w es else[],wf w):=by
 unfold Gp;rw [NP,Qq6]
 by_cases h:wf w=(0,0)
 ·rw [if_pos h,if_pos (by rw [h];exact⟨Z,Z⟩)];simp only;rw [PE hn w hs,Qq6];unfold D3;rw [Ad (by rw [Qzd];constructor <;> omega),Qq6,Qxv,h]
 ·rw [if_neg h,if_neg (fun x=>h (Prod.ext x.1 x.2))]
end Go.Proofs.YtekmbcbgknmhiaaGreatDoor
end
noncomputable section
namespace Go.L
open Go Go.Proofs.YtekmbcbgknmhiaaGreatDoor
theorem T3:∀ (r:List (List UInt8)) (a i k:Nat) (w:List UInt8),(w,((i:Int),(k:Int)))∈Gs a r↔a<=i/\i<a+r.length/\k<(Ws (r.getD (i - a) Qq2)).length/\((Ws (r.getD (i - a) Qq2)).getD k Qq2).1=w
 | [],a,i,k,w=>by
  unfold Gs;simp only [Qkw,Qzd,false_iff,not_and];intro c h2;omega
 | t::r,a,i,k,w=>by
  unfold Gs;rw [QzQ,T3 r (a+1) i k w,Qzw,R7,QzJ]
  constructor
  ·rintro(⟨m,hm,he⟩ | ⟨c,h2,h3⟩)
   ·rw [QzX] at hm;simp only [Prod.mk.injEq] at he;obtain⟨d,f,g⟩:=he;obtain rfl:a=i:=by omega
    obtain rfl:m=k:=by omega
    rw [Nat.sub_self];exact⟨Qzx _,by omega,hm,d⟩
   ·have e:(t::r).getD (i - a) Qq2=r.getD (i - (a+1)) Qq2:=by
     rw [show i - a=(i - (a+1))+1 by omega]
     rfl
    rw [e];exact⟨by omega,by omega,h3⟩
  ·rintro⟨c,h2,h3,b⟩
   rcases Qxx a i with h | h
   ·right
    have e:(t::r).getD (i - a) Qq2=r.getD (i - (a+1)) Qq2:=by
     rw [show i - a=(i - (a+1))+1 by omega]
     rfl
    rw [e] at h3 b;exact⟨by omega,by omega,h3,b⟩
   ·obtain rfl:a=i:=by omega
    rw [Nat.sub_self] at h3 b;exact .inl ⟨k,QzX.2 h3,by rw [<- b];rfl⟩
def AgF(P:List (List UInt8×Mm))(l:List (List UInt8))(h:Mm):Prop:=∀ k,k<l.length->(l.getD k Qq2,(h.1,h.2+(k:Int)))∈P
noncomputable instance (P:List (List UInt8×Mm)) (l:List (List UInt8)) (h:Mm):Decidable (AgF P l h):=Classical.propDecidable _
def T5:Nat->List (List UInt8)->Option (Int×Int)
 | _,[]=>none
 | i,w::r=>if wf w=(0,0) then T5 (i+1) r else some ((wf w).1,(i:Int))
end Go.L
namespace Go.Proofs.YtekmbcbgknmhiaaGreatDoor
open Go Go.L
theorem SH{l:List Mm}(hn:l.length<=1000000000)(p:Mm):Cg l p=some (decide (p∈l)):=by
 unfold Cg D2 DR
 have key:∀ (r:List Mm) (i:Nat),l.drop i=r->∃ z,run (B4 l p) (i:Int)=some z/\(0<=z↔p∈r):=by
  intro r
  induction r with
  | nil=>
   intro i hd;have hlen:=NS hd;refine⟨-1,AP (m:=some (-1)) ?_,by simp⟩;unfold B4 CT;rw [if_neg U]
  | cons x r ih=>
   intro i hd;obtain⟨hg,hd',hlt⟩:=M9 hd
   by_cases h:p.1=x.1/\p.2=x.2
   ·refine⟨(i:Int),AP (m:=some (i:Int)) ?_,by simp [Prod.ext h.1 h.2]⟩;unfold B4;rw [if_pos U,Ad ⟨by omega,by omega⟩,Qq8,hg,if_pos h]
   ·obtain⟨z,a,h2⟩:=ih (i+1) hd';refine⟨z,?_,?_⟩
    ·rw [<- a];refine Bg ?_;unfold B4;rw [if_pos U,Ad ⟨by omega,by omega⟩,Qq8,hg,if_neg h,Ad (by constructor <;> omega)]
     rfl
    ·rw [h2,Qzy];exact⟨.inr,fun h'=>h'.resolve_left (fun e=>h (by rw [e];exact⟨Z,Z⟩))⟩
 obtain⟨z,a,h2⟩:=key l 0 Z;have e:((p.1,p.2):Mm)=p:=Z;rw [e];rw [show run (B4 l p) 0=some z from a,Qq6]
 congr 1
 exact decide_eq_decide.2 h2
theorem SI{l:List Int}(hn:l.length<=1000000000)(p:Int):BC l p=some (decide (p∈l)):=by
 unfold BC DW DK
 have key:∀ (r:List Int) (i:Nat),l.drop i=r->∃ z,run (Bc l p) (i:Int)=some z/\(0<=z↔p∈r):=by
  intro r
  induction r with
  | nil=>
   intro i hd;have hlen:=NS hd;refine⟨-1,AP (m:=some (-1)) ?_,by simp⟩;unfold Bc Da;rw [if_neg U]
  | cons x r ih=>
   intro i hd;obtain⟨hg,hd',hlt⟩:=M9 hd
   by_cases h:p=x
   ·refine⟨(i:Int),AP (m:=some (i:Int)) ?_,by simp [h]⟩;unfold Bc;rw [if_pos U,Ad ⟨by omega,by omega⟩,Qq8,hg,if_pos h]
   ·obtain⟨z,a,h2⟩:=ih (i+1) hd';refine⟨z,?_,?_⟩
    ·rw [<- a];refine Bg ?_;unfold Bc;rw [if_pos U,Ad ⟨by omega,by omega⟩,Qq8,hg,if_neg h,Ad (by constructor <;> omega)]
     rfl
    ·rw [h2,Qzy];exact⟨.inr,fun h'=>h'.resolve_left h⟩
 obtain⟨z,a,h2⟩:=key l 0 Z;rw [show run (Bc l p) 0=some z from a,Qq6]
 congr 1
 exact decide_eq_decide.2 h2
structure XOk (es:HM):Prop where
 len:es.length<=1000000
 inc:Inc (es.map Qq5)
 Aa2:∀ w,(BT [] w es).length<=1000000/\∀ h∈BT [] w es,-1000000<=h.2/\h.2<=1000000
theorem XOk.AiX{items:List (List UInt8)}(hn:items.length<=64)(ht:∀ t∈items,t.length<=2048):XOk (E items):=by
 have hp:=Tx hn ht;have he:=Ae5 items;refine⟨by omega,AiM items,fun w=>?_⟩;rw [VI];have a:=PD (Gs 0 items) w;refine⟨by omega,fun h hh=>?_⟩;have h2:=I5 0 items 2048 ht _ (Ll.1 hh);simp only at h2;omega
def VZ(es:HM)(l:List (List UInt8))(h:Mm)(k:Nat):Prop:=∀ m,k<=m->m<l.length->(h.1,h.2+(m:Int))∈BT [] (l.getD m Qq2) es
noncomputable instance (es:HM) (l:List (List UInt8)) (h:Mm) (k:Nat):Decidable (VZ es l h k):=Classical.propDecidable _
theorem Ab6{n:Int}{es:HM}(hx:XOk es){l:List (List UInt8)}(hl:l.length<=16)(out H0:List Mm)(hH:H0.length<=1000000){j:Nat}{h:Mm}(hj:j<H0.length)(hg:H0.getD j Qq2=h)(hb : -1000000<=h.2/\h.2<=1000000):
  ∀ (r:List (List UInt8)) (k:Nat),l.drop k=r->run (Ck (n,es) l out (j:Int) H0) (k:Int)=if VZ es l h k then E2 out (j:Int) H0 else CV (j:Int) out
 | [],k,hd=>by
  have hlen:=NS hd;rw [if_pos (show VZ es l h k from fun m a h2=>by omega)];refine AP ?_;unfold Ck;rw [if_neg U]
 | w::r,k,hd=>by
  obtain⟨hgk,hd',hlt⟩:=M9 hd;have hw:=hx.Aa2 w
  by_cases hm:(h.1,h.2+(k:Int))∈BT [] w es
  ·have hb':Ck (n,es) l out (j:Int) H0 (k:Int)=some (.inl ((k+1:Nat):Int)):=by
    unfold Ck;simp only;rw [if_pos U,Ad ⟨by omega,by omega⟩,Qq8,Qq8,hg,hgk,Ad (by constructor <;> omega),PE (by have:=hx.len;omega) w hx.inc,Qq6,SH U,Qq6,decide_eq_true hm,if_neg Qqc,Ad (by constructor <;> omega)]
    rfl
   rw [Bg hb',Ab6 hx hl out H0 hH hj hg hb r (k+1) hd']
   have e:VZ es l h (k+1)↔VZ es l h k:=by
    constructor
    ·intro hh m a h2
     rcases Qxx k m with h3 | h3
     ·exact hh m h3 h2
     ·obtain rfl:k=m:=by omega
      rw [hgk];exact hm
    ·intro hh m a h2;exact hh m U h2
   by_cases hf:VZ es l h k
   ·rw [if_pos hf,if_pos (e.2 hf)]
   ·rw [if_neg hf,if_neg (fun x=>hf (e.1 x))]
  ·rw [if_neg (fun hh=>hm (by have:=hh k (Qzx _) hlt;rw [hgk] at this;exact this))];refine AP ?_;unfold Ck;simp only;rw [if_pos U,Ad ⟨by omega,by omega⟩,Qq8,Qq8,hg,hgk,Ad (by constructor <;> omega),PE (by have:=hx.len;omega) w hx.inc,Qq6,SH U,Qq6,decide_eq_false hm,if_pos Qqc]
def KN(es:HM)(l:List (List UInt8))(h:Mm):Prop:=∀ m,m<l.length->(h.1,h.2+(m:Int))∈BT [] (l.getD m Qq2) es
noncomputable instance (es:HM) (l:List (List UInt8)) (h:Mm):Decidable (KN es l h):=Classical.propDecidable _
theorem Ab7{n:Int}{es:HM}(hx:XOk es){l:List (List UInt8)}(hl:l.length<=16)(H0:List Mm)(hH:H0.length<=1000000):∀ (r:List Mm) (j:Nat) (out:List Mm),H0.drop j=r->out.length<=j->(∀ h∈r,-1000000<=h.2/\h.2<=1000000)->
  run (CK (n,es) l H0) (out,(j:Int))=some (out++r.filter (fun h=>decide (KN es l h)),(0,0))
 | [],j,out,hd,ho,_=>by
  have hlen:=NS hd;refine AP ?_;unfold CK FV;simp only;rw [if_neg U,List.filter_nil,QzZ]
 | h::r,j,out,hd,ho,hr=>by
  obtain⟨hg,hd',hlt⟩:=M9 hd;have hb:=hr h (Qz0 ..);have a:=Ab6 (n:=n) hx hl out H0 hH hlt hg hb l 0 Z
  have hbody:CK (n,es) l H0 (out,(j:Int))=some (.inl (out++(if KN es l h then[h] else[]),((j+1:Nat):Int))):=by
   unfold CK HU;simp only;rw [if_pos U,Ad ⟨by omega,by omega⟩];refine a.trans ?_
   by_cases hf:KN es l h
   ·rw [if_pos hf,if_pos (show VZ es l h 0 from fun m _ h2=>hf m h2)];unfold E2 CV;rw [Qq8,hg,Ad (by rw [QxD];constructor <;> omega),Ad (by constructor <;> omega)]
    rfl
   ·rw [if_neg hf,if_neg (fun hh=>hf (fun m h2=>hh m (Qz3 _) h2)),QzZ];unfold CV;rw [Ad (by constructor <;> omega)]
    rfl
  rw [Bg hbody,Ab7 hx hl H0 hH r (j+1) _ hd' (by rw [Qzu];split <;> simp <;> omega) (fun x hx'=>hr x (QzC _ hx')),QxX]
  congr 3
  by_cases hf:KN es l h
  ·rw [if_pos hf,List.filter_cons_of_pos (p:=fun h=>decide (KN es l h)) (decide_eq_true hf)];rfl
  ·rw [if_neg hf,List.filter_cons_of_neg (p:=fun h=>decide (KN es l h)) (by simpa using hf)];rfl
theorem Ac5{n:Int}{es:HM}(hx:XOk es)(l:List (List UInt8)):
  Ee (n,es) l=some (if l=[] then([],(10,-1)) else if 16<l.length then([],(2,-1)) else match T5 0 l with | some f=>([],f) | none=>((BT [] (l.getD 0 Qq2) es).filter (fun h=>decide (KN es l h)),(0,0))):=by
 unfold Ee
 by_cases b:l=[]
 ·subst b;rfl
 have d:=List.length_pos_iff.2 b;rw [if_neg U,if_neg b]
 by_cases a:16<l.length
 ·rw [if_pos U,if_pos a];rfl
 rw [if_neg U,if_neg a];unfold HW
 have key:∀ (r:List (List UInt8)) (i:Nat),l.drop i=r->run (CL (n,es) l) (i:Int)=some (match T5 i r with | some f=>([],f) | none=>((BT [] (l.getD 0 Qq2) es).filter (fun h=>decide (KN es l h)),(0,0))):=by
  intro r
  induction r with
  | nil=>
   intro i hd;have hlen:=NS hd;refine AP ?_;unfold CL FW HV;have hw:=hx.Aa2 (l.getD 0 Qq2);have c:(0:Int).toNat=0:=Z;rw [if_neg U,Ad ⟨by omega,by omega⟩,c,PE (by have:=hx.len;omega) _ hx.inc,Qq6];have:=Ab7 (n:=n) hx (l:=l) U (BT [] (l.getD 0 Qq2) es) hw.1 _ 0 [] Z (Qzx _) hw.2;rw [Qxv] at this
   congr 1
  | cons w r ih=>
   intro i hd;obtain⟨hg,hd',hlt⟩:=M9 hd;unfold T5
   by_cases h:wf w=(0,0)
   ·rw [if_pos h,<- ih (i+1) hd'];refine Bg ?_;unfold CL;rw [if_pos U,Ad ⟨by omega,by omega⟩,Qq8,hg,NP,Qq6,if_pos (by rw [h];exact⟨Z,Z⟩),Ad (by constructor <;> omega)]
    rfl
   ·rw [if_neg h];refine AP ?_;unfold CL;rw [if_pos U,Ad ⟨by omega,by omega⟩,Qq8,hg,NP,Qq6,if_neg (fun x=>h (Prod.ext x.1 x.2))]
    rfl
 exact key l 0 Z
end Go.Proofs.YtekmbcbgknmhiaaGreatDoor
end
noncomputable section
namespace Go.L
open Go Go.Proofs.YtekmbcbgknmhiaaGreatDoor
def SJ(items:List (List UInt8))(a b:List UInt8)(d x:Int):Prop:=∃ k k':Int,(a,(x,k))∈Gs 0 items/\(b,(x,k'))∈Gs 0 items/\k≠k'/\-d<=k - k'/\k - k'<=d
theorem SJ.symm{items:List (List UInt8)}{a b:List UInt8}{d x:Int}:SJ items a b d x↔SJ items b a d x:=by
 constructor <;> (rintro⟨k,k',c,h2,h3,f,g⟩;exact⟨k',k,h2,c,fun e=>h3 e.symm,by omega,by omega⟩)
theorem SJ.more{items:List (List UInt8)}{a b:List UInt8}{d e x:Int}(h:d<=e):SJ items a b d x->SJ items a b e x:=by
 rintro⟨k,k',c,h2,h3,f,g⟩;exact⟨k,k',c,h2,h3,by omega,by omega⟩
abbrev AgG(l:List Int):Prop:=l.Pairwise (· < ·)
def Cl(k h:Mm)(d:Int):Prop:=h.1=k.1/\h.2≠k.2/\-d<=h.2 - k.2/\h.2 - k.2<=d
theorem SK:∀ (i:Nat) (r:List (List UInt8)),(Gs i r).Pairwise fun p q=>p.2.1<=q.2.1
 | _,[]=>List.Pairwise.nil
 | i,t::r=>by
  unfold Gs;refine Qjy.2 ⟨?_,SK (i+1) r,fun p hp q hq=>?_⟩
  ·rw [List.pairwise_iff_forall_sublist];intro p q hs;have a:=Ot (hs.subset (Qz0 ..));have h2:=Ot (hs.subset (QzC _ (Qz0 ..)));omega
  ·have a:=Ot hp;have h2:=(I5 (i+1) r (total r) (fun t ht=>Xh ht) q hq).1;omega
theorem Wx(items:List (List UInt8))(w:List UInt8):(NR (Gs 0 items) w).Pairwise fun h k=>h.1<=k.1:=by
 unfold NR;rw [Qkx];exact(SK 0 items).filter _
end Go.L
namespace Go.Proofs.YtekmbcbgknmhiaaGreatDoor
open Go Go.L
theorem AeR{k h:Mm}{d:Int}(hd:1<=d)(hk : -1000000<=k.2/\k.2<=1000000)(hh : -1000000<=h.2/\h.2<=1000000):∃ b,EN k h d=some (b,(h.1,h.2),d)/\(b=true↔Cl k h d):=by
 unfold EN;rw [Ad (by constructor <;> omega),Ad (by constructor <;> omega)];unfold Cl
 by_cases a:(h.1=k.1)/\((0:Int)<(max (h.2 - k.2) (k.2 - h.2)))
 ·rw [if_pos a];refine⟨_,Z,?_⟩;rw [decide_eq_true_eq]
  constructor
  ·intro h2;exact⟨a.1,by omega,by omega,by omega⟩
  ·rintro⟨_,_,h2,h3⟩;omega
 ·rw [if_neg a];refine⟨_,Z,?_⟩;simp only [Bool.false_eq_true,false_iff];rintro⟨h2,h3,_⟩;exact a ⟨h2,by omega⟩
theorem Wy{B:List Mm}(hB:B.length<=1000000)(hb:∀ k∈B,-1000000<=k.2/\k.2<=1000000){h:Mm}(hh : -1000000<=h.2/\h.2<=1000000){d:Int}(hd:1<=d):
  ∃ b,BJ B h d=some (b,(h.1,h.2),d)/\(b=true↔∃ k∈B,Cl k h d):=by
 unfold BJ CM Dm
 have key:∀ (r:List Mm) (i:Nat),B.drop i=r->∃ z,run (Bp B) (h.1,h.2,d,(i:Int))=some (z,(h.1,h.2),d)/\(0<=z↔∃ k∈r,Cl k h d):=by
  intro r
  induction r with
  | nil=>
   intro i hdr;have hlen:=NS hdr;refine⟨-1,AP (m:=some (-1,(h.1,h.2),d)) ?_,by simp⟩;unfold Bp Cq;simp only;rw [if_neg U]
  | cons x r ih=>
   intro i hdr;obtain⟨hg,hd',hlt⟩:=M9 hdr;have hx:x∈B:=List.mem_of_mem_drop (by rw [hdr];exact Qz0 ..);obtain⟨b,a,h2⟩:=AeR (k:=x) hd (hb x hx) hh;have h1':EN (x.1,x.2) (h.1,h.2) d=some (b,(h.1,h.2),d):=a
   cases b with
   | true=>
    refine⟨(i:Int),AP (m:=some ((i:Int),(h.1,h.2),d)) ?_,?_⟩
    ·unfold Bp;simp only;rw [if_pos U,Ad ⟨by omega,by omega⟩,Qq8,hg,h1',Qq6,if_pos Z]
    ·exact⟨fun _=>⟨x,Qz0 ..,h2.1 Z⟩,fun _=>by omega⟩
   | false=>
    obtain⟨z,h3,c⟩:=ih (i+1) hd';refine⟨z,?_,?_⟩
    ·rw [<- h3];refine Bg ?_;unfold Bp;simp only;rw [if_pos U,Ad ⟨by omega,by omega⟩,Qq8,hg,h1',Qq6,if_neg QkC,Ad (by constructor <;> omega)]
     rfl
    ·rw [c]
     constructor
     ·rintro⟨k,hk,hc⟩;exact⟨k,QzC _ hk,hc⟩
     ·rintro⟨k,hk,hc⟩
      rcases Qzy.1 hk with rfl | hk
      ·have:=h2.2 hc;cases this
      ·exact⟨k,hk,hc⟩
 obtain⟨z,a,h2⟩:=key B 0 Z;rw [show run (Bp B) ((h.1,h.2).1,(h.1,h.2).2,d,0)=_ from a,Qq6];exact⟨_,Z,by rw [decide_eq_true_eq];exact h2⟩
theorem T6{n:Int}{es:HM}(hx:XOk es)(b:List UInt8){d:Int}(hd:1<=d){H:List Mm}(hH:H.length<=1000000):∀ (r:List Mm) (j:Nat) (out:List Int),H.drop j=r->j<=H.length->out.length<=j->AgG out->(∀ y∈out,∀ h∈r,y<=h.1)->r.Pairwise (fun h k=>h.1<=k.1)->(∀ h∈r,-1000000<=h.2/\h.2<=1000000)->
  ∃ L,run (Dt (n,es) b H) (out,d,(j:Int))=some (L,(0,0))/\AgG L/\L.length<=H.length/\∀ x,x∈L↔x∈out\/∃ h∈r,h.1=x/\∃ k∈BT [] b es,Cl k h d
 | [],j,out,hdr,hjl,ho,hi,_,_,_=>by
  have hlen:=NS hdr;refine⟨out,AP (m:=some (out,(0,0))) ?_,hi,by omega,by simp⟩
  ·unfold Dt Hb;simp only;rw [if_neg U]
 | h::r,j,out,hdr,hjl,ho,hi,hy,hs,hr=>by
  obtain⟨hg,hd',hlt⟩:=M9 hdr;have hb:=hr h (Qz0 ..);have hw:=hx.Aa2 b;obtain⟨c,s,h2⟩:=Wy hw.1 hw.2 hb hd;have h1':BJ (BT [] b es) (h.1,h.2) d=some (c,(h.1,h.2),d):=s;have g:=Qz1.1 hs;have i:(j:Int)+1=((j+1:Nat):Int):=by omega
  -- the list behind this round
  by_cases hadd:c=true/\h.1∉out
  ·have hi':AgG (out++[h.1]):=Qjy.2 ⟨hi,QkJ _ _,fun y f z hz=>by
    rw [QzB.1 hz];have h3:=hy y f h (Qz0 ..);have t:y≠h.1:=fun e=>hadd.2 (e ▸ f);omega⟩
   obtain⟨L,l,o,p,q⟩:=T6 hx b hd hH r (j+1) (out++[h.1]) hd' hlt (by simp;omega) hi' (fun y f k hk=>by
    rcases QzQ.1 f with f | f
    ·exact hy y f k (QzC _ hk)
    ·rw [QzB.1 f];exact g.1 k hk) g.2 (fun k hk=>hr k (QzC _ hk))
   refine⟨L,?_,o,p,fun x=>?_⟩
   ·rw [<- l];refine Bg ?_;unfold Dt;simp only;rw [if_pos U,Ad ⟨by omega,by omega⟩,Qq8,hg,PE (by have:=hx.len;omega) b hx.inc,Qq6,h1',Qq6,if_pos hadd.1,SI U,Qq6,decide_eq_false hadd.2,if_pos Qqc,Ad (by rw [QxD];constructor <;> omega),Ad (by constructor <;> omega),i]
   ·rw [q,QzQ,QzB]
    constructor
    ·rintro((a | a) | ⟨k,hk,a⟩)
     ·exact .inl a
     ·exact .inr ⟨h,Qz0 ..,a.symm,h2.1 hadd.1⟩
     ·exact .inr ⟨k,QzC _ hk,a⟩
    ·rintro(a | ⟨k,hk,a⟩)
     ·exact .inl (.inl a)
     ·rcases Qzy.1 hk with rfl | hk
      ·exact .inl (.inr a.1.symm)
      ·exact .inr ⟨k,hk,a⟩
  ·obtain⟨L,l,o,p,q⟩:=T6 hx b hd hH r (j+1) out hd' hlt U hi (fun y f k hk=>hy y f k (QzC _ hk)) g.2 (fun k hk=>hr k (QzC _ hk));refine⟨L,?_,o,p,fun x=>?_⟩
   ·rw [<- l];refine Bg ?_;unfold Dt;simp only;rw [if_pos U,Ad ⟨by omega,by omega⟩,Qq8,hg,PE (by have:=hx.len;omega) b hx.inc,Qq6,h1',Qq6]
    cases c with
    | false=>rw [if_neg QkC,Ad (by constructor <;> omega),i]
    | true=>
     have hin:h.1∈out:=Decidable.byContradiction fun hn=>hadd ⟨Z,hn⟩;rw [if_pos Z,SI U,Qq6,decide_eq_true hin,if_neg Qqc,Ad (by constructor <;> omega),i]
   ·rw [q]
    constructor
    ·rintro(a | ⟨k,hk,a⟩)
     ·exact .inl a
     ·exact .inr ⟨k,QzC _ hk,a⟩
    ·rintro(a | ⟨k,hk,a⟩)
     ·exact .inl a
     ·rcases Qzy.1 hk with rfl | hk
      ·have hc:c=true:=h2.2 a.2;have hin:k.1∈out:=Decidable.byContradiction fun hn=>hadd ⟨hc,hn⟩;exact .inl (a.1 ▸ hin)
      ·exact .inr ⟨k,hk,a⟩
def Yj(a b:List UInt8)(d:Int):Prop:=wf a=(0,0)/\wf b=(0,0)/\1<=d/\d<=2048
def Ah1(a b:List UInt8):Int×Int:=if wf a=(0,0) then if wf b=(0,0) then(4,-3) else((wf b).1,-2) else wf a
theorem AgH{n:Int}{items:List (List UInt8)}(hn:items.length<=64)(ht:∀ t∈items,t.length<=2048)(a b:List UInt8)(d:Int):
  (Yj a b d->∃ L,EW (n,E items) a b d=some (L,(0,0))/\AgG L/\L.length<=1000000/\∀ x,x∈L↔SJ items a b d x)/\(¬ Yj a b d->EW (n,E items) a b d=some ([],Ah1 a b)):=by
 have hx:=XOk.AiX hn ht;unfold EW;rw [NP,Qq6]
 constructor
 ·rintro⟨c,h2,h3,l⟩;have hw:=hx.Aa2 a;obtain⟨L,m,o,q,p⟩:=T6 (n:=n) hx b h3 hw.1 (BT [] a (E items)) 0 [] Z (Qz3 _) (Qzx _) List.Pairwise.nil Qqd (by rw [VI];exact Wx items a) hw.2;refine⟨L,?_,o,by omega,fun x=>?_⟩
  ·rw [if_pos (by rw [c];exact⟨Z,Z⟩),NP,Qq6,if_pos (by rw [h2];exact⟨Z,Z⟩),if_neg U,if_neg U];simp only;rw [PE (by have:=hx.len;omega) a hx.inc,Qq6];exact m
  ·rw [p];unfold SJ
   constructor
   ·rintro(e | ⟨h,hh,rfl,k,hk,f,g,i,j⟩)
    ·cases e
    ·rw [VI,Ll] at hh hk;exact⟨h.2,k.2,hh,by rw [f];exact hk,g,i,j⟩
   ·rintro⟨k,k',e,f,g,i,j⟩;refine .inr ⟨(x,k),by rw [VI,Ll];exact e,Z,(x,k'),by rw [VI,Ll];exact f,Z,g,i,j⟩
 ·intro h;unfold Ah1
  by_cases c:wf a=(0,0)
  ·rw [if_pos (by rw [c];exact⟨Z,Z⟩),if_pos c,NP,Qq6]
   by_cases h2:wf b=(0,0)
   ·rw [if_pos (by rw [h2];exact⟨Z,Z⟩),if_pos h2]
    by_cases h3:d<1
    ·rw [if_pos h3];rfl
    ·rw [if_neg h3]
     by_cases l:2048<d
     ·rw [if_pos l];rfl
     ·exact absurd ⟨c,h2,by omega,by omega⟩ h
   ·rw [if_neg (fun x=>h2 (Prod.ext x.1 x.2)),if_neg h2];rfl
  ·rw [if_neg (fun x=>c (Prod.ext x.1 x.2)),if_neg c]
/- The reference. -/
end Go.Proofs.YtekmbcbgknmhiaaGreatDoor
end
noncomputable section
namespace Go.L
open Go
theorem AeS(c d:UInt8)(p l:List UInt8){k:Nat}(a:1<=k)(h2:k<=2):cls (c::p) (d::l)<k↔d.toNat<c.toNat\/d.toNat=c.toNat/\cls p l<k:=by
 have hle:cls p l<=2:=by unfold cls;split;omega;split <;> omega
 have hless:Op.bytesLess (d::l) (c::p)=true↔d.toNat<c.toNat\/d.toNat=c.toNat/\Op.bytesLess l p=true:=by
  rw [<- Pa,<- Pa];exact V8 d c l p
 unfold cls at hle ⊢;rw [V7]
 by_cases hd:d=c
 ·subst hd;simp only [decide_true,Bool.true_and]
  by_cases hp:pre l p=true
  ·rw [if_pos hp,if_pos hp];simp
  ·rw [if_neg hp,if_neg hp]
   by_cases hl:Op.bytesLess l p=true
   ·rw [if_pos hl,if_pos (hless.2 (.inr ⟨Z,hl⟩))];simp
   ·rw [if_neg hl,if_neg (fun h=>by rcases hless.1 h with h | h;omega;exact hl h.2)];simp
 ·have hne:d.toNat≠c.toNat:=fun e=>hd (UInt8.toNat.inj e);rw [decide_eq_false hd,Bool.false_and,if_neg Qqc]
  by_cases hl:d.toNat<c.toNat
  ·rw [if_pos (hless.2 (.inl hl))];omega
  ·rw [if_neg (fun h=>by rcases hless.1 h with h | h;exact hl h;exact hne h.1)];omega
def OD(a p:List UInt8)(k:Nat):Nat:=(Qzv (a.length+1)).countP fun q=>decide (cls p (a.drop q)<k)
theorem AgI(a p:List UInt8)(k:Nat){r:Nat}(hr:r<(op a).length):cls p (a.drop (op a)[r])<k↔r<OD a p k:=by
 have hasc:((op a).map fun x=>cls p (a.drop x)).Pairwise (·<=·):=by
  rw [Qkx];exact(Ts a).imp fun h=>Za (of_decide_eq_true h)
 have h:=Rf _ k r hasc (by rw [Qzk];exact hr);rw [List.countP_map,(SB a).countP_eq] at h
 have hg:((op a).map fun x=>cls p (a.drop x)).getD r 0=cls p (a.drop (op a)[r]):=by
  rw [Qq9,Qz6,Qzj hr];rfl
 rw [hg] at h;exact h
theorem AeT(a p:List UInt8)(k:Nat):OD a p k<=a.length+1:=by
 have:=Qjv (p:=fun q=>decide (cls p (a.drop q)<k)) (l:=Qzv (a.length+1));rw [QxQ] at this;exact this
theorem Wa(a p:List UInt8):OD a p 1<=OD a p 2:=List.countP_mono_left fun q _ h=>decide_eq_true (by have:=of_decide_eq_true h;omega)
theorem Ab8(a:List UInt8):OD a [] 1=0/\OD a [] 2=a.length+1:=by
 have h:∀ q,cls [] (a.drop q)=1:=fun q=>by unfold cls;rw [pre_nil,if_pos Z]
 unfold OD
 constructor
 ·exact List.countP_eq_zero.2 (fun q _=>by rw [h];decide)
 ·rw [List.countP_eq_length.2 (fun q _=>by rw [h];decide),QxQ]
theorem Wb(a:List UInt8)(f:Nat->Bool)(g:Nat->Bool)(h:∀ r (hr:r<(op a).length),f r=g (op a)[r]):(Qzv (sym a).length).countP f=(Qzv (a.length+1)).countP g:=by
 rw [<- Xa a g];apply Qk3;intro r hr;have hr:r<(op a).length:=by rw [Fa,<- ER];exact QzX.1 hr
 rw [h r hr,opD hr]
def QJ(s:List Int)(c:Int)(k:Nat):Nat:=(Qzv k).countP fun r=>decide (0<=s.getD r Qq2/\s.getD r Qq2<c)
def Ow(s:List Int)(c:Int)(f k:Nat):Nat:=(Qzv k).countP fun r=>decide (s.getD r Qq2=c/\r<f)
theorem T7{α:Type}(f g h:α->Bool)(e:∀ x,h x=(f x||g x))(d:∀ x,f x=true->g x=false):∀ l:List α,l.countP h=l.countP f+l.countP g
 | []=>rfl
 | x::l=>by
  rw [Qx2,Qx2,Qx2,T7 f g h e d l,e x]
  cases hf:f x with
  | false=>simp;omega
  | true=>rw [d x hf];simp;omega
theorem SL(a p:List UInt8)(c:UInt8){k:Nat}(b:1<=k)(h2:k<=2):1+QJ (sym a) (c.toNat:Int) (sym a).length+Ow (sym a) (c.toNat:Int) (OD a p k) (sym a).length=OD a (c::p) k:=by
 unfold QJ Ow
 rw [Wb a _ (fun q=>decide (1<=q/\I4 a q<(c.toNat:Int))) (fun r hr=>by rw [MM a hr];exact decide_eq_decide.2 (by rw [N1])),
  Wb a _ (fun q=>decide (I4 a q=(c.toNat:Int)/\cls p (a.drop q)<k)) (fun r hr=>by rw [MM a hr];exact decide_eq_decide.2 (by rw [AgI a p k hr])),
  Nat.add_assoc,<- T7 _ _ (fun q=>decide (1<=q/\I4 a q<(c.toNat:Int))||decide (I4 a q=(c.toNat:Int)/\cls p (a.drop q)<k)) (fun _=>Z) (fun q h=>by
   have:=of_decide_eq_true h;exact decide_eq_false U)]
 have eb:OD a (c::p) k=(Qzv a.length).countP (fun q=>decide (cls (c::p) (a.drop q)<k))+[a.length].countP (fun q=>decide (cls (c::p) (a.drop q)<k)):=by
  unfold OD;rw [QxB,QkQ]
 rw [eb]
 have d:(decide (1<=0/\I4 a 0<(c.toNat:Int))||decide (I4 a 0=(c.toNat:Int)/\cls p (a.drop 0)<k))=false:=by
  have:I4 a 0 = -1:=by unfold I4;rw [if_pos Z]
  rw [this,decide_eq_false U,decide_eq_false U];rfl
 rw [SC a.length (fun q=>decide (1<=q/\I4 a q<(c.toNat:Int))||decide (I4 a q=(c.toNat:Int)/\cls p (a.drop q)<k)) d]
 have e:(Qzv a.length).countP (fun q=>decide (1<=q+1/\I4 a (q+1)<(c.toNat:Int))||decide (I4 a (q+1)=(c.toNat:Int)/\cls p (a.drop (q+1))<k))=(Qzv a.length).countP (fun q=>decide (cls (c::p) (a.drop q)<k)):=by
  apply Qk3;intro q hq;have hq:=QzX.1 hq;have hd:=Lj (a:=a) (q:=q+1) U U;rw [Qkz] at hd;rw [hd];simp only [Qz8,decide_eq_true_eq];rw [AeS c _ p _ b h2];unfold I4;rw [if_neg U,Qkz];omega
 have f:decide (cls (c::p) (a.drop a.length)<k)=true:=by
  rw [List.drop_length];have:cls (c::p) []=0:=by unfold cls;rw [S9];rfl
  rw [this];exact decide_eq_true U
 rw [e,Qjw,f,if_pos Z];omega
end Go.L
namespace Go.Proofs.YtekmbcbgknmhiaaGreatDoor
open Go Go.L
theorem AgJ{s:List Int}(hl:s.length<=2049)(j:∀ r,r<s.length->-1<=s.getD r Qq2){c:Int}(hc:0<=c)(f t:Nat):F0 s c (f:Int) (t:Int)=some (((1+QJ s c s.length+Ow s c f s.length:Nat):Int),((1+QJ s c s.length+Ow s c t s.length:Nat):Int)):=by
 have e:∀ k,QJ s c k<=k:=fun k=>by have:=Qjv (p:=fun r=>decide (0<=s.getD r Qq2/\s.getD r Qq2<c)) (l:=Qzv k);rw [QxQ] at this;exact this
 have a:∀ f k,Ow s c f k<=k:=fun f k=>by have:=Qjv (p:=fun r=>decide (s.getD r Qq2=c/\r<f)) (l:=Qzv k);rw [QxQ] at this;exact this
 have s1:∀ k,QJ s c (k+1)=QJ s c k+if 0<=s.getD k Qq2/\s.getD k Qq2<c then 1 else 0:=fun k=>by
  unfold QJ;rw [QxB,QkQ,Qjw];simp only [decide_eq_true_eq]
 have g:∀ f k,Ow s c f (k+1)=Ow s c f k+if s.getD k Qq2=c/\k<f then 1 else 0:=fun f k=>by
  unfold Ow;rw [QxB,QkQ,Qjw];simp only [decide_eq_true_eq]
 refine DJ (b:=Cu s c f t) (fun k=>(((1+QJ s c k:Nat):Int),(Ow s c f k:Int),(Ow s c t k:Int),(k:Int))) s.length (fun k hk=>?_) ?_ 0
 ·have d:∀ x y:Nat,x<=5000->y<=5000->BR s c (t:Int) (Ow s c t k:Int) (k:Int) (x:Int) (y:Int)=some (.inl ((x:Int),(y:Int),(Ow s c t (k+1):Int),((k+1:Nat):Int))):=fun x y hx hy=>by
   unfold BR;have:=a t k;rw [Qq8,g t k]
   by_cases h:s.getD k Qq2=c/\k<t
   ·rw [if_pos U,if_pos h,Ad (by constructor <;> omega),Ad (by constructor <;> omega)];rfl
   ·rw [if_neg U,if_neg h,Ad (by constructor <;> omega)];rfl
  have m:=e k;have n:=a f k;have o:=j k hk;unfold Cu;simp only;rw [if_pos U,Ad U,Qq8,s1 k,g f k]
  by_cases i:s.getD k Qq2 = -1
  ·rw [if_pos i,d _ _ U U,if_neg U,if_neg U];rfl
  ·rw [if_neg i]
   by_cases h2:s.getD k Qq2<c
   ·rw [if_pos h2,Ad (by constructor <;> omega),show((1+QJ s c k:Nat):Int)+1=((1+QJ s c k+1:Nat):Int) by omega,d _ _ U U,if_pos U,if_neg U];rfl
   ·rw [if_neg h2,if_neg (show ¬ (0<=s.getD k Qq2/\s.getD k Qq2<c) by omega)]
    by_cases h3:s.getD k Qq2=c/\k<f
    ·rw [if_pos U,Ad (by constructor <;> omega),show(Ow s c f k:Int)+1=((Ow s c f k+1:Nat):Int) by omega,d _ _ U U,if_pos h3];rfl
    ·rw [if_neg U,d _ _ U U,if_neg h3];rfl
 ·have m:=e s.length;have n:=a f s.length;have o:=a t s.length;unfold Cu;simp only;rw [if_neg U];unfold Es;rw [Ad (by constructor <;> omega),Ad (by constructor <;> omega)]
  rfl
theorem SM{a p:List UInt8}(h:a.length<=2048)(hp:p.length<=64):∀ k,k<=p.length->
  ∃ f t:Nat,FY (idx a) p ((OD a (p.drop k) 1:Int),(OD a (p.drop k) 2:Int),(k:Int) - 1)=some ((f:Int),(t:Int),(0,0))/\f<=t/\t<=a.length+1/\(f=t->OD a p 1=OD a p 2)/\(f<t->f=OD a p 1/\t=OD a p 2)
 | 0,_=>by
  refine⟨OD a p 1,OD a p 2,AP (b:=BV (idx a) p) (m:=some _) ?_,Wa a p,AeT a p 2,id,fun _=>⟨Z,Z⟩⟩;unfold BV;simp only;have:=Wa a p;rw [if_neg U,QxE];unfold E4;rw [show max (OD a p 1:Int) (OD a p 2:Int)=(OD a p 2:Int) by omega]
 | k+1,hk=>by
  have hm:=Wa a (p.drop (k+1))
  by_cases hlt:OD a (p.drop (k+1)) 1<OD a (p.drop (k+1)) 2
  ·have hd:p.drop k=p.getD k Qq2::p.drop (k+1):=by
    have:=Lj (a:=p) (q:=k+1) U hk;rw [Qkz] at this;exact this
   have hb:BV (idx a) p ((OD a (p.drop (k+1)) 1:Int),(OD a (p.drop (k+1)) 2:Int),((k+1:Nat):Int) - 1)=some (.inl ((OD a (p.drop k) 1:Int),(OD a (p.drop k) 2:Int),(k:Int) - 1)):=by
    unfold BV;simp only;have c:(((k+1:Nat):Int) - 1).toNat=k:=by omega
    have d:(idx a).1=sym a:=Z;rw [if_pos U,Ad U,c,d,AgJ (by rw [ER];omega) (fun r hr=>by rw [MM a (by rw [Fa,<- ER];exact hr)];unfold I4;split <;> omega) U,Qq6,Ad (by constructor <;> omega),SL a _ _ U U,SL a _ _ U U,<- hd]
    congr 4;omega
   unfold FY;rw [Bg hb];exact SM h hp k U
  ·have he:OD a (p.drop (k+1)) 1=OD a (p.drop (k+1)) 2:=by omega
   have hnone:∀ j,j<=k+1->OD a (p.drop (k+1 - j)) 1=OD a (p.drop (k+1 - j)) 2:=by
    intro j
    induction j with
    | zero=>intro _;exact he
    | succ j ih=>
     intro hj;have ih:=ih U
     have hd:p.drop (k+1 - (j+1))=p.getD (k+1 - (j+1)) Qq2::p.drop (k+1 - j):=by
      have:=Lj (a:=p) (q:=k+1 - j) U U;rw [show k+1 - (j+1)=k+1 - j - 1 by omega];exact this
     rw [hd,<- SL a _ _ U U,<- SL a _ _ U U,ih]
   have hz:=hnone (k+1) U;rw [Nat.sub_self,QxE] at hz;refine⟨OD a (p.drop (k+1)) 1,OD a (p.drop (k+1)) 1,AP (b:=BV (idx a) p) (m:=some _) ?_,Qzx _,AeT a _ 1,fun _=>hz,fun h=>absurd h U⟩;unfold BV;simp only;rw [if_neg U];unfold E4;rw [<- he,Int.max_self]
def pfF(p:List UInt8):Int×Int:=if p.length=0 then(10,-1) else if p.length<=64 then(0,0) else(3,-1)
theorem AgK{a p:List UInt8}(h:a.length<=2048):∃ f t:Nat,EO (idx a) p=some ((f:Int),(t:Int),pfF p)/\f<=t/\t<=a.length+1/\(pfF p≠(0,0)->f=0/\t=0)/\(pfF p=(0,0)->(f=t->OD a p 1=OD a p 2)/\(f<t->f=OD a p 1/\t=OD a p 2)):=by
 unfold EO pfF
 by_cases c:p.length=0
 ·rw [if_pos U,if_pos c];exact⟨0,0,Z,Qzx _,Qz3 _,fun _=>⟨Z,Z⟩,fun e=>absurd e Qqc⟩
 ·rw [if_neg U,if_neg c]
  by_cases b:p.length<=64
  ·rw [if_neg U,if_pos b]
   have e:Dw (idx a).1=some ((a.length+1:Nat):Int):=by
    unfold Dw;rw [show(idx a).1.length=a.length+1 from ER a]
    congr 1;omega
   rw [e,Qq6,Ad (by constructor <;> omega)];obtain⟨f,t,d,g,i,j,k⟩:=SM h b p.length (Qzx _);rw [List.drop_length,(Ab8 a).1,(Ab8 a).2] at d;exact⟨f,t,d,g,i,fun e=>absurd Z e,fun _=>⟨j,k⟩⟩
  ·rw [if_pos U,if_neg b];exact⟨0,0,Z,Qzx _,Qz3 _,fun _=>⟨Z,Z⟩,fun e=>absurd e Qqc⟩
end Go.Proofs.YtekmbcbgknmhiaaGreatDoor
end
noncomputable section
namespace Go.L
open Go
def AeU(a p:List UInt8)(k:Nat):List Nat:=(Qzv k).filter fun q=>pre (a.drop q) p
def occ(a p:List UInt8):List Int:=(AeU a p a.length).map fun q:Nat=>(q:Int)
theorem AgL(p l:List UInt8):decide (cls p l<2)=(decide (cls p l<1)||pre l p):=by
 unfold cls
 by_cases hp:pre l p=true
 ·rw [if_pos hp,hp];decide
 ·rw [if_neg hp];have:pre l p=false:=by simpa using hp
  rw [this]
  split <;> decide
theorem AgM{p l:List UInt8}:pre l p=decide (¬ cls p l<1/\cls p l<2):=by
 unfold cls
 by_cases hp:pre l p=true
 ·rw [if_pos hp,hp];decide
 ·rw [if_neg hp];have:pre l p=false:=by simpa using hp
  rw [this]
  split <;> decide
theorem AgN{a p:List UInt8}(hp:p≠[]):pre (a.drop a.length) p=false:=by
 rw [List.drop_length]
 cases p with
 | nil=>exact absurd Z hp
 | cons c p=>exact S9 c p
theorem Ac6{a p:List UInt8}(hp:p≠[]):AeU a p (a.length+1)=AeU a p a.length:=by
 unfold AeU;rw [QxB,Qjj]
 have:[a.length].filter (fun q=>pre (a.drop q) p)=[]:=by
  rw [List.filter_cons_of_neg (by rw [AgN hp];decide)];rfl
 rw [this,QzZ]
theorem AgO{a p:List UInt8}(hp:p≠[]):OD a p 2=OD a p 1+(occ a p).length:=by
 have h:OD a p 2=OD a p 1+(Qzv (a.length+1)).countP (fun q=>pre (a.drop q) p):=
  T7 _ _ _ (fun q=>AgL p (a.drop q)) (fun q h=>by
   have:=of_decide_eq_true h;rw [AgM];exact decide_eq_false U) _
 rw [h,List.countP_eq_length_filter]
 show _+(AeU a p (a.length+1)).length=_
 rw [Ac6 hp];unfold occ;rw [Qzk]
end Go.L
namespace Go.Proofs.YtekmbcbgknmhiaaGreatDoor
open Go Go.L
theorem AiY{p:List UInt8}(h:pfF p=(0,0)):p≠[]/\p.length<=64:=by
 unfold pfF at h
 split at h
 ·exact absurd h Qqc
 ·rename_i a;refine⟨fun e=>a (by rw [e];rfl),?_⟩
  split at h
  ·assumption
  ·exact absurd h Qqc
theorem AeV{a p:List UInt8}(h:a.length<=2048):DB (idx a) p=some (if pfF p=(0,0) then((occ a p).length:Int) else 0,pfF p):=by
 obtain⟨f,t,c,g,i,d,e⟩:=AgK (p:=p) h;unfold DB
 show Qq4 (EO (idx a) p) _=_
 rw [c,Qq6,Ad (by show Bz ((t:Int) - (f:Int));constructor <;> omega)]
 by_cases hp:pfF p=(0,0)
 ·rw [if_pos hp];obtain⟨r1,r2⟩:=e hp;have hb:=AgO (a:=a) (AiY hp).1
  have:(t:Int) - (f:Int)=((occ a p).length:Int):=by
   rcases Qxx f t with b | b
   ·have:=r2 b;omega
   ·have:=r1 U;omega
  show some ((t:Int) - (f:Int),pfF p)=_
  rw [this]
 ·rw [if_neg hp];obtain⟨rfl,rfl⟩:=d hp
  rfl
end Go.Proofs.YtekmbcbgknmhiaaGreatDoor
end
noncomputable section
namespace Go.L
def Mk(L:List Bool)(n:Nat)(Q:Int->Prop):Prop:=L.length=n/\∀ i:Nat,i<n->(L.getD i Qq2=true↔Q i)
theorem Mk.set{L:List Bool}{n:Nat}{Q:Int->Prop}(h:Mk L n Q){at':Nat}(ha:at'<n)(c:Bool):Mk (L.set at' (L.getD at' Qq2||c)) n (fun z=>Q z\/(c=true/\z=(at':Int))):=by
 refine⟨by rw [List.length_set];exact h.1,fun i hi=>?_⟩;rw [Qq9,List.getElem?_set]
 by_cases he:at'=i
 ·subst he;rw [if_pos Z,if_pos (by rw [h.1];exact ha)];have:=h.2 at' ha
  show(L.getD at' Qq2||c)=true↔_
  rw [Qz8,this];exact⟨fun h=>h.imp id fun h=>⟨h,Z⟩,fun h=>h.imp id fun h=>h.1⟩
 ·rw [if_neg he,<- Qq9,h.2 i hi];exact⟨.inl,fun h=>h.resolve_right fun h=>he U⟩
def collected(f:(List UInt8×Int×Int×List UInt8)×List Int->Bool)(es:List ((List UInt8×Int×Int×List UInt8)×List Int)):List Int:=(es.filter f).flatMap (·.2)
theorem RA{f:(List UInt8×Int×Int×List UInt8)×List Int->Bool}{es:List ((List UInt8×Int×Int×List UInt8)×List Int)}{z:Int}:z∈collected f es↔∃ e∈es,f e=true/\z∈e.2:=by
 unfold collected;rw [List.mem_flatMap]
 constructor
 ·rintro⟨e,he,hz⟩;obtain⟨a,h2⟩:=Qx3.1 he;exact⟨e,a,h2,hz⟩
 ·rintro⟨e,a,h2,hz⟩;exact⟨e,Qx3.2 ⟨a,h2⟩,hz⟩
theorem NV(f:(List UInt8×Int×Int×List UInt8)×List Int->Bool){es:List ((List UInt8×Int×Int×List UInt8)×List Int)}{i:Nat}(h:i<es.length):collected f (es.take (i+1))=collected f (es.take i)++if f (es.getD i Qq2) then(es.getD i Qq2).2 else[]:=by
 unfold collected;rw [QxJ,Qzj h,Qjj,List.flatMap_append]
 congr 1
 have e:es.getD i Qq2=es[i]:=by simp [Qq9,Qzj h]
 rw [e];simp only [Option.toList_some,List.filter_cons,List.filter_nil]
 by_cases hf:f es[i]=true
 ·simp [hf]
 ·simp [hf]
theorem Hx(f:(List UInt8×Int×Int×List UInt8)×List Int->Bool):∀ {es:List ((List UInt8×Int×Int×List UInt8)×List Int)},(∀ e∈es,e.2.length<=64)->(collected f es).length<=64 * es.length
 | [],_=>by simp [collected]
 | e::es,h=>by
  have a:=h e (.head _);have h2:=Hx f (es:=es) fun x hx=>h x (.tail _ hx);unfold collected at h2 ⊢;rw [List.filter_cons]
  split
  ·rw [Qxd,Qzu,Qzw];omega
  ·rw [Qzw];omega
end Go.L
namespace Go.Proofs.YtekmbcbgknmhiaaGreatDoor
open Go Go.L
def ZG(pat:List UInt8)(e:(List UInt8×Int×Int×List UInt8)×List Int):Bool:=fits (col (sl pat)) (sl e.1.1)
def qmE(pat:List UInt8)(lo hi:Int)(e:(List UInt8×Int×Int×List UInt8)×List Int):Bool:=ZG pat e&&decide (e.1.2.1=1/\lo<=e.1.2.2.1/\e.1.2.2.1<=hi)
theorem Wc(l:List Int):(Go.E.M0 l).length=l.length:=List.length_mergeSort _
theorem Aa3{n:Int}{es:List En}{pat:List UInt8}(hp:pat.length<900)(hl:es.length<=1000000)(a:∀ e∈es,e.2.length<=64)(hpath:∀ e∈es,e.1.1.length<=330):EU (n,es) pat=some (Pg (collected (ZG pat) es)):=by
 unfold EU GJ;refine DJ (fun i=>(collected (ZG pat) (es.take i),((i:Nat):Int))) es.length (fun i hi=>?_) ?_ 0
 ·have hlen:=Hx (ZG pat) (es:=es.take i) fun e he=>a e (List.mem_of_mem_take he);rw [QzK] at hlen;have b:=a _ (Et hi);have h2:=hpath _ (Et hi);have hm:DU pat (es.getD i Qq2).1.1=some (ZG pat (es.getD i Qq2)):=RS hp U;unfold D8 GY;dsimp only;rw [if_pos U,Ad U,Qq8,Qq6,if_pos Z,hm,Qq6,NV _ hi]
  by_cases hf:ZG pat (es.getD i Qq2)=true
  ·rw [if_pos hf,if_pos hf,Ad (by unfold Go.E.H7;omega),Ad (by unfold Bz;omega)]
   rfl
  ·rw [if_neg hf,if_neg hf,Ad (by unfold Bz;omega),QzZ]
   rfl
 ·have hlen:=Hx (ZG pat) a;unfold D8 DM;dsimp only;rw [if_neg U,Qx4,Ad U,Ad (by rw [Wc];omega)]
  rfl
theorem AgP(e:En)(lo hi:Int):DE e lo hi=some (decide (e.1.2.1=1/\lo<=e.1.2.2.1/\e.1.2.2.1<=hi),lo,hi):=by
 unfold DE
 by_cases a:e.1.2.1=1
 ·by_cases h2:lo<=e.1.2.2.1
  ·rw [if_pos a,if_pos h2];simp [a,h2]
  ·rw [if_pos a,if_neg h2];simp [a,h2]
 ·rw [if_neg a];simp [a]
theorem Z8{n:Int}{es:List En}{pat:List UInt8}{lo hi:Int}(hp:pat.length<900)(hl:es.length<=1000000)(a:∀ e∈es,e.2.length<=64)(hpath:∀ e∈es,e.1.1.length<=330):DN (n,es) pat lo hi=some (Pg (collected (qmE pat lo hi) es),lo,hi):=by
 unfold DN Fs;refine DJ (fun i=>(collected (qmE pat lo hi) (es.take i),lo,hi,((i:Nat):Int))) es.length (fun i hi'=>?_) ?_ 0
 ·have hlen:=Hx (qmE pat lo hi) (es:=es.take i) fun e he=>a e (List.mem_of_mem_take he);rw [QzK] at hlen;have b:=a _ (Et hi');have h2:=hpath _ (Et hi');have hm:DU pat (es.getD i Qq2).1.1=some (ZG pat (es.getD i Qq2)):=RS hp U;have hn:DE (((es.getD i Qq2).1.1,(es.getD i Qq2).1.2.1,(es.getD i Qq2).1.2.2.1,(es.getD i Qq2).1.2.2.2),(es.getD i Qq2).2) lo hi=_:=AgP (es.getD i Qq2) lo hi;unfold CR;dsimp only;rw [if_pos U,Ad U,Qq8,hn,Qq6,NV _ hi'];have hqe:qmE pat lo hi (es.getD i Qq2)=(ZG pat (es.getD i Qq2)&&decide ((es.getD i Qq2).1.2.1=1/\lo<=(es.getD i Qq2).1.2.2.1/\(es.getD i Qq2).1.2.2.1<=hi)):=Z;rw [hqe]
  by_cases hq:(es.getD i Qq2).1.2.1=1/\lo<=(es.getD i Qq2).1.2.2.1/\(es.getD i Qq2).1.2.2.1<=hi
  ·rw [decide_eq_true hq,if_pos Z,hm,Qq6,Bool.and_true]
   by_cases hf:ZG pat (es.getD i Qq2)=true
   ·rw [if_pos hf,if_pos hf,Ad (by unfold Go.E.H7;omega),Ad (by unfold Bz;omega)]
    rfl
   ·rw [if_neg hf,if_neg hf,Ad (by unfold Bz;omega),QzZ]
    rfl
  ·rw [decide_eq_false hq,Bool.and_false,if_neg QkC,if_neg QkC,Ad (by unfold Bz;omega),QzZ]
   rfl
 ·have hlen:=Hx (qmE pat lo hi) a;unfold CR De;dsimp only;rw [if_neg U,Qx4,Ad U,Ad (by rw [Wc];omega)]
  rfl
theorem find_eq{n:Int}{es:List En}{pat:List UInt8}(hp:(pf pat).1=0)(hl:es.length<=1000000)(a:∀ e∈es,e.2.length<=64)(hpath:∀ e∈es,e.1.1.length<=330):Fq (n,es) pat=some (Pg (collected (ZG pat) es),(0,0)):=by
 obtain⟨b,h2⟩:=Yd pat hp;unfold Fq;rw [Rc,Qq6,b,if_pos ⟨Z,Z⟩,Aa3 U hl a hpath]
 rfl
theorem AgQ{n:Int}{es:List En}{pat:List UInt8}{lo hi:Int}(hp:(pf pat).1=0)(hlo : ¬ hi<lo)(hl:es.length<=1000000)(a:∀ e∈es,e.2.length<=64)(hpath:∀ e∈es,e.1.1.length<=330):Ev (n,es) pat lo hi=some (Pg (collected (qmE pat lo hi) es),(0,0)):=by
 obtain⟨b,h2⟩:=Yd pat hp;unfold Ev;rw [Rc,Qq6,b,if_pos ⟨Z,Z⟩,if_neg hlo,Z8 U hl a hpath]
 rfl
end Go.Proofs.YtekmbcbgknmhiaaGreatDoor
end
noncomputable section
namespace Go.Proofs.YtekmbcbgknmhiaaGreatDoor
open Go Go.L
theorem Ab9:∀ {l:List Int} {lo n:Int},l.Pairwise (fun a b=>a<b)->(∀ z∈l,lo<=z/\z<n)->lo<=n->(l.length:Int)<=n - lo
 | [],lo,n,_,_,h=>by simp;omega
 | a::l,lo,n,hp,hz,h=>by
  obtain⟨c,d⟩:=Qz1.1 hp;have ha:=hz a (.head _);have:=Ab9 (lo:=a+1) (n:=n) d (fun z hzz=>⟨by have:=c z hzz;omega,(hz z (.tail _ hzz)).2⟩) U;simp only [Qzw];omega
theorem GI.few{n:Int}{es:List En}(h:GI n es):∀ e∈es,e.2.length<=64:=fun e he=>by
 have:=Ab9 (lo:=0) (n:=n) (h.ev e he).inc (h.ev e he).items h.n0;have:=h.n64;omega
def tmE(pat dat:List UInt8)(e:En):Bool:=ZG pat e&&decide (e.1.2.1=2/\e.1.2.2.2=dat)
theorem AeW(e:En)(dat:List UInt8):Ew e dat=some (decide (e.1.2.1=2/\e.1.2.2.2=dat),dat):=by
 unfold Ew
 by_cases a:e.1.2.1=2
 ·rw [if_pos a];simp [a]
 ·rw [if_neg a];simp [a]
theorem Z9{n:Int}{es:List En}{pat dat:List UInt8}(hp:pat.length<900)(hl:es.length<=1000000)(a:∀ e∈es,e.2.length<=64)(hpath:∀ e∈es,e.1.1.length<=330):DO (n,es) pat dat=some (Pg (collected (tmE pat dat) es),dat):=by
 unfold DO Ft;refine DJ (fun i=>(collected (tmE pat dat) (es.take i),dat,((i:Nat):Int))) es.length (fun i hi'=>?_) ?_ 0
 ·have hlen:=Hx (tmE pat dat) (es:=es.take i) fun e he=>a e (List.mem_of_mem_take he);rw [QzK] at hlen;have b:=a _ (Et hi');have h2:=hpath _ (Et hi');have hm:DU pat (es.getD i Qq2).1.1=some (ZG pat (es.getD i Qq2)):=RS hp U;have hn:Ew (((es.getD i Qq2).1.1,(es.getD i Qq2).1.2.1,(es.getD i Qq2).1.2.2.1,(es.getD i Qq2).1.2.2.2),(es.getD i Qq2).2) dat=_:=AeW (es.getD i Qq2) dat;have hqe:tmE pat dat (es.getD i Qq2)=(ZG pat (es.getD i Qq2)&&decide ((es.getD i Qq2).1.2.1=2/\(es.getD i Qq2).1.2.2.2=dat)):=Z;unfold CS;dsimp only;rw [if_pos U,Ad U,Qq8,hn,Qq6,NV _ hi',hqe]
  by_cases hq:(es.getD i Qq2).1.2.1=2/\(es.getD i Qq2).1.2.2.2=dat
  ·rw [decide_eq_true hq,if_pos Z,hm,Qq6,Bool.and_true]
   by_cases hf:ZG pat (es.getD i Qq2)=true
   ·rw [if_pos hf,if_pos hf,Ad (by unfold Go.E.H7;omega),Ad (by unfold Bz;omega)]
    rfl
   ·rw [if_neg hf,if_neg hf,Ad (by unfold Bz;omega),QzZ]
    rfl
  ·rw [decide_eq_false hq,Bool.and_false,if_neg QkC,if_neg QkC,Ad (by unfold Bz;omega),QzZ]
   rfl
 ·have hlen:=Hx (tmE pat dat) a;unfold CS Df;dsimp only;rw [if_neg U,Qx4,Ad U,Ad (by rw [Wc];omega)]
  rfl
theorem AeX{n:Int}{es:List En}{pat dat:List UInt8}(hp:(pf pat).1=0)(hd:dat.length<=4000)(hl:es.length<=1000000)(a:∀ e∈es,e.2.length<=64)(hpath:∀ e∈es,e.1.1.length<=330):Fu (n,es) pat dat=some (Pg (collected (tmE pat dat) es),(0,0)):=by
 obtain⟨b,h2⟩:=Yd pat hp;unfold Fu;rw [Rc,Qq6,b,if_pos ⟨Z,Z⟩,if_neg U,Z9 U hl a hpath]
 rfl
def NW(l:List (List UInt8×Pv)):LIB:=(((l.length:Int),E (l.map Qq5)),((l.length:Int),Od (Ih (Ov 0 (l.map Qzf)) [])),l.map fun d=>idx d.1)
theorem Aa4{l:List (List UInt8×Pv)}(hl:l.length<=64)(hs:∀ d∈l,Sd d)(ht:∀ d∈l,d.1.length<=2048){r:LIB×(Int×Int)}(hr:EI (l.map Qzf) (l.map Qq5) (l.map fun d=>idx d.1)=some r):(r.2.1=0/\Ww (l.map Qzf)/\r.1=NW l\/r.2.1≠0/\r.1=OA):=by
 have hlm:(l.map Qq5).length=l.length:=Qzk ..;have hlv:(l.map Qzf).length=l.length:=Qzk ..;have ht':∀ t∈l.map Qq5,t.length<=2048:=fun t ht'=>by obtain⟨d,hd,rfl⟩:=QzJ.1 ht';exact ht d hd
 have i:N2 0 (l.map Qq5)=none:=VX 0 _ ht';have hw:=Zq U ht' i;obtain⟨s,hsb,h3⟩:=Z7 (a:=l.map Qzf) (fun v hv=>by obtain⟨d,hd,rfl⟩:=QzJ.1 hv;exact(hs d hd).2)
 have fault:∀ (p:List (((List Int))×(List Int)×(List Int))) (a b c e:Int) (f:List ((List UInt8)×(List (Int×Int)))) (g:List (((List UInt8)×Int×Int×(List UInt8))×(List Int))),a≠0->Eh p a b c f e g=some r->r.2.1≠0/\r.1=OA:=fun p a b c e f g ha h=>by
  unfold Eh Cx at h;rw [if_neg (fun x=>ha x.1)] at h
  cases h
  exact⟨by decide,Z⟩
 unfold EI at hr;rw [hw] at hr
 by_cases hbig:131072<gs (R6 (((l.map Qq5).length:Int),E (l.map Qq5)))
 ·rw [if_pos hbig,Qq6,if_neg (fun x=>by cases x.1)] at hr;exact .inr (fault _ _ _ _ _ _ _ Qqc hr)
 ·rw [if_neg hbig,Qq6,if_pos ⟨Z,Z⟩,hsb,Qq6] at hr
  rcases h3 with ⟨k,rfl⟩ | ⟨k,j,f,hj,hf,m,hvj,rfl⟩ | ⟨k,hv,rfl⟩
  ·omega
  ·exact .inr (fault _ _ _ _ _ _ _ m hr)
  ·by_cases hb:16384<(Ab2 ((l.map Qzf).length:Int) (Od (Ih (Ov 0 (l.map Qzf)) []))).length
   ·unfold Aay at hr;rw [if_pos hb] at hr;exact .inr (fault _ _ _ _ _ _ _ Qqc hr)
   ·unfold Aay at hr;rw [if_neg hb] at hr;unfold Eh at hr;rw [if_pos ⟨Z,Z⟩] at hr
    cases hr
    refine .inl ⟨Z,hv,?_⟩;unfold NW;rw [hlm,hlv]
theorem TT{l:List (List UInt8×Pv)}(hs:∀ d∈l,Sd d):∃ r,I1 l=some r/\(r.2.1=0/\l.length<=64/\(∀ d∈l,d.1.length<=2048)/\Ww (l.map Qzf)/\r.1=NW l\/r.2.1≠0/\r.1=OA):=by
 unfold I1
 by_cases h:64<l.length
 ·rw [if_pos U];exact⟨(OA,(2,-1)),Z,.inr ⟨(show(2:Int)≠0 by decide),Z⟩⟩
 ·rw [if_neg U];obtain⟨r,a,h2⟩:=VY (l:=l) U hs l.length 0 U Qqd;refine⟨r,a,?_⟩
  rcases h2 with ⟨ht,h2⟩ | h2
  ·exact(Aa4 U hs ht h2).imp (fun x=>⟨x.1,by omega,ht,x.2⟩) id
  ·exact .inr h2
theorem Ac7(l:List (Int×Int))(hl:l.length<=1000000):Hw l=some (l.map Qq5):=by
 unfold Hw Ku;refine DJ (fun i=>((l.take i).map Qq5,((i:Nat):Int))) l.length (fun i hi=>?_) ?_ 0 (hi:=(by omega))
 ·have hg:l.getD ((i:Int)).toNat Qq2=l[i]:=by rw [Qq8,Qq9,Qzj hi];rfl
  unfold GL;simp only;rw [if_pos U,Ad U,hg,Ad (by unfold Go.E.H7;simp only [Qzk,QzK,Qzw,Qzd];omega),Ad (by unfold Bz;omega),<- List.take_append_getElem hi,Qxa]
  rfl
 ·unfold GL Ja;simp only;rw [if_neg U,Qxj (Qzx _)]
end Go.Proofs.YtekmbcbgknmhiaaGreatDoor
end
noncomputable section
namespace Go.L
open Go Go.Proofs.YtekmbcbgknmhiaaGreatDoor
def Wat(t w:List UInt8)(k:Int):Prop:=∃ n:Nat,k=n/\n<(Ws t).length/\((Ws t).getD n Qq2).1=w
theorem ZA{a:List (List UInt8)}(ht:∀ t∈a,t.length<=2048){w:List UInt8}{i:Nat}{k:Int}:(w,((i:Int),k))∈Gs 0 a↔i<a.length/\Wat (a.getD i Qq2) w k:=by
 constructor
 ·intro h;have b:=I5 0 a 2048 ht _ h;simp only at b;obtain⟨m,rfl⟩:=Int.eq_ofNat_of_zero_le b.2.2.1;obtain⟨_,h2,h3⟩:=(T3 a 0 i m w).1 h;exact⟨by omega,m,Z,h3⟩
 ·rintro⟨c,m,rfl,h2⟩;exact(T3 a 0 i m w).2 ⟨Qz3 _,by omega,h2⟩
theorem AgR{a:List (List UInt8)}(ht:∀ t∈a,t.length<=2048){w:List UInt8}{i:Nat}{k:Int}:((i:Int),k)∈BT [] w (E a)↔i<a.length/\Wat (a.getD i Qq2) w k:=by
 rw [VI,Ll];exact ZA ht
theorem AeY{a:List Pv}{f:En->Bool}{g:Lf->Bool}(hfg:∀ e:En,f e=g e.1){i:Nat}(hi:i<a.length):(i:Int)∈Pg (collected f (Od (Ih (Ov 0 a) [])))↔(Yg 10 (a.getD i Qq2) []).any g=true:=by
 rw [(MA _).2,RA]
 constructor
 ·rintro⟨e,he,hf,hz⟩;rw [(VU.1 he).2,(MA _).2,QI] at hz
  have hpr:(e.1,(i:Int))∈Ov 0 a:=by
   rcases hz with hz | hz
   ·simp [BT] at hz
   ·exact hz
  obtain⟨j,_,j2,j3⟩:=U2.1 hpr;have j2':(i:Int)=0+(j:Int):=j2;obtain rfl:i=j:=by omega
  exact List.any_eq_true.2 ⟨e.1,j3,by rw [<- hfg];exact hf⟩
 ·intro h;obtain⟨x,hx,hg⟩:=List.any_eq_true.1 h;have hpr:(x,(i:Int))∈Ov 0 a:=U2.2 ⟨i,hi,(Int.zero_add _).symm,hx⟩;refine⟨(x,Pg (BT [] x (Ih (Ov 0 a) []))),VU.2 ⟨⟨_,hpr⟩,Z⟩,by rw [hfg];exact hg,?_⟩;rw [(MA _).2,QI];exact .inr hpr
end Go.L
namespace Go.Proofs.YtekmbcbgknmhiaaGreatDoor
open Go Go.L
def pc(d t:List UInt8):Bool:=match DB ((idx t).1,(idx t).2.1,(idx t).2.2) d with
 | some c=>decide (0<c.1)
 | none=>false
def Lfq(d:List UInt8×Pv)(q:Qv):Prop:=
 if q.f.1=1 then ∃ k,Wat d.1 (q.f.2.1.getD ((0:Int).toNat) Qq2) k
 else if q.f.1=2 then q.f.2.1≠[]/\¬ 16<q.f.2.1.length/\T5 0 q.f.2.1=none/\∃ k,Wat d.1 (q.f.2.1.getD 0 Qq2) k/\∀ m:Nat,m<q.f.2.1.length->Wat d.1 (q.f.2.1.getD m Qq2) (k+(m:Int))
 else if q.f.1=3 then Yj (q.f.2.1.getD ((0:Int).toNat) Qq2) (q.f.2.1.getD ((1:Int).toNat) Qq2) q.f.2.2.2.2.1/\∃ k k':Int,Wat d.1 (q.f.2.1.getD ((0:Int).toNat) Qq2) k/\Wat d.1 (q.f.2.1.getD ((1:Int).toNat) Qq2) k'/\k≠k'/\-q.f.2.2.2.2.1<=k - k'/\k - k'<=q.f.2.2.2.2.1
 else if q.f.1=4 then pc q.f.2.2.2.1 d.1=true
 else if q.f.1=5 then(Yg 10 d.2 []).any (fun x=>ZG q.f.2.2.1 (x,[]))=true
 else if q.f.1=6 then(Yg 10 d.2 []).any (fun x=>qmE q.f.2.2.1 q.f.2.2.2.2.1 q.f.2.2.2.2.2.1 (x,[]))=true
 else(Yg 10 d.2 []).any (fun x=>tmE q.f.2.2.1 q.f.2.2.2.1 (x,[]))=true
theorem AgS{L:LIB}{q:Qv}{a:List (List UInt8)}(hp:L.2.2=a.map idx)(ha:a.length<=64)(ht:∀ t∈a,t.length<=2048):
  FA L q (([]:List Int),0)=some (((Qzv a.length).filter fun j=>pc q.f.2.2.2.1 (a.getD j Qq2)).map fun j:Nat=>(j:Int)):=by
 unfold FA;refine DJ (fun i=>(((Qzv i).filter fun j=>pc q.f.2.2.2.1 (a.getD j Qq2)).map (fun j:Nat=>(j:Int)),(i:Int))) a.length (fun i hi=>?_) ?_ 0 (hi:=(by omega))
 ·have hg:L.2.2.getD ((i:Int)).toNat Qq2=idx a[i]:=by
   rw [hp,Qq8,Qq9,Qz6,Qzj hi]
   rfl
  have hga:a.getD i Qq2=a[i]:=by rw [Qq9,Qzj hi];rfl
  obtain⟨c,hc⟩:∃ c,DB ((idx a[i]).1,(idx a[i]).2.1,(idx a[i]).2.2) q.f.2.2.2.1=some c:=⟨_,AeV (ht _ (Qz9 hi))⟩;have hpc:pc q.f.2.2.2.1 (a.getD i Qq2)=decide (0<c.1):=by unfold pc;rw [hga,hc]
  have hlen:((Qzv i).filter fun j=>pc q.f.2.2.2.1 (a.getD j Qq2)).length<=64:=by
   have:=Qkd (fun j=>pc q.f.2.2.2.1 (a.getD j Qq2)) (Qzv i);rw [QxQ] at this;omega
  unfold DP;simp only;rw [hg,hc,hp,Qzk,if_pos U,Ad U,Qq6,QxB,Qjj,List.filter_cons,List.filter_nil,hpc,Qxa]
  by_cases b:(0:Int)<c.1
  ·rw [if_pos b,Ad (by unfold Go.E.H7;simp only [Qzk,Qzw,Qzd];omega),Ad (by unfold Bz;omega),decide_eq_true b]
   rfl
  ·rw [if_neg b,Ad (by unfold Bz;omega),decide_eq_false b];simp
 ·unfold DP Bx;simp only;rw [hp,Qzk,if_neg U]
theorem AeZ{l:List (List UInt8×Pv)}(hl:l.length<=64)(hs:∀ d∈l,Sd d)(ht:∀ d∈l,d.1.length<=2048)(hv:Ww (l.map Qzf)){q:Qv}(hq:Sq q){d:Nat}(hvq:Vq (d+1) q)(h8:q.f.1<8):
  ∃ items,DC (NW l) q=some items/\items.length<=100000000/\(∀ x∈items,0<=x/\x<(l.length:Int))/\∀ i:Nat,i<l.length->((i:Int)∈items↔Lfq (l.getD i Qq2) q):=by
 obtain⟨hk,hF,hw,hp,hnt⟩:=S8 hvq.1;have hlm:(l.map Qq5).length=l.length:=Qzk ..;have hlv:(l.map Qzf).length=l.length:=Qzk ..;have ht':∀ t∈l.map Qq5,t.length<=2048:=fun t ht'=>by obtain⟨d,hd,rfl⟩:=QzJ.1 ht';exact ht d hd
 have hs':∀ v∈l.map Qzf,Sm 1048576 10 v:=fun v hv=>by obtain⟨d,hd,rfl⟩:=QzJ.1 hv;exact(hs d hd).2
 have g1:∀ i:Nat,i<l.length->(l.map Qq5).getD i Qq2=(l.getD i Qq2).1:=fun i hi=>by
  rw [Qq9,Qq9,Qz6,Qzj hi];rfl
 have g2:∀ i:Nat,i<l.length->(l.map Qzf).getD i Qq2=(l.getD i Qq2).2:=fun i hi=>by
  rw [Qq9,Qq9,Qz6,Qzj hi];rfl
 have hx:=XOk.AiX (items:=l.map Qq5) U ht'
 have hhit:∀ w,∀ h∈BT [] w (E (l.map Qq5)),0<=h.1/\h.1<(l.length:Int):=fun w h hh=>by
  rw [VI] at hh;have h2:=I5 0 _ 2048 ht' _ (Ll.1 hh);simp only at h2;omega
 have hgi:∀ {w:List UInt8} {i:Nat} {k:Int},i<l.length->(((i:Int),k)∈BT [] w (E (l.map Qq5))↔Wat (l.getD i Qq2).1 w k):=fun {w i k} hi=>by
  rw [AgR ht',g1 i hi,hlm];exact⟨fun h=>h.2,fun h=>⟨hi,h⟩⟩
 have hofh:∀ hs:List (Int×Int),hs.length<=1000000->(∀ h∈hs,0<=h.1/\h.1<(l.length:Int))->∃ items,Hw hs=some items/\items.length<=100000000/\(∀ x∈items,0<=x/\x<(l.length:Int))/\∀ i:Nat,(i:Int)∈items↔∃ k,((i:Int),k)∈hs:=fun hs s h2=>by
  refine⟨_,Ac7 hs s,by rw [Qzk];omega,fun x hx=>?_,fun i=>?_⟩
  ·obtain⟨h,hh,rfl⟩:=QzJ.1 hx;exact h2 h hh
  ·rw [QzJ];exact⟨fun⟨h,hh,e⟩=>⟨h.2,by rw [<- e];exact hh⟩,fun⟨k,hk⟩=>⟨_,hk,Z⟩⟩
 obtain⟨hG,_⟩:=Z6 U hv hs';rw [hlv] at hG;have hpath:∀ e∈Od (Ih (Ov 0 (l.map Qzf)) []),e.1.1.length<=330:=fun e he=>(hG.ev e he).path.1;have z:(pf q.f.2.2.1).1=0:=by rw [hp]
 have hcol:∀ (f:En->Bool) (g:Lf->Bool),(∀ e:En,f e=g e.1)->(Pg (collected f (Od (Ih (Ov 0 (l.map Qzf)) [])))).length<=100000000/\(∀ x∈Pg (collected f (Od (Ih (Ov 0 (l.map Qzf)) []))),0<=x/\x<(l.length:Int))/\∀ i:Nat,i<l.length->((i:Int)∈Pg (collected f (Od (Ih (Ov 0 (l.map Qzf)) [])))↔(Yg 10 (l.getD i Qq2).2 []).any g=true):=fun f g hfg=>by
  have s:=Zx (collected f (Od (Ih (Ov 0 (l.map Qzf)) [])));have h2:=Hx f hG.few;have h3:=hG.len;refine⟨by omega,fun x hx=>?_,fun i hi=>?_⟩
  ·have hx:=(MA _).2 x |>.1 hx;obtain⟨e,he,_,hxe⟩:=RA.1 hx;exact(hG.ev e he).items x hxe
  ·rw [AeY hfg U,g2 i hi]
 unfold DC NW Lfq;obtain h | h | h | h | h | h | h:q.f.1=1\/q.f.1=2\/q.f.1=3\/q.f.1=4\/q.f.1=5\/q.f.1=6\/q.f.1=7:=by omega
 ·have s:=(QE hF).1 h;rw [if_pos h,Ad U];simp only [if_pos h]
  have hm:q.f.2.1.getD ((0:Int).toNat) Qq2∈q.f.2.1:=by
   show q.f.2.1.getD 0 Qq2∈_
   rw [Qq9,Qzj U];exact Qz9 _
  have hf:=AeQ (n:=(l.length:Int)) (by have:=hx.len;omega) hx.inc (q.f.2.1.getD ((0:Int).toNat) Qq2) (by have:=(hx.Aa2 (q.f.2.1.getD ((0:Int).toNat) Qq2)).1;omega);rw [if_pos (hw _ hm)] at hf
  show ∃ items,Qq4 (Gp ((l.length:Int),E (l.map Qq5)) _) _=_/\_
  rw [hf,Qq6];unfold F9 Bx;obtain⟨items,p,e2,e3,y⟩:=hofh _ (hx.Aa2 (q.f.2.1.getD ((0:Int).toNat) Qq2)).1 (hhit _);exact⟨items,by rw [p];rfl,e2,e3,fun i hi=>(y i).trans ⟨fun⟨k,hk⟩=>⟨k,(hgi hi).1 hk⟩,fun⟨k,hk⟩=>⟨k,(hgi hi).2 hk⟩⟩⟩
 ·have s : ¬ q.f.1=1:=by omega
  rw [if_neg s,if_pos h];simp only [if_neg s,if_pos h];have hf:=Ac5 (n:=(l.length:Int)) hx q.f.2.1
  show ∃ items,Qq4 (Ee ((l.length:Int),E (l.map Qq5)) q.f.2.1) _=_/\_
  have key:∃ hs e,Ee ((l.length:Int),E (l.map Qq5)) q.f.2.1=some (hs,e)/\hs.length<=1000000/\(∀ h∈hs,0<=h.1/\h.1<(l.length:Int))/\∀ i:Nat,i<l.length->((∃ k,((i:Int),k)∈hs)↔q.f.2.1≠[]/\¬ 16<q.f.2.1.length/\T5 0 q.f.2.1=none/\∃ k,Wat (l.getD i Qq2).1 (q.f.2.1.getD 0 Qq2) k/\∀ m:Nat,m<q.f.2.1.length->Wat (l.getD i Qq2).1 (q.f.2.1.getD m Qq2) (k+(m:Int))):=by
   rw [hf]
   split
   ·rename_i hc;exact⟨[],_,Z,by simp,by simp,fun i _=>⟨fun⟨_,h⟩=>absurd h Qkw,fun h=>absurd hc h.1⟩⟩
   ·rename_i hc
    split
    ·rename_i aa;exact⟨[],_,Z,by simp,by simp,fun i _=>⟨fun⟨_,h⟩=>absurd h Qkw,fun h=>absurd aa h.2.1⟩⟩
    ·rename_i aa
     split
     ·rename_i u;exact⟨[],_,Z,by simp,by simp,fun i _=>⟨fun⟨_,h⟩=>absurd h Qkw,fun h=>by rw [h.2.2.1] at u;cases u⟩⟩
     ·rename_i u;refine⟨_,_,Z,?_,fun h hh=>hhit _ h (Qx3.1 hh).1,fun i hi=>?_⟩
      ·have:=(hx.Aa2 (q.f.2.1.getD 0 Qq2)).1;have:=Qkd (fun h=>decide (KN (E (l.map Qq5)) q.f.2.1 h)) (BT [] (q.f.2.1.getD 0 Qq2) (E (l.map Qq5)));omega
      ·constructor
       ·rintro⟨k,hk⟩;obtain⟨k1,k2⟩:=Qx3.1 hk;exact⟨hc,aa,u,k,(hgi hi).1 k1,fun m hm=>(hgi hi).1 (of_decide_eq_true k2 m hm)⟩
       ·rintro⟨_,_,_,k,k1,k2⟩;exact⟨k,Qx3.2 ⟨(hgi hi).2 k1,decide_eq_true fun m hm=>(hgi hi).2 (k2 m hm)⟩⟩
  obtain⟨hs,e,k1,k2,k3,k4⟩:=key;rw [k1,Qq6];obtain⟨items,p,e2,e3,y⟩:=hofh _ k2 k3;unfold Bx;exact⟨items,by simp only;rw [p];rfl,e2,e3,fun i hi=>(y i).trans (k4 i hi)⟩
 ·have s:=(QE hF).2.2.1 h;have b : ¬ q.f.1=1:=by omega
  have c : ¬ q.f.1=2:=by omega
  rw [if_neg b,if_neg c,if_pos h,Ad U,Ad U];simp only [if_neg b,if_neg c,if_pos h];have hf:=AgH (n:=(l.length:Int)) (items:=l.map Qq5) U ht' (q.f.2.1.getD ((0:Int).toNat) Qq2) (q.f.2.1.getD ((1:Int).toNat) Qq2) q.f.2.2.2.2.1
  show ∃ items,Qq4 (EW ((l.length:Int),E (l.map Qq5)) _ _ _) _=_/\_
  unfold Bx
  by_cases hn:Yj (q.f.2.1.getD ((0:Int).toNat) Qq2) (q.f.2.1.getD ((1:Int).toNat) Qq2) q.f.2.2.2.2.1
  ·obtain⟨L,p,_,e3,y⟩:=hf.1 hn;refine⟨L,by rw [p];rfl,by omega,fun x hx=>?_,fun i hi=>?_⟩
   ·obtain⟨k,_,ah,_⟩:=(y x).1 hx;have h2:=I5 0 _ 2048 ht' _ ah;simp only at h2;omega
   ·have hi':i<(l.map Qq5).length:=by omega
    rw [y];unfold SJ;simp only [ZA ht',g1 i hi,hi',true_and];exact⟨fun h=>⟨hn,h⟩,fun h=>h.2⟩
  ·exact⟨[],by rw [hf.2 hn];rfl,by simp,by simp,fun i _=>⟨fun h=>absurd h Qkw,fun h=>absurd h.1 hn⟩⟩
 ·have b : ¬ q.f.1=1:=by omega
  have c : ¬ q.f.1=2:=by omega
  have o : ¬ q.f.1=3:=by omega
  rw [if_neg b,if_neg c,if_neg o,if_pos h];simp only [if_neg b,if_neg c,if_neg o,if_pos h];have p:=AgS (L:=NW l) (q:=q) (a:=l.map Qq5) (by unfold NW;simp) U ht';rw [hlm] at p;refine⟨_,p,?_,fun x hx=>?_,fun i hi=>?_⟩
  ·have:=Qkd (fun j=>pc q.f.2.2.2.1 ((l.map Qq5).getD j Qq2)) (Qzv l.length);rw [QxQ] at this;rw [Qzk];omega
  ·obtain⟨j,hj,rfl⟩:=QzJ.1 hx;have:=QzX.1 (Qx3.1 hj).1;omega
  ·rw [QzJ]
   constructor
   ·rintro⟨j,hj,e⟩;obtain rfl:j=i:=by omega
    rw [<- g1 j hi];exact(Qx3.1 hj).2
   ·intro hc;exact⟨i,Qx3.2 ⟨QzX.2 hi,by rw [g1 i hi];exact hc⟩,Z⟩
 ·have b : ¬ q.f.1=1:=by omega
  have c : ¬ q.f.1=2:=by omega
  have o : ¬ q.f.1=3:=by omega
  have r : ¬ q.f.1=4:=by omega
  rw [if_neg b,if_neg c,if_neg o,if_neg r,if_pos h];simp only [if_neg b,if_neg c,if_neg o,if_neg r,if_pos h];have hf:=find_eq (n:=(l.length:Int)) (pat:=q.f.2.2.1) z hG.len hG.few hpath
  show ∃ items,Qq4 (Fq ((l.length:Int),Od (Ih (Ov 0 (l.map Qzf)) [])) q.f.2.2.1) _=_/\_
  rw [hf];exact⟨_,Z,hcol _ _ fun _=>Z⟩
 ·have b : ¬ q.f.1=1:=by omega
  have c : ¬ q.f.1=2:=by omega
  have o : ¬ q.f.1=3:=by omega
  have r : ¬ q.f.1=4:=by omega
  have n5 : ¬ q.f.1=5:=by omega
  rw [if_neg b,if_neg c,if_neg o,if_neg r,if_neg n5,if_pos h];simp only [if_neg b,if_neg c,if_neg o,if_neg r,if_neg n5,if_pos h]
  have hlo : ¬ q.f.2.2.2.2.2.1<q.f.2.2.2.2.1:=fun hc=>by
   unfold nt at hnt;rw [if_pos (.inr ⟨h,hc⟩)] at hnt
   cases hnt
  have hf:=AgQ (n:=(l.length:Int)) (pat:=q.f.2.2.1) z hlo hG.len hG.few hpath
  show ∃ items,Qq4 (Ev ((l.length:Int),Od (Ih (Ov 0 (l.map Qzf)) [])) q.f.2.2.1 _ _) _=_/\_
  rw [hf];exact⟨_,Z,hcol _ _ fun _=>Z⟩
 ·have b : ¬ q.f.1=1:=by omega
  have c : ¬ q.f.1=2:=by omega
  have o : ¬ q.f.1=3:=by omega
  have r : ¬ q.f.1=4:=by omega
  have n5 : ¬ q.f.1=5:=by omega
  have n6 : ¬ q.f.1=6:=by omega
  rw [if_neg b,if_neg c,if_neg o,if_neg r,if_neg n5,if_neg n6,if_pos h];simp only [if_neg b,if_neg c,if_neg o,if_neg r,if_neg n5,if_neg n6];have hd:=XT hnt;have hf:=AeX (n:=(l.length:Int)) (pat:=q.f.2.2.1) (dat:=q.f.2.2.2.1) z U hG.len hG.few hpath
  show ∃ items,Qq4 (Fu ((l.length:Int),Od (Ih (Ov 0 (l.map Qzf)) [])) q.f.2.2.1 _) _=_/\_
  rw [hf];exact⟨_,Z,hcol _ _ fun _=>Z⟩
noncomputable instance (d:List UInt8×Pv) (q:Qv):Decidable (Lfq d q):=Classical.propDecidable _
def lfb(l:List (List UInt8×Pv))(q:Qv)(i:Nat):Bool:=decide (Lfq (l.getD i Qq2) q)
theorem Afa{l:List (List UInt8×Pv)}(hl:l.length<=64)(hs:∀ d∈l,Sd d)(ht:∀ d∈l,d.1.length<=2048)(hv:Ww (l.map Qzf)):Fnd (NW l) (lfb l):=fun d q hq hvq a=>by
 obtain⟨items,b,h2,h3,c⟩:=AeZ hl hs ht hv hq hvq a;have hlen:(NW l).2.2.length=l.length:=Qzk ..;refine⟨items,b,h2,by rw [hlen];exact h3,fun i hi=>?_⟩;unfold lfb;rw [Bool.eq_iff_iff,decide_eq_true_iff,decide_eq_true_iff];exact(c i U).symm
end Go.Proofs.YtekmbcbgknmhiaaGreatDoor
end
noncomputable section
namespace Go.Proofs.YtekmbcbgknmhiaaGreatDoor
open Go Go.E Go.RowKit Go.L
set_option maxHeartbeats 1000000
set_option maxRecDepth 10000
open _root_.Go.Proofs.Tryz
def Hf(a0:AcC)(a:Int):Option Int:=
 Qq4 (Ey a0 a) (fun b=>some b)
def IJ:Option Int:=
 some ((-1))
def I6(a0:AcC)(a1:AcC):Nat->Option ((Nat) ⊕ (Int)):=fun a=>
 if a<a0.length then Qq4 (Ey a1 ((Te a0 a).1:Int)) (fun b=>if 0<=b then Qq7 Sum.inr (some ((a:Int))) else some (Sum.inl (a+(Te a0 a).2))) else Qq7 Sum.inr IJ
def K5(a0:AcC)(a1:AcC)(s:Nat):Option Int:=Go.L.run (I6 a0 a1) s
def IK(a0:AcC)(a1:AcC):Option Int:=
 (K5 a0 a1) (0:Nat)
def strings_IndexAny(a0:AcC)(a1:AcC):Option Int:=
 if a1=([]:AcC) then some ((-1)) else(if(a1.length:Int)=1 then AN (0<=(0:Int)/\(0:Int)<(a1.length:Int)) (if 128<=(IntKind.i32.wrap ((a1.getD (0:Int).toNat Qq2).toNat:Int)) then(Hf a0) (65533:Int) else(Hf a0) (IntKind.i32.wrap ((a1.getD (0:Int).toNat Qq2).toNat:Int))) else(if 8<(a0.length:Int) then none else(IK a0 a1)))
section
variable(w:World)(H:PH)(hH:Le H (hp w)) include hH
theorem Rs{a0 a1:AcC}{r:Int}(h:strings_IndexAny a0 a1=some r):
  Qqv 167 [AcB a0,AcB a1] w (fun v w'=>v=No r):=by
 refine Az 55 [(0,(AcB a0)),(1,(AcB a1))] func167 Z fun hL=>AI 1 Z<|AB<|Bt 1 Z<|Ai (Ni Z Z)<|Ac<|AO h ?_ ?_<;>intro ad h
 ·refine AI 1 Z<|Ay<|Ao ?_
  cases h
  refine Al Z ⟨hL.ext,Z⟩
 refine Av<|Ar<|AB<|Bt 1 Z<|Ai (IP Z)<|A7 1 Z<|AO h ?_ ?_<;>intro ae h
 ·refine Bt 1 Z<|A1 h fun af h=>Ai (ND af)<|Ai (KY Z)<|A7 1 Z<|By Int (fun b=>[(0,(AcB a0)),(5,.int .i32 b)]) (fun b wr=>Bb w [] wr/\(Hf a0) b=some r) ?_ ?_
  ·refine AI 2 Z<|AO h ?_ ?_<;>intro o h
   ·refine As<|Aq 1 Z<|AL<|AA _ ⟨hL,h⟩
   refine Av<|AA _ ⟨hL,h⟩
  rintro b al ⟨e,h⟩;refine Bt 2 Z<|Aw h fun au q h=>AE e (JP _ _ (An e) q) fun av am s ag=>A7 1 Z<|Ay<|Ao ?_
  cases h
  refine Al Z ⟨s.ext,Z⟩
 refine Av<|Ar<|By Unit (fun(_:Unit)=>[(0,(AcB a0)),(1,(AcB a1))]) (fun(_:Unit) wr=>Bb w [] wr/\(IK a0 a1)=some r) ?_ ?_
 ·refine Bt 1 Z<|Ai (IP Z)<|AE hL (AdH _ _ (An hL)) fun aw an t ah=>Ac<|AO h ?_ ?_<;>intro u h
  ·refine Aj ?_
   cases h
  refine Av<|AA () ⟨t,h⟩
 rintro _ ao ⟨x,h⟩;refine By Unit (fun(_:Unit)=>[]) (fun(_:Unit) wr=>Bb w [] wr/\IJ=some r) ?_ ?_
 ·refine Bt 1 Z<|YF Z x fun ax m y ai=>Ac<|A3 ?_;obtain⟨f,h⟩:=Ba h;refine B5 (Nat×Nat) (fun⟨a,n⟩=>[(1,(AcB a1)),(45,(Acy m))]) (fun⟨a,n⟩ wr=>Bb w [.obj m (.stringIter ⟨(a0).toArray⟩ a)] wr/\H8 (I6 a0 a1) n a=some r) (fun⟨a,n⟩=>n) ((0:Nat),f) Z ⟨y,h⟩ ?_;rintro⟨a,nn67⟩ ap ⟨g,h⟩;obtain⟨f,ay,rfl,h,c⟩:=AY h;refine Aj<|Abb (l:=a0) (p:=a) 0 Z g Z (fun d=>?_) (fun d=>?_)
  ·have h:=OH d h;intro az j aj;refine A7 1 Z<|AB<|Ff<|Av<|Ar<|A3<|AI 4 Z<|Bt 2 Z<|Aw h fun a2 z h=>AE j (JP _ _ (An j) z) fun a3 aq k ak=>A7 1 Z<|AO h ?_ ?_<;>intro aa h
   ·refine AI 2 Z<|Ay<|Ax<|BN ?_;have h:=Ce.out h c;refine Ax<|BI ?_
    cases h
    refine Al Z ⟨k.ext,Z⟩
   refine Av<|A2 ?_;have h:=Ce.again h c;refine AM (_,_) Z ⟨k,h⟩
  have h:=OI d h;refine A7 1 Z<|AB<|Gt<|B2<|AD<|A5 ?_;have h:=Ce.out h c;refine Bf ?_;have ab:=g.AQ (i:=0) Z;refine AA () ⟨ab,h⟩
 rintro _ ar ⟨ac,h⟩;refine AI 1 Z<|Ay ?_
 cases h
 refine Al Z ⟨ac.ext,Z⟩
def Ep(a0:AcC)(a1:AcC):Option Bool:=
 if(a1.length:Int)<=(a0.length:Int) then AN (0<=(a1.length:Int)/\(a1.length:Int)<=(a0.length:Int)) (some (decide ((a0.take (a1.length:Int).toNat)=a1))) else some false
theorem Ly{a0 a1:AcC}{r:Bool}(h:Ep a0 a1=some r):
  Qqv 262 [AcB a0,AcB a1] w (fun v w'=>v=.bool r):=by
 refine Az 18 [(0,(AcB a0)),(1,(AcB a1))] func262 Z fun hL=>AI 1 Z<|Bt 1 Z<|Ai (IP Z)<|Aq 1 Z<|Ai (IP Z)<|Aq 2 Z<|CE 10 h ?_ ?_<;>intro a h
 ·refine Ab a<|Ai (Am Z)<|Ab a<|Ai (Am Z)<|Ab a<|Ai (IP Z)<|Ab a<|A1 h fun b h=>Ai (Adz b)<|Ab a<|Ai (Am Z)<|Ab a<|Ai (Ni Z Z)<|Ai (AK a Z)<|A7 1 Z<|Ay ?_
  cases h
  refine Al Z ⟨hL.ext,Z⟩
 iterate 6 refine Au a ?_
 refine Ai (AS a Z)<|A7 1 Z<|Ay ?_
 cases h
 refine Al Z ⟨hL.ext,Z⟩
def Er(a0:AcC)(a1:AcC):Option (AcC×Bool):=
 Qq4 (Ep a0 a1) (fun a=>if !a then some (a0,false) else AN (0<=(a1.length:Int)/\(a1.length:Int)<=(a0.length:Int)) (some ((a0.drop (a1.length:Int).toNat),true)))
theorem Lz{a0 a1:AcC}{r:AcC×Bool}(h:Er a0 a1=some r):
  Qqv 215 [AcB a0,AcB a1] w (fun v w'=>v=.tuple #[AcB r.1,.bool r.2]):=by
 refine Az 15 [(0,(AcB a0)),(1,(AcB a1))] func215 Z fun hL=>AI 2 Z<|AB<|Bt 2 Z<|Aw h fun g b h=>AE hL (Ly _ _ (An hL) b) fun i f a e=>A7 1 Z<|B3 h ?_ ?_<;>intro c h
 ·refine AI 3 Z<|Ay<|Ao ?_
  cases h
  refine Al Z ⟨a.ext,Z⟩
 refine Av<|Ar<|Bt 2 Z<|Ai (IP Z)<|A1 h fun d h=>Ai (ZS d)<|A7 2 Z<|Ay ?_
 cases h
 refine Al Z ⟨a.ext,Z⟩
def JD(a0:AcC)(a1:AcC):Option (AcC×Bool):=
 Qq4 (Er a0 a1) (fun a=>some (a.1,a.2))
theorem QK{a0 a1:AcC}{r:AcC×Bool}(h:JD a0 a1=some r):
  Qqv 165 [AcB a0,AcB a1] w (fun v w'=>v=.tuple #[AcB r.1,.bool r.2]):=by
 refine Az 11 [(0,(AcB a0)),(1,(AcB a1))] func165 Z fun hL=>AI 2 Z<|Bt 2 Z<|Aw h fun e a h=>AE hL (Lz _ _ (An hL) a) fun f d b c=>A7 4 Z<|Ay ?_
 cases h
 refine Al Z ⟨b.ext,Z⟩
end
end Go.Proofs.YtekmbcbgknmhiaaGreatDoor
end
noncomputable section
namespace Go.Proofs.YtekmbcbgknmhiaaGreatDoor
open Go Go.E Go.RowKit Go.Shelf
def SN(s c:List UInt8):Option Int:=if 8<s.length\/c.length=1 then Go.L.AN (s.length<4294967281/\1<=c.length/\c.length<4294967281/\∀ b∈c,b.toNat<128) (some (Lib.indexAny s c)) else strings_IndexAny s c
section
variable(w:World)(H:PH)(hH:Le H (hp w)) include hH
theorem Ac8{a0 a1:List UInt8}{r:Int}(h:SN a0 a1=some r):Ok Tryz.prog 167 [.string ⟨a0.toArray⟩,.string ⟨a1.toArray⟩] w (fun v w'=>Ext w w'/\v=.int .i64 r):=by
 unfold SN at h;have hs:(ByteArray.mk a0.toArray).size=a0.length:=by simp [Qxc]
 have hc:(ByteArray.mk a1.toArray).size=a1.length:=by simp [Qxc]
 split at h
 ·rename_i hor;obtain⟨⟨c,k,d,f⟩,h⟩:=Go.L.G2 h;obtain rfl:=Option.some.inj h
  have hac:∀ (j:Nat) b,(ByteArray.mk a1.toArray).data.toList[j]? = some b->b.toNat<128:=fun j b hj=>f b (by
   have:=List.mem_of_getElem? hj
   simpa using this)
  refine⟨⟨Tryz.f167,_,Tryz.func167,Z,Z⟩,?_⟩
  by_cases g:a1.length=1
  ·refine(Any.strings_IndexAny_one (P:=Tryz.prog) Tryz.AcK ⟨a0.toArray⟩ ⟨a1.toArray⟩ w (by rw [hc];exact g) hac).mono fun e w' he=>?_;obtain⟨rfl,rfl⟩:=he;exact⟨_,Z,Ext.refl _,by simp⟩
  ·have a:(Tryz.prog.info? (Tryz.SQ.t 116)).map (fun i=>(i.zero,i.size))=some (some (.agg (Array.replicate 256 (.bool false))),256):=by kernel_rfl
   refine(Any.strings_IndexAny_long (P:=Tryz.prog) Tryz.AcK (zero_of_info a).1 (zero_of_info a).2 ⟨a0.toArray⟩ ⟨a1.toArray⟩ w (by rw [hc];omega) (by rw [hs];omega) (by rw [hs];exact c) (by rw [hc];exact d) hac).mono fun e w' he=>?_;obtain⟨rfl,rfl⟩:=he;exact⟨_,Z,(Du _ _).trans (Du _ _),by simp⟩
 ·exact Rs w H hH h
end
end Go.Proofs.YtekmbcbgknmhiaaGreatDoor
end
noncomputable section
namespace Go.Proofs.YtekmbcbgknmhiaaGreatDoor
open Go Go.E Go.RowKit Go.L
set_option maxHeartbeats 1000000
set_option maxRecDepth 10000
open _root_.Go.Proofs.Tryz
def BP(a0:AcC×Int)(a1:AcC):Option (Bool×(AcC×Int)):=
 Qq4 (JD a0.1 a1) (fun a=>if a.2 then some (a.2,(a.1,a0.2)) else some (a.2,(a0.1,a0.2)))
theorem Ca{c w:World}{H:PH}(hH:Le H (hp c))(O:List BS)(a0:AcC×Int)(a1:AcC){ba0:Nat}(hL:Bb c (Ha [.box ba0 [AcB a0.1,No a0.2] 86] O) w){r:Bool×(AcC×Int)}(h:BP a0 a1=some r):
  Ok prog 111 [Acy ba0,AcB a1] w (fun v w'=>v=.bool r.1/\Bb c (Ha [.box ba0 [AcB r.2.1,No r.2.2] 86] O) w'/\Le (fz w (Ha [.box ba0 [AcB a0.1,No a0.2] 86] O)) (fz w' (Ha [.box ba0 [AcB r.2.1,No r.2.2] 86] O))):=by
 refine Dp (n:=22) [(0,(Acy ba0)),(1,(AcB a1))] func111 Z Z Z Z ?_;have hT:=Le.refl (fz w (Ha [.box ba0 [AcB a0.1,No a0.2] 86] O));refine AI 1 Z<|Bt 1 Z<|Ai (MP Z)<|Ai (Ae Z AjF Z HC.e)<|Ai (Ag 0 Z hL Z)<|Aq 1 Z<|Aw h fun j e h=>AE hL (QK _ _ (An hL) e) fun k i b a=>A7 5 Z<|AB<|AI 1 Z<|B3 h ?_ ?_<;>intro f h
 ·refine As<|Aq 2 Z<|Ai (MP Z)<|Ai (Ae Z AjF Z HC.e)<|B8 0 Z Z b Z Z fun l g d=>AL<|Ar<|AI 2 Z<|Ay ?_
  cases h
  refine Al Z ?_;have hT:=hT.trans (a.trans d);exact⟨Z,g,hT⟩
 refine Av<|Ar<|AI 2 Z<|Ay ?_
 cases h
 refine Al Z ?_;have hT:=hT.trans a;exact⟨Z,b,hT⟩
def FE(a1:Int)(y8:Qv×(AcC×Int))(a:List Qv)(b:AcC)(c:Int):Option (Option (Qv×(AcC×Int))):=
 if(a.length:Int)=1 then some (some (y8.1,(b,c))) else some (some ((Qv.mk a1 ([]) ([]:AcC) ([]) (0:Int) (0:Int) a),(b,c)))
def Fc(a1:Int)(a2:AcC)(self:(AcC×Int)->Option (Option (Qv×(AcC×Int))))(y8:Qv×(AcC×Int)):(List Qv)×AcC×Int->Option (((List Qv)×AcC×Int) ⊕ (Option (Qv×(AcC×Int)))):=fun⟨b,c,d⟩=>
 Qq4 (BP (c,d) a2) (fun a=>if a.1 then Qq4 (self (a.2.1,a.2.2)) (fun e=>ZE e (Qq7 Sum.inr (some none)) (fun y86=>AN (Go.E.H7 112 (b.length+([y86.1]).length)) (some (Sum.inl ((b++[y86.1]),y86.2.1,y86.2.2))))) else Qq7 Sum.inr ((FE a1 y8) b a.2.1 a.2.2))
def HO(a1:Int)(a2:AcC)(self:(AcC×Int)->Option (Option (Qv×(AcC×Int))))(y8:Qv×(AcC×Int))(s:(List Qv)×AcC×Int):Option (Option (Qv×(AcC×Int))):=Go.L.run (Fc a1 a2 self y8) s
def GN(self:(AcC×Int)->Option (Option (Qv×(AcC×Int))))(a0:AcC×Int)(a1:Int)(a2:AcC):Option (Option (Qv×(AcC×Int))):=
 Qq4 (self (a0.1,a0.2)) (fun a=>ZE a (some none) (fun y8=>(HO a1 a2 self y8) ([y8.1],y8.2.1,y8.2.2)))
theorem NY{self:(AcC×Int)->Option (Option (Qv×(AcC×Int)))}(hself:∀ {a w:World} {H:PH} (hH:Le H (hp a)) (hU:Ge H) {O:List BS} {a0:AcC×Int} {ba0:Nat} (hL:Bb a (Ha [.box ba0 [AcB a0.1,No a0.2] 86] O) w) {r:Option (Qv×(AcC×Int))} (h:self a0=some r),W8 prog 70 [Acy ba0] w (.iface 82 (.agg #[])) (fun v w'=>Y8 r v (fun r v=>∃ (u1:Value) (u3:Value) (u6:Value),v=.agg #[No r.1.f.1,u1,AcB r.1.f.2.2.1,u3,No r.1.f.2.2.2.2.1,No r.1.f.2.2.2.2.2.1,u6]/\Bb a (Ha [.box ba0 [AcB r.2.1,No r.2.2] 86] O) w'/\Le (fz w (Ha [.box ba0 [AcB a0.1,No a0.2] 86] O)) (fz w' (Ha [.box ba0 [AcB r.2.1,No r.2.2] 86] O))/\AJ .st (gz H a w' (Ha [.box ba0 [AcB r.2.1,No r.2.2] 86] O)) u1 (r.1.f.2.1)/\AJ .byte (gz H a w' (Ha [.box ba0 [AcB r.2.1,No r.2.2] 86] O)) u3 (r.1.f.2.2.2.1)/\AJ .B1 (gz H a w' (Ha [.box ba0 [AcB r.2.1,No r.2.2] 86] O)) u6 (r.1.f.2.2.2.2.2.2)) (Bb a O w'/\Le (fz w (Ha [.box ba0 [AcB a0.1,No a0.2] 86] O)) (fz w' O)))){a w:World}{H:PH}(hH:Le H (hp a))(hU:Ge H){O:List BS}{a0:AcC×Int}{a1:Int}{a2:AcC}{ba0:Nat}(hL:Bb a (Ha [.box ba0 [AcB a0.1,No a0.2] 86] O) w){r:Option (Qv×(AcC×Int))}(h:GN self a0 a1 a2=some r):
  W8 prog 69 [Acy ba0,No a1,AcB a2,.func (.func 70) #[Acy ba0] #[]] w (.iface 82 (.agg #[])) (fun v w'=>Y8 r v (fun r v=>∃ (u1:Value) (u3:Value) (u6:Value),v=.agg #[No r.1.f.1,u1,AcB r.1.f.2.2.1,u3,No r.1.f.2.2.2.2.1,No r.1.f.2.2.2.2.2.1,u6]/\Bb a (Ha [.box ba0 [AcB r.2.1,No r.2.2] 86] O) w'/\Le (fz w (Ha [.box ba0 [AcB a0.1,No a0.2] 86] O)) (fz w' (Ha [.box ba0 [AcB r.2.1,No r.2.2] 86] O))/\AJ .st (gz H a w' (Ha [.box ba0 [AcB r.2.1,No r.2.2] 86] O)) u1 (r.1.f.2.1)/\AJ .byte (gz H a w' (Ha [.box ba0 [AcB r.2.1,No r.2.2] 86] O)) u3 (r.1.f.2.2.2.1)/\AJ .B1 (gz H a w' (Ha [.box ba0 [AcB r.2.1,No r.2.2] 86] O)) u6 (r.1.f.2.2.2.2.2.2)) (Bb a O w'/\Le (fz w (Ha [.box ba0 [AcB a0.1,No a0.2] 86] O)) (fz w' O))):=by
 refine N4 30 [(0,(Acy ba0)),(1,No a1),(2,(AcB a2)),(3,.func (.func 70) #[Acy ba0] #[])] func69 Z Z Z Z Z ?_;have hT:=Le.refl (fz w (Ha [.box ba0 [AcB a0.1,No a0.2] 86] O));refine Aj<|A9 B7.e Z hL fun w1 b1 bz aw _=>Ac<|Bt 1 Z ?_;have b0:Bb a (Ha [.box ba0 [AcB a0.1,No a0.2] 86,.box b1 AcD 26] O) w1:=bz.Cy [1] Z;have ax:=B0 [1] bz b0 Z;refine Aw h fun x3 cn h=>Sh [Acy ba0] [] Z Z (hself (a0:=(a0.1,a0.2)) (O:=(Ha [.box b1 AcD 26] O)) hH hU b0 cn) ?_ ?_
 ·rintro rfl w5 ⟨co,b3⟩;have h:=K9 h;refine Fi ?_
  cases h
  refine Ns ?_;have cp:=co.AQ (i:=0) Z;have hT:=hT.trans (aw.trans (ax.trans (b3.trans (Ak (i:=0) Z))));exact L5 ⟨cp,hT⟩
 rintro y8 rfl _ w4 ⟨g,j,k,rfl,cq,bh,s,t,u⟩;have h:=KA h;refine A9 B7.e Z cq fun w9 b9 cr ac _=>Af 0 Z cr Z (a:=(Bn Z (Bn s.one (Bn Z (Bn t.one (Bn Z (Bn Z (Bn u.one Ky)))))))) fun c2 ay x=>Ac ?_;have p:=ay.rG H;refine Aj<|Ai (A4 0 Z B7.e ay Z) ?_;have s:=s.mono (Aa (ac.trans x));have t:=t.mono (Aa (ac.trans x));have u:=u.mono (Aa (ac.trans x));refine Oy [y8.1] (r:=.B1) (fun _=>Og _ _ _ _ _ _ _ _) (BH 1) hH ay (.c7 (Go.E.Rp.Iq ⟨_,_,Z,Z,⟨_,_,Z,⟨_,Z,(s.mono p)⟩,⟨_,_,Z,Z,⟨_,_,Z,⟨_,Z,(t.mono p)⟩,⟨_,_,Z,Z,⟨_,_,Z,Z,⟨_,Z,(u.mono p)⟩⟩⟩⟩⟩⟩⟩) .nil) fun cs c3 b4 b5 ai b6=>A7 1 Z ?_
 refine By ((List Qv)×AcC×Int×Value×(List Value)) (fun⟨am,a6,a7,ad,aa⟩=>[(1,No a1),(8,(Acy b1)),(9,(Acy b9)),(10,ad)]) (fun⟨am,a6,a7,ad,aa⟩ wr=>FI a (Ha [.row ad 26 7 (am).length aa,.box b9 [No y8.1.f.1,g,AcB y8.1.f.2.2.1,j,No y8.1.f.2.2.2.2.1,No y8.1.f.2.2.2.2.2.1,k] 26,.box ba0 [AcB a6,No a7] 86,.box b1 AcD 26] O) wr fun Oz=>AG .B1 (gz H a wr Oz) am aa/\AJ .st (gz H a wr Oz) g (y8.1.f.2.1)/\AJ .byte (gz H a wr Oz) j (y8.1.f.2.2.2.1)/\AJ .B1 (gz H a wr Oz) k (y8.1.f.2.2.2.2.2.2)/\Le (fz w (Ha [.box ba0 [AcB a0.1,No a0.2] 86] O)) (fz wr Oz)/\(FE a1 y8) am a6 a7=some r) ?_ ?_
 ·refine A3 ?_;obtain⟨bi,h⟩:=Ba h;have hT:=hT.trans (aw.trans (ax.trans (bh.trans (ac.trans (x.trans ai)))));have p:=p.trans (Aa ai)
  refine B5 ((List Qv)×AcC×Int×Value×(List Value)×Nat) (fun⟨e,ae,af,o,c,n⟩=>[(0,(Acy ba0)),(1,No a1),(2,(AcB a2)),(3,.func (.func 70) #[Acy ba0] #[]),(8,(Acy b1)),(9,(Acy b9)),(10,o)]) (fun⟨e,ae,af,o,c,n⟩ wr=>FI a (Ha [.row o 26 7 (e).length c,.box b9 [No y8.1.f.1,g,AcB y8.1.f.2.2.1,j,No y8.1.f.2.2.2.2.1,No y8.1.f.2.2.2.2.2.1,k] 26,.box ba0 [AcB ae,No af] 86,.box b1 AcD 26] O) wr fun Oz=>AG .B1 (gz H a wr Oz) e c/\AJ .st (gz H a wr Oz) g (y8.1.f.2.1)/\AJ .byte (gz H a wr Oz) j (y8.1.f.2.2.2.1)/\AJ .B1 (gz H a wr Oz) k (y8.1.f.2.2.2.2.2.2)/\Le (fz w (Ha [.box ba0 [AcB a0.1,No a0.2] 86] O)) (fz wr Oz)/\H8 (Fc a1 a2 self y8) n (e,ae,af)=some r) (fun⟨e,ae,af,o,c,n⟩=>n) ([y8.1],y8.2.1,y8.2.2,cs,b4,bi) Z ⟨b5,b6,(s.mono p),(t.mono p),(u.mono p),hT,h⟩ ?_;rintro⟨e,ae,af,o,c,nn71⟩ b7 ⟨az,a8,an,ao,ap,hT,h⟩
  obtain⟨bi,c4,rfl,h,a3⟩:=AY h;refine AB ?_;have b:=az.rG H;refine Bt 2 Z ?_;have bj:Bb a (Ha [.box ba0 [AcB ae,No af] 86,.row o 26 7 (e).length c,.box b9 [No y8.1.f.1,g,AcB y8.1.f.2.2.1,j,No y8.1.f.2.2.2.2.1,No y8.1.f.2.2.2.2.2.1,k] 26,.box b1 AcD 26] O) b7:=az.Cy [2] Z;have y:=B0 [2] az bj Z;refine Aw h fun ag b8 h=>EJ (Ca hH ((Ha [.row o 26 7 (e).length c,.box b9 [No y8.1.f.1,g,AcB y8.1.f.2.2.1,j,No y8.1.f.2.2.2.2.1,No y8.1.f.2.2.2.2.2.1,k] 26,.box b1 AcD 26] O)) (ae,af) a2 bj b8) ?_;rintro _ ct ⟨rfl,a4,z⟩;refine Ac<|B3 h ?_ ?_<;>intro ca h
  ·refine Av<|Ar<|A3<|As<|Aq 2 Z<|Aw h fun c5 cb h=>Sh [Acy ba0] [] Z Z (hself (a0:=(ag.2.1,ag.2.2)) (O:=(Ha [.row o 26 7 (e).length c,.box b9 [No y8.1.f.1,g,AcB y8.1.f.2.2.1,j,No y8.1.f.2.2.2.2.1,No y8.1.f.2.2.2.2.2.1,k] 26,.box b1 AcD 26] O)) hH hU a4 cb) ?_ ?_
   ·rintro rfl c6 ⟨cc,bs⟩;have h:=K9 h;refine H9<|Rv ?_;have h:=Ce.out h a3;refine H9<|Pq ?_
    cases h
    refine Ns ?_;have cd:=cc.AQ (i:=0) Z;have ce:=cd.AQ (i:=0) Z;have cf:=ce.AQ (i:=0) Z;have hT:=hT.trans (y.trans (z.trans (bs.trans ((Ak (i:=0) Z).trans ((Ak (i:=0) Z).trans (Ak (i:=0) Z))))));exact L5 ⟨cf,hT⟩
   rintro y86 rfl _ c8 ⟨cv,cw,cx,rfl,cg,a9,bk,bl,bm⟩;have h:=KA h;refine B6 [y86.1] (r:=.B1) (fun _=>Og _ _ _ _ _ _ _ _) cg (.c7 (Go.E.Rp.Iq ⟨_,_,Z,Z,⟨_,_,Z,⟨_,Z,bk⟩,⟨_,_,Z,Z,⟨_,_,Z,⟨_,Z,bl⟩,⟨_,_,Z,Z,⟨_,_,Z,Z,⟨_,Z,bm⟩⟩⟩⟩⟩⟩⟩) .nil) fun c9 da cz ch ba ci=>A1 h fun cj h=>?_;have b:=b.trans (Aa (y.trans (z.trans (a9.trans ba))));refine Br (r:=.B1) 1 e [y86.1] Z Aj6 ch Z (a8.mono b) ci cj fun b2 cu bn bo bb a5=>Aq 1 Z<|AL<|A2 ?_;have bp:Bb a (Ha [.row b2 26 7 ((e++[y86.1])).length bn,.box b9 [No y8.1.f.1,g,AcB y8.1.f.2.2.1,j,No y8.1.f.2.2.2.2.1,No y8.1.f.2.2.2.2.2.1,k] 26,.box ba0 [AcB y86.2.1,No y86.2.2] 86,.box b1 AcD 26] O) cu:=bo.Cy [2,2] Z;have aj:=B0 [2,2] bo bp Z;have h:=Ce.again h a3;have hT:=hT.trans (y.trans (z.trans (a9.trans (ba.trans (bb.trans aj)))))
   have b:=b.trans (Aa (bb.trans aj));have a5:=a5.mono (Aa aj);refine AM ((e++[y86.1]),y86.2.1,y86.2.2,b2,bn,bi) Z ⟨bp,a5,(an.mono b),(ao.mono b),(ap.mono b),hT,h⟩
  refine B2<|AD<|A5 ?_;have h:=Ce.out h a3;refine Bf ?_;have bq:Bb a (Ha [.row o 26 7 (e).length c,.box b9 [No y8.1.f.1,g,AcB y8.1.f.2.2.1,j,No y8.1.f.2.2.2.2.1,No y8.1.f.2.2.2.2.2.1,k] 26,.box ba0 [AcB ag.2.1,No ag.2.2] 86,.box b1 AcD 26] O) ct:=a4.Cy [2,2] Z;have bc:=B0 [2,2] a4 bq Z;have b:=b.trans (Aa (y.trans (z.trans bc)));have hT:=hT.trans (y.trans (z.trans bc));refine AA (_,_,_,_,_) ⟨bq,(a8.mono b),(an.mono b),(ao.mono b),(ap.mono b),hT,h⟩
 have hT:=hT.trans (aw.trans (ax.trans (bh.trans (ac.trans (x.trans ai)))));rintro⟨am,a6,a7,ad,aa⟩ c0 ⟨q,bt,aq,ar,au,hT,h⟩;refine AB ?_;have d:=q.rG H;refine Bt 1 Z<|Ai (Qm 0 Z q Z)<|A7 1 Z<|AO h ?_ ?_<;>intro ck h
 ·refine Aj<|Ai (A4 1 Z B7.e q Z)<|Af 3 Z q Z (a:=(Bn Z (Bn (aq.mono d).one (Bn Z (Bn (ar.mono d).one (Bn Z (Bn Z (Bn (au.mono d).one Ky)))))))) fun db br bd=>Ac<|Ay<|Ao ?_
  cases h
  refine Nr<|Dv (.cell Z Ajl Z B7.e (AH (i:=3) br Z)) ?_;have cl:=br.AQ (i:=0) Z;have cm:=cl.AQ (i:=0) Z;have bu:=cm.AQ (i:=1) Z;have d:=d.trans (Aa (bd.trans ((Ak (i:=0) Z).trans ((Ak (i:=0) Z).trans (Ak (i:=1) Z)))));have hT:=hT.trans (bd.trans ((Ak (i:=0) Z).trans ((Ak (i:=0) Z).trans (Ak (i:=1) Z))));exact KB ⟨g,j,k,Z,bu,hT,(aq.mono d),(ar.mono d),(au.mono d)⟩
 refine Av<|Ar<|Bt 2 Z<|Ai (AT (fun _=>OP _ _ (row_one (q.at (i:=0) Z)) _))<|Af 3 Z q Z (a:=(Bn Z (Bn Z (Bn Z (Bn Z (Bn Z (Bn Z (Bn (row_one (q.at (i:=0) Z)) Ky)))))))) fun c1 ak av=>Ac<|Ay ?_
 cases h
 refine Nr<|Dv (.cell Z Ajl Z B7.e (AH (i:=3) ak Z)) ?_;have d:=d.trans (Aa av);have al:=ak.Dn hH (i:=0) Z (bt.mono d);have bv:=ak.AQ (i:=0) Z;have bw:=bv.AQ (i:=0) Z;have bx:=bw.AQ (i:=1) Z;have hT:=hT.trans (av.trans ((Ak (i:=0) Z).trans ((Ak (i:=0) Z).trans (Ak (i:=1) Z))));have al:=al.mono (Aa ((Ak (i:=0) Z).trans (Ak (i:=1) Z)));exact KB ⟨AaB,AaB,ad,Z,bx,hT,(AJ.nil _ _),(AJ.nil _ _),al⟩
def Gd(self:(AcC×Int)->Option (Option (Qv×(AcC×Int))))(a0_0:AcC×Int):Option (Option (Qv×(AcC×Int))):=
 Qq4 (GN self (a0_0.1,a0_0.2) (8:Int) ([38]:AcC)) (fun a=>ZE a (some none) (fun y9=>some (some (y9.1,(y9.2.1,y9.2.2)))))
theorem KO{self:(AcC×Int)->Option (Option (Qv×(AcC×Int)))}(hself:∀ {a w:World} {H:PH} (hH:Le H (hp a)) (hU:Ge H) {O:List BS} {a0:AcC×Int} {ba0:Nat} (hL:Bb a (Ha [.box ba0 [AcB a0.1,No a0.2] 86] O) w) {r:Option (Qv×(AcC×Int))} (h:self a0=some r),W8 prog 70 [Acy ba0] w (.iface 82 (.agg #[])) (fun v w'=>Y8 r v (fun r v=>∃ (j:Value) (k:Value) (l:Value),v=.agg #[No r.1.f.1,j,AcB r.1.f.2.2.1,k,No r.1.f.2.2.2.2.1,No r.1.f.2.2.2.2.2.1,l]/\Bb a (Ha [.box ba0 [AcB r.2.1,No r.2.2] 86] O) w'/\Le (fz w (Ha [.box ba0 [AcB a0.1,No a0.2] 86] O)) (fz w' (Ha [.box ba0 [AcB r.2.1,No r.2.2] 86] O))/\AJ .st (gz H a w' (Ha [.box ba0 [AcB r.2.1,No r.2.2] 86] O)) j (r.1.f.2.1)/\AJ .byte (gz H a w' (Ha [.box ba0 [AcB r.2.1,No r.2.2] 86] O)) k (r.1.f.2.2.2.1)/\AJ .B1 (gz H a w' (Ha [.box ba0 [AcB r.2.1,No r.2.2] 86] O)) l (r.1.f.2.2.2.2.2.2)) (Bb a O w'/\Le (fz w (Ha [.box ba0 [AcB a0.1,No a0.2] 86] O)) (fz w' O)))){a w:World}{H:PH}(hH:Le H (hp a))(hU:Ge H){O:List BS}{a0_0:AcC×Int}{ba0 ba0_0:Nat}(hL:Bb a (Ha [.box ba0 [Acy ba0_0] 84,.box ba0_0 [AcB a0_0.1,No a0_0.2] 86] O) w){r:Option (Qv×(AcC×Int))}(h:Gd self a0_0=some r):
  W8 prog 68 [Acy ba0] w (.iface 82 (.agg #[])) (fun v w'=>Y8 r v (fun r v=>∃ (j:Value) (k:Value) (l:Value),v=.agg #[No r.1.f.1,j,AcB r.1.f.2.2.1,k,No r.1.f.2.2.2.2.1,No r.1.f.2.2.2.2.2.1,l]/\Bb a (Ha [.box ba0 [Acy ba0_0] 84,.box ba0_0 [AcB r.2.1,No r.2.2] 86] O) w'/\Le (fz w (Ha [.box ba0 [Acy ba0_0] 84,.box ba0_0 [AcB a0_0.1,No a0_0.2] 86] O)) (fz w' (Ha [.box ba0 [Acy ba0_0] 84,.box ba0_0 [AcB r.2.1,No r.2.2] 86] O))/\AJ .st (gz H a w' (Ha [.box ba0 [Acy ba0_0] 84,.box ba0_0 [AcB r.2.1,No r.2.2] 86] O)) j (r.1.f.2.1)/\AJ .byte (gz H a w' (Ha [.box ba0 [Acy ba0_0] 84,.box ba0_0 [AcB r.2.1,No r.2.2] 86] O)) k (r.1.f.2.2.2.1)/\AJ .B1 (gz H a w' (Ha [.box ba0 [Acy ba0_0] 84,.box ba0_0 [AcB r.2.1,No r.2.2] 86] O)) l (r.1.f.2.2.2.2.2.2)) (Bb a O w'/\Le (fz w (Ha [.box ba0 [Acy ba0_0] 84,.box ba0_0 [AcB a0_0.1,No a0_0.2] 86] O)) (fz w' O))):=by
 refine N4 6 [(0,(Acy ba0))] func68 Z Z Z Z Z ?_;have hT:=Le.refl (fz w (Ha [.box ba0 [Acy ba0_0] 84,.box ba0_0 [AcB a0_0.1,No a0_0.2] 86] O));refine Aj<|A9 B7.e Z hL fun w1 b1 m o _=>Ac<|Aj ?_
 iterate 2 refine Ai (Ag 1 Z m Z) ?_
 refine Aq 1 Z ?_;have u:Bb a (Ha [.box ba0_0 [AcB a0_0.1,No a0_0.2] 86,.box b1 AcD 26,.box ba0 [Acy ba0_0] 84] O) w1:=m.Cy [2] Z;have p:=B0 [2] m u Z;refine Aw h fun x3 ad h=>OJ (NY (hself:=hself) (a0:=(a0_0.1,a0_0.2)) (a1:=8) (a2:=([38]:AcC)) (O:=(Ha [.box b1 AcD 26,.box ba0 [Acy ba0_0] 84] O)) hH hU u ad) ?_ ?_
 ·rintro rfl w5 ⟨ae,x⟩;have h:=K9 h;refine Fi ?_
  cases h
  refine Ns ?_;have af:=ae.AQ (i:=0) Z;have ag:=af.AQ (i:=0) Z;have hT:=hT.trans (o.trans (p.trans (x.trans ((Ak (i:=0) Z).trans (Ak (i:=0) Z)))));exact L5 ⟨ag,hT⟩
 rintro y9 rfl _ w4 ⟨y,z,aa,rfl,ah,ab,b,c,d⟩;have h:=KA h;refine Af 1 Z ah Z (a:=(Bn Z (Bn b.one (Bn Z (Bn c.one (Bn Z (Bn Z (Bn d.one Ky)))))))) fun ai q e=>Ac<|Ay ?_
 cases h
 refine Nr<|Dv (.cell Z Ajl Z B7.e (AH (i:=1) q Z)) ?_;have s:=q.AQ (i:=1) Z;have t:Bb a (Ha [.box ba0 [Acy ba0_0] 84,.box ba0_0 [AcB y9.2.1,No y9.2.2] 86] O) ai:=s.Cy [1] Z;have g:=B0 [1] s t Z;have hT:=hT.trans (o.trans (p.trans (ab.trans (e.trans ((Ak (i:=1) Z).trans g)))));have b:=b.mono (Aa (e.trans ((Ak (i:=1) Z).trans g)));have c:=c.mono (Aa (e.trans ((Ak (i:=1) Z).trans g)));have d:=d.mono (Aa (e.trans ((Ak (i:=1) Z).trans g)));exact KB ⟨y,z,aa,Z,t,hT,b,c,d⟩
def GO(a1:Int)(y8:Qv×(AcC×Int))(a:List Qv)(b:AcC)(c:Int):Option (Option (Qv×(AcC×Int))):=
 if(a.length:Int)=1 then some (some (y8.1,(b,c))) else some (some ((Qv.mk a1 ([]) ([]:AcC) ([]) (0:Int) (0:Int) a),(b,c)))
def Gz(a1:Int)(a2:AcC)(self:(AcC×Int)->Option (Option (Qv×(AcC×Int))))(y8:Qv×(AcC×Int)):(List Qv)×AcC×Int->Option (((List Qv)×AcC×Int) ⊕ (Option (Qv×(AcC×Int)))):=fun⟨b,c,d⟩=>
 Qq4 (BP (c,d) a2) (fun a=>if a.1 then Qq4 (Gd self (a.2.1,a.2.2)) (fun e=>ZE e (Qq7 Sum.inr (some none)) (fun y90=>AN (Go.E.H7 112 (b.length+([y90.1]).length)) (some (Sum.inl ((b++[y90.1]),y90.2.1,y90.2.2))))) else Qq7 Sum.inr ((GO a1 y8) b a.2.1 a.2.2))
def Je(a1:Int)(a2:AcC)(self:(AcC×Int)->Option (Option (Qv×(AcC×Int))))(y8:Qv×(AcC×Int))(s:(List Qv)×AcC×Int):Option (Option (Qv×(AcC×Int))):=Go.L.run (Gz a1 a2 self y8) s
def I7(self:(AcC×Int)->Option (Option (Qv×(AcC×Int))))(a0:AcC×Int)(a1:Int)(a2:AcC):Option (Option (Qv×(AcC×Int))):=
 Qq4 (Gd self (a0.1,a0.2)) (fun a=>ZE a (some none) (fun y8=>(Je a1 a2 self y8) ([y8.1],y8.2.1,y8.2.2)))
theorem Ph{self:(AcC×Int)->Option (Option (Qv×(AcC×Int)))}(hself:∀ {a w:World} {H:PH} (hH:Le H (hp a)) (hU:Ge H) {O:List BS} {a0:AcC×Int} {ba0:Nat} (hL:Bb a (Ha [.box ba0 [AcB a0.1,No a0.2] 86] O) w) {r:Option (Qv×(AcC×Int))} (h:self a0=some r),W8 prog 70 [Acy ba0] w (.iface 82 (.agg #[])) (fun v w'=>Y8 r v (fun r v=>∃ (u1:Value) (u3:Value) (u6:Value),v=.agg #[No r.1.f.1,u1,AcB r.1.f.2.2.1,u3,No r.1.f.2.2.2.2.1,No r.1.f.2.2.2.2.2.1,u6]/\Bb a (Ha [.box ba0 [AcB r.2.1,No r.2.2] 86] O) w'/\Le (fz w (Ha [.box ba0 [AcB a0.1,No a0.2] 86] O)) (fz w' (Ha [.box ba0 [AcB r.2.1,No r.2.2] 86] O))/\AJ .st (gz H a w' (Ha [.box ba0 [AcB r.2.1,No r.2.2] 86] O)) u1 (r.1.f.2.1)/\AJ .byte (gz H a w' (Ha [.box ba0 [AcB r.2.1,No r.2.2] 86] O)) u3 (r.1.f.2.2.2.1)/\AJ .B1 (gz H a w' (Ha [.box ba0 [AcB r.2.1,No r.2.2] 86] O)) u6 (r.1.f.2.2.2.2.2.2)) (Bb a O w'/\Le (fz w (Ha [.box ba0 [AcB a0.1,No a0.2] 86] O)) (fz w' O)))){a w:World}{H:PH}(hH:Le H (hp a))(hU:Ge H){O:List BS}{a0:AcC×Int}{a1:Int}{a2:AcC}{ba0 ba3_c0:Nat}(hL:Bb a (Ha [.box ba0 [AcB a0.1,No a0.2] 86,.box ba3_c0 [Acy ba0] 84] O) w){r:Option (Qv×(AcC×Int))}(h:I7 self a0 a1 a2=some r):
  W8 prog 69 [Acy ba0,No a1,AcB a2,.func (.func 68) #[] #[Acy ba3_c0]] w (.iface 82 (.agg #[])) (fun v w'=>Y8 r v (fun r v=>∃ (u1:Value) (u3:Value) (u6:Value),v=.agg #[No r.1.f.1,u1,AcB r.1.f.2.2.1,u3,No r.1.f.2.2.2.2.1,No r.1.f.2.2.2.2.2.1,u6]/\Bb a (Ha [.box ba0 [AcB r.2.1,No r.2.2] 86,.box ba3_c0 [Acy ba0] 84] O) w'/\Le (fz w (Ha [.box ba0 [AcB a0.1,No a0.2] 86,.box ba3_c0 [Acy ba0] 84] O)) (fz w' (Ha [.box ba0 [AcB r.2.1,No r.2.2] 86,.box ba3_c0 [Acy ba0] 84] O))/\AJ .st (gz H a w' (Ha [.box ba0 [AcB r.2.1,No r.2.2] 86,.box ba3_c0 [Acy ba0] 84] O)) u1 (r.1.f.2.1)/\AJ .byte (gz H a w' (Ha [.box ba0 [AcB r.2.1,No r.2.2] 86,.box ba3_c0 [Acy ba0] 84] O)) u3 (r.1.f.2.2.2.1)/\AJ .B1 (gz H a w' (Ha [.box ba0 [AcB r.2.1,No r.2.2] 86,.box ba3_c0 [Acy ba0] 84] O)) u6 (r.1.f.2.2.2.2.2.2)) (Bb a O w'/\Le (fz w (Ha [.box ba0 [AcB a0.1,No a0.2] 86,.box ba3_c0 [Acy ba0] 84] O)) (fz w' O))):=by
 refine N4 30 [(0,(Acy ba0)),(1,No a1),(2,(AcB a2)),(3,.func (.func 68) #[] #[Acy ba3_c0])] func69 Z Z Z Z Z ?_;have hT:=Le.refl (fz w (Ha [.box ba0 [AcB a0.1,No a0.2] 86,.box ba3_c0 [Acy ba0] 84] O));refine Aj<|A9 B7.e Z hL fun w1 b1 cd a6 _=>Ac<|Bt 1 Z ?_;have ce:Bb a (Ha [.box ba3_c0 [Acy ba0] 84,.box ba0 [AcB a0.1,No a0.2] 86,.box b1 AcD 26] O) w1:=cd.Cy [1,2] Z;have a7:=B0 [1,2] cd ce Z;refine Aw h fun x3 cy h=>Sh [] [Acy ba3_c0] Z Z (KO (hself:=hself) (a0_0:=(a0.1,a0.2)) (O:=(Ha [.box b1 AcD 26] O)) hH hU ce cy) ?_ ?_
 ·rintro rfl w5 ⟨cz,cg⟩;have h:=K9 h;refine Fi ?_
  cases h
  refine Ns ?_;have c0:=cz.AQ (i:=0) Z;have hT:=hT.trans (a6.trans (a7.trans (cg.trans (Ak (i:=0) Z))));exact L5 ⟨c0,hT⟩
 rintro y8 rfl _ w4 ⟨d,e,g,rfl,c1,br,t,u,x⟩;have h:=KA h;refine A9 B7.e Z c1 fun w9 b9 c2 ae _=>Af 0 Z c2 Z (a:=(Bn Z (Bn t.one (Bn Z (Bn u.one (Bn Z (Bn Z (Bn x.one Ky)))))))) fun dc a8 y=>Ac ?_;have p:=a8.rG H;refine Aj<|Ai (A4 0 Z B7.e a8 Z) ?_;have t:=t.mono (Aa (ae.trans y));have u:=u.mono (Aa (ae.trans y));have x:=x.mono (Aa (ae.trans y));refine Oy [y8.1] (r:=.B1) (fun _=>Og _ _ _ _ _ _ _ _) (BH 1) hH a8 (.c7 (Go.E.Rp.Iq ⟨_,_,Z,Z,⟨_,_,Z,⟨_,Z,(t.mono p)⟩,⟨_,_,Z,Z,⟨_,_,Z,⟨_,Z,(u.mono p)⟩,⟨_,_,Z,Z,⟨_,_,Z,Z,⟨_,Z,(x.mono p)⟩⟩⟩⟩⟩⟩⟩) .nil) fun c3 dd ch ci ak cj=>A7 1 Z ?_
 refine By ((List Qv)×AcC×Int×Value×(List Value)) (fun⟨aq,ai,aj,af,ac⟩=>[(1,No a1),(8,(Acy b1)),(9,(Acy b9)),(10,af)]) (fun⟨aq,ai,aj,af,ac⟩ wr=>FI a (Ha [.row af 26 7 (aq).length ac,.box b9 [No y8.1.f.1,d,AcB y8.1.f.2.2.1,e,No y8.1.f.2.2.2.2.1,No y8.1.f.2.2.2.2.2.1,g] 26,.box ba3_c0 [Acy ba0] 84,.box ba0 [AcB ai,No aj] 86,.box b1 AcD 26] O) wr fun Oz=>AG .B1 (gz H a wr Oz) aq ac/\AJ .st (gz H a wr Oz) d (y8.1.f.2.1)/\AJ .byte (gz H a wr Oz) e (y8.1.f.2.2.2.1)/\AJ .B1 (gz H a wr Oz) g (y8.1.f.2.2.2.2.2.2)/\Le (fz w (Ha [.box ba0 [AcB a0.1,No a0.2] 86,.box ba3_c0 [Acy ba0] 84] O)) (fz wr Oz)/\(GO a1 y8) aq ai aj=some r) ?_ ?_
 ·refine A3 ?_;obtain⟨bs,h⟩:=Ba h;have hT:=hT.trans (a6.trans (a7.trans (br.trans (ae.trans (y.trans ak)))));have p:=p.trans (Aa ak)
  refine B5 ((List Qv)×AcC×Int×Value×(List Value)×Nat) (fun⟨k,ag,ah,j,b,n⟩=>[(0,(Acy ba0)),(1,No a1),(2,(AcB a2)),(3,.func (.func 68) #[] #[Acy ba3_c0]),(8,(Acy b1)),(9,(Acy b9)),(10,j)]) (fun⟨k,ag,ah,j,b,n⟩ wr=>FI a (Ha [.row j 26 7 (k).length b,.box b9 [No y8.1.f.1,d,AcB y8.1.f.2.2.1,e,No y8.1.f.2.2.2.2.1,No y8.1.f.2.2.2.2.2.1,g] 26,.box ba3_c0 [Acy ba0] 84,.box ba0 [AcB ag,No ah] 86,.box b1 AcD 26] O) wr fun Oz=>AG .B1 (gz H a wr Oz) k b/\AJ .st (gz H a wr Oz) d (y8.1.f.2.1)/\AJ .byte (gz H a wr Oz) e (y8.1.f.2.2.2.1)/\AJ .B1 (gz H a wr Oz) g (y8.1.f.2.2.2.2.2.2)/\Le (fz w (Ha [.box ba0 [AcB a0.1,No a0.2] 86,.box ba3_c0 [Acy ba0] 84] O)) (fz wr Oz)/\H8 (Gz a1 a2 self y8) n (k,ag,ah)=some r) (fun⟨k,ag,ah,j,b,n⟩=>n) ([y8.1],y8.2.1,y8.2.2,c3,ch,bs) Z ⟨ci,cj,(t.mono p),(u.mono p),(x.mono p),hT,h⟩ ?_
  rintro⟨k,ag,ah,j,b,nn74⟩ ck ⟨a9,bd,ar,au,av,hT,h⟩;obtain⟨bs,de,rfl,h,ba⟩:=AY h;refine AB ?_;have c:=a9.rG H;refine Bt 2 Z ?_;have bt:Bb a (Ha [.box ba0 [AcB ag,No ah] 86,.row j 26 7 (k).length b,.box b9 [No y8.1.f.1,d,AcB y8.1.f.2.2.1,e,No y8.1.f.2.2.2.2.1,No y8.1.f.2.2.2.2.2.1,g] 26,.box ba3_c0 [Acy ba0] 84,.box b1 AcD 26] O) ck:=a9.Cy [3] Z;have z:=B0 [3] a9 bt Z;refine Aw h fun q cl h=>EJ (Ca hH ((Ha [.row j 26 7 (k).length b,.box b9 [No y8.1.f.1,d,AcB y8.1.f.2.2.1,e,No y8.1.f.2.2.2.2.1,No y8.1.f.2.2.2.2.2.1,g] 26,.box ba3_c0 [Acy ba0] 84,.box b1 AcD 26] O)) (ag,ah) a2 bt cl) ?_;rintro _ bu ⟨rfl,al,aa⟩;refine Ac<|B3 h ?_ ?_<;>intro cm h
  ·refine Av<|Ar<|A3<|As<|Aq 2 Z ?_;have bv:Bb a (Ha [.box ba3_c0 [Acy ba0] 84,.box ba0 [AcB q.2.1,No q.2.2] 86,.row j 26 7 (k).length b,.box b9 [No y8.1.f.1,d,AcB y8.1.f.2.2.1,e,No y8.1.f.2.2.2.2.1,No y8.1.f.2.2.2.2.2.1,g] 26,.box b1 AcD 26] O) bu:=al.Cy [3] Z;have am:=B0 [3] al bv Z;refine Aw h fun df cn h=>Sh [] [Acy ba3_c0] Z Z (KO (hself:=hself) (a0_0:=(q.2.1,q.2.2)) (O:=(Ha [.row j 26 7 (k).length b,.box b9 [No y8.1.f.1,d,AcB y8.1.f.2.2.1,e,No y8.1.f.2.2.2.2.1,No y8.1.f.2.2.2.2.2.1,g] 26,.box b1 AcD 26] O)) hH hU bv cn) ?_ ?_
   ·rintro rfl dg ⟨co,b5⟩;have h:=K9 h;refine H9<|Rv ?_;have h:=Ce.out h ba;refine H9<|Pq ?_
    cases h
    refine Ns ?_;have cp:=co.AQ (i:=0) Z;have cq:=cp.AQ (i:=0) Z;have cr:=cq.AQ (i:=0) Z;have hT:=hT.trans (z.trans (aa.trans (am.trans (b5.trans ((Ak (i:=0) Z).trans ((Ak (i:=0) Z).trans (Ak (i:=0) Z)))))));exact L5 ⟨cr,hT⟩
   rintro y90 rfl _ dh ⟨c5,c6,c8,rfl,cs,be,bw,bx,bz⟩;have h:=KA h;refine B6 [y90.1] (r:=.B1) (fun _=>Og _ _ _ _ _ _ _ _) cs (.c7 (Go.E.Rp.Iq ⟨_,_,Z,Z,⟨_,_,Z,⟨_,Z,bw⟩,⟨_,_,Z,Z,⟨_,_,Z,⟨_,Z,bx⟩,⟨_,_,Z,Z,⟨_,_,Z,Z,⟨_,Z,bz⟩⟩⟩⟩⟩⟩⟩) .nil) fun di dj da ct bf cu=>A1 h fun cv h=>?_;have c:=c.trans (Aa (z.trans (aa.trans (am.trans (be.trans bf)))));refine Br (r:=.B1) 2 k [y90.1] Z Aj6 ct Z (bd.mono c) cu cv fun cf c4 b0 b2 bg bb=>Aq 1 Z<|AL<|A2 ?_;have b3:Bb a (Ha [.row cf 26 7 ((k++[y90.1])).length b0,.box b9 [No y8.1.f.1,d,AcB y8.1.f.2.2.1,e,No y8.1.f.2.2.2.2.1,No y8.1.f.2.2.2.2.2.1,g] 26,.box ba3_c0 [Acy ba0] 84,.box ba0 [AcB y90.2.1,No y90.2.2] 86,.box b1 AcD 26] O) c4:=b2.Cy [3,3] Z;have an:=B0 [3,3] b2 b3 Z;have h:=Ce.again h ba
   have hT:=hT.trans (z.trans (aa.trans (am.trans (be.trans (bf.trans (bg.trans an))))));have c:=c.trans (Aa (bg.trans an));have bb:=bb.mono (Aa an);refine AM ((k++[y90.1]),y90.2.1,y90.2.2,cf,b0,bs) Z ⟨b3,bb,(ar.mono c),(au.mono c),(av.mono c),hT,h⟩
  refine B2<|AD<|A5 ?_;have h:=Ce.out h ba;refine Bf ?_;have bc:Bb a (Ha [.box b9 [No y8.1.f.1,d,AcB y8.1.f.2.2.1,e,No y8.1.f.2.2.2.2.1,No y8.1.f.2.2.2.2.2.1,g] 26,.box ba3_c0 [Acy ba0] 84,.box ba0 [AcB q.2.1,No q.2.2] 86,.row j 26 7 (k).length b,.box b1 AcD 26] O) bu:=al.Cy [3,3] Z;have bh:=B0 [3,3] al bc Z;have b4:Bb a (Ha [.row j 26 7 (k).length b,.box b9 [No y8.1.f.1,d,AcB y8.1.f.2.2.1,e,No y8.1.f.2.2.2.2.1,No y8.1.f.2.2.2.2.2.1,g] 26,.box ba3_c0 [Acy ba0] 84,.box ba0 [AcB q.2.1,No q.2.2] 86,.box b1 AcD 26] O) bu:=bc.Cy [3] Z;have bi:=B0 [3] bc b4 Z;have c:=c.trans (Aa (z.trans (aa.trans (bh.trans bi))));have hT:=hT.trans (z.trans (aa.trans (bh.trans bi)))
  refine AA (_,_,_,_,_) ⟨b4,(bd.mono c),(ar.mono c),(au.mono c),(av.mono c),hT,h⟩
 have hT:=hT.trans (a6.trans (a7.trans (br.trans (ae.trans (y.trans ak)))));rintro⟨aq,ai,aj,af,ac⟩ db ⟨s,b6,aw,ax,ay,hT,h⟩;refine AB ?_;have o:=s.rG H;refine Bt 1 Z<|Ai (Qm 0 Z s Z)<|A7 1 Z<|AO h ?_ ?_<;>intro b7 h
 ·refine Aj<|Ai (A4 1 Z B7.e s Z)<|Af 4 Z s Z (a:=(Bn Z (Bn (aw.mono o).one (Bn Z (Bn (ax.mono o).one (Bn Z (Bn Z (Bn (ay.mono o).one Ky)))))))) fun cw bj az=>Ac<|Ay<|Ao ?_
  cases h
  refine Nr<|Dv (.cell Z Ajl Z B7.e (AH (i:=4) bj Z)) ?_;have b8:=bj.AQ (i:=0) Z;have ca:=b8.AQ (i:=0) Z;have bk:=ca.AQ (i:=2) Z;have bl:Bb a (Ha [.box ba0 [AcB ai,No aj] 86,.box ba3_c0 [Acy ba0] 84] O) cw:=bk.Cy [1] Z;have a3:=B0 [1] bk bl Z;have o:=o.trans (Aa (az.trans ((Ak (i:=0) Z).trans ((Ak (i:=0) Z).trans ((Ak (i:=2) Z).trans a3)))));have hT:=hT.trans (az.trans ((Ak (i:=0) Z).trans ((Ak (i:=0) Z).trans ((Ak (i:=2) Z).trans a3))));exact KB ⟨d,e,g,Z,bl,hT,(aw.mono o),(ax.mono o),(ay.mono o)⟩
 refine Av<|Ar<|Bt 2 Z<|Ai (AT (fun _=>OP _ _ (row_one (s.at (i:=0) Z)) _))<|Af 4 Z s Z (a:=(Bn Z (Bn Z (Bn Z (Bn Z (Bn Z (Bn Z (Bn (row_one (s.at (i:=0) Z)) Ky)))))))) fun cx ao a4=>Ac<|Ay ?_
 cases h
 refine Nr<|Dv (.cell Z Ajl Z B7.e (AH (i:=4) ao Z)) ?_;have o:=o.trans (Aa a4);have ap:=ao.Dn hH (i:=0) Z (b6.mono o);have cb:=ao.AQ (i:=0) Z;have cc:=cb.AQ (i:=0) Z;have bm:=cc.AQ (i:=2) Z;have bn:Bb a (Ha [.box ba0 [AcB ai,No aj] 86,.box ba3_c0 [Acy ba0] 84] O) cx:=bm.Cy [1] Z;have a5:=B0 [1] bm bn Z;have hT:=hT.trans (a4.trans ((Ak (i:=0) Z).trans ((Ak (i:=0) Z).trans ((Ak (i:=2) Z).trans a5))));have ap:=ap.mono (Aa ((Ak (i:=0) Z).trans ((Ak (i:=2) Z).trans a5)));exact KB ⟨AaB,AaB,af,Z,bn,hT,(AJ.nil _ _),(AJ.nil _ _),ap⟩
def Hg(self:(AcC×Int)->Option (Option (Qv×(AcC×Int))))(a0:AcC×Int):Option (Option (Qv×(AcC×Int))):=
 Qq4 (I7 self (a0.1,a0.2) (9:Int) ([124]:AcC)) (fun a=>ZE a (some none) (fun y9=>some (some (y9.1,(y9.2.1,y9.2.2)))))
theorem Me{self:(AcC×Int)->Option (Option (Qv×(AcC×Int)))}(hself:∀ {a w:World} {H:PH} (hH:Le H (hp a)) (hU:Ge H) {O:List BS} {a0:AcC×Int} {ba0:Nat} (hL:Bb a (Ha [.box ba0 [AcB a0.1,No a0.2] 86] O) w) {r:Option (Qv×(AcC×Int))} (h:self a0=some r),W8 prog 70 [Acy ba0] w (.iface 82 (.agg #[])) (fun v w'=>Y8 r v (fun r v=>∃ (g:Value) (j:Value) (k:Value),v=.agg #[No r.1.f.1,g,AcB r.1.f.2.2.1,j,No r.1.f.2.2.2.2.1,No r.1.f.2.2.2.2.2.1,k]/\Bb a (Ha [.box ba0 [AcB r.2.1,No r.2.2] 86] O) w'/\Le (fz w (Ha [.box ba0 [AcB a0.1,No a0.2] 86] O)) (fz w' (Ha [.box ba0 [AcB r.2.1,No r.2.2] 86] O))/\AJ .st (gz H a w' (Ha [.box ba0 [AcB r.2.1,No r.2.2] 86] O)) g (r.1.f.2.1)/\AJ .byte (gz H a w' (Ha [.box ba0 [AcB r.2.1,No r.2.2] 86] O)) j (r.1.f.2.2.2.1)/\AJ .B1 (gz H a w' (Ha [.box ba0 [AcB r.2.1,No r.2.2] 86] O)) k (r.1.f.2.2.2.2.2.2)) (Bb a O w'/\Le (fz w (Ha [.box ba0 [AcB a0.1,No a0.2] 86] O)) (fz w' O)))){a w:World}{H:PH}(hH:Le H (hp a))(hU:Ge H){O:List BS}{a0:AcC×Int}{ba0:Nat}(hL:Bb a (Ha [.box ba0 [AcB a0.1,No a0.2] 86] O) w){r:Option (Qv×(AcC×Int))}(h:Hg self a0=some r):
  W8 prog 39 [Acy ba0] w (.iface 82 (.agg #[])) (fun v w'=>Y8 r v (fun r v=>∃ (g:Value) (j:Value) (k:Value),v=.agg #[No r.1.f.1,g,AcB r.1.f.2.2.1,j,No r.1.f.2.2.2.2.1,No r.1.f.2.2.2.2.2.1,k]/\Bb a (Ha [.box ba0 [AcB r.2.1,No r.2.2] 86] O) w'/\Le (fz w (Ha [.box ba0 [AcB a0.1,No a0.2] 86] O)) (fz w' (Ha [.box ba0 [AcB r.2.1,No r.2.2] 86] O))/\AJ .st (gz H a w' (Ha [.box ba0 [AcB r.2.1,No r.2.2] 86] O)) g (r.1.f.2.1)/\AJ .byte (gz H a w' (Ha [.box ba0 [AcB r.2.1,No r.2.2] 86] O)) j (r.1.f.2.2.2.1)/\AJ .B1 (gz H a w' (Ha [.box ba0 [AcB r.2.1,No r.2.2] 86] O)) k (r.1.f.2.2.2.2.2.2)) (Bb a O w'/\Le (fz w (Ha [.box ba0 [AcB a0.1,No a0.2] 86] O)) (fz w' O))):=by
 refine N4 8 [(0,(Acy ba0))] func39 Z Z Z Z Z ?_;have hT:=Le.refl (fz w (Ha [.box ba0 [AcB a0.1,No a0.2] 86] O));refine Aj<|Qq (t:=84) Z Z hL fun w1 b1 ad l _=>A9 B7.e Z ad fun w2 b2 m o _=>Ac<|AI 2 Z<|Aj<|Ai (Ag 1 Z m Z)<|Aq 1 Z ?_;have s:Bb a (Ha [.box ba0 [AcB a0.1,No a0.2] 86,.box b1 [Acy ba0] 84,.box b2 AcD 26] O) w2:=m.Cy [1,2] Z;have p:=B0 [1,2] m s Z;refine Aw h fun x4 af h=>OJ (Ph (hself:=hself) (a0:=(a0.1,a0.2)) (a1:=9) (a2:=([124]:AcC)) (O:=(Ha [.box b2 AcD 26] O)) hH hU s af) ?_ ?_
 ·rintro rfl w6 ⟨ag,u⟩;have h:=K9 h;refine Fi ?_
  cases h
  refine Ns ?_;have ah:=ag.AQ (i:=0) Z;have hT:=hT.trans (l.trans (o.trans (p.trans (u.trans (Ak (i:=0) Z)))));exact L5 ⟨ah,hT⟩
 rintro y9 rfl _ w5 ⟨x,y,z,rfl,ai,aa,b,c,d⟩;have h:=KA h;refine Af 2 Z ai Z (a:=(Bn Z (Bn b.one (Bn Z (Bn c.one (Bn Z (Bn Z (Bn d.one Ky)))))))) fun al q e=>Ac<|Ay ?_
 cases h
 refine Nr<|Dv (.cell Z Ajl Z B7.e (AH (i:=2) q Z)) ?_;have ab:=q.AQ (i:=1) Z;have ac:=ab.AQ (i:=1) Z;have hT:=hT.trans (l.trans (o.trans (p.trans (aa.trans (e.trans ((Ak (i:=1) Z).trans (Ak (i:=1) Z)))))));have b:=b.mono (Aa (e.trans ((Ak (i:=1) Z).trans (Ak (i:=1) Z))));have c:=c.mono (Aa (e.trans ((Ak (i:=1) Z).trans (Ak (i:=1) Z))));have d:=d.mono (Aa (e.trans ((Ak (i:=1) Z).trans (Ak (i:=1) Z))));exact KB ⟨x,y,z,Z,ac,hT,b,c,d⟩
def I8(a0:AcC×Int)(a1:AcC):Option (Option ((AcC×Int))):=
 Qq4 (BP (a0.1,a0.2) a1) (fun a=>if !a.1 then none else some (some ((a.2.1,a.2.2))))
theorem Pj{a w:World}{H:PH}(hH:Le H (hp a)){O:List BS}{a0:AcC×Int}{a1:AcC}{ba0:Nat}(hL:Bb a (Ha [.box ba0 [AcB a0.1,No a0.2] 86] O) w){r:Option ((AcC×Int))}(h:I8 a0 a1=some r):
  W8 prog 112 [Acy ba0,AcB a1] w (.iface 82 (.agg #[])) (fun v w'=>Y8 r v (fun r v=>v=.tuple #[]/\Bb a (Ha [.box ba0 [AcB r.1,No r.2] 86] O) w'/\Le (fz w (Ha [.box ba0 [AcB a0.1,No a0.2] 86] O)) (fz w' (Ha [.box ba0 [AcB r.1,No r.2] 86] O))) (Bb a O w'/\Le (fz w (Ha [.box ba0 [AcB a0.1,No a0.2] 86] O)) (fz w' O))):=by
 refine N4 10 [(0,(Acy ba0)),(1,(AcB a1))] func112 Z Z Z Z Z ?_;have hT:=Le.refl (fz w (Ha [.box ba0 [AcB a0.1,No a0.2] 86] O));refine Bt 2 Z<|Aw h fun f c h=>EJ (Ca hH (Ha [] O) (a0.1,a0.2) a1 hL c) ?_;rintro _ g ⟨rfl,d,b⟩;refine A7 1 Z<|B3 h ?_ ?_<;>intro e h
 ·cases h
 refine Av ?_
 cases h
 refine AfE<|L3 ?_;have hT:=hT.trans b;exact KB ⟨Z,d,hT⟩
def FF(a0:AcC×Int)(a:Int):Option (AcC×(AcC×Int)):=
 AN (0<=a/\a<=(a0.1.length:Int)) (AN (0<=a/\a<=(a0.1.length:Int)) (some ((a0.1.take a.toNat),((a0.1.drop a.toNat),a0.2))))
def IL(a0:AcC×Int)(a1:AcC):Option (AcC×(AcC×Int)):=
 Qq4 (SN a0.1 a1) (fun a=>if a<0 then(FF a0) (a0.1.length:Int) else(FF a0) a)
theorem PG{e w:World}{H:PH}(hH:Le H (hp e)){O:List BS}{a0:AcC×Int}{a1:AcC}{ba0:Nat}(hL:Bb e (Ha [.box ba0 [AcB a0.1,No a0.2] 86] O) w){r:AcC×(AcC×Int)}(h:IL a0 a1=some r):
  Ok prog 114 [Acy ba0,AcB a1] w (fun v w'=>v=(AcB r.1)/\Bb e (Ha [.box ba0 [AcB r.2.1,No r.2.2] 86] O) w'/\Le (fz w (Ha [.box ba0 [AcB a0.1,No a0.2] 86] O)) (fz w' (Ha [.box ba0 [AcB r.2.1,No r.2.2] 86] O))):=by
 refine Dp (n:=36) [(0,(Acy ba0)),(1,(AcB a1))] func114 Z Z Z Z ?_;have hT:=Le.refl (fz w (Ha [.box ba0 [AcB a0.1,No a0.2] 86] O));refine AI 1 Z<|Bt 1 Z<|Ai (MP Z)<|Ai (Ae Z AjF Z HC.e)<|Ai (Ag 0 Z hL Z)<|Aq 1 Z<|Aw h fun m l h=>AE hL (Ac8 _ _ (An hL) l) fun s o c b=>A7 1 Z<|By Int (fun a=>[(0,(Acy ba0)),(5,No a)]) (fun a wr=>FI e (Ha [.box ba0 [AcB a0.1,No a0.2] 86] O) wr fun Oz=>Le (fz w (Ha [.box ba0 [AcB a0.1,No a0.2] 86] O)) (fz wr Oz)/\(FF a0) a=some r) ?_ ?_
 ·refine AI 2 Z<|AO h ?_ ?_<;>intro g h
  ·refine As<|Aq 1 Z<|Ai (MP Z)<|Ai (Ae Z AjF Z HC.e)<|Ai (Ag 0 Z c Z)<|Ai (IP Z)<|Aq 1 Z<|AL ?_;have hT:=hT.trans b;refine AA _ ⟨c,hT,h⟩
  refine Av ?_;have hT:=hT.trans b;refine AA _ ⟨c,hT,h⟩
 have hT:=hT.trans b;rintro a p ⟨d,hT,h⟩;refine Bt 1 Z<|Ai (MP Z)<|Ai (Ae Z AjF Z HC.e)<|Ai (Ag 0 Z d Z)<|Aq 1 Z<|A1 h fun i h=>Ai (Adz i)<|A7 1 Z<|Bt 2 Z<|Ai (MP Z)<|Ai (Ae Z AjF Z HC.e)<|Ai (Ag 0 Z d Z)<|Aq 1 Z<|A1 h fun j h=>Ai (ZS j)<|Ai (MP Z)<|Ai (Ae Z AjF Z HC.e)<|B8 0 Z Z d Z Z fun q k f=>Ac<|AI 2 Z<|Ay ?_
 cases h
 refine Al Z ?_;have hT:=hT.trans f;exact⟨Z,k,hT⟩
def FG(self:(AcC×Int)->Option (Option (Qv×(AcC×Int))))(a0:AcC×Int):Option (Option (Qv×(AcC×Int))):=
 Qq4 (BP (a0.1,a0.2) ([33]:AcC)) (fun b=>if b.1 then Qq4 (self (b.2.1,b.2.2)) (fun j=>ZE j (some none) (fun y12=>some (some ((Qv.mk (10:Int) ([]) ([]:AcC) ([]) (0:Int) (0:Int) ([y12.1])),(y12.2.1,y12.2.2))))) else Qq4 (BP (b.2.1,b.2.2) ([40]:AcC)) (fun a=>if a.1 then Qq4 (Hg self (a.2.1,a.2.2)) (fun h=>ZE h (some none) (fun y26=>Qq4 (I8 (y26.2.1,y26.2.2) ([41]:AcC)) (fun i=>ZE i (some none) (fun y37=>some (some (y26.1,(y37.1,y37.2))))))) else Qq4 (BP (a.2.1,a.2.2) ([34]:AcC)) (fun c=>if c.1 then none else Qq4 (BP (c.2.1,c.2.2) ([39]:AcC)) (fun d=>if d.1 then none else Qq4 (BP (d.2.1,d.2.2) ([47]:AcC)) (fun e=>if e.1 then none else Qq4 (IL (e.2.1,e.2.2) ([126,38,124,41]:AcC)) (fun f=>Qq4 (BP (f.2.1,f.2.2) ([126]:AcC)) (fun g=>if !g.1 then some (some ((Qv.mk (1:Int) ([f.1]) ([]:AcC) ([]) (0:Int) (0:Int) ([])),(g.2.1,g.2.2))) else none)))))))
theorem Oe{self:(AcC×Int)->Option (Option (Qv×(AcC×Int)))}(hself:∀ {b w:World} {H:PH} (hH:Le H (hp b)) (hU:Ge H) {O:List BS} {a0:AcC×Int} {ba0:Nat} (hL:Bb b (Ha [.box ba0 [AcB a0.1,No a0.2] 86] O) w) {r:Option (Qv×(AcC×Int))} (h:self a0=some r),W8 prog 70 [Acy ba0] w (.iface 82 (.agg #[])) (fun v w'=>Y8 r v (fun r v=>∃ (u1:Value) (u3:Value) (u6:Value),v=.agg #[No r.1.f.1,u1,AcB r.1.f.2.2.1,u3,No r.1.f.2.2.2.2.1,No r.1.f.2.2.2.2.2.1,u6]/\Bb b (Ha [.box ba0 [AcB r.2.1,No r.2.2] 86] O) w'/\Le (fz w (Ha [.box ba0 [AcB a0.1,No a0.2] 86] O)) (fz w' (Ha [.box ba0 [AcB r.2.1,No r.2.2] 86] O))/\AJ .st (gz H b w' (Ha [.box ba0 [AcB r.2.1,No r.2.2] 86] O)) u1 (r.1.f.2.1)/\AJ .byte (gz H b w' (Ha [.box ba0 [AcB r.2.1,No r.2.2] 86] O)) u3 (r.1.f.2.2.2.1)/\AJ .B1 (gz H b w' (Ha [.box ba0 [AcB r.2.1,No r.2.2] 86] O)) u6 (r.1.f.2.2.2.2.2.2)) (Bb b O w'/\Le (fz w (Ha [.box ba0 [AcB a0.1,No a0.2] 86] O)) (fz w' O)))){b w:World}{H:PH}(hH:Le H (hp b))(hU:Ge H){O:List BS}{a0:AcC×Int}{ba0:Nat}(hL:Bb b (Ha [.box ba0 [AcB a0.1,No a0.2] 86] O) w){r:Option (Qv×(AcC×Int))}(h:FG self a0=some r):
  W8 prog 70 [Acy ba0] w (.iface 82 (.agg #[])) (fun v w'=>Y8 r v (fun r v=>∃ (u1:Value) (u3:Value) (u6:Value),v=.agg #[No r.1.f.1,u1,AcB r.1.f.2.2.1,u3,No r.1.f.2.2.2.2.1,No r.1.f.2.2.2.2.2.1,u6]/\Bb b (Ha [.box ba0 [AcB r.2.1,No r.2.2] 86] O) w'/\Le (fz w (Ha [.box ba0 [AcB a0.1,No a0.2] 86] O)) (fz w' (Ha [.box ba0 [AcB r.2.1,No r.2.2] 86] O))/\AJ .st (gz H b w' (Ha [.box ba0 [AcB r.2.1,No r.2.2] 86] O)) u1 (r.1.f.2.1)/\AJ .byte (gz H b w' (Ha [.box ba0 [AcB r.2.1,No r.2.2] 86] O)) u3 (r.1.f.2.2.2.1)/\AJ .B1 (gz H b w' (Ha [.box ba0 [AcB r.2.1,No r.2.2] 86] O)) u6 (r.1.f.2.2.2.2.2.2)) (Bb b O w'/\Le (fz w (Ha [.box ba0 [AcB a0.1,No a0.2] 86] O)) (fz w' O))):=by
 refine N4 62 [(0,(Acy ba0))] func70 Z Z Z Z Z ?_;have hT:=Le.refl (fz w (Ha [.box ba0 [AcB a0.1,No a0.2] 86] O));refine Aj<|A9 B7.e Z hL fun w1 p a8 k _=>Ac<|AB<|A3<|Bt 1 Z ?_;have a9:Bb b (Ha [.box ba0 [AcB a0.1,No a0.2] 86,.box p AcD 26] O) w1:=a8.Cy [1] Z;have m:=B0 [1] a8 a9 Z;refine Aw h fun x3 cf h=>EJ (Ca hH (Ha [.box p AcD 26] O) (a0.1,a0.2) ([33]:AcC) a9 cf) ?_;rintro _ w4 ⟨rfl,ba,o⟩;refine A7 1 Z<|B3 h ?_ ?_<;>intro cg h
 ·refine Bt 1 Z<|Aw h fun x7 ch h=>OJ (hself (a0:=(x3.2.1,x3.2.2)) (O:=(Ha [.box p AcD 26] O)) hH hU ba ch) ?_ ?_
  ·rintro rfl w9 ⟨ci,bf⟩;have h:=K9 h;refine Fi<|H9<|Fi ?_
   cases h
   refine Ns ?_;have bg:=ci.AQ (i:=0) Z;have hT:=hT.trans (k.trans (m.trans (o.trans (bf.trans (Ak (i:=0) Z)))));exact L5 ⟨bg,hT⟩
  rintro y12 rfl _ w8 ⟨co,cp,cq,rfl,cj,bh,au,av,aw⟩;have h:=KA h;refine B6 [y12.1] (r:=.B1) (fun _=>Og _ _ _ _ _ _ _ _) cj (.c7 (Go.E.Rp.Iq ⟨_,_,Z,Z,⟨_,_,Z,⟨_,Z,au⟩,⟨_,_,Z,Z,⟨_,_,Z,⟨_,Z,av⟩,⟨_,_,Z,Z,⟨_,_,Z,Z,⟨_,Z,aw⟩⟩⟩⟩⟩⟩⟩) .nil) fun ck ct cr bi ax s=>Ai (AT (fun _=>OP _ _ s.one _))<|Af 1 Z bi Z (a:=(Bn Z (Bn Z (Bn Z (Bn Z (Bn Z (Bn Z (Bn s.one Ky)))))))) fun cu ak ab=>Ac<|Ay<|Ax<|Ao ?_
  cases h
  refine Nr<|Dv (.cell Z Ajl Z B7.e (AH (i:=1) ak Z)) ?_;have bj:=ak.AQ (i:=1) Z;have hT:=hT.trans (k.trans (m.trans (o.trans (bh.trans (ax.trans (ab.trans (Ak (i:=1) Z)))))));have s:=s.mono (Aa (ab.trans (Ak (i:=1) Z)));exact KB ⟨AaB,AaB,ck,Z,bj,hT,(AJ.nil _ _),(AJ.nil _ _),s⟩
 refine Bt 1 Z<|Aw h fun ac bk h=>EJ (Ca hH (Ha [.box p AcD 26] O) (x3.2.1,x3.2.2) ([40]:AcC) ba bk) ?_;rintro _ cv ⟨rfl,al,q⟩;refine A7 1 Z<|B3 h ?_ ?_<;>intro bl h
 ·refine Bt 1 Z<|Aw h fun cw bm h=>OJ (Me (hself:=hself) (a0:=(ac.2.1,ac.2.2)) (O:=(Ha [.box p AcD 26] O)) hH hU al bm) ?_ ?_
  ·rintro rfl cx ⟨bn,ay⟩;have h:=K9 h;refine Fi<|H9<|Fi ?_
   cases h
   refine Ns ?_;have bo:=bn.AQ (i:=0) Z;have hT:=hT.trans (k.trans (m.trans (o.trans (q.trans (ay.trans (Ak (i:=0) Z))))));exact L5 ⟨bo,hT⟩
  rintro y26 rfl _ cy ⟨u,x,y,rfl,bp,ad,c,d,e⟩;have h:=KA h;refine A9 B7.e Z bp fun cz bb bq g _=>Af 0 Z bq Z (a:=(Bn Z (Bn c.one (Bn Z (Bn d.one (Bn Z (Bn Z (Bn e.one Ky)))))))) fun cl aa j=>Ac ?_;have a:=aa.rG H;refine Bt 1 Z ?_;have am:Bb b (Ha [.box ba0 [AcB y26.2.1,No y26.2.2] 86,.box bb [No y26.1.f.1,u,AcB y26.1.f.2.2.1,x,No y26.1.f.2.2.2.2.1,No y26.1.f.2.2.2.2.2.1,y] 26,.box p AcD 26] O) cl:=aa.Cy [1] Z;have z:=B0 [1] aa am Z;refine Aw h fun c0 br h=>OJ (Pj (a0:=(y26.2.1,y26.2.2)) (a1:=([41]:AcC)) (O:=(Ha [.box bb [No y26.1.f.1,u,AcB y26.1.f.2.2.1,x,No y26.1.f.2.2.2.2.1,No y26.1.f.2.2.2.2.2.1,y] 26,.box p AcD 26] O)) hH am br) ?_ ?_
  ·rintro rfl c2 ⟨bs,az⟩;have h:=K9 h;refine Fi<|H9<|Fi ?_
   cases h
   refine Ns ?_;have bt:=bs.AQ (i:=0) Z;have bu:=bt.AQ (i:=0) Z;have hT:=hT.trans (k.trans (m.trans (o.trans (q.trans (ad.trans (g.trans (j.trans (z.trans (az.trans ((Ak (i:=0) Z).trans (Ak (i:=0) Z)))))))))));exact L5 ⟨bu,hT⟩
  rintro y37 rfl _ c3 ⟨rfl,an,ae⟩;have h:=KA h;refine Ac<|Aj<|Ai (A4 1 Z B7.e an Z) ?_;have c:=c.mono (Aa (g.trans j));have d:=d.mono (Aa (g.trans j));have e:=e.mono (Aa (g.trans j));have a:=a.trans (Aa (z.trans ae));refine Af 2 Z an Z (a:=(Bn Z (Bn (c.mono a).one (Bn Z (Bn (d.mono a).one (Bn Z (Bn Z (Bn (e.mono a).one Ky)))))))) fun c4 ao af=>Ac<|Ay<|Ax<|Ao ?_
  cases h
  refine Nr<|Dv (.cell Z Ajl Z B7.e (AH (i:=2) ao Z)) ?_;have bv:=ao.AQ (i:=1) Z;have bw:=bv.AQ (i:=1) Z;have hT:=hT.trans (k.trans (m.trans (o.trans (q.trans (ad.trans (g.trans (j.trans (z.trans (ae.trans (af.trans ((Ak (i:=1) Z).trans (Ak (i:=1) Z))))))))))));have a:=a.trans (Aa (af.trans ((Ak (i:=1) Z).trans (Ak (i:=1) Z))));exact KB ⟨u,x,y,Z,bw,hT,(c.mono a),(d.mono a),(e.mono a)⟩
 refine Bt 1 Z<|Aw h fun bc bx h=>EJ (Ca hH (Ha [.box p AcD 26] O) (ac.2.1,ac.2.2) ([34]:AcC) al bx) ?_;rintro _ c5 ⟨rfl,bz,a2⟩;refine A7 1 Z<|B3 h ?_ ?_<;>intro b0 h
 ·cases h
 refine Bt 1 Z<|Aw h fun bd b2 h=>EJ (Ca hH (Ha [.box p AcD 26] O) (bc.2.1,bc.2.2) ([39]:AcC) bz b2) ?_;rintro _ c6 ⟨rfl,b3,a3⟩;refine A7 1 Z<|B3 h ?_ ?_<;>intro b4 h
 ·cases h
 refine Bt 1 Z<|Aw h fun be b5 h=>EJ (Ca hH (Ha [.box p AcD 26] O) (bd.2.1,bd.2.2) ([47]:AcC) b3 b5) ?_;rintro _ c8 ⟨rfl,b6,a4⟩;refine A7 1 Z<|B3 h ?_ ?_<;>intro b7 h
 ·cases h
 refine Av<|A2<|Ar<|Bt 1 Z<|Aw h fun ap b8 h=>EJ (PG (a0:=(be.2.1,be.2.2)) (a1:=([126,38,124,41]:AcC)) (O:=(Ha [.box p AcD 26] O)) hH b6 b8) ?_;rintro _ c9 ⟨rfl,b9,a5⟩;refine A7 1 Z<|AB<|Bt 1 Z<|Aw h fun da ca h=>EJ (Ca hH (Ha [.box p AcD 26] O) (ap.2.1,ap.2.2) ([126]:AcC) b9 ca) ?_;rintro _ db ⟨rfl,cb,a6⟩;refine A7 1 Z<|B3 h ?_ ?_<;>intro cc h
 ·refine Bt 1 Z<|B6 [ap.1] (r:=.st) (fun _=>Sj _ Z _) cb (.c1 Z .nil) fun cm dc cs cd a7 t=>Ai (AT (fun _=>WJ _ _ t.one _))<|Af 1 Z cd Z (a:=(Bn Z (Bn t.one (AU Z)))) fun dd aq ag=>Ac<|Ay<|Ao ?_
  cases h
  refine Nr<|Dv (.cell Z Ajl Z B7.e (AH (i:=1) aq Z)) ?_;have ce:=aq.AQ (i:=1) Z;have hT:=hT.trans (k.trans (m.trans (o.trans (q.trans (a2.trans (a3.trans (a4.trans (a5.trans (a6.trans (a7.trans (ag.trans (Ak (i:=1) Z))))))))))));have t:=t.mono (Aa (ag.trans (Ak (i:=1) Z)));exact KB ⟨cm,AaB,AaB,Z,ce,hT,t,(AJ.nil _ _),(AJ.nil _ _)⟩
 refine Av<|Ar ?_
 cases h
def FM:Nat->(AcC×Int)->Option (Option (Qv×(AcC×Int)))
 | 0=>fun _=>none
 | n+1=>FG (FM n)
def JE:(AcC×Int)->Option (Option (Qv×(AcC×Int))):=FM 1000
theorem PI(n:Nat):∀ {a w:World} {H:PH} (hH:Le H (hp a)) (hU:Ge H) {O:List BS} {a0:AcC×Int} {ba0:Nat} (hL:Bb a (Ha [.box ba0 [AcB a0.1,No a0.2] 86] O) w) {r:Option (Qv×(AcC×Int))} (h:FM n a0=some r),W8 prog 70 [Acy ba0] w (.iface 82 (.agg #[])) (fun v w'=>Y8 r v (fun r v=>∃ (b:Value) (c:Value) (d:Value),v=.agg #[No r.1.f.1,b,AcB r.1.f.2.2.1,c,No r.1.f.2.2.2.2.1,No r.1.f.2.2.2.2.2.1,d]/\Bb a (Ha [.box ba0 [AcB r.2.1,No r.2.2] 86] O) w'/\Le (fz w (Ha [.box ba0 [AcB a0.1,No a0.2] 86] O)) (fz w' (Ha [.box ba0 [AcB r.2.1,No r.2.2] 86] O))/\AJ .st (gz H a w' (Ha [.box ba0 [AcB r.2.1,No r.2.2] 86] O)) b (r.1.f.2.1)/\AJ .byte (gz H a w' (Ha [.box ba0 [AcB r.2.1,No r.2.2] 86] O)) c (r.1.f.2.2.2.1)/\AJ .B1 (gz H a w' (Ha [.box ba0 [AcB r.2.1,No r.2.2] 86] O)) d (r.1.f.2.2.2.2.2.2)) (Bb a O w'/\Le (fz w (Ha [.box ba0 [AcB a0.1,No a0.2] 86] O)) (fz w' O))):=by
 induction n with
 | zero=>intros;rename_i h;cases h
 | succ n ih=>exact @Oe (FM n) ih
theorem QL:∀ {a w:World} {H:PH} (hH:Le H (hp a)) (hU:Ge H) {O:List BS} {a0:AcC×Int} {ba0:Nat} (hL:Bb a (Ha [.box ba0 [AcB a0.1,No a0.2] 86] O) w) {r:Option (Qv×(AcC×Int))} (h:JE a0=some r),W8 prog 70 [Acy ba0] w (.iface 82 (.agg #[])) (fun v w'=>Y8 r v (fun r v=>∃ (b:Value) (c:Value) (d:Value),v=.agg #[No r.1.f.1,b,AcB r.1.f.2.2.1,c,No r.1.f.2.2.2.2.1,No r.1.f.2.2.2.2.2.1,d]/\Bb a (Ha [.box ba0 [AcB r.2.1,No r.2.2] 86] O) w'/\Le (fz w (Ha [.box ba0 [AcB a0.1,No a0.2] 86] O)) (fz w' (Ha [.box ba0 [AcB r.2.1,No r.2.2] 86] O))/\AJ .st (gz H a w' (Ha [.box ba0 [AcB r.2.1,No r.2.2] 86] O)) b (r.1.f.2.1)/\AJ .byte (gz H a w' (Ha [.box ba0 [AcB r.2.1,No r.2.2] 86] O)) c (r.1.f.2.2.2.1)/\AJ .B1 (gz H a w' (Ha [.box ba0 [AcB r.2.1,No r.2.2] 86] O)) d (r.1.f.2.2.2.2.2.2)) (Bb a O w'/\Le (fz w (Ha [.box ba0 [AcB a0.1,No a0.2] 86] O)) (fz w' O))):=PI 1000
def Jv(_a0:Qv)(_a1:Int×Int):Option (Qv×(Int×Int)):=
 Qq4 (Cx (1:Int) (-1:Int)) (fun a=>some ((Qv.mk (0:Int) ([]) ([]:AcC) ([]) (0:Int) (0:Int) ([])),(a.1,a.2)))
theorem Qc{a w:World}{H:PH}(hH:Le H (hp a)){O:List BS}{a0:Qv}{a1:Int×Int}{ba0:Nat}{va0_1:Value}{xsa0_1:List Value}{va0_3:Value}{xsa0_3:List Value}{va0_6:Value}{xsa0_6:List Value}{ba1:Nat}(hL:Bb a (Ha [.box ba0 [No a0.f.1,va0_1,AcB a0.f.2.2.1,va0_3,No a0.f.2.2.2.2.1,No a0.f.2.2.2.2.2.1,va0_6] 26,.row va0_1 9 1 (a0.f.2.1).length xsa0_1,.row va0_3 5 1 (a0.f.2.2.2.1).length xsa0_3,.row va0_6 26 7 (a0.f.2.2.2.2.2.2).length xsa0_6,.box ba1 [No a1.1,No a1.2] 28] O) w)(_hea0_1:AG .st (gz H a w (Ha [.box ba0 [No a0.f.1,va0_1,AcB a0.f.2.2.1,va0_3,No a0.f.2.2.2.2.1,No a0.f.2.2.2.2.2.1,va0_6] 26,.row va0_1 9 1 (a0.f.2.1).length xsa0_1,.row va0_3 5 1 (a0.f.2.2.2.1).length xsa0_3,.row va0_6 26 7 (a0.f.2.2.2.2.2.2).length xsa0_6,.box ba1 [No a1.1,No a1.2] 28] O)) (a0.f.2.1) xsa0_1)(_hea0_3:AG .byte (gz H a w (Ha [.box ba0 [No a0.f.1,va0_1,AcB a0.f.2.2.1,va0_3,No a0.f.2.2.2.2.1,No a0.f.2.2.2.2.2.1,va0_6] 26,.row va0_1 9 1 (a0.f.2.1).length xsa0_1,.row va0_3 5 1 (a0.f.2.2.2.1).length xsa0_3,.row va0_6 26 7 (a0.f.2.2.2.2.2.2).length xsa0_6,.box ba1 [No a1.1,No a1.2] 28] O)) (a0.f.2.2.2.1) xsa0_3)(_hea0_6:AG .B1 (gz H a w (Ha [.box ba0 [No a0.f.1,va0_1,AcB a0.f.2.2.1,va0_3,No a0.f.2.2.2.2.1,No a0.f.2.2.2.2.2.1,va0_6] 26,.row va0_1 9 1 (a0.f.2.1).length xsa0_1,.row va0_3 5 1 (a0.f.2.2.2.1).length xsa0_3,.row va0_6 26 7 (a0.f.2.2.2.2.2.2).length xsa0_6,.box ba1 [No a1.1,No a1.2] 28] O)) (a0.f.2.2.2.2.2.2) xsa0_6){r:Qv×(Int×Int)}(h:Jv a0 a1=some r):
  OkF prog 38 [Acy ba0,Acy ba1] (.panicking (pch (.iface 82 (.agg #[])))) (.panicking (AbM (.iface 82 (.agg #[])))) w (fun w'=>∃ (b:Value) (c:Value) (d:Value),Bb a (Ha [.box ba0 [No r.1.f.1,b,AcB r.1.f.2.2.1,c,No r.1.f.2.2.2.2.1,No r.1.f.2.2.2.2.2.1,d] 26,.box ba1 [No r.2.1,No r.2.2] 28] O) w'/\Le (fz w (Ha [.box ba0 [No a0.f.1,va0_1,AcB a0.f.2.2.1,va0_3,No a0.f.2.2.2.2.1,No a0.f.2.2.2.2.2.1,va0_6] 26,.row va0_1 9 1 (a0.f.2.1).length xsa0_1,.row va0_3 5 1 (a0.f.2.2.2.1).length xsa0_3,.row va0_6 26 7 (a0.f.2.2.2.2.2.2).length xsa0_6,.box ba1 [No a1.1,No a1.2] 28] O)) (fz w' (Ha [.box ba0 [No r.1.f.1,b,AcB r.1.f.2.2.1,c,No r.1.f.2.2.2.2.1,No r.1.f.2.2.2.2.2.1,d] 26,.box ba1 [No r.2.1,No r.2.2] 28] O))/\AJ .st (gz H a w' (Ha [.box ba0 [No r.1.f.1,b,AcB r.1.f.2.2.1,c,No r.1.f.2.2.2.2.1,No r.1.f.2.2.2.2.2.1,d] 26,.box ba1 [No r.2.1,No r.2.2] 28] O)) b (r.1.f.2.1)/\AJ .byte (gz H a w' (Ha [.box ba0 [No r.1.f.1,b,AcB r.1.f.2.2.1,c,No r.1.f.2.2.2.2.1,No r.1.f.2.2.2.2.2.1,d] 26,.box ba1 [No r.2.1,No r.2.2] 28] O)) c (r.1.f.2.2.2.1)/\AJ .B1 (gz H a w' (Ha [.box ba0 [No r.1.f.1,b,AcB r.1.f.2.2.1,c,No r.1.f.2.2.2.2.1,No r.1.f.2.2.2.2.2.1,d] 26,.box ba1 [No r.2.1,No r.2.2] 28] O)) d (r.1.f.2.2.2.2.2.2)):=by
 refine Ta (pv:=.iface 82 (.agg #[])) (k:=16) [(0,(Acy ba0)),(1,(Acy ba1))] func38 Z Z Z Z Z Z Z .yes (Am Z) ?_;have hT:=Le.refl (fz w (Ha [.box ba0 [No a0.f.1,va0_1,AcB a0.f.2.2.1,va0_3,No a0.f.2.2.2.2.1,No a0.f.2.2.2.2.2.1,va0_6] 26,.row va0_1 9 1 (a0.f.2.1).length xsa0_1,.row va0_3 5 1 (a0.f.2.2.2.1).length xsa0_3,.row va0_6 26 7 (a0.f.2.2.2.2.2.2).length xsa0_6,.box ba1 [No a1.1,No a1.2] 28] O));refine Bt 1 Z<|Ai Ahg<|Ac<|Ff<|Bt 1 Z<|Ai (Ad5 Z)<|Aq 3 Z<|A9 AfN.e Z hL fun w2 b2 q g _=>Af 0 Z q Z (a:=Ky) fun w3 e j=>A7 1 Z<|AI 1 Z<|Ff<|As<|Ai (AT (fun _=>X6 _))<|Aw h fun x4 s h=>AE e (CY _ _ (An e) s) fun w5 z t l=>Af 1 Z t Z fun w6 u m=>Af 5 Z u Z fun w7 v n=>AL ?_
 cases h
 refine L3 ?_;have x:=v.AQ (i:=0) Z;have y:=x.AQ (i:=1) Z;have o:=y.AQ (i:=1) Z;have p:=o.AQ (i:=1) Z;have hT:=hT.trans (g.trans (j.trans (l.trans (m.trans (n.trans ((Ak (i:=0) Z).trans ((Ak (i:=1) Z).trans ((Ak (i:=1) Z).trans (Ak (i:=1) Z)))))))));exact⟨AaB,AaB,AaB,p,hT,(AJ.nil _ _),(AJ.nil _ _),(AJ.nil _ _)⟩
def Ig(_a0:Qv)(_a1:Int×Int):Option (Qv×(Int×Int)):=
 Qq4 (Cx (1:Int) (-1:Int)) (fun a=>some ((Qv.mk (0:Int) ([]) ([]:AcC) ([]) (0:Int) (0:Int) ([])),(a.1,a.2)))
theorem OB{a w:World}{H:PH}(hH:Le H (hp a)){O:List BS}{a0:Qv}{a1:Int×Int}{ba0:Nat}{va0_1 va0_3 va0_6:Value}{ba1:Nat}(hL:Bb a (Ha [.box ba0 [No a0.f.1,va0_1,AcB a0.f.2.2.1,va0_3,No a0.f.2.2.2.2.1,No a0.f.2.2.2.2.2.1,va0_6] 26,.box ba1 [No a1.1,No a1.2] 28] O) w)(_ha0_1:AJ .st (gz H a w (Ha [.box ba0 [No a0.f.1,va0_1,AcB a0.f.2.2.1,va0_3,No a0.f.2.2.2.2.1,No a0.f.2.2.2.2.2.1,va0_6] 26,.box ba1 [No a1.1,No a1.2] 28] O)) va0_1 (a0.f.2.1))(_ha0_3:AJ .byte (gz H a w (Ha [.box ba0 [No a0.f.1,va0_1,AcB a0.f.2.2.1,va0_3,No a0.f.2.2.2.2.1,No a0.f.2.2.2.2.2.1,va0_6] 26,.box ba1 [No a1.1,No a1.2] 28] O)) va0_3 (a0.f.2.2.2.1))(_ha0_6:AJ .B1 (gz H a w (Ha [.box ba0 [No a0.f.1,va0_1,AcB a0.f.2.2.1,va0_3,No a0.f.2.2.2.2.1,No a0.f.2.2.2.2.2.1,va0_6] 26,.box ba1 [No a1.1,No a1.2] 28] O)) va0_6 (a0.f.2.2.2.2.2.2)){r:Qv×(Int×Int)}(h:Ig a0 a1=some r):
  OkF prog 38 [Acy ba0,Acy ba1] (.panicking (pch (.iface 82 (.agg #[])))) (.panicking (AbM (.iface 82 (.agg #[])))) w (fun w'=>∃ (b:Value) (c:Value) (d:Value),Bb a (Ha [.box ba0 [No r.1.f.1,b,AcB r.1.f.2.2.1,c,No r.1.f.2.2.2.2.1,No r.1.f.2.2.2.2.2.1,d] 26,.box ba1 [No r.2.1,No r.2.2] 28] O) w'/\Le (fz w (Ha [.box ba0 [No a0.f.1,va0_1,AcB a0.f.2.2.1,va0_3,No a0.f.2.2.2.2.1,No a0.f.2.2.2.2.2.1,va0_6] 26,.box ba1 [No a1.1,No a1.2] 28] O)) (fz w' (Ha [.box ba0 [No r.1.f.1,b,AcB r.1.f.2.2.1,c,No r.1.f.2.2.2.2.1,No r.1.f.2.2.2.2.2.1,d] 26,.box ba1 [No r.2.1,No r.2.2] 28] O))/\AJ .st (gz H a w' (Ha [.box ba0 [No r.1.f.1,b,AcB r.1.f.2.2.1,c,No r.1.f.2.2.2.2.1,No r.1.f.2.2.2.2.2.1,d] 26,.box ba1 [No r.2.1,No r.2.2] 28] O)) b (r.1.f.2.1)/\AJ .byte (gz H a w' (Ha [.box ba0 [No r.1.f.1,b,AcB r.1.f.2.2.1,c,No r.1.f.2.2.2.2.1,No r.1.f.2.2.2.2.2.1,d] 26,.box ba1 [No r.2.1,No r.2.2] 28] O)) c (r.1.f.2.2.2.1)/\AJ .B1 (gz H a w' (Ha [.box ba0 [No r.1.f.1,b,AcB r.1.f.2.2.1,c,No r.1.f.2.2.2.2.1,No r.1.f.2.2.2.2.2.1,d] 26,.box ba1 [No r.2.1,No r.2.2] 28] O)) d (r.1.f.2.2.2.2.2.2)):=by
 refine Ta (pv:=.iface 82 (.agg #[])) (k:=16) [(0,(Acy ba0)),(1,(Acy ba1))] func38 Z Z Z Z Z Z Z .yes (Am Z) ?_;have hT:=Le.refl (fz w (Ha [.box ba0 [No a0.f.1,va0_1,AcB a0.f.2.2.1,va0_3,No a0.f.2.2.2.2.1,No a0.f.2.2.2.2.2.1,va0_6] 26,.box ba1 [No a1.1,No a1.2] 28] O));refine Bt 1 Z<|Ai Ahg<|Ac<|Ff<|Bt 1 Z<|Ai (Ad5 Z)<|Aq 3 Z<|A9 AfN.e Z hL fun x y o g _=>Af 0 Z o Z (a:=Ky) fun z e j=>A7 1 Z<|AI 1 Z<|Ff<|As<|Ai (AT (fun _=>X6 _))<|Aw h fun x4 p h=>AE e (CY _ _ (An e) p) fun w5 v q l=>Af 1 Z q Z fun w6 s m=>Af 2 Z s Z fun w7 t n=>AL ?_
 cases h
 refine L3 ?_;have u:=t.AQ (i:=0) Z;have hT:=hT.trans (g.trans (j.trans (l.trans (m.trans (n.trans (Ak (i:=0) Z))))));exact⟨AaB,AaB,AaB,u,hT,(AJ.nil _ _),(AJ.nil _ _),(AJ.nil _ _)⟩
def JF(a0:Qv)(a1:Int×Int):Option (Qv×(Int×Int)):=
 some (a0,(a1.1,a1.2))
theorem QM{a w:World}{H:PH}(_hH:Le H (hp a)){O:List BS}{a0:Qv}{a1:Int×Int}{ba0:Nat}{va0_1 va0_3 va0_6:Value}{ba1:Nat}(hL:Bb a (Ha [.box ba0 [No a0.f.1,va0_1,AcB a0.f.2.2.1,va0_3,No a0.f.2.2.2.2.1,No a0.f.2.2.2.2.2.1,va0_6] 26,.box ba1 [No a1.1,No a1.2] 28] O) w)(g:AJ .st (gz H a w (Ha [.box ba0 [No a0.f.1,va0_1,AcB a0.f.2.2.1,va0_3,No a0.f.2.2.2.2.1,No a0.f.2.2.2.2.2.1,va0_6] 26,.box ba1 [No a1.1,No a1.2] 28] O)) va0_1 (a0.f.2.1))(i:AJ .byte (gz H a w (Ha [.box ba0 [No a0.f.1,va0_1,AcB a0.f.2.2.1,va0_3,No a0.f.2.2.2.2.1,No a0.f.2.2.2.2.2.1,va0_6] 26,.box ba1 [No a1.1,No a1.2] 28] O)) va0_3 (a0.f.2.2.2.1))(j:AJ .B1 (gz H a w (Ha [.box ba0 [No a0.f.1,va0_1,AcB a0.f.2.2.1,va0_3,No a0.f.2.2.2.2.1,No a0.f.2.2.2.2.2.1,va0_6] 26,.box ba1 [No a1.1,No a1.2] 28] O)) va0_6 (a0.f.2.2.2.2.2.2)){r:Qv×(Int×Int)}(h:JF a0 a1=some r):
  OkF prog 38 [Acy ba0,Acy ba1] .returning .returning w (fun w'=>∃ (b:Value) (c:Value) (d:Value),Bb a (Ha [.box ba0 [No r.1.f.1,b,AcB r.1.f.2.2.1,c,No r.1.f.2.2.2.2.1,No r.1.f.2.2.2.2.2.1,d] 26,.box ba1 [No r.2.1,No r.2.2] 28] O) w'/\Le (fz w (Ha [.box ba0 [No a0.f.1,va0_1,AcB a0.f.2.2.1,va0_3,No a0.f.2.2.2.2.1,No a0.f.2.2.2.2.2.1,va0_6] 26,.box ba1 [No a1.1,No a1.2] 28] O)) (fz w' (Ha [.box ba0 [No r.1.f.1,b,AcB r.1.f.2.2.1,c,No r.1.f.2.2.2.2.1,No r.1.f.2.2.2.2.2.1,d] 26,.box ba1 [No r.2.1,No r.2.2] 28] O))/\AJ .st (gz H a w' (Ha [.box ba0 [No r.1.f.1,b,AcB r.1.f.2.2.1,c,No r.1.f.2.2.2.2.1,No r.1.f.2.2.2.2.2.1,d] 26,.box ba1 [No r.2.1,No r.2.2] 28] O)) b (r.1.f.2.1)/\AJ .byte (gz H a w' (Ha [.box ba0 [No r.1.f.1,b,AcB r.1.f.2.2.1,c,No r.1.f.2.2.2.2.1,No r.1.f.2.2.2.2.2.1,d] 26,.box ba1 [No r.2.1,No r.2.2] 28] O)) c (r.1.f.2.2.2.1)/\AJ .B1 (gz H a w' (Ha [.box ba0 [No r.1.f.1,b,AcB r.1.f.2.2.1,c,No r.1.f.2.2.2.2.1,No r.1.f.2.2.2.2.2.1,d] 26,.box ba1 [No r.2.1,No r.2.2] 28] O)) d (r.1.f.2.2.2.2.2.2)):=by
 refine Ta (pv:=.iface 82 (.agg #[])) (k:=16) [(0,(Acy ba0)),(1,(Acy ba1))] func38 Z Z Z Z Z Z Z .no (Am Z) ?_;have hT:=Le.refl (fz w (Ha [.box ba0 [No a0.f.1,va0_1,AcB a0.f.2.2.1,va0_3,No a0.f.2.2.2.2.1,No a0.f.2.2.2.2.2.1,va0_6] 26,.box ba1 [No a1.1,No a1.2] 28] O));have e:=hL.rG H;refine Bt 1 Z<|Ai Ai5<|Ac<|Gt<|Av ?_
 cases h
 refine L3 ⟨va0_1,va0_3,va0_6,hL,hT,(g.mono e),(i.mono e),(j.mono e)⟩
def KX(y22:Qv×(AcC×Int)):Option (Qv×(Int×Int)):=
 Qq4 (JF y22.1 (0,0)) (fun a=>some (a.1,(a.2.1,a.2.2)))
def Mf(a0:AcC):Option (Qv×(Int×Int)):=
 if 200<(a0.length:Int) then Qq4 (Cx (3:Int) (-1:Int)) (fun d=>some ((Qv.mk (0:Int) ([]) ([]:AcC) ([]) (0:Int) (0:Int) ([])),(d.1,d.2))) else Qq4 (Hg JE (a0,0)) (fun e=>ZE e (Qq4 (Jv (Qv.mk (0:Int) ([]:List AcC) ([]:AcC) ([]:AcC) (0:Int) (0:Int) ([]:List Qv)) (0,0)) (fun a=>some (a.1,(a.2.1,a.2.2)))) (fun y22=>Qq4 (Ho y22.1) (fun b=>if(((!decide (b.2.1=0/\b.2.2=0))||(!decide (y22.2.1=([]:AcC))))||(!decide (b.1=a0))) then Qq4 (Ig y22.1 (0,0)) (fun c=>some (c.1,(c.2.1,c.2.2))) else(KX y22))))
section
variable(w:World)(H:PH)(hH:Le H (hp w)) include hH
theorem PT(hU:Ge H){a0:AcC}{r:Qv×(Int×Int)}(h:Mf a0=some r):
  Qqv 15 [AcB a0] w (fun v w'=>∃ u0 u1 u2,v=.tuple #[.agg #[No r.1.f.1,u0,AcB r.1.f.2.2.1,u1,No r.1.f.2.2.2.2.1,No r.1.f.2.2.2.2.2.1,u2],.agg #[No r.2.1,No r.2.2]]/\AJ .st (un H (nw w w')) u0 (r.1.f.2.1)/\AJ .byte (un H (nw w w')) u1 (r.1.f.2.2.2.1)/\AJ .B1 (un H (nw w w')) u2 (r.1.f.2.2.2.2.2.2)):=by
 refine AbN (n:=42) [(0,(AcB a0))] func15 Z Z Z Z ?_;have hL:=Bb.start w;refine Aj<|A9 B7.e Z hL fun w1 b1 b6 ct _=>A9 AF.e Z b6 fun w2 b2 ar cu _=>Ac<|AB<|Bt 1 Z<|Ai (IP Z)<|A7 1 Z<|AO h ?_ ?_<;>intro b7 h
 ·refine Aj<|Ai (AT (fun _=>X6 _))<|Aw h fun x5 b8 h=>AE ar (CY _ _ (An ar) b8) fun w6 c0 b9 cv=>Af 1 Z b9 Z fun w7 ca cw=>Af 0 Z ca Z fun w8 au cx=>Ac<|Ay<|Ao ?_
  cases h
  refine Adf<|Bu (.cell Z Ajl Z B7.e (AH (i:=1) au Z)) (.cell Z Aje Z AF.e (AH (i:=0) au Z)) ⟨au.ext,_,_,_,Z,(AJ.nil _ _),(AJ.nil _ _),(AJ.nil _ _)⟩
 refine Av<|Ar<|Bt 1 Z<|AfF Z<|Ac<|Bt 1 Z<|Ai (AT (fun _=>AfS _ Z _))<|C9 (t:=86) Z Z ar fun c1 z bl cd _=>A7 1 Z<|Bt 1 Z<|Aw h fun c2 bm h=>OJ (Me (hself:=QL) (a0:=(a0,0)) (O:=[.box b2 [No 0,No 0] 28,.box b1 AcD 26]) hH hU bl bm) ?_ ?_
 ·rintro rfl bj ⟨bn,ce⟩;have h:=K9 h;refine Fi ?_;obtain⟨bo,cf,af⟩:=DG .st H 9 bn;obtain⟨bp,be,ag⟩:=DG .byte H 5 bo;obtain⟨av,an,ah⟩:=DG .B1 H 26 bp;have ai:Bb w [.row AaB 9 1 (([]:List AcC)).length ([]),.row AaB 5 1 (([]:AcC)).length ([]),.row AaB 26 7 (([]:List Qv)).length ([]),.box b2 [No 0,No 0] 28,.box b1 AcD 26] bj:=av.Cy [1,2] Z;have q:=B0 [1,2] av ai Z;have aw:Bb w [.box b1 AcD 26,.row AaB 9 1 (([]:List AcC)).length ([]),.row AaB 5 1 (([]:AcC)).length ([]),.row AaB 26 7 (([]:List Qv)).length ([]),.box b2 [No 0,No 0] 28] bj:=ai.Cy [4] Z;have u:=B0 [4] ai aw Z;refine Aw h fun c3 bq h=>?_;have af:=af.mono (Aa (be.trans (an.trans (q.trans u))));have ag:=ag.mono (Aa (an.trans (q.trans u)))
  have ah:=ah.mono (Aa (q.trans u));refine AaU (Qc (a0:=(Qv.mk (0:Int) ([]:List AcC) ([]:AcC) ([]:AcC) (0:Int) (0:Int) ([]:List Qv))) (a1:=(0,0)) (O:=[]) hH aw af ag ah bq) ?_;rintro c4 ⟨cg,ch,ci,aj,cj,ax,ay,a2⟩ az frz
  cases h
  exact⟨_,UT Z (.cell Z Ajl Z B7.e (AH (i:=0) aj Z)) (.cell Z Aje Z AF.e (AH (i:=1) aj Z)) frz,aj.ext,_,_,_,Z,(ax.mono  E7),(ay.mono  E7),(a2.mono  E7)⟩
 rintro y22 rfl _ c5 ⟨l,m,o,rfl,br,ck,c,d,e⟩;have h:=KA h;refine Af 2 Z br Z (a:=(Bn Z (Bn c.one (Bn Z (Bn d.one (Bn Z (Bn Z (Bn e.one Ky)))))))) fun c6 x y=>Ac<|By Unit (fun(_:Unit)=>[(2,(Acy b1)),(3,(Acy b2))]) (fun(_:Unit) wr=>FI w [.box z [AcB y22.2.1,No y22.2.2] 86,.box b2 [No 0,No 0] 28,.box b1 [No y22.1.f.1,l,AcB y22.1.f.2.2.1,m,No y22.1.f.2.2.2.2.1,No y22.1.f.2.2.2.2.2.1,o] 26] wr fun Oz=>AJ .st (gz H w wr Oz) l (y22.1.f.2.1)/\AJ .byte (gz H w wr Oz) m (y22.1.f.2.2.2.1)/\AJ .B1 (gz H w wr Oz) o (y22.1.f.2.2.2.2.2.2)/\(KX y22)=some r) ?_ ?_
 ·have a:=x.rG H;refine Aj<|Ai (A4 2 Z B7.e x Z)<|Aw h fun k bs h=>?_;have c:=c.mono (Aa y);have d:=d.mono (Aa y);have e:=e.mono (Aa y);refine AE x (KU _ _ (An x) (hU.mono  Ah) y22.1 (c.mono a) (d.mono a) (e.mono a) bs) fun c7 cy bt ao=>Aq 3 Z<|A9 AF.e Z bt fun c8 bk bu ap _=>Aq 1 Z<|Af 0 Z bu Z fun cb p aq=>Ac<|Aj<|Ai (A4 0 Z AF.e p Z)<|Ai (AT (fun _=>BM _))<|Ai (JJ Jg (MR _ _ _ _))<|Aq 1 Z<|ON 6 32 (.bool ((!decide (k.2.1=0/\k.2.2=0))||(!decide (y22.2.1=([]:AcC))))) (fun a3=>?_) ?_
  ·refine IG (s:=26) Z (fun b=>?_) (fun b=>?_)
   ·iterate 5 refine Au b ?_
    refine Ai (AK b Z)<|a3.to 5 (Wh b) Z Z
   refine Ab b<|Ai (Am Z)<|Ab b<|Ai (MP Z)<|Ab b<|Ai (Ae Z AjF Z HC.e)<|Ab b<|Ai (Ag 1 Z p Z)<|Ab b<|Ai (Sb Z Z)<|Ai (AS b Z)<|a3.to 5 (Wi b) Z Z
  refine Aq 1 Z<|ON 4 37 (.bool (((!decide (k.2.1=0/\k.2.2=0))||(!decide (y22.2.1=([]:AcC))))||(!decide (k.1=a0)))) (fun a4=>?_) ?_
  ·refine IG (s:=33) Z (fun g=>?_) (fun g=>?_)
   ·iterate 3 refine Au g ?_
    refine Ai (AK g Z)<|a4.to 3 (Wh g) Z Z
   refine Ab g<|Ai (Am Z)<|Ab g<|Ai (Am Z)<|Ab g<|Ai (Sb Z Z)<|Ai (AS g Z)<|a4.to 3 (Wi g) Z Z
  refine Ac<|B3 h ?_ ?_<;>intro bv h
  ·refine As<|Ai (AT (fun _=>AfR _))<|Ai (Ai4 Z AjH Z)<|AfC<|Pq ?_;have a5:Bb w [.box b1 [No y22.1.f.1,l,AcB y22.1.f.2.2.1,m,No y22.1.f.2.2.2.2.1,No y22.1.f.2.2.2.2.2.1,o] 26,.box b2 [No 0,No 0] 28,.box bk [No k.2.1,No k.2.2] 28,.box z [AcB y22.2.1,No y22.2.2] 86] cb:=p.Cy [2,3] Z;have bf:=B0 [2,3] p a5 Z;refine Aw h fun c9 bw h=>?_;have a:=a.trans (Aa (ao.trans (ap.trans (aq.trans bf))));refine AaU (OB (a0:=y22.1) (a1:=(0,0)) (O:=[.box bk [No k.2.1,No k.2.2] 28,.box z [AcB y22.2.1,No y22.2.2] 86]) hH a5 (c.mono a) (d.mono a) (e.mono a) bw) ?_;rintro da ⟨cl,cm,cn,ak,co,a6,a7,a8⟩ az frz
   cases h
   exact⟨_,UT Z (.cell Z Ajl Z B7.e (AH (i:=0) ak Z)) (.cell Z Aje Z AF.e (AH (i:=1) ak Z)) frz,ak.ext,_,_,_,Z,(a6.mono  E7),(a7.mono  E7),(a8.mono  E7)⟩
  refine Av ?_;have bx:=p.AQ (i:=0) Z;have a:=a.trans (Aa (ao.trans (ap.trans (aq.trans (Ak (i:=0) Z)))));refine AA () ⟨bx,(c.mono a),(d.mono a),(e.mono a),h⟩
 rintro _ cz ⟨al,aa,ab,ac,h⟩;have j:=al.rG H;refine Aj<|Ai (A4 2 Z B7.e al Z)<|Ai (AT (fun _=>BM _))<|Af 2 Z al Z (a:=(Bn Z (Bn (aa.mono j).one (Bn Z (Bn (ab.mono j).one (Bn Z (Bn Z (Bn (ac.mono j).one Ky)))))))) fun db bz bg=>Af 1 Z bz Z fun cc a9 bh=>Ac<|Ay ?_;have ba:Bb w [.box b1 [No y22.1.f.1,l,AcB y22.1.f.2.2.1,m,No y22.1.f.2.2.2.2.1,No y22.1.f.2.2.2.2.2.1,o] 26,.box b2 [No 0,No 0] 28,.box z [AcB y22.2.1,No y22.2.2] 86] cc:=a9.Cy [1,2] Z;have bi:=B0 [1,2] a9 ba Z;refine Aw h fun dc b0 h=>?_;have j:=j.trans (Aa (bg.trans (bh.trans bi)));refine AfG (QM (a0:=y22.1) (a1:=(0,0)) (O:=[.box z [AcB y22.2.1,No y22.2.2] 86]) hH ba (aa.mono j) (ab.mono j) (ac.mono j) b0) ?_;rintro dd ⟨cp,cq,cr,am,cs,bb,bc,bd⟩ az frz
 cases h
 exact⟨_,UT Z (.cell Z Ajl Z B7.e (AH (i:=0) am Z)) (.cell Z Aje Z AF.e (AH (i:=1) am Z)) frz,am.ext,_,_,_,Z,(bb.mono  E7),(bc.mono  E7),(bd.mono  E7)⟩
def G0(a:Bool):Option Bool:=
 some a
def N7:Option Bool:=
 Qq4 (QY ([111,120]:AcC)) (fun c=>Qq4 (Ho (Qv.mk (10:Int) ([]) ([]:AcC) ([]) (0:Int) (0:Int) ([c]))) (fun o=>Qq4 (Mf ([33,111,120]:AcC)) (fun d=>AN ([(111:UInt8),(120:UInt8)]≠[]) (Qq4 (MT (1:Int)) (fun p=>AN ([(99:UInt8),(111:UInt8),(119:UInt8)]≠[]) (Qq4 (MT (2:Int)) (fun q=>Qq4 (I1 ([([(111:UInt8),(120:UInt8)],p),([(99:UInt8),(111:UInt8),(119:UInt8)],q)])) (fun a=>Qq4 (Cv ((a.1.1.1,a.1.1.2),(a.1.2.1.1,a.1.2.1.2),a.1.2.2) (Qv.mk (10:Int) ([]) ([]:AcC) ([]) (0:Int) (0:Int) ([c])) ([true,true])) (fun e=>Qq4 (Cv ((a.1.1.1,a.1.1.2),(a.1.2.1.1,a.1.2.1.2),a.1.2.2) (Qv.mk (10:Int) ([]) ([]:AcC) ([]) (0:Int) (0:Int) ([c])) ([true,false])) (fun f=>Qq4 (Hd ((a.1.1.1,a.1.1.2),(a.1.2.1.1,a.1.2.1.2),a.1.2.2) (1:Int) (0:Int) (2:Int) ([false,true])) (fun g=>Qq4 (Hd ((a.1.1.1,a.1.1.2),(a.1.2.1.1,a.1.2.1.2),a.1.2.2) (1:Int) (0:Int) (2:Int) ([true,false])) (fun h=>Qq4 (Mf ([33,40,97,124,33,98,41]:AcC)) (fun i=>Qq4 (MH i.1) (fun j=>Qq4 (Ho j.1) (fun k=>if o.2.1=0 then if d.2.1=0 then if a.2.1=0 then if e.2.1=0 then if f.2.1=0 then if g.2.1=0 then if i.2.1=0 then if j.2.1=0 then if k.2.1=0 then(if o.1=([33,111,120]:AcC) then Qq4 (LY d.1 (Qv.mk (10:Int) ([]) ([]:AcC) ([]) (0:Int) (0:Int) ([c]))) (fun l=>if l then Qq4 (My e.1 ([1])) (fun m=>if m then if(f.1.length:Int)=0 then AN ([(99:UInt8),(111:UInt8)]≠[]) (Qq4 (JM g.1 ([(99:UInt8),(111:UInt8)])) (fun n=>if n then Qq4 (L8 (20:Int) (-1:Int)) (fun b=>if h.2.1=b.1/\h.2.2=b.2 then G0 (decide (k.1=([33,97,38,98]:AcC))) else G0 false) else G0 false)) else G0 false else G0 false) else G0 false) else G0 false) else none else none else none else none else none else none else none else none else none)))))))))))))))
theorem Yk(hU:Ge H){r:Bool}(h:N7=some r):
  Qqv 13 [] w (fun v w'=>v=.bool r):=by
 refine Az 162 [] func13 Z fun hL=>AI 1 Z<|Aj<|Aw h fun x1 h0 h=>Bh hL (XB _ _ (An hL) h0) ?_;rintro _ w2 ⟨iu,iv,iw,rfl,e8,e9,fa⟩ dv h1 ix;have fb:=e8.mono (DS hL dv);have fc:=e9.Dn hH hL dv;have fd:=fa.Dn hH hL dv;refine B6 [x1] (r:=.B1) (fun _=>Og _ _ _ _ _ _ _ _) h1 (.c7 (Go.E.Rp.Iq ⟨_,_,Z,Z,⟨_,_,Z,⟨_,Z,fb⟩,⟨_,_,Z,Z,⟨_,_,Z,⟨_,Z,fc⟩,⟨_,_,Z,Z,⟨_,_,Z,Z,⟨_,Z,fd⟩⟩⟩⟩⟩⟩⟩) .nil) fun v3 w3 jn h2 iy aw=>Ai (AT (fun _=>OP _ _ aw.one _))<|A9 B7.e Z h2 fun w4 b4 h3 fx _=>Af 0 Z h3 Z (a:=(Bn Z (Bn Z (Bn Z (Bn Z (Bn Z (Bn Z (Bn aw.one Ky)))))))) fun w5 dw fy=>Ac<|Aj<|Ai (A4 0 Z B7.e dw Z)<|Aw h fun x6 h4 h=>?_;have aw:=aw.mono (Aa (fx.trans fy));refine AE dw (KU _ _ (An dw) (hU.mono  Ah) ((Qv.mk (10:Int) ([]) ([]:AcC) ([]) (0:Int) (0:Int) ([x1]))) (AJ.nil _ _) (AJ.nil _ _) aw h4) fun w7 jo h5 fz=>Aq 3 Z<|A9 AF.e Z h5 fun w8 b8 h6 f1 _=>Aq 1 Z ?_
 refine Af 0 Z h6 Z fun w9 cy f2=>Ac<|Aj<|Aw h fun an f3 h=>Bh cy (PT _ _ (An cy) (hU.mono  Ah) f3) ?_;rintro _ jp ⟨bq,br,bs,rfl,dx,dy,dz⟩ c0 f4 ff;have ad:=dx.mono (DS cy c0);have ae:=dy.mono (DS cy c0);have af:=dz.mono (DS cy c0);refine Aq 3 Z<|A9 B7.e Z f4 fun jq d0 f5 az _=>A9 AF.e Z f5 fun jr d1 f6 a2 _=>Af 1 Z f6 Z (a:=(Bn Z (Bn ad.one (Bn Z (Bn ae.one (Bn Z (Bn Z (Bn af.one Ky)))))))) fun js f7 a3=>Af 0 Z f7 Z fun jt d2 a4=>Ac ?_;have j:=d2.rG H;refine Aj<|Oy [(111:UInt8),(120:UInt8)] (r:=.byte) (fun _=>Abf _ _ _) (BH 2) hH d2 (.c1 Z (.c1 Z .nil)) fun ju jv iz f8 fg f9=>A1 h fun ga h=>Adb 0 Z Afr AcH hH f8 Z f9 ga fun jw cb fh cq=>Aw h fun h7 gb h=>Bh cb (Qy _ _ (An cb) gb) ?_;rintro _ jx ⟨ia,ib,ic,rfl,d3,d4,d5⟩ c2 gc de;have cc:=d3.Dn hH cb c2;have cd:=d4.Dn hH cb c2
 have ce:=d5.Dn hH cb c2;refine Ai (AT (fun _=>WK _ cq.one _ _ _ _ _ _))<|Oy [(99:UInt8),(111:UInt8),(119:UInt8)] (r:=.byte) (fun _=>Abg _ _ _ _) (BH 3) hH gc (.c1 Z (.c1 Z (.c1 Z .nil))) fun jy jz i0 gd bf ge=>A1 h fun gf h=>Adb 0 Z Afr AcH hH gd Z ge gf fun j0 cf bg cr=>Aw h fun h8 gg h=>Bh cf (Qy _ _ (An cf) gg) ?_;rintro _ j1 ⟨ie,ig,ih,rfl,d6,d7,d8⟩ c3 gh a5;have d9:=d6.Dn hH cf c3;have ea:=d7.Dn hH cf c3;have eb:=d8.Dn hH cf c3;refine Ai (AT (fun _=>WK _ cr.one _ _ _ _ _ _)) ?_;have cq:=cq.mono (Aa (de.trans (bf.trans (bg.trans a5))));have cc:=cc.mono (Aa (bf.trans (bg.trans a5)));have cd:=cd.mono (Aa (bf.trans (bg.trans a5)));have ce:=ce.mono (Aa (bf.trans (bg.trans a5)));have cr:=cr.mono (Aa a5)
 refine B6 ([([(111:UInt8),(120:UInt8)],h7),([(99:UInt8),(111:UInt8),(119:UInt8)],h8)]) (r:=(.pair (.vec .byte) .tree)) (fun _=>AfW _ _ _ _ _ _ _ _ _ _ _ _ _) (hlen:=(BH 2)) gh (.c6 ⟨_,_,Z,⟨_,Z,cq⟩,(Go.E.Rp.DT ⟨_,_,Z,Z,⟨_,_,Z,Z,⟨_,_,Z,⟨_,Z,cc⟩,⟨_,_,Z,⟨_,Z,cd⟩,⟨_,Z,ce⟩⟩⟩⟩⟩)⟩ (.c6 ⟨_,_,Z,⟨_,Z,cr⟩,(Go.E.Rp.DT ⟨_,_,Z,Z,⟨_,_,Z,Z,⟨_,_,Z,⟨_,Z,d9⟩,⟨_,_,Z,⟨_,Z,ea⟩,⟨_,Z,eb⟩⟩⟩⟩⟩)⟩ .nil)) fun j2 j3 i1 cg fi gi=>Aw h fun k gj h=>Bh cg (Nf _ _ (An cg) (hU.mono  Ah) gi gj) ?_;rintro _ j4 ⟨bt,bu,bv,rfl,ec,ed,ee⟩ c4 gk fj;have y:=ec.mono (DS cg c4);have aa:=ed.mono (DS cg c4);have ab:=ee.Dn hH cg c4;refine Aq 3 Z<|A9 JK.e Z gk fun j5 ef gl bw _=>A9 AF.e Z gl fun j6 eg gm bx _=>Af 1 Z gm Z (a:=(Bn Z (Bn y.one (Bn Z (Bn aa.one (Bn ab.one Ky)))))) fun j7 gn bz=>Af 0 Z gn Z fun j8 cs b0=>Ac ?_;have e:=cs.rG H;refine Aj<|Ai (A4 1 Z JK.e cs Z) ?_
 refine Ai (A4 5 Z B7.e cs Z)<|B6 [true,true] (r:=.bool) (fun _=>Uw _ _ _) (hlen:=(BH 2)) cs (.c1 Z (.c1 Z .nil)) fun j9 ka i2 c5 fk go=>Aw h fun cm gp h=>?_;have aw:=aw.mono (Aa (fz.trans (f1.trans (f2.trans (ff.trans (az.trans (a2.trans (a3.trans a4))))))));have j:=j.trans (Aa (fg.trans (fh.trans (de.trans (bf.trans (bg.trans (a5.trans (fi.trans (fj.trans (bw.trans (bx.trans (bz.trans b0))))))))))));have y:=y.mono (Aa (bw.trans (bx.trans (bz.trans b0))));have aa:=aa.mono (Aa (bw.trans (bx.trans (bz.trans b0))));have ab:=ab.mono (Aa (bw.trans (bx.trans (bz.trans b0))));have e:=e.trans (Aa fk);refine Bh c5 (Ib _ _ (An c5) (hU.mono  Ah) (((k.1.1.1,k.1.1.2),(k.1.2.1.1,k.1.2.1.2),k.1.2.2)) ((Qv.mk (10:Int) ([]) ([]:AcC) ([]) (0:Int) (0:Int) ([x1]))) (y.mono e) (aa.mono e) (ab.mono e) (AJ.nil _ _) (AJ.nil _ _) ((aw.mono j).mono e) go gp) ?_;rintro _ kb ⟨ii,rfl,eh⟩ gq gr fl;have ch:=eh.Dn hH c5 gq;refine Aq 3 Z<|A9 AF.e Z gr fun kc ei gs df _=>Aq 1 Z ?_
 refine Af 0 Z gs Z fun kd c8 dg=>Ac<|Aj<|Ai (A4 2 Z JK.e c8 Z)<|Ai (A4 6 Z B7.e c8 Z)<|B6 [true,false] (r:=.bool) (fun _=>Uw _ _ _) (hlen:=(BH 2)) c8 (.c1 Z (.c1 Z .nil)) fun ke kf i3 c9 dh gt=>Aw h fun cn gu h=>?_;have e:=e.trans (Aa (fl.trans (df.trans (dg.trans dh))));refine Bh c9 (Ib _ _ (An c9) (hU.mono  Ah) (((k.1.1.1,k.1.1.2),(k.1.2.1.1,k.1.2.1.2),k.1.2.2)) ((Qv.mk (10:Int) ([]) ([]:AcC) ([]) (0:Int) (0:Int) ([x1]))) (y.mono e) (aa.mono e) (ab.mono e) (AJ.nil _ _) (AJ.nil _ _) ((aw.mono j).mono e) gt gu) ?_;rintro _ kg ⟨ij,rfl,ej⟩ gv gw di;have ci:=ej.Dn hH c9 gv;refine Aq 3 Z<|A9 AF.e Z gw fun kh ek gx ct _=>Aq 1 Z<|Af 0 Z gx Z fun ki el cu=>Ac<|Aj<|Ai (A4 3 Z JK.e el Z)<|B6 [false,true] (r:=.bool) (fun _=>Uw _ _ _) (hlen:=(BH 2)) el (.c1 Z (.c1 Z .nil)) fun kj kk i4 da cv gy=>Aw h fun co g0 h=>?_
 have e:=e.trans (Aa (di.trans (ct.trans (cu.trans cv))));refine Bh da (LQ (a0:=((k.1.1.1,k.1.1.2),(k.1.2.1.1,k.1.2.1.2),k.1.2.2)) _ _ (An da) (y.mono e) (aa.mono e) (ab.mono e) gy g0) ?_;rintro _ kl ⟨ik,rfl,em⟩ g1 g2 cw;have cj:=em.mono (DS da g1);refine Aq 3 Z<|A9 AF.e Z g2 fun km en g3 b1 _=>Aq 1 Z<|Af 0 Z g3 Z fun kn db b2=>Ac ?_;have g:=db.rG H;refine Aj<|Ai (A4 4 Z JK.e db Z)<|B6 [true,false] (r:=.bool) (fun _=>Uw _ _ _) (hlen:=(BH 2)) db (.c1 Z (.c1 Z .nil)) fun ko kp i5 eo fm g4=>Aw h fun cp g5 h=>?_;have e:=e.trans (Aa (cw.trans (b1.trans b2)));have g:=g.trans (Aa fm);refine Bh eo (LQ (a0:=((k.1.1.1,k.1.1.2),(k.1.2.1.1,k.1.2.1.2),k.1.2.2)) _ _ (An eo) ((y.mono e).mono g) ((aa.mono e).mono g) ((ab.mono e).mono g) g4 g5) ?_;rintro _ kq ⟨il,rfl,h9⟩ i6 g6 dj;refine Aq 3 Z<|A9 AF.e Z g6 fun kr ep g7 dk _=>Aq 1 Z<|Af 0 Z g7 Z ?_
 intro ks ck dl;refine Ac<|Aj<|Aw h fun ao g8 h=>Bh ck (PT _ _ (An ck) (hU.mono  Ah) g8) ?_;rintro _ kt ⟨b3,b5,b6,rfl,eq,er,es⟩ dc g9 dm;have ag:=eq.mono (DS ck dc);have ah:=er.mono (DS ck dc);have ai:=es.mono (DS ck dc);refine Aq 3 Z<|A9 B7.e Z g9 fun ku et ha bh _=>A9 AF.e Z ha fun kv eu hb bi _=>Af 1 Z hb Z (a:=(Bn Z (Bn ag.one (Bn Z (Bn ah.one (Bn Z (Bn Z (Bn ai.one Ky)))))))) fun kw hc bj=>Af 0 Z hc Z fun kx a6 bk=>Ac ?_;have d:=a6.rG H;refine Aj<|Ai (A4 1 Z B7.e a6 Z)<|Aw h fun ap hd h=>?_;have ag:=ag.mono (Aa (bh.trans (bi.trans (bj.trans bk))));have ah:=ah.mono (Aa (bh.trans (bi.trans (bj.trans bk))));have ai:=ai.mono (Aa (bh.trans (bi.trans (bj.trans bk))));refine Bh a6 (Tm (a0:=ao.1) _ _ (An a6) (hU.mono  Ah) (ag.mono d) (ah.mono d) (ai.mono d) hd) ?_;rintro _ ky ⟨b7,b9,ca,rfl,ev,ew,ex⟩ dd he dn
 have aj:=ev.mono (DS a6 dd);have ak:=ew.mono (DS a6 dd);have al:=ex.mono (DS a6 dd);refine Aq 3 Z<|A9 B7.e Z he fun kz ey hf bl _=>A9 AF.e Z hf fun k0 ez hg bm _=>Af 1 Z hg Z (a:=(Bn Z (Bn aj.one (Bn Z (Bn ak.one (Bn Z (Bn Z (Bn al.one Ky)))))))) fun k1 hh bn=>Af 0 Z hh Z fun k2 cx bo=>Ac ?_;have c:=cx.rG H;refine Aj<|Ai (A4 1 Z B7.e cx Z)<|Aw h fun cl hi h=>?_;have aj:=aj.mono (Aa (bl.trans (bm.trans (bn.trans bo))));have ak:=ak.mono (Aa (bl.trans (bm.trans (bn.trans bo))));have al:=al.mono (Aa (bl.trans (bm.trans (bn.trans bo))));refine AE cx (KU _ _ (An cx) (hU.mono  Ah) ap.1 (aj.mono c) (ak.mono c) (al.mono c) hi) fun k3 i7 hj dp=>Aq 3 Z<|A9 AF.e Z hj fun k4 e0 hk dq _=>Aq 1 Z<|Af 0 Z hk Z fun k5 ay dr=>Ac<|AB<|Aj<|Ai (Ae Z Aje Z CO.e) ?_
 refine Ai (Ag 13 Z ay Z)<|Aq 2 Z<|IN 90 h ?_ ?_<;>intro a7 h
 ·iterate 3 refine Au a7 ?_
  refine Ai (AK a7 Z)<|Aq 1 Z ?_
  iterate 3 refine Au Z ?_
  refine Ai (AK Z Z)<|Aq 1 Z ?_
  iterate 3 refine Au Z ?_
  refine Ai (AK Z Z)<|Aq 1 Z ?_
  iterate 3 refine Au Z ?_
  refine Ai (AK Z Z)<|Aq 1 Z ?_
  iterate 3 refine Au Z ?_
  refine Ai (AK Z Z)<|Aq 1 Z ?_
  iterate 3 refine Au Z ?_
  refine Ai (AK Z Z)<|Aq 1 Z ?_
  iterate 3 refine Au Z ?_
  refine Ai (AK Z Z)<|Aq 1 Z ?_
  iterate 3 refine Au Z ?_
  refine Ai (AK Z Z)<|Ac<|Ff ?_
  cases h
 refine Ab a7<|Ai (Ae Z Aje Z CO.e)<|Ab a7<|Ai (Ag 11 Z ay Z)<|Ab a7<|Ai (Am Z)<|Ai (AS a7 Z)<|Aq 1 Z<|IN 95 h ?_ ?_<;>intro a8 h
 ·iterate 3 refine Au a8 ?_
  refine Ai (AK a8 Z)<|Aq 1 Z ?_
  iterate 3 refine Au Z ?_
  refine Ai (AK Z Z)<|Aq 1 Z ?_
  iterate 3 refine Au Z ?_
  refine Ai (AK Z Z)<|Aq 1 Z ?_
  iterate 3 refine Au Z ?_
  refine Ai (AK Z Z)<|Aq 1 Z ?_
  iterate 3 refine Au Z ?_
  refine Ai (AK Z Z)<|Aq 1 Z ?_
  iterate 3 refine Au Z ?_
  refine Ai (AK Z Z)<|Aq 1 Z ?_
  iterate 3 refine Au Z ?_
  refine Ai (AK Z Z)<|Ac<|Ff ?_
  cases h
 refine Ab a8<|Ai (Ae Z Aje Z CO.e)<|Ab a8<|Ai (Ag 9 Z ay Z)<|Ab a8<|Ai (Am Z)<|Ai (AS a8 Z)<|Aq 1 Z<|IN 100 h ?_ ?_<;>intro a9 h
 ·iterate 3 refine Au a9 ?_
  refine Ai (AK a9 Z)<|Aq 1 Z ?_
  iterate 3 refine Au Z ?_
  refine Ai (AK Z Z)<|Aq 1 Z ?_
  iterate 3 refine Au Z ?_
  refine Ai (AK Z Z)<|Aq 1 Z ?_
  iterate 3 refine Au Z ?_
  refine Ai (AK Z Z)<|Aq 1 Z ?_
  iterate 3 refine Au Z ?_
  refine Ai (AK Z Z)<|Aq 1 Z ?_
  iterate 3 refine Au Z ?_
  refine Ai (AK Z Z)<|Ac<|Ff ?_
  cases h
 refine Ab a9<|Ai (Ae Z Aje Z CO.e)<|Ab a9<|Ai (Ag 8 Z ay Z)<|Ab a9<|Ai (Am Z)<|Ai (AS a9 Z)<|Aq 1 Z<|IN 105 h ?_ ?_<;>intro ba h
 ·iterate 3 refine Au ba ?_
  refine Ai (AK ba Z)<|Aq 1 Z ?_
  iterate 3 refine Au Z ?_
  refine Ai (AK Z Z)<|Aq 1 Z ?_
  iterate 3 refine Au Z ?_
  refine Ai (AK Z Z)<|Aq 1 Z ?_
  iterate 3 refine Au Z ?_
  refine Ai (AK Z Z)<|Aq 1 Z ?_
  iterate 3 refine Au Z ?_
  refine Ai (AK Z Z)<|Ac<|Ff ?_
  cases h
 refine Ab ba<|Ai (Ae Z Aje Z CO.e)<|Ab ba<|Ai (Ag 7 Z ay Z)<|Ab ba<|Ai (Am Z)<|Ai (AS ba Z)<|Aq 1 Z<|IN 110 h ?_ ?_<;>intro bb h
 ·iterate 3 refine Au bb ?_
  refine Ai (AK bb Z)<|Aq 1 Z ?_
  iterate 3 refine Au Z ?_
  refine Ai (AK Z Z)<|Aq 1 Z ?_
  iterate 3 refine Au Z ?_
  refine Ai (AK Z Z)<|Aq 1 Z ?_
  iterate 3 refine Au Z ?_
  refine Ai (AK Z Z)<|Ac<|Ff ?_
  cases h
 refine Ab bb<|Ai (Ae Z Aje Z CO.e)<|Ab bb<|Ai (Ag 6 Z ay Z)<|Ab bb<|Ai (Am Z)<|Ai (AS bb Z)<|Aq 1 Z<|IN 115 h ?_ ?_<;>intro bc h
 ·iterate 3 refine Au bc ?_
  refine Ai (AK bc Z)<|Aq 1 Z ?_
  iterate 3 refine Au Z ?_
  refine Ai (AK Z Z)<|Aq 1 Z ?_
  iterate 3 refine Au Z ?_
  refine Ai (AK Z Z)<|Ac<|Ff ?_
  cases h
 refine Ab bc<|Ai (Ae Z Aje Z CO.e)<|Ab bc<|Ai (Ag 3 Z ay Z)<|Ab bc<|Ai (Am Z)<|Ai (AS bc Z)<|Aq 1 Z<|IN 120 h ?_ ?_<;>intro bd h
 ·iterate 3 refine Au bd ?_
  refine Ai (AK bd Z)<|Aq 1 Z ?_
  iterate 3 refine Au Z ?_
  refine Ai (AK Z Z)<|Ac<|Ff ?_
  cases h
 refine Ab bd<|Ai (Ae Z Aje Z CO.e)<|Ab bd<|Ai (Ag 1 Z ay Z)<|Ab bd<|Ai (Am Z)<|Ai (AS bd Z)<|Aq 1 Z<|IN 125 h ?_ ?_<;>intro be h
 ·iterate 3 refine Au be ?_
  refine Ai (AK be Z)<|Ac<|Ff ?_
  cases h
 refine Ab be<|Ai (Ae Z Aje Z CO.e)<|Ab be<|Ai (Ag 0 Z ay Z)<|Ab be<|Ai (Am Z)<|Ai (AS be Z)<|Ac<|CN h ?_ ?_<;>intro hl h
 ·cases h
 refine Av<|Ar ?_
 refine By Bool (fun bp=>[(0,.bool bp)]) (fun bp wr=>FI w [.box e0 [No cl.2.1,No cl.2.2] 28,.box ez [No ap.2.1,No ap.2.2] 28,.box ey [No ap.1.f.1,b7,AcB ap.1.f.2.2.1,b9,No ap.1.f.2.2.2.2.1,No ap.1.f.2.2.2.2.2.1,ca] 26,.box eu [No ao.2.1,No ao.2.2] 28,.box et [No ao.1.f.1,b3,AcB ao.1.f.2.2.1,b5,No ao.1.f.2.2.2.2.1,No ao.1.f.2.2.2.2.2.1,b6] 26,.box ep [No cp.2.1,No cp.2.2] 28,.box en [No co.2.1,No co.2.2] 28,.box ek [No cn.2.1,No cn.2.2] 28,.box ei [No cm.2.1,No cm.2.2] 28,.box eg [No k.2.1,No k.2.2] 28,.box ef [No k.1.1.1,bt,No k.1.2.1.1,bu,bv] 52,.box d1 [No an.2.1,No an.2.2] 28,.box d0 [No an.1.f.1,bq,AcB an.1.f.2.2.1,br,No an.1.f.2.2.2.2.1,No an.1.f.2.2.2.2.2.1,bs] 26,.box b8 [No x6.2.1,No x6.2.2] 28,.box b4 [No 10,AaB,(AcB []),AaB,No 0,No 0,v3] 26] wr fun Oz=>AJ .st (gz H w wr Oz) b7 (ap.1.f.2.1)/\AJ .byte (gz H w wr Oz) b9 (ap.1.f.2.2.2.1)/\AJ .B1 (gz H w wr Oz) ca (ap.1.f.2.2.2.2.2.2)/\AJ .st (gz H w wr Oz) b3 (ao.1.f.2.1)/\AJ .byte (gz H w wr Oz) b5 (ao.1.f.2.2.2.1)/\AJ .B1 (gz H w wr Oz) b6 (ao.1.f.2.2.2.2.2.2)/\AJ (.pair .st (.vec AjW)) (gz H w wr Oz) bt (k.1.1.2)/\AJ AjU (gz H w wr Oz) bu (k.1.2.1.2)/\AJ AjV (gz H w wr Oz) bv (k.1.2.2)/\AJ .st (gz H w wr Oz) bq (an.1.f.2.1)/\AJ .byte (gz H w wr Oz) br (an.1.f.2.2.2.1)/\AJ .B1 (gz H w wr Oz) bs (an.1.f.2.2.2.2.2.2)/\AJ .B1 (gz H w wr Oz) v3 ([x1])/\G0 bp=some r) ?_ ?_
 ·refine Kk (O0 Nq) (fun z0 z=>Le (gz H w z0 [.box e0 [No cl.2.1,No cl.2.2] 28,.box ez [No ap.2.1,No ap.2.2] 28,.box ey [No ap.1.f.1,b7,AcB ap.1.f.2.2.1,b9,No ap.1.f.2.2.2.2.1,No ap.1.f.2.2.2.2.2.1,ca] 26,.box eu [No ao.2.1,No ao.2.2] 28,.box et [No ao.1.f.1,b3,AcB ao.1.f.2.2.1,b5,No ao.1.f.2.2.2.2.1,No ao.1.f.2.2.2.2.2.1,b6] 26,.box ep [No cp.2.1,No cp.2.2] 28,.box en [No co.2.1,No co.2.2] 28,.box ek [No cn.2.1,No cn.2.2] 28,.box ei [No cm.2.1,No cm.2.2] 28,.box eg [No k.2.1,No k.2.2] 28,.box ef [No k.1.1.1,bt,No k.1.2.1.1,bu,bv] 52,.box d1 [No an.2.1,No an.2.2] 28,.box d0 [No an.1.f.1,bq,AcB an.1.f.2.2.1,br,No an.1.f.2.2.2.2.1,No an.1.f.2.2.2.2.2.1,bs] 26,.box b8 [No x6.2.1,No x6.2.2] 28,.box b4 [No 10,AaB,(AcB []),AaB,No 0,No 0,v3] 26]) (hp z)/\z.heap[e0]? = some (.cells [No cl.2.1,No cl.2.2].toArray 28 (0,0))/\z.heap[ez]? = some (.cells [No ap.2.1,No ap.2.2].toArray 28 (0,0))/\z.heap[ey]? = some (.cells [No ap.1.f.1,b7,AcB ap.1.f.2.2.1,b9,No ap.1.f.2.2.2.2.1,No ap.1.f.2.2.2.2.2.1,ca].toArray 26 (0,0))/\z.heap[eu]? = some (.cells [No ao.2.1,No ao.2.2].toArray 28 (0,0))/\z.heap[et]? = some (.cells [No ao.1.f.1,b3,AcB ao.1.f.2.2.1,b5,No ao.1.f.2.2.2.2.1,No ao.1.f.2.2.2.2.2.1,b6].toArray 26 (0,0))/\z.heap[ep]? = some (.cells [No cp.2.1,No cp.2.2].toArray 28 (0,0))/\z.heap[en]? = some (.cells [No co.2.1,No co.2.2].toArray 28 (0,0))/\z.heap[ek]? = some (.cells [No cn.2.1,No cn.2.2].toArray 28 (0,0))/\z.heap[ei]? = some (.cells [No cm.2.1,No cm.2.2].toArray 28 (0,0))/\z.heap[eg]? = some (.cells [No k.2.1,No k.2.2].toArray 28 (0,0))/\z.heap[ef]? = some (.cells [No k.1.1.1,bt,No k.1.2.1.1,bu,bv].toArray 52 (0,0))/\z.heap[d1]? = some (.cells [No an.2.1,No an.2.2].toArray 28 (0,0))/\z.heap[d0]? = some (.cells [No an.1.f.1,bq,AcB an.1.f.2.2.1,br,No an.1.f.2.2.2.2.1,No an.1.f.2.2.2.2.2.1,bs].toArray 26 (0,0))/\z.heap[b8]? = some (.cells [No x6.2.1,No x6.2.2].toArray 28 (0,0))/\z.heap[b4]? = some (.cells [No 10,AaB,(AcB []),AaB,No 0,No 0,v3].toArray 26 (0,0))) mixed Z (fun a i9 ds=>?_)
  have m:=ay.call ds;have cz:=AR ay ds;have b:=m.rG H;refine Nt ⟨b.trans (An m),m.at (i:=0) Z,m.at (i:=1) Z,m.at (i:=2) Z,m.at (i:=3) Z,m.at (i:=4) Z,m.at (i:=5) Z,m.at (i:=6) Z,m.at (i:=7) Z,m.at (i:=8) Z,m.at (i:=9) Z,m.at (i:=10) Z,m.at (i:=11) Z,m.at (i:=12) Z,m.at (i:=13) Z,m.at (i:=14) Z⟩ fun kI149=>A8 0 a kI149 Z (fun _ _=>Am Z) Z<|A8 1 a kI149 Z (fun _ _=>Ni Z Z) Z<|A8 2 a kI149 Z (fun _ _=>Am Z) Z<|OL 132 Z (fun aq=>?_) (fun aq=>?_)
  ·have h:=OH (of_decide_eq_true aq) h;refine IQ 3 a kI149 Z Z Z Z aq (fun _ hI=>MQ hI.2.2.2.2.2.2.2.2.2.2.2.2.2.1) Z<|IQ 4 a kI149 Z Z Z Z aq (fun _ hI=>MQ hI.2.2.2.2.2.2.2.2.2.2.2.2.2.2.2) Z<|FR 5 Z<|Ab aq<|Aw h fun ja fn h=>?_;have ad:=ad.mono (Aa (az.trans (a2.trans (a3.trans a4))));have ae:=ae.mono (Aa (az.trans (a2.trans (a3.trans a4))));have af:=af.mono (Aa (az.trans (a2.trans (a3.trans a4))));have g:=g.trans (Aa (dj.trans (dk.trans (dl.trans (dm.trans (bh.trans (bi.trans (bj.trans bk))))))));have d:=d.trans (Aa (dn.trans (bl.trans (bm.trans (bn.trans bo)))));have c:=c.trans (Aa (dp.trans (dq.trans (dr.trans cz))))
   refine AE m (S6 (a0:=an.1) (a1:=(Qv.mk (10:Int) ([]) ([]:AcC) ([]) (0:Int) (0:Int) ([x1]))) _ _ (An m) ((((((ad.mono j).mono e).mono g).mono d).mono c).mono b) ((((((ae.mono j).mono e).mono g).mono d).mono c).mono b) ((((((af.mono j).mono e).mono g).mono d).mono c).mono b) (AJ.nil _ _) (AJ.nil _ _) ((((((aw.mono j).mono e).mono g).mono d).mono c).mono b) fn) ?_;intro jb im q e1;have b:=b.trans (Aa e1);refine AW ⟨b.trans (An q),q.at (i:=0) Z,q.at (i:=1) Z,q.at (i:=2) Z,q.at (i:=3) Z,q.at (i:=4) Z,q.at (i:=5) Z,q.at (i:=6) Z,q.at (i:=7) Z,q.at (i:=8) Z,q.at (i:=9) Z,q.at (i:=10) Z,q.at (i:=11) Z,q.at (i:=12) Z,q.at (i:=13) Z,q.at (i:=14) Z⟩ fun kI154=>A8 6 a kI154 Z (fun _ _=>AK aq Z) Z<|A8 7 a kI154 Z (fun _ _=>Am Z) Z<|OL 137 Z (fun ar=>?_) (fun ar=>?_)
   ·have h:=Y3 ar h;refine IQ 8 a kI154 Z Z Z Z ar (fun _ _=>Am Z) Z<|FR 9 Z<|Ab ar<|B6 [1] (r:=(.int .i64)) (fun _=>Jm _ _) q (.c1 Z .nil) ?_;intro jc jd io t e2 fo;have b:=b.trans (Aa e2);refine AW ⟨b.trans (An t),t.at (i:=0) Z,t.at (i:=1) Z,t.at (i:=2) Z,t.at (i:=3) Z,t.at (i:=4) Z,t.at (i:=5) Z,t.at (i:=6) Z,t.at (i:=7) Z,t.at (i:=8) Z,t.at (i:=9) Z,t.at (i:=10) Z,t.at (i:=11) Z,t.at (i:=12) Z,t.at (i:=13) Z,t.at (i:=14) Z⟩ fun kI158=>FR 10 Z<|Ab ar<|Aw h fun je fp h=>?_;have ch:=ch.mono (Aa (df.trans (dg.trans (dh.trans (di.trans (ct.trans (cu.trans (cv.trans (cw.trans (b1.trans b2))))))))));refine AE t (Su _ _ (An t) ((((ch.mono g).mono d).mono c).mono b) fo fp) ?_;intro jf ip o e3;have b:=b.trans (Aa e3)
    refine AW ⟨b.trans (An o),o.at (i:=0) Z,o.at (i:=1) Z,o.at (i:=2) Z,o.at (i:=3) Z,o.at (i:=4) Z,o.at (i:=5) Z,o.at (i:=6) Z,o.at (i:=7) Z,o.at (i:=8) Z,o.at (i:=9) Z,o.at (i:=10) Z,o.at (i:=11) Z,o.at (i:=12) Z,o.at (i:=13) Z,o.at (i:=14) Z⟩ fun kI161=>A8 11 a kI161 Z (fun _ _=>AK ar Z) Z<|A8 12 a kI161 Z (fun _ _=>Am Z) Z<|OL 142 Z (fun au=>?_) (fun au=>?_)
    ·have h:=Y3 au h;refine IQ 13 a kI161 Z Z Z Z au (fun _ _=>Am Z) Z ?_;have ci:=ci.mono (Aa (ct.trans (cu.trans (cv.trans (cw.trans (b1.trans b2))))));refine IQ 14 a kI161 Z Z Z Z au (fun _ _=>Bk ((((ci.mono g).mono d).mono c).mono b)) Z<|IQ 15 a kI161 Z Z Z Z au (fun _ _=>Am Z) Z<|A8 16 a kI161 Z (fun _ _=>AK au Z) Z<|A8 17 a kI161 Z (fun _ _=>Am Z) Z<|OL 147 Z (fun am=>?_) (fun am=>?_)
     ·have h:=OH (of_decide_eq_true am) h;refine IQ 18 a kI161 Z Z Z Z am (fun _ _=>Am Z) Z<|FR 19 Z<|Ab am<|Oy [(99:UInt8),(111:UInt8)] (r:=.byte) (fun _=>Abf _ _ _) (BH 2) hH o (.c1 Z (.c1 Z .nil)) ?_;intro jg jh iq ac e4 fq;have b:=b.trans (Aa e4);refine AW ⟨b.trans (An ac),ac.at (i:=1) Z,ac.at (i:=2) Z,ac.at (i:=3) Z,ac.at (i:=4) Z,ac.at (i:=5) Z,ac.at (i:=6) Z,ac.at (i:=7) Z,ac.at (i:=8) Z,ac.at (i:=9) Z,ac.at (i:=10) Z,ac.at (i:=11) Z,ac.at (i:=12) Z,ac.at (i:=13) Z,ac.at (i:=14) Z,ac.at (i:=15) Z⟩ fun kI167=>FR 20 Z<|Ab am<|A1 h fun fr h=>Adb 0 Z Afr AcH hH ac Z fq fr ?_;intro ji u e5 fs;have b:=b.trans (Aa e5)
      refine AW ⟨b.trans (An u),u.at (i:=0) Z,u.at (i:=1) Z,u.at (i:=2) Z,u.at (i:=3) Z,u.at (i:=4) Z,u.at (i:=5) Z,u.at (i:=6) Z,u.at (i:=7) Z,u.at (i:=8) Z,u.at (i:=9) Z,u.at (i:=10) Z,u.at (i:=11) Z,u.at (i:=12) Z,u.at (i:=13) Z,u.at (i:=14) Z⟩ fun kI170=>FR 21 Z<|Ab am<|Aw h fun jj ft h=>?_;have cj:=cj.mono (Aa (b1.trans b2));refine AE u (Oh _ _ (An u) ((((cj.mono g).mono d).mono c).mono b) fs ft) ?_;intro jk ir p e6;have b:=b.trans (Aa e6);refine AW ⟨b.trans (An p),p.at (i:=0) Z,p.at (i:=1) Z,p.at (i:=2) Z,p.at (i:=3) Z,p.at (i:=4) Z,p.at (i:=5) Z,p.at (i:=6) Z,p.at (i:=7) Z,p.at (i:=8) Z,p.at (i:=9) Z,p.at (i:=10) Z,p.at (i:=11) Z,p.at (i:=12) Z,p.at (i:=13) Z,p.at (i:=14) Z⟩ fun kI173=>A8 22 a kI173 Z (fun _ _=>AK am Z) Z<|A8 23 a kI173 Z (fun _ _=>Am Z) Z<|OL 153 Z (fun av=>?_) (fun av=>?_)
      ·have h:=Y3 av h;refine IQ 24 a kI173 Z Z Z Z av (fun _ hI=>MQ hI.2.2.2.2.2.2.1) Z<|FR 25 Z<|Ab av<|Aw h fun jl fu h=>AE p (Aaa _ _ (An p) fu) ?_;intro jm is x e7;have b:=b.trans (Aa e7);refine AW ⟨b.trans (An x),x.at (i:=0) Z,x.at (i:=1) Z,x.at (i:=2) Z,x.at (i:=3) Z,x.at (i:=4) Z,x.at (i:=5) Z,x.at (i:=6) Z,x.at (i:=7) Z,x.at (i:=8) Z,x.at (i:=9) Z,x.at (i:=10) Z,x.at (i:=11) Z,x.at (i:=12) Z,x.at (i:=13) Z,x.at (i:=14) Z⟩ fun kI178=>IQ 26 a kI178 Z Z Z Z av (fun _ _=>AaK Jg (MR _ _ _ _)) Z<|A8 27 a kI178 Z (fun _ _=>AK av Z) Z<|A8 28 a kI178 Z (fun _ _=>Am Z) Z<|OL 158 Z (fun ax=>?_) (fun ax=>?_)
       ·have h:=OH (of_decide_eq_true ax) h;refine IQ 29 a kI178 Z Z Z Z ax (fun _ _=>Am Z) Z<|IQ 30 a kI178 Z Z Z Z ax (fun _ _=>Ni Z Z) Z<|A8 31 a kI178 Z (fun _ _=>AK ax Z) Z<|A8 32 a kI178 Z (fun _ _=>Am Z) Z<|EK<|AA _ ⟨x,((aj.mono c).mono b),((ak.mono c).mono b),((al.mono c).mono b),(((ag.mono d).mono c).mono b),(((ah.mono d).mono c).mono b),(((ai.mono d).mono c).mono b),(((((y.mono e).mono g).mono d).mono c).mono b),(((((aa.mono e).mono g).mono d).mono c).mono b),(((((ab.mono e).mono g).mono d).mono c).mono b),((((((ad.mono j).mono e).mono g).mono d).mono c).mono b),((((((ae.mono j).mono e).mono g).mono d).mono c).mono b),((((((af.mono j).mono e).mono g).mono d).mono c).mono b),((((((aw.mono j).mono e).mono g).mono d).mono c).mono b),h⟩
       have h:=OI (of_decide_eq_false ax) h;refine C5 29 a kI178 Z Z Z Z ax Z<|C5 30 a kI178 Z Z Z Z ax Z<|A8 31 a kI178 Z (fun _ _=>AS ax Z) Z<|A8 32 a kI178 Z (fun _ _=>Am Z) Z<|EK<|AA _ ⟨x,((aj.mono c).mono b),((ak.mono c).mono b),((al.mono c).mono b),(((ag.mono d).mono c).mono b),(((ah.mono d).mono c).mono b),(((ai.mono d).mono c).mono b),(((((y.mono e).mono g).mono d).mono c).mono b),(((((aa.mono e).mono g).mono d).mono c).mono b),(((((ab.mono e).mono g).mono d).mono c).mono b),((((((ad.mono j).mono e).mono g).mono d).mono c).mono b),((((((ae.mono j).mono e).mono g).mono d).mono c).mono b),((((((af.mono j).mono e).mono g).mono d).mono c).mono b),((((((aw.mono j).mono e).mono g).mono d).mono c).mono b),h⟩
      have h:=Y4 av h;refine C5 24 a kI173 Z Z Z Z av Z<|C5 25 a kI173 Z Z Z Z av Z<|C5 26 a kI173 Z Z Z Z av Z<|A8 27 a kI173 Z (fun _ _=>AS av Z) Z<|A8 28 a kI173 Z (fun _ _=>Am Z) Z<|C5 29 a kI173 Z Z Z Z Z Z<|C5 30 a kI173 Z Z Z Z Z Z<|A8 31 a kI173 Z (fun _ _=>AS Z Z) Z<|A8 32 a kI173 Z (fun _ _=>Am Z) Z<|EK ?_
      refine AA _ ⟨p,((aj.mono c).mono b),((ak.mono c).mono b),((al.mono c).mono b),(((ag.mono d).mono c).mono b),(((ah.mono d).mono c).mono b),(((ai.mono d).mono c).mono b),(((((y.mono e).mono g).mono d).mono c).mono b),(((((aa.mono e).mono g).mono d).mono c).mono b),(((((ab.mono e).mono g).mono d).mono c).mono b),((((((ad.mono j).mono e).mono g).mono d).mono c).mono b),((((((ae.mono j).mono e).mono g).mono d).mono c).mono b),((((((af.mono j).mono e).mono g).mono d).mono c).mono b),((((((aw.mono j).mono e).mono g).mono d).mono c).mono b),h⟩
     have h:=OI (of_decide_eq_false am) h;refine C5 18 a kI161 Z Z Z Z am Z<|C5 19 a kI161 Z Z Z Z am Z<|C5 20 a kI161 Z Z Z Z am Z<|C5 21 a kI161 Z Z Z Z am Z<|A8 22 a kI161 Z (fun _ _=>AS am Z) Z<|A8 23 a kI161 Z (fun _ _=>Am Z) Z<|C5 24 a kI161 Z Z Z Z Z Z<|C5 25 a kI161 Z Z Z Z Z Z<|C5 26 a kI161 Z Z Z Z Z Z<|A8 27 a kI161 Z (fun _ _=>AS Z Z) Z<|A8 28 a kI161 Z (fun _ _=>Am Z) Z<|C5 29 a kI161 Z Z Z Z Z Z<|C5 30 a kI161 Z Z Z Z Z Z<|A8 31 a kI161 Z (fun _ _=>AS Z Z) Z<|A8 32 a kI161 Z (fun _ _=>Am Z) Z<|EK ?_
     refine AA _ ⟨o,((aj.mono c).mono b),((ak.mono c).mono b),((al.mono c).mono b),(((ag.mono d).mono c).mono b),(((ah.mono d).mono c).mono b),(((ai.mono d).mono c).mono b),(((((y.mono e).mono g).mono d).mono c).mono b),(((((aa.mono e).mono g).mono d).mono c).mono b),(((((ab.mono e).mono g).mono d).mono c).mono b),((((((ad.mono j).mono e).mono g).mono d).mono c).mono b),((((((ae.mono j).mono e).mono g).mono d).mono c).mono b),((((((af.mono j).mono e).mono g).mono d).mono c).mono b),((((((aw.mono j).mono e).mono g).mono d).mono c).mono b),h⟩
    have h:=Y4 au h;refine C5 13 a kI161 Z Z Z Z au Z<|C5 14 a kI161 Z Z Z Z au Z<|C5 15 a kI161 Z Z Z Z au Z<|A8 16 a kI161 Z (fun _ _=>AS au Z) Z<|A8 17 a kI161 Z (fun _ _=>Am Z) Z<|C5 18 a kI161 Z Z Z Z Z Z<|C5 19 a kI161 Z Z Z Z Z Z<|C5 20 a kI161 Z Z Z Z Z Z<|C5 21 a kI161 Z Z Z Z Z Z<|A8 22 a kI161 Z (fun _ _=>AS Z Z) Z<|A8 23 a kI161 Z (fun _ _=>Am Z) Z<|C5 24 a kI161 Z Z Z Z Z Z<|C5 25 a kI161 Z Z Z Z Z Z<|C5 26 a kI161 Z Z Z Z Z Z<|A8 27 a kI161 Z (fun _ _=>AS Z Z) Z<|A8 28 a kI161 Z (fun _ _=>Am Z) Z<|C5 29 a kI161 Z Z Z Z Z Z<|C5 30 a kI161 Z Z Z Z Z Z ?_
    refine A8 31 a kI161 Z (fun _ _=>AS Z Z) Z<|A8 32 a kI161 Z (fun _ _=>Am Z) Z<|EK<|AA _ ⟨o,((aj.mono c).mono b),((ak.mono c).mono b),((al.mono c).mono b),(((ag.mono d).mono c).mono b),(((ah.mono d).mono c).mono b),(((ai.mono d).mono c).mono b),(((((y.mono e).mono g).mono d).mono c).mono b),(((((aa.mono e).mono g).mono d).mono c).mono b),(((((ab.mono e).mono g).mono d).mono c).mono b),((((((ad.mono j).mono e).mono g).mono d).mono c).mono b),((((((ae.mono j).mono e).mono g).mono d).mono c).mono b),((((((af.mono j).mono e).mono g).mono d).mono c).mono b),((((((aw.mono j).mono e).mono g).mono d).mono c).mono b),h⟩
   have h:=Y4 ar h;refine C5 8 a kI154 Z Z Z Z ar Z<|C5 9 a kI154 Z Z Z Z ar Z<|C5 10 a kI154 Z Z Z Z ar Z<|A8 11 a kI154 Z (fun _ _=>AS ar Z) Z<|A8 12 a kI154 Z (fun _ _=>Am Z) Z<|C5 13 a kI154 Z Z Z Z Z Z<|C5 14 a kI154 Z Z Z Z Z Z<|C5 15 a kI154 Z Z Z Z Z Z<|A8 16 a kI154 Z (fun _ _=>AS Z Z) Z<|A8 17 a kI154 Z (fun _ _=>Am Z) Z<|C5 18 a kI154 Z Z Z Z Z Z<|C5 19 a kI154 Z Z Z Z Z Z<|C5 20 a kI154 Z Z Z Z Z Z<|C5 21 a kI154 Z Z Z Z Z Z<|A8 22 a kI154 Z (fun _ _=>AS Z Z) Z<|A8 23 a kI154 Z (fun _ _=>Am Z) Z<|C5 24 a kI154 Z Z Z Z Z Z<|C5 25 a kI154 Z Z Z Z Z Z<|C5 26 a kI154 Z Z Z Z Z Z ?_
   refine A8 27 a kI154 Z (fun _ _=>AS Z Z) Z<|A8 28 a kI154 Z (fun _ _=>Am Z) Z<|C5 29 a kI154 Z Z Z Z Z Z<|C5 30 a kI154 Z Z Z Z Z Z<|A8 31 a kI154 Z (fun _ _=>AS Z Z) Z<|A8 32 a kI154 Z (fun _ _=>Am Z) Z<|EK<|AA _ ⟨q,((aj.mono c).mono b),((ak.mono c).mono b),((al.mono c).mono b),(((ag.mono d).mono c).mono b),(((ah.mono d).mono c).mono b),(((ai.mono d).mono c).mono b),(((((y.mono e).mono g).mono d).mono c).mono b),(((((aa.mono e).mono g).mono d).mono c).mono b),(((((ab.mono e).mono g).mono d).mono c).mono b),((((((ad.mono j).mono e).mono g).mono d).mono c).mono b),((((((ae.mono j).mono e).mono g).mono d).mono c).mono b),((((((af.mono j).mono e).mono g).mono d).mono c).mono b),((((((aw.mono j).mono e).mono g).mono d).mono c).mono b),h⟩
  have h:=OI (of_decide_eq_false aq) h;refine C5 3 a kI149 Z Z Z Z aq Z<|C5 4 a kI149 Z Z Z Z aq Z<|C5 5 a kI149 Z Z Z Z aq Z<|A8 6 a kI149 Z (fun _ _=>AS aq Z) Z<|A8 7 a kI149 Z (fun _ _=>Am Z) Z<|C5 8 a kI149 Z Z Z Z Z Z<|C5 9 a kI149 Z Z Z Z Z Z<|C5 10 a kI149 Z Z Z Z Z Z<|A8 11 a kI149 Z (fun _ _=>AS Z Z) Z<|A8 12 a kI149 Z (fun _ _=>Am Z) Z<|C5 13 a kI149 Z Z Z Z Z Z<|C5 14 a kI149 Z Z Z Z Z Z<|C5 15 a kI149 Z Z Z Z Z Z<|A8 16 a kI149 Z (fun _ _=>AS Z Z) Z<|A8 17 a kI149 Z (fun _ _=>Am Z) Z<|C5 18 a kI149 Z Z Z Z Z Z<|C5 19 a kI149 Z Z Z Z Z Z<|C5 20 a kI149 Z Z Z Z Z Z ?_
  refine C5 21 a kI149 Z Z Z Z Z Z<|A8 22 a kI149 Z (fun _ _=>AS Z Z) Z<|A8 23 a kI149 Z (fun _ _=>Am Z) Z<|C5 24 a kI149 Z Z Z Z Z Z<|C5 25 a kI149 Z Z Z Z Z Z<|C5 26 a kI149 Z Z Z Z Z Z<|A8 27 a kI149 Z (fun _ _=>AS Z Z) Z<|A8 28 a kI149 Z (fun _ _=>Am Z) Z<|C5 29 a kI149 Z Z Z Z Z Z<|C5 30 a kI149 Z Z Z Z Z Z<|A8 31 a kI149 Z (fun _ _=>AS Z Z) Z<|A8 32 a kI149 Z (fun _ _=>Am Z) Z<|EK ?_;have ad:=ad.mono (Aa (az.trans (a2.trans (a3.trans a4))));have ae:=ae.mono (Aa (az.trans (a2.trans (a3.trans a4))));have af:=af.mono (Aa (az.trans (a2.trans (a3.trans a4))));have g:=g.trans (Aa (dj.trans (dk.trans (dl.trans (dm.trans (bh.trans (bi.trans (bj.trans bk))))))))
  have d:=d.trans (Aa (dn.trans (bl.trans (bm.trans (bn.trans bo)))));have c:=c.trans (Aa (dp.trans (dq.trans (dr.trans cz))));refine AA _ ⟨m,((aj.mono c).mono b),((ak.mono c).mono b),((al.mono c).mono b),(((ag.mono d).mono c).mono b),(((ah.mono d).mono c).mono b),(((ai.mono d).mono c).mono b),(((((y.mono e).mono g).mono d).mono c).mono b),(((((aa.mono e).mono g).mono d).mono c).mono b),(((((ab.mono e).mono g).mono d).mono c).mono b),((((((ad.mono j).mono e).mono g).mono d).mono c).mono b),((((((ae.mono j).mono e).mono g).mono d).mono c).mono b),((((((af.mono j).mono e).mono g).mono d).mono c).mono b),((((((aw.mono j).mono e).mono g).mono d).mono c).mono b),h⟩
 rintro bp it ⟨fv,hq,hr,hs,ht,hu,hv,hw,hx,hy,hz,hm,hn,ho,h⟩;refine Ay ?_
 cases h
 refine Al Z ⟨fv.ext,Z⟩
end
end Go.Proofs.YtekmbcbgknmhiaaGreatDoor
end
noncomputable section
namespace Go.L
def Afb(a:List UInt8):List (Fin (a.length+1)):=isB (fun x y=>!(Go.Proofs.ltOf (K2 a)) y x) (PN a.length)
def Afc(a:List UInt8):List Int:=(Afb a).map fun x=>(x.val:Int)
theorem QN(a:List UInt8):Afc a=DF a:=by
 have h:Afb a=Aag a:=by
  have hlt:∀ x y,(!(Go.Proofs.ltOf (K2 a)) y x)=true↔¬ K2 a y x<0:=fun x y=>by simp [Go.Proofs.ltOf]
  refine Ye (fun x y z c h2=>?_) (fun x y=>?_) (fun x y c h2=>?_) _
  ·rw [hlt] at *;intro h3;unfold K2 at *;have s1:=KI (a.drop x.val) (a.drop y.val)
   rcases Qke (Lib.compareBytes (a.drop x.val) (a.drop y.val)) 0 with b | b | b
   ·exact h2 (N5 _ _ _ h3 b)
   ·rw [Q3 _ _ b] at h3;exact h2 h3
   ·omega
  ·rw [hlt,hlt];unfold K2;have s1:=KI (a.drop x.val) (a.drop y.val);omega
  ·exact P5 a x y (by simpa using h2) (by simpa using c)
 unfold Afc DF;rw [h]
end Go.L
namespace Go.Proofs.YtekmbcbgknmhiaaGreatDoor
open Go Go.E Go.RowKit
def QO{β:Type}(l:List (List UInt8×β)):Option (List (List UInt8)):=
 match l.map Qq5 with
 | []=>some []
 | [a]=>if a.length<1000 then some [a] else none
 | [a,b]=>if a.length<1000/\b.length<1000/\a≠b then some (if leB a b then[a,b] else[b,a]) else none
 | _=>none
theorem Wz{β:Type}(l:List (List UInt8×β)):Go.L.Ap (QO l) (M5 l):=by
 intro r h;have hm:(1000:Nat)<=maxLen:=by decide
 have hl:(l.map Qq5).length=l.length:=Qzk ..
 suffices key:S2 l/\some ((l.map Qq5).mergeSort leB)=some r by
  unfold M5;rw [Go.L.Ad key.1];exact key.2
 unfold S2;rw [<- hl];unfold QO at h;generalize l.map Qq5=k at *
 match k,h with
 | [],h=>
  cases h
  exact⟨⟨List.nodup_nil,fun x hx=>(by cases hx),by decide⟩,by simp⟩
 | [a],h=>
  simp only at h
  split at h
  ·rename_i ha
   cases h
   exact⟨⟨by simp,fun x hx=>(by rw [QzB.1 hx];omega),by simp⟩,by simp⟩
  ·cases h
 | [a,b],h=>
  simp only at h
  split at h
  ·rename_i ha;obtain⟨c,h2,h3⟩:=ha
   cases h
   refine⟨⟨by simp [h3],fun x hx=>?_,by simp⟩,?_⟩
   ·rcases Qzy.1 hx with rfl | hx
    ·omega
    ·rw [QzB.1 hx];omega
   ·simp [List.mergeSort,List.merge,List.MergeSort.Internal.splitInTwo]
  ·cases h
 | _::_::_::_,h=>cases h
instance {β:Type} (l:List (List UInt8×β)):Go.L.Mi (M5 l):=⟨QO l,Wz l⟩
end Go.Proofs.YtekmbcbgknmhiaaGreatDoor
end
