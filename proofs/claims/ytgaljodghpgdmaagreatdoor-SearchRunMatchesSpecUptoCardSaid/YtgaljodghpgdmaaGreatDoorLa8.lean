/- Texts of a claim, merged. -/
import Derived.Test.YtgaljodghpgdmaaGreatDoorLa7
import Derived.KernelRfl
import Derived.ProofKit
import Derived.OpenShut
import Derived.Carry
import Derived.Deep.Slices
import Derived.Test.YtgaljodghpgdmaaGreatDoorRows
import Derived.Lib.LaidU8T
import Derived.Lib.LaidTab
import Derived.Stop.LaidErr
import Derived.LaidMore
import Derived.MakeChecks
import Derived.LaidHandle
open Option renaming some->TI
open _root_.Go.Proofs.Tryz renaming underlying27→Vv,underlying28→Xe,underlying22→Adh,underlying24→LS,underlying25→U5,underlying39→QW,underlying47→VV,underlying52→Vz,underlying59→RO,underlying116→AlB,underlying5→V0
open Option renaming bind->Xd,bind_some->Wo,map->Sh
open List renaming getD_eq_getElem?_getD->Sb,getElem?_eq_getElem->Pa,length_cons->PF,length_map->Vx,length_append->T6,range->VO,mem_cons->R7,mem_cons_of_mem->RT,mem_cons_self->SZ,length_take->Y4,getElem?_eq_some_iff->Z9,mem_singleton->TG,drop_eq_nil_of_le->UU,length_nil->RZ,mem_append->MY,append_nil->R0,map_cons->Yu,take_of_length_le->Sg,pairwise_cons->QU,getElem_mem->Rs,length_singleton->T9,mem_range->PQ,append_assoc->YW,mem_map->Rr,length_range->Z3,map_append->K4,length_filter_le->Xj,take_add_one->Vf,take_length->EC,length_pos_iff->Kh,drop_zero->YA,mem_filter->Zf,filter_append->Vw,pairwise_append->SE,mem_map_of_mem->Rz,getElem?_append_right->UY,map_map->Xc,take_append_getElem->SR,sum_cons->Th,getElem?_append_left->Ry,filter_nil->Xs,filter_cons->V1,exists_cons_of_ne_nil->TP
open Int renaming toNat_natCast->SV
open Prod renaming fst->TJ,snd->NB,ext->YI
open Nat renaming le_refl->KN,lt_or_ge->TC
open Bool renaming false_ne_true->Xr,eq_iff_iff->Z8,and_false->QA
open UInt8 renaming ofNat->SJ
open ByteArray renaming size->Vl
set_option linter.defProp false
set_option linter.unusedVariables false
set_option linter.unusedSimpArgs false
set_option linter.unusedSectionVars false
noncomputable section
namespace Go.L
open Go Go.Proofs.YtgaljodghpgdmaaGreatDoor
def Adi{t:Qm}{l:Sa}(hl:l≠[]):(0:Int)<((Om 0 [t] l).length:Int)↔∃k:Int,∀m:Nat,m<l.length->S1 t (l.getD m Qq7) (k+(m:Int)):=by
 have e:Om 0 [t] l=PS 0 (Tu t) l:=by simp[Om]
 have hne:0<l.length:=Kh.2 hl;rw[e];unfold PS;rw[Vx]
 constructor
 ·intro h;obtain⟨k,hk⟩:=List.exists_mem_of_length_pos (by omega:0<((VO ((Tu t).length+1 - l.length)).filter (Q6 (Tu t) l)).length);obtain⟨a,h2⟩:=Zf.1 hk;rw[PQ]at a;exact⟨k,λm hm=>⟨k+m,by omega,by omega,Z4 h2 m hm⟩⟩
 ·rintro⟨k,h⟩;obtain⟨n,hn,a,h2⟩:=h 0 hne;obtain⟨n',hn',h1',_⟩:=h (l.length - 1) U
  have hm:n∈(VO ((Tu t).length+1 - l.length)).filter (Q6 (Tu t) l):=Zf.2 ⟨PQ.2 U,Xq λm hm=>by
   obtain⟨b,d,_,c⟩:=h m hm;have:b=n+m:=by omega
   rw[<- this];exact c⟩
  have:=List.length_pos_of_mem hm;omega
theorem WQ:∀{l:Sa} (i:Nat),(∀w∈l,wf w=(0,0))->Ti i l=none
 | [],_,_=>rfl
 | a::l,i,h=>by
  unfold Ti;rw[Xu (h a (SZ ..))];exact WQ (i+1) λw hw=>h w (RT _ hw)
theorem Ab8{b:Int->Option (Int⊕Bool)}{l:List Lf}{g:Lf->Bool}(hstep:∀i,i<l.length->b (i:Int)=if g (l.getD i Qq7)=true then TI (.inr true)else TI (.inl ((i+1:Nat):Int)))(hend:b (l.length:Int)=TI (.inr false)):Go.L.run b 0=TI (l.any g):=by
 have key:∀(d i:Nat),i+d=l.length->Go.L.run b (i:Int)=TI ((l.drop i).any g):=by
  intro d
  induction d with
  | zero=>
   intro i hi;have:i=l.length:=by omega
   subst this;rw[List.drop_length];exact A2 (m:=TI false) hend
  | succ d ih=>
   intro i hi;have hil:i<l.length:=by omega
   have hb:=hstep i hil;rw[drop_cons hil,List.any_cons]
   by_cases h:g (l.getD i Qq7)=true
   ·rw[Xu h]at hb;rw[A2 (m:=TI true) hb,h]
    rfl
   ·rw[Pb h]at hb;have h':g (l.getD i Qq7)=false:=by simpa using h
    rw[AE hb,ih (i+1) U,h',Bool.false_or]
 have:=key l.length 0 U
 rwa [YA]at this
end Go.L
namespace Go.Proofs.YtgaljodghpgdmaaGreatDoor
open Go Go.L
def Zm{v:Pv}(hv:Vd 10 v){x:Lf}(hx:x∈NJ 10 v []):x.1.length<=330:=by
 obtain⟨q,u,rfl,h2,h3,a,b⟩:=Aby 10 v [] hv (λy hy=>by cases hy) hx;have:=h2.Uy;simp only[RZ]at h3
 show(jn q).length<=330
 omega
def Aej{v:Pv}{pat:Qm}(hv:Vd 10 v)(hn:nodes 10 v<=600)(hp:pat.length<900):Oi v pat=TI ((NJ 10 v []).any λx=>Zq pat (x,[])):=by
 unfold Oi AgG;rw[MA hv U,Wo];have hlen:(NJ 10 v []).length<=600:=by rw[Oh];exact hn
 have hpth:=λx (hx:x∈NJ 10 v [])=>Zm hv hx;generalize NJ 10 v []=l at *;refine Ab8 (λi hi=>?_) ?_
 ·have hm:Fz pat (l.getD i Qq7).1=TI (Zq pat (l.getD i Qq7,[])):=Wg U (by have:=hpth _ (BU hi);omega);unfold J8;rw[Xu U,Ab U,SV,hm,Wo,Ab U]
  rfl
 ·unfold J8 N7;rw[Pb U]
  rfl
def Ab9{v:Pv}{pat:Qm}{lo hi:Int}(hv:Vd 10 v)(hn:nodes 10 v<=600)(hp:pat.length<900):LC v pat lo hi=TI ((NJ 10 v []).any λx=>qmE pat lo hi (x,[])):=by
 unfold LC Pw;rw[MA hv U,Wo];have hlen:(NJ 10 v []).length<=600:=by rw[Oh];exact hn
 have hpth:=λx (hx:x∈NJ 10 v [])=>Zm hv hx;generalize NJ 10 v []=l at *;refine Ab8 (λi hi'=>?_) ?_
 ·have hm:Fz pat (l.getD i Qq7).1=TI (Zq pat (l.getD i Qq7,[])):=Wg U (by have:=hpth _ (BU hi');omega);have hq:qmE pat lo hi (l.getD i Qq7,[])=(Zq pat (l.getD i Qq7,[])&&decide ((l.getD i Qq7).2.1=1/\lo<=(l.getD i Qq7).2.2.1/\(l.getD i Qq7).2.2.1<=hi)):=Z;unfold HP Eb;rw[Xu U,Ab U,SV,Ab U,hm,Wo,Ab U,Wo,Ab U,hq]
  by_cases c1:(l.getD i Qq7).2.1=1
  ·by_cases c2:lo<=(l.getD i Qq7).2.2.1/\(l.getD i Qq7).2.2.1<=hi
   ·rw[Xu c1,Xq c2,Xu Z,Xq (⟨c1,c2⟩:_/\_),Bool.and_true]
    rfl
   ·rw[Xu c1,UK c2,Pb Xr,UK (λh=>c2 h.2),QA,Pb Xr]
    rfl
  ·rw[Pb c1,UK (λh=>c1 h.1),QA,Pb Xr]
   rfl
 ·unfold HP LA;rw[Pb U]
  rfl
def Adj{v:Pv}{pat dat:Qm}(hv:Vd 10 v)(hn:nodes 10 v<=600)(hp:pat.length<900):MP v pat dat=TI ((NJ 10 v []).any λx=>tmE pat dat (x,[])):=by
 unfold MP Q3;rw[MA hv U,Wo];have hlen:(NJ 10 v []).length<=600:=by rw[Oh];exact hn
 have hpth:=λx (hx:x∈NJ 10 v [])=>Zm hv hx;generalize NJ 10 v []=l at *;refine Ab8 (λi hi'=>?_) ?_
 ·have hm:Fz pat (l.getD i Qq7).1=TI (Zq pat (l.getD i Qq7,[])):=Wg U (by have:=hpth _ (BU hi');omega);have hq:tmE pat dat (l.getD i Qq7,[])=(Zq pat (l.getD i Qq7,[])&&decide ((l.getD i Qq7).2.1=2/\(l.getD i Qq7).2.2.2=dat)):=Z;unfold IE;rw[Xu U,Ab U,SV,Ab U,Ab U,hm,Wo,Ab U,hq]
  by_cases c1:(l.getD i Qq7).2.1=2
  ·by_cases c2:(l.getD i Qq7).2.2.2=dat
   ·rw[Xu c1,Xu c2,Xq (⟨c1,c2⟩:_/\_),Bool.and_true]
    rfl
   ·rw[Xu c1,Pb c2,UK (λh=>c2 h.2),QA,Pb Xr]
    rfl
  ·rw[Pb c1,UK (λh=>c1 h.1),QA,Pb Xr]
   rfl
 ·unfold IE M8;rw[Pb U]
  rfl
def Am2{q:Qv}(h:Rw q=true)(e:q.f.1=2):q.f.2.1.length<=16:=by
 unfold Rw at h;simp only[Bool.and_eq_true]at h;obtain⟨⟨⟨⟨⟨a,_⟩,_⟩,_⟩,_⟩,_⟩:=h;rw[e]at a;simp at a;omega
def Aja{b:Bool}{p:Prop}[Decidable p](h:b=true↔p):b=decide p:=by cases b <;> simp_all
def Ajb{d:Qm×Pv}(ht:d.1.length<=2048)(hv:Vd 10 d.2)(hn:nodes 10 d.2<=600){q:Qv}(hq:nf q=0)(z:q.f.1<8)(self:(Qm×Pv)->Qv->Option Bool):Em self d q=TI (decide (Zx d q)):=by
 obtain⟨hk,hF,hw,hp,hnt⟩:=R2 hq;have hpl:q.f.2.2.1.length<=64:=(XE _ (by rw[hp])).2;have g:∀t∈[d.1],t.length<=2048:=λt h=>by rw[TG.1 h];exact ht
 have hb:Em self d q=DQ d q self (decide (q.f.1=1\/q.f.1=2)):=by
  unfold Em
  by_cases h:q.f.1=1
  ·rw[Xu h];simp[h]
  ·rw[Pb h];simp[h]
 rw[hb];unfold DQ;obtain h | h | h | h | h | h | h:q.f.1=1\/q.f.1=2\/q.f.1=3\/q.f.1=4\/q.f.1=5\/q.f.1=6\/q.f.1=7:=by omega
 ·have hl:=(Km hF).1 h;rw[Xq (.inl h),Xu Z,Zi Rg U g,Wo];refine congrArg TI (decide_eq_decide.2 ?_);unfold Zx;rw[Adi (λe=>by rw[e]at hl;cases hl),Xu h]
  constructor
  ·rintro⟨k,hk⟩;exact⟨_,hk 0 U⟩
  ·rintro⟨k,hk⟩;refine⟨k,λm hm=>?_⟩;obtain rfl:m=0:=by omega
   simpa using hk
 ·have hl:=(Km hF).2.1 h;have a : ¬q.f.1=1:=by omega
  have y:=Am2 hF h;have hne:q.f.2.1≠[]:=λe=>by rw[e]at hl;simp at hl
  rw[Xq (.inr h),Xu Z,Zi Rg U g,Wo];refine congrArg TI (decide_eq_decide.2 ?_);unfold Zx;rw[Adi hne,Pb a,Xu h]
  constructor
  ·rintro⟨k,hk⟩;exact⟨hne,by omega,WQ 0 hw,k,by simpa using hk 0 U,hk⟩
  ·rintro⟨_,_,_,k,_,hk⟩;exact⟨k,hk⟩
 ·have hl:=(Km hF).2.2.1 h;have a : ¬q.f.1=1:=by omega
  have b : ¬q.f.1=2:=by omega
  have hd:1<=q.f.2.2.2.2.1/\q.f.2.2.2.2.1<=2048:=by
   unfold nt at hnt
   split at hnt
   ·cases hnt
   ·omega
  obtain⟨L,w,_,r⟩:=AiR (items:=[d.1]) Rg g (q.f.2.1.getD ((0:Int).toNat) Qq7) (q.f.2.1.getD ((1:Int).toNat) Qq7) hd
  have hm:∀j:Nat,j<2->wf (q.f.2.1.getD j Qq7)=(0,0):=λj hj=>hw _ (by
   rw[Sb,Pa U];exact Rs _)
  rw[UK (λe=>e.elim a b),Pb Xr,Xu h,Ab U,Ab U,w,Wo];refine congrArg TI (decide_eq_decide.2 ?_);unfold Zx;rw[Pb a,Pb b,Xu h]
  constructor
  ·intro h0;obtain⟨x,hx⟩:=List.exists_mem_of_length_pos (by omega:0<L.length);obtain⟨k,k',n,o,p⟩:=(r x).1 hx;have s:=C3 0 _ 2048 g _ n;simp only[T9]at s;obtain rfl:x=((0:Nat):Int):=by omega
   exact⟨⟨hm 0 U,hm 1 U,hd⟩,k,k',((Q7 g).1 n).2,((Q7 g).1 o).2,p⟩
  ·rintro⟨_,k,k',n,o,p⟩;have:=(r ((0:Nat):Int)).2 ⟨k,k',(Q7 g).2 ⟨by simp,n⟩,(Q7 g).2 ⟨by simp,o⟩,p⟩;have:=List.length_pos_of_mem this;omega
 ·have a : ¬q.f.1=1:=by omega
  have b : ¬q.f.1=2:=by omega
  have c : ¬q.f.1=3:=by omega
  have hdl:=XG hnt
  have u : ¬q.f.2.2.2.1.length=0:=λe=>by
   unfold nt at hnt
   split at hnt
   ·cases hnt
   ·rw[Xu ⟨h,e⟩]at hnt;cases hnt
  rw[UK (λe=>e.elim a b),Pb Xr,Pb c,Xu h,Aeh ht U,Wo];refine congrArg TI (decide_eq_decide.2 ?_);unfold Zx;rw[Pb a,Pb b,Pb c,Xu h];have hc:Dc ((idx d.1).1,(idx d.1).2.1,(idx d.1).2.2) q.f.2.2.2.1=_:=Ade ht;have hpf:pfF q.f.2.2.2.1=(0,0):=by unfold pfF;rw[Pb u,Xu hdl]
  rw[Xu hpf]at hc;unfold pc;rw[hc];exact decide_eq_true_iff.symm
 ·have a : ¬q.f.1=1:=by omega
  have b : ¬q.f.1=2:=by omega
  have c : ¬q.f.1=3:=by omega
  have i : ¬q.f.1=4:=by omega
  rw[UK (λe=>e.elim a b),Pb Xr,Pb c,Pb i,Xu h,Aej hv hn U,Wo];refine congrArg TI (Aja ?_);unfold Zx;rw[Pb a,Pb b,Pb c,Pb i,Xu h]
 ·have a : ¬q.f.1=1:=by omega
  have b : ¬q.f.1=2:=by omega
  have c : ¬q.f.1=3:=by omega
  have i : ¬q.f.1=4:=by omega
  have l : ¬q.f.1=5:=by omega
  rw[UK (λe=>e.elim a b),Pb Xr,Pb c,Pb i,Pb l,Xu h,Ab9 hv hn U,Wo];refine congrArg TI (Aja ?_);unfold Zx;rw[Pb a,Pb b,Pb c,Pb i,Pb l,Xu h]
 ·have a : ¬q.f.1=1:=by omega
  have b : ¬q.f.1=2:=by omega
  have c : ¬q.f.1=3:=by omega
  have i : ¬q.f.1=4:=by omega
  have l : ¬q.f.1=5:=by omega
  have v : ¬q.f.1=6:=by omega
  rw[UK (λe=>e.elim a b),Pb Xr,Pb c,Pb i,Pb l,Pb v,Xu h,Adj hv hn U,Wo];refine congrArg TI (Aja ?_);unfold Zx;rw[Pb a,Pb b,Pb c,Pb i,Pb l,Pb v]
def Ajc{d:Qm×Pv}{q:Qv}{self:(Qm×Pv)->Qv->Option Bool}{f:Qv->Bool}(hl:q.f.2.2.2.2.2.2.length<=1048576)(hs:∀s∈q.f.2.2.2.2.2.2,self d s=TI (f s)):
  Jo d q self (0,0)=G3 q (((q.f.2.2.2.2.2.2.filter f).length:Nat):Int):=by
 unfold Jo;refine BM (λi=>((((q.f.2.2.2.2.2.2.take i).filter f).length:Int),(i:Int))) q.f.2.2.2.2.2.2.length (λi hi=>?_) ?_ 0
 ·have hg:q.f.2.2.2.2.2.2.getD i Qq7=q.f.2.2.2.2.2.2[i]:=by rw[Sb,Pa hi];rfl
  have hf:=Xj f (q.f.2.2.2.2.2.2.take i);rw[Y4]at hf;unfold Gd;simp only;rw[Xu U,Ab U,SV,hg,hs _ (Rs hi),Wo,<- SR hi,Vw,V1,Xs,Ab U,Ab U]
  by_cases h:f q.f.2.2.2.2.2.2[i]=true
  ·rw[Xu h,Xu h,T6,T9];exact congrArg TI (congrArg Sum.inl (YI Rg (show(i:Int)+1=((i+1:Nat):Int) by omega)))
  ·rw[Pb h,Pb h,R0,Ab U];exact congrArg TI (congrArg Sum.inl (YI Z (show(i:Int)+1=((i+1:Nat):Int) by omega)))
 ·unfold Gd;simp only;rw[Pb U,EC]
theorem Aax{l:List (Qm×Pv)}{i:Nat}(ht:(l.getD i Qq7).1.length<=2048)(hv:Vd 10 (l.getD i Qq7).2)(hn:nodes 10 (l.getD i Qq7).2<=600):∀(d:Nat) (q:Qv),Sq q->Vq d q->∀m,d<=m->FW m (l.getD i Qq7) q=TI (FB (lfb l) d q i)
 | 0,_,_,h,_,_=>h.elim
 | d+1,q,hq,hvq,m,hm=>by
  obtain⟨m,rfl⟩:∃k,m=k+1:=⟨m - 1,by omega⟩
  show Em (FW m) (l.getD i Qq7) q=_
  rw[An7]
  by_cases b:q.f.1<8
  ·rw[Xu b,Ajb ht hv hn hvq.1 b]
   rfl
  ·rw[Pb b];obtain⟨hk,hF,_⟩:=R2 hvq.1;have ih:∀s∈q.f.2.2.2.2.2.2,FW m (l.getD i Qq7) s=TI (FB (lfb l) d s i):=λs hs=>Aax ht hv hn d s (hq.sub hs) (hvq.2 s hs) m U;have hlen:q.f.2.2.2.2.2.2.length<=1048576:=hq.open.2.2.2.1;have c : ¬q.f.1=1:=by omega
   have e : ¬q.f.1=2:=by omega
   have g : ¬q.f.1=3:=by omega
   have j : ¬q.f.1=4:=by omega
   have n : ¬q.f.1=5:=by omega
   have o : ¬q.f.1=6:=by omega
   have p : ¬q.f.1=7:=by omega
   unfold Em DQ;rw[Pb c,UK e,Pb Xr,Pb g,Pb j,Pb n,Pb o,Pb p]
   by_cases a:q.f.1=10
   ·have u:=(Km hF).2.2.2.1 a;rw[Xu a,Xu a,Ab U,ih _ (Wr U),Wo]
    rfl
   ·have h2:=(Km hF).2.2.2.2 U;rw[Pb a,Pb a,Ajc hlen ih];unfold G3;refine congrArg TI ?_
    by_cases h8':q.f.1=8
    ·have r : ¬q.f.1=9:=by omega
     rw[Xu h8',UK r,Bool.false_and,Bool.or_false,Z8,decide_eq_true_iff,List.all_eq_true,<- List.length_filter_eq_length_iff];omega
    ·have t:q.f.1=9:=by omega
     rw[Pb h8',Xq t,Bool.true_and,Z8,Bool.or_eq_true,decide_eq_true_iff,decide_eq_true_iff,List.any_eq_true];have hp:=@List.length_filter_pos_iff _ q.f.2.2.2.2.2.2 (λs=>FB (lfb l) d s i)
     constructor
     ·intro h;exact hp.1 U
     ·intro h;have:=hp.2 h;exact .inr U
def Aek{l:List (Qm×Pv)}{i:Nat}(ht:(l.getD i Qq7).1.length<=2048)(hv:Vd 10 (l.getD i Qq7).2)(hn:nodes 10 (l.getD i Qq7).2<=600){q:Qv}(hq:Sq q){d:Nat}(hd:d<=1000)(hvq:Vq d q):Oj (l.getD i Qq7) q=TI (FB (lfb l) d q i):=Aax ht hv hn d q hq hvq 1000 hd
def AkU{a:Lf}: ¬D4 a a<0:=λh=>by have:=Ia.swap a a;omega
def Ag0{l:List Lf}(h:l.Pairwise (λa b=>D4 a b<0)):IK l=l:=by
 rw[<- L8]
 have hs:l.Pairwise (λx y=>(λx y=>!(Go.Proofs.ltOf D4) y x) x y=true):=h.imp λ{a b} hab=>by
  have:=Ia.swap a b;simp only[Go.Proofs.ltOf,Bool.not_eq_true',decide_eq_false_iff_not];omega
 rw[L8]
 exact Wi (le:=λx y=>!(Go.Proofs.ltOf D4) y x) (λa b e h2=>Ia.parts a b (by simpa using h2) (by simpa using e)) (M4 l) (by
  have:=L8 l
  have hsorted:(IK l).Pairwise λx y=>(!(Go.Proofs.ltOf D4) y x)=true:=by
   rw[<- this];have hlt:∀a b,(!(Go.Proofs.ltOf D4) b a)=true↔¬D4 b a<0:=λa b=>by simp[Go.Proofs.ltOf]
   refine Rm (λa b c e h2=>?_) (λa b=>?_) l
   ·rw[hlt]at *;intro h3;have s1:=Ia.swap a b
    rcases Int.lt_trichotomy (D4 a b) 0 with d | d | d
    ·exact h2 (Ia.trans c a b h3 d)
    ·rw[Ia.zero a b d]at h3;exact h2 h3
    ·omega
   ·rw[hlt,hlt];have s1:=Ia.swap a b;omega
  exact hsorted) hs
theorem Aay:∀(n u:Nat) (L:Qm),u<128 ^ n->u<2 ^ 64->L.length+n<=1000->n<=10->1<=n->Go.L.run Gm (L,(u:Int))=TI (L++Vn n u)
 | 0,_,_,_,_,_,_,h=>absurd h U
 | n+1,u,L,hu,c,hL,hn,_=>by
  unfold Vn
  by_cases h:128<=u
  ·have b:1<=n:=by
    rcases Nat.eq_zero_or_pos n with a | a
    ·subst a;simp at hu;omega
    ·exact a
   have e:Gm (L,(u:Int))=TI (.inl (L++[SJ (u % 128+128)],((u / 128:Nat):Int))):=by
    unfold Gm;dsimp only;rw[Xu U,Ab U,Ab (by unfold Go.E.Dx;simp;omega),Ab U,Ams]
    rfl
   rw[AE e,Aay n (u / 128) _ (Nat.div_lt_of_lt_mul (by rw[Nat.pow_succ,Nat.mul_comm]at hu;exact hu)) U U U b,Xu h];simp
  ·rw[Pb h];refine A2 (m:=TI (L++[SJ u])) ?_;unfold Gm OR;dsimp only;rw[Pb U,Ab (by unfold Go.E.Dx;simp;omega),AcJ]
def MB{a:Int}(h:AL a):F4 a=TI (Ly (zz a)):=by
 have hz:=Al3 h;unfold AL at h;unfold F4 LH;simp only[Aiq];have hr:QjX ([],((zz a:Nat):Int))=TI (Ly (zz a)):=Aay 10 (zz a) [] (Nat.lt_trans hz Y5) U Y5 Y5 Y5
 by_cases b:a<0
 ·rw[Xu b,Ab U];rw[<- hr]
  congr 2
  unfold zz;rw[Pb U,Nat.xor_comm,Afi U];omega
 ·rw[Pb b,<- hr]
  congr 2
  unfold zz;rw[Xu U];omega
end Go.Proofs.YtgaljodghpgdmaaGreatDoor
end
noncomputable section
namespace Go.L
theorem Zn:∀x y:Qm,Op.bytesLess x y=decide (Lib.compareBytes x y<0)
 | [],[]=>by simp[Op.bytesLess,Lib.compareBytes]
 | _::_,[]=>by simp[Op.bytesLess,Lib.compareBytes]
 | [],_::_=>by simp[Op.bytesLess,Lib.compareBytes]
 | a::x,b::y=>by
  rw[Op.bytesLess,Zn x y,Lib.compareBytes]
  by_cases c:a<b
  ·simp[c]
  ·by_cases h2:b<a
   ·have h3:a≠b:=λe=>by subst e;exact absurd h2 (UInt8.lt_irrefl a)
    simp[c,h2,h3]
   ·have h3:a=b:=UInt8.le_antisymm (UInt8.not_lt.1 h2) (UInt8.not_lt.1 c);subst h3;simp
end Go.L
namespace Go.Proofs.YtgaljodghpgdmaaGreatDoor
open Go Go.L
def T2(x y:Int):Xb x y=0↔x=y:=by unfold Xb;split;omega;split <;> omega
def Adk(x y:Int):Xb x y<0↔x<y:=by unfold Xb;split;omega;split <;> omega
def Ag1(a b:Lf):Nl a b=TI (decide (D4 a b<0)):=by
 unfold Nl D4 SK
 by_cases c:a.1=b.1
 ·rw[Xu c,Xu (show Lib.compareBytes a.1 b.1=0 by rw[c];exact UP _)]
  by_cases h2:a.2.1=b.2.1
  ·rw[Xu h2,Xu ((T2 _ _).2 h2)]
   by_cases h3:a.2.2.1=b.2.2.1
   ·rw[Xu h3,Xu ((T2 _ _).2 h3),Zn]
   ·rw[Pb h3,Pb (λh=>h3 ((T2 _ _).1 h)),decide_eq_decide.2 (Adk _ _)]
  ·rw[Pb h2,Pb (λh=>h2 ((T2 _ _).1 h)),decide_eq_decide.2 (Adk _ _)]
 ·rw[Pb c,Pb (λh=>c (Sy _ _ h)),Zn]
theorem Zo{l:List Lf}(hl:l.length<=1000000000)(a:Lf):J9 l a=TI (decide (a∈l)):=by
 have key:∀(d i:Nat),i+d=l.length->Go.L.run (F9 l a) (i:Int)=TI (decide (a∈l.drop i)):=by
  intro d
  induction d with
  | zero=>
   intro i hi;rw[UU U];refine A2 (m:=TI _) ?_;unfold F9 N8;rw[Pb U];simp
  | succ d ih=>
   intro i hi;have hil:i<l.length:=by omega
   rw[drop_cons hil]
   have hq:((l.getD i Qq7).1=a.1/\(l.getD i Qq7).2.1=a.2.1/\(l.getD i Qq7).2.2.1=a.2.2.1/\(l.getD i Qq7).2.2.2=a.2.2.2)↔l.getD i Qq7=a:=
    ⟨λ⟨b,h2,h3,c⟩=>YI b (YI h2 (YI h3 c)),λh=>by rw[h];exact⟨Z,Z,Z,Z⟩⟩
   have hb:F9 l a (i:Int)=if l.getD i Qq7=a then TI (.inr true)else TI (.inl ((i+1:Nat):Int)):=by
    unfold F9;rw[Xu U,Ab U,SV,Ab U]
    by_cases h:l.getD i Qq7=a
    ·rw[Xu (hq.2 h),Xu h];rfl
    ·rw[Pb (λe=>h (hq.1 e)),Pb h];rfl
   by_cases h:l.getD i Qq7=a
   ·rw[Xu h]at hb;rw[A2 (m:=TI true) hb,h];simp
   ·rw[Pb h]at hb;rw[AE hb,ih (i+1) U]
    congr 1
    rw[decide_eq_decide,R7];exact⟨.inr,λhh=>hh.resolve_left (λe=>h e.symm)⟩
 have:=key l.length 0 U
 rwa [YA]at this
def Ag2(a b:Lf)(h:a≠b):D4 a b<0\/D4 b a<0:=by
 have s1:=Ia.swap a b;have:D4 a b≠0:=λe=>h (Ia.zero a b e);omega
theorem Ajd(c:Int)(d:AL (c+1)):∀(A B:List Lf) (x:Lf),A.length+B.length<=1000000000->(A++B).Pairwise (λa b=>D4 a b<0)->x∉A++B->(∀b∈B,D4 x b<0)->
  ∃r,Go.L.run (DC c) (A++x::B,(A.length:Int))=TI (Sum.inl (r,c+1))/\r.Pairwise (λa b=>D4 a b<0)/\(∀y,y∈r↔y=x\/y∈A++B)/\r.length=A.length+B.length+1:=by
 intro A
 induction h:A.length generalizing A with
 | zero=>
  intro B x hl hp hx hb;have:A=[]:=List.eq_nil_of_length_eq_zero h;subst this;refine⟨x::B,A2 (m:=TI (Sum.inl (x::B,c+1))) ?_,?_,?_,?_⟩
  ·unfold DC El;dsimp only;rw[Pb U,Ab d]
   rfl
  ·exact QU.2 ⟨hb,hp⟩
  ·intro y;simp
  ·simp
 | succ n ih=>
  intro B x hl hp hx hb
  obtain⟨A',y,rfl⟩:∃A' y,A=A'++[y]:=by
   rcases List.eq_nil_or_concat A with i | ⟨A',y,i⟩
   ·subst i;simp at h
   ·exact⟨A',y,by simpa using i⟩
  have hA':A'.length=n:=by simpa using h
  have f:((A'++[y])++x::B).getD (n+1) Qq7=x:=by
   rw[Sb,UY U];simp[hA']
  have g:((A'++[y])++x::B).getD n Qq7=y:=by
   rw[Sb,YW,UY U,hA',Nat.sub_self]
   rfl
  have hlen:((A'++[y])++x::B).length=n+1+B.length+1:=by simp;omega
  have hyx:y≠x:=λe=>hx (by rw[<- e];simp);have hbf:Nl (x.1,x.2.1,x.2.2.1,x.2.2.2) (y.1,y.2.1,y.2.2.1,y.2.2.2)=TI (decide (D4 x y<0)):=Ag1 x y
  by_cases hlt:D4 x y<0
  ·have hstep:DC c ((A'++[y])++x::B,((n+1:Nat):Int))=TI (.inl (A'++x::y::B,(n:Int))):=by
    unfold DC;dsimp only;rw[Xu U,Ab U,Ab U,Ab U,SV,show(((n+1:Nat):Int) - 1).toNat=n by omega,f,g,hbf,Wo,Xu (by simpa using hlt),Ab U,Ab U,Ab U,Ab U,Ab U,Ab (by rw[List.length_set];omega),Ab U];have:=AiZ (A:=A') (B:=B) (y:=y) (x:=x);rw[hA']at this
    show TI (Sum.inl ((((A'++[y])++x::B).set (n+1) y).set n x,((n+1:Nat):Int) - 1))=_
    rw[show(A'++[y])++x::B=A'++y::x::B by simp,this,show((n+1:Nat):Int) - 1=(n:Int) by omega]
   rw[AE hstep];have hAB:(A'++[y])++B=A'++(y::B):=by simp
   rw[hAB]at hp hx ⊢
   obtain⟨r,k,h2,h3,l⟩:=ih A' hA' (y::B) x (by simp only[PF];omega) hp hx (λb hbm=>by
    rcases R7.1 hbm with rfl | hbm
    ·exact hlt
    ·exact hb b hbm)
   exact⟨r,k,h2,h3,by rw[l];simp;omega⟩
  ·have hle:D4 y x<0:=(Ag2 y x hyx).resolve_right hlt;refine⟨(A'++[y])++x::B,A2 (m:=TI (Sum.inl ((A'++[y])++x::B,c+1))) ?_,?_,?_,?_⟩
   ·unfold DC El;dsimp only;rw[Xu U,Ab U,Ab U,Ab U,SV,show(((n+1:Nat):Int) - 1).toNat=n by omega,f,g,hbf,Wo,Pb (by simpa using hlt),Ab d]
    try rfl
   ·obtain⟨j,o,p⟩:=SE.1 hp;refine SE.2 ⟨j,QU.2 ⟨hb,o⟩,λa ha b hbm=>?_⟩
    rcases R7.1 hbm with rfl | hbm
    ·rcases MY.1 ha with ha' | ha'
     ·exact Ia.trans _ _ _ ((SE.1 j).2.2 a ha' y Rg) hle
     ·rw[TG]at ha';subst ha';exact hle
    ·exact p a ha b hbm
   ·exact λz=>AkT
   ·rw[hlen]
theorem Aje(c:Int)(f:AL (c+1)){l:List Lf}(hl:l.length<=1000000):∀(d i:Nat) (L:List Lf),i+d=l.length->L.length+d<=100000000->L.Pairwise (λa b=>D4 a b<0)->
  ∃r,Go.L.run (DD c l) (L,(i:Int))=TI (Sum.inl (r,c+1))/\r.Pairwise (λa b=>D4 a b<0)/\(∀y,y∈r↔y∈L\/y∈l.drop i)/\r.length<=L.length+d:=by
 intro d
 induction d with
 | zero=>
  intro i L hi hL hp;refine⟨L,A2 (m:=TI (Sum.inl (L,c+1))) ?_,hp,λy=>by rw[UU U];simp,by omega⟩;unfold DD LD;dsimp only;rw[Pb U,Ab f]
  try rfl
 | succ d ih=>
  intro i L hi hL hp;have hil:i<l.length:=by omega
  have he:∀x:Lf,(x.1,x.2.1,x.2.2.1,x.2.2.2)=x:=λ_=>Z
  obtain⟨r,e,h2,h3,g⟩:∃r,DD c l (L,(i:Int))=some (.inl (r,((i+1:Nat):Int)))/\r.Pairwise (λa b=>D4 a b<0)/\(∀y,y∈r↔y∈L\/y=l.getD i Qq7)/\r.length<=L.length+1:=by
   have hh:J9 L ((l.getD i Qq7).1,(l.getD i Qq7).2.1,(l.getD i Qq7).2.2.1,(l.getD i Qq7).2.2.2)=TI (decide (l.getD i Qq7∈L)):=Zo U _
   by_cases hx:l.getD i Qq7∈L
   ·refine⟨L,?_,hp,λy=>⟨.inl,λh=>by rcases h with h | rfl;exact h;exact hx⟩,by omega⟩;unfold DD El;dsimp only;rw[Xu U,Ab U,SV,hh,Wo,Xu (by simpa using hx),Ab U]
    try rfl
   ·obtain⟨r,e,h2,h3,g⟩:=Ajd (i:Int) U L [] (l.getD i Qq7) U (by simpa using hp) (by simpa using hx) (λb hb=>by cases hb);refine⟨r,?_,h2,λy=>by rw[h3,R0];exact⟨λh=>h.symm,λh=>h.symm⟩,by simp at g;omega⟩;unfold DD Px;dsimp only;rw[Xu U,Ab U,SV,hh,Wo,Pb (by simpa using hx),Ab U,Ab (by unfold Go.E.Dx;simp;omega),Ab (by unfold AL;simp;omega)];refine Eq.trans ?_ e;have:(((L++[l.getD i Qq7]).length:Int) - 1)=(L.length:Int):=by simp
    rw[<- this]
    try rfl
  obtain⟨q,j,k,n,o⟩:=ih (i+1) r U U h2;refine⟨q,by rw[AE e,j],k,λy=>?_,by omega⟩;rw[n,h3,drop_cons hil,R7,or_assoc]
theorem Ael{a:List Pv}(hl:a.length<=64)(hv:TA a):LG a=TI (IK ((DA (IM 0 a) []).map TJ)):=by
 have key:∀(d i:Nat) (L:List Lf),i+d=a.length->L.length<=600 * i->L.Pairwise (λa b=>D4 a b<0)->(∀y,y∈L↔∃z,(y,z)∈IM 0 (a.take i))->
   ∃r,Go.L.run (DE a) (L,(i:Int))=TI r/\r.Pairwise (λa b=>D4 a b<0)/\∀y,y∈r↔∃z,(y,z)∈IM 0 a:=by
  intro d
  induction d with
  | zero=>
   intro i L hi hL hp hm;refine⟨L,A2 (m:=TI L) ?_,hp,λy=>by rw[hm,Sg U]⟩;unfold DE LF;dsimp only;rw[Pb U]
   try rfl
  | succ d ih=>
   intro i L hi hL hp hm;have hil:i<a.length:=by omega
   obtain⟨p,f,g⟩:=hv _ (BU hil);have hlen:(NJ 10 (a.getD i Qq7) []).length<=600:=by rw[Oh];exact g
   obtain⟨r,c,h2,h3,s⟩:=Aje (i:Int) U (l:=NJ 10 (a.getD i Qq7) []) U (NJ 10 (a.getD i Qq7) []).length 0 L U U hp
   have hb:DE a (L,(i:Int))=TI (.inl (r,((i+1:Nat):Int))):=by
    unfold DE Acs;dsimp only;rw[Xu U,Ab U,SV,MA f U,Wo];exact c
   have htk:a.take (i+1)=a.take i++[a.getD i Qq7]:=by
    rw[Vf,Pa hil];simp[Sb,Pa hil]
   obtain⟨q,j,n,o⟩:=ih (i+1) r U U h2 (λy=>by
    rw[h3,hm,htk,Ro,YA];simp only[MY,IM,R0,Rr]
    constructor
    ·rintro(⟨z,hz⟩ | h)
     ·exact⟨z,.inl hz⟩
     ·exact⟨_,.inr ⟨y,h,Z⟩⟩
    ·rintro⟨z,h | ⟨x,hx,e⟩⟩
     ·exact .inl ⟨z,h⟩
     ·refine .inr ?_;have:x=y:=congrArg TJ e;subst this;exact hx)
   exact⟨q,by rw[AE hb,j],n,o⟩
 obtain⟨r,c,h2,h3⟩:=key a.length 0 [] U Rg .nil (λy=>by simp[IM]);unfold LG Pz;have h1':Go.L.run (DE a) ([],(0:Int))=TI r:=c;rw[h1']
 congr 1
 have hperm:r.Perm ((DA (IM 0 a) []).map TJ):=(List.perm_ext_iff_of_nodup (h2.imp λ{a b} h e=>by subst e;exact AkU h) (Uz _ Rg)).2 λk=>by
  rw[h3,Qw];simp
 have e:IK r=IK ((DA (IM 0 a) []).map TJ):=by rw[Pm,Pm];exact AcM Ia hperm
 rw[<- e];exact(Ag0 h2).symm
def Aex{s:Qm}(h:s.length<=2000000):OS s=TI (M1 s):=by
 unfold OS M1;have a:=Cy (zz (s.length:Int));rw[MB U,Wo,Ab U,Ab (by unfold Go.E.Dx;omega)]
def Aem{e:En}(h:T7 e):Kl e.1 e.2=TI (Mc e):=by
 obtain⟨a,b,c,d,f,j⟩:=h;unfold Kl;have c1:(M1 e.1.1).length<=2000010:=by have:=Cy (zz (e.1.1.length:Int));unfold M1;rw[T6];omega
 have c2:=Cy (zz e.1.2.1);have c3:=Cy (zz e.1.2.2.1);have c4:(M1 e.1.2.2.2).length<=2000010:=by have:=Cy (zz (e.1.2.2.2.length:Int));unfold M1;rw[T6];omega
 have c5:=Cy (zz (e.2.length:Int))
 rw[Aex a,Wo,MB b,Wo,Ab (by unfold Go.E.Dx;omega),MB c,Wo,
  Ab (by unfold Go.E.Dx;simp only[T6];omega),Aex d,Wo,Ab (by unfold Go.E.Dx;simp only[T6];omega),
  MB U,Wo,Ab (by unfold Go.E.Dx;simp only[T6];omega)]
 unfold Q4;generalize hL:M1 e.1.1++Ly (zz e.1.2.1)++Ly (zz e.1.2.2.1)++M1 e.1.2.2.2++Ly (zz (e.2.length:Int))=L;have hLl:L.length<=5000000:=by rw[<- hL];simp only[T6];omega
 have hend:Mc e=L++e.2.flatMap λi=>Ly (zz i):=by
  rw[<- hL];unfold Mc Qs;simp
 rw[hend];refine BM (λi=>(L++(e.2.take i).flatMap (λi=>Ly (zz i)),((i:Nat):Int))) e.2.length (λi hi=>?_) ?_ 0 |> λhh=>by simpa using hh
 ·unfold IF;dsimp only;have g:=M3 (e.2.take i);rw[Y4]at g;have k:=Cy (zz (e.2.getD i Qq7));rw[Xu U,Ab U,SV,MB (f _ (BU hi)),Wo,Ab (by unfold Go.E.Dx;simp only[T6];omega),Ab U,IA _ hi,YW]
  rfl
 ·unfold IF M9;dsimp only;rw[Pb U,EC]
  try rfl
theorem Ag3{a:List Pv}(hl:a.length<=64)(hv:TA a)(out:Qm)(b:Int)(f:AL (b+1)){ks:List Lf}{n:Nat}(hn:n<ks.length)(hs:b=(n:Int))(hS:T7 (ks.getD n Qq7,L3 (Bp [] (ks.getD n Qq7) (DA (IM 0 a) []))))(ho:out.length<=1000000000000):
  Go.L.run (Co a out b ks) ([],0)=TI (.inl (out++Mc (ks.getD n Qq7,L3 (Bp [] (ks.getD n Qq7) (DA (IM 0 a) []))),b+1)):=by
 generalize hk:ks.getD n Qq7=k at *
 have key:∀(d i:Nat) (W:SB),i+d=a.length->W.length<=i->W.Pairwise (λx y=>x<=y/\x≠y)->(∀z,z∈W↔(k,z)∈IM 0 (a.take i))->
   Go.L.run (Co a out b ks) (W,(i:Int))=TI (.inl (out++Mc (k,L3 (Bp [] k (DA (IM 0 a) []))),b+1)):=by
  intro d
  induction d with
  | zero=>
   intro i W hi hW hp hm
   have hWe:L3 (Bp [] k (DA (IM 0 a) []))=W:=Ak4 hp λz=>by
    rw[hm,Sg U,Qu];simp[Bp]
   rw[hWe]at hS ⊢;refine A2 (m:=TI (Sum.inl (out++Mc (k,W),b+1))) ?_;unfold Co KA K9;dsimp only;have hlf:=Ov hS;have hf:Kl (k.1,k.2.1,k.2.2.1,k.2.2.2) W=TI (Mc (k,W)):=Aem (e:=(k,W)) hS;rw[Pb U,hs,Ab U,SV,hk,hf,Wo,Ab (by unfold Go.E.Dx;omega),Ab (by rw[<- hs];exact f)]
  | succ d ih=>
   intro i W hi hW hp hm;have hil:i<a.length:=by omega
   obtain⟨o,g,l⟩:=hv _ (BU hil);have hlen:(NJ 10 (a.getD i Qq7) []).length<=600:=by rw[Oh];exact l
   have hh:J9 (NJ 10 (a.getD i Qq7) []) (k.1,k.2.1,k.2.2.1,k.2.2.2)=TI (decide (k∈NJ 10 (a.getD i Qq7) [])):=Zo U _
   have htk:a.take (i+1)=a.take i++[a.getD i Qq7]:=by
    rw[Vf,Pa hil];simp[Sb,Pa hil]
   have hnew:∀z,(k,z)∈IM 0 (a.take (i+1))↔(k,z)∈IM 0 (a.take i)\/(k∈NJ 10 (a.getD i Qq7) []/\z=(i:Int)):=λz=>by
    rw[htk,Ro];simp only[MY,IM,R0,Rr,Y4];rw[show(0:Int)+((min i a.length:Nat):Int)=(i:Int) by omega]
    constructor
    ·rintro(h | ⟨x,hx,e⟩)
     ·exact .inl h
     ·have c:x=k:=congrArg TJ e;have h2:(i:Int)=z:=congrArg NB e;subst c;exact .inr ⟨hx,h2.symm⟩
    ·rintro(h | ⟨c,h2⟩)
     ·exact .inl h
     ·subst h2;exact .inr ⟨k,c,Z⟩
   have hold:∀z,(k,z)∈IM 0 (a.take i)->z<(i:Int):=λz hz=>by
    obtain⟨j,c,h2,_⟩:=Vs.1 hz;rw[Y4]at c;have h2':z=0+(j:Int):=h2;omega
   by_cases hx:k∈NJ 10 (a.getD i Qq7) []
   ·have hb:Co a out b ks (W,(i:Int))=TI (.inl (W++[(i:Int)],((i+1:Nat):Int))):=by
     unfold Co;dsimp only;rw[Xu U,Ab U,hs,Ab U,SV,SV,MA g U,Wo,hk,hh,Wo,Xu (by simpa using hx),Ab (by unfold Go.E.Dx;simp;omega),Ab U]
     rfl
    rw[AE hb];refine ih (i+1) _ U (by rw[T6];simp;omega) (SE.2 ⟨hp,List.pairwise_singleton _ _,λx hxm y hy=>?_⟩) λz=>?_
    ·rw[TG]at hy;subst hy;have:=hold x ((hm x).1 hxm);omega
    ·rw[hnew,MY,TG,hm];exact⟨λh=>h.imp id λe=>⟨hx,e⟩,λh=>h.imp id λe=>e.2⟩
   ·have hb:Co a out b ks (W,(i:Int))=TI (.inl (W,((i+1:Nat):Int))):=by
     unfold Co;dsimp only;rw[Xu U,Ab U,hs,Ab U,SV,SV,MA g U,Wo,hk,hh,Wo,Pb (by simpa using hx),Ab U]
     rfl
    rw[AE hb]
    exact ih (i+1) _ U U hp λz=>by
     rw[hnew,hm];exact⟨.inl,λh=>h.resolve_right λe=>hx e.1⟩
 exact key a.length 0 [] U Rg .nil (λz=>by simp[IM])
def Ajf{a:List Pv}(hl:a.length<=64)(hv:TA a)(hs:∀v∈a,Sm 1048576 10 v):Kz a=TI (YY (a.length:Int) (N2 (DA (IM 0 a) []))):=by
 have hms:=(Zd hl hv hs).2;have hS:=AdT hms
 have hlen:(IK ((DA (IM 0 a) []).map TJ)).length<=38400:=by
  rw[Pn,Vx];have b:=U0 (IM 0 a) [];have h2:=XF 0 λv hvm=>(hv v hvm).2.2;have h3:([]:List (Lf×SB)).length=0:=Z;omega
 have hke:N2 (DA (IM 0 a) [])=(IK ((DA (IM 0 a) []).map TJ)).map λk=>(k,L3 (Bp [] k (DA (IM 0 a) []))):=Z;unfold Kz;rw[Ael hl hv,Wo];unfold YY;have d:=Cy (zz (a.length:Int));rw[hke]at hS ⊢;rw[Vx];generalize IK ((DA (IM 0 a) []).map TJ)=ks at *;have b:=Cy (zz (ks.length:Int));rw[MB U,Wo,MB U,Wo,Ab (by unfold Go.E.Dx;omega),<- YW];generalize hH:Ly (zz (a.length:Int))++Ly (zz (ks.length:Int))=H;have hHl:H.length<=20:=by rw[<- hH,T6];omega
 unfold OU;rw[List.flatMap_map];have hSk:∀k∈ks,T7 (k,L3 (Bp [] k (DA (IM 0 a) []))):=λk hk=>hS _ (Rr.2 ⟨k,hk,Z⟩);refine BM (λi=>(H++(ks.take i).flatMap (λk=>Mc (k,L3 (Bp [] k (DA (IM 0 a) [])))),((i:Nat):Int))) ks.length (λi hi=>?_) ?_ 0 |> λhh=>by simpa using hh
 ·unfold GK OT;dsimp only;have c:=L2 (λk=>Mc (k,L3 (Bp [] k (DA (IM 0 a) [])))) 20000000 (l:=ks.take i) λx hx=>Ov (hSk x (List.mem_of_mem_take hx));rw[Y4]at c;have e:min i ks.length * 20000000<=38400 * 20000000:=Nat.mul_le_mul_right _ U;rw[Xu U,Ag3 hl hv _ _ U hi Z (hSk _ (BU hi)) (by rw[T6];omega),IA _ hi,YW]
  rfl
 ·unfold GK KB;dsimp only;rw[Pb U,EC]
  try rfl
theorem Ajg(items:Sa)(hn:items.length<=64):QS items 1000=TI (if 1000<total items then 1001 else(total items:Int)):=by
 unfold QS TR
 have key:∀(r:Sa) (i s:Nat),items.drop i=r->s<=2000->run (FG items 1000) ((s:Int),(i:Int))=TI (if 1000<s+total r then 1001 else((s+total r:Nat):Int)):=by
  intro r
  induction r with
  | nil=>
   intro i s hd hs;have hlen:=IW hd;refine A2 ?_;unfold FG MH;have:total []=0:=Z;rw[this,Nat.add_zero];simp only;rw[Pb U]
   by_cases h:1000<s
   ·rw[Xu U,Xu h,Ab U];rfl
   ·rw[Pb U,Pb h]
  | cons t r ih=>
   intro i s hd hs;obtain⟨hg,hd',hlt⟩:=GX hd;have ht:total (t::r)=t.length+total r:=by simp[total]
   rw[ht]
   by_cases h:1000<s
   ·refine A2 ?_;unfold FG MH;simp only;rw[Pb U,Xu U,Xu U,Ab U]
    rfl
   ·by_cases a:1000<t.length
    ·refine A2 ?_;unfold FG;simp only;rw[Xu ⟨by omega,by omega⟩,Ab ⟨by omega,by omega⟩,SV,hg,Xu U,Xu U,Ab U]
     rfl
    ·rw[<- Nat.add_assoc,<- ih (i+1) (s+t.length) hd' U];refine AE ?_;unfold FG;simp only;rw[Xu ⟨by omega,by omega⟩,Ab ⟨by omega,by omega⟩,SV,hg,Pb U,Ab ⟨by omega,by omega⟩,Ab U,Ab U]
     rfl
 have:=key items 0 0 Z U;rw[Nat.zero_add]at this;exact this
end Go.Proofs.YtgaljodghpgdmaaGreatDoor
namespace Go.L
open Go Go.Proofs.YtgaljodghpgdmaaGreatDoor
def Af0(cur:Qm)(fr at':Nat):((fin cur fr at').map λw=>w.1.length).sum<=cur.length:=by
 unfold fin
 split <;> simp
theorem AbA{a:Qm}:∀(f at':Nat) (cur:Qm) (fr:Nat),at'<=a.length->((WC a f at' cur fr).map λw=>w.1.length).sum+at'<=cur.length+a.length
 | 0,at',cur,fr,h=>by
  have:=Af0 cur fr at';unfold WC;omega
 | f+1,at',cur,fr,h=>by
  unfold WC;have c:=Af0 cur fr at'
  split
  ·rename_i b
   split
   ·rw[K4,List.sum_append];have:=AbA (a:=a) f (at'+1) [] (at'+1) U;rw[RZ]at this;omega
   ·have:=AbA (a:=a) f (at'+Ma (a.drop at')) (cur++((a.drop at').take (Ma (a.drop at'))).map Hk) fr (Qq b);rw[T6,XB b]at this;omega
  ·omega
def AkV(a:Qm):((Tu a).map λw=>w.1.length).sum<=a.length:=by
 have:=AbA (a:=a) (a.length+1) 0 [] 0 (Nat.zero_le _);rw[RZ]at this;unfold Tu;omega
theorem Wv:∀(i:Nat) (r:Sa),((Ck i r).map λp=>p.1.length).sum<=total r
 | _,[]=>by simp[Ck,total]
 | i,t::r=>by
  have c:=Wv (i+1) r;have h2:=AkV t
  have h3:((Et (i:Int) (Tu t)).map λp=>p.1.length)=(Tu t).map λw=>w.1.length:=by
   have a:=congrArg (List.map List.length) (Ab6 (i:Int) (Tu t));rw[Xc,Xc]at a;exact a
  have b:total (t::r)=t.length+total r:=by simp[total]
  unfold Ck;rw[K4,List.sum_append,h3,b];omega
theorem WU{α:Type}{f:α->Nat}:∀{l:List α},(∀x∈l,1<=f x)->l.length<=(l.map f).sum
 | [],_=>by simp
 | x::l,h=>by
  rw[Yu,Th,PF];have a:=h x (SZ ..);have h2:=WU (l:=l) (λy hy=>h y (RT _ hy));omega
def wt(M:HM):Nat:=(M.map λe=>38+17 * e.1.length+32 * e.2.length).sum
theorem Ajh(k:Qm)(y:List HW):∀M:HM,y.length<=(Bp [] k M).length+1->wt (Ea k y M)<=wt M+70+17 * k.length
 | [],h=>by
  simp only[Bp,RZ]at h;simp[wt,Ea];omega
 | (a,z)::l,h=>by
  unfold Ea
  by_cases hk:k=a
  ·rw[Xu hk];simp only[Bp]at h;rw[Xu hk]at h;simp only[wt,Yu,Th];omega
  ·rw[Pb hk];simp only[Bp]at h;rw[Pb hk]at h;have:=Ajh k y l h;simp only[wt,Yu,Th]at this ⊢;omega
theorem Af1:∀(P:List (Qm×HW)) (M:HM),wt (P.foldl Lt M)<=wt M+(P.map λp=>70+17 * p.1.length).sum
 | [],M=>by simp
 | p::P,M=>by
  rw[List.foldl_cons,Yu,Th];have a:=Af1 P (Lt M p);have h2:wt (Lt M p)<=wt M+70+17 * p.1.length:=Ajh p.1 _ M Rg;omega
theorem AaF:∀(M:HM),(M.map TJ).Nodup->∀e∈M,Bp [] e.1 M=e.2
 | [],_,e,h=>by cases h
 | (a,z)::l,hnd,e,h=>by
  rw[Yu,List.nodup_cons]at hnd
  rcases R7.1 h with rfl | h
  ·show(if a=a then z else _)=z
   rw[Xu Z]
  ·have hm:e.1∈l.map TJ:=Rz h;have:e.1≠a:=λx=>hnd.1 (by rw[x]at hm;exact hm)
   show(if e.1=a then z else Bp [] e.1 l)=e.2
   rw[Pb this];exact AaF l hnd.2 e h
def Ag4{M:HM}(h:(M.map TJ).Nodup):(RW M).Perm M:=by
 have a:(RW M).Perm ((M.map TJ).map λk=>(k,Bp [] k M)):=(List.mergeSort_perm _ _).map _;rw[Xc]at a
 have h2:M.map ((λk=>(k,Bp [] k M))∘TJ)=M:=by
  conv=>rhs;rw[<- List.map_id M]
  exact List.map_congr_left λe he=>by
   show(e.1,Bp [] e.1 M)=e
   rw[AaF M h e he]
 rw[h2]at a;exact a
theorem AoC(items:Sa):wt (E items)<=87 * total items:=by
 have d:wt (E items)=wt ((Ck 0 items).foldl Lt []):=(List.Perm.map _ (Ag4 (Ty _ [] List.nodup_nil))).sum_nat;have h2:=Af1 (Ck 0 items) [];have h3:=Wv 0 items
 have a:∀P:List (Qm×HW),(∀p∈P,p.1≠[])->(P.map λp=>70+17 * p.1.length).sum<=87 * (P.map λp=>p.1.length).sum:=λP=>by
  induction P with
  | nil=>intro _;simp
  | cons p P ih=>
   intro h;have b:=ih (λq hq=>h q (RT _ hq));have c:=Kh.2 (h p (SZ ..));rw[Yu,Th,Yu,Th];omega
 have b:=a (Ck 0 items) (λp hp=>(C3 0 items (total items) (λt ht=>Ou ht) p hp).2.2.2.2.1);have c:wt []=0:=Z;omega
theorem Am3{e:Qm×List HW}(c:e.1.length<=1000)(h2:e.2.length<=1000)(h3:∀x∈e.2,0<=x.1/\x.1<=63/\0<=x.2/\x.2<=1000):gs (Xh e)<=38+17 * e.1.length+32 * e.2.length:=by
 unfold Xh;rw[ML,AdO,ML];have a1:gzw (e.1.length:Int).toNat<=19:=PM 10;have a2:gzw (e.2.length:Int).toNat<=19:=PM 10
 have a3:=Aie (b:=17) (l:=e.1.map TY) (λn hn=>by
  obtain⟨b,_,rfl⟩:=Rr.1 hn;have:=b.toNat_lt;unfold TY;exact PM 9)
 rw[Vx]at a3
 have a4:∀(l:List HW) (p:HW),0<=p.1->-1<=p.2->(∀x∈l,0<=x.1/\x.1<=63/\0<=x.2/\x.2<=1000)->gs (NG p l)<=32 * l.length:=by
  intro l
  induction l with
  | nil=>intro p _ _ _;simp[NG,gs]
  | cons h r ih=>
   intro p d f hl;obtain⟨a,g,i,j⟩:=hl h (SZ ..);have:=ih h a U (λx hx=>hl x (RT _ hx));unfold NG;rw[AdO,PF]
   have:gs (if h.1=p.1 then[1,h.2 - p.2]else[1+h.1 - p.1,h.2+1])<=32:=by
    split
    ·have c1:gzw (1:Int).toNat<=13:=PM 7;have c2:gzw (h.2 - p.2).toNat<=19:=PM 10;rw[ML,ML];have:gs []=0:=Z;omega
    ·have c1:gzw (1+h.1 - p.1).toNat<=13:=PM 7;have c2:gzw (h.2+1).toNat<=19:=PM 10;rw[ML,ML];have:gs []=0:=Z;omega
   omega
 have a5:=a4 e.2 (0,-1) Y5 Y5 h3;omega
theorem Aen{items:Sa}(hn:items.length<=64)(ht:total items<=1000):gs (RH ((items.length:Int),E items))<=131072:=by
 have d:=AoC items;have hle:∀t∈items,t.length<=1000:=λt h=>Nat.le_trans (Ou h) ht
 have hp:(Ck 0 items).length<=1000:=by
  have h2:=Wv 0 items;have h3:=WU (f:=λp:Qm×HW=>p.1.length) (l:=Ck 0 items) (λp hp=>Kh.2 (C3 0 items 1000 hle p hp).2.2.2.2.1);omega
 have he:=Nf items;unfold RH;rw[ML,ML];simp only;have a1:gzw ((items.length:Int)+1).toNat<=13:=PM 7;have a2:gzw (((E items).length:Int)+1).toNat<=19:=PM 10
 have a3:∀M:HM,(∀e∈M,e∈E items)->gs (M.flatMap Xh)<=wt M:=λM=>by
  induction M with
  | nil=>intro _;simp[gs,wt]
  | cons e M ih=>
   intro h;obtain⟨_,a,g,b⟩:=Anv hn hle (h e (SZ ..));have i:=Am3 (e:=e) a U b;have c:=ih (λx hx=>h x (RT _ hx));rw[List.flatMap_cons,AdO];simp only[wt,Yu,Th]at c ⊢;omega
 have a4:=a3 (E items) (λ_ h=>h);omega
end Go.L
end
noncomputable section
namespace Go.Proofs.YtgaljodghpgdmaaGreatDoor
open Go Go.E Go.RowKit Go.L
set_option maxHeartbeats 1000000
set_option maxRecDepth 10000
open _root_.Go.Proofs.Tryz
def JM(a0:Wl)(a:Int):Option Int:=
 Xd (EW a0 a) (λb=>TI b)
def NO:Option Int:=
 TI ((-1))
def Nq(a0:Wl)(a1:Wl):Nat->Option ((Nat)⊕(Int)):=λa=>
 if a<a0.length then Xd (EW a1 ((VN a0 a).1:Int)) (λb=>if 0<=b then Sh Sum.inr (TI ((a:Int)))else TI (Sum.inl (a+(VN a0 a).2)))else Sh Sum.inr NO
def QjD(a0:Wl)(a1:Wl)(s:Nat):Option Int:=Go.L.run (Nq a0 a1) s
def ClP(a0:Wl)(a1:Wl):Option Int:=
 (QjD a0 a1) (0:Nat)
def strings_IndexAny(a0:Wl)(a1:Wl):Option Int:=
 if a1=([]:Wl)then TI ((-1))else(if(a1.length:Int)=1 then Ay (0<=(0:Int)/\(0:Int)<(a1.length:Int)) (if 128<=(IntKind.i32.wrap ((a1.getD (0:Int).toNat Qq7).toNat:Int))then(JM a0) (65533:Int)else(JM a0) (IntKind.i32.wrap ((a1.getD (0:Int).toNat Qq7).toNat:Int)))else(if 8<(a0.length:Int)then none else(ClP a0 a1)))
section
variable(w:World)(H:PH)(hH:Le H (hp w)) include hH
theorem Qzv{a0 a1:Wl}{r:Int}(h:strings_IndexAny a0 a1=TI r):
  Pd 207 [Pg a0,Pg a1] w (λv w'=>v=No r):=by
 refine Ai 55 [(0,(Pg a0)),(1,(Pg a1))] func207 Z λhL=>AR ?_;refine AJ (I5 Z Z)<|Ap<|Ar h ?_ ?_<;>intro aa h
 ·exact Bu
 refine AR ?_;refine AJ (Dn Z)<|BJ 1 Z<|Ar h ?_ ?_<;>intro ab h
 ·refine FA 1 Z<|Ag h λac h=>AJ (Mo ac)<|AJ (Er Z)<|BJ 1 Z<|AA Int (λb=>[(0,(Pg a0)),(5,.int .i32 b)]) (λb wr=>AB w [] wr/\(JM a0) b=TI r) ?_ ?_
  ·refine Bx 2 Z<|Ar h ?_ ?_<;>intro k h
   ·refine Af ?_;refine Am _ ⟨hL,h⟩
   refine Ca<|Am _ ⟨hL,h⟩
  rintro b ai ⟨e,h⟩;refine FA 2 Z<|Ah h λar m h=>Al e (IZ _ _ (Ae e) m) λau aj ak ad=>Bu
 refine Af ?_;refine AA Unit (λ(_:Unit)=>[(0,(Pg a0)),(1,(Pg a1))]) (λ(_:Unit) wr=>AB w [] wr/\(ClP a0 a1)=TI r) ?_ ?_
 ·refine FA 1 Z<|AJ (Dn Z)<|Al hL (AiB _ _ (Ae hL)) λav al o ae=>Ap<|Ar h ?_ ?_<;>intro q h
  ·refine A5 ?_
   cases h
  refine Ca<|Am () ⟨o,h⟩
 rintro _ am ⟨s,h⟩;refine AA Unit (λ(_:Unit)=>[]) (λ(_:Unit) wr=>AB w [] wr/\NO=TI r) ?_ ?_
 ·refine FA 1 Z<|Ack Z s λaw j t af=>Ap<|A4 ?_;obtain⟨f,h⟩:=Ax h;refine AF (Nat×Nat) (λ⟨a,n⟩=>[(1,(Pg a1)),(45,(SX j))]) (λ⟨a,n⟩ wr=>AB w [.obj j (.stringIter ⟨(a0).toArray⟩ a)] wr/\D6 (Nq a0 a1) n a=TI r) (λ⟨a,n⟩=>n) ((0:Nat),f) Z ⟨t,h⟩ ?_;rintro⟨a,nn67⟩ an ⟨g,h⟩;obtain⟨f,ax,rfl,h,c⟩:=Aw h;refine A5<|AeN (l:=a0) (p:=a) 0 Z g Z (λd=>?_) (λd=>?_)
  ·have h:=JP d h;intro ay i ag;refine AR ?_;refine Cm<|AR ?_;refine Ah h λaz u h=>Al i (IZ _ _ (Ae i) u) λa2 ao x ah=>BJ 1 Z<|Ar h ?_ ?_<;>intro y h
   ·have h:=AX.out h c;exact Bu
   refine Af ?_;have h:=AX.again h c;refine Ak (_,_) Z ⟨x,h⟩
  have h:=JQ d h;refine AR ?_;refine BO ?_;have h:=AX.out h c;refine Af ?_;have z:=g.dT 0 Z;refine Am () ⟨z,h⟩
 rintro _ ap ⟨aq,h⟩;exact Bu
def Hi(a0:Wl)(a1:Wl):Option Bool:=
 if(a1.length:Int)<=(a0.length:Int)then Ay (0<=(a1.length:Int)/\(a1.length:Int)<=(a0.length:Int)) (TI (decide ((a0.take (a1.length:Int).toNat)=a1)))else TI false
theorem AgE{a0 a1:Wl}{r:Bool}(h:Hi a0 a1=TI r):
  Pd 292 [Pg a0,Pg a1] w (λv w'=>v=.bool r):=by
 refine Ai 18 [(0,(Pg a0)),(1,(Pg a1))] func292 Z λhL=>Af ?_;refine AJ (Dn Z)<|AK 1 Z<|AJ (Dn Z)<|AK 2 Z<|Bl 10 h ?_ ?_<;>intro a h
 ·refine Af ?_;refine AJ (Dn Z)<|Aj a<|Ag h λb h=>AJ (Ahu b)<|Af ?_;refine AJ (I5 Z Z)<|Bu
 exact Bu
def Hj(a0:Wl)(a1:Wl):Option (Wl×Bool):=
 Xd (Hi a0 a1) (λa=>if !a then TI (a0,false)else Ay (0<=(a1.length:Int)/\(a1.length:Int)<=(a0.length:Int)) (TI ((a0.drop (a1.length:Int).toNat),true)))
theorem AbF{a0 a1:Wl}{r:Wl×Bool}(h:Hj a0 a1=TI r):
  Pd 262 [Pg a0,Pg a1] w (λv w'=>v=.tuple #[Pg r.1,.bool r.2]):=by
 refine Ai 15 [(0,(Pg a0)),(1,(Pg a1))] func262 Z λhL=>AR ?_;refine Ah h λg a h=>Al hL (AgE _ _ (Ae hL) a) λi e f d=>BJ 1 Z<|AH h ?_ ?_<;>intro b h
 ·exact Bu
 refine Af ?_;refine AJ (Dn Z)<|Ag h λc h=>AJ (Ad5 c)<|Bu
def QjJ(a0:Wl)(a1:Wl):Option (Wl×Bool):=
 Xd (Hj a0 a1) (λa=>TI (a.1,a.2))
theorem Ajq{a0 a1:Wl}{r:Wl×Bool}(h:QjJ a0 a1=TI r):
  Pd 205 [Pg a0,Pg a1] w (λv w'=>v=.tuple #[Pg r.1,.bool r.2]):=by
 refine Ai 11 [(0,(Pg a0)),(1,(Pg a1))] func205 Z λhL=>Af ?_;refine Ah h λe a h=>Al hL (AbF _ _ (Ae hL) a) λf c d b=>Bu
end
open Go.Shelf
noncomputable def AbB(s c:Qm):Option Int:=if 8<s.length\/c.length=1 then Go.L.Ay (s.length<4294967281/\1<=c.length/\c.length<4294967281/\∀b∈c,b.toNat<128) (TI (Lib.indexAny s c))else strings_IndexAny s c
section
variable(w:World)(H:PH)(hH:Le H (hp w)) include hH
theorem Ag5{a0 a1:Qm}{r:Int}(h:AbB a0 a1=TI r):Ok Tryz.prog 207 [.string ⟨a0.toArray⟩,.string ⟨a1.toArray⟩] w (λv w'=>Ext w w'/\v=.int .i64 r):=by
 unfold AbB at h;have hs:(ByteArray.mk a0.toArray).size=a0.length:=by simp[Vl]
 have hc:(ByteArray.mk a1.toArray).size=a1.length:=by simp[Vl]
 split at h
 ·rename_i hor;obtain⟨⟨c,k,d,f⟩,h⟩:=Go.L.Fp h;obtain rfl:=Option.some.inj h
  have hac:∀(j:Nat) b,(ByteArray.mk a1.toArray).data.toList[j]? = TI b->b.toNat<128:=λj b hj=>f b (by
   have:=List.mem_of_getElem? hj
   simpa using this)
  refine⟨⟨Tryz.f207,_,Tryz.func207,Z,Z⟩,?_⟩
  by_cases g:a1.length=1
  ·refine(Any.strings_IndexAny_one (P:=Tryz.prog) Tryz.AhD ⟨a0.toArray⟩ ⟨a1.toArray⟩ w (by rw[hc];exact g) hac).mono λe w' he=>?_;obtain⟨rfl,rfl⟩:=he;exact⟨_,Z,Ext.refl _,by simp⟩
  ·have a:(Tryz.prog.info? (Tryz.VP.t 116)).map (λi=>(i.zero,i.size))=TI (TI (.agg (Array.replicate 256 (.bool false))),256):=by kernel_rfl
   refine(Any.strings_IndexAny_long (P:=Tryz.prog) Tryz.AhD (zero_of_info a).1 (zero_of_info a).2 ⟨a0.toArray⟩ ⟨a1.toArray⟩ w (by rw[hc];omega) (by rw[hs];omega) (by rw[hs];exact c) (by rw[hc];exact d) hac).mono λe w' he=>?_;obtain⟨rfl,rfl⟩:=he;exact⟨_,Z,(C1 _ _).trans (C1 _ _),by simp⟩
 ·exact Qzv w H hH h
end
set_option maxHeartbeats 1000000
set_option maxRecDepth 10000
open _root_.Go.Proofs.Tryz
def BR(a0:Wl×Int)(a1:Wl):Option (Bool×(Wl×Int)):=
 Xd (QjJ a0.1 a1) (λa=>if a.2 then TI (a.2,(a.1,a0.2))else TI (a.2,(a0.1,a0.2)))
def BD{c w:World}{H:PH}(hH:Le H (hp c))(O:List Bv)(a0:Wl×Int)(a1:Wl){ba0:Nat}(hL:AB c (Ha [.box ba0 [Pg a0.1,No a0.2] 120] O) w){r:Bool×(Wl×Int)}(h:BR a0 a1=TI r):
  Ok prog 152 [SX ba0,Pg a1] w (λv w'=>v=.bool r.1/\AB c (Ha [.box ba0 [Pg r.2.1,No r.2.2] 120] O) w'/\Le (fz w (Ha [.box ba0 [Pg a0.1,No a0.2] 120] O)) (fz w' (Ha [.box ba0 [Pg r.2.1,No r.2.2] 120] O))):=by
 refine Cx (n:=22) [(0,(SX ba0)),(1,(Pg a1))] func152 Z Z Z Z ?_;have hT:=Le.refl (fz w (Ha [.box ba0 [Pg a0.1,No a0.2] 120] O));refine Af ?_;refine AJ (MT Z)<|Af ?_;refine Ah h λj e h=>Al hL (Ajq _ _ (Ae hL) e) λk i b a=>AR ?_;refine AH h ?_ ?_<;>intro f h
 ·refine Af ?_;refine AJ (MT Z)<|Af ?_;refine BW 0 Z Z Z b Z Z λl g d=>Af ?_
  cases h
  refine AD Z ?_;have hT:=hT.trans (a.trans d);exact⟨Z,g,hT⟩
 refine Af ?_
 cases h
 refine AD Z ?_;have hT:=hT.trans a;exact⟨Z,b,hT⟩
def Jq(a1:Int)(y8:Qv×(Wl×Int))(a:List Qv)(b:Wl)(c:Int):Option (Option (Qv×(Wl×Int))):=
 if(a.length:Int)=1 then TI (TI (y8.1,(b,c)))else TI (TI ((Qv.mk a1 ([]) ([]:Wl) ([]) (0:Int) (0:Int) a),(b,c)))
def IJ(a1:Int)(a2:Wl)(self:(Wl×Int)->Option (Option (Qv×(Wl×Int))))(y8:Qv×(Wl×Int)):(List Qv)×Wl×Int->Option (((List Qv)×Wl×Int)⊕(Option (Qv×(Wl×Int)))):=λ⟨b,c,d⟩=>
 Xd (BR (c,d) a2) (λa=>if a.1 then Xd (self (a.2.1,a.2.2)) (λe=>Go.L.onX e (Sh Sum.inr (TI none)) (λy86=>Ay (Go.E.Dx 112 (b.length+([y86.1]).length)) (TI (Sum.inl ((b++[y86.1]),y86.2.1,y86.2.2)))))else Sh Sum.inr ((Jq a1 y8) b a.2.1 a.2.2))
def QzQ(a1:Int)(a2:Wl)(self:(Wl×Int)->Option (Option (Qv×(Wl×Int))))(y8:Qv×(Wl×Int))(s:(List Qv)×Wl×Int):Option (Option (Qv×(Wl×Int))):=Go.L.run (IJ a1 a2 self y8) s
def KL(self:(Wl×Int)->Option (Option (Qv×(Wl×Int))))(a0:Wl×Int)(a1:Int)(a2:Wl):Option (Option (Qv×(Wl×Int))):=
 Xd (self (a0.1,a0.2)) (λa=>Go.L.onX a (TI none) (λy8=>(QzQ a1 a2 self y8) ([y8.1],y8.2.1,y8.2.2)))
def Qq1{self:(Wl×Int)->Option (Option (Qv×(Wl×Int)))}(hself:∀{a w:World}{H:PH} (hH:Le H (hp a)) (hU:E1 H) {O:List Bv}{a0:Wl×Int}{ba0:Nat} (hL:AB a (Ha [.box ba0 [Pg a0.1,No a0.2] 120] O) w) {r:Option (Qv×(Wl×Int))} (h:self a0=TI r),ZL prog 102 [SX ba0] w (.iface 116 (.agg #[])) (λv w'=>Ze r v (λr v=>∃(u1:Value) (u3:Value) (u6:Value),v=.agg #[No r.1.f.1,u1,Pg r.1.f.2.2.1,u3,No r.1.f.2.2.2.2.1,No r.1.f.2.2.2.2.2.1,u6]/\AB a (Ha [.box ba0 [Pg r.2.1,No r.2.2] 120] O) w'/\Le (fz w (Ha [.box ba0 [Pg a0.1,No a0.2] 120] O)) (fz w' (Ha [.box ba0 [Pg r.2.1,No r.2.2] 120] O))/\As .st (gz H a w' (Ha [.box ba0 [Pg r.2.1,No r.2.2] 120] O)) u1 (r.1.f.2.1)/\As .byte (gz H a w' (Ha [.box ba0 [Pg r.2.1,No r.2.2] 120] O)) u3 (r.1.f.2.2.2.1)/\As .AN (gz H a w' (Ha [.box ba0 [Pg r.2.1,No r.2.2] 120] O)) u6 (r.1.f.2.2.2.2.2.2)) (AB a O w'/\Le (fz w (Ha [.box ba0 [Pg a0.1,No a0.2] 120] O)) (fz w' O)))){a w:World}{H:PH}(hH:Le H (hp a))(hU:E1 H){O:List Bv}{a0:Wl×Int}{a1:Int}{a2:Wl}{ba0:Nat}(hL:AB a (Ha [.box ba0 [Pg a0.1,No a0.2] 120] O) w){r:Option (Qv×(Wl×Int))}(h:KL self a0 a1 a2=TI r):
  ZL prog 101 [SX ba0,No a1,Pg a2,.func (.func 102) #[SX ba0] #[]] w (.iface 116 (.agg #[])) (λv w'=>Ze r v (λr v=>∃(u1:Value) (u3:Value) (u6:Value),v=.agg #[No r.1.f.1,u1,Pg r.1.f.2.2.1,u3,No r.1.f.2.2.2.2.1,No r.1.f.2.2.2.2.2.1,u6]/\AB a (Ha [.box ba0 [Pg r.2.1,No r.2.2] 120] O) w'/\Le (fz w (Ha [.box ba0 [Pg a0.1,No a0.2] 120] O)) (fz w' (Ha [.box ba0 [Pg r.2.1,No r.2.2] 120] O))/\As .st (gz H a w' (Ha [.box ba0 [Pg r.2.1,No r.2.2] 120] O)) u1 (r.1.f.2.1)/\As .byte (gz H a w' (Ha [.box ba0 [Pg r.2.1,No r.2.2] 120] O)) u3 (r.1.f.2.2.2.1)/\As .AN (gz H a w' (Ha [.box ba0 [Pg r.2.1,No r.2.2] 120] O)) u6 (r.1.f.2.2.2.2.2.2)) (AB a O w'/\Le (fz w (Ha [.box ba0 [Pg a0.1,No a0.2] 120] O)) (fz w' O))):=by
 refine On 30 [(0,(SX ba0)),(1,No a1),(2,(Pg a2)),(3,.func (.func 102) #[SX ba0] #[])] func101 Z Z Z Z Z ?_;have hT:=Le.refl (fz w (Ha [.box ba0 [Pg a0.1,No a0.2] 120] O));refine A5<|Aq Bs.e Z hL λw1 b1 bz aw _=>Af ?_;have b0:AB a (Ha [.box ba0 [Pg a0.1,No a0.2] 120,.box b1 PG 27] O) w1:=bz.BX [1] Z;have ax:=Bb [1] bz b0 Z;refine Ah h λx3 cn h=>UN [SX ba0] [] Z Z (hself (a0:=(a0.1,a0.2)) (O:=(Ha [.box b1 PG 27] O)) hH hU b0 cn) ?_ ?_
 ·rintro rfl w5 ⟨co,b3⟩;have h:=JS h;refine DZ ?_
  cases h
  refine NT ?_;have cp:=co.dT 0 Z;have hT:=hT.trans (aw.trans (ax.trans (b3.trans (fz_dT 0 Z))));exact La ⟨cp,hT⟩
 rintro y8 rfl _ w4 ⟨g,j,k,rfl,cq,bg,q,s,t⟩;have h:=JT h;refine Aq Bs.e Z cq λw9 b9 cr ac _=>Ac 0 Z cr Z (a:=(AV Z (AV q.one (AV Z (AV s.one (AV Z (AV Z (AV t.one JO)))))))) ?_;intro c2 bh u;have p:=bh.rG H;refine Af ?_;have q:=q.mono (Aa (ac.trans u));have s:=s.mono (Aa (ac.trans u));have t:=t.mono (Aa (ac.trans u));refine KY [y8.1] (r:=.AN) (λ_=>Pk _ _ _ _ _ _ _ _) (Bk 1) hH bh (.c7 (Go.E.Rp.Gu ⟨_,_,Z,Z,⟨_,_,Z,⟨_,Z,(q.mono p)⟩,⟨_,_,Z,Z,⟨_,_,Z,⟨_,Z,(s.mono p)⟩,⟨_,_,Z,Z,⟨_,_,Z,Z,⟨_,Z,(t.mono p)⟩⟩⟩⟩⟩⟩⟩) .nil) λcs c3 b4 b5 ai b6=>BJ 1 Z ?_
 refine AA ((List Qv)×Wl×Int×Value×LR) (λ⟨am,a5,a6,ad,aa⟩=>[(1,No a1),(8,(SX b1)),(9,(SX b9)),(10,ad)]) (λ⟨am,a5,a6,ad,aa⟩ wr=>Cd a (Ha [.row ad 27 7 (am).length aa,.box b9 [No y8.1.f.1,g,Pg y8.1.f.2.2.1,j,No y8.1.f.2.2.2.2.1,No y8.1.f.2.2.2.2.2.1,k] 27,.box ba0 [Pg a5,No a6] 120,.box b1 PG 27] O) wr λOz=>Ao .AN (gz H a wr Oz) am aa/\As .st (gz H a wr Oz) g (y8.1.f.2.1)/\As .byte (gz H a wr Oz) j (y8.1.f.2.2.2.1)/\As .AN (gz H a wr Oz) k (y8.1.f.2.2.2.2.2.2)/\Le (fz w (Ha [.box ba0 [Pg a0.1,No a0.2] 120] O)) (fz wr Oz)/\(Jq a1 y8) am a5 a6=TI r) ?_ ?_
 ·refine A4 ?_;obtain⟨bi,h⟩:=Ax h;have hT:=hT.trans (aw.trans (ax.trans (bg.trans (ac.trans (u.trans ai)))));have p:=p.trans (Aa ai)
  refine AF ((List Qv)×Wl×Int×Value×LR×Nat) (λ⟨e,ae,af,o,c,n⟩=>[(0,(SX ba0)),(1,No a1),(2,(Pg a2)),(3,.func (.func 102) #[SX ba0] #[]),(8,(SX b1)),(9,(SX b9)),(10,o)]) (λ⟨e,ae,af,o,c,n⟩ wr=>Cd a (Ha [.row o 27 7 (e).length c,.box b9 [No y8.1.f.1,g,Pg y8.1.f.2.2.1,j,No y8.1.f.2.2.2.2.1,No y8.1.f.2.2.2.2.2.1,k] 27,.box ba0 [Pg ae,No af] 120,.box b1 PG 27] O) wr λOz=>Ao .AN (gz H a wr Oz) e c/\As .st (gz H a wr Oz) g (y8.1.f.2.1)/\As .byte (gz H a wr Oz) j (y8.1.f.2.2.2.1)/\As .AN (gz H a wr Oz) k (y8.1.f.2.2.2.2.2.2)/\Le (fz w (Ha [.box ba0 [Pg a0.1,No a0.2] 120] O)) (fz wr Oz)/\D6 (IJ a1 a2 self y8) n (e,ae,af)=TI r) (λ⟨e,ae,af,o,c,n⟩=>n) ([y8.1],y8.2.1,y8.2.2,cs,b4,bi) Z ⟨b5,b6,(q.mono p),(s.mono p),(t.mono p),hT,h⟩ ?_;rintro⟨e,ae,af,o,c,nn71⟩ b7 ⟨ay,a7,an,ao,ap,hT,h⟩
  obtain⟨bi,c4,rfl,h,az⟩:=Aw h;have b:=ay.rG H;refine AR ?_;have bj:AB a (Ha [.box ba0 [Pg ae,No af] 120,.row o 27 7 (e).length c,.box b9 [No y8.1.f.1,g,Pg y8.1.f.2.2.1,j,No y8.1.f.2.2.2.2.1,No y8.1.f.2.2.2.2.2.1,k] 27,.box b1 PG 27] O) b7:=ay.BX [2] Z;have x:=Bb [2] ay bj Z;refine Ah h λag b8 h=>D5 (BD hH ((Ha [.row o 27 7 (e).length c,.box b9 [No y8.1.f.1,g,Pg y8.1.f.2.2.1,j,No y8.1.f.2.2.2.2.1,No y8.1.f.2.2.2.2.2.1,k] 27,.box b1 PG 27] O)) (ae,af) a2 bj b8) ?_;rintro _ ct ⟨rfl,a3,y⟩;refine Ap<|AH h ?_ ?_<;>intro ca h
  ·refine AR ?_;refine Ah h λc5 cb h=>UN [SX ba0] [] Z Z (hself (a0:=(ag.2.1,ag.2.2)) (O:=(Ha [.row o 27 7 (e).length c,.box b9 [No y8.1.f.1,g,Pg y8.1.f.2.2.1,j,No y8.1.f.2.2.2.2.1,No y8.1.f.2.2.2.2.2.1,k] 27,.box b1 PG 27] O)) hH hU a3 cb) ?_ ?_
   ·rintro rfl c6 ⟨cc,bs⟩;have h:=JS h;refine FD<|TL ?_;have h:=AX.out h az;refine FD<|QI ?_
    cases h
    refine NT ?_;have cd:=cc.dT 0 Z;have ce:=cd.dT 0 Z;have cf:=ce.dT 0 Z;have hT:=hT.trans (x.trans (y.trans (bs.trans ((fz_dT 0 Z).trans ((fz_dT 0 Z).trans (fz_dT 0 Z))))));exact La ⟨cf,hT⟩
   rintro y86 rfl _ c8 ⟨cv,cw,cx,rfl,cg,a8,bk,bl,bm⟩;have h:=JT h;refine Bi [y86.1] (r:=.AN) (λ_=>Pk _ _ _ _ _ _ _ _) cg (.c7 (Go.E.Rp.Gu ⟨_,_,Z,Z,⟨_,_,Z,⟨_,Z,bk⟩,⟨_,_,Z,Z,⟨_,_,Z,⟨_,Z,bl⟩,⟨_,_,Z,Z,⟨_,_,Z,Z,⟨_,Z,bm⟩⟩⟩⟩⟩⟩⟩) .nil) λc9 da cz ch a9 ci=>Ag h λcj h=>?_;have b:=b.trans (Aa (x.trans (y.trans (a8.trans a9))));refine Bf (r:=.AN) 1 e [y86.1] Z U5 ch Z (a7.mono b) ci cj λb2 cu bn bo ba a4=>Af ?_;have bp:AB a (Ha [.row b2 27 7 ((e++[y86.1])).length bn,.box b9 [No y8.1.f.1,g,Pg y8.1.f.2.2.1,j,No y8.1.f.2.2.2.2.1,No y8.1.f.2.2.2.2.2.1,k] 27,.box ba0 [Pg y86.2.1,No y86.2.2] 120,.box b1 PG 27] O) cu:=bo.BX [2,2] Z;have aj:=Bb [2,2] bo bp Z;have h:=AX.again h az;have hT:=hT.trans (x.trans (y.trans (a8.trans (a9.trans (ba.trans aj)))));have b:=b.trans (Aa (ba.trans aj))
   have a4:=a4.mono (Aa aj);refine Ak ((e++[y86.1]),y86.2.1,y86.2.2,b2,bn,bi) Z ⟨bp,a4,(an.mono b),(ao.mono b),(ap.mono b),hT,h⟩
  have h:=AX.out h az;refine Af ?_;have bq:AB a (Ha [.row o 27 7 (e).length c,.box b9 [No y8.1.f.1,g,Pg y8.1.f.2.2.1,j,No y8.1.f.2.2.2.2.1,No y8.1.f.2.2.2.2.2.1,k] 27,.box ba0 [Pg ag.2.1,No ag.2.2] 120,.box b1 PG 27] O) ct:=a3.BX [2,2] Z;have bb:=Bb [2,2] a3 bq Z;have b:=b.trans (Aa (x.trans (y.trans bb)));have hT:=hT.trans (x.trans (y.trans bb));refine Am (_,_,_,_,_) ⟨bq,(a7.mono b),(an.mono b),(ao.mono b),(ap.mono b),hT,h⟩
 have hT:=hT.trans (aw.trans (ax.trans (bg.trans (ac.trans (u.trans ai)))));rintro⟨am,a5,a6,ad,aa⟩ c0 ⟨z,bt,aq,ar,au,hT,h⟩;have d:=z.rG H;refine AR ?_;refine AJ (O1 0 Z z Z)<|BJ 1 Z<|Ar h ?_ ?_<;>intro ck h
 ·refine Af ?_;refine Ac 3 Z z Z (a:=(AV Z (AV (aq.mono d).one (AV Z (AV (ar.mono d).one (AV Z (AV Z (AV (au.mono d).one JO)))))))) λdb br bc=>Af ?_
  cases h
  refine NS<|Bz (.cell Z Vv Z Bs.e (box_pT 3 br Z)) ?_;have cl:=br.dT 0 Z;have cm:=cl.dT 0 Z;have bu:=cm.dT 1 Z;have d:=d.trans (Aa (bc.trans ((fz_dT 0 Z).trans ((fz_dT 0 Z).trans (fz_dT 1 Z)))));have hT:=hT.trans (bc.trans ((fz_dT 0 Z).trans ((fz_dT 0 Z).trans (fz_dT 1 Z))));exact JU ⟨g,j,k,Z,bu,hT,(aq.mono d),(ar.mono d),(au.mono d)⟩
 refine Af ?_;refine AJ (A8 (λ_=>Qe _ _ (row_one (z.aT 0 Z)) _))<|Ac 3 Z z Z (a:=(AV Z (AV Z (AV Z (AV Z (AV Z (AV Z (AV (row_one (z.aT 0 Z)) JO)))))))) λc1 ak av=>Af ?_
 cases h
 refine NS<|Bz (.cell Z Vv Z Bs.e (box_pT 3 ak Z)) ?_;have d:=d.trans (Aa av);have al:=ak.BB hH (i:=0) Z (bt.mono d);have bv:=ak.dT 0 Z;have bw:=bv.dT 0 Z;have bx:=bw.dT 1 Z;have hT:=hT.trans (av.trans ((fz_dT 0 Z).trans ((fz_dT 0 Z).trans (fz_dT 1 Z))));have al:=al.mono (Aa ((fz_dT 0 Z).trans (fz_dT 1 Z)));exact JU ⟨TO,TO,ad,Z,bx,hT,(As.nil _ _),(As.nil _ _),al⟩
def I3(self:(Wl×Int)->Option (Option (Qv×(Wl×Int))))(a0_0:Wl×Int):Option (Option (Qv×(Wl×Int))):=
 Xd (KL self (a0_0.1,a0_0.2) (8:Int) ([38]:Wl)) (λa=>Go.L.onX a (TI none) (λy9=>TI (TI (y9.1,(y9.2.1,y9.2.2)))))
def Ab4{self:(Wl×Int)->Option (Option (Qv×(Wl×Int)))}(hself:∀{a w:World}{H:PH} (hH:Le H (hp a)) (hU:E1 H) {O:List Bv}{a0:Wl×Int}{ba0:Nat} (hL:AB a (Ha [.box ba0 [Pg a0.1,No a0.2] 120] O) w) {r:Option (Qv×(Wl×Int))} (h:self a0=TI r),ZL prog 102 [SX ba0] w (.iface 116 (.agg #[])) (λv w'=>Ze r v (λr v=>∃(i:Value) (j:Value) (k:Value),v=.agg #[No r.1.f.1,i,Pg r.1.f.2.2.1,j,No r.1.f.2.2.2.2.1,No r.1.f.2.2.2.2.2.1,k]/\AB a (Ha [.box ba0 [Pg r.2.1,No r.2.2] 120] O) w'/\Le (fz w (Ha [.box ba0 [Pg a0.1,No a0.2] 120] O)) (fz w' (Ha [.box ba0 [Pg r.2.1,No r.2.2] 120] O))/\As .st (gz H a w' (Ha [.box ba0 [Pg r.2.1,No r.2.2] 120] O)) i (r.1.f.2.1)/\As .byte (gz H a w' (Ha [.box ba0 [Pg r.2.1,No r.2.2] 120] O)) j (r.1.f.2.2.2.1)/\As .AN (gz H a w' (Ha [.box ba0 [Pg r.2.1,No r.2.2] 120] O)) k (r.1.f.2.2.2.2.2.2)) (AB a O w'/\Le (fz w (Ha [.box ba0 [Pg a0.1,No a0.2] 120] O)) (fz w' O)))){a w:World}{H:PH}(hH:Le H (hp a))(hU:E1 H){O:List Bv}{a0_0:Wl×Int}{ba0 ba0_0:Nat}(hL:AB a (Ha [.box ba0 [SX ba0_0] 118,.box ba0_0 [Pg a0_0.1,No a0_0.2] 120] O) w){r:Option (Qv×(Wl×Int))}(h:I3 self a0_0=TI r):
  ZL prog 100 [SX ba0] w (.iface 116 (.agg #[])) (λv w'=>Ze r v (λr v=>∃(i:Value) (j:Value) (k:Value),v=.agg #[No r.1.f.1,i,Pg r.1.f.2.2.1,j,No r.1.f.2.2.2.2.1,No r.1.f.2.2.2.2.2.1,k]/\AB a (Ha [.box ba0 [SX ba0_0] 118,.box ba0_0 [Pg r.2.1,No r.2.2] 120] O) w'/\Le (fz w (Ha [.box ba0 [SX ba0_0] 118,.box ba0_0 [Pg a0_0.1,No a0_0.2] 120] O)) (fz w' (Ha [.box ba0 [SX ba0_0] 118,.box ba0_0 [Pg r.2.1,No r.2.2] 120] O))/\As .st (gz H a w' (Ha [.box ba0 [SX ba0_0] 118,.box ba0_0 [Pg r.2.1,No r.2.2] 120] O)) i (r.1.f.2.1)/\As .byte (gz H a w' (Ha [.box ba0 [SX ba0_0] 118,.box ba0_0 [Pg r.2.1,No r.2.2] 120] O)) j (r.1.f.2.2.2.1)/\As .AN (gz H a w' (Ha [.box ba0 [SX ba0_0] 118,.box ba0_0 [Pg r.2.1,No r.2.2] 120] O)) k (r.1.f.2.2.2.2.2.2)) (AB a O w'/\Le (fz w (Ha [.box ba0 [SX ba0_0] 118,.box ba0_0 [Pg a0_0.1,No a0_0.2] 120] O)) (fz w' O))):=by
 refine On 6 [(0,(SX ba0))] func100 Z Z Z Z Z ?_;have hT:=Le.refl (fz w (Ha [.box ba0 [SX ba0_0] 118,.box ba0_0 [Pg a0_0.1,No a0_0.2] 120] O));refine A5<|Aq Bs.e Z hL λw1 b1 s l _=>Af ?_;have t:AB a (Ha [.box ba0_0 [Pg a0_0.1,No a0_0.2] 120,.box b1 PG 27,.box ba0 [SX ba0_0] 118] O) w1:=s.BX [2] Z;have m:=Bb [2] s t Z;refine Ah h λx3 ac h=>Qa (Qq1 (hself:=hself) (a0:=(a0_0.1,a0_0.2)) (a1:=8) (a2:=([38]:Wl)) (O:=(Ha [.box b1 PG 27,.box ba0 [SX ba0_0] 118] O)) hH hU t ac) ?_ ?_
 ·rintro rfl w5 ⟨ad,u⟩;have h:=JS h;refine DZ ?_
  cases h
  refine NT ?_;have ae:=ad.dT 0 Z;have af:=ae.dT 0 Z;have hT:=hT.trans (l.trans (m.trans (u.trans ((fz_dT 0 Z).trans (fz_dT 0 Z)))));exact La ⟨af,hT⟩
 rintro y9 rfl _ w4 ⟨x,y,z,rfl,ag,aa,b,c,d⟩;have h:=JT h;refine Ac 1 Z ag Z (a:=(AV Z (AV b.one (AV Z (AV c.one (AV Z (AV Z (AV d.one JO)))))))) λah o e=>Af ?_
 cases h
 refine NS<|Bz (.cell Z Vv Z Bs.e (box_pT 1 o Z)) ?_;have p:=o.dT 1 Z;have q:AB a (Ha [.box ba0 [SX ba0_0] 118,.box ba0_0 [Pg y9.2.1,No y9.2.2] 120] O) ah:=p.BX [1] Z;have g:=Bb [1] p q Z;have hT:=hT.trans (l.trans (m.trans (aa.trans (e.trans ((fz_dT 1 Z).trans g)))));have b:=b.mono (Aa (e.trans ((fz_dT 1 Z).trans g)));have c:=c.mono (Aa (e.trans ((fz_dT 1 Z).trans g)));have d:=d.mono (Aa (e.trans ((fz_dT 1 Z).trans g)));exact JU ⟨x,y,z,Z,q,hT,b,c,d⟩
def Ab7(a1:Int)(y8:Qv×(Wl×Int))(a:List Qv)(b:Wl)(c:Int):Option (Option (Qv×(Wl×Int))):=
 if(a.length:Int)=1 then TI (TI (y8.1,(b,c)))else TI (TI ((Qv.mk a1 ([]) ([]:Wl) ([]) (0:Int) (0:Int) a),(b,c)))
def Kp(a1:Int)(a2:Wl)(self:(Wl×Int)->Option (Option (Qv×(Wl×Int))))(y8:Qv×(Wl×Int)):(List Qv)×Wl×Int->Option (((List Qv)×Wl×Int)⊕(Option (Qv×(Wl×Int)))):=λ⟨b,c,d⟩=>
 Xd (BR (c,d) a2) (λa=>if a.1 then Xd (I3 self (a.2.1,a.2.2)) (λe=>Go.L.onX e (Sh Sum.inr (TI none)) (λy90=>Ay (Go.E.Dx 112 (b.length+([y90.1]).length)) (TI (Sum.inl ((b++[y90.1]),y90.2.1,y90.2.2)))))else Sh Sum.inr ((Ab7 a1 y8) b a.2.1 a.2.2))
def QzC(a1:Int)(a2:Wl)(self:(Wl×Int)->Option (Option (Qv×(Wl×Int))))(y8:Qv×(Wl×Int))(s:(List Qv)×Wl×Int):Option (Option (Qv×(Wl×Int))):=Go.L.run (Kp a1 a2 self y8) s
def Nr(self:(Wl×Int)->Option (Option (Qv×(Wl×Int))))(a0:Wl×Int)(a1:Int)(a2:Wl):Option (Option (Qv×(Wl×Int))):=
 Xd (I3 self (a0.1,a0.2)) (λa=>Go.L.onX a (TI none) (λy8=>(QzC a1 a2 self y8) ([y8.1],y8.2.1,y8.2.2)))
def QxX{self:(Wl×Int)->Option (Option (Qv×(Wl×Int)))}(hself:∀{a w:World}{H:PH} (hH:Le H (hp a)) (hU:E1 H) {O:List Bv}{a0:Wl×Int}{ba0:Nat} (hL:AB a (Ha [.box ba0 [Pg a0.1,No a0.2] 120] O) w) {r:Option (Qv×(Wl×Int))} (h:self a0=TI r),ZL prog 102 [SX ba0] w (.iface 116 (.agg #[])) (λv w'=>Ze r v (λr v=>∃(u1:Value) (u3:Value) (u6:Value),v=.agg #[No r.1.f.1,u1,Pg r.1.f.2.2.1,u3,No r.1.f.2.2.2.2.1,No r.1.f.2.2.2.2.2.1,u6]/\AB a (Ha [.box ba0 [Pg r.2.1,No r.2.2] 120] O) w'/\Le (fz w (Ha [.box ba0 [Pg a0.1,No a0.2] 120] O)) (fz w' (Ha [.box ba0 [Pg r.2.1,No r.2.2] 120] O))/\As .st (gz H a w' (Ha [.box ba0 [Pg r.2.1,No r.2.2] 120] O)) u1 (r.1.f.2.1)/\As .byte (gz H a w' (Ha [.box ba0 [Pg r.2.1,No r.2.2] 120] O)) u3 (r.1.f.2.2.2.1)/\As .AN (gz H a w' (Ha [.box ba0 [Pg r.2.1,No r.2.2] 120] O)) u6 (r.1.f.2.2.2.2.2.2)) (AB a O w'/\Le (fz w (Ha [.box ba0 [Pg a0.1,No a0.2] 120] O)) (fz w' O)))){a w:World}{H:PH}(hH:Le H (hp a))(hU:E1 H){O:List Bv}{a0:Wl×Int}{a1:Int}{a2:Wl}{ba0 ba3_c0:Nat}(hL:AB a (Ha [.box ba0 [Pg a0.1,No a0.2] 120,.box ba3_c0 [SX ba0] 118] O) w){r:Option (Qv×(Wl×Int))}(h:Nr self a0 a1 a2=TI r):
  ZL prog 101 [SX ba0,No a1,Pg a2,.func (.func 100) #[] #[SX ba3_c0]] w (.iface 116 (.agg #[])) (λv w'=>Ze r v (λr v=>∃(u1:Value) (u3:Value) (u6:Value),v=.agg #[No r.1.f.1,u1,Pg r.1.f.2.2.1,u3,No r.1.f.2.2.2.2.1,No r.1.f.2.2.2.2.2.1,u6]/\AB a (Ha [.box ba0 [Pg r.2.1,No r.2.2] 120,.box ba3_c0 [SX ba0] 118] O) w'/\Le (fz w (Ha [.box ba0 [Pg a0.1,No a0.2] 120,.box ba3_c0 [SX ba0] 118] O)) (fz w' (Ha [.box ba0 [Pg r.2.1,No r.2.2] 120,.box ba3_c0 [SX ba0] 118] O))/\As .st (gz H a w' (Ha [.box ba0 [Pg r.2.1,No r.2.2] 120,.box ba3_c0 [SX ba0] 118] O)) u1 (r.1.f.2.1)/\As .byte (gz H a w' (Ha [.box ba0 [Pg r.2.1,No r.2.2] 120,.box ba3_c0 [SX ba0] 118] O)) u3 (r.1.f.2.2.2.1)/\As .AN (gz H a w' (Ha [.box ba0 [Pg r.2.1,No r.2.2] 120,.box ba3_c0 [SX ba0] 118] O)) u6 (r.1.f.2.2.2.2.2.2)) (AB a O w'/\Le (fz w (Ha [.box ba0 [Pg a0.1,No a0.2] 120,.box ba3_c0 [SX ba0] 118] O)) (fz w' O))):=by
 refine On 30 [(0,(SX ba0)),(1,No a1),(2,(Pg a2)),(3,.func (.func 100) #[] #[SX ba3_c0])] func101 Z Z Z Z Z ?_;have hT:=Le.refl (fz w (Ha [.box ba0 [Pg a0.1,No a0.2] 120,.box ba3_c0 [SX ba0] 118] O));refine A5<|Aq Bs.e Z hL λw1 b1 cd a6 _=>Af ?_;have ce:AB a (Ha [.box ba3_c0 [SX ba0] 118,.box ba0 [Pg a0.1,No a0.2] 120,.box b1 PG 27] O) w1:=cd.BX [1,2] Z;have a7:=Bb [1,2] cd ce Z;refine Ah h λx3 cy h=>UN [] [SX ba3_c0] Z Z (Ab4 (hself:=hself) (a0_0:=(a0.1,a0.2)) (O:=(Ha [.box b1 PG 27] O)) hH hU ce cy) ?_ ?_
 ·rintro rfl w5 ⟨cz,cg⟩;have h:=JS h;refine DZ ?_
  cases h
  refine NT ?_;have c0:=cz.dT 0 Z;have hT:=hT.trans (a6.trans (a7.trans (cg.trans (fz_dT 0 Z))));exact La ⟨c0,hT⟩
 rintro y8 rfl _ w4 ⟨d,e,g,rfl,c1,bq,s,t,u⟩;have h:=JT h;refine Aq Bs.e Z c1 λw9 b9 c2 ae _=>Ac 0 Z c2 Z (a:=(AV Z (AV s.one (AV Z (AV t.one (AV Z (AV Z (AV u.one JO)))))))) ?_;intro dc br x;have p:=br.rG H;refine Af ?_;have s:=s.mono (Aa (ae.trans x));have t:=t.mono (Aa (ae.trans x));have u:=u.mono (Aa (ae.trans x));refine KY [y8.1] (r:=.AN) (λ_=>Pk _ _ _ _ _ _ _ _) (Bk 1) hH br (.c7 (Go.E.Rp.Gu ⟨_,_,Z,Z,⟨_,_,Z,⟨_,Z,(s.mono p)⟩,⟨_,_,Z,Z,⟨_,_,Z,⟨_,Z,(t.mono p)⟩,⟨_,_,Z,Z,⟨_,_,Z,Z,⟨_,Z,(u.mono p)⟩⟩⟩⟩⟩⟩⟩) .nil) λc3 dd ch ci ak cj=>BJ 1 Z ?_
 refine AA ((List Qv)×Wl×Int×Value×LR) (λ⟨aq,ai,aj,af,ac⟩=>[(1,No a1),(8,(SX b1)),(9,(SX b9)),(10,af)]) (λ⟨aq,ai,aj,af,ac⟩ wr=>Cd a (Ha [.row af 27 7 (aq).length ac,.box b9 [No y8.1.f.1,d,Pg y8.1.f.2.2.1,e,No y8.1.f.2.2.2.2.1,No y8.1.f.2.2.2.2.2.1,g] 27,.box ba3_c0 [SX ba0] 118,.box ba0 [Pg ai,No aj] 120,.box b1 PG 27] O) wr λOz=>Ao .AN (gz H a wr Oz) aq ac/\As .st (gz H a wr Oz) d (y8.1.f.2.1)/\As .byte (gz H a wr Oz) e (y8.1.f.2.2.2.1)/\As .AN (gz H a wr Oz) g (y8.1.f.2.2.2.2.2.2)/\Le (fz w (Ha [.box ba0 [Pg a0.1,No a0.2] 120,.box ba3_c0 [SX ba0] 118] O)) (fz wr Oz)/\(Ab7 a1 y8) aq ai aj=TI r) ?_ ?_
 ·refine A4 ?_;obtain⟨bs,h⟩:=Ax h;have hT:=hT.trans (a6.trans (a7.trans (bq.trans (ae.trans (x.trans ak)))));have p:=p.trans (Aa ak)
  refine AF ((List Qv)×Wl×Int×Value×LR×Nat) (λ⟨k,ag,ah,j,b,n⟩=>[(0,(SX ba0)),(1,No a1),(2,(Pg a2)),(3,.func (.func 100) #[] #[SX ba3_c0]),(8,(SX b1)),(9,(SX b9)),(10,j)]) (λ⟨k,ag,ah,j,b,n⟩ wr=>Cd a (Ha [.row j 27 7 (k).length b,.box b9 [No y8.1.f.1,d,Pg y8.1.f.2.2.1,e,No y8.1.f.2.2.2.2.1,No y8.1.f.2.2.2.2.2.1,g] 27,.box ba3_c0 [SX ba0] 118,.box ba0 [Pg ag,No ah] 120,.box b1 PG 27] O) wr λOz=>Ao .AN (gz H a wr Oz) k b/\As .st (gz H a wr Oz) d (y8.1.f.2.1)/\As .byte (gz H a wr Oz) e (y8.1.f.2.2.2.1)/\As .AN (gz H a wr Oz) g (y8.1.f.2.2.2.2.2.2)/\Le (fz w (Ha [.box ba0 [Pg a0.1,No a0.2] 120,.box ba3_c0 [SX ba0] 118] O)) (fz wr Oz)/\D6 (Kp a1 a2 self y8) n (k,ag,ah)=TI r) (λ⟨k,ag,ah,j,b,n⟩=>n) ([y8.1],y8.2.1,y8.2.2,c3,ch,bs) Z ⟨ci,cj,(s.mono p),(t.mono p),(u.mono p),hT,h⟩ ?_
  rintro⟨k,ag,ah,j,b,nn74⟩ ck ⟨a8,bc,ar,au,av,hT,h⟩;obtain⟨bs,de,rfl,h,a9⟩:=Aw h;have c:=a8.rG H;refine AR ?_;have bt:AB a (Ha [.box ba0 [Pg ag,No ah] 120,.row j 27 7 (k).length b,.box b9 [No y8.1.f.1,d,Pg y8.1.f.2.2.1,e,No y8.1.f.2.2.2.2.1,No y8.1.f.2.2.2.2.2.1,g] 27,.box ba3_c0 [SX ba0] 118,.box b1 PG 27] O) ck:=a8.BX [3] Z;have y:=Bb [3] a8 bt Z;refine Ah h λq cl h=>D5 (BD hH ((Ha [.row j 27 7 (k).length b,.box b9 [No y8.1.f.1,d,Pg y8.1.f.2.2.1,e,No y8.1.f.2.2.2.2.1,No y8.1.f.2.2.2.2.2.1,g] 27,.box ba3_c0 [SX ba0] 118,.box b1 PG 27] O)) (ag,ah) a2 bt cl) ?_;rintro _ bu ⟨rfl,al,z⟩;refine Ap<|AH h ?_ ?_<;>intro cm h
  ·refine AR ?_;have bv:AB a (Ha [.box ba3_c0 [SX ba0] 118,.box ba0 [Pg q.2.1,No q.2.2] 120,.row j 27 7 (k).length b,.box b9 [No y8.1.f.1,d,Pg y8.1.f.2.2.1,e,No y8.1.f.2.2.2.2.1,No y8.1.f.2.2.2.2.2.1,g] 27,.box b1 PG 27] O) bu:=al.BX [3] Z;have am:=Bb [3] al bv Z;refine Ah h λdf cn h=>UN [] [SX ba3_c0] Z Z (Ab4 (hself:=hself) (a0_0:=(q.2.1,q.2.2)) (O:=(Ha [.row j 27 7 (k).length b,.box b9 [No y8.1.f.1,d,Pg y8.1.f.2.2.1,e,No y8.1.f.2.2.2.2.1,No y8.1.f.2.2.2.2.2.1,g] 27,.box b1 PG 27] O)) hH hU bv cn) ?_ ?_
   ·rintro rfl dg ⟨co,b5⟩;have h:=JS h;refine FD<|TL ?_;have h:=AX.out h a9;refine FD<|QI ?_
    cases h
    refine NT ?_;have cp:=co.dT 0 Z;have cq:=cp.dT 0 Z;have cr:=cq.dT 0 Z;have hT:=hT.trans (y.trans (z.trans (am.trans (b5.trans ((fz_dT 0 Z).trans ((fz_dT 0 Z).trans (fz_dT 0 Z)))))));exact La ⟨cr,hT⟩
   rintro y90 rfl _ dh ⟨c5,c6,c8,rfl,cs,bd,bw,bx,bz⟩;have h:=JT h;refine Bi [y90.1] (r:=.AN) (λ_=>Pk _ _ _ _ _ _ _ _) cs (.c7 (Go.E.Rp.Gu ⟨_,_,Z,Z,⟨_,_,Z,⟨_,Z,bw⟩,⟨_,_,Z,Z,⟨_,_,Z,⟨_,Z,bx⟩,⟨_,_,Z,Z,⟨_,_,Z,Z,⟨_,Z,bz⟩⟩⟩⟩⟩⟩⟩) .nil) λdi dj da ct be cu=>Ag h λcv h=>?_;have c:=c.trans (Aa (y.trans (z.trans (am.trans (bd.trans be)))));refine Bf (r:=.AN) 2 k [y90.1] Z U5 ct Z (bc.mono c) cu cv λcf c4 b0 b2 bf ba=>Af ?_;have b3:AB a (Ha [.row cf 27 7 ((k++[y90.1])).length b0,.box b9 [No y8.1.f.1,d,Pg y8.1.f.2.2.1,e,No y8.1.f.2.2.2.2.1,No y8.1.f.2.2.2.2.2.1,g] 27,.box ba3_c0 [SX ba0] 118,.box ba0 [Pg y90.2.1,No y90.2.2] 120,.box b1 PG 27] O) c4:=b2.BX [3,3] Z;have an:=Bb [3,3] b2 b3 Z;have h:=AX.again h a9;have hT:=hT.trans (y.trans (z.trans (am.trans (bd.trans (be.trans (bf.trans an))))))
   have c:=c.trans (Aa (bf.trans an));have ba:=ba.mono (Aa an);refine Ak ((k++[y90.1]),y90.2.1,y90.2.2,cf,b0,bs) Z ⟨b3,ba,(ar.mono c),(au.mono c),(av.mono c),hT,h⟩
  have h:=AX.out h a9;refine Af ?_;have bb:AB a (Ha [.box b9 [No y8.1.f.1,d,Pg y8.1.f.2.2.1,e,No y8.1.f.2.2.2.2.1,No y8.1.f.2.2.2.2.2.1,g] 27,.box ba3_c0 [SX ba0] 118,.box ba0 [Pg q.2.1,No q.2.2] 120,.row j 27 7 (k).length b,.box b1 PG 27] O) bu:=al.BX [3,3] Z;have bg:=Bb [3,3] al bb Z;have b4:AB a (Ha [.row j 27 7 (k).length b,.box b9 [No y8.1.f.1,d,Pg y8.1.f.2.2.1,e,No y8.1.f.2.2.2.2.1,No y8.1.f.2.2.2.2.2.1,g] 27,.box ba3_c0 [SX ba0] 118,.box ba0 [Pg q.2.1,No q.2.2] 120,.box b1 PG 27] O) bu:=bb.BX [3] Z;have bh:=Bb [3] bb b4 Z;have c:=c.trans (Aa (y.trans (z.trans (bg.trans bh))));have hT:=hT.trans (y.trans (z.trans (bg.trans bh)));refine Am (_,_,_,_,_) ⟨b4,(bc.mono c),(ar.mono c),(au.mono c),(av.mono c),hT,h⟩
 have hT:=hT.trans (a6.trans (a7.trans (bq.trans (ae.trans (x.trans ak)))));rintro⟨aq,ai,aj,af,ac⟩ db ⟨ab,b6,aw,ax,ay,hT,h⟩;have o:=ab.rG H;refine AR ?_;refine AJ (O1 0 Z ab Z)<|BJ 1 Z<|Ar h ?_ ?_<;>intro b7 h
 ·refine Af ?_;refine Ac 4 Z ab Z (a:=(AV Z (AV (aw.mono o).one (AV Z (AV (ax.mono o).one (AV Z (AV Z (AV (ay.mono o).one JO)))))))) λcw bi az=>Af ?_
  cases h
  refine NS<|Bz (.cell Z Vv Z Bs.e (box_pT 4 bi Z)) ?_;have b8:=bi.dT 0 Z;have ca:=b8.dT 0 Z;have bj:=ca.dT 2 Z;have bk:AB a (Ha [.box ba0 [Pg ai,No aj] 120,.box ba3_c0 [SX ba0] 118] O) cw:=bj.BX [1] Z;have a3:=Bb [1] bj bk Z;have o:=o.trans (Aa (az.trans ((fz_dT 0 Z).trans ((fz_dT 0 Z).trans ((fz_dT 2 Z).trans a3)))));have hT:=hT.trans (az.trans ((fz_dT 0 Z).trans ((fz_dT 0 Z).trans ((fz_dT 2 Z).trans a3))));exact JU ⟨d,e,g,Z,bk,hT,(aw.mono o),(ax.mono o),(ay.mono o)⟩
 refine Af ?_;refine AJ (A8 (λ_=>Qe _ _ (row_one (ab.aT 0 Z)) _))<|Ac 4 Z ab Z (a:=(AV Z (AV Z (AV Z (AV Z (AV Z (AV Z (AV (row_one (ab.aT 0 Z)) JO)))))))) λcx ao a4=>Af ?_
 cases h
 refine NS<|Bz (.cell Z Vv Z Bs.e (box_pT 4 ao Z)) ?_;have o:=o.trans (Aa a4);have ap:=ao.BB hH (i:=0) Z (b6.mono o);have cb:=ao.dT 0 Z;have cc:=cb.dT 0 Z;have bl:=cc.dT 2 Z;have bm:AB a (Ha [.box ba0 [Pg ai,No aj] 120,.box ba3_c0 [SX ba0] 118] O) cx:=bl.BX [1] Z;have a5:=Bb [1] bl bm Z;have hT:=hT.trans (a4.trans ((fz_dT 0 Z).trans ((fz_dT 0 Z).trans ((fz_dT 2 Z).trans a5))));have ap:=ap.mono (Aa ((fz_dT 0 Z).trans ((fz_dT 2 Z).trans a5)));exact JU ⟨TO,TO,af,Z,bm,hT,(As.nil _ _),(As.nil _ _),ap⟩
def JN(self:(Wl×Int)->Option (Option (Qv×(Wl×Int))))(a0:Wl×Int):Option (Option (Qv×(Wl×Int))):=
 Xd (Nr self (a0.1,a0.2) (9:Int) ([124]:Wl)) (λa=>Go.L.onX a (TI none) (λy9=>TI (TI (y9.1,(y9.2.1,y9.2.2)))))
def LN{self:(Wl×Int)->Option (Option (Qv×(Wl×Int)))}(hself:∀{a w:World}{H:PH} (hH:Le H (hp a)) (hU:E1 H) {O:List Bv}{a0:Wl×Int}{ba0:Nat} (hL:AB a (Ha [.box ba0 [Pg a0.1,No a0.2] 120] O) w) {r:Option (Qv×(Wl×Int))} (h:self a0=TI r),ZL prog 102 [SX ba0] w (.iface 116 (.agg #[])) (λv w'=>Ze r v (λr v=>∃(g:Value) (i:Value) (j:Value),v=.agg #[No r.1.f.1,g,Pg r.1.f.2.2.1,i,No r.1.f.2.2.2.2.1,No r.1.f.2.2.2.2.2.1,j]/\AB a (Ha [.box ba0 [Pg r.2.1,No r.2.2] 120] O) w'/\Le (fz w (Ha [.box ba0 [Pg a0.1,No a0.2] 120] O)) (fz w' (Ha [.box ba0 [Pg r.2.1,No r.2.2] 120] O))/\As .st (gz H a w' (Ha [.box ba0 [Pg r.2.1,No r.2.2] 120] O)) g (r.1.f.2.1)/\As .byte (gz H a w' (Ha [.box ba0 [Pg r.2.1,No r.2.2] 120] O)) i (r.1.f.2.2.2.1)/\As .AN (gz H a w' (Ha [.box ba0 [Pg r.2.1,No r.2.2] 120] O)) j (r.1.f.2.2.2.2.2.2)) (AB a O w'/\Le (fz w (Ha [.box ba0 [Pg a0.1,No a0.2] 120] O)) (fz w' O)))){a w:World}{H:PH}(hH:Le H (hp a))(hU:E1 H){O:List Bv}{a0:Wl×Int}{ba0:Nat}(hL:AB a (Ha [.box ba0 [Pg a0.1,No a0.2] 120] O) w){r:Option (Qv×(Wl×Int))}(h:JN self a0=TI r):
  ZL prog 53 [SX ba0] w (.iface 116 (.agg #[])) (λv w'=>Ze r v (λr v=>∃(g:Value) (i:Value) (j:Value),v=.agg #[No r.1.f.1,g,Pg r.1.f.2.2.1,i,No r.1.f.2.2.2.2.1,No r.1.f.2.2.2.2.2.1,j]/\AB a (Ha [.box ba0 [Pg r.2.1,No r.2.2] 120] O) w'/\Le (fz w (Ha [.box ba0 [Pg a0.1,No a0.2] 120] O)) (fz w' (Ha [.box ba0 [Pg r.2.1,No r.2.2] 120] O))/\As .st (gz H a w' (Ha [.box ba0 [Pg r.2.1,No r.2.2] 120] O)) g (r.1.f.2.1)/\As .byte (gz H a w' (Ha [.box ba0 [Pg r.2.1,No r.2.2] 120] O)) i (r.1.f.2.2.2.1)/\As .AN (gz H a w' (Ha [.box ba0 [Pg r.2.1,No r.2.2] 120] O)) j (r.1.f.2.2.2.2.2.2)) (AB a O w'/\Le (fz w (Ha [.box ba0 [Pg a0.1,No a0.2] 120] O)) (fz w' O))):=by
 refine On 8 [(0,(SX ba0))] func53 Z Z Z Z Z ?_;have hT:=Le.refl (fz w (Ha [.box ba0 [Pg a0.1,No a0.2] 120] O));refine A5<|Su (t:=118) Z Z hL λw1 b1 ac k _=>Aq Bs.e Z ac λw2 b2 p l _=>Af ?_;have q:AB a (Ha [.box ba0 [Pg a0.1,No a0.2] 120,.box b1 [SX ba0] 118,.box b2 PG 27] O) w2:=p.BX [1,2] Z;have m:=Bb [1,2] p q Z;refine Ah h λx4 ae h=>Qa (QxX (hself:=hself) (a0:=(a0.1,a0.2)) (a1:=9) (a2:=([124]:Wl)) (O:=(Ha [.box b2 PG 27] O)) hH hU q ae) ?_ ?_
 ·rintro rfl w6 ⟨af,s⟩;have h:=JS h;refine DZ ?_
  cases h
  refine NT ?_;have ag:=af.dT 0 Z;have hT:=hT.trans (k.trans (l.trans (m.trans (s.trans (fz_dT 0 Z)))));exact La ⟨ag,hT⟩
 rintro y9 rfl _ w5 ⟨u,x,y,rfl,ah,z,b,c,d⟩;have h:=JT h;refine Ac 2 Z ah Z (a:=(AV Z (AV b.one (AV Z (AV c.one (AV Z (AV Z (AV d.one JO)))))))) λak o e=>Af ?_
 cases h
 refine NS<|Bz (.cell Z Vv Z Bs.e (box_pT 2 o Z)) ?_;have aa:=o.dT 1 Z;have ab:=aa.dT 1 Z;have hT:=hT.trans (k.trans (l.trans (m.trans (z.trans (e.trans ((fz_dT 1 Z).trans (fz_dT 1 Z)))))));have b:=b.mono (Aa (e.trans ((fz_dT 1 Z).trans (fz_dT 1 Z))));have c:=c.mono (Aa (e.trans ((fz_dT 1 Z).trans (fz_dT 1 Z))));have d:=d.mono (Aa (e.trans ((fz_dT 1 Z).trans (fz_dT 1 Z))));exact JU ⟨u,x,y,Z,ab,hT,b,c,d⟩
def Ns(a0:Wl×Int)(a1:Wl):Option (Option ((Wl×Int))):=
 Xd (BR (a0.1,a0.2) a1) (λa=>if !a.1 then none else TI (TI ((a.2.1,a.2.2))))
def Qjd{a w:World}{H:PH}(hH:Le H (hp a)){O:List Bv}{a0:Wl×Int}{a1:Wl}{ba0:Nat}(hL:AB a (Ha [.box ba0 [Pg a0.1,No a0.2] 120] O) w){r:Option ((Wl×Int))}(h:Ns a0 a1=TI r):
  ZL prog 153 [SX ba0,Pg a1] w (.iface 116 (.agg #[])) (λv w'=>Ze r v (λr v=>v=.tuple #[]/\AB a (Ha [.box ba0 [Pg r.1,No r.2] 120] O) w'/\Le (fz w (Ha [.box ba0 [Pg a0.1,No a0.2] 120] O)) (fz w' (Ha [.box ba0 [Pg r.1,No r.2] 120] O))) (AB a O w'/\Le (fz w (Ha [.box ba0 [Pg a0.1,No a0.2] 120] O)) (fz w' O))):=by
 refine On 10 [(0,(SX ba0)),(1,(Pg a1))] func153 Z Z Z Z Z ?_;have hT:=Le.refl (fz w (Ha [.box ba0 [Pg a0.1,No a0.2] 120] O));refine FA 2 Z<|Ah h λf c h=>D5 (BD hH (Ha [] O) (a0.1,a0.2) a1 hL c) ?_;rintro _ g ⟨rfl,d,b⟩;refine BJ 1 Z<|AH h ?_ ?_<;>intro e h
 ·cases h
 refine Ca ?_
 cases h
 refine AjC<|KX ?_;have hT:=hT.trans b;exact JU ⟨Z,d,hT⟩
def HT(a0:Wl×Int)(a:Int):Option (Wl×(Wl×Int)):=
 Ay (0<=a/\a<=(a0.1.length:Int)) (Ay (0<=a/\a<=(a0.1.length:Int)) (TI ((a0.1.take a.toNat),((a0.1.drop a.toNat),a0.2))))
def NQ(a0:Wl×Int)(a1:Wl):Option (Wl×(Wl×Int)):=
 Xd (AbB a0.1 a1) (λa=>if a<0 then(HT a0) (a0.1.length:Int)else(HT a0) a)
def QkB{c w:World}{H:PH}(hH:Le H (hp c)){O:List Bv}{a0:Wl×Int}{a1:Wl}{ba0:Nat}(hL:AB c (Ha [.box ba0 [Pg a0.1,No a0.2] 120] O) w){r:Wl×(Wl×Int)}(h:NQ a0 a1=TI r):
  Ok prog 155 [SX ba0,Pg a1] w (λv w'=>v=(Pg r.1)/\AB c (Ha [.box ba0 [Pg r.2.1,No r.2.2] 120] O) w'/\Le (fz w (Ha [.box ba0 [Pg a0.1,No a0.2] 120] O)) (fz w' (Ha [.box ba0 [Pg r.2.1,No r.2.2] 120] O))):=by
 refine Cx (n:=36) [(0,(SX ba0)),(1,(Pg a1))] func155 Z Z Z Z ?_;have hT:=Le.refl (fz w (Ha [.box ba0 [Pg a0.1,No a0.2] 120] O));refine Af ?_;refine AJ (MT Z)<|Af ?_;refine Ah h λm k h=>Al hL (Ag5 _ _ (Ae hL) k) λs o e b=>BJ 1 Z<|AA Int (λa=>[(0,(SX ba0)),(5,No a)]) (λa wr=>Cd c (Ha [.box ba0 [Pg a0.1,No a0.2] 120] O) wr λOz=>Le (fz w (Ha [.box ba0 [Pg a0.1,No a0.2] 120] O)) (fz wr Oz)/\(HT a0) a=TI r) ?_ ?_
 ·refine Bx 2 Z<|Ar h ?_ ?_<;>intro f h
  ·refine Af ?_;refine AJ (MT Z)<|Af ?_;refine AJ (Dn Z)<|Af ?_;have hT:=hT.trans b;refine Am _ ⟨e,hT,h⟩
  refine Ca ?_;have hT:=hT.trans b;refine Am _ ⟨e,hT,h⟩
 have hT:=hT.trans b;rintro a p ⟨l,hT,h⟩;refine FA 1 Z<|AJ (MT Z)<|Af ?_;refine Ag h λg h=>AJ (Ahu g)<|Af ?_;refine AJ (MT Z)<|Af ?_;refine Ag h λi h=>AJ (Ad5 i)<|AJ (MT Z)<|Af ?_;refine BW 0 Z Z Z l Z Z λq j d=>Af ?_
 cases h
 refine AD Z ?_;have hT:=hT.trans d;exact⟨Z,j,hT⟩
def AgF(self:(Wl×Int)->Option (Option (Qv×(Wl×Int))))(a0:Wl×Int):Option (Option (Qv×(Wl×Int))):=
 Xd (BR (a0.1,a0.2) ([33]:Wl)) (λb=>if b.1 then Xd (self (b.2.1,b.2.2)) (λj=>Go.L.onX j (TI none) (λy12=>TI (TI ((Qv.mk (10:Int) ([]) ([]:Wl) ([]) (0:Int) (0:Int) ([y12.1])),(y12.2.1,y12.2.2)))))else Xd (BR (b.2.1,b.2.2) ([40]:Wl)) (λa=>if a.1 then Xd (JN self (a.2.1,a.2.2)) (λh=>Go.L.onX h (TI none) (λy26=>Xd (Ns (y26.2.1,y26.2.2) ([41]:Wl)) (λi=>Go.L.onX i (TI none) (λy37=>TI (TI (y26.1,(y37.1,y37.2)))))))else Xd (BR (a.2.1,a.2.2) ([34]:Wl)) (λc=>if c.1 then none else Xd (BR (c.2.1,c.2.2) ([39]:Wl)) (λd=>if d.1 then none else Xd (BR (d.2.1,d.2.2) ([47]:Wl)) (λe=>if e.1 then none else Xd (NQ (e.2.1,e.2.2) ([126,38,124,41]:Wl)) (λf=>Xd (BR (f.2.1,f.2.2) ([126]:Wl)) (λg=>if !g.1 then TI (TI ((Qv.mk (1:Int) ([f.1]) ([]:Wl) ([]) (0:Int) (0:Int) ([])),(g.2.1,g.2.2)))else none)))))))
def Qx2{self:(Wl×Int)->Option (Option (Qv×(Wl×Int)))}(hself:∀{b w:World}{H:PH} (hH:Le H (hp b)) (hU:E1 H) {O:List Bv}{a0:Wl×Int}{ba0:Nat} (hL:AB b (Ha [.box ba0 [Pg a0.1,No a0.2] 120] O) w) {r:Option (Qv×(Wl×Int))} (h:self a0=TI r),ZL prog 102 [SX ba0] w (.iface 116 (.agg #[])) (λv w'=>Ze r v (λr v=>∃(u1:Value) (u3:Value) (u6:Value),v=.agg #[No r.1.f.1,u1,Pg r.1.f.2.2.1,u3,No r.1.f.2.2.2.2.1,No r.1.f.2.2.2.2.2.1,u6]/\AB b (Ha [.box ba0 [Pg r.2.1,No r.2.2] 120] O) w'/\Le (fz w (Ha [.box ba0 [Pg a0.1,No a0.2] 120] O)) (fz w' (Ha [.box ba0 [Pg r.2.1,No r.2.2] 120] O))/\As .st (gz H b w' (Ha [.box ba0 [Pg r.2.1,No r.2.2] 120] O)) u1 (r.1.f.2.1)/\As .byte (gz H b w' (Ha [.box ba0 [Pg r.2.1,No r.2.2] 120] O)) u3 (r.1.f.2.2.2.1)/\As .AN (gz H b w' (Ha [.box ba0 [Pg r.2.1,No r.2.2] 120] O)) u6 (r.1.f.2.2.2.2.2.2)) (AB b O w'/\Le (fz w (Ha [.box ba0 [Pg a0.1,No a0.2] 120] O)) (fz w' O)))){b w:World}{H:PH}(hH:Le H (hp b))(hU:E1 H){O:List Bv}{a0:Wl×Int}{ba0:Nat}(hL:AB b (Ha [.box ba0 [Pg a0.1,No a0.2] 120] O) w){r:Option (Qv×(Wl×Int))}(h:AgF self a0=TI r):
  ZL prog 102 [SX ba0] w (.iface 116 (.agg #[])) (λv w'=>Ze r v (λr v=>∃(u1:Value) (u3:Value) (u6:Value),v=.agg #[No r.1.f.1,u1,Pg r.1.f.2.2.1,u3,No r.1.f.2.2.2.2.1,No r.1.f.2.2.2.2.2.1,u6]/\AB b (Ha [.box ba0 [Pg r.2.1,No r.2.2] 120] O) w'/\Le (fz w (Ha [.box ba0 [Pg a0.1,No a0.2] 120] O)) (fz w' (Ha [.box ba0 [Pg r.2.1,No r.2.2] 120] O))/\As .st (gz H b w' (Ha [.box ba0 [Pg r.2.1,No r.2.2] 120] O)) u1 (r.1.f.2.1)/\As .byte (gz H b w' (Ha [.box ba0 [Pg r.2.1,No r.2.2] 120] O)) u3 (r.1.f.2.2.2.1)/\As .AN (gz H b w' (Ha [.box ba0 [Pg r.2.1,No r.2.2] 120] O)) u6 (r.1.f.2.2.2.2.2.2)) (AB b O w'/\Le (fz w (Ha [.box ba0 [Pg a0.1,No a0.2] 120] O)) (fz w' O))):=by
 refine On 62 [(0,(SX ba0))] func102 Z Z Z Z Z ?_;have hT:=Le.refl (fz w (Ha [.box ba0 [Pg a0.1,No a0.2] 120] O));refine A5<|Aq Bs.e Z hL λw1 o a6 j _=>AR ?_;have a7:AB b (Ha [.box ba0 [Pg a0.1,No a0.2] 120,.box o PG 27] O) w1:=a6.BX [1] Z;have k:=Bb [1] a6 a7 Z;refine Ah h λx3 ce h=>D5 (BD hH (Ha [.box o PG 27] O) (a0.1,a0.2) ([33]:Wl) a7 ce) ?_;rintro _ w4 ⟨rfl,a8,m⟩;refine BJ 1 Z<|AH h ?_ ?_<;>intro cf h
 ·refine FA 1 Z<|Ah h λx7 cg h=>Qa (hself (a0:=(x3.2.1,x3.2.2)) (O:=(Ha [.box o PG 27] O)) hH hU a8 cg) ?_ ?_
  ·rintro rfl w9 ⟨ch,bd⟩;have h:=JS h;refine DZ<|FD<|DZ ?_
   cases h
   refine NT ?_;have be:=ch.dT 0 Z;have hT:=hT.trans (j.trans (k.trans (m.trans (bd.trans (fz_dT 0 Z)))));exact La ⟨be,hT⟩
  rintro y12 rfl _ w8 ⟨cn,co,cp,rfl,ci,bf,aq,ar,au⟩;have h:=JT h;refine Bi [y12.1] (r:=.AN) (λ_=>Pk _ _ _ _ _ _ _ _) ci (.c7 (Go.E.Rp.Gu ⟨_,_,Z,Z,⟨_,_,Z,⟨_,Z,aq⟩,⟨_,_,Z,Z,⟨_,_,Z,⟨_,Z,ar⟩,⟨_,_,Z,Z,⟨_,_,Z,Z,⟨_,Z,au⟩⟩⟩⟩⟩⟩⟩) .nil) λcj cs cq bg av q=>AJ (A8 (λ_=>Qe _ _ q.one _))<|Ac 1 Z bg Z (a:=(AV Z (AV Z (AV Z (AV Z (AV Z (AV Z (AV q.one JO)))))))) λct aj aa=>Af ?_
  cases h
  refine NS<|Bz (.cell Z Vv Z Bs.e (box_pT 1 aj Z)) ?_;have bh:=aj.dT 1 Z;have hT:=hT.trans (j.trans (k.trans (m.trans (bf.trans (av.trans (aa.trans (fz_dT 1 Z)))))));have q:=q.mono (Aa (aa.trans (fz_dT 1 Z)));exact JU ⟨TO,TO,cj,Z,bh,hT,(As.nil _ _),(As.nil _ _),q⟩
 refine FA 1 Z<|Ah h λab bi h=>D5 (BD hH (Ha [.box o PG 27] O) (x3.2.1,x3.2.2) ([40]:Wl) a8 bi) ?_;rintro _ cu ⟨rfl,ak,p⟩;refine BJ 1 Z<|AH h ?_ ?_<;>intro bj h
 ·refine FA 1 Z<|Ah h λcv bk h=>Qa (LN (hself:=hself) (a0:=(ab.2.1,ab.2.2)) (O:=(Ha [.box o PG 27] O)) hH hU ak bk) ?_ ?_
  ·rintro rfl cw ⟨bl,aw⟩;have h:=JS h;refine DZ<|FD<|DZ ?_
   cases h
   refine NT ?_;have bm:=bl.dT 0 Z;have hT:=hT.trans (j.trans (k.trans (m.trans (p.trans (aw.trans (fz_dT 0 Z))))));exact La ⟨bm,hT⟩
  rintro y26 rfl _ cx ⟨t,u,x,rfl,bn,ac,c,d,e⟩;have h:=JT h;refine Aq Bs.e Z bn λcy a9 bo g _=>Ac 0 Z bo Z (a:=(AV Z (AV c.one (AV Z (AV d.one (AV Z (AV Z (AV e.one JO)))))))) ?_;intro ck z i;have a:=z.rG H;refine Af ?_;have al:AB b (Ha [.box ba0 [Pg y26.2.1,No y26.2.2] 120,.box a9 [No y26.1.f.1,t,Pg y26.1.f.2.2.1,u,No y26.1.f.2.2.2.2.1,No y26.1.f.2.2.2.2.2.1,x] 27,.box o PG 27] O) ck:=z.BX [1] Z;have y:=Bb [1] z al Z;refine Ah h λcz bp h=>Qa (Qjd (a0:=(y26.2.1,y26.2.2)) (a1:=([41]:Wl)) (O:=(Ha [.box a9 [No y26.1.f.1,t,Pg y26.1.f.2.2.1,u,No y26.1.f.2.2.2.2.1,No y26.1.f.2.2.2.2.2.1,x] 27,.box o PG 27] O)) hH al bp) ?_ ?_
  ·rintro rfl c0 ⟨bq,ax⟩;have h:=JS h;refine DZ<|FD<|DZ ?_
   cases h
   refine NT ?_;have br:=bq.dT 0 Z;have bs:=br.dT 0 Z;have hT:=hT.trans (j.trans (k.trans (m.trans (p.trans (ac.trans (g.trans (i.trans (y.trans (ax.trans ((fz_dT 0 Z).trans (fz_dT 0 Z)))))))))));exact La ⟨bs,hT⟩
  rintro y37 rfl _ c2 ⟨rfl,bt,ad⟩;have h:=JT h;refine Af ?_;have c:=c.mono (Aa (g.trans i));have d:=d.mono (Aa (g.trans i));have e:=e.mono (Aa (g.trans i));have a:=a.trans (Aa (y.trans ad));refine Ac 2 Z bt Z (a:=(AV Z (AV (c.mono a).one (AV Z (AV (d.mono a).one (AV Z (AV Z (AV (e.mono a).one JO)))))))) λc3 am ae=>Af ?_
  cases h
  refine NS<|Bz (.cell Z Vv Z Bs.e (box_pT 2 am Z)) ?_;have bu:=am.dT 1 Z;have bv:=bu.dT 1 Z;have hT:=hT.trans (j.trans (k.trans (m.trans (p.trans (ac.trans (g.trans (i.trans (y.trans (ad.trans (ae.trans ((fz_dT 1 Z).trans (fz_dT 1 Z))))))))))));have a:=a.trans (Aa (ae.trans ((fz_dT 1 Z).trans (fz_dT 1 Z))));exact JU ⟨t,u,x,Z,bv,hT,(c.mono a),(d.mono a),(e.mono a)⟩
 refine FA 1 Z<|Ah h λba bw h=>D5 (BD hH (Ha [.box o PG 27] O) (ab.2.1,ab.2.2) ([34]:Wl) ak bw) ?_;rintro _ c4 ⟨rfl,bx,ay⟩;refine BJ 1 Z<|AH h ?_ ?_<;>intro bz h
 ·cases h
 refine FA 1 Z<|Ah h λbb b0 h=>D5 (BD hH (Ha [.box o PG 27] O) (ba.2.1,ba.2.2) ([39]:Wl) bx b0) ?_;rintro _ c5 ⟨rfl,b2,az⟩;refine BJ 1 Z<|AH h ?_ ?_<;>intro b3 h
 ·cases h
 refine FA 1 Z<|Ah h λbc b4 h=>D5 (BD hH (Ha [.box o PG 27] O) (bb.2.1,bb.2.2) ([47]:Wl) b2 b4) ?_;rintro _ c6 ⟨rfl,b5,a2⟩;refine BJ 1 Z<|AH h ?_ ?_<;>intro b6 h
 ·cases h
 refine Af ?_;refine Ah h λan b7 h=>D5 (QkB (a0:=(bc.2.1,bc.2.2)) (a1:=([126,38,124,41]:Wl)) (O:=(Ha [.box o PG 27] O)) hH b5 b7) ?_;rintro _ c8 ⟨rfl,b8,a3⟩;refine AR ?_;refine Ah h λc9 b9 h=>D5 (BD hH (Ha [.box o PG 27] O) (an.2.1,an.2.2) ([126]:Wl) b8 b9) ?_;rintro _ da ⟨rfl,ca,a4⟩;refine BJ 1 Z<|AH h ?_ ?_<;>intro cb h
 ·refine FA 1 Z<|Bi [an.1] (r:=.st) (λ_=>Kr _ Z _) ca (.c1 Z .nil) λcl db cr cc a5 s=>AJ (A8 (λ_=>Ae4 _ _ s.one _))<|Ac 1 Z cc Z (a:=(AV Z (AV s.one (A6 Z)))) λdc ao af=>Af ?_
  cases h
  refine NS<|Bz (.cell Z Vv Z Bs.e (box_pT 1 ao Z)) ?_;have cd:=ao.dT 1 Z;have hT:=hT.trans (j.trans (k.trans (m.trans (p.trans (ay.trans (az.trans (a2.trans (a3.trans (a4.trans (a5.trans (af.trans (fz_dT 1 Z))))))))))));have s:=s.mono (Aa (af.trans (fz_dT 1 Z)));exact JU ⟨cl,TO,TO,Z,cd,hT,s,(As.nil _ _),(As.nil _ _)⟩
 refine Af ?_
 cases h
def GN:Nat->(Wl×Int)->Option (Option (Qv×(Wl×Int)))
 | 0=>λ_=>none
 | n+1=>AgF (GN n)
def P4:(Wl×Int)->Option (Option (Qv×(Wl×Int))):=GN 1000
theorem AkQ(n:Nat):∀{a w:World}{H:PH} (hH:Le H (hp a)) (hU:E1 H) {O:List Bv}{a0:Wl×Int}{ba0:Nat} (hL:AB a (Ha [.box ba0 [Pg a0.1,No a0.2] 120] O) w) {r:Option (Qv×(Wl×Int))} (h:GN n a0=TI r),ZL prog 102 [SX ba0] w (.iface 116 (.agg #[])) (λv w'=>Ze r v (λr v=>∃(b:Value) (c:Value) (d:Value),v=.agg #[No r.1.f.1,b,Pg r.1.f.2.2.1,c,No r.1.f.2.2.2.2.1,No r.1.f.2.2.2.2.2.1,d]/\AB a (Ha [.box ba0 [Pg r.2.1,No r.2.2] 120] O) w'/\Le (fz w (Ha [.box ba0 [Pg a0.1,No a0.2] 120] O)) (fz w' (Ha [.box ba0 [Pg r.2.1,No r.2.2] 120] O))/\As .st (gz H a w' (Ha [.box ba0 [Pg r.2.1,No r.2.2] 120] O)) b (r.1.f.2.1)/\As .byte (gz H a w' (Ha [.box ba0 [Pg r.2.1,No r.2.2] 120] O)) c (r.1.f.2.2.2.1)/\As .AN (gz H a w' (Ha [.box ba0 [Pg r.2.1,No r.2.2] 120] O)) d (r.1.f.2.2.2.2.2.2)) (AB a O w'/\Le (fz w (Ha [.box ba0 [Pg a0.1,No a0.2] 120] O)) (fz w' O))):=by
 induction n with
 | zero=>intros;rename_i h;cases h
 | succ n ih=>exact @Qx2 (GN n) ih
def Qx9:∀{a w:World}{H:PH} (hH:Le H (hp a)) (hU:E1 H) {O:List Bv}{a0:Wl×Int}{ba0:Nat} (hL:AB a (Ha [.box ba0 [Pg a0.1,No a0.2] 120] O) w) {r:Option (Qv×(Wl×Int))} (h:P4 a0=TI r),ZL prog 102 [SX ba0] w (.iface 116 (.agg #[])) (λv w'=>Ze r v (λr v=>∃(b:Value) (c:Value) (d:Value),v=.agg #[No r.1.f.1,b,Pg r.1.f.2.2.1,c,No r.1.f.2.2.2.2.1,No r.1.f.2.2.2.2.2.1,d]/\AB a (Ha [.box ba0 [Pg r.2.1,No r.2.2] 120] O) w'/\Le (fz w (Ha [.box ba0 [Pg a0.1,No a0.2] 120] O)) (fz w' (Ha [.box ba0 [Pg r.2.1,No r.2.2] 120] O))/\As .st (gz H a w' (Ha [.box ba0 [Pg r.2.1,No r.2.2] 120] O)) b (r.1.f.2.1)/\As .byte (gz H a w' (Ha [.box ba0 [Pg r.2.1,No r.2.2] 120] O)) c (r.1.f.2.2.2.1)/\As .AN (gz H a w' (Ha [.box ba0 [Pg r.2.1,No r.2.2] 120] O)) d (r.1.f.2.2.2.2.2.2)) (AB a O w'/\Le (fz w (Ha [.box ba0 [Pg a0.1,No a0.2] 120] O)) (fz w' O))):=AkQ 1000
def AbQ(_a0:Qv)(_a1:Int×Int):Option (Qv×Zv):=
 Xd (C5 (1:Int) (-1:Int)) (λa=>TI ((Qv.mk (0:Int) ([]) ([]:Wl) ([]) (0:Int) (0:Int) ([])),(a.1,a.2)))
def Qzu{a w:World}{H:PH}(hH:Le H (hp a)){O:List Bv}{a0:Qv}{a1:Int×Int}{ba0:Nat}{va0_1:Value}{xsa0_1:LR}{va0_3:Value}{xsa0_3:LR}{va0_6:Value}{xsa0_6:LR}{ba1:Nat}(hL:AB a (Ha [.box ba0 [No a0.f.1,va0_1,Pg a0.f.2.2.1,va0_3,No a0.f.2.2.2.2.1,No a0.f.2.2.2.2.2.1,va0_6] 27,.row va0_1 9 1 (a0.f.2.1).length xsa0_1,.row va0_3 5 1 (a0.f.2.2.2.1).length xsa0_3,.row va0_6 27 7 (a0.f.2.2.2.2.2.2).length xsa0_6,.box ba1 [No a1.1,No a1.2] 39] O) w)(_hea0_1:Ao .st (gz H a w (Ha [.box ba0 [No a0.f.1,va0_1,Pg a0.f.2.2.1,va0_3,No a0.f.2.2.2.2.1,No a0.f.2.2.2.2.2.1,va0_6] 27,.row va0_1 9 1 (a0.f.2.1).length xsa0_1,.row va0_3 5 1 (a0.f.2.2.2.1).length xsa0_3,.row va0_6 27 7 (a0.f.2.2.2.2.2.2).length xsa0_6,.box ba1 [No a1.1,No a1.2] 39] O)) (a0.f.2.1) xsa0_1)(_hea0_3:Ao .byte (gz H a w (Ha [.box ba0 [No a0.f.1,va0_1,Pg a0.f.2.2.1,va0_3,No a0.f.2.2.2.2.1,No a0.f.2.2.2.2.2.1,va0_6] 27,.row va0_1 9 1 (a0.f.2.1).length xsa0_1,.row va0_3 5 1 (a0.f.2.2.2.1).length xsa0_3,.row va0_6 27 7 (a0.f.2.2.2.2.2.2).length xsa0_6,.box ba1 [No a1.1,No a1.2] 39] O)) (a0.f.2.2.2.1) xsa0_3)(_hea0_6:Ao .AN (gz H a w (Ha [.box ba0 [No a0.f.1,va0_1,Pg a0.f.2.2.1,va0_3,No a0.f.2.2.2.2.1,No a0.f.2.2.2.2.2.1,va0_6] 27,.row va0_1 9 1 (a0.f.2.1).length xsa0_1,.row va0_3 5 1 (a0.f.2.2.2.1).length xsa0_3,.row va0_6 27 7 (a0.f.2.2.2.2.2.2).length xsa0_6,.box ba1 [No a1.1,No a1.2] 39] O)) (a0.f.2.2.2.2.2.2) xsa0_6){r:Qv×Zv}(h:AbQ a0 a1=TI r):
  QT prog 52 [SX ba0,SX ba1] (.panicking (pch (.iface 116 (.agg #[])))) (.panicking (T8 (.iface 116 (.agg #[])))) w (λw'=>∃(b:Value) (c:Value) (d:Value),AB a (Ha [.box ba0 [No r.1.f.1,b,Pg r.1.f.2.2.1,c,No r.1.f.2.2.2.2.1,No r.1.f.2.2.2.2.2.1,d] 27,.box ba1 [No r.2.1,No r.2.2] 39] O) w'/\Le (fz w (Ha [.box ba0 [No a0.f.1,va0_1,Pg a0.f.2.2.1,va0_3,No a0.f.2.2.2.2.1,No a0.f.2.2.2.2.2.1,va0_6] 27,.row va0_1 9 1 (a0.f.2.1).length xsa0_1,.row va0_3 5 1 (a0.f.2.2.2.1).length xsa0_3,.row va0_6 27 7 (a0.f.2.2.2.2.2.2).length xsa0_6,.box ba1 [No a1.1,No a1.2] 39] O)) (fz w' (Ha [.box ba0 [No r.1.f.1,b,Pg r.1.f.2.2.1,c,No r.1.f.2.2.2.2.1,No r.1.f.2.2.2.2.2.1,d] 27,.box ba1 [No r.2.1,No r.2.2] 39] O))/\As .st (gz H a w' (Ha [.box ba0 [No r.1.f.1,b,Pg r.1.f.2.2.1,c,No r.1.f.2.2.2.2.1,No r.1.f.2.2.2.2.2.1,d] 27,.box ba1 [No r.2.1,No r.2.2] 39] O)) b (r.1.f.2.1)/\As .byte (gz H a w' (Ha [.box ba0 [No r.1.f.1,b,Pg r.1.f.2.2.1,c,No r.1.f.2.2.2.2.1,No r.1.f.2.2.2.2.2.1,d] 27,.box ba1 [No r.2.1,No r.2.2] 39] O)) c (r.1.f.2.2.2.1)/\As .AN (gz H a w' (Ha [.box ba0 [No r.1.f.1,b,Pg r.1.f.2.2.1,c,No r.1.f.2.2.2.2.1,No r.1.f.2.2.2.2.2.1,d] 27,.box ba1 [No r.2.1,No r.2.2] 39] O)) d (r.1.f.2.2.2.2.2.2)):=by
 refine VI (pv:=.iface 116 (.agg #[])) (k:=16) [(0,(SX ba0)),(1,(SX ba1))] func52 Z Z Z Z Z Z Z .yes (Az Z) ?_;have hT:=Le.refl (fz w (Ha [.box ba0 [No a0.f.1,va0_1,Pg a0.f.2.2.1,va0_3,No a0.f.2.2.2.2.1,No a0.f.2.2.2.2.2.1,va0_6] 27,.row va0_1 9 1 (a0.f.2.1).length xsa0_1,.row va0_3 5 1 (a0.f.2.2.2.1).length xsa0_3,.row va0_6 27 7 (a0.f.2.2.2.2.2.2).length xsa0_6,.box ba1 [No a1.1,No a1.2] 39] O));refine FA 1 Z<|AJ Alk<|Ap<|Cm<|FA 1 Z<|AJ (Ah9 Z)<|AK 3 Z<|Aq AeG.e Z hL λz b2 p g _=>Ac 0 Z p Z (a:=JO) λw3 e i=>Af ?_;refine Cm<|FC<|AJ (A8 (λ_=>AaL _))<|Ah h λx4 q h=>Al e (Cp _ _ (Ae e) q) λw5 y s j=>Ac 1 Z s Z λw6 t l=>Ac 5 Z t Z λw7 u m=>HX ?_
 cases h
 refine KX ?_;have v:=u.dT 0 Z;have x:=v.dT 1 Z;have n:=x.dT 1 Z;have o:=n.dT 1 Z;have hT:=hT.trans (g.trans (i.trans (j.trans (l.trans (m.trans ((fz_dT 0 Z).trans ((fz_dT 1 Z).trans ((fz_dT 1 Z).trans (fz_dT 1 Z)))))))));exact⟨TO,TO,TO,o,hT,(As.nil _ _),(As.nil _ _),(As.nil _ _)⟩
def Ml(_a0:Qv)(_a1:Int×Int):Option (Qv×Zv):=
 Xd (C5 (1:Int) (-1:Int)) (λa=>TI ((Qv.mk (0:Int) ([]) ([]:Wl) ([]) (0:Int) (0:Int) ([])),(a.1,a.2)))
def Ajo{a w:World}{H:PH}(hH:Le H (hp a)){O:List Bv}{a0:Qv}{a1:Int×Int}{ba0:Nat}{va0_1 va0_3 va0_6:Value}{ba1:Nat}(hL:AB a (Ha [.box ba0 [No a0.f.1,va0_1,Pg a0.f.2.2.1,va0_3,No a0.f.2.2.2.2.1,No a0.f.2.2.2.2.2.1,va0_6] 27,.box ba1 [No a1.1,No a1.2] 39] O) w)(_ha0_1:As .st (gz H a w (Ha [.box ba0 [No a0.f.1,va0_1,Pg a0.f.2.2.1,va0_3,No a0.f.2.2.2.2.1,No a0.f.2.2.2.2.2.1,va0_6] 27,.box ba1 [No a1.1,No a1.2] 39] O)) va0_1 (a0.f.2.1))(_ha0_3:As .byte (gz H a w (Ha [.box ba0 [No a0.f.1,va0_1,Pg a0.f.2.2.1,va0_3,No a0.f.2.2.2.2.1,No a0.f.2.2.2.2.2.1,va0_6] 27,.box ba1 [No a1.1,No a1.2] 39] O)) va0_3 (a0.f.2.2.2.1))(_ha0_6:As .AN (gz H a w (Ha [.box ba0 [No a0.f.1,va0_1,Pg a0.f.2.2.1,va0_3,No a0.f.2.2.2.2.1,No a0.f.2.2.2.2.2.1,va0_6] 27,.box ba1 [No a1.1,No a1.2] 39] O)) va0_6 (a0.f.2.2.2.2.2.2)){r:Qv×Zv}(h:Ml a0 a1=TI r):
  QT prog 52 [SX ba0,SX ba1] (.panicking (pch (.iface 116 (.agg #[])))) (.panicking (T8 (.iface 116 (.agg #[])))) w (λw'=>∃(b:Value) (c:Value) (d:Value),AB a (Ha [.box ba0 [No r.1.f.1,b,Pg r.1.f.2.2.1,c,No r.1.f.2.2.2.2.1,No r.1.f.2.2.2.2.2.1,d] 27,.box ba1 [No r.2.1,No r.2.2] 39] O) w'/\Le (fz w (Ha [.box ba0 [No a0.f.1,va0_1,Pg a0.f.2.2.1,va0_3,No a0.f.2.2.2.2.1,No a0.f.2.2.2.2.2.1,va0_6] 27,.box ba1 [No a1.1,No a1.2] 39] O)) (fz w' (Ha [.box ba0 [No r.1.f.1,b,Pg r.1.f.2.2.1,c,No r.1.f.2.2.2.2.1,No r.1.f.2.2.2.2.2.1,d] 27,.box ba1 [No r.2.1,No r.2.2] 39] O))/\As .st (gz H a w' (Ha [.box ba0 [No r.1.f.1,b,Pg r.1.f.2.2.1,c,No r.1.f.2.2.2.2.1,No r.1.f.2.2.2.2.2.1,d] 27,.box ba1 [No r.2.1,No r.2.2] 39] O)) b (r.1.f.2.1)/\As .byte (gz H a w' (Ha [.box ba0 [No r.1.f.1,b,Pg r.1.f.2.2.1,c,No r.1.f.2.2.2.2.1,No r.1.f.2.2.2.2.2.1,d] 27,.box ba1 [No r.2.1,No r.2.2] 39] O)) c (r.1.f.2.2.2.1)/\As .AN (gz H a w' (Ha [.box ba0 [No r.1.f.1,b,Pg r.1.f.2.2.1,c,No r.1.f.2.2.2.2.1,No r.1.f.2.2.2.2.2.1,d] 27,.box ba1 [No r.2.1,No r.2.2] 39] O)) d (r.1.f.2.2.2.2.2.2)):=by
 refine VI (pv:=.iface 116 (.agg #[])) (k:=16) [(0,(SX ba0)),(1,(SX ba1))] func52 Z Z Z Z Z Z Z .yes (Az Z) ?_;have hT:=Le.refl (fz w (Ha [.box ba0 [No a0.f.1,va0_1,Pg a0.f.2.2.1,va0_3,No a0.f.2.2.2.2.1,No a0.f.2.2.2.2.2.1,va0_6] 27,.box ba1 [No a1.1,No a1.2] 39] O));refine FA 1 Z<|AJ Alk<|Ap<|Cm<|FA 1 Z<|AJ (Ah9 Z)<|AK 3 Z<|Aq AeG.e Z hL λv x n g _=>Ac 0 Z n Z (a:=JO) λy e i=>Af ?_;refine Cm<|FC<|AJ (A8 (λ_=>AaL _))<|Ah h λz o h=>Al e (Cp _ _ (Ae e) o) λw5 u p j=>Ac 1 Z p Z λw6 q l=>Ac 2 Z q Z λw7 s m=>HX ?_
 cases h
 refine KX ?_;have t:=s.dT 0 Z;have hT:=hT.trans (g.trans (i.trans (j.trans (l.trans (m.trans (fz_dT 0 Z))))));exact⟨TO,TO,TO,t,hT,(As.nil _ _),(As.nil _ _),(As.nil _ _)⟩
def P5(a0:Qv)(a1:Int×Int):Option (Qv×Zv):=
 TI (a0,(a1.1,a1.2))
def Qjx{a w:World}{H:PH}(_hH:Le H (hp a)){O:List Bv}{a0:Qv}{a1:Int×Int}{ba0:Nat}{va0_1 va0_3 va0_6:Value}{ba1:Nat}(hL:AB a (Ha [.box ba0 [No a0.f.1,va0_1,Pg a0.f.2.2.1,va0_3,No a0.f.2.2.2.2.1,No a0.f.2.2.2.2.2.1,va0_6] 27,.box ba1 [No a1.1,No a1.2] 39] O) w)(g:As .st (gz H a w (Ha [.box ba0 [No a0.f.1,va0_1,Pg a0.f.2.2.1,va0_3,No a0.f.2.2.2.2.1,No a0.f.2.2.2.2.2.1,va0_6] 27,.box ba1 [No a1.1,No a1.2] 39] O)) va0_1 (a0.f.2.1))(i:As .byte (gz H a w (Ha [.box ba0 [No a0.f.1,va0_1,Pg a0.f.2.2.1,va0_3,No a0.f.2.2.2.2.1,No a0.f.2.2.2.2.2.1,va0_6] 27,.box ba1 [No a1.1,No a1.2] 39] O)) va0_3 (a0.f.2.2.2.1))(j:As .AN (gz H a w (Ha [.box ba0 [No a0.f.1,va0_1,Pg a0.f.2.2.1,va0_3,No a0.f.2.2.2.2.1,No a0.f.2.2.2.2.2.1,va0_6] 27,.box ba1 [No a1.1,No a1.2] 39] O)) va0_6 (a0.f.2.2.2.2.2.2)){r:Qv×Zv}(h:P5 a0 a1=TI r):
  QT prog 52 [SX ba0,SX ba1] .returning .returning w (λw'=>∃(b:Value) (c:Value) (d:Value),AB a (Ha [.box ba0 [No r.1.f.1,b,Pg r.1.f.2.2.1,c,No r.1.f.2.2.2.2.1,No r.1.f.2.2.2.2.2.1,d] 27,.box ba1 [No r.2.1,No r.2.2] 39] O) w'/\Le (fz w (Ha [.box ba0 [No a0.f.1,va0_1,Pg a0.f.2.2.1,va0_3,No a0.f.2.2.2.2.1,No a0.f.2.2.2.2.2.1,va0_6] 27,.box ba1 [No a1.1,No a1.2] 39] O)) (fz w' (Ha [.box ba0 [No r.1.f.1,b,Pg r.1.f.2.2.1,c,No r.1.f.2.2.2.2.1,No r.1.f.2.2.2.2.2.1,d] 27,.box ba1 [No r.2.1,No r.2.2] 39] O))/\As .st (gz H a w' (Ha [.box ba0 [No r.1.f.1,b,Pg r.1.f.2.2.1,c,No r.1.f.2.2.2.2.1,No r.1.f.2.2.2.2.2.1,d] 27,.box ba1 [No r.2.1,No r.2.2] 39] O)) b (r.1.f.2.1)/\As .byte (gz H a w' (Ha [.box ba0 [No r.1.f.1,b,Pg r.1.f.2.2.1,c,No r.1.f.2.2.2.2.1,No r.1.f.2.2.2.2.2.1,d] 27,.box ba1 [No r.2.1,No r.2.2] 39] O)) c (r.1.f.2.2.2.1)/\As .AN (gz H a w' (Ha [.box ba0 [No r.1.f.1,b,Pg r.1.f.2.2.1,c,No r.1.f.2.2.2.2.1,No r.1.f.2.2.2.2.2.1,d] 27,.box ba1 [No r.2.1,No r.2.2] 39] O)) d (r.1.f.2.2.2.2.2.2)):=by
 refine VI (pv:=.iface 116 (.agg #[])) (k:=16) [(0,(SX ba0)),(1,(SX ba1))] func52 Z Z Z Z Z Z Z .no (Az Z) ?_;have hT:=Le.refl (fz w (Ha [.box ba0 [No a0.f.1,va0_1,Pg a0.f.2.2.1,va0_3,No a0.f.2.2.2.2.1,No a0.f.2.2.2.2.2.1,va0_6] 27,.box ba1 [No a1.1,No a1.2] 39] O));have e:=hL.rG H;refine FA 1 Z<|AJ AmI<|Ap<|BO<|Ca ?_
 cases h
 refine KX ⟨va0_1,va0_3,va0_6,hL,hT,(g.mono e),(i.mono e),(j.mono e)⟩
def AaE(y22:Qv×(Wl×Int)):Option (Qv×Zv):=
 Xd (P5 y22.1 (0,0)) (λa=>TI (a.1,(a.2.1,a.2.2)))
def R5(a0:Wl):Option (Qv×Zv):=
 if 200<(a0.length:Int)then Xd (C5 (3:Int) (-1:Int)) (λd=>TI ((Qv.mk (0:Int) ([]) ([]:Wl) ([]) (0:Int) (0:Int) ([])),(d.1,d.2)))else Xd (JN P4 (a0,0)) (λe=>Go.L.onX e (Xd (AbQ (Qv.mk (0:Int) ([]:List Wl) ([]:Wl) ([]:Wl) (0:Int) (0:Int) ([]:List Qv)) (0,0)) (λa=>TI (a.1,(a.2.1,a.2.2)))) (λy22=>Xd (HL y22.1) (λb=>if(((!decide (b.2.1=0/\b.2.2=0))||(!decide (y22.2.1=([]:Wl))))||(!decide (b.1=a0)))then Xd (Ml y22.1 (0,0)) (λc=>TI (c.1,(c.2.1,c.2.2)))else(AaE y22))))
section
variable(w:World)(H:PH)(hH:Le H (hp w)) include hH
theorem RS(hU:E1 H){a0:Wl}{r:Qv×Zv}(h:R5 a0=TI r):
  Pd 21 [Pg a0] w (λv w'=>∃u0 u1 u2,v=.tuple #[.agg #[No r.1.f.1,u0,Pg r.1.f.2.2.1,u1,No r.1.f.2.2.2.2.1,No r.1.f.2.2.2.2.2.1,u2],.agg #[No r.2.1,No r.2.2]]/\As .st (un H (nw w w')) u0 (r.1.f.2.1)/\As .byte (un H (nw w w')) u1 (r.1.f.2.2.2.1)/\As .AN (un H (nw w w')) u2 (r.1.f.2.2.2.2.2.2)):=by
 refine Af8 (n:=42) [(0,(Pg a0))] func21 Z Z Z Z ?_;have hL:=AB.start w;refine A5<|Aq Bs.e Z hL λw1 b1 b5 cs _=>Aq Av.e Z b5 λw2 b2 ap ct _=>AR ?_;refine AJ (Dn Z)<|BJ 1 Z<|Ar h ?_ ?_<;>intro b6 h
 ·refine A5<|AJ (A8 (λ_=>AaL _))<|Ah h λx5 b7 h=>Al ap (Cp _ _ (Ae ap) b7) λw6 cz b8 cu=>Ac 1 Z b8 Z λw7 b9 cv=>Ac 0 Z b9 Z λw8 aq cw=>Af ?_
  cases h
  refine AgY<|AP (.cell Z Vv Z Bs.e (box_pT 1 aq Z)) (.cell Z QW Z Av.e (box_pT 0 aq Z)) ⟨aq.ext,_,_,_,Z,(As.nil _ _),(As.nil _ _),(As.nil _ _)⟩
 refine Af ?_;refine AjD Z<|Af ?_;refine AJ (A8 (λ_=>Ah1 _ Z _))<|B6 (t:=120) Z Z ap λc0 u bk cc _=>Af ?_;refine Ah h λc1 bl h=>Qa (LN (hself:=Qx9) (a0:=(a0,0)) (O:=[.box b2 [No 0,No 0] 39,.box b1 PG 27]) hH hU bk bl) ?_ ?_
 ·rintro rfl bi ⟨bm,cd⟩;have h:=JS h;refine DZ ?_;obtain⟨bn,ce,ac⟩:=B3 .st H 9 bm;obtain⟨bo,bd,ad⟩:=B3 .byte H 5 bn;obtain⟨ar,al,ae⟩:=B3 .AN H 27 bo;have af:AB w [.row TO 9 1 (([]:List Wl)).length ([]),.row TO 5 1 (([]:Wl)).length ([]),.row TO 27 7 (([]:List Qv)).length ([]),.box b2 [No 0,No 0] 39,.box b1 PG 27] bi:=ar.BX [1,2] Z;have o:=Bb [1,2] ar af Z;have au:AB w [.box b1 PG 27,.row TO 9 1 (([]:List Wl)).length ([]),.row TO 5 1 (([]:Wl)).length ([]),.row TO 27 7 (([]:List Qv)).length ([]),.box b2 [No 0,No 0] 39] bi:=af.BX [4] Z;have p:=Bb [4] af au Z;refine Ah h λc2 bp h=>?_;have ac:=ac.mono (Aa (bd.trans (al.trans (o.trans p))));have ad:=ad.mono (Aa (al.trans (o.trans p)))
  have ae:=ae.mono (Aa (o.trans p));refine Ae8 (Qzu (a0:=(Qv.mk (0:Int) ([]:List Wl) ([]:Wl) ([]:Wl) (0:Int) (0:Int) ([]:List Qv))) (a1:=(0,0)) (O:=[]) hH au ac ad ae bp) ?_;rintro c3 ⟨cf,cg,ch,ag,ci,av,aw,ax⟩ az frz
  cases h
  exact⟨_,Yi Z (.cell Z Vv Z Bs.e (box_pT 0 ag Z)) (.cell Z QW Z Av.e (box_pT 1 ag Z)) frz,ag.ext,_,_,_,Z,(av.mono  Dl),(aw.mono  Dl),(ax.mono  Dl)⟩
 rintro y22 rfl _ c4 ⟨k,l,m,rfl,bq,cj,b,c,d⟩;have h:=JT h;refine Ac 2 Z bq Z (a:=(AV Z (AV b.one (AV Z (AV c.one (AV Z (AV Z (AV d.one JO)))))))) λc5 ah q=>Ap<|AA Unit (λ(_:Unit)=>[(2,(SX b1)),(3,(SX b2))]) (λ(_:Unit) wr=>Cd w [.box u [Pg y22.2.1,No y22.2.2] 120,.box b2 [No 0,No 0] 39,.box b1 [No y22.1.f.1,k,Pg y22.1.f.2.2.1,l,No y22.1.f.2.2.2.2.1,No y22.1.f.2.2.2.2.2.1,m] 27] wr λOz=>As .st (gz H w wr Oz) k (y22.1.f.2.1)/\As .byte (gz H w wr Oz) l (y22.1.f.2.2.2.1)/\As .AN (gz H w wr Oz) m (y22.1.f.2.2.2.2.2.2)/\(AaE y22)=TI r) ?_ ?_
 ·have a:=ah.rG H;refine Af ?_;refine Ah h λg br h=>?_;have b:=b.mono (Aa q);have c:=c.mono (Aa q);have d:=d.mono (Aa q);refine Al ah (Kx _ _ (Ae ah) (hU.mono  Ad) y22.1 (b.mono a) (c.mono a) (d.mono a) br) λc6 cx bs am=>AK 3 Z<|Aq Av.e Z bs λc7 bj bt an _=>AK 1 Z<|Ac 0 Z bt Z λca ai ao=>Af ?_;refine AJ (A8 (λ_=>Bo _))<|AJ (I4 Ge (KO _ _ _ _))<|AK 1 Z<|Gs 6 32 (.bool ((!decide (g.2.1=0/\g.2.2=0))||(!decide (y22.2.1=([]:Wl))))) (λay=>?_) ?_
  ·refine Cu (s:=26) Z (λi=>?_) (λi=>?_)
   ·iterate 5 refine AW i ?_
    refine sF i Z<|ay.to 5 (T3 i) Z Z
   refine Af ?_;refine AJ (MT Z)<|Af ?_;refine AJ (ND Z Z)<|sG i Z<|ay.to 5 (T5 i) Z Z
  refine AK 1 Z<|Gs 4 37 (.bool (((!decide (g.2.1=0/\g.2.2=0))||(!decide (y22.2.1=([]:Wl))))||(!decide (g.1=a0)))) (λa2=>?_) ?_
  ·refine Cu (s:=33) Z (λj=>?_) (λj=>?_)
   ·iterate 3 refine AW j ?_
    refine sF j Z<|a2.to 3 (T3 j) Z Z
   refine Af ?_;refine AJ (ND Z Z)<|sG j Z<|a2.to 3 (T5 j) Z Z
  refine Ap<|AH h ?_ ?_<;>intro bu h
  ·refine FC<|AJ (A8 (λ_=>Ah0 _))<|AJ (AmH Z AlB Z)<|AjA<|QI ?_;have a3:AB w [.box b1 [No y22.1.f.1,k,Pg y22.1.f.2.2.1,l,No y22.1.f.2.2.2.2.1,No y22.1.f.2.2.2.2.2.1,m] 27,.box b2 [No 0,No 0] 39,.box bj [No g.2.1,No g.2.2] 39,.box u [Pg y22.2.1,No y22.2.2] 120] ca:=ai.BX [2,3] Z;have be:=Bb [2,3] ai a3 Z;refine Ah h λc8 bv h=>?_;have a:=a.trans (Aa (am.trans (an.trans (ao.trans be))));refine Ae8 (Ajo (a0:=y22.1) (a1:=(0,0)) (O:=[.box bj [No g.2.1,No g.2.2] 39,.box u [Pg y22.2.1,No y22.2.2] 120]) hH a3 (b.mono a) (c.mono a) (d.mono a) bv) ?_;rintro c9 ⟨ck,cl,cm,aj,cn,a4,a5,a6⟩ az frz
   cases h
   exact⟨_,Yi Z (.cell Z Vv Z Bs.e (box_pT 0 aj Z)) (.cell Z QW Z Av.e (box_pT 1 aj Z)) frz,aj.ext,_,_,_,Z,(a4.mono  Dl),(a5.mono  Dl),(a6.mono  Dl)⟩
  refine Ca ?_;have bw:=ai.dT 0 Z;have a:=a.trans (Aa (am.trans (an.trans (ao.trans (fz_dT 0 Z)))));refine Am () ⟨bw,(b.mono a),(c.mono a),(d.mono a),h⟩
 rintro _ cy ⟨a7,x,y,z,h⟩;have e:=a7.rG H;refine Af ?_;refine AJ (A8 (λ_=>Bo _))<|Ac 2 Z a7 Z (a:=(AV Z (AV (x.mono e).one (AV Z (AV (y.mono e).one (AV Z (AV Z (AV (z.mono e).one JO)))))))) λda bx bf=>Ac 1 Z bx Z λcb a8 bg=>Af ?_;have a9:AB w [.box b1 [No y22.1.f.1,k,Pg y22.1.f.2.2.1,l,No y22.1.f.2.2.2.2.1,No y22.1.f.2.2.2.2.2.1,m] 27,.box b2 [No 0,No 0] 39,.box u [Pg y22.2.1,No y22.2.2] 120] cb:=a8.BX [1,2] Z;have bh:=Bb [1,2] a8 a9 Z;refine Ah h λdb bz h=>?_;have e:=e.trans (Aa (bf.trans (bg.trans bh)));refine AjE (Qjx (a0:=y22.1) (a1:=(0,0)) (O:=[.box u [Pg y22.2.1,No y22.2.2] 120]) hH a9 (x.mono e) (y.mono e) (z.mono e) bz) ?_;rintro dc ⟨co,cp,cq,ak,cr,ba,bb,bc⟩ az frz
 cases h
 exact⟨_,Yi Z (.cell Z Vv Z Bs.e (box_pT 0 ak Z)) (.cell Z QW Z Av.e (box_pT 1 ak Z)) frz,ak.ext,_,_,_,Z,(ba.mono  Dl),(bb.mono  Dl),(bc.mono  Dl)⟩
def V8(a:Bool):Option Bool:=
 TI a
def G5(a:Bool):Option Bool:=
 V8 a
def QB:Option Bool:=
 Xd (Aaa ([111,120]:Wl)) (λc=>Xd (HL (Qv.mk (10:Int) ([]) ([]:Wl) ([]) (0:Int) (0:Int) ([c]))) (λo=>Xd (R5 ([33,111,120]:Wl)) (λd=>Ay ([(111:UInt8),(120:UInt8)]≠[]) (Xd (S3 (1:Int)) (λp=>Ay ([(99:UInt8),(111:UInt8),(119:UInt8)]≠[]) (Xd (S3 (2:Int)) (λq=>Xd (L7 ([([(111:UInt8),(120:UInt8)],p),([(99:UInt8),(111:UInt8),(119:UInt8)],q)])) (λa=>Xd (DB ((a.1.1.1,a.1.1.2),(a.1.2.1.1,a.1.2.1.2),a.1.2.2) (Qv.mk (10:Int) ([]) ([]:Wl) ([]) (0:Int) (0:Int) ([c])) ([true,true])) (λe=>Xd (DB ((a.1.1.1,a.1.1.2),(a.1.2.1.1,a.1.2.1.2),a.1.2.2) (Qv.mk (10:Int) ([]) ([]:Wl) ([]) (0:Int) (0:Int) ([c])) ([true,false])) (λf=>Xd (JK ((a.1.1.1,a.1.1.2),(a.1.2.1.1,a.1.2.1.2),a.1.2.2) (1:Int) (0:Int) (2:Int) ([false,true])) (λg=>Xd (JK ((a.1.1.1,a.1.1.2),(a.1.2.1.1,a.1.2.1.2),a.1.2.2) (1:Int) (0:Int) (2:Int) ([true,false])) (λh=>Xd (R5 ([33,40,97,124,33,98,41]:Wl)) (λi=>Xd (CkP i.1) (λj=>Xd (HL j.1) (λk=>if o.2.1=0 then if d.2.1=0 then if a.2.1=0 then if e.2.1=0 then if f.2.1=0 then if g.2.1=0 then if i.2.1=0 then if j.2.1=0 then if k.2.1=0 then(if o.1=([33,111,120]:Wl)then Xd (Tf d.1 (Qv.mk (10:Int) ([]) ([]:Wl) ([]) (0:Int) (0:Int) ([c]))) (λl=>if l then Xd (Oo e.1 ([1])) (λm=>if m then if(f.1.length:Int)=0 then Ay ([(99:UInt8),(111:UInt8)]≠[]) (Xd (Lc g.1 ([(99:UInt8),(111:UInt8)])) (λn=>if n then Xd (GF (20:Int) (-1:Int)) (λb=>if h.2.1=b.1/\h.2.2=b.2 then G5 (decide (k.1=([33,97,38,98]:Wl)))else G5 false)else G5 false))else G5 false else G5 false)else G5 false)else G5 false)else none else none else none else none else none else none else none else none else none)))))))))))))))
theorem R6(hU:E1 H){r:Bool}(h:QB=TI r):
  Pd 6 [] w (λv w'=>v=.bool r):=by
 refine Ai 162 [] func6 Z λhL=>Af ?_;refine Ah h λx1 ih h=>A9 hL (AaU _ _ (Ae hL) ih) ?_;rintro _ w2 ⟨ja,jb,jc,rfl,fc,fd,fe⟩ d0 ii jd;have ff:=fc.mono (Da hL d0);have fg:=fd.BB hH hL d0;have fh:=fe.BB hH hL d0;refine Bi [x1] (r:=.AN) (λ_=>Pk _ _ _ _ _ _ _ _) ii (.c7 (Go.E.Rp.Gu ⟨_,_,Z,Z,⟨_,_,Z,⟨_,Z,ff⟩,⟨_,_,Z,Z,⟨_,_,Z,⟨_,Z,fg⟩,⟨_,_,Z,Z,⟨_,_,Z,Z,⟨_,Z,fh⟩⟩⟩⟩⟩⟩⟩) .nil) λv3 w3 j3 ij je am=>AJ (A8 (λ_=>Qe _ _ am.one _))<|Aq Bs.e Z ij λw4 b4 ik f2 _=>Ac 0 Z ik Z (a:=(AV Z (AV Z (AV Z (AV Z (AV Z (AV Z (AV am.one JO)))))))) λw5 f1 f3=>Af ?_;refine Ah h λx6 il h=>?_;have am:=am.mono (Aa (f2.trans f3));refine Al f1 (Kx _ _ (Ae f1) (hU.mono  Ad) ((Qv.mk (10:Int) ([]) ([]:Wl) ([]) (0:Int) (0:Int) ([x1]))) (As.nil _ _) (As.nil _ _) am il) λw7 j4 im f4=>AK 3 Z<|Aq Av.e Z im λw8 b8 io f6 _=>AK 1 Z<|Ac 0 Z io Z λw9 co f7=>Af ?_;refine Ah h λm f8 h=>?_
 refine A9 co (RS _ _ (Ae co) (hU.mono  Ad) f8) ?_;rintro _ j5 ⟨ay,az,a2,rfl,d1,d2,d3⟩ cr f9 fj;have t:=d1.mono (Da co cr);have u:=d2.mono (Da co cr);have x:=d3.mono (Da co cr);refine AK 3 Z<|Aq Bs.e Z f9 λj6 c5 ga ap _=>Aq Av.e Z ga λj7 d4 gb aq _=>Ac 1 Z gb Z (a:=(AV Z (AV t.one (AV Z (AV u.one (AV Z (AV Z (AV x.one JO)))))))) λj8 gc ar=>Ac 0 Z gc Z ?_;intro j9 d5 au;have j:=d5.rG H;refine Af ?_;refine KY [(111:UInt8),(120:UInt8)] (r:=.byte) (λ_=>AeJ _ _ _) (Bk 2) hH d5 (.c1 Z (.c1 Z .nil)) λka kb jf gd fk ge=>Ag h λgf h=>AgW 0 Z LS V0 hH gd Z ge gf λkc b2 fl ci=>Ah h λip gg h=>A9 b2 (AaG _ _ (Ae b2) gg) ?_;rintro _ kd ⟨is,it,iu,rfl,d6,d7,d8⟩ cs gh c8;have b3:=d6.BB hH b2 cs;have b5:=d7.BB hH b2 cs;have b6:=d8.BB hH b2 cs;refine AJ (A8 (λ_=>ZU _ ci.one _ _ _ _ _ _)) ?_
 refine KY [(99:UInt8),(111:UInt8),(119:UInt8)] (r:=.byte) (λ_=>AaP _ _ _ _) (Bk 3) hH gh (.c1 Z (.c1 Z (.c1 Z .nil))) λke kf jg gi a8 gj=>Ag h λgk h=>AgW 0 Z LS V0 hH gi Z gj gk λkg b7 a9 cj=>Ah h λiq gl h=>A9 b7 (AaG _ _ (Ae b7) gl) ?_;rintro _ kh ⟨iv,iw,ix,rfl,d9,ea,eb⟩ ct gm a3;have ec:=d9.BB hH b7 ct;have ed:=ea.BB hH b7 ct;have ee:=eb.BB hH b7 ct;refine AJ (A8 (λ_=>ZU _ cj.one _ _ _ _ _ _)) ?_;have ci:=ci.mono (Aa (c8.trans (a8.trans (a9.trans a3))));have b3:=b3.mono (Aa (a8.trans (a9.trans a3)));have b5:=b5.mono (Aa (a8.trans (a9.trans a3)));have b6:=b6.mono (Aa (a8.trans (a9.trans a3)));have cj:=cj.mono (Aa a3)
 refine Bi ([([(111:UInt8),(120:UInt8)],ip),([(99:UInt8),(111:UInt8),(119:UInt8)],iq)]) (r:=(.pair (.vec .byte) .tree)) (λ_=>AjQ _ _ _ _ _ _ _ _ _ _ _ _ _) (hlen:=(Bk 2)) gm (.c6 ⟨_,_,Z,⟨_,Z,ci⟩,(Go.E.Rp.O6 ⟨_,_,Z,Z,⟨_,_,Z,Z,⟨_,_,Z,⟨_,Z,b3⟩,⟨_,_,Z,⟨_,Z,b5⟩,⟨_,Z,b6⟩⟩⟩⟩⟩)⟩ (.c6 ⟨_,_,Z,⟨_,Z,cj⟩,(Go.E.Rp.O6 ⟨_,_,Z,Z,⟨_,_,Z,Z,⟨_,_,Z,⟨_,Z,ec⟩,⟨_,_,Z,⟨_,Z,ed⟩,⟨_,Z,ee⟩⟩⟩⟩⟩)⟩ .nil)) λki kj jh b9 fm gn=>Ah h λk go h=>A9 b9 (QjK _ _ (Ae b9) (hU.mono  Ad) gn go) ?_;rintro _ kk ⟨ba,bb,bc,rfl,ef,eg,eh⟩ cu gp fn;have o:=ef.mono (Da b9 cu);have p:=eg.mono (Da b9 cu);have q:=eh.BB hH b9 cu;refine AK 3 Z<|Aq QM.e Z gp λkl ei gq bv _=>Aq Av.e Z gq λkm ej gr bw _=>Ac 1 Z gr Z (a:=(AV Z (AV o.one (AV Z (AV p.one (AV q.one JO)))))) λkn gs bx=>Ac 0 Z gs Z ?_;intro ko ek bz;have e:=ek.rG H;refine Af ?_;refine Bi [true,true] (r:=.bool) (λ_=>X5 _ _ _) (hlen:=(Bk 2)) ek (.c1 Z (.c1 Z .nil)) ?_
 intro kp kq ji cv fo gt;refine Ah h λcf gu h=>?_;have am:=am.mono (Aa (f4.trans (f6.trans (f7.trans (fj.trans (ap.trans (aq.trans (ar.trans au))))))));have j:=j.trans (Aa (fk.trans (fl.trans (c8.trans (a8.trans (a9.trans (a3.trans (fm.trans (fn.trans (bv.trans (bw.trans (bx.trans bz))))))))))));have o:=o.mono (Aa (bv.trans (bw.trans (bx.trans bz))));have p:=p.mono (Aa (bv.trans (bw.trans (bx.trans bz))));have q:=q.mono (Aa (bv.trans (bw.trans (bx.trans bz))));have e:=e.trans (Aa fo);refine A9 cv (I2 (a0:=((k.1.1.1,k.1.1.2),(k.1.2.1.1,k.1.2.1.2),k.1.2.2)) (a1:=(Qv.mk (10:Int) ([]) ([]:Wl) ([]) (0:Int) (0:Int) ([x1]))) _ _ (Ae cv) (hU.mono  Ad) (o.mono e) (p.mono e) (q.mono e) (As.nil _ _) (As.nil _ _) ((am.mono j).mono e) gt gu) ?_;rintro _ kr ⟨iy,rfl,el⟩ gv gw fp;have ca:=el.BB hH cv gv;refine AK 3 Z<|Aq Av.e Z gw λks em gx c9 _=>AK 1 Z<|Ac 0 Z gx Z λkt gy da=>Af ?_
 refine Bi [true,false] (r:=.bool) (λ_=>X5 _ _ _) (hlen:=(Bk 2)) gy (.c1 Z (.c1 Z .nil)) λku kv jj cw db g0=>Ah h λcg g1 h=>?_;have e:=e.trans (Aa (fp.trans (c9.trans (da.trans db))));refine A9 cw (I2 (a0:=((k.1.1.1,k.1.1.2),(k.1.2.1.1,k.1.2.1.2),k.1.2.2)) (a1:=(Qv.mk (10:Int) ([]) ([]:Wl) ([]) (0:Int) (0:Int) ([x1]))) _ _ (Ae cw) (hU.mono  Ad) (o.mono e) (p.mono e) (q.mono e) (As.nil _ _) (As.nil _ _) ((am.mono j).mono e) g0 g1) ?_;rintro _ kw ⟨iz,rfl,en⟩ g2 g3 dc;have cb:=en.BB hH cw g2;refine AK 3 Z<|Aq Av.e Z g3 λkx eo g4 ck _=>AK 1 Z<|Ac 0 Z g4 Z λky g5 cl=>Af ?_;refine Bi [false,true] (r:=.bool) (λ_=>X5 _ _ _) (hlen:=(Bk 2)) g5 (.c1 Z (.c1 Z .nil)) λkz k0 jk cx cm g6=>Ah h λch g7 h=>?_;have e:=e.trans (Aa (dc.trans (ck.trans (cl.trans cm))));refine A9 cx (L9 (a0:=((k.1.1.1,k.1.1.2),(k.1.2.1.1,k.1.2.1.2),k.1.2.2)) _ _ (Ae cx) (o.mono e) (p.mono e) (q.mono e) g6 g7) ?_
 rintro _ k1 ⟨i0,rfl,ep⟩ g8 g9 cn;have cc:=ep.mono (Da cx g8);refine AK 3 Z<|Aq Av.e Z g9 λk2 eq ha b0 _=>AK 1 Z<|Ac 0 Z ha Z ?_;intro k3 er b1;have g:=er.rG H;refine Af ?_;refine Bi [true,false] (r:=.bool) (λ_=>X5 _ _ _) (hlen:=(Bk 2)) er (.c1 Z (.c1 Z .nil)) λk4 k5 jl es fq hb=>Ah h λbu hc h=>?_;have e:=e.trans (Aa (cn.trans (b0.trans b1)));have g:=g.trans (Aa fq);refine A9 es (L9 (a0:=((k.1.1.1,k.1.1.2),(k.1.2.1.1,k.1.2.1.2),k.1.2.2)) _ _ (Ae es) ((o.mono e).mono g) ((p.mono e).mono g) ((q.mono e).mono g) hb hc) ?_;rintro _ k6 ⟨i1,rfl,ir⟩ jm hd dd;refine AK 3 Z<|Aq Av.e Z hd λk7 de he df _=>AK 1 Z<|Ac 0 Z he Z λk8 cd dg=>Af ?_;refine Ah h λy hf h=>A9 cd (RS _ _ (Ae cd) (hU.mono  Ad) hf) ?_;rintro _ k9 ⟨bd,be,bf,rfl,et,eu,ev⟩ cy hg dh;have ab:=et.mono (Da cd cy);have ac:=eu.mono (Da cd cy);have ad:=ev.mono (Da cd cy)
 refine AK 3 Z<|Aq Bs.e Z hg λla ew hh bg _=>Aq Av.e Z hh λlb ex hi bh _=>Ac 1 Z hi Z (a:=(AV Z (AV ab.one (AV Z (AV ac.one (AV Z (AV Z (AV ad.one JO)))))))) λlc hj bi=>Ac 0 Z hj Z ?_;intro ld bt bj;have d:=bt.rG H;refine Af ?_;refine Ah h λaa hk h=>?_;have ab:=ab.mono (Aa (bg.trans (bh.trans (bi.trans bj))));have ac:=ac.mono (Aa (bg.trans (bh.trans (bi.trans bj))));have ad:=ad.mono (Aa (bg.trans (bh.trans (bi.trans bj))));refine A9 bt (Am6 (a0:=y.1) _ _ (Ae bt) (hU.mono  Ad) (ab.mono d) (ac.mono d) (ad.mono d) hk) ?_;rintro _ le ⟨bk,bl,bm,rfl,ey,ez,e0⟩ cz hl di;have ae:=ey.mono (Da bt cz);have af:=ez.mono (Da bt cz);have ag:=e0.mono (Da bt cz);refine AK 3 Z<|Aq Bs.e Z hl λlf e1 hm bn _=>Aq Av.e Z hm λlg e2 hn bo _=>Ac 1 Z hn Z (a:=(AV Z (AV ae.one (AV Z (AV af.one (AV Z (AV Z (AV ag.one JO)))))))) λlh ho bp=>Ac 0 Z ho Z ?_;intro li c0 bq
 have c:=c0.rG H;refine Af ?_;refine Ah h λce hq h=>?_;have ae:=ae.mono (Aa (bn.trans (bo.trans (bp.trans bq))));have af:=af.mono (Aa (bn.trans (bo.trans (bp.trans bq))));have ag:=ag.mono (Aa (bn.trans (bo.trans (bp.trans bq))));refine Al c0 (Kx _ _ (Ae c0) (hU.mono  Ad) aa.1 (ae.mono c) (af.mono c) (ag.mono c) hq) λlj jn hr dj=>AK 3 Z<|Aq Av.e Z hr λlk e3 hs dk _=>AK 1 Z<|Ac 0 Z hs Z λll e4 dl=>AR ?_;refine Dm 90 h ?_ ?_<;>intro ht h
 ·refine Af ?_;refine Cm ?_
  cases h
 refine Af ?_;refine Dm 95 h ?_ ?_<;>intro hu h
 ·refine Af ?_;refine Cm ?_
  cases h
 refine Af ?_;refine Dm 100 h ?_ ?_<;>intro hv h
 ·refine Af ?_;refine Cm ?_
  cases h
 refine Af ?_;refine Dm 105 h ?_ ?_<;>intro hw h
 ·refine Af ?_;refine Cm ?_
  cases h
 refine Af ?_;refine Dm 110 h ?_ ?_<;>intro hx h
 ·refine Af ?_;refine Cm ?_
  cases h
 refine Af ?_;refine Dm 115 h ?_ ?_<;>intro hy h
 ·refine Af ?_;refine Cm ?_
  cases h
 refine Af ?_;refine Dm 120 h ?_ ?_<;>intro hz h
 ·refine Af ?_;refine Cm ?_
  cases h
 refine Af ?_;refine Dm 125 h ?_ ?_<;>intro h0 h
 ·refine Af ?_;refine Cm ?_
  cases h
 refine Af ?_;refine Bt h ?_ ?_<;>intro h1 h
 ·cases h
 refine Af ?_
 refine AA Bool (λbr=>[(0,.bool br)]) (λbr wr=>Cd w [.box e3 [No ce.2.1,No ce.2.2] 39,.box e2 [No aa.2.1,No aa.2.2] 39,.box e1 [No aa.1.f.1,bk,Pg aa.1.f.2.2.1,bl,No aa.1.f.2.2.2.2.1,No aa.1.f.2.2.2.2.2.1,bm] 27,.box ex [No y.2.1,No y.2.2] 39,.box ew [No y.1.f.1,bd,Pg y.1.f.2.2.1,be,No y.1.f.2.2.2.2.1,No y.1.f.2.2.2.2.2.1,bf] 27,.box de [No bu.2.1,No bu.2.2] 39,.box eq [No ch.2.1,No ch.2.2] 39,.box eo [No cg.2.1,No cg.2.2] 39,.box em [No cf.2.1,No cf.2.2] 39,.box ej [No k.2.1,No k.2.2] 39,.box ei [No k.1.1.1,ba,No k.1.2.1.1,bb,bc] 37,.box d4 [No m.2.1,No m.2.2] 39,.box c5 [No m.1.f.1,ay,Pg m.1.f.2.2.1,az,No m.1.f.2.2.2.2.1,No m.1.f.2.2.2.2.2.1,a2] 27,.box b8 [No x6.2.1,No x6.2.2] 39,.box b4 [No 10,TO,(Pg []),TO,No 0,No 0,v3] 27] wr λOz=>As .st (gz H w wr Oz) bk (aa.1.f.2.1)/\As .byte (gz H w wr Oz) bl (aa.1.f.2.2.2.1)/\As .AN (gz H w wr Oz) bm (aa.1.f.2.2.2.2.2.2)/\As .st (gz H w wr Oz) bd (y.1.f.2.1)/\As .byte (gz H w wr Oz) be (y.1.f.2.2.2.1)/\As .AN (gz H w wr Oz) bf (y.1.f.2.2.2.2.2.2)/\As (.pair .st (.vec TD)) (gz H w wr Oz) ba (k.1.1.2)/\As (.pair Xp (.vec (.int .i64))) (gz H w wr Oz) bb (k.1.2.1.2)/\As Xl (gz H w wr Oz) bc (k.1.2.2)/\As .st (gz H w wr Oz) ay (m.1.f.2.1)/\As .byte (gz H w wr Oz) az (m.1.f.2.2.2.1)/\As .AN (gz H w wr Oz) a2 (m.1.f.2.2.2.2.2.2)/\As .AN (gz H w wr Oz) v3 ([x1])/\V8 br=TI r) ?_ ?_
 ·refine AhA (σ:=Bool) (λax=>[(0,.bool ax)]) (λax wr=>Cd w [.box e3 [No ce.2.1,No ce.2.2] 39,.box e2 [No aa.2.1,No aa.2.2] 39,.box e1 [No aa.1.f.1,bk,Pg aa.1.f.2.2.1,bl,No aa.1.f.2.2.2.2.1,No aa.1.f.2.2.2.2.2.1,bm] 27,.box ex [No y.2.1,No y.2.2] 39,.box ew [No y.1.f.1,bd,Pg y.1.f.2.2.1,be,No y.1.f.2.2.2.2.1,No y.1.f.2.2.2.2.2.1,bf] 27,.box de [No bu.2.1,No bu.2.2] 39,.box eq [No ch.2.1,No ch.2.2] 39,.box eo [No cg.2.1,No cg.2.2] 39,.box em [No cf.2.1,No cf.2.2] 39,.box ej [No k.2.1,No k.2.2] 39,.box ei [No k.1.1.1,ba,No k.1.2.1.1,bb,bc] 37,.box d4 [No m.2.1,No m.2.2] 39,.box c5 [No m.1.f.1,ay,Pg m.1.f.2.2.1,az,No m.1.f.2.2.2.2.1,No m.1.f.2.2.2.2.2.1,a2] 27,.box b8 [No x6.2.1,No x6.2.2] 39,.box b4 [No 10,TO,(Pg []),TO,No 0,No 0,v3] 27] wr λOz=>As .st (gz H w wr Oz) bk (aa.1.f.2.1)/\As .byte (gz H w wr Oz) bl (aa.1.f.2.2.2.1)/\As .AN (gz H w wr Oz) bm (aa.1.f.2.2.2.2.2.2)/\As .st (gz H w wr Oz) bd (y.1.f.2.1)/\As .byte (gz H w wr Oz) be (y.1.f.2.2.2.1)/\As .AN (gz H w wr Oz) bf (y.1.f.2.2.2.2.2.2)/\As (.pair .st (.vec TD)) (gz H w wr Oz) ba (k.1.1.2)/\As (.pair Xp (.vec (.int .i64))) (gz H w wr Oz) bb (k.1.2.1.2)/\As Xl (gz H w wr Oz) bc (k.1.2.2)/\As .st (gz H w wr Oz) ay (m.1.f.2.1)/\As .byte (gz H w wr Oz) az (m.1.f.2.2.2.1)/\As .AN (gz H w wr Oz) a2 (m.1.f.2.2.2.2.2.2)/\As .AN (gz H w wr Oz) v3 ([x1])/\G5 ax=TI r) ?_ ?_
  ·refine Ik (KZ (KZ MF)) (λz0 z=>Le (gz H w z0 [.box e3 [No ce.2.1,No ce.2.2] 39,.box e2 [No aa.2.1,No aa.2.2] 39,.box e1 [No aa.1.f.1,bk,Pg aa.1.f.2.2.1,bl,No aa.1.f.2.2.2.2.1,No aa.1.f.2.2.2.2.2.1,bm] 27,.box ex [No y.2.1,No y.2.2] 39,.box ew [No y.1.f.1,bd,Pg y.1.f.2.2.1,be,No y.1.f.2.2.2.2.1,No y.1.f.2.2.2.2.2.1,bf] 27,.box de [No bu.2.1,No bu.2.2] 39,.box eq [No ch.2.1,No ch.2.2] 39,.box eo [No cg.2.1,No cg.2.2] 39,.box em [No cf.2.1,No cf.2.2] 39,.box ej [No k.2.1,No k.2.2] 39,.box ei [No k.1.1.1,ba,No k.1.2.1.1,bb,bc] 37,.box d4 [No m.2.1,No m.2.2] 39,.box c5 [No m.1.f.1,ay,Pg m.1.f.2.2.1,az,No m.1.f.2.2.2.2.1,No m.1.f.2.2.2.2.2.1,a2] 27,.box b8 [No x6.2.1,No x6.2.2] 39,.box b4 [No 10,TO,(Pg []),TO,No 0,No 0,v3] 27]) (hp z)/\z.heap[de]? = TI (.cells [No bu.2.1,No bu.2.2].toArray 39 (0,0))/\z.heap[c5]? = TI (.cells [No m.1.f.1,ay,Pg m.1.f.2.2.1,az,No m.1.f.2.2.2.2.1,No m.1.f.2.2.2.2.2.1,a2].toArray 27 (0,0))/\z.heap[b4]? = TI (.cells [No 10,TO,(Pg []),TO,No 0,No 0,v3].toArray 27 (0,0))) mixed Z (λa jp dm=>?_)
   have ao:=e4.call dm;have cp:=A3 e4 dm;have b:=ao.rG H;refine MG ⟨b.trans (Ae ao),ao.aT 5 Z,ao.aT 12 Z,ao.aT 14 Z⟩ λkI196=>Au 0 a kI196 Z (λ_ _=>Az Z) Z<|Au 1 a kI196 Z (λ_ _=>I5 Z Z) Z<|Au 2 a kI196 Z (λ_ _=>Az Z) Z<|Qc 132 Z (λai=>?_) (λai=>?_)
   ·have h:=JP (Z4 ai) h;refine GS 3 a kI196 Z Z Z Z ai (λ_ hI=>MU hI.2.2.1) Z<|GS 4 a kI196 Z Z Z Z ai (λ_ hI=>MU hI.2.2.2) Z<|Jr 5 Z<|Aj ai<|Ah h λjq fr h=>?_;have t:=t.mono (Aa (ap.trans (aq.trans (ar.trans au))));have u:=u.mono (Aa (ap.trans (aq.trans (ar.trans au))));have x:=x.mono (Aa (ap.trans (aq.trans (ar.trans au))));have g:=g.trans (Aa (dd.trans (df.trans (dg.trans (dh.trans (bg.trans (bh.trans (bi.trans bj))))))));have d:=d.trans (Aa (di.trans (bn.trans (bo.trans (bp.trans bq)))));have c:=c.trans (Aa (dj.trans (dk.trans (dl.trans cp))))
    refine Al ao (AgD (a0:=m.1) (a1:=(Qv.mk (10:Int) ([]) ([]:Wl) ([]) (0:Int) (0:Int) ([x1]))) _ _ (Ae ao) ((((((t.mono j).mono e).mono g).mono d).mono c).mono b) ((((((u.mono j).mono e).mono g).mono d).mono c).mono b) ((((((x.mono j).mono e).mono g).mono d).mono c).mono b) (As.nil _ _) (As.nil _ _) ((((((am.mono j).mono e).mono g).mono d).mono c).mono b) fr) ?_;intro jr i2 a4 e5;have b:=b.trans (Aa e5);refine AS ⟨b.trans (Ae a4),a4.aT 5 Z,a4.aT 12 Z,a4.aT 14 Z⟩ λkI201=>Au 6 a kI201 Z (λ_ _=>CA ai Z) Z<|Au 7 a kI201 Z (λ_ _=>Az Z) Z<|Qc 137 Z (λaj=>?_) (λaj=>?_)
    ·have h:=Yb aj h;refine GS 8 a kI201 Z Z Z Z aj (λ_ _=>Az Z) Z<|Jr 9 Z<|Aj aj<|Bi [1] (r:=(.int .i64)) (λ_=>Fy _ _) a4 (.c1 Z .nil) ?_;intro js jt i3 a5 e6 fs;have b:=b.trans (Aa e6);refine AS ⟨b.trans (Ae a5),a5.aT 5 Z,a5.aT 12 Z,a5.aT 14 Z⟩ λkI205=>Jr 10 Z<|Aj aj<|Ah h λju ft h=>?_;have ca:=ca.mono (Aa (c9.trans (da.trans (db.trans (dc.trans (ck.trans (cl.trans (cm.trans (cn.trans (b0.trans b1))))))))));refine Al a5 (UT _ _ (Ae a5) ((((ca.mono g).mono d).mono c).mono b) fs ft) ?_;intro jv i4 av e7;have b:=b.trans (Aa e7);refine AS ⟨b.trans (Ae av),av.aT 5 Z,av.aT 12 Z,av.aT 14 Z⟩ λkI208=>Au 11 a kI208 Z (λ_ _=>CA aj Z) Z<|Au 12 a kI208 Z (λ_ _=>Az Z) Z<|Qc 142 Z (λak=>?_) (λak=>?_)
     ·have h:=Yb ak h;refine GS 13 a kI208 Z Z Z Z ak (λ_ _=>Az Z) Z ?_;have cb:=cb.mono (Aa (ck.trans (cl.trans (cm.trans (cn.trans (b0.trans b1))))));refine GS 14 a kI208 Z Z Z Z ak (λ_ _=>W2 ((((cb.mono g).mono d).mono c).mono b)) Z<|GS 15 a kI208 Z Z Z Z ak (λ_ _=>Az Z) Z<|Au 16 a kI208 Z (λ_ _=>CA ak Z) Z<|Au 17 a kI208 Z (λ_ _=>Az Z) Z<|Qc 147 Z (λah=>?_) (λah=>?_)
      ·have h:=JP (Z4 ah) h;refine GS 18 a kI208 Z Z Z Z ah (λ_ _=>Az Z) Z<|Jr 19 Z<|Aj ah<|KY [(99:UInt8),(111:UInt8)] (r:=.byte) (λ_=>AeJ _ _ _) (Bk 2) hH av (.c1 Z (.c1 Z .nil)) ?_;intro jw jx i5 bs e8 fu;have b:=b.trans (Aa e8);refine AS ⟨b.trans (Ae bs),bs.aT 6 Z,bs.aT 13 Z,bs.aT 15 Z⟩ λkI214=>Jr 20 Z<|Aj ah<|Ag h λfv h=>AgW 0 Z LS V0 hH bs Z fu fv ?_;intro jy a6 e9 fw;have b:=b.trans (Aa e9);refine AS ⟨b.trans (Ae a6),a6.aT 5 Z,a6.aT 12 Z,a6.aT 14 Z⟩ λkI217=>Jr 21 Z<|Aj ah<|Ah h λjz fx h=>?_;have cc:=cc.mono (Aa (b0.trans b1));refine Al a6 (Ld _ _ (Ae a6) ((((cc.mono g).mono d).mono c).mono b) fw fx) ?_;intro j0 i6 aw fa;have b:=b.trans (Aa fa);refine AS ⟨b.trans (Ae aw),aw.aT 5 Z,aw.aT 12 Z,aw.aT 14 Z⟩ λkI220=>?_
       refine Au 22 a kI220 Z (λ_ _=>CA ah Z) Z<|Au 23 a kI220 Z (λ_ _=>Az Z) Z<|Qc 153 Z (λal=>?_) (λal=>?_)
       ·have h:=Yb al h;refine GS 24 a kI220 Z Z Z Z al (λ_ hI=>MU hI.2.1) Z<|Jr 25 Z<|Aj al<|Ah h λj1 fy h=>Al aw (Ec _ _ (Ae aw) fy) ?_;intro j2 i7 a7 fb;have b:=b.trans (Aa fb);refine AS ⟨b.trans (Ae a7),a7.aT 5 Z,a7.aT 12 Z,a7.aT 14 Z⟩ λkI225=>GS 26 a kI225 Z Z Z Z al (λ_ _=>W3 Ge (KO _ _ _ _)) Z<|Au 27 a kI225 Z (λ_ _=>CA al Z) Z<|Au 28 a kI225 Z (λ_ _=>Az Z) Z<|Qc 158 Z (λan=>?_) (λan=>?_)
        ·have h:=JP (Z4 an) h;refine GS 29 a kI225 Z Z Z Z an (λ_ _=>Az Z) Z<|GS 30 a kI225 Z Z Z Z an (λ_ _=>I5 Z Z) Z<|Au 31 a kI225 Z (λ_ _=>CA an Z) Z<|Au 32 a kI225 Z (λ_ _=>Az Z) Z<|FF<|Am _ ⟨a7,((ae.mono c).mono b),((af.mono c).mono b),((ag.mono c).mono b),(((ab.mono d).mono c).mono b),(((ac.mono d).mono c).mono b),(((ad.mono d).mono c).mono b),(((((o.mono e).mono g).mono d).mono c).mono b),(((((p.mono e).mono g).mono d).mono c).mono b),(((((q.mono e).mono g).mono d).mono c).mono b),((((((t.mono j).mono e).mono g).mono d).mono c).mono b),((((((u.mono j).mono e).mono g).mono d).mono c).mono b),((((((x.mono j).mono e).mono g).mono d).mono c).mono b),((((((am.mono j).mono e).mono g).mono d).mono c).mono b),h⟩
        have h:=JQ (of_decide_eq_false an) h;refine BZ 29 a kI225 Z Z Z Z an Z<|BZ 30 a kI225 Z Z Z Z an Z<|Au 31 a kI225 Z (λ_ _=>B4 an Z) Z<|Au 32 a kI225 Z (λ_ _=>Az Z) Z<|FF<|Am _ ⟨a7,((ae.mono c).mono b),((af.mono c).mono b),((ag.mono c).mono b),(((ab.mono d).mono c).mono b),(((ac.mono d).mono c).mono b),(((ad.mono d).mono c).mono b),(((((o.mono e).mono g).mono d).mono c).mono b),(((((p.mono e).mono g).mono d).mono c).mono b),(((((q.mono e).mono g).mono d).mono c).mono b),((((((t.mono j).mono e).mono g).mono d).mono c).mono b),((((((u.mono j).mono e).mono g).mono d).mono c).mono b),((((((x.mono j).mono e).mono g).mono d).mono c).mono b),((((((am.mono j).mono e).mono g).mono d).mono c).mono b),h⟩
       have h:=Yc al h;refine BZ 24 a kI220 Z Z Z Z al Z<|BZ 25 a kI220 Z Z Z Z al Z<|BZ 26 a kI220 Z Z Z Z al Z<|Au 27 a kI220 Z (λ_ _=>B4 al Z) Z<|Au 28 a kI220 Z (λ_ _=>Az Z) Z<|BZ 29 a kI220 Z Z Z Z Z Z<|BZ 30 a kI220 Z Z Z Z Z Z<|Au 31 a kI220 Z (λ_ _=>B4 Z Z) Z<|Au 32 a kI220 Z (λ_ _=>Az Z) Z<|FF ?_
       refine Am _ ⟨aw,((ae.mono c).mono b),((af.mono c).mono b),((ag.mono c).mono b),(((ab.mono d).mono c).mono b),(((ac.mono d).mono c).mono b),(((ad.mono d).mono c).mono b),(((((o.mono e).mono g).mono d).mono c).mono b),(((((p.mono e).mono g).mono d).mono c).mono b),(((((q.mono e).mono g).mono d).mono c).mono b),((((((t.mono j).mono e).mono g).mono d).mono c).mono b),((((((u.mono j).mono e).mono g).mono d).mono c).mono b),((((((x.mono j).mono e).mono g).mono d).mono c).mono b),((((((am.mono j).mono e).mono g).mono d).mono c).mono b),h⟩
      have h:=JQ (of_decide_eq_false ah) h;refine BZ 18 a kI208 Z Z Z Z ah Z<|BZ 19 a kI208 Z Z Z Z ah Z<|BZ 20 a kI208 Z Z Z Z ah Z<|BZ 21 a kI208 Z Z Z Z ah Z<|Au 22 a kI208 Z (λ_ _=>B4 ah Z) Z<|Au 23 a kI208 Z (λ_ _=>Az Z) Z<|BZ 24 a kI208 Z Z Z Z Z Z<|BZ 25 a kI208 Z Z Z Z Z Z<|BZ 26 a kI208 Z Z Z Z Z Z<|Au 27 a kI208 Z (λ_ _=>B4 Z Z) Z<|Au 28 a kI208 Z (λ_ _=>Az Z) Z<|BZ 29 a kI208 Z Z Z Z Z Z<|BZ 30 a kI208 Z Z Z Z Z Z<|Au 31 a kI208 Z (λ_ _=>B4 Z Z) Z<|Au 32 a kI208 Z (λ_ _=>Az Z) Z<|FF ?_
      refine Am _ ⟨av,((ae.mono c).mono b),((af.mono c).mono b),((ag.mono c).mono b),(((ab.mono d).mono c).mono b),(((ac.mono d).mono c).mono b),(((ad.mono d).mono c).mono b),(((((o.mono e).mono g).mono d).mono c).mono b),(((((p.mono e).mono g).mono d).mono c).mono b),(((((q.mono e).mono g).mono d).mono c).mono b),((((((t.mono j).mono e).mono g).mono d).mono c).mono b),((((((u.mono j).mono e).mono g).mono d).mono c).mono b),((((((x.mono j).mono e).mono g).mono d).mono c).mono b),((((((am.mono j).mono e).mono g).mono d).mono c).mono b),h⟩
     have h:=Yc ak h;refine BZ 13 a kI208 Z Z Z Z ak Z<|BZ 14 a kI208 Z Z Z Z ak Z<|BZ 15 a kI208 Z Z Z Z ak Z<|Au 16 a kI208 Z (λ_ _=>B4 ak Z) Z<|Au 17 a kI208 Z (λ_ _=>Az Z) Z<|BZ 18 a kI208 Z Z Z Z Z Z<|BZ 19 a kI208 Z Z Z Z Z Z<|BZ 20 a kI208 Z Z Z Z Z Z<|BZ 21 a kI208 Z Z Z Z Z Z<|Au 22 a kI208 Z (λ_ _=>B4 Z Z) Z<|Au 23 a kI208 Z (λ_ _=>Az Z) Z<|BZ 24 a kI208 Z Z Z Z Z Z<|BZ 25 a kI208 Z Z Z Z Z Z<|BZ 26 a kI208 Z Z Z Z Z Z<|Au 27 a kI208 Z (λ_ _=>B4 Z Z) Z<|Au 28 a kI208 Z (λ_ _=>Az Z) Z<|BZ 29 a kI208 Z Z Z Z Z Z<|BZ 30 a kI208 Z Z Z Z Z Z ?_
     refine Au 31 a kI208 Z (λ_ _=>B4 Z Z) Z<|Au 32 a kI208 Z (λ_ _=>Az Z) Z<|FF<|Am _ ⟨av,((ae.mono c).mono b),((af.mono c).mono b),((ag.mono c).mono b),(((ab.mono d).mono c).mono b),(((ac.mono d).mono c).mono b),(((ad.mono d).mono c).mono b),(((((o.mono e).mono g).mono d).mono c).mono b),(((((p.mono e).mono g).mono d).mono c).mono b),(((((q.mono e).mono g).mono d).mono c).mono b),((((((t.mono j).mono e).mono g).mono d).mono c).mono b),((((((u.mono j).mono e).mono g).mono d).mono c).mono b),((((((x.mono j).mono e).mono g).mono d).mono c).mono b),((((((am.mono j).mono e).mono g).mono d).mono c).mono b),h⟩
    have h:=Yc aj h;refine BZ 8 a kI201 Z Z Z Z aj Z<|BZ 9 a kI201 Z Z Z Z aj Z<|BZ 10 a kI201 Z Z Z Z aj Z<|Au 11 a kI201 Z (λ_ _=>B4 aj Z) Z<|Au 12 a kI201 Z (λ_ _=>Az Z) Z<|BZ 13 a kI201 Z Z Z Z Z Z<|BZ 14 a kI201 Z Z Z Z Z Z<|BZ 15 a kI201 Z Z Z Z Z Z<|Au 16 a kI201 Z (λ_ _=>B4 Z Z) Z<|Au 17 a kI201 Z (λ_ _=>Az Z) Z<|BZ 18 a kI201 Z Z Z Z Z Z<|BZ 19 a kI201 Z Z Z Z Z Z<|BZ 20 a kI201 Z Z Z Z Z Z<|BZ 21 a kI201 Z Z Z Z Z Z<|Au 22 a kI201 Z (λ_ _=>B4 Z Z) Z<|Au 23 a kI201 Z (λ_ _=>Az Z) Z<|BZ 24 a kI201 Z Z Z Z Z Z<|BZ 25 a kI201 Z Z Z Z Z Z<|BZ 26 a kI201 Z Z Z Z Z Z ?_
    refine Au 27 a kI201 Z (λ_ _=>B4 Z Z) Z<|Au 28 a kI201 Z (λ_ _=>Az Z) Z<|BZ 29 a kI201 Z Z Z Z Z Z<|BZ 30 a kI201 Z Z Z Z Z Z<|Au 31 a kI201 Z (λ_ _=>B4 Z Z) Z<|Au 32 a kI201 Z (λ_ _=>Az Z) Z<|FF<|Am _ ⟨a4,((ae.mono c).mono b),((af.mono c).mono b),((ag.mono c).mono b),(((ab.mono d).mono c).mono b),(((ac.mono d).mono c).mono b),(((ad.mono d).mono c).mono b),(((((o.mono e).mono g).mono d).mono c).mono b),(((((p.mono e).mono g).mono d).mono c).mono b),(((((q.mono e).mono g).mono d).mono c).mono b),((((((t.mono j).mono e).mono g).mono d).mono c).mono b),((((((u.mono j).mono e).mono g).mono d).mono c).mono b),((((((x.mono j).mono e).mono g).mono d).mono c).mono b),((((((am.mono j).mono e).mono g).mono d).mono c).mono b),h⟩
   have h:=JQ (of_decide_eq_false ai) h;refine BZ 3 a kI196 Z Z Z Z ai Z<|BZ 4 a kI196 Z Z Z Z ai Z<|BZ 5 a kI196 Z Z Z Z ai Z<|Au 6 a kI196 Z (λ_ _=>B4 ai Z) Z<|Au 7 a kI196 Z (λ_ _=>Az Z) Z<|BZ 8 a kI196 Z Z Z Z Z Z<|BZ 9 a kI196 Z Z Z Z Z Z<|BZ 10 a kI196 Z Z Z Z Z Z<|Au 11 a kI196 Z (λ_ _=>B4 Z Z) Z<|Au 12 a kI196 Z (λ_ _=>Az Z) Z<|BZ 13 a kI196 Z Z Z Z Z Z<|BZ 14 a kI196 Z Z Z Z Z Z<|BZ 15 a kI196 Z Z Z Z Z Z<|Au 16 a kI196 Z (λ_ _=>B4 Z Z) Z<|Au 17 a kI196 Z (λ_ _=>Az Z) Z<|BZ 18 a kI196 Z Z Z Z Z Z<|BZ 19 a kI196 Z Z Z Z Z Z<|BZ 20 a kI196 Z Z Z Z Z Z ?_
   refine BZ 21 a kI196 Z Z Z Z Z Z<|Au 22 a kI196 Z (λ_ _=>B4 Z Z) Z<|Au 23 a kI196 Z (λ_ _=>Az Z) Z<|BZ 24 a kI196 Z Z Z Z Z Z<|BZ 25 a kI196 Z Z Z Z Z Z<|BZ 26 a kI196 Z Z Z Z Z Z<|Au 27 a kI196 Z (λ_ _=>B4 Z Z) Z<|Au 28 a kI196 Z (λ_ _=>Az Z) Z<|BZ 29 a kI196 Z Z Z Z Z Z<|BZ 30 a kI196 Z Z Z Z Z Z<|Au 31 a kI196 Z (λ_ _=>B4 Z Z) Z<|Au 32 a kI196 Z (λ_ _=>Az Z) Z<|FF ?_;have t:=t.mono (Aa (ap.trans (aq.trans (ar.trans au))));have u:=u.mono (Aa (ap.trans (aq.trans (ar.trans au))));have x:=x.mono (Aa (ap.trans (aq.trans (ar.trans au))));have g:=g.trans (Aa (dd.trans (df.trans (dg.trans (dh.trans (bg.trans (bh.trans (bi.trans bj))))))))
   have d:=d.trans (Aa (di.trans (bn.trans (bo.trans (bp.trans bq)))));have c:=c.trans (Aa (dj.trans (dk.trans (dl.trans cp))));refine Am _ ⟨ao,((ae.mono c).mono b),((af.mono c).mono b),((ag.mono c).mono b),(((ab.mono d).mono c).mono b),(((ac.mono d).mono c).mono b),(((ad.mono d).mono c).mono b),(((((o.mono e).mono g).mono d).mono c).mono b),(((((p.mono e).mono g).mono d).mono c).mono b),(((((q.mono e).mono g).mono d).mono c).mono b),((((((t.mono j).mono e).mono g).mono d).mono c).mono b),((((((u.mono j).mono e).mono g).mono d).mono c).mono b),((((((x.mono j).mono e).mono g).mono d).mono c).mono b),((((((am.mono j).mono e).mono g).mono d).mono c).mono b),h⟩
  rintro ax i8 ⟨fz,dq,dr,ds,dt,du,dv,dw,dx,dy,dz,c2,c3,c4,h⟩;refine Am _ ⟨fz,dq,dr,ds,dt,du,dv,dw,dx,dy,dz,c2,c3,c4,h⟩
 rintro br i9 ⟨f0,h5,h6,h7,h8,h9,ia,ib,ic,ie,ig,h2,h3,h4,h⟩;refine U9 ?_
 cases h
 refine AD Z ⟨f0.ext,Z⟩
end
def Ag6:QB=TI true:=by kernel_rfl
set_option maxHeartbeats 1000000
set_option maxRecDepth 10000
open _root_.Go.Proofs.Tryz
def HU:Option Z7:=
 TI ((0,0))
def BE(a0:List (Wl×Pv)):Int->Option ((Int)⊕Z7):=λa=>
 if a<(a0.length:Int)then Ay (0<=a/\a<(a0.length:Int)) (if 2048<(((a0.getD a.toNat Qq7).1).length:Int)then Xd (GF (3:Int) a) (λb=>Sh Sum.inr (TI ((b.1,b.2))))else Ay (0<=a/\a<(a0.length:Int)) (Xd (CO ((a0.getD a.toNat Qq7).2)) (λc=>if c.1=0 then Ay (AL (a+1)) (TI (Sum.inl (a+1)))else Xd (GF c.1 a) (λd=>Sh Sum.inr (TI ((d.1,d.2)))))))else Sh Sum.inr HU
def HV(a0:List (Wl×Pv))(s:Int):Option Z7:=Go.L.run (BE a0) s
def GO(a0:List (Wl×Pv)):Option Z7:=
 if 64<(a0.length:Int)then Xd (GF (2:Int) (-1:Int)) (λa=>TI ((a.1,a.2)))else(HV a0) (0:Int)
section
variable(w:World)(H:PH)(hH:Le H (hp w)) include hH
theorem QzK{a0:List (Wl×Pv)}{c:Value}(k:As (.pair (.vec .byte) .tree) H c a0){r:Z7}(h:GO a0=TI r):
  Pd 5 [c] w (λv w'=>v=.agg #[No r.1,No r.2]):=by
 refine Ai 38 [(0,c)] func5 Z λhL=>A5<|Aq Av.e Z hL λw1 p l a2 _=>AR ?_;refine Ar h ?_ ?_<;>intro ak h
 ·refine A5<|Ah h λx4 al h=>Al l (Ec _ _ (Ae l) al) λw5 bk am a3=>Ac 0 Z am Z λw6 ag a4=>Af ?_
  cases h
  refine Bz (.cell Z QW Z Av.e (box_pT 0 ag Z)) ⟨ag.ext,Z⟩
 refine Af ?_;refine AA Unit (λ(_:Unit)=>[(2,(SX p))]) (λ(_:Unit) wr=>AB w [.box p [No 0,No 0] 39] wr/\HU=TI r) ?_ ?_
 ·refine Bx 1 Z<|A4 ?_;obtain⟨m,h⟩:=Ax h;refine AF (Int×Nat) (λ⟨a,n⟩=>[(0,c),(2,(SX p)),(3,No a)]) (λ⟨a,n⟩ wr=>AB w [.box p [No 0,No 0] 39] wr/\D6 (BE a0) n a=TI r) (λ⟨a,n⟩=>n) (0,m) Z ⟨l,h⟩ ?_;rintro⟨a,nn94⟩ a5 ⟨b,h⟩;obtain⟨m,bl,rfl,h,d⟩:=Aw h;refine AR ?_;refine Ar h ?_ ?_<;>intro ah h
  ·refine AR ?_;refine Ag h λo h=>A1 k a.toNat (BP o) (An o) ?_;rintro bm _ ⟨_,_,rfl,⟨e98v0,rfl,e98h0⟩,e98t1⟩ ai;obtain⟨_,_,rfl,rfl,⟨_,_,rfl,rfl,⟨_,_,rfl,⟨e98v3,rfl,e98h3⟩,⟨_,_,rfl,⟨e98v4,rfl,e98h4⟩,⟨e98v5,rfl,e98h5⟩⟩⟩⟩⟩:=Go.E.Rp.F6 e98t1;refine Af ?_;have q:=ai.add 0;refine sH q (hH.trans b.arg)<|Af ?_;refine Ar h ?_ ?_<;>intro s h
   ·refine FA 1 Z<|Ah h λa6 t h=>Al b (Ec _ _ (Ae b) t) λa7 ax u an=>Ac 0 Z u Z ?_;intro a8 f ao;have h:=AX.out h d;refine Af ?_
    cases h
    refine Bz (.cell Z QW Z Av.e (box_pT 0 f Z)) ⟨f.ext,Z⟩
   refine Af ?_;refine Ag h λg h=>A1 k a.toNat (BP g) (An g) ?_;rintro a9 _ ⟨_,_,rfl,⟨e107v0,rfl,e107h0⟩,e107t1⟩ x;obtain⟨_,_,rfl,rfl,⟨_,_,rfl,rfl,⟨_,_,rfl,⟨e107v3,rfl,e107h3⟩,⟨_,_,rfl,⟨e107v4,rfl,e107h4⟩,⟨e107v5,rfl,e107h5⟩⟩⟩⟩⟩:=Go.E.Rp.F6 e107t1;refine Af ?_;have y:=x.add 1;refine AJ (AU y (hH.trans b.arg))<|Ah h λba z h=>Al b (Lx (a0:=((a0.getD a.toNat Qq7).2)) _ _ (Ae b) (e107h3.mono  Ad) (e107h4.mono  Ad) (e107h5.mono  Ad) z) λbb ay aa ap=>Aq Av.e Z aa λbc bd ab aq _=>Ac 0 Z ab Z λbe e ar=>Af ?_;refine Bt h ?_ ?_<;>intro ac h
   ·refine Af ?_;refine Ah h λbf ad h=>Al e (Ec _ _ (Ae e) ad) λbg az ae au=>Ac 1 Z ae Z ?_;intro bh i av;have h:=AX.out h d;refine Af ?_
    cases h
    refine Bz (.cell Z QW Z Av.e (box_pT 1 i Z)) ⟨i.ext,Z⟩
   refine Ag h λa1 h=>Af ?_;have af:=e.dT 0 Z;have h:=AX.again h d;refine Ak (_,_) Z ⟨af,h⟩
  have h:=AX.out h d;refine Af ?_;refine Am () ⟨b,h⟩
 rintro _ bi ⟨aj,h⟩;refine A5<|AJ (A8 (λ_=>Bo _))<|Ac 0 Z aj Z λbj j aw=>Af ?_
 cases h
 refine Bz (.cell Z QW Z Av.e (box_pT 0 j Z)) ⟨j.ext,Z⟩
def PU(a:List Pv)(b:List Wl):Option Bool:=
 Xd (QS b (1000:Int)) (λc=>if c<=1000 then Xd (Kz a) (λd=>TI (decide ((d.length:Int)<=16384)))else TI false)
def LP(a0:List (Wl×Pv)):(List Pv)×(List Wl)×Int->Option (((List Pv)×(List Wl)×Int)⊕(Bool)):=λ⟨b,c,a⟩=>
 if a<(a0.length:Int)then Ay (0<=a/\a<(a0.length:Int)) (Ay (Go.E.Dx 24 (c.length+([(a0.getD a.toNat Qq7).1]).length)) (Ay (0<=a/\a<(a0.length:Int)) (Ay (Go.E.Dx 88 (b.length+([((a0.getD a.toNat Qq7).2)]).length)) (Ay (AL (a+1)) (TI (Sum.inl ((b++[((a0.getD a.toNat Qq7).2)]),(c++[(a0.getD a.toNat Qq7).1]),(a+1))))))))else Sh Sum.inr (PU b c)
def Qjf(a0:List (Wl×Pv))(s:(List Pv)×(List Wl)×Int):Option Bool:=Go.L.run (LP a0) s
def KC(a0:List (Wl×Pv)):Option Bool:=
 (Qjf a0) (([]:List Pv),([]:List Wl),0)
theorem Env{a0:List (Wl×Pv)}{q:Value}(ae:As (.pair (.vec .byte) .tree) H q a0){r:Bool}(h:KC a0=TI r):
  Pd 9 [q] w (λv w'=>v=.bool r):=by
 refine Ai 37 [(0,q)] func9 Z λhL=>?_;obtain⟨be,bm,af⟩:=B3 (.vec .byte) H 24 hL;obtain⟨bf,ar,bg⟩:=B3 .tree H 54 be;refine Af ?_;refine AA ((List Pv)×(List Wl)×Value×LR×Value×LR) (λ⟨x,y,s,j,t,k⟩=>[(3,t),(4,s)]) (λ⟨x,y,s,j,t,k⟩ wr=>Cd w [.row s 54 5 (x).length j,.row t 24 1 (y).length k] wr λOz=>Ao .tree (gz H w wr Oz) x j/\Ao (.vec .byte) (gz H w wr Oz) y k/\PU x y=TI r) ?_ ?_
 ·refine Bx 1 Z<|A4 ?_;obtain⟨ag,h⟩:=Ax h;have af:=af.mono (Aa ar);refine AF ((List Pv)×(List Wl)×Int×Value×LR×Value×LR×Nat) (λ⟨d,e,a,f,b,g,c,n⟩=>[(0,q),(3,g),(4,f),(5,No a)]) (λ⟨d,e,a,f,b,g,c,n⟩ wr=>Cd w [.row f 54 5 (d).length b,.row g 24 1 (e).length c] wr λOz=>Ao .tree (gz H w wr Oz) d b/\Ao (.vec .byte) (gz H w wr Oz) e c/\D6 (LP a0) n (d,e,a)=TI r) (λ⟨d,e,a,f,b,g,c,n⟩=>n) (([]:List Pv),([]:List Wl),0,TO,[],TO,[],ag) Z ⟨bf,bg,af,h⟩ ?_;rintro⟨d,e,a,f,b,g,c,nn65⟩ bn ⟨z,o,p,h⟩;obtain⟨ag,bu,rfl,h,ah⟩:=Aw h;refine AR ?_;refine Ar h ?_ ?_<;>intro au h
  ·refine AR ?_;refine Ag h λai h=>A1 ae a.toNat (BP ai) (An ai) ?_;rintro bv _ ⟨_,_,rfl,⟨e69v0,rfl,e69h0⟩,e69t1⟩ av;obtain⟨_,_,rfl,rfl,⟨_,_,rfl,rfl,⟨_,_,rfl,⟨e69v3,rfl,e69h3⟩,⟨_,_,rfl,⟨e69v4,rfl,e69h4⟩,⟨e69v5,rfl,e69h5⟩⟩⟩⟩⟩:=Go.E.Rp.F6 e69t1;refine Af ?_;have aw:=av.add 0;refine sH aw (hH.trans z.arg)<|Bi [(a0.getD a.toNat Qq7).1] (r:=(.vec .byte)) (λ_=>AaQ _ e69h0.one _) z (.c1 ⟨_,Z,(e69h0.mono  Ad)⟩ .nil) λbw bx bo ax ac ay=>Ag h λaz h=>?_;have p:=p.mono (Aa ac);refine Bf (r:=(.vec .byte)) 1 e [(a0.getD a.toNat Qq7).1] Z RO ax Z p ay az λbh bz a1 aj an aa=>Af ?_;refine Ag h λak h=>A1 ae a.toNat (BP ak) (An ak) ?_;rintro b0 _ ⟨_,_,rfl,⟨e75v0,rfl,e75h0⟩,e75t1⟩ a2;obtain⟨_,_,rfl,rfl,⟨_,_,rfl,rfl,⟨_,_,rfl,⟨e75v3,rfl,e75h3⟩,⟨_,_,rfl,⟨e75v4,rfl,e75h4⟩,⟨e75v5,rfl,e75h5⟩⟩⟩⟩⟩:=Go.E.Rp.F6 e75t1;refine Af ?_;have a3:=a2.add 1;refine AJ (AU a3 (hH.trans aj.arg)) ?_
   refine Bi [((a0.getD a.toNat Qq7).2)] (r:=.tree) (λ_=>AeM _ _ _ _ _ _) aj (.c5 (Go.E.Rp.O6 ⟨_,_,Z,Z,⟨_,_,Z,Z,⟨_,_,Z,⟨_,Z,(e75h3.mono  Ad)⟩,⟨_,_,Z,⟨_,Z,(e75h4.mono  Ad)⟩,⟨_,Z,(e75h5.mono  Ad)⟩⟩⟩⟩⟩) .nil) λb1 b2 bp a4 ad a5=>Ag h λa6 h=>?_;have o:=o.mono (Aa (ac.trans (an.trans ad)));refine Bf (r:=.tree) 0 d [((a0.getD a.toNat Qq7).2)] Z Vz a4 Z o a5 a6 λbi b3 a7 a8 ao a9=>Ag h λbq h=>Af ?_;have h:=AX.again h ah;have aa:=aa.mono (Aa (ad.trans ao));refine Ak ((d++[((a0.getD a.toNat Qq7).2)]),(e++[(a0.getD a.toNat Qq7).1]),(a+1),bi,a7,bh,a1,ag) Z ⟨a8,a9,aa,h⟩
  have h:=AX.out h ah;refine Af ?_;refine Am (d,e,f,b,g,c) ⟨z,o,p,h⟩
 rintro⟨x,y,s,j,t,k⟩ br ⟨al,u,ap,h⟩;refine FA 1 Z<|Ah h λb4 ba h=>Al al (Src _ _ (Le.refl _) (al.Jv hH (i:=1) Z ap) ba) λb5 bs ab aq=>AK 2 Z<|Bl 31 h ?_ ?_<;>intro bb h
 ·refine Af ?_;refine Ah h λb6 bc h=>?_;have u:=u.mono (Aa aq);refine A9 ab (QkE _ _ (Le.refl _) (ab.Jv hH (i:=0) Z u) bc) ?_;rintro bk b7 ⟨_,rfl,am⟩ bd bt bl;have bj:=(am.UE Um).BB hH ab bd;exact Bu
 exact Bu
def Fl(a:RX)(b:SB):Option Bool:=
 Xd (Oo a.1 b) (λc=>TI c)
def Dh(a0:List (Wl×Pv))(a1:Qv)(a2:List Bool)(c:RX):SB×Int->Option (KP⊕(Bool)):=λ⟨b,a⟩=>
 if a<(a0.length:Int)then Ay (0<=a/\a<(a2.length:Int)) (if a2.getD a.toNat Qq7 then Ay (0<=a/\a<(a0.length:Int)) (Xd (Oj ((a0.getD a.toNat Qq7).1,((a0.getD a.toNat Qq7).2)) a1) (λd=>if d then Ay (Go.E.Dx 8 (b.length+([a]).length)) (Ay (AL (a+1)) (TI (Sum.inl ((b++[a]),(a+1)))))else Ay (AL (a+1)) (TI (Sum.inl (b,(a+1))))))else Ay (AL (a+1)) (TI (Sum.inl (b,(a+1)))))else Sh Sum.inr ((Fl c) b)
def Ij(a0:List (Wl×Pv))(a1:Qv)(a2:List Bool)(a:RX)(s:KP):Option Bool:=Go.L.run (Dh a0 a1 a2 a) s
def D3(a0:List (Wl×Pv))(a1:Qv)(a2:List Bool)(a:RX):Option Bool:=
 (Ij a0 a1 a2 a) (([]:SB),0)
def Ce(a0:List (Wl×Pv))(a1:Qv)(a2:List Bool)(d e:Int)(a:RX)(c:PR×Zv)(b:Bool):Option Bool:=
 if b then Xd (Bc ((c.1.1.1,c.1.1.2),(c.1.2.1.1,c.1.2.1.2),c.1.2.2)) (λf=>if f=(a0.length:Int)then if a.2.1=d/\a.2.2=e then TI (decide ((a.1.length:Int)=0))else TI false else TI false)else(D3 a0 a1 a2 a)
def BI(a0:List (Wl×Pv))(a1:Qv)(a2:List Bool)(a:RX)(d:PR×Zv)(b c:Int):Option Bool:=
 Xd (Bc ((d.1.1.1,d.1.1.2),(d.1.2.1.1,d.1.2.1.2),d.1.2.2)) (λe=>if e=(a0.length:Int)then if a.2.1=b/\a.2.2=c then(Ce a0 a1 a2 b c a d) (!decide (b=0))else(Ce a0 a1 a2 b c a d) true else(Ce a0 a1 a2 b c a d) true)
def Fm(a0:List (Wl×Pv))(a1:Qv)(a2:List Bool)(b:PR×Zv):Option Bool:=
 Xd (DB ((b.1.1.1,b.1.1.2),(b.1.2.1.1,b.1.2.1.2),b.1.2.2) a1 a2) (λc=>Xd (K0 a1) (λa=>if a.1=0 then if(a2.length:Int)=(a0.length:Int)then(BI a0 a1 a2 c b) a.1 a.2 else Xd (GF (9:Int) (-2:Int)) (λd=>(BI a0 a1 a2 c b) d.1 d.2)else(BI a0 a1 a2 c b) a.1 a.2))
def Fo(a0:List (Wl×Pv))(a1:Qv)(a2:List Bool)(a:PR×Zv):Option Bool:=
 if a.2.1=0 then(Fm a0 a1 a2 a)else Xd (GF (14:Int) (-1:Int)) (λb=>if a.2.1=b.1/\a.2.2=b.2 then Xd (Bc ((a.1.1.1,a.1.1.2),(a.1.2.1.1,a.1.2.1.2),a.1.2.2)) (λc=>if c=0 then Xd (KC a0) (λd=>TI (!d))else TI false)else TI false)
def Gg(a0:List (Wl×Pv))(a1:Qv)(a2:List Bool):Option Bool:=
 Xd (L7 a0) (λa=>Xd (GO a0) (λb=>Xd QB (λc=>if !c then Xd QB (λd=>if d then if a.2.1=b.1/\a.2.2=b.2 then Xd (Bc ((a.1.1.1,a.1.1.2),(a.1.2.1.1,a.1.2.1.2),a.1.2.2)) (λe=>TI (decide (e=0)))else TI false else TI false)else if b.1=0 then(Fo a0 a1 a2 a)else Xd QB (λf=>if f then if a.2.1=b.1/\a.2.2=b.2 then Xd (Bc ((a.1.1.1,a.1.1.2),(a.1.2.1.1,a.1.2.1.2),a.1.2.2)) (λg=>TI (decide (g=0)))else TI false else TI false))))
theorem QzE(hU:E1 H){a0:List (Wl×Pv)}{a1:Qv}{a2:List Bool}{au ak al am av:Value}(b8:As (.pair (.vec .byte) .tree) H au a0)(cr:As .st H ak (a1.f.2.1))(cs:As .byte H al (a1.f.2.2.2.1))(ct:As .AN H am (a1.f.2.2.2.2.2.2))(dc:As .bool H av a2){r:Bool}(h:Gg a0 a1 a2=TI r):
  Pd 3 [au,.agg #[No a1.f.1,ak,Pg a1.f.2.2.1,al,No a1.f.2.2.2.2.1,No a1.f.2.2.2.2.2.1,am],av] w (λv w'=>v=.bool r):=by
 refine Ai 130 [(0,au),(1,.agg #[No a1.f.1,ak,Pg a1.f.2.2.1,al,No a1.f.2.2.2.2.1,No a1.f.2.2.2.2.2.1,am]),(2,av)] func3 Z λhL=>A5<|B6 (t:=27) Z Z hL λw1 b1 cj gi _=>Af ?_;refine Ah h λa fp h=>A9 cj (QjK _ _ (Ae cj) (hU.mono  Ad) (b8.mono  Ad) fp) ?_;rintro _ w3 ⟨p,u,x,rfl,dv,dw,dx⟩ dd fq gj;have z:=dv.mono (Da cj dd);have aa:=dw.mono (Da cj dd);have ab:=dx.BB hH cj dd;refine AK 3 Z<|Aq QM.e Z fq λw4 b4 fr aw _=>Aq Av.e Z fr λw5 b5 fs ax _=>Ac 1 Z fs Z (a:=(AV Z (AV z.one (AV Z (AV aa.one (AV ab.one JO)))))) λw6 ft ay=>Ac 0 Z ft Z ?_;intro w7 de az;have ag:=de.rG H;refine Af ?_;refine Ah h λx9 fu h=>Al de (QzK _ _ (Ae de) (b8.mono  Ad) fu) λhq gk e6 b9=>Aq Av.e Z e6 λhr a5 e7 ca _=>Ac 0 Z e7 Z λhs df cb=>Ap ?_
 refine AA Unit (λ(_:Unit)=>[(0,au),(2,av),(4,(SX b1)),(7,(SX b4)),(8,(SX b5)),(9,(SX a5))]) (λ(_:Unit) wr=>Cd w [.box a5 [No x9.1,No x9.2] 39,.box b5 [No a.2.1,No a.2.2] 39,.box b4 [No a.1.1.1,p,No a.1.2.1.1,u,x] 37,.box b1 [No a1.f.1,ak,Pg a1.f.2.2.1,al,No a1.f.2.2.2.2.1,No a1.f.2.2.2.2.2.1,am] 27] wr λOz=>As (.pair .st (.vec TD)) (gz H w wr Oz) p (a.1.1.2)/\As (.pair Xp (.vec (.int .i64))) (gz H w wr Oz) u (a.1.2.1.2)/\As Xl (gz H w wr Oz) x (a.1.2.2)/\(Fo a0 a1 a2 a)=TI r) ?_ ?_
 ·refine A5<|Ah h λht e8 h=>Al df (R6 _ _ (Ae df) (hU.mono  Ad) e8) λhu gl bv cc=>AK 2 Z<|Cf 23 h ?_ ?_<;>intro e9 h
  ·refine Af ?_;refine Cm<|A5<|Ah h λhv fa h=>Al bv (R6 _ _ (Ae bv) (hU.mono  Ad) fa) λhw gm dg dz=>AK 1 Z<|Cf 29 h ?_ ?_<;>intro fb h
   ·refine Af ?_;refine AJ (W3 Ge (KO _ _ _ _))<|Af ?_;refine Bl 34 h ?_ ?_<;>intro fc h
    ·refine Af ?_;refine Ah h λhx fd h=>?_;have z:=z.mono (Aa (aw.trans (ax.trans (ay.trans az))));have aa:=aa.mono (Aa (aw.trans (ax.trans (ay.trans az))));have ab:=ab.mono (Aa (aw.trans (ax.trans (ay.trans az))));have ag:=ag.trans (Aa (b9.trans (ca.trans (cb.trans (cc.trans dz)))));refine Al dg (BC (a0:=((a.1.1.1,a.1.1.2),(a.1.2.1.1,a.1.2.1.2),a.1.2.2)) _ _ (Ae dg) (z.mono ag) (aa.mono ag) (ab.mono ag) fd) λhy gn go fw=>Bu
    exact Bu
   exact Bu
  refine Af ?_;refine Bt h ?_ ?_<;>intro fe h
  ·refine A5<|Ah h λhz ff h=>Al bv (R6 _ _ (Ae bv) (hU.mono  Ad) ff) λh0 gp dh d0=>AK 1 Z<|Cf 29 h ?_ ?_<;>intro fg h
   ·refine Af ?_;refine AJ (W3 Ge (KO _ _ _ _))<|Af ?_;refine Bl 34 h ?_ ?_<;>intro fh h
    ·refine Af ?_;refine Ah h λh1 fi h=>?_;have z:=z.mono (Aa (aw.trans (ax.trans (ay.trans az))));have aa:=aa.mono (Aa (aw.trans (ax.trans (ay.trans az))));have ab:=ab.mono (Aa (aw.trans (ax.trans (ay.trans az))));have ag:=ag.trans (Aa (b9.trans (ca.trans (cb.trans (cc.trans d0)))));refine Al dh (BC (a0:=((a.1.1.1,a.1.1.2),(a.1.2.1.1,a.1.2.1.2),a.1.2.2)) _ _ (Ae dh) (z.mono ag) (aa.mono ag) (ab.mono ag) fi) λh2 gq gr fx=>Bu
    exact Bu
   exact Bu
  refine Ca ?_;have z:=z.mono (Aa (aw.trans (ax.trans (ay.trans az))));have aa:=aa.mono (Aa (aw.trans (ax.trans (ay.trans az))));have ab:=ab.mono (Aa (aw.trans (ax.trans (ay.trans az))));have ag:=ag.trans (Aa (b9.trans (ca.trans (cb.trans cc))));refine Am () ⟨bv,(z.mono ag),(aa.mono ag),(ab.mono ag),h⟩
 rintro _ gs ⟨cd,cl,cm,cn,h⟩;refine AA Unit (λ(_:Unit)=>[(0,au),(2,av),(4,(SX b1)),(7,(SX b4)),(9,(SX a5))]) (λ(_:Unit) wr=>Cd w [.box a5 [No x9.1,No x9.2] 39,.box b5 [No a.2.1,No a.2.2] 39,.box b4 [No a.1.1.1,p,No a.1.2.1.1,u,x] 37,.box b1 [No a1.f.1,ak,Pg a1.f.2.2.1,al,No a1.f.2.2.2.2.1,No a1.f.2.2.2.2.2.1,am] 27] wr λOz=>As (.pair .st (.vec TD)) (gz H w wr Oz) p (a.1.1.2)/\As (.pair Xp (.vec (.int .i64))) (gz H w wr Oz) u (a.1.2.1.2)/\As Xl (gz H w wr Oz) x (a.1.2.2)/\(Fm a0 a1 a2 a)=TI r) ?_ ?_
 ·have ai:=cd.rG H;refine Af ?_;refine Bt h ?_ ?_<;>intro d1 h
  ·refine BF (Zt 0 14 (.tail 14)) mixed SF (λfj cu=>?_);have ad:=cd.call cu;have di:=A3 cd cu;refine Bh Z (C6 1 Z Av.e ad Z) Z<|Ah h λgt d2 h=>DY Z Z Z (λgu fy=>Ec _ _ (Le.refl _) d2)<|Bh Z (W3 Ge (KO _ _ _ _)) Z<|Br 1 Z<|FX 45 Z (λae=>?_) (λae=>?_)
   ·have h:=JP (Z4 ae) h;refine Cr Z (C6 2 Z QM.e ad Z) Z Z Z ae Z<|Ah h λgv d3 h=>?_;have ai:=ai.trans (Aa di);have dj:=(λ(dk:World) (ce:Ext fj dk)=>BC dk _ (Le.refl _) (((cl.mono ai).mono (Ae ad)).mono ce.le) (((cm.mono ai).mono (Ae ad)).mono ce.le) (((cn.mono ai).mono (Ae ad)).mono ce.le) d3);refine MC Z Z Z Z ae Z Z dj<|Cr Z (Az Z) Z Z Z ae Z<|Bh Z (CA ae Z) Z<|Br 1 Z<|FX 50 Z (λaf=>?_) (λaf=>?_)
    ·have h:=JP (Z4 af) h;refine Cr Z (Az Z) Z Z Z af Z<|Ah h λgw d4 h=>MC Z Z Z Z af Z Z (λgx d5=>Env _ _ (Le.refl _) ((b8.mono (hH.trans ad.arg)).mono d5.le) d4)<|Cr Z (Az Z) Z Z Z af Z<|Bh Z (CA af Z) Z<|Br 1 Z<|AT (λgy d6=>?_);have fz:=ad.call d6;exact Bu
    have h:=JQ (of_decide_eq_false af) h
    iterate 3 refine Mm Z Z Z Z af Z ?_
    refine Bh Z (B4 af Z) Z<|Br 1 Z<|AT (λg0 d7=>?_);have f0:=ad.call d7;exact Bu
   have h:=JQ (of_decide_eq_false ae) h
   iterate 3 refine Mm Z Z Z Z ae Z ?_
   refine Bh Z (B4 ae Z) Z<|Br 1 Z ?_
   iterate 3 refine Mm Z Z Z Z Z Z ?_
   refine Bh Z (B4 Z Z) Z<|Br 1 Z<|AT (λg1 d8=>?_);have f1:=ad.call d8;exact Bu
  refine Ca<|Am () ⟨cd,(cl.mono ai),(cm.mono ai),(cn.mono ai),h⟩
 rintro _ g2 ⟨cf,bg,bh,bi,h⟩;have e:=cf.rG H;refine Af ?_;refine Ah h λg d9 h=>A9 cf (I2 (a0:=((a.1.1.1,a.1.1.2),(a.1.2.1.1,a.1.2.1.2),a.1.2.2)) (a1:=a1) _ _ (Ae cf) (hU.mono  Ad) (bg.mono e) (bh.mono e) (bi.mono e) (cr.mono  Ad) (cs.mono  Ad) (ct.mono  Ad) (dc.mono  Ad) d9) ?_;rintro _ g3 ⟨o,rfl,c5⟩ ea eb bw;have k:=c5.BB hH cf ea;refine AK 3 Z<|Aq Av.e Z eb λg4 bf ec ao _=>AK 1 Z<|Ac 0 Z ec Z λg5 cv ap=>Af ?_;refine Ah h λcg ed h=>Al cv (Adr (a0:=a1) _ _ (Ae cv) (cr.mono  Ad) (cs.mono  Ad) (ct.mono  Ad) ed) λg6 f2 ee aq=>Ac 1 Z ee Z λg7 bo ar=>Ap ?_
 refine AA Zv (λ⟨an,a3⟩=>[(0,au),(2,av),(4,(SX b1)),(7,(SX b4)),(9,(SX a5)),(10,o),(11,(SX bf))]) (λ⟨an,a3⟩ wr=>Cd w [.box bf [No g.2.1,No g.2.2] 39,.box a5 [No an,No a3] 39,.box b5 [No a.2.1,No a.2.2] 39,.box b4 [No a.1.1.1,p,No a.1.2.1.1,u,x] 37,.box b1 [No a1.f.1,ak,Pg a1.f.2.2.1,al,No a1.f.2.2.2.2.1,No a1.f.2.2.2.2.2.1,am] 27] wr λOz=>As (.int .i64) (gz H w wr Oz) o (g.1)/\As (.pair .st (.vec TD)) (gz H w wr Oz) p (a.1.1.2)/\As (.pair Xp (.vec (.int .i64))) (gz H w wr Oz) u (a.1.2.1.2)/\As Xl (gz H w wr Oz) x (a.1.2.2)/\(BI a0 a1 a2 g a) an a3=TI r) ?_ ?_
 ·refine Af ?_;refine Bl 67 h ?_ ?_<;>intro ef h
  ·refine Af ?_;refine Bt h ?_ ?_<;>intro eg h
   ·refine FC<|Ah h λdl eh h=>Al bo (Ec _ _ (Ae bo) eh) λg8 f3 ei co=>Ac 1 Z ei Z λg9 ej cp=>HX ?_;have e:=e.trans (Aa (bw.trans (ao.trans (ap.trans (aq.trans (ar.trans (co.trans cp)))))));have k:=k.mono (Aa (ao.trans (ap.trans (aq.trans (ar.trans (co.trans cp))))));refine Am (_,_) ⟨ej,k,(bg.mono e),(bh.mono e),(bi.mono e),h⟩
   refine Ca ?_;have e:=e.trans (Aa (bw.trans (ao.trans (ap.trans (aq.trans ar)))));have k:=k.mono (Aa (ao.trans (ap.trans (aq.trans ar))));refine Am (_,_) ⟨bo,k,(bg.mono e),(bh.mono e),(bi.mono e),h⟩
  refine Af ?_;refine BO<|Ca ?_;have e:=e.trans (Aa (bw.trans (ao.trans (ap.trans (aq.trans ar)))));have k:=k.mono (Aa (ao.trans (ap.trans (aq.trans ar))));refine Am (_,_) ⟨bo,k,(bg.mono e),(bh.mono e),(bi.mono e),h⟩
 rintro⟨an,a3⟩ f4 ⟨ch,bn,a6,a7,a8,h⟩;refine AA Unit (λ(_:Unit)=>[(0,au),(2,av),(4,(SX b1)),(10,o)]) (λ(_:Unit) wr=>Cd w [.box bf [No g.2.1,No g.2.2] 39,.box a5 [No an,No a3] 39,.box b5 [No a.2.1,No a.2.2] 39,.box b4 [No a.1.1.1,p,No a.1.2.1.1,u,x] 37,.box b1 [No a1.f.1,ak,Pg a1.f.2.2.1,al,No a1.f.2.2.2.2.1,No a1.f.2.2.2.2.2.1,am] 27] wr λOz=>As (.int .i64) (gz H w wr Oz) o (g.1)/\As (.pair .st (.vec TD)) (gz H w wr Oz) p (a.1.1.2)/\As (.pair Xp (.vec (.int .i64))) (gz H w wr Oz) u (a.1.2.1.2)/\As Xl (gz H w wr Oz) x (a.1.2.2)/\(D3 a0 a1 a2 g)=TI r) ?_ ?_
 ·refine AA Bool (λa9=>[(0,au),(2,av),(4,(SX b1)),(7,(SX b4)),(9,(SX a5)),(10,o),(11,(SX bf)),(89,.bool a9)]) (λa9 wr=>Cd w [.box bf [No g.2.1,No g.2.2] 39,.box a5 [No an,No a3] 39,.box b5 [No a.2.1,No a.2.2] 39,.box b4 [No a.1.1.1,p,No a.1.2.1.1,u,x] 37,.box b1 [No a1.f.1,ak,Pg a1.f.2.2.1,al,No a1.f.2.2.2.2.1,No a1.f.2.2.2.2.2.1,am] 27] wr λOz=>As (.int .i64) (gz H w wr Oz) o (g.1)/\As (.pair .st (.vec TD)) (gz H w wr Oz) p (a.1.1.2)/\As (.pair Xp (.vec (.int .i64))) (gz H w wr Oz) u (a.1.2.1.2)/\As Xl (gz H w wr Oz) x (a.1.2.2)/\(Ce a0 a1 a2 an a3 g a) a9=TI r) ?_ ?_
  ·have c:=ch.rG H;refine Af ?_;refine Ah h λha ek h=>Al ch (BC (a0:=((a.1.1.1,a.1.1.2),(a.1.2.1.1,a.1.2.1.2),a.1.2.2)) _ _ (Ae ch) (a6.mono c) (a7.mono c) (a8.mono c) ek) λhb f5 ci bx=>Af ?_;refine Dm 80 h ?_ ?_<;>intro el h
   ·refine Af ?_;have c:=c.trans (Aa bx);refine Am _ ⟨ci,(bn.mono c),(a6.mono c),(a7.mono c),(a8.mono c),h⟩
   refine Af ?_;refine AJ (I4 Ge (KO _ _ _ _))<|Af ?_;refine Dm 85 h ?_ ?_<;>intro em h
   ·refine Af ?_;have c:=c.trans (Aa bx);refine Am _ ⟨ci,(bn.mono c),(a6.mono c),(a7.mono c),(a8.mono c),h⟩
   refine Af ?_;have c:=c.trans (Aa bx);refine Am _ ⟨ci,(bn.mono c),(a6.mono c),(a7.mono c),(a8.mono c),h⟩
  rintro a9 f6 ⟨bp,c6,b3,b6,b7,h⟩;refine AH h ?_ ?_<;>intro en h
  ·have bj:=bp.rG H;refine Af ?_;refine Ah h λhc eo h=>Al bp (BC (a0:=((a.1.1.1,a.1.1.2),(a.1.2.1.1,a.1.2.1.2),a.1.2.2)) _ _ (Ae bp) (b3.mono bj) (b6.mono bj) (b7.mono bj) eo) λhd f7 f8 dm=>Af ?_;refine Bl 95 h ?_ ?_<;>intro ep h
   ·refine Af ?_;refine AJ (W3 Ge (KO _ _ _ _))<|Af ?_;refine Bl 100 h ?_ ?_<;>intro eq h
    ·have bj:=bj.trans (Aa dm);exact Bu
    exact Bu
   exact Bu
  refine Ca<|Am () ⟨bp,c6,b3,b6,b7,h⟩
 rintro _ f9 ⟨cw,c7,c8,c9,da,h⟩;have ba:=cw.rG H;obtain⟨er,dn,es⟩:=B3 (.int .i64) H 3 cw;refine Af ?_;refine AA (SB×Value×LR) (λ⟨bz,bq,bk⟩=>[(10,o),(12,bq)]) (λ⟨bz,bq,bk⟩ wr=>Cd w [.row bq 3 1 (bz).length bk,.box bf [No g.2.1,No g.2.2] 39,.box a5 [No an,No a3] 39,.box b5 [No a.2.1,No a.2.2] 39,.box b4 [No a.1.1.1,p,No a.1.2.1.1,u,x] 37,.box b1 [No a1.f.1,ak,Pg a1.f.2.2.1,al,No a1.f.2.2.2.2.1,No a1.f.2.2.2.2.2.1,am] 27] wr λOz=>As (.int .i64) (gz H w wr Oz) o (g.1)/\Ao (.int .i64) (gz H w wr Oz) bz bk/\As (.pair .st (.vec TD)) (gz H w wr Oz) p (a.1.1.2)/\As (.pair Xp (.vec (.int .i64))) (gz H w wr Oz) u (a.1.2.1.2)/\As Xl (gz H w wr Oz) x (a.1.2.2)/\(Fl g) bz=TI r) ?_ ?_
 ·refine Bx 1 Z<|A4 ?_;obtain⟨b0,h⟩:=Ax h;have ba:=ba.trans (Aa dn)
  refine AF (SB×Int×Value×LR×Nat) (λ⟨ah,d,aj,ac,n⟩=>[(0,au),(2,av),(4,(SX b1)),(10,o),(12,aj),(13,No d)]) (λ⟨ah,d,aj,ac,n⟩ wr=>Cd w [.row aj 3 1 (ah).length ac,.box bf [No g.2.1,No g.2.2] 39,.box a5 [No an,No a3] 39,.box b5 [No a.2.1,No a.2.2] 39,.box b4 [No a.1.1.1,p,No a.1.2.1.1,u,x] 37,.box b1 [No a1.f.1,ak,Pg a1.f.2.2.1,al,No a1.f.2.2.2.2.1,No a1.f.2.2.2.2.2.1,am] 27] wr λOz=>As (.int .i64) (gz H w wr Oz) o (g.1)/\Ao (.int .i64) (gz H w wr Oz) ah ac/\As (.pair .st (.vec TD)) (gz H w wr Oz) p (a.1.1.2)/\As (.pair Xp (.vec (.int .i64))) (gz H w wr Oz) u (a.1.2.1.2)/\As Xl (gz H w wr Oz) x (a.1.2.2)/\D6 (Dh a0 a1 a2 g) n (ah,d)=TI r) (λ⟨ah,d,aj,ac,n⟩=>n) (([]:SB),0,TO,[],b0) Z ⟨er,(c7.mono ba),es,(c8.mono ba),(c9.mono ba),(da.mono ba),h⟩ ?_
  rintro⟨ah,d,aj,ac,nn314⟩ ga ⟨br,bb,bl,bc,bd,be,h⟩;obtain⟨b0,he,rfl,h,bs⟩:=Aw h;have b:=br.rG H;refine AR ?_;refine Ar h ?_ ?_<;>intro et h
  ·refine AR ?_;refine BF (Zt 0 12 (.tail 12)) mixed SF (λfk cx=>?_);have j:=br.call cx;have b2:=A3 br cx;refine Br 2 Z<|Ag h λcy h=>Cj Z Z Z Xe dc d.toNat (BP cy) (An cy) Z ?_;rintro hf _ rfl eu;refine Bh Z (B5 eu (hH.trans j.arg)) Z<|Br 1 Z<|FX 115 Z (λy=>?_) (λy=>?_)
   ·have h:=Yb y h
    iterate 2 refine Cr Z (Az Z) Z Z Z y Z ?_
    refine Ag h λcz h=>GP Z Z Z Z y Z Z Adh b8 d.toNat (BP cz) (An cz) Z ?_;rintro hg _ ⟨_,_,rfl,⟨e325v0,rfl,e325h0⟩,e325t1⟩ ev;obtain⟨_,_,rfl,rfl,⟨_,_,rfl,rfl,⟨_,_,rfl,⟨e325v3,rfl,e325h3⟩,⟨_,_,rfl,⟨e325v4,rfl,e325h4⟩,⟨e325v5,rfl,e325h5⟩⟩⟩⟩⟩:=Go.E.Rp.F6 e325t1;refine Cr Z (AU ev (hH.trans j.arg)) Z Z Z y Z<|Cr Z (C6 5 Z Bs.e j Z) Z Z Z y Z<|Ah h λhh ew h=>?_;have dp:=(λ(dq:World) (a4:Ext fk dq)=>Qq2 dq _ (Le.refl _) ((e325h0.mono (hH.trans j.arg)).mono a4.le) ((e325h3.mono (hH.trans j.arg)).mono a4.le) ((e325h4.mono (hH.trans j.arg)).mono a4.le) ((e325h5.mono (hH.trans j.arg)).mono a4.le) ((cr.mono (hH.trans j.arg)).mono a4.le) ((cs.mono (hH.trans j.arg)).mono a4.le) ((ct.mono (hH.trans j.arg)).mono a4.le) ew);refine MC Z Z Z Z y Z Z dp<|Bh Z (CA y Z) Z<|AT (λhi c0=>?_);have c2:=j.call c0;have cq:=A3 j c0;refine Ap<|AH h ?_ ?_<;>intro ex h
    ·refine Af ?_;refine Bi [d] (r:=(.int .i64)) (λ_=>Fy _ _) c2 (.c1 Z .nil) λhj hk gb ey dr ez=>Ag h λe0 h=>?_;have b:=b.trans (Aa (b2.trans (cq.trans dr)));refine Bf (r:=(.int .i64)) 0 ah [d] Z VV ey Z (bl.mono b) ez e0 λfl hl e1 e2 ds e3=>Ag h λgc h=>Af ?_;have h:=AX.again h bs;have b:=b.trans (Aa ds);refine Ak (_,_,_,_,_) Z ⟨e2,(bb.mono b),e3,(bc.mono b),(bd.mono b),(be.mono b),h⟩
    refine Ag h λgd h=>Af ?_;have h:=AX.again h bs;have b:=b.trans (Aa (b2.trans cq));refine Ak (_,_,_,_,_) Z ⟨c2,(bb.mono b),(bl.mono b),(bc.mono b),(bd.mono b),(be.mono b),h⟩
   have h:=Yc y h
   iterate 6 refine Mm Z Z Z Z y Z ?_
   refine Bh Z (B4 y Z) Z<|AT (λhm c3=>?_);have e4:=j.call c3;have dt:=A3 j c3;refine Ap<|BO<|Ag h λge h=>Af ?_;have h:=AX.again h bs;have b:=b.trans (Aa (b2.trans dt));refine Ak (_,_,_,_,_) Z ⟨e4,(bb.mono b),(bl.mono b),(bc.mono b),(bd.mono b),(be.mono b),h⟩
  have h:=AX.out h bs;refine Af ?_;refine Am (_,_,_) ⟨br,(bb.mono b),(bl.mono b),(bc.mono b),(bd.mono b),(be.mono b),h⟩
 rintro⟨bz,bq,bk⟩ gf ⟨bt,db,du,fm,fn,fo,h⟩;have c4:=bt.rG H;refine FA 2 Z<|Ah h λhn e5 h=>Al bt (UT _ _ (Le.refl _) ((db.mono c4).mono (Ae bt)) (bt.Jv hH (i:=0) Z (du.mono c4)) e5) λho gg gh fv=>Bu
end
def Aji{α:Type}[Inhabited α]{l:List α}{i:Nat}(hi:i<l.length):l.getD ((i:Int)).toNat Qq7=l[i]:=by rw[SV,Sb,Pa hi];rfl
def Adl{l:List (Qm×Pv)}(hl:l.length<=64)(hs:∀d∈l,Sd d)(h:1000<total (l.map TJ)\/TA (l.map NB)/\16384<(YY ((l.map NB).length:Int) (N2 (DA (IM 0 (l.map NB)) []))).length):KC l=TI false:=by
 unfold KC Qjf;refine BM (λi=>((l.take i).map NB,(l.take i).map TJ,(i:Int))) l.length (λi hi=>?_) ?_ 0
 ·have hlt:(l.take i).length<=64:=by rw[Y4];omega
  unfold LP;simp only;rw[Xu U,Ab U,Aji hi,Ab (by unfold Go.E.Dx;simp only[Vx,PF,RZ];omega),Ab U,Ab (by unfold Go.E.Dx;simp only[Vx,PF,RZ];omega),Ab U,<- SR hi,K4,K4]
  rfl
 ·unfold LP PU;simp only;rw[Pb U,Sg (KN _),Ajg _ (by simpa using hl),Wo]
  by_cases a:1000<total (l.map TJ)
  ·rw[Xu a,Pb Y5]
  ·obtain⟨hv,h2⟩:=h.resolve_left a;rw[Pb a,Xu U,Ajf (by simpa using hl) hv (λv hv=>by obtain⟨d,hd,rfl⟩:=Rr.1 hv;exact(hs d hd).2),Wo,UK U]
def Adm(p:List ((SB)×SB×SB))(a b c:Int)(f:List (Qm×(List Zv)))(e:Int)(g:List ((Qm×Int×Int×Qm)×SB))(ha:a≠0):Gl p a b c f e g=TI (Tb,(14,-1)):=by
 unfold Gl C5;rw[Pb (λx=>ha x.1)]
 rfl
def Ajj{l:List (Qm×Pv)}(hl:l.length<=64)(hs:∀d∈l,Sd d)(ht:∀d∈l,d.1.length<=2048)(hva:∀d∈l,CO d.2=TI (0,0)):
  ∃r,Ky (l.map NB) (l.map TJ) (l.map λd=>idx d.1)=TI r/\(r=(Mj l,(0,0))/\TA (l.map NB)\/r=(Tb,(14,-1))/\KC l=TI false):=by
 have hlm:(l.map TJ).length=l.length:=Vx ..;have hlv:(l.map NB).length=l.length:=Vx ..;have ht':∀t∈l.map TJ,t.length<=2048:=λt ht'=>by obtain⟨d,hd,rfl⟩:=Rr.1 ht';exact ht d hd
 have b:Of 0 (l.map TJ)=none:=AdY 0 _ ht';obtain⟨s,hsb,h3⟩:=AiA (a:=l.map NB) (λv hv=>by obtain⟨d,hd,rfl⟩:=Rr.1 hv;exact(hs d hd).2);unfold Ky;rw[Aii U ht' b]
 by_cases hbig:131072<gs (RH (((l.map TJ).length:Int),E (l.map TJ)))
 ·rw[Xu hbig,Wo,Pb (λx=>by cases x.1),Adm _ _ _ _ _ _ _ Y5];refine⟨_,Z,.inr ⟨Z,Adl hl hs (.inl ?_)⟩⟩
  rcases TC 1000 (total (l.map TJ))with h | h
  ·exact h
  ·have:=Aen (items:=l.map TJ) U h;omega
 ·rw[Pb hbig,Wo,Xu ⟨Z,Z⟩,hsb,Wo]
  rcases h3 with ⟨c,rfl⟩ | ⟨c,j,f,hj,hf,g,hvj,rfl⟩ | ⟨c,hv,rfl⟩
  ·omega
  ·have hm:(l.map NB).getD j Qq7∈l.map NB:=by rw[Sb,Pa hj];exact Rs _
   obtain⟨d,hd,e⟩:=Rr.1 hm;rw[<- e,hva d hd]at hf
   cases hf
   exact absurd Z g
  ·unfold ZG
   by_cases hb:16384<(YY ((l.map NB).length:Int) (N2 (DA (IM 0 (l.map NB)) []))).length
   ·rw[Xu hb,Adm _ _ _ _ _ _ _ Y5];exact⟨_,Z,.inr ⟨Z,Adl hl hs (.inr ⟨hv,hb⟩)⟩⟩
   ·rw[Pb hb];unfold Gl;rw[Xu ⟨Z,Z⟩];refine⟨_,Z,.inl ⟨YI ?_ Z,hv⟩⟩;unfold Mj;rw[hlm,hlv]
theorem Adn{l:List (Qm×Pv)}(hl:l.length<=64)(hs:∀d∈l,Sd d):∀(d i:Nat),i+d=l.length->(∀x∈l.take i,x.1.length<=2048/\CO x.2=TI (0,0))->
  ∃
   r f,N5 l ((l.take i).map NB,(l.take i).map TJ,(l.take i).map (λd=>idx d.1),(i:Int))=TI r/\HV l (i:Int)=TI f/\
   (f.1≠0/\r=(Tb,f)\/f=(0,0)/\(∀d∈l,d.1.length<=2048)/\(r=(Mj l,(0,0))/\TA (l.map NB)\/r=(Tb,(14,-1))/\KC l=TI false))
 | 0,i,hi,ht=>by
  have he:l.take i=l:=Sg U;rw[he]at ht ⊢;obtain⟨r,c,h2⟩:=Ajj hl hs (λd hd=>(ht d hd).1) (λd hd=>(ht d hd).2);refine⟨r,(0,0),?_,?_,.inr ⟨Z,λd hd=>(ht d hd).1,h2⟩⟩
  ·rw[<- c];refine A2 ?_;unfold CY;simp only;rw[Pb U]
  ·refine A2 (m:=TI (0,0)) ?_;unfold BE HU;rw[Pb U]
 | d+1,i,hi,ht=>by
  have hil:i<l.length:=by omega
  have hg:=Aji hil;have hm:l[i]∈l:=Rs _;have hlt:(l.take i).length<=64:=by rw[Y4];omega
  have hc:∀(n b:Nat),n<=64->b<=100->Go.E.Dx b (n+1):=λn b hn hb=>by
   unfold Go.E.Dx;have:=Nat.mul_le_mul (show n+1<=65 by omega) hb;exact⟨by omega,by omega⟩
  unfold N5 HV
  by_cases h2:l[i].1.length<=2048
  ·obtain⟨f,hf,hv⟩:=WK (B:=1048576) U (hs _ hm).2
   by_cases h3:f.1=0
   ·have a:f=(0,0):=by
     rcases hv with ⟨h,_⟩ | h
     ·exact h
     ·exact absurd h3 h
    subst a
    have hb:CY l ((l.take i).map NB,(l.take i).map TJ,(l.take i).map (λd=>idx d.1),(i:Int))=TI (.inl ((l.take i).map NB++[l[i].2],(l.take i).map TJ++[l[i].1],(l.take i).map (λd=>idx d.1)++[idx l[i].1],((i+1:Nat):Int))):=by
     unfold CY;simp only;rw[Xu U,Ab U,hg,YG,Wo,Xu h2];simp only[and_self,if_true];rw[hf,Wo,Xu ⟨Z,Z⟩,Ab (by rw[Vx];exact hc _ _ hlt U),Ab (by rw[Vx];exact hc _ _ hlt U),Ab (by rw[Vx];exact hc _ _ hlt U)];unfold N4;rw[Ab U]
     rfl
    have hd:BE l (i:Int)=TI (.inl ((i+1:Nat):Int)):=by
     unfold BE;rw[Xu U,Ab U,hg,Pb U,Ab U,hf,Wo,Xu Z,Ab U]
     rfl
    have e:l.take (i+1)=l.take i++[l[i]]:=(SR hil).symm
    have ih:=Adn hl hs d (i+1) U (λx hx=>by
     rw[e]at hx
     rcases MY.1 hx with hx | hx
     ·exact ht x hx
     ·obtain rfl:=TG.1 hx;exact⟨h2,hf⟩)
    rw[AE hb,AE hd];rw[e,K4,K4,K4]at ih;exact ih
   ·have hb:CY l ((l.take i).map NB,(l.take i).map TJ,(l.take i).map (λd=>idx d.1),(i:Int))=TI (.inr (Tb,(f.1,(i:Int)))):=by
     unfold CY;simp only;rw[Xu U,Ab U,hg,YG,Wo,Xu h2];simp only[and_self,if_true];rw[hf,Wo,Pb (λx=>h3 x.1)]
     rfl
    have hd:BE l (i:Int)=TI (.inr (f.1,(i:Int))):=by
     unfold BE;rw[Xu U,Ab U,hg,Pb U,Ab U,hf,Wo,Pb h3,W4]
     rfl
    exact⟨_,_,A2 (m:=TI (Tb,(f.1,(i:Int)))) hb,A2 (m:=TI (f.1,(i:Int))) hd,.inl ⟨h3,Z⟩⟩
  ·have hb:CY l ((l.take i).map NB,(l.take i).map TJ,(l.take i).map (λd=>idx d.1),(i:Int))=TI (.inr (Tb,(3,(i:Int)))):=by
    unfold CY;simp only;rw[Xu U,Ab U,hg,YG,Wo,Pb h2]
    rfl
   have hd:BE l (i:Int)=TI (.inr (3,(i:Int))):=by
    unfold BE;rw[Xu U,Ab U,hg,Xu U,W4]
    rfl
   exact⟨_,_,A2 (m:=TI (Tb,(3,(i:Int)))) hb,A2 (m:=TI (3,(i:Int))) hd,.inl ⟨(show(3:Int)≠0 by decide),Z⟩⟩
def Ag7{l:List (Qm×Pv)}(hs:∀d∈l,Sd d):∃r f,L7 l=TI r/\GO l=TI f/\
  (f.1≠0/\r=(Tb,f)\/f=(0,0)/\l.length<=64/\(∀d∈l,d.1.length<=2048)/\(r=(Mj l,(0,0))/\TA (l.map NB)\/r=(Tb,(14,-1))/\KC l=TI false)):=by
 unfold L7 GO
 by_cases h:64<l.length
 ·rw[Xu U,Xu U,W4];exact⟨(Tb,(2,-1)),(2,-1),Z,Z,.inl ⟨(show(2:Int)≠0 by decide),Z⟩⟩
 ·rw[Pb U,Pb U];obtain⟨r,f,a,h2,h3⟩:=Adn (l:=l) U hs l.length 0 U Rg;exact⟨r,f,a,h2,h3.imp id λx=>⟨x.1,by omega,x.2⟩⟩
def Ag8{l:List (Qm×Pv)}{q:Qv}{vis:List Bool}(hl:l.length<=64)(ht:∀d∈l,d.1.length<=2048)(hv:TA (l.map NB))(hq:Sq q)(hvq:Vq 8 q)(hvl:vis.length=l.length){f:Int×Int}:
  D3 l q vis (its l.length (FB (lfb l) 8 q) λj=>vis.getD j Qq7,f)=TI true:=by
 unfold D3 Ij;refine BM (λi=>(((VO i).filter λj=>FB (lfb l) 8 q j&&vis.getD j Qq7).map (λj:Nat=>(j:Int)),(i:Int))) l.length (λi hi=>?_) ?_ 0
 ·have hg:=Aji hi;have a:l.getD i Qq7=l[i]:=hg;have hm:l[i]∈l:=Rs _;obtain⟨_,hV,hN⟩:=hv _ (Rz (f:=NB) hm);have ha:=Aek (l:=l) (i:=i) (by rw[a];exact ht _ hm) (by rw[a];exact hV) (by rw[a];exact hN) hq (d:=8) U hvq;rw[a]at ha
  have hlen:((VO i).filter λj=>FB (lfb l) 8 q j&&vis.getD j Qq7).length<=64:=by
   have:=Xj (λj=>FB (lfb l) 8 q j&&vis.getD j Qq7) (VO i);rw[Z3]at this;omega
  have hr:(VO (i+1)).filter (λj=>FB (lfb l) 8 q j&&vis.getD j Qq7)=(VO i).filter (λj=>FB (lfb l) 8 q j&&vis.getD j Qq7)++(if FB (lfb l) 8 q i&&vis.getD i Qq7 then[i]else[]):=by
   rw[List.range_succ,Vw,V1,Xs]
  unfold Dh;simp only;rw[Xu U,Ab U,SV,hr]
  by_cases h2:vis.getD i Qq7=true
  ·rw[Xu h2,Ab U,a]
   show Xd (Oj l[i] q) _=_
   rw[ha,Wo,h2]
   by_cases b:FB (lfb l) 8 q i=true
   ·rw[Xu b,Ab (by unfold Go.E.Dx;simp only[Vx,PF,RZ];omega),Ab U,b];simp
   ·rw[Pb b,Ab U];rw[Bool.not_eq_true]at b;rw[b];simp
  ·rw[Pb h2,Ab U];rw[Bool.not_eq_true]at h2;rw[h2];simp
 ·unfold Dh Fl;simp only;rw[Pb U];have hle:=Amz l.length (FB (lfb l) 8 q) λj=>vis.getD j Qq7
  show Sh Sum.inr (Xd (Oo (its l.length (FB (lfb l) 8 q) λj=>vis.getD j Qq7) (its l.length (FB (lfb l) 8 q) λj=>vis.getD j Qq7)) _)=_
  rw[Agb _ U]
  rfl
def AaC:Bc ((Tb.1.1,Tb.1.2),(Tb.2.1.1,Tb.2.1.2),Tb.2.2)=TI 0:=by
 unfold Bc Tb
 rfl
def Aaz(l:List (Qm×Pv)):Bc (((Mj l).1.1,(Mj l).1.2),((Mj l).2.1.1,(Mj l).2.1.2),(Mj l).2.2)=TI (l.length:Int):=by
 unfold Bc
 show TI (((l.map λd=>idx d.1).length:Nat):Int)=_
 rw[Vx]
def Ajk{l:List (Qm×Pv)}{q:Qv}{vis:List Bool}{a b:Int}{e:Int×Int}(ha:a≠0):BI l q vis ([],(a,b)) (Mj l,e) a b=TI true:=by
 unfold BI Ce;rw[Aaz,Wo,Xu Z,Xu ⟨Z,Z⟩,UK ha,Xu Y5,Wo,Xu Z,Xu ⟨Z,Z⟩]
 rfl
def AkW{l:List (Qm×Pv)}(hs:∀d∈l,Sd d){q:Qv}(hq:Sq q){vis:List Bool}:Gg l q vis=TI true:=by
 obtain⟨r,f,hb,hf,hc⟩:=Ag7 hs;unfold Gg;rw[hb,Wo,hf,Wo,Ag6];simp only[Wo,Bool.not_true,Bool.false_eq_true,if_false,if_true]
 rcases hc with ⟨c,rfl⟩ | ⟨rfl,hl,ht,hc⟩
 ·rw[Pb c,Xu ⟨Z,Z⟩,AaC]
  rfl
 ·rw[Xu Z];unfold Fo
  rcases hc with ⟨rfl,hv⟩ | ⟨rfl,hsm⟩
  ·have e:(Mj l).2.2.length=l.length:=Vx ..;rw[Xu Z];unfold Fm
   show Xd (DB (Mj l) q vis) _=_
   rw[AkD U (Am1 hl hs ht hv) hq,Wo,Qxc hq,Wo,e];unfold Am0
   by_cases a:(qfl q).1=0
   ·obtain⟨hvq,_,_,b⟩:=AiM a;rw[Xu a,Xu a]
    by_cases hvl:vis.length=l.length
    ·rw[Xu hvl,Xu U,b];unfold BI Ce;rw[Aaz,Wo,Xu Z,Xu ⟨Z,Z⟩,Xq Z,Pb Y5];exact Ag8 hl ht hv hq hvq hvl
    ·rw[Pb hvl,Pb U,W4,Wo];exact Ajk Y5
   ·rw[Pb a,Pb a];exact Ajk a
  ·rw[Pb Y5,W4,Wo,Xu ⟨Z,Z⟩,AaC,Wo,Xu Z,hsm]
   rfl
end Go.Proofs.YtgaljodghpgdmaaGreatDoor
end
noncomputable section
namespace Go.E
open Go Go.RowKit Go.ChangeShapes Go.WideShapes
section
variable {H:Type}{enc:TypeId×Value->H}{P:Program}{w:World}{base:Nat}{spare:Nat->Bool}{held:Bool}
def wf_u8{n:Int}(h:(Lit.int .u8 n).wf=true):0<=n/\n<=255:=by
 simpa[Lit.wf,IntKind.min,IntKind.max,IntKind.signed,IntKind.bits]using h
def wf_i64{n:Int}(h:(Lit.int .i64 n).wf=true): -9223372036854775808<=n/\n<=9223372036854775807:=by
 simpa[Lit.wf,IntKind.min,IntKind.max,IntKind.signed,IntKind.bits]using h
theorem Uh(hl:laidOutB P=true){W W':World}(hb:Below W.heap.size W W'):∀{ts:List TypeId}{vs:LR}{ds:List (DataW H)}{ps:List MemPlace},(∀t∈ts,P.readableRec t=true/\t<P.types.size)->
  DataW.TrodAll enc P W 0 (λ_=>true) true ts vs ds ps->(∀x∈ps,x.block<W.heap.size)->DataW.TrodAll enc P W' 0 (λb=>decide (b<W.heap.size)) true ts vs ds ps
 | [],[],[],ps,_,h,_=>h
 | t::ts,v::vs,d::ds,ps,ht,h,hlt=>by
  obtain⟨p,q,c,h2,rfl⟩:=h;have a:=ht t (.head _);exact⟨p,q,Below.trod hl a.1 a.2 c hb (λx hx=>hlt x (MY.2 (.inl hx))),Uh hl hb (λt' h'=>ht t' (.tail _ h')) h2 (λx hx=>hlt x (MY.2 (.inr hx))),Z⟩
 | [],[],_::_,_,_,h,_=>by cases h
 | [],_::_,_,_,_,h,_=>by cases h
 | _::_,[],_,_,_,h,_=>by cases h
 | _::_,_::_,[],_,_,h,_=>by cases h
end
end Go.E
namespace Go.E
open Go Go.RowKit Go.ChangeShapes Go.WideShapes Go.Deep
def Reads(P:Program)(t:TypeId){α:Type}(r:Rp α)(ok:α->Prop):Prop:=
 ∀
  {H:Type}{enc:TypeId×Value->H}{w:World}{base:Nat}{spare:Nat->Bool}{held:Bool}{fuel:Nat}{cs:LR}{x:DataW H×List MemPlace},
  DataW.trod enc P w base spare held fuel t cs=TI x->∃a,r.rel (hp w) a cs/\ok a
section
variable {P:Program}{t e:TypeId}
def QC(ht:P.underlying t=TI (.int .i64)):Reads P t (.int .i64) (λn=>Go.L.AL n):=λh=>by
 obtain⟨n,rfl,_,hw⟩:=DataW.trod_int ht h;exact⟨n,Z,wf_i64 hw⟩
def U7(ht:P.underlying t=TI (.int .u8)):Reads P t .byte (λ_=>True):=λh=>by
 obtain⟨n,rfl,_,hw⟩:=DataW.trod_int ht h;have hw':=wf_u8 hw;refine⟨Go.L.u8 n,?_,trivial⟩
 show[_]=[_]
 rw[Go.L.AbU,Int.emod_eq_of_lt U U]
def Aeo(ht:P.underlying t=TI .bool):Reads P t .bool (λ_=>True):=λh=>by
 obtain⟨n,rfl,_⟩:=DataW.trod_bool ht h;exact⟨n,Z,trivial⟩
theorem Ado[Dr]{α:Type}{r:Rp α}{ok:α->Prop}(ht:P.underlying t=TI (.slice e))(hc:P.cellsOf e=r.sz)(hsz:0<r.sz)(hr:Reads P e r ok):Reads P t (.vec r) (λl=>l.length<=9223372036854775807/\∀x∈l,ok x):=λ{H enc w base spare held fuel cs x} h=>by
 rcases open_slice ht h with ⟨rfl,_⟩ | ⟨a,len,cap,m,n,D,Pl,rfl,hb,hl,hm,rfl,_,hel⟩
 ·exact⟨[],⟨_,Z,As.nil _ _⟩,by simp,by simp⟩
 ·have q:len<=(if spare a.block then cap else len):=by split <;> omega
  have hx:∀i,i<len->∃y,ok y/\∃c,r.rel (hp w) y c/\w.cells? base (a.add (i * r.sz)) r.sz=TI c:=λi hi=>by
   obtain⟨cs',f,h2⟩:=hel i U;obtain⟨y,h3,b⟩:=hr h2;rw[hc]at f;exact⟨y,b,cs',h3,f⟩
  have key:∀k,k<=len->∃l:List α,l.length=k/\(∀x∈l,ok x)/\∀i y,l[i]? = TI y->∃c,r.rel (hp w) y c/\w.cells? base (a.add (i * r.sz)) r.sz=TI c:=by
   intro k
   induction k with
   | zero=>intro _;exact⟨[],Z,by simp,by simp⟩
   | succ k ih=>
    intro hk;obtain⟨l,f,h2,h3⟩:=ih U;obtain⟨y,b,c,d,p⟩:=hx k U;refine⟨l++[y],by simp[f],λz hz=>?_,λi z hz=>?_⟩
    ·rcases MY.1 hz with hz | hz
     ·exact h2 z hz
     ·simp at hz;subst hz;exact b
    ·rcases TC i l.length with hi | hi
     ·rw[Ry hi]at hz;exact h3 i z hz
     ·rw[UY hi]at hz
      have g:i - l.length=0:=by
       have:=(Z9.1 hz).1;simp at this;omega
      rw[g]at hz;simp at hz;subst hz;obtain rfl:i=k:=by omega
      exact⟨c,d,p⟩
  obtain⟨l,f,h2,h3⟩:=key len (KN _);have hlm:len<=9223372036854775807:=by unfold maxLen at hm;omega
  refine⟨l,⟨_,Z,TI a,cap,by rw[f],by omega,hm,(λh=>by cases h),λA hA hne=>?_⟩,by omega,h2⟩
  cases hA
  have cell:∀i y,l[i]? = TI y->∃c,r.rel (hp w) y c/\∀j u,c[j]? = TI u->w.cell? ((a.add (i * r.sz)).add j)=TI u:=λi y hy=>by
   obtain⟨c,b,d⟩:=h3 i y hy;obtain⟨_,hlen,hcell⟩:=World.cells?_some d;exact⟨c,b,λj u hu=>by rw[<- hu];exact hcell j (by rw[<- hlen];exact(Z9.1 hu).1)⟩
  have hspot:a.spot=none:=by
   obtain⟨y,l',rfl⟩:=TP hne;obtain⟨c,b,d⟩:=cell 0 y Z;have o:0<c.length:=by rw[r.len b];omega
   have:=World.cell?_spot (d 0 _ (Pa o))
   simpa[Addr.add]using this
  refine⟨hspot,λi y hy=>?_⟩;obtain⟨c,b,d⟩:=cell i y hy;refine⟨c,b,λj u hu=>?_⟩;rw[<- Jt hspot];exact d j u hu
end
end Go.E
end
noncomputable section
namespace Go.Proofs.YtgaljodghpgdmaaGreatDoor.P6
open Go Go.E
theorem one_le{H:Type}(d:DataW H):1<=Rows.uptoBulk d:=by
 cases d with
 | lit l=>cases l <;> simp[Rows.uptoBulk]
 | nil=>simp[Rows.uptoBulk]
 | ptr d=>simp[Rows.uptoBulk]
 | slice elems spare=>simp[Rows.uptoBulk]
 | agg parts=>simp[Rows.uptoBulk]
 | iface t d=>simp[Rows.uptoBulk]
 | map entries=>simp[Rows.uptoBulk]
 | held h=>simp[Rows.uptoBulk]
theorem length_le{H:Type}(l:List (DataW H)):l.length<=Rows.uptoBulkAll l:=by
 induction l with
 | nil=>simp[Rows.uptoBulkAll]
 | cons x r ih=>have:=one_le x;simp only[Rows.uptoBulkAll,PF];omega
def bound{H:Type}{l:List (DataW H)}(hk:Rows.uptoSmall H l=true):Rows.uptoBulkAll l<=1048576:=Z4 hk
def Aep{H:Type}{enc:TypeId×Value->H}{P:Program}{w:World}{base:Nat}{spare:Nat->Bool}{held:Bool}{fuel:Nat}{t e:TypeId}{b:Option Addr}{len cap:Nat}{x:DataW H×List MemPlace}
  (ht:P.underlying t=TI (.slice e)) (h:DataW.trod enc P w base spare held fuel t [.slice b len cap]=TI x):len+1<=Rows.uptoBulk x.1:=by
 rcases Deep.open_slice ht h with ⟨c,rfl⟩ | ⟨a,len',cap',m,n,D,Pl,c,_,_,_,_,rfl,_⟩
 ·simp only[List.cons.injEq,Value.slice.injEq,and_true]at c;obtain⟨_,rfl,_⟩:=c;exact KN _
 ·simp only[List.cons.injEq,Value.slice.injEq,and_true]at c;obtain⟨_,rfl,_⟩:=c;have h2:=length_le ((VO len).map D);rw[Vx,Z3]at h2;simp only[Rows.uptoBulk];omega
def AkX{α:Type}{r:Rp α}{H:PH}{b:Option Addr}{len cap:Nat}{l:List α}(h:As r H (.slice b len cap) l):l.length=len:=by
 obtain⟨_,_,a,_⟩:=h.ex;simp only[Value.slice.injEq]at a;exact a.2.1.symm
end Go.Proofs.YtgaljodghpgdmaaGreatDoor.P6
namespace Go.Proofs.YtgaljodghpgdmaaGreatDoor.P6
open Go Go.E Go.RowKit Go.ChangeShapes Go.WideShapes Go.Deep Go.L
theorem XI{H:Type}{l:List (DataW H)}{x:DataW H}(h:x∈l):Rows.uptoBulk x<=Rows.uptoBulkAll l:=by
 induction l with
 | nil=>cases h
 | cons y l ih=>
  simp only[Rows.uptoBulkAll]
  rcases R7.1 h with rfl | h
  ·omega
  ·have:=ih h;omega
def RB(P:Program)(t:TypeId){α:Type}(r:Rp α)(ok:α->Prop)(k:Nat):Prop:=
 ∀
  {H:Type}{enc:TypeId×Value->H}{w:World}{base:Nat}{spare:Nat->Bool}{held:Bool}{fuel:Nat}{cs:LR}{x:DataW H×List MemPlace},
  Rows.uptoBulk x.1<=k->DataW.trod enc P w base spare held fuel t cs=TI x->∃a,r.rel (hp w) a cs/\ok a
section
variable {P:Program}{t e:TypeId}{k:Nat}
def RB.use{α:Type}{r:Rp α}{ok:α->Prop}(h:RB P t r ok k){H:Type}{enc:TypeId×Value->H}{w:World}{base:Nat}{spare:Nat->Bool}{held:Bool}{fuel:Nat}{cs:LR}{d:DataW H}{p:List MemPlace}
  (hk:Rows.uptoBulk d<=k) (hx:DataW.trod enc P w base spare held fuel t cs=TI (d,p)):∃a,r.rel (hp w) a cs/\ok a:=@h H enc w base spare held fuel cs (d,p) hk hx
def WW{α:Type}{r:Rp α}{ok:α->Prop}(h:Reads P t r ok):RB P t r ok k:=λ_ hx=>h hx
def Aeq(ht:P.underlying t=TI .string):RB P t .st (λl=>l.length<=k) k:=λhk h=>by
 obtain⟨s,rfl,rfl,hs⟩:=DataW.trod_string ht h;simp only[Rows.uptoBulk]at hk;exact⟨s.data.toList,by show[_]=[_];simp,by omega⟩
theorem Nt{α:Type}{r:Rp α}{ok:α->Prop}(ht:P.underlying t=TI (.slice e))(hc:P.cellsOf e=r.sz)(hsz:0<r.sz)(hr:RB P e r ok k):RB P t (.vec r) (λl=>l.length<=k/\∀x∈l,ok x) k:=λ{H enc w base spare held fuel cs x} hk h=>by
 rcases open_slice ht h with ⟨rfl,_⟩ | ⟨a,len,cap,m,n,D,Pl,rfl,hb,hl,hm,rfl,rfl,hel⟩
 ·exact⟨[],⟨_,Z,As.nil _ _⟩,by simp,by simp⟩
 ·have s:len<=(if spare a.block then cap else len):=by split <;> omega
  simp only[Rows.uptoBulk]at hk;have hlk:=length_le ((VO len).map D);rw[Vx,Z3]at hlk
  have hx:∀i,i<len->∃y,ok y/\∃c,r.rel (hp w) y c/\w.cells? base (a.add (i * r.sz)) r.sz=TI c:=λi hi=>by
   obtain⟨cs',g,h2⟩:=hel i U;have hDi:=XI (Rz (f:=D) (PQ.2 hi));obtain⟨y,h3,b⟩:=hr (x:=(D i,Pl i)) (by show Rows.uptoBulk (D i)<=k;omega) h2;rw[hc]at g;exact⟨y,b,cs',h3,g⟩
  have key:∀k,k<=len->∃l:List α,l.length=k/\(∀x∈l,ok x)/\∀i y,l[i]? = TI y->∃c,r.rel (hp w) y c/\w.cells? base (a.add (i * r.sz)) r.sz=TI c:=by
   intro k
   induction k with
   | zero=>intro _;exact⟨[],Z,by simp,by simp⟩
   | succ k ih=>
    intro hk;obtain⟨l,g,h2,h3⟩:=ih U;obtain⟨y,b,c,d,q⟩:=hx k U;refine⟨l++[y],by simp[g],λz hz=>?_,λi z hz=>?_⟩
    ·rcases MY.1 hz with hz | hz
     ·exact h2 z hz
     ·simp at hz;subst hz;exact b
    ·rcases TC i l.length with hi | hi
     ·rw[Ry hi]at hz;exact h3 i z hz
     ·rw[UY hi]at hz
      have o:i - l.length=0:=by
       have:=(Z9.1 hz).1;simp at this;omega
      rw[o]at hz;simp at hz;subst hz;obtain rfl:i=k:=by omega
      exact⟨c,d,q⟩
  obtain⟨l,g,h2,h3⟩:=key len (KN _);refine⟨l,⟨_,Z,TI a,cap,by rw[g],by omega,hm,(λh=>by cases h),λA hA hne=>?_⟩,by omega,h2⟩
  cases hA
  have cell:∀i y,l[i]? = TI y->∃c,r.rel (hp w) y c/\∀j u,c[j]? = TI u->w.cell? ((a.add (i * r.sz)).add j)=TI u:=λi y hy=>by
   obtain⟨c,b,d⟩:=h3 i y hy;obtain⟨_,hlen,hcell⟩:=World.cells?_some d;exact⟨c,b,λj u hu=>by rw[<- hu];exact hcell j (by rw[<- hlen];exact(Z9.1 hu).1)⟩
  have hspot:a.spot=none:=by
   obtain⟨y,l',rfl⟩:=TP hne;obtain⟨c,b,d⟩:=cell 0 y Z;have p:0<c.length:=by rw[r.len b];omega
   have:=World.cell?_spot (d 0 _ (Pa p))
   simpa[Addr.add]using this
  refine⟨hspot,λi y hy=>?_⟩;obtain⟨c,b,d⟩:=cell i y hy;refine⟨c,b,λj u hu=>?_⟩;rw[<- Jt hspot];exact d j u hu
theorem Ajl{f0 f1 f2 f3 f4 f5 f6:Field}{tw tb tp te tg:TypeId}(ht:P.underlying t=TI (.struct #[f0,f1,f2,f3,f4,f5,f6]))(hc:P.cellsOf t=7)
  (b:f0.offset=0) (c:f1.offset=1) (e:f2.offset=2) (g:f3.offset=3) (j:f4.offset=4) (l:f5.offset=5) (m:f6.offset=6)
  (o:P.underlying f0.type=TI (.int .i64)) (q:f1.type=tw) (s:P.underlying f2.type=TI .string) (u:f3.type=tb) (u4:P.underlying f4.type=TI (.int .i64)) (u5:P.underlying f5.type=TI (.int .i64)) (e6:f6.type=tp)
  (c0:P.cellsOf f0.type=1) (c1:P.cellsOf tw=1) (c2:P.cellsOf f2.type=1) (c3:P.cellsOf tb=1) (c4:P.cellsOf f4.type=1) (c5:P.cellsOf f5.type=1) (c6:P.cellsOf tp=1)
  (uw:P.underlying tw=TI (.slice tg)) (ug:P.underlying tg=TI .string) (cg:P.cellsOf tg=1) (ub:P.underlying tb=TI (.slice te)) (ue:P.underlying te=TI (.int .u8)) (ce:P.cellsOf te=1) (up:P.underlying tp=TI (.slice t)) (B:Nat) (k:Nat) (hB:k<=B):RB P t .AN (λv=>∀d,V4 B d v) k:=by
 induction k with
 | zero=>
  intro H enc w base spare held fuel cs x hk h;have:=one_le x.1;omega
 | succ k ih0=>
  intro H enc w base spare held fuel cs x hk h;subst q;subst u;subst e6;obtain⟨xs,n,rfl,rfl,hl,hlen,hfs⟩:=DataW.trod_struct ht h;have ih:RB P t .AN (λv=>∀d,V4 B d v) k:=@ih0 U;simp only[Rows.uptoBulk]at hk
  have hb:∀y∈xs,Rows.uptoBulk y.1<=k:=λy hy=>by
   have:=XI (Rz (f:=λz:DataW H×List MemPlace=>z.1) hy);omega
  have ax:xs.length=7:=by simpa using hlen
  have get:∀(i:Nat) (f:Field),(#[f0,f1,f2,f3,f4,f5,f6]:Array Field)[i]? = TI f->i<7->P.cellsOf f.type=1->f.offset=i->∃y:DataW H×List MemPlace,Rows.uptoBulk y.1<=k/\DataW.trod enc P w base spare held n f.type ((cs.drop i).take 1)=TI y:=λi f hf hi hcf hof=>by
   have a:=hfs i f hf;rw[hcf,hof,Pa (by omega:i<xs.length)]at a;exact⟨_,hb _ (Rs _),a⟩
  obtain⟨y0,b0,t0⟩:=get 0 f0 Z U c0 b;obtain⟨y1,b1,t1⟩:=get 1 f1 Z U c1 c;obtain⟨y2,b2,t2⟩:=get 2 f2 Z U c2 e;obtain⟨y3,b3,t3⟩:=get 3 f3 Z U c3 g;obtain⟨y4,b4,t4⟩:=get 4 f4 Z U c4 j;obtain⟨y5,b5,t5⟩:=get 5 f5 Z U c5 l;obtain⟨y6,b6,t6⟩:=get 6 f6 Z U c6 m;obtain⟨a0,r0,_⟩:=WW (k:=k) (QC o) b0 t0;obtain⟨a1,r1,q1,q1'⟩:=Nt uw cg Y5 (Aeq (k:=k) ug) b1 t1;obtain⟨a2,r2,q2⟩:=Aeq (k:=k) s b2 t2;obtain⟨a3,r3,q3,_⟩:=Nt ub ce Y5 (WW (k:=k) (U7 ue)) b3 t3;obtain⟨a4,r4,q4⟩:=WW (k:=k) (QC u4) b4 t4;obtain⟨a5,r5,q5⟩:=WW (k:=k) (QC u5) b5 t5;obtain⟨a6,r6,q6,q6'⟩:=Nt up (r:=.AN) hc Y5 ih b6 t6;refine⟨.mk a0 a1 a2 a3 a4 a5 a6,Rp.Gu ?_,λd=>?_⟩
  ·have hcs:cs=(cs.drop 0).take 1++((cs.drop 1).take 1++((cs.drop 2).take 1++((cs.drop 3).take 1++((cs.drop 4).take 1++((cs.drop 5).take 1++(cs.drop 6).take 1))))):=by
    have h7:cs.length=7:=by rw[hl,hc]
    match cs,h7 with
    | [_,_,_,_,_,_,_],_=>rfl
   exact⟨_,_,hcs,r0,_,_,Z,r1,_,_,Z,r2,_,_,Z,r3,_,_,Z,r4,_,_,Z,r5,r6⟩
  ·cases d with
   | zero=>exact trivial
   | succ d=>exact⟨by show a1.length<=B;omega,by show a2.length<=B;omega,by show a3.length<=B;omega,by show a6.length<=B;omega,λx hx=>by have:=q1' x hx;omega,q4,q5,λp hp=>q6' p hp d⟩
end
section
variable {P:Program}{t e:TypeId}{k:Nat}
theorem AkY{f0 f1 f2 f3 f4:Field}{tb ts tp te:TypeId}(ht:P.underlying t=TI (.struct #[f0,f1,f2,f3,f4]))(hc:P.cellsOf t=5)
  (b:f0.offset=0) (c:f1.offset=1) (e:f2.offset=2) (g:f3.offset=3) (j:f4.offset=4)
  (l:P.underlying f0.type=TI (.int .i64)) (m:P.underlying f1.type=TI (.int .i64)) (o:f2.type=tb) (q:f3.type=ts) (s:f4.type=tp)
  (u:P.cellsOf f0.type=1) (c1:P.cellsOf f1.type=1) (c2:P.cellsOf tb=1) (c3:P.cellsOf ts=1) (c4:P.cellsOf tp=1)
  (ub:P.underlying tb=TI (.slice te)) (ue:P.underlying te=TI (.int .u8)) (ce:P.cellsOf te=1) {tg:TypeId} (us:P.underlying ts=TI (.slice tg)) (ug:P.underlying tg=TI .string) (cg:P.cellsOf tg=1) (up:P.underlying tp=TI (.slice t)) (B:Nat) (k:Nat) (hB:k<=B):RB P t .tree (λv=>∀d,Sm B d v) k:=by
 induction k with
 | zero=>
  intro H enc w base spare held fuel cs x hk h;have:=one_le x.1;omega
 | succ k ih0=>
  intro H enc w base spare held fuel cs x hk h;subst o;subst q;subst s;obtain⟨xs,n,rfl,rfl,hl,hlen,hfs⟩:=DataW.trod_struct ht h;have ih:RB P t .tree (λv=>∀d,Sm B d v) k:=@ih0 U;simp only[Rows.uptoBulk]at hk
  have hb:∀y∈xs,Rows.uptoBulk y.1<=k:=λy hy=>by
   have:=XI (Rz (f:=λz:DataW H×List MemPlace=>z.1) hy);omega
  have an:xs.length=5:=by simpa using hlen
  have get:∀(i:Nat) (f:Field),(#[f0,f1,f2,f3,f4]:Array Field)[i]? = TI f->i<5->P.cellsOf f.type=1->f.offset=i->∃y:DataW H×List MemPlace,Rows.uptoBulk y.1<=k/\DataW.trod enc P w base spare held n f.type ((cs.drop i).take 1)=TI y:=λi f hf hi hcf hof=>by
   have a:=hfs i f hf;rw[hcf,hof,Pa (by omega:i<xs.length)]at a;exact⟨_,hb _ (Rs _),a⟩
  obtain⟨y0,b0,t0⟩:=get 0 f0 Z U u b;obtain⟨y1,b1,t1⟩:=get 1 f1 Z U c1 c;obtain⟨y2,b2,t2⟩:=get 2 f2 Z U c2 e;obtain⟨y3,b3,t3⟩:=get 3 f3 Z U c3 g;obtain⟨y4,b4,t4⟩:=get 4 f4 Z U c4 j;obtain⟨a0,r0,q0⟩:=WW (k:=k) (QC l) b0 t0;obtain⟨a1,r1,q1⟩:=WW (k:=k) (QC m) b1 t1;obtain⟨a2,r2,q2,_⟩:=Nt ub ce Y5 (WW (k:=k) (U7 ue)) b2 t2;obtain⟨a3,r3,q3,q3'⟩:=Nt us cg Y5 (Aeq (k:=k) ug) b3 t3;obtain⟨a4,r4,q4,q4'⟩:=Nt up (r:=.tree) hc Y5 ih b4 t4;refine⟨.mk a0 a1 a2 a3 a4,Rp.O6 ?_,λd=>?_⟩
  ·have hcs:cs=(cs.drop 0).take 1++((cs.drop 1).take 1++((cs.drop 2).take 1++((cs.drop 3).take 1++(cs.drop 4).take 1))):=by
    have h5:cs.length=5:=by rw[hl,hc]
    match cs,h5 with
    | [_,_,_,_,_],_=>rfl
   exact⟨_,_,hcs,r0,_,_,Z,r1,_,_,Z,r2,_,_,Z,r3,r4⟩
  ·cases d with
   | zero=>exact trivial
   | succ d=>exact⟨by show a2.length<=B;omega,by show a3.length<=B;omega,by show a4.length<=B;omega,λx hx=>by have:=q3' x hx;omega,q0,q1,λp hp=>q4' p hp d⟩
theorem Am4{f0 f1:Field}{tb tv te:TypeId}{ok:Pv->Prop}(ht:P.underlying t=TI (.struct #[f0,f1]))(hc:P.cellsOf t=6)(c:f0.offset=0)(e:f1.offset=1)(g:f0.type=tb)(i:f1.type=tv)(j:P.cellsOf tb=1)(c1:P.cellsOf tv=5)
  (ub:P.underlying tb=TI (.slice te)) (ue:P.underlying te=TI (.int .u8)) (ce:P.cellsOf te=1) (hv:RB P tv .tree ok k):RB P t (.pair (.vec .byte) .tree) (λd=>d.1.length<=k/\ok d.2) k:=λ{H enc w base spare held fuel cs x} hk h=>by
 subst g;subst i;obtain⟨xs,n,rfl,rfl,hl,hlen,hfs⟩:=DataW.trod_struct ht h;simp only[Rows.uptoBulk]at hk
 have hb:∀y∈xs,Rows.uptoBulk y.1<=k:=λy hy=>by
  have:=XI (Rz (f:=λz:DataW H×List MemPlace=>z.1) hy);omega
 have p:xs.length=2:=by simpa using hlen
 have a:=hfs 0 f0 Z;have b:=hfs 1 f1 Z;rw[j,c,Pa (by omega:0<xs.length)]at a;rw[c1,e,Pa (by omega:1<xs.length)]at b;obtain⟨a0,r0,l,_⟩:=Nt ub ce Y5 (WW (k:=k) (U7 ue)) (hb _ (Rs _)) a;obtain⟨a1,r1,m⟩:=hv (hb _ (Rs _)) b;refine⟨(a0,a1),⟨(cs.drop 0).take 1,(cs.drop 1).take 5,?_,r0,r1⟩,l,m⟩;have o:cs.length=6:=by rw[hl,hc]
 match cs,o with
 | [_,_,_,_,_,_],_=>rfl
end
end Go.Proofs.YtgaljodghpgdmaaGreatDoor.P6
end
noncomputable section
namespace Go.Proofs.YtgaljodghpgdmaaGreatDoor
open Go Go.E Go.Shelf Go.Lib
def AnE:Ren:=⟨λn=>n,fun | 119=>318 | 138=>320 | 139=>321 | n=>n,fun | 3=>1 | 4=>2 | n=>n⟩
def AkZ:U8Types Tryz.prog AnE:=⟨Tryz.underlying5,Tryz.underlying318,Tryz.underlying320,Tryz.underlying321⟩
def GU : List (String × DataW Unit) := [("math/bits.deBruijn32tab", Rows.laid_math_bits_deBruijn32tab), ("math/bits.deBruijn64tab", Rows.laid_math_bits_deBruijn64tab), ("internal/strconv.uint64pow10", Rows.laid_internal_strconv_uint64pow10), ("unicode/utf8.acceptRanges", Rows.laid_unicode_utf8_acceptRanges), ("strconv.ErrRange", Rows.laid_strconv_ErrRange), ("strconv.ErrSyntax", Rows.laid_strconv_ErrSyntax), ("unicode/utf8.first", Rows.laid_unicode_utf8_first)]
def star : "*" ++ "errors.errorString" = "*errors.errorString" := by decide
def Ajm (u : TypeId) (h : Tryz.prog.typeName? 3 u = some "*errors.errorString") : u = 354 :=
 typeName_ptr_named (nm := "errors.errorString") (by rw[star]; kernel_rfl) (by kernel_rfl) (by decide) u (by rw[star]; exact h)
theorem Am5{W w:World}{n:String}{cs:Array Value}(hs:Le (hp W) (hp w))(h:W.var? Tryz.prog n=TI cs):w.var? Tryz.prog n=TI cs:=by
 unfold World.var? at h ⊢
 cases hg:Tryz.prog.globalNamed n with
 | none=>rw[hg]at h;cases h
 | some g=>
  rw[hg]at h;simp only[Wo]at h ⊢
  cases ho:W.heap[g]? with
  | none=>rw[ho]at h;cases h
  | some o=>rw[ho]at h;rw[show w.heap[g]? = TI o from hs g o ho];exact h
def WX{W:World}{n:String}{g:Nat}{v:Value}(hg:Tryz.prog.globalNamed n=TI g)(h:W.var? Tryz.prog n=TI #[v]):GC (hp W) ⟨g,0,none⟩=TI v:=by
 rw[AbJ,World.var?_cell hg h 0]
 rfl
def AbC{W:World}(h:laidMetH Tryz.prog GU W):E1 (hp W):=by
 rw[MakeChecks.laidMetH_plain _ _ _ SF]at h;have i:Rows.laid_unicode_utf8_first=firstData:=by kernel_rfl
 have j:(Rows.laid_unicode_utf8_acceptRanges:DataW Unit)=acceptData:=by kernel_rfl
 have k:(Rows.laid_internal_strconv_uint64pow10:DataW Unit)=tabData .u64 pow10Tab:=by kernel_rfl
 have b := laidMet.reads h (n := "unicode/utf8.acceptRanges") (d := Rows.laid_unicode_utf8_acceptRanges) (by simp[GU])
 have h2 := laidMet.reads h (n := "unicode/utf8.first") (d := Rows.laid_unicode_utf8_first) (by simp[GU])
 rw[j]at b;rw[i]at h2;have ht := utf8Tabs_of_readsT AkZ ⟨by kernel_rfl, by kernel_rfl, by kernel_rfl, by kernel_rfl, by kernel_rfl, by kernel_rfl, by kernel_rfl⟩ h2 b;have hT : laidMet Tryz.prog (("internal/strconv.uint64pow10", tabData .u64 pow10Tab) :: _) W := k ▸ h.tail.tail
 have a : TabIs Tryz.prog W "internal/strconv.uint64pow10" .u64 pow10Tab := tabIs_of_head (g := 3) (t := 329) (e := 177) (n := 20) (by kernel_rfl) (by kernel_rfl) Tryz.underlying329 Tryz.underlying177 (by kernel_rfl) (by kernel_rfl) hT
 obtain⟨a1,l,c,_⟩:=laid_sentinel (g:=5) h.tail.tail.tail.tail SF SF Tryz.underlying210 Ajm Tryz.underlying354 Tryz.underlying356 Z Z Tryz.underlying9 SF SF;obtain⟨a2,m,f,_⟩:=laid_sentinel (g:=4) h.tail.tail.tail.tail.tail SF SF Tryz.underlying210 Ajm Tryz.underlying354 Tryz.underlying356 Z Z Tryz.underlying9 SF SF;exact⟨⟨ht.1,ht.2⟩,λw hw=>Am5 hw a,⟨_,_,WX SF f⟩,⟨_,_,WX SF c⟩⟩
noncomputable def Ww(os:Os):World:=
 let N:=(World.settled Tryz.prog os).heap.size
 let a:=World.holding Tryz.prog os ⟨#[.cells #[.string ⟨#[118,97,108,117,101,32,111,117,116,32,111,102,32,114,97,110,103,101]⟩] 356,.cells #[.string ⟨#[105,110,118,97,108,105,100,32,115,121,110,116,97,120]⟩] 356],#[],[]⟩
 let put (h:Array Obj) (g:Nat) (cs:Array Value):Array Obj:=h.modify g fun
  | .cells _ t frozen=>.cells cs t frozen
  | o=>o
 let b:=put (put a.heap 5 #[.iface 354 (.pointer (TI ⟨N,0,none⟩))]) 4 #[.iface 354 (.pointer (TI ⟨N+1,0,none⟩))]
 let c:=put (put b 1 (Lib.firstTab.map λz=>Value.int .u8 z).toArray) 2 ((VO 16).flatMap λi=>[Value.int .u8 (Lib.accLo i),Value.int .u8 (Lib.accHi i)]).toArray
 let h2:=put c 3 (pow10Tab.map (Value.int .u64)).toArray
 let nums (d:DataW Unit):Array Value:=match d with
  | .agg l=>(l.map fun | .lit (.int k z)=>Value.int k z | _=>.int .u8 0).toArray
  | _=>#[]
 let h3:=put (put h2 6 (nums Rows.laid_math_bits_deBruijn32tab)) 7 (nums Rows.laid_math_bits_deBruijn64tab)
 {a with heap:=h3}
set_option maxRecDepth 100000 in
def Ajn(os:Os)(args:Array Value):laidMetH Tryz.prog GU ((Ww os).forCall (λ_ _=>0) ⟨#[],args,[]⟩).memory:=
 laidMetH_of_parts3 (fuel:=12) (laidMet_of_run' 12 SF SF) SF SF
end Go.Proofs.YtgaljodghpgdmaaGreatDoor
end
