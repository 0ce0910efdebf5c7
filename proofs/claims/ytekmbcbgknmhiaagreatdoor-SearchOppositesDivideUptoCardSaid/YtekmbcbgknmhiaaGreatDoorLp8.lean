/- Texts of a claim, merged. -/
import Derived.Test.YtekmbcbgknmhiaaGreatDoorLp7
import Derived.KernelRfl
import Derived.ProofKit
import Derived.OpenShut
import Derived.Carry
import Derived.Deep.Slices
import Derived.Test.YtekmbcbgknmhiaaGreatDoorRows
import Derived.Lib.LaidU8T
import Derived.Lib.LaidTab
import Derived.Stop.LaidErr
import Derived.LaidMore
import Derived.MakeChecks
import Derived.LaidHandle
open Option renaming bind->Qq4,bind_some->Qq6
open List renaming getD_eq_getElem?_getD->Qq9,getElem?_eq_getElem->Qzw,length_map->Qzk,length_cons->Qzj,range->Qzv,getElem?_eq_some_iff->QzC,mem_cons->Qzy,mem_singleton->QzX,mem_append->Qze,length_nil->Qzf,length_take->QzK,append_nil->QzZ,getElem_mem->Qxx,mem_map->Qz4,getElem?_map->Qxv,mem_range->Qz7,length_range->QxB,countP_cons->Qx3,take_length->Qx4,countP_append->Qke,range_succ->Qx2,drop_zero->QxE,mem_map_of_mem->QkX,getElem?_append_left->Qkf,countP_congr->Qk1,countP_singleton->Qk7,countP_le_length->Qk8,mem_filter->Qk0,getElem?_append_right->QkJ,exists_cons_of_ne_nil->QkE
open Int renaming toNat_natCast->Qq8
open Prod renaming fst->Qq5,snd->QzQ
open Nat renaming le_refl->Qzx,zero_le->Qz6,lt_or_ge->Qxk,add_sub_cancel->Qkx
open Bool renaming or_eq_true->Qz9,false_ne_true->Qkj
set_option linter.unusedVariables false
set_option linter.unusedSimpArgs false
noncomputable section
namespace Go.L
open Go
theorem Afc(c d:UInt8)(p l:List UInt8){k:Nat}(a:1<=k)(h2:k<=2):cls (c::p) (d::l)<k↔d.toNat<c.toNat\/d.toNat=c.toNat/\cls p l<k:=by
 have hle:cls p l<=2:=by unfold cls;split;omega;split <;> omega
 have hless:Op.bytesLess (d::l) (c::p)=true↔d.toNat<c.toNat\/d.toNat=c.toNat/\Op.bytesLess l p=true:=by
  rw [<- Pa,<- Pa];exact V8 d c l p
 unfold cls at hle ⊢;rw [V7]
 by_cases hd:d=c
 ·subst hd;simp only [decide_true,Bool.true_and]
  by_cases hp:pre l p=true
  ·rw [if_pos hp,if_pos hp];simp
  ·rw [if_neg hp,if_neg hp]
   by_cases hl:Op.bytesLess l p=true
   ·rw [if_pos hl,if_pos (hless.2 (.inr ⟨Z,hl⟩))];simp
   ·rw [if_neg hl,if_neg (fun h=>by rcases hless.1 h with h | h;omega;exact hl h.2)];simp
 ·have hne:d.toNat≠c.toNat:=fun e=>hd (UInt8.toNat.inj e);rw [decide_eq_false hd,Bool.false_and,if_neg Qqc]
  by_cases hl:d.toNat<c.toNat
  ·rw [if_pos (hless.2 (.inl hl))];omega
  ·rw [if_neg (fun h=>by rcases hless.1 h with h | h;exact hl h;exact hne h.1)];omega
def OA(a p:List UInt8)(k:Nat):Nat:=(Qzv (a.length+1)).countP fun q=>decide (cls p (a.drop q)<k)
theorem AgK(a p:List UInt8)(k:Nat){r:Nat}(hr:r<(op a).length):cls p (a.drop (op a)[r])<k↔r<OA a p k:=by
 have hasc:((op a).map fun x=>cls p (a.drop x)).Pairwise (·<=·):=by
  rw [List.pairwise_map];exact(Tw a).imp fun h=>Zc (of_decide_eq_true h)
 have h:=Rj _ k r hasc (by rw [Qzk];exact hr);rw [List.countP_map,(SE a).countP_eq] at h
 have hg:((op a).map fun x=>cls p (a.drop x)).getD r 0=cls p (a.drop (op a)[r]):=by
  rw [Qq9,Qxv,Qzw hr];rfl
 rw [hg] at h;exact h
theorem Afd(a p:List UInt8)(k:Nat):OA a p k<=a.length+1:=by
 have:=Qk8 (p:=fun q=>decide (cls p (a.drop q)<k)) (l:=Qzv (a.length+1));rw [QxB] at this;exact this
theorem VZ(a p:List UInt8):OA a p 1<=OA a p 2:=List.countP_mono_left fun q _ h=>decide_eq_true (by have:=of_decide_eq_true h;omega)
theorem AbC(a:List UInt8):OA a [] 1=0/\OA a [] 2=a.length+1:=by
 have h:∀ q,cls [] (a.drop q)=1:=fun q=>by unfold cls;rw [pre_nil,if_pos Z]
 unfold OA
 constructor
 ·exact List.countP_eq_zero.2 (fun q _=>by rw [h];decide)
 ·rw [List.countP_eq_length.2 (fun q _=>by rw [h];decide),QxB]
theorem Wa(a:List UInt8)(f:Nat->Bool)(g:Nat->Bool)(h:∀ r (hr:r<(op a).length),f r=g (op a)[r]):(Qzv (sym a).length).countP f=(Qzv (a.length+1)).countP g:=by
 rw [<- Xa a g];apply Qk1;intro r hr;have hr:r<(op a).length:=by rw [Fj,<- EZ];exact Qz7.1 hr
 rw [h r hr,opD hr]
def QN(s:List Int)(c:Int)(k:Nat):Nat:=(Qzv k).countP fun r=>decide (0<=s.getD r Qq2/\s.getD r Qq2<c)
def Ot(s:List Int)(c:Int)(f k:Nat):Nat:=(Qzv k).countP fun r=>decide (s.getD r Qq2=c/\r<f)
theorem T9{α:Type}(f g h:α->Bool)(e:∀ x,h x=(f x||g x))(d:∀ x,f x=true->g x=false):∀ l:List α,l.countP h=l.countP f+l.countP g
 | []=>rfl
 | x::l=>by
  rw [Qx3,Qx3,Qx3,T9 f g h e d l,e x]
  cases hf:f x with
  | false=>simp;omega
  | true=>rw [d x hf];simp;omega
theorem SO(a p:List UInt8)(c:UInt8){k:Nat}(b:1<=k)(h2:k<=2):1+QN (sym a) (c.toNat:Int) (sym a).length+Ot (sym a) (c.toNat:Int) (OA a p k) (sym a).length=OA a (c::p) k:=by
 unfold QN Ot
 rw [Wa a _ (fun q=>decide (1<=q/\ID a q<(c.toNat:Int))) (fun r hr=>by rw [MN a hr];exact decide_eq_decide.2 (by rw [N4])),
  Wa a _ (fun q=>decide (ID a q=(c.toNat:Int)/\cls p (a.drop q)<k)) (fun r hr=>by rw [MN a hr];exact decide_eq_decide.2 (by rw [AgK a p k hr])),
  Nat.add_assoc,<- T9 _ _ (fun q=>decide (1<=q/\ID a q<(c.toNat:Int))||decide (ID a q=(c.toNat:Int)/\cls p (a.drop q)<k)) (fun _=>Z) (fun q h=>by
   have:=of_decide_eq_true h;exact decide_eq_false U)]
 have eb:OA a (c::p) k=(Qzv a.length).countP (fun q=>decide (cls (c::p) (a.drop q)<k))+[a.length].countP (fun q=>decide (cls (c::p) (a.drop q)<k)):=by
  unfold OA;rw [Qx2,Qke]
 rw [eb]
 have d:(decide (1<=0/\ID a 0<(c.toNat:Int))||decide (ID a 0=(c.toNat:Int)/\cls p (a.drop 0)<k))=false:=by
  have:ID a 0 = -1:=by unfold ID;rw [if_pos Z]
  rw [this,decide_eq_false U,decide_eq_false U];rfl
 rw [SF a.length (fun q=>decide (1<=q/\ID a q<(c.toNat:Int))||decide (ID a q=(c.toNat:Int)/\cls p (a.drop q)<k)) d]
 have e:(Qzv a.length).countP (fun q=>decide (1<=q+1/\ID a (q+1)<(c.toNat:Int))||decide (ID a (q+1)=(c.toNat:Int)/\cls p (a.drop (q+1))<k))=(Qzv a.length).countP (fun q=>decide (cls (c::p) (a.drop q)<k)):=by
  apply Qk1;intro q hq;have hq:=Qz7.1 hq;have hd:=Lo (a:=a) (q:=q+1) U U;rw [Qkx] at hd;rw [hd];simp only [Qz9,decide_eq_true_eq];rw [Afc c _ p _ b h2];unfold ID;rw [if_neg U,Qkx];omega
 have f:decide (cls (c::p) (a.drop a.length)<k)=true:=by
  rw [List.drop_length];have:cls (c::p) []=0:=by unfold cls;rw [SC];rfl
  rw [this];exact decide_eq_true U
 rw [e,Qk7,f,if_pos Z];omega
end Go.L
namespace Go.Proofs.YtekmbcbgknmhiaaGreatDoor
open Go Go.L
theorem AgL{s:List Int}(hl:s.length<=2049)(j:∀ r,r<s.length->-1<=s.getD r Qq2){c:Int}(hc:0<=c)(f t:Nat):F7 s c (f:Int) (t:Int)=some (((1+QN s c s.length+Ot s c f s.length:Nat):Int),((1+QN s c s.length+Ot s c t s.length:Nat):Int)):=by
 have e:∀ k,QN s c k<=k:=fun k=>by have:=Qk8 (p:=fun r=>decide (0<=s.getD r Qq2/\s.getD r Qq2<c)) (l:=Qzv k);rw [QxB] at this;exact this
 have a:∀ f k,Ot s c f k<=k:=fun f k=>by have:=Qk8 (p:=fun r=>decide (s.getD r Qq2=c/\r<f)) (l:=Qzv k);rw [QxB] at this;exact this
 have s1:∀ k,QN s c (k+1)=QN s c k+if 0<=s.getD k Qq2/\s.getD k Qq2<c then 1 else 0:=fun k=>by
  unfold QN;rw [Qx2,Qke,Qk7];simp only [decide_eq_true_eq]
 have g:∀ f k,Ot s c f (k+1)=Ot s c f k+if s.getD k Qq2=c/\k<f then 1 else 0:=fun f k=>by
  unfold Ot;rw [Qx2,Qke,Qk7];simp only [decide_eq_true_eq]
 refine Fb (b:=Cv s c f t) (fun k=>(((1+QN s c k:Nat):Int),(Ot s c f k:Int),(Ot s c t k:Int),(k:Int))) s.length (fun k hk=>?_) ?_ 0
 ·have d:∀ x y:Nat,x<=5000->y<=5000->BR s c (t:Int) (Ot s c t k:Int) (k:Int) (x:Int) (y:Int)=some (.inl ((x:Int),(y:Int),(Ot s c t (k+1):Int),((k+1:Nat):Int))):=fun x y hx hy=>by
   unfold BR;have:=a t k;rw [Qq8,g t k]
   by_cases h:s.getD k Qq2=c/\k<t
   ·rw [if_pos U,if_pos h,Ad (by constructor <;> omega),Ad (by constructor <;> omega)];rfl
   ·rw [if_neg U,if_neg h,Ad (by constructor <;> omega)];rfl
  have m:=e k;have n:=a f k;have o:=j k hk;unfold Cv;simp only;rw [if_pos U,Ad U,Qq8,s1 k,g f k]
  by_cases i:s.getD k Qq2 = -1
  ·rw [if_pos i,d _ _ U U,if_neg U,if_neg U];rfl
  ·rw [if_neg i]
   by_cases h2:s.getD k Qq2<c
   ·rw [if_pos h2,Ad (by constructor <;> omega),show((1+QN s c k:Nat):Int)+1=((1+QN s c k+1:Nat):Int) by omega,d _ _ U U,if_pos U,if_neg U];rfl
   ·rw [if_neg h2,if_neg (show ¬ (0<=s.getD k Qq2/\s.getD k Qq2<c) by omega)]
    by_cases h3:s.getD k Qq2=c/\k<f
    ·rw [if_pos U,Ad (by constructor <;> omega),show(Ot s c f k:Int)+1=((Ot s c f k+1:Nat):Int) by omega,d _ _ U U,if_pos h3];rfl
    ·rw [if_neg U,d _ _ U U,if_neg h3];rfl
 ·have m:=e s.length;have n:=a f s.length;have o:=a t s.length;unfold Cv;simp only;rw [if_neg U];unfold Es;rw [Ad (by constructor <;> omega),Ad (by constructor <;> omega)]
  rfl
theorem SP{a p:List UInt8}(h:a.length<=2048)(hp:p.length<=64):∀ k,k<=p.length->
  ∃ f t:Nat,Gd (idx a) p ((OA a (p.drop k) 1:Int),(OA a (p.drop k) 2:Int),(k:Int) - 1)=some ((f:Int),(t:Int),(0,0))/\f<=t/\t<=a.length+1/\(f=t->OA a p 1=OA a p 2)/\(f<t->f=OA a p 1/\t=OA a p 2)
 | 0,_=>by
  refine⟨OA a p 1,OA a p 2,AQ (b:=BV (idx a) p) (m:=some _) ?_,VZ a p,Afd a p 2,id,fun _=>⟨Z,Z⟩⟩;unfold BV;simp only;have:=VZ a p;rw [if_neg U,QxE];unfold E8;rw [show max (OA a p 1:Int) (OA a p 2:Int)=(OA a p 2:Int) by omega]
 | k+1,hk=>by
  have hm:=VZ a (p.drop (k+1))
  by_cases hlt:OA a (p.drop (k+1)) 1<OA a (p.drop (k+1)) 2
  ·have hd:p.drop k=p.getD k Qq2::p.drop (k+1):=by
    have:=Lo (a:=p) (q:=k+1) U hk;rw [Qkx] at this;exact this
   have hb:BV (idx a) p ((OA a (p.drop (k+1)) 1:Int),(OA a (p.drop (k+1)) 2:Int),((k+1:Nat):Int) - 1)=some (.inl ((OA a (p.drop k) 1:Int),(OA a (p.drop k) 2:Int),(k:Int) - 1)):=by
    unfold BV;simp only;have c:(((k+1:Nat):Int) - 1).toNat=k:=by omega
    have d:(idx a).1=sym a:=Z;rw [if_pos U,Ad U,c,d,AgL (by rw [EZ];omega) (fun r hr=>by rw [MN a (by rw [Fj,<- EZ];exact hr)];unfold ID;split <;> omega) U,Qq6,Ad (by constructor <;> omega),SO a _ _ U U,SO a _ _ U U,<- hd]
    congr 4;omega
   unfold Gd;rw [Bg hb];exact SP h hp k U
  ·have he:OA a (p.drop (k+1)) 1=OA a (p.drop (k+1)) 2:=by omega
   have hnone:∀ j,j<=k+1->OA a (p.drop (k+1 - j)) 1=OA a (p.drop (k+1 - j)) 2:=by
    intro j
    induction j with
    | zero=>intro _;exact he
    | succ j ih=>
     intro hj;have ih:=ih U
     have hd:p.drop (k+1 - (j+1))=p.getD (k+1 - (j+1)) Qq2::p.drop (k+1 - j):=by
      have:=Lo (a:=p) (q:=k+1 - j) U U;rw [show k+1 - (j+1)=k+1 - j - 1 by omega];exact this
     rw [hd,<- SO a _ _ U U,<- SO a _ _ U U,ih]
   have hz:=hnone (k+1) U;rw [Nat.sub_self,QxE] at hz;refine⟨OA a (p.drop (k+1)) 1,OA a (p.drop (k+1)) 1,AQ (b:=BV (idx a) p) (m:=some _) ?_,Qzx _,Afd a _ 1,fun _=>hz,fun h=>absurd h U⟩;unfold BV;simp only;rw [if_neg U];unfold E8;rw [<- he,Int.max_self]
def pfF(p:List UInt8):Int×Int:=if p.length=0 then(10,-1) else if p.length<=64 then(0,0) else(3,-1)
theorem AgM{a p:List UInt8}(h:a.length<=2048):∃ f t:Nat,EX (idx a) p=some ((f:Int),(t:Int),pfF p)/\f<=t/\t<=a.length+1/\(pfF p≠(0,0)->f=0/\t=0)/\(pfF p=(0,0)->(f=t->OA a p 1=OA a p 2)/\(f<t->f=OA a p 1/\t=OA a p 2)):=by
 unfold EX pfF
 by_cases c:p.length=0
 ·rw [if_pos U,if_pos c];exact⟨0,0,Z,Qzx _,Qz6 _,fun _=>⟨Z,Z⟩,fun e=>absurd e Qqc⟩
 ·rw [if_neg U,if_neg c]
  by_cases b:p.length<=64
  ·rw [if_neg U,if_pos b]
   have e:D0 (idx a).1=some ((a.length+1:Nat):Int):=by
    unfold D0;rw [show(idx a).1.length=a.length+1 from EZ a]
    congr 1;omega
   rw [e,Qq6,Ad (by constructor <;> omega)];obtain⟨f,t,d,g,i,j,k⟩:=SP h b p.length (Qzx _);rw [List.drop_length,(AbC a).1,(AbC a).2] at d;exact⟨f,t,d,g,i,fun e=>absurd Z e,fun _=>⟨j,k⟩⟩
  ·rw [if_pos U,if_neg b];exact⟨0,0,Z,Qzx _,Qz6 _,fun _=>⟨Z,Z⟩,fun e=>absurd e Qqc⟩
end Go.Proofs.YtekmbcbgknmhiaaGreatDoor
end
noncomputable section
namespace Go.L
open Go
def Afe(a p:List UInt8)(k:Nat):List Nat:=(Qzv k).filter fun q=>pre (a.drop q) p
def occ(a p:List UInt8):List Int:=(Afe a p a.length).map fun q:Nat=>(q:Int)
theorem AgN(p l:List UInt8):decide (cls p l<2)=(decide (cls p l<1)||pre l p):=by
 unfold cls
 by_cases hp:pre l p=true
 ·rw [if_pos hp,hp];decide
 ·rw [if_neg hp];have:pre l p=false:=by simpa using hp
  rw [this]
  split <;> decide
theorem AgO{p l:List UInt8}:pre l p=decide (¬ cls p l<1/\cls p l<2):=by
 unfold cls
 by_cases hp:pre l p=true
 ·rw [if_pos hp,hp];decide
 ·rw [if_neg hp];have:pre l p=false:=by simpa using hp
  rw [this]
  split <;> decide
theorem AgP{a p:List UInt8}(hp:p≠[]):pre (a.drop a.length) p=false:=by
 rw [List.drop_length]
 cases p with
 | nil=>exact absurd Z hp
 | cons c p=>exact SC c p
theorem AcB{a p:List UInt8}(hp:p≠[]):Afe a p (a.length+1)=Afe a p a.length:=by
 unfold Afe;rw [Qx2,List.filter_append]
 have:[a.length].filter (fun q=>pre (a.drop q) p)=[]:=by
  rw [List.filter_cons_of_neg (by rw [AgP hp];decide)];rfl
 rw [this,QzZ]
theorem AgQ{a p:List UInt8}(hp:p≠[]):OA a p 2=OA a p 1+(occ a p).length:=by
 have h:OA a p 2=OA a p 1+(Qzv (a.length+1)).countP (fun q=>pre (a.drop q) p):=
  T9 _ _ _ (fun q=>AgN p (a.drop q)) (fun q h=>by
   have:=of_decide_eq_true h;rw [AgO];exact decide_eq_false U) _
 rw [h,List.countP_eq_length_filter]
 show _+(Afe a p (a.length+1)).length=_
 rw [AcB hp];unfold occ;rw [Qzk]
end Go.L
namespace Go.Proofs.YtekmbcbgknmhiaaGreatDoor
open Go Go.L
theorem AiX{p:List UInt8}(h:pfF p=(0,0)):p≠[]/\p.length<=64:=by
 unfold pfF at h
 split at h
 ·exact absurd h Qqc
 ·rename_i a;refine⟨fun e=>a (by rw [e];rfl),?_⟩
  split at h
  ·assumption
  ·exact absurd h Qqc
theorem Aff{a p:List UInt8}(h:a.length<=2048):Ex (idx a) p=some (if pfF p=(0,0) then((occ a p).length:Int) else 0,pfF p):=by
 obtain⟨f,t,c,g,i,d,e⟩:=AgM (p:=p) h;unfold Ex
 show Qq4 (EX (idx a) p) _=_
 rw [c,Qq6,Ad (by show Bw ((t:Int) - (f:Int));constructor <;> omega)]
 by_cases hp:pfF p=(0,0)
 ·rw [if_pos hp];obtain⟨r1,r2⟩:=e hp;have hb:=AgQ (a:=a) (AiX hp).1
  have:(t:Int) - (f:Int)=((occ a p).length:Int):=by
   rcases Qxk f t with b | b
   ·have:=r2 b;omega
   ·have:=r1 U;omega
  show some ((t:Int) - (f:Int),pfF p)=_
  rw [this]
 ·rw [if_neg hp];obtain⟨rfl,rfl⟩:=d hp
  rfl
end Go.Proofs.YtekmbcbgknmhiaaGreatDoor
end
noncomputable section
namespace Go.L
def Mk(L:List Bool)(n:Nat)(Q:Int->Prop):Prop:=L.length=n/\∀ i:Nat,i<n->(L.getD i Qq2=true↔Q i)
theorem Mk.set{L:List Bool}{n:Nat}{Q:Int->Prop}(h:Mk L n Q){at':Nat}(ha:at'<n)(c:Bool):Mk (L.set at' (L.getD at' Qq2||c)) n (fun z=>Q z\/(c=true/\z=(at':Int))):=by
 refine⟨by rw [List.length_set];exact h.1,fun i hi=>?_⟩;rw [Qq9,List.getElem?_set]
 by_cases he:at'=i
 ·subst he;rw [if_pos Z,if_pos (by rw [h.1];exact ha)];have:=h.2 at' ha
  show(L.getD at' Qq2||c)=true↔_
  rw [Qz9,this];exact⟨fun h=>h.imp id fun h=>⟨h,Z⟩,fun h=>h.imp id fun h=>h.1⟩
 ·rw [if_neg he,<- Qq9,h.2 i hi];exact⟨.inl,fun h=>h.resolve_right fun h=>he U⟩
def collected(f:(List UInt8×Int×Int×List UInt8)×List Int->Bool)(es:List ((List UInt8×Int×Int×List UInt8)×List Int)):List Int:=(es.filter f).flatMap (·.2)
theorem Wy{f:(List UInt8×Int×Int×List UInt8)×List Int->Bool}{es:List ((List UInt8×Int×Int×List UInt8)×List Int)}{z:Int}:z∈collected f es↔∃ e∈es,f e=true/\z∈e.2:=by
 unfold collected;rw [List.mem_flatMap]
 constructor
 ·rintro⟨e,he,hz⟩;obtain⟨a,h2⟩:=Qk0.1 he;exact⟨e,a,h2,hz⟩
 ·rintro⟨e,a,h2,hz⟩;exact⟨e,Qk0.2 ⟨a,h2⟩,hz⟩
theorem Oa(f:(List UInt8×Int×Int×List UInt8)×List Int->Bool){es:List ((List UInt8×Int×Int×List UInt8)×List Int)}{i:Nat}(h:i<es.length):collected f (es.take (i+1))=collected f (es.take i)++if f (es.getD i Qq2) then(es.getD i Qq2).2 else[]:=by
 unfold collected;rw [List.take_add_one,Qzw h,List.filter_append,List.flatMap_append]
 congr 1
 have e:es.getD i Qq2=es[i]:=by simp [Qq9,Qzw h]
 rw [e];simp only [Option.toList_some,List.filter_cons,List.filter_nil]
 by_cases hf:f es[i]=true
 ·simp [hf]
 ·simp [hf]
theorem H8(f:(List UInt8×Int×Int×List UInt8)×List Int->Bool):∀ {es:List ((List UInt8×Int×Int×List UInt8)×List Int)},(∀ e∈es,e.2.length<=64)->(collected f es).length<=64 * es.length
 | [],_=>by simp [collected]
 | e::es,h=>by
  have a:=h e (.head _);have h2:=H8 f (es:=es) fun x hx=>h x (.tail _ hx);unfold collected at h2 ⊢;rw [List.filter_cons]
  split
  ·rw [List.flatMap_cons,List.length_append,Qzj];omega
  ·rw [Qzj];omega
end Go.L
namespace Go.Proofs.YtekmbcbgknmhiaaGreatDoor
open Go Go.L
def pmE(pat:List UInt8)(e:(List UInt8×Int×Int×List UInt8)×List Int):Bool:=fits (col (sl pat)) (sl e.1.1)
def qmE(pat:List UInt8)(lo hi:Int)(e:(List UInt8×Int×Int×List UInt8)×List Int):Bool:=pmE pat e&&decide (e.1.2.1=1/\lo<=e.1.2.2.1/\e.1.2.2.1<=hi)
theorem Wb(l:List Int):(Go.E.M0 l).length=l.length:=List.length_mergeSort _
theorem Aa5{n:Int}{es:List En}{pat:List UInt8}(hp:pat.length<900)(hl:es.length<=1000000)(a:∀ e∈es,e.2.length<=64)(hpath:∀ e∈es,e.1.1.length<=330):Fe (n,es) pat=some (QL (collected (pmE pat) es)):=by
 unfold Fe GQ;refine Fb (fun i=>(collected (pmE pat) (es.take i),((i:Nat):Int))) es.length (fun i hi=>?_) ?_ 0
 ·have hlen:=H8 (pmE pat) (es:=es.take i) fun e he=>a e (List.mem_of_mem_take he);rw [QzK] at hlen;have b:=a _ (Et hi);have h2:=hpath _ (Et hi);have hm:DT pat (es.getD i Qq2).1.1=some (pmE pat (es.getD i Qq2)):=RV hp U;unfold DC Hf;dsimp only;rw [if_pos U,Ad U,Qq8,Qq6,if_pos Z,hm,Qq6,Oa _ hi]
  by_cases hf:pmE pat (es.getD i Qq2)=true
  ·rw [if_pos hf,if_pos hf,Ad (by unfold Go.E.Io;omega),Ad (by unfold Bw;omega)]
   rfl
  ·rw [if_neg hf,if_neg hf,Ad (by unfold Bw;omega),QzZ]
   rfl
 ·have hlen:=H8 (pmE pat) a;unfold DC DM;dsimp only;rw [if_neg U,Qx4,Ad U,Ad (by rw [Wb];omega)]
  rfl
theorem AgR(e:En)(lo hi:Int):DG e lo hi=some (decide (e.1.2.1=1/\lo<=e.1.2.2.1/\e.1.2.2.1<=hi),lo,hi):=by
 unfold DG
 by_cases a:e.1.2.1=1
 ·by_cases h2:lo<=e.1.2.2.1
  ·rw [if_pos a,if_pos h2];simp [a,h2]
  ·rw [if_pos a,if_neg h2];simp [a,h2]
 ·rw [if_neg a];simp [a]
theorem ZA{n:Int}{es:List En}{pat:List UInt8}{lo hi:Int}(hp:pat.length<900)(hl:es.length<=1000000)(a:∀ e∈es,e.2.length<=64)(hpath:∀ e∈es,e.1.1.length<=330):DN (n,es) pat lo hi=some (QL (collected (qmE pat lo hi) es),lo,hi):=by
 unfold DN Fz;refine Fb (fun i=>(collected (qmE pat lo hi) (es.take i),lo,hi,((i:Nat):Int))) es.length (fun i hi'=>?_) ?_ 0
 ·have hlen:=H8 (qmE pat lo hi) (es:=es.take i) fun e he=>a e (List.mem_of_mem_take he);rw [QzK] at hlen;have b:=a _ (Et hi');have h2:=hpath _ (Et hi');have hm:DT pat (es.getD i Qq2).1.1=some (pmE pat (es.getD i Qq2)):=RV hp U;have hn:DG (((es.getD i Qq2).1.1,(es.getD i Qq2).1.2.1,(es.getD i Qq2).1.2.2.1,(es.getD i Qq2).1.2.2.2),(es.getD i Qq2).2) lo hi=_:=AgR (es.getD i Qq2) lo hi;unfold CS;dsimp only;rw [if_pos U,Ad U,Qq8,hn,Qq6,Oa _ hi'];have hqe:qmE pat lo hi (es.getD i Qq2)=(pmE pat (es.getD i Qq2)&&decide ((es.getD i Qq2).1.2.1=1/\lo<=(es.getD i Qq2).1.2.2.1/\(es.getD i Qq2).1.2.2.1<=hi)):=Z;rw [hqe]
  by_cases hq:(es.getD i Qq2).1.2.1=1/\lo<=(es.getD i Qq2).1.2.2.1/\(es.getD i Qq2).1.2.2.1<=hi
  ·rw [decide_eq_true hq,if_pos Z,hm,Qq6,Bool.and_true]
   by_cases hf:pmE pat (es.getD i Qq2)=true
   ·rw [if_pos hf,if_pos hf,Ad (by unfold Go.E.Io;omega),Ad (by unfold Bw;omega)]
    rfl
   ·rw [if_neg hf,if_neg hf,Ad (by unfold Bw;omega),QzZ]
    rfl
  ·rw [decide_eq_false hq,Bool.and_false,if_neg Qkj,if_neg Qkj,Ad (by unfold Bw;omega),QzZ]
   rfl
 ·have hlen:=H8 (qmE pat lo hi) a;unfold CS Dg;dsimp only;rw [if_neg U,Qx4,Ad U,Ad (by rw [Wb];omega)]
  rfl
theorem find_eq{n:Int}{es:List En}{pat:List UInt8}(hp:(pf pat).1=0)(hl:es.length<=1000000)(a:∀ e∈es,e.2.length<=64)(hpath:∀ e∈es,e.1.1.length<=330):Fy (n,es) pat=some (QL (collected (pmE pat) es),(0,0)):=by
 obtain⟨b,h2⟩:=Yg pat hp;unfold Fy;rw [Rg,Qq6,b,if_pos ⟨Z,Z⟩,Aa5 U hl a hpath]
 rfl
theorem AgS{n:Int}{es:List En}{pat:List UInt8}{lo hi:Int}(hp:(pf pat).1=0)(hlo : ¬ hi<lo)(hl:es.length<=1000000)(a:∀ e∈es,e.2.length<=64)(hpath:∀ e∈es,e.1.1.length<=330):Ev (n,es) pat lo hi=some (QL (collected (qmE pat lo hi) es),(0,0)):=by
 obtain⟨b,h2⟩:=Yg pat hp;unfold Ev;rw [Rg,Qq6,b,if_pos ⟨Z,Z⟩,if_neg hlo,ZA U hl a hpath]
 rfl
end Go.Proofs.YtekmbcbgknmhiaaGreatDoor
end
noncomputable section
namespace Go.Proofs.YtekmbcbgknmhiaaGreatDoor
open Go Go.L
theorem AbD:∀ {l:List Int} {lo n:Int},l.Pairwise (fun a b=>a<b)->(∀ z∈l,lo<=z/\z<n)->lo<=n->(l.length:Int)<=n - lo
 | [],lo,n,_,_,h=>by simp;omega
 | a::l,lo,n,hp,hz,h=>by
  obtain⟨c,d⟩:=List.pairwise_cons.1 hp;have ha:=hz a (.head _);have:=AbD (lo:=a+1) (n:=n) d (fun z hzz=>⟨by have:=c z hzz;omega,(hz z (.tail _ hzz)).2⟩) U;simp only [Qzj];omega
theorem GI.few{n:Int}{es:List En}(h:GI n es):∀ e∈es,e.2.length<=64:=fun e he=>by
 have:=AbD (lo:=0) (n:=n) (h.ev e he).inc (h.ev e he).items h.n0;have:=h.n64;omega
def tmE(pat dat:List UInt8)(e:En):Bool:=pmE pat e&&decide (e.1.2.1=2/\e.1.2.2.2=dat)
theorem Afg(e:En)(dat:List UInt8):Ew e dat=some (decide (e.1.2.1=2/\e.1.2.2.2=dat),dat):=by
 unfold Ew
 by_cases a:e.1.2.1=2
 ·rw [if_pos a];simp [a]
 ·rw [if_neg a];simp [a]
theorem ZB{n:Int}{es:List En}{pat dat:List UInt8}(hp:pat.length<900)(hl:es.length<=1000000)(a:∀ e∈es,e.2.length<=64)(hpath:∀ e∈es,e.1.1.length<=330):DO (n,es) pat dat=some (QL (collected (tmE pat dat) es),dat):=by
 unfold DO F0;refine Fb (fun i=>(collected (tmE pat dat) (es.take i),dat,((i:Nat):Int))) es.length (fun i hi'=>?_) ?_ 0
 ·have hlen:=H8 (tmE pat dat) (es:=es.take i) fun e he=>a e (List.mem_of_mem_take he);rw [QzK] at hlen;have b:=a _ (Et hi');have h2:=hpath _ (Et hi');have hm:DT pat (es.getD i Qq2).1.1=some (pmE pat (es.getD i Qq2)):=RV hp U;have hn:Ew (((es.getD i Qq2).1.1,(es.getD i Qq2).1.2.1,(es.getD i Qq2).1.2.2.1,(es.getD i Qq2).1.2.2.2),(es.getD i Qq2).2) dat=_:=Afg (es.getD i Qq2) dat;have hqe:tmE pat dat (es.getD i Qq2)=(pmE pat (es.getD i Qq2)&&decide ((es.getD i Qq2).1.2.1=2/\(es.getD i Qq2).1.2.2.2=dat)):=Z;unfold CT;dsimp only;rw [if_pos U,Ad U,Qq8,hn,Qq6,Oa _ hi',hqe]
  by_cases hq:(es.getD i Qq2).1.2.1=2/\(es.getD i Qq2).1.2.2.2=dat
  ·rw [decide_eq_true hq,if_pos Z,hm,Qq6,Bool.and_true]
   by_cases hf:pmE pat (es.getD i Qq2)=true
   ·rw [if_pos hf,if_pos hf,Ad (by unfold Go.E.Io;omega),Ad (by unfold Bw;omega)]
    rfl
   ·rw [if_neg hf,if_neg hf,Ad (by unfold Bw;omega),QzZ]
    rfl
  ·rw [decide_eq_false hq,Bool.and_false,if_neg Qkj,if_neg Qkj,Ad (by unfold Bw;omega),QzZ]
   rfl
 ·have hlen:=H8 (tmE pat dat) a;unfold CT Dh;dsimp only;rw [if_neg U,Qx4,Ad U,Ad (by rw [Wb];omega)]
  rfl
theorem Afh{n:Int}{es:List En}{pat dat:List UInt8}(hp:(pf pat).1=0)(hd:dat.length<=4000)(hl:es.length<=1000000)(a:∀ e∈es,e.2.length<=64)(hpath:∀ e∈es,e.1.1.length<=330):F1 (n,es) pat dat=some (QL (collected (tmE pat dat) es),(0,0)):=by
 obtain⟨b,h2⟩:=Yg pat hp;unfold F1;rw [Rg,Qq6,b,if_pos ⟨Z,Z⟩,if_neg U,ZB U hl a hpath]
 rfl
def QO(l:List (List UInt8×Pv)):LIB:=(((l.length:Int),E (l.map Qq5)),((l.length:Int),Pg (II (PJ 0 (l.map QzQ)) [])),l.map fun d=>idx d.1)
theorem Aa6{l:List (List UInt8×Pv)}(hl:l.length<=64)(hs:∀ d∈l,Sd d)(ht:∀ d∈l,d.1.length<=2048){r:LIB×(Int×Int)}(hr:EN (l.map QzQ) (l.map Qq5) (l.map fun d=>idx d.1)=some r):(r.2.1=0/\Wv (l.map QzQ)/\r.1=QO l\/r.2.1≠0/\r.1=SK):=by
 have hlm:(l.map Qq5).length=l.length:=Qzk ..;have hlv:(l.map QzQ).length=l.length:=Qzk ..;have ht':∀ t∈l.map Qq5,t.length<=2048:=fun t ht'=>by obtain⟨d,hd,rfl⟩:=Qz4.1 ht';exact ht d hd
 have i:N5 0 (l.map Qq5)=none:=VW 0 _ ht';have hw:=Zt U ht' i;obtain⟨s,hsb,h3⟩:=Z9 (a:=l.map QzQ) (fun v hv=>by obtain⟨d,hd,rfl⟩:=Qz4.1 hv;exact(hs d hd).2)
 have fault:∀ (p:List (((List Int))×(List Int)×(List Int))) (a b c e:Int) (f:List ((List UInt8)×(List (Int×Int)))) (g:List (((List UInt8)×Int×Int×(List UInt8))×(List Int))),a≠0->Eg p a b c f e g=some r->r.2.1≠0/\r.1=SK:=fun p a b c e f g ha h=>by
  unfold Eg Cz at h;rw [if_neg (fun x=>ha x.1)] at h
  cases h
  exact⟨by decide,Z⟩
 unfold EN at hr;rw [hw] at hr
 by_cases hbig:131072<gs (RD (((l.map Qq5).length:Int),E (l.map Qq5)))
 ·rw [if_pos hbig,Qq6,if_neg (fun x=>by cases x.1)] at hr;exact .inr (fault _ _ _ _ _ _ _ Qqc hr)
 ·rw [if_neg hbig,Qq6,if_pos ⟨Z,Z⟩,hsb,Qq6] at hr
  rcases h3 with ⟨k,rfl⟩ | ⟨k,j,f,hj,hf,m,hvj,rfl⟩ | ⟨k,hv,rfl⟩
  ·omega
  ·exact .inr (fault _ _ _ _ _ _ _ m hr)
  ·by_cases hb:16384<(Ab4 ((l.map QzQ).length:Int) (Pg (II (PJ 0 (l.map QzQ)) []))).length
   ·unfold Aay at hr;rw [if_pos hb] at hr;exact .inr (fault _ _ _ _ _ _ _ Qqc hr)
   ·unfold Aay at hr;rw [if_neg hb] at hr;unfold Eg at hr;rw [if_pos ⟨Z,Z⟩] at hr
    cases hr
    refine .inl ⟨Z,hv,?_⟩;unfold QO;rw [hlm,hlv]
theorem ZC{l:List (List UInt8×Pv)}(hs:∀ d∈l,Sd d):∃ r,Jt l=some r/\(r.2.1=0/\l.length<=64/\(∀ d∈l,d.1.length<=2048)/\Wv (l.map QzQ)/\r.1=QO l\/r.2.1≠0/\r.1=SK):=by
 unfold Jt
 by_cases h:64<l.length
 ·rw [if_pos U];exact⟨(SK,(2,-1)),Z,.inr ⟨(show(2:Int)≠0 by decide),Z⟩⟩
 ·rw [if_neg U];obtain⟨r,a,h2⟩:=VX (l:=l) U hs l.length 0 U Qqd;refine⟨r,a,?_⟩
  rcases h2 with ⟨ht,h2⟩ | h2
  ·exact(Aa6 U hs ht h2).imp (fun x=>⟨x.1,by omega,ht,x.2⟩) id
  ·exact .inr h2
theorem AcC(l:List (Int×Int))(hl:l.length<=1000000):H6 l=some (l.map Qq5):=by
 unfold H6 Ky;refine Fb (fun i=>((l.take i).map Qq5,((i:Nat):Int))) l.length (fun i hi=>?_) ?_ 0 (hi:=(by omega))
 ·have hg:l.getD ((i:Int)).toNat Qq2=l[i]:=by rw [Qq8,Qq9,Qzw hi];rfl
  unfold GS;simp only;rw [if_pos U,Ad U,hg,Ad (by unfold Go.E.Io;simp only [Qzk,QzK,Qzj,Qzf];omega),Ad (by unfold Bw;omega),<- List.take_append_getElem hi,List.map_append]
  rfl
 ·unfold GS Je;simp only;rw [if_neg U,List.take_of_length_le (Qzx _)]
theorem ZD{L:LIB}{q:Qv}{a:List (List UInt8)}(hp:L.2.2=a.map idx)(ha:a.length<=64)(ht:∀ t∈a,t.length<=2048):∀ (k i:Nat) (out:List Int),i+k=a.length->out.length<=i->(∀ x∈out,0<=x/\x<(a.length:Int))->
  ∃ r,FH L q (out,(i:Int))=some r/\r.length<=a.length/\∀ x∈r,0<=x/\x<(a.length:Int)
 | 0,i,out,h,ho,hr=>by
  refine⟨out,AQ (m:=some out) ?_,by omega,hr⟩;unfold Dl B0;simp only;rw [hp,Qzk,if_neg U]
 | k+1,i,out,h,ho,hr=>by
  have hi:i<a.length:=by omega
  have hg:L.2.2.getD ((i:Int)).toNat Qq2=idx a[i]:=by
   rw [hp,Qq8,Qq9,Qxv,Qzw hi]
   rfl
  obtain⟨c,hc⟩:∃ c,Ex ((idx a[i]).1,(idx a[i]).2.1,(idx a[i]).2.2) q.f.2.2.2.1=some c:=⟨_,Aff (ht _ (Qxx hi))⟩
  have hb:∃ out',Dl L q (out,(i:Int))=some (.inl (out',((i+1:Nat):Int)))/\out'.length<=i+1/\∀ x∈out',0<=x/\x<(a.length:Int):=by
   unfold Dl;simp only;rw [hg,hc,hp,Qzk,if_pos U,Ad U,Qq6]
   by_cases b:(0:Int)<c.1
   ·refine⟨out++[(i:Int)],?_,by simp;omega,fun x hx=>?_⟩
    ·rw [if_pos b,Ad (by unfold Go.E.Io;simp only [Qzj,Qzf];omega),Ad (by unfold Bw;omega)]
     rfl
    ·rcases Qze.1 hx with hx | hx
     ·exact hr x hx
     ·obtain rfl:=QzX.1 hx;omega
   ·refine⟨out,?_,by omega,hr⟩;rw [if_neg b,Ad (by unfold Bw;omega)]
    rfl
  obtain⟨out',e,d,h2⟩:=hb;obtain⟨r,h3,g⟩:=ZD (q:=q) hp ha ht k (i+1) out' U d h2;unfold FH at h3 ⊢;exact⟨r,by rw [Bg e];exact h3,g⟩
theorem Afi{l:List (List UInt8×Pv)}(hl:l.length<=64)(hs:∀ d∈l,Sd d)(ht:∀ d∈l,d.1.length<=2048)(hv:Wv (l.map QzQ)){q:Qv}(hq:Sq q){d:Nat}(hvq:Vq (d+1) q)(y:q.f.1<8):
  ∃ items,CZ (QO l) q=some items/\items.length<=100000000/\∀ x∈items,0<=x/\x<(l.length:Int):=by
 obtain⟨hk,hF,hw,hp,hnt⟩:=Ri hvq.1;have hlm:(l.map Qq5).length=l.length:=Qzk ..;have hlv:(l.map QzQ).length=l.length:=Qzk ..;have ht':∀ t∈l.map Qq5,t.length<=2048:=fun t ht'=>by obtain⟨d,hd,rfl⟩:=Qz4.1 ht';exact ht d hd
 have hs':∀ v∈l.map QzQ,Sm 1048576 10 v:=fun v hv=>by obtain⟨d,hd,rfl⟩:=Qz4.1 hv;exact(hs d hd).2
 have hx:=XOk.AiW (items:=l.map Qq5) U ht'
 have hhit:∀ w,∀ h∈BW [] w (E (l.map Qq5)),0<=h.1/\h.1<(l.length:Int):=fun w h hh=>by
  rw [Xg] at hh;have h2:=J0 0 _ 2048 ht' _ (MA.1 hh);simp only at h2;omega
 have hofh:∀ hs:List (Int×Int),hs.length<=1000000->(∀ h∈hs,0<=h.1/\h.1<(l.length:Int))->∃ items,H6 hs=some items/\items.length<=100000000/\∀ x∈items,0<=x/\x<(l.length:Int):=fun hs i h2=>by
  refine⟨_,AcC hs i,by rw [Qzk];omega,fun x hx=>?_⟩;obtain⟨h,hh,rfl⟩:=Qz4.1 hx;exact h2 h hh
 obtain⟨hG,_⟩:=Z8 U hv hs';rw [hlv] at hG;have hpath:∀ e∈Pg (II (PJ 0 (l.map QzQ)) []),e.1.1.length<=330:=fun e he=>(hG.ev e he).path.1;have c:(pf q.f.2.2.1).1=0:=by rw [hp]
 have hcol:∀ f,(QL (collected f (Pg (II (PJ 0 (l.map QzQ)) [])))).length<=100000000/\∀ x∈QL (collected f (Pg (II (PJ 0 (l.map QzQ)) []))),0<=x/\x<(l.length:Int):=fun f=>by
  have i:=Zz (collected f (Pg (II (PJ 0 (l.map QzQ)) [])));have h2:=H8 f hG.few;have h3:=hG.len;refine⟨by omega,fun x hx=>?_⟩;have hx:=(Rl _).2 x |>.1 hx;obtain⟨e,he,_,hxe⟩:=Wy.1 hx;exact(hG.ev e he).items x hxe
 unfold CZ QO;obtain h | h | h | h | h | h | h:q.f.1=1\/q.f.1=2\/q.f.1=3\/q.f.1=4\/q.f.1=5\/q.f.1=6\/q.f.1=7:=by omega
 ·have i:=(OX hF).1 h;rw [if_pos h,Ad U]
  have hm:q.f.2.1.getD ((0:Int).toNat) Qq2∈q.f.2.1:=by
   show q.f.2.1.getD 0 Qq2∈_
   rw [Qq9,Qzw U];exact Qxx _
  have hf:=Afa (n:=(l.length:Int)) (by have:=hx.len;omega) hx.inc (q.f.2.1.getD ((0:Int).toNat) Qq2) (by have:=(hx.Aa2 (q.f.2.1.getD ((0:Int).toNat) Qq2)).1;omega);rw [if_pos (hw _ hm)] at hf
  show ∃ items,Qq4 (Gu ((l.length:Int),E (l.map Qq5)) _) _=_/\_
  rw [hf,Qq6];unfold FG B0;obtain⟨items,b,g⟩:=hofh _ (hx.Aa2 (q.f.2.1.getD ((0:Int).toNat) Qq2)).1 (hhit _);exact⟨items,by rw [b];rfl,g⟩
 ·rw [if_neg U,if_pos h];have hf:=AcA (n:=(l.length:Int)) hx q.f.2.1
  show ∃ items,Qq4 (Ed ((l.length:Int),E (l.map Qq5)) q.f.2.1) _=_/\_
  have key:∃ hs e,Ed ((l.length:Int),E (l.map Qq5)) q.f.2.1=some (hs,e)/\hs.length<=1000000/\∀ h∈hs,0<=h.1/\h.1<(l.length:Int):=by
   rw [hf]
   split
   ·exact⟨[],_,Z,by simp,by simp⟩
   ·split
    ·exact⟨[],_,Z,by simp,by simp⟩
    ·split
     ·exact⟨[],_,Z,by simp,by simp⟩
     ·refine⟨_,_,Z,?_,fun h hh=>hhit _ h (Qk0.1 hh).1⟩;have:=(hx.Aa2 (q.f.2.1.getD 0 Qq2)).1;have:=List.length_filter_le (fun h=>decide (KT (E (l.map Qq5)) q.f.2.1 h)) (BW [] (q.f.2.1.getD 0 Qq2) (E (l.map Qq5)));omega
  obtain⟨hs,e,o,p,s⟩:=key;rw [o,Qq6];obtain⟨items,b,g⟩:=hofh _ p s;unfold B0;exact⟨items,by simp only;rw [b];rfl,g⟩
 ·have i:=(OX hF).2.2.1 h;rw [if_neg U,if_neg U,if_pos h,Ad U,Ad U];have hf:=AgJ (n:=(l.length:Int)) (items:=l.map Qq5) U ht' (q.f.2.1.getD ((0:Int).toNat) Qq2) (q.f.2.1.getD ((1:Int).toNat) Qq2) q.f.2.2.2.2.1
  show ∃ items,Qq4 (Ff ((l.length:Int),E (l.map Qq5)) _ _ _) _=_/\_
  unfold B0
  by_cases hn:Aa3 (q.f.2.1.getD ((0:Int).toNat) Qq2) (q.f.2.1.getD ((1:Int).toNat) Qq2) q.f.2.2.2.2.1
  ·obtain⟨L,b,_,j,u⟩:=hf.1 hn;refine⟨L,by rw [b];rfl,by omega,fun x hx=>?_⟩;obtain⟨k,_,m,_⟩:=(u x).1 hx;have h2:=J0 0 _ 2048 ht' _ m;simp only at h2;omega
  ·exact⟨[],by rw [hf.2 hn];rfl,by simp,by simp⟩
 ·rw [if_neg U,if_neg U,if_neg U,if_pos h];obtain⟨r,b,g,j⟩:=ZD (L:=QO l) (q:=q) (a:=l.map Qq5) (by unfold QO;simp) U ht' (l.map Qq5).length 0 [] U Qqd Qqd;rw [hlm] at g j;exact⟨r,b,by omega,j⟩
 ·rw [if_neg U,if_neg U,if_neg U,if_neg U,if_pos h];have hf:=find_eq (n:=(l.length:Int)) (pat:=q.f.2.2.1) c hG.len hG.few hpath
  show ∃ items,Qq4 (Fy ((l.length:Int),Pg (II (PJ 0 (l.map QzQ)) [])) q.f.2.2.1) _=_/\_
  rw [hf];exact⟨_,Z,hcol _⟩
 ·rw [if_neg U,if_neg U,if_neg U,if_neg U,if_neg U,if_pos h]
  have hlo : ¬ q.f.2.2.2.2.2.1<q.f.2.2.2.2.1:=fun hc=>by
   unfold nt at hnt;rw [if_pos (.inr ⟨h,hc⟩)] at hnt
   cases hnt
  have hf:=AgS (n:=(l.length:Int)) (pat:=q.f.2.2.1) c hlo hG.len hG.few hpath
  show ∃ items,Qq4 (Ev ((l.length:Int),Pg (II (PJ 0 (l.map QzQ)) [])) q.f.2.2.1 _ _) _=_/\_
  rw [hf];exact⟨_,Z,hcol _⟩
 ·rw [if_neg U,if_neg U,if_neg U,if_neg U,if_neg U,if_neg U,if_pos h];have hd:=XV hnt;have hf:=Afh (n:=(l.length:Int)) (pat:=q.f.2.2.1) (dat:=q.f.2.2.2.1) c U hG.len hG.few hpath
  show ∃ items,Qq4 (F1 ((l.length:Int),Pg (II (PJ 0 (l.map QzQ)) [])) q.f.2.2.1 _) _=_/\_
  rw [hf];exact⟨_,Z,hcol _⟩
def fnd(L:LIB)(q:Qv)(i:Nat):Bool:=match CZ L q with
 | some items=>decide ((i:Int)∈items)
 | none=>false
theorem Aik{l:List (List UInt8×Pv)}(hl:l.length<=64)(hs:∀ d∈l,Sd d)(ht:∀ d∈l,d.1.length<=2048)(hv:Wv (l.map QzQ)):Fnd (QO l) (fnd (QO l)):=fun d q hq hvq b=>by
 obtain⟨items,a,h2,h3⟩:=Afi hl hs ht hv hq hvq b;have hlen:(QO l).2.2.length=l.length:=Qzk ..;refine⟨items,a,h2,by rw [hlen];exact h3,fun i _=>?_⟩;unfold fnd;rw [a]
end Go.Proofs.YtekmbcbgknmhiaaGreatDoor
end
noncomputable section
namespace Go.L
def Afj(a:List UInt8):List (Fin (a.length+1)):=isB (fun x y=>!(Go.Proofs.ltOf (K5 a)) y x) (PO a.length)
def Afk(a:List UInt8):List Int:=(Afj a).map fun x=>(x.val:Int)
theorem QP(a:List UInt8):Afk a=DH a:=by
 have h:Afj a=Aah a:=by
  have hlt:∀ x y,(!(Go.Proofs.ltOf (K5 a)) y x)=true↔¬ K5 a y x<0:=fun x y=>by simp [Go.Proofs.ltOf]
  refine Yh (fun x y z c h2=>?_) (fun x y=>?_) (fun x y c h2=>?_) _
  ·rw [hlt] at *;intro h3;unfold K5 at *;have s1:=KN (a.drop x.val) (a.drop y.val)
   rcases Int.lt_trichotomy (Lib.compareBytes (a.drop x.val) (a.drop y.val)) 0 with b | b | b
   ·exact h2 (N9 _ _ _ h3 b)
   ·rw [Q5 _ _ b] at h3;exact h2 h3
   ·omega
  ·rw [hlt,hlt];unfold K5;have s1:=KN (a.drop x.val) (a.drop y.val);omega
  ·exact P4 a x y (by simpa using h2) (by simpa using c)
 unfold Afk DH;rw [h]
end Go.L
namespace Go.Proofs.YtekmbcbgknmhiaaGreatDoor
open Go Go.E Go.RowKit
def QQ{β:Type}(l:List (List UInt8×β)):Option (List (List UInt8)):=
 match l.map Qq5 with
 | []=>some []
 | [a]=>if a.length<1000 then some [a] else none
 | [a,b]=>if a.length<1000/\b.length<1000/\a≠b then some (if leB a b then[a,b] else[b,a]) else none
 | _=>none
theorem Wz{β:Type}(l:List (List UInt8×β)):Go.L.Ap (QQ l) (M5 l):=by
 intro r h;have hm:(1000:Nat)<=maxLen:=by decide
 have hl:(l.map Qq5).length=l.length:=Qzk ..
 suffices key:S5 l/\some ((l.map Qq5).mergeSort leB)=some r by
  unfold M5;rw [Go.L.Ad key.1];exact key.2
 unfold S5;rw [<- hl];unfold QQ at h;generalize l.map Qq5=k at *
 match k,h with
 | [],h=>
  cases h
  exact⟨⟨List.nodup_nil,fun x hx=>(by cases hx),by decide⟩,by simp⟩
 | [a],h=>
  simp only at h
  split at h
  ·rename_i ha
   cases h
   exact⟨⟨by simp,fun x hx=>(by rw [QzX.1 hx];omega),by simp⟩,by simp⟩
  ·cases h
 | [a,b],h=>
  simp only at h
  split at h
  ·rename_i ha;obtain⟨c,h2,h3⟩:=ha
   cases h
   refine⟨⟨by simp [h3],fun x hx=>?_,by simp⟩,?_⟩
   ·rcases Qzy.1 hx with rfl | hx
    ·omega
    ·rw [QzX.1 hx];omega
   ·simp [List.mergeSort,List.merge,List.MergeSort.Internal.splitInTwo]
  ·cases h
 | _::_::_::_,h=>cases h
instance {β:Type} (l:List (List UInt8×β)):Go.L.Mi (M5 l):=⟨QQ l,Wz l⟩
end Go.Proofs.YtekmbcbgknmhiaaGreatDoor
end
noncomputable section
namespace Go.Proofs.YtekmbcbgknmhiaaGreatDoor
open Go Go.E Go.RowKit Go.L
noncomputable section
instance (a b c d):Mi (QZ a b c d):=⟨_,apR _⟩
instance (a b):Mi (WL a b):=⟨_,apR _⟩
instance (a b):Mi (Sv a b):=⟨_,apR _⟩
instance (a):Mi (Vm a):=⟨_,apR _⟩
instance (a):Mi (AbW a):=⟨_,apR _⟩
instance (a):Mi (Su a):=⟨_,apR _⟩
instance (a):Mi (AiC a):=⟨_,apR _⟩
instance (a0):Mi (Rb a0):=by delta Rb;infer_instance
instance (a0) (a1):Mi (Cz a0 a1):=by delta Cz;infer_instance
instance (a0) (a1):Mi (J5 a0 a1):=by delta J5;infer_instance
instance (a) (b) (c) (d) (e) (f) (g):Mi (C8 a b c d e f g):=by delta C8;infer_instance
instance (a0) (s):Mi (Bj a0 s):=by obtain⟨b,c,d,e,f,g,h,a⟩:=s;delta Bj;dsimp only;infer_instance
instance (a0) (s):Mi (C9 a0 s):=by delta C9;infer_instance
instance (a0) (a1_c0):Mi (Ci a0 a1_c0):=by delta Ci;infer_instance
instance (a0) (a1_c0):Mi (AV a0 a1_c0):=by delta AV;infer_instance
instance (a0) (d) (e) (f) (g) (a) (b) (c):Mi (Cs a0 d e f g a b c):=by delta Cs;repeat' first | (show Mi _;infer_instance) | refine @iB _ _ _ _ ?_ (fun _=>?_) | refine @iC _ _ _ _ ?_ | refine @iI _ _ _ _ _ ?_ ?_
instance (a0):Mi (JC a0):=by delta JC;repeat' first | (show Mi _;infer_instance) | refine @iB _ _ _ _ ?_ (fun _=>?_) | refine @iC _ _ _ _ ?_ | refine @iI _ _ _ _ _ ?_ ?_
instance (a0) (a1):Mi (DU a0 a1):=by delta DU;infer_instance
instance (a0):Mi (Ks a0):=by delta Ks;repeat' first | (show Mi _;infer_instance) | refine @iB _ _ _ _ ?_ (fun _=>?_) | refine @iC _ _ _ _ ?_ | refine @iI _ _ _ _ _ ?_ ?_
instance (b) (c) (d) (a):Mi (HC b c d a):=by delta HC;infer_instance
instance (a1) (b) (a) (s):Mi (CJ a1 b a s):=by obtain⟨d,c⟩:=s;delta CJ;dsimp only;infer_instance
instance (a1) (b) (a) (s):Mi (M3 a1 b a s):=by delta M3;infer_instance
instance (a1) (s):Mi (CK a1 s):=by obtain⟨b,a⟩:=s;delta CK;dsimp only;infer_instance
instance (a1) (s):Mi (M4 a1 s):=by delta M4;infer_instance
instance (a0) (a1):Mi (KO a0 a1):=by delta KO;infer_instance
instance (l):Mi (OS l):=by delta OS;infer_instance
instance (a0):Mi (Kt a0):=by delta Kt;infer_instance
instance (a0):Mi (H5 a0):=by delta H5;infer_instance
instance (a0) (a1):Mi (DI a0 a1):=by delta DI;infer_instance
instance (a0) (a1):Mi (strings_Split a0 a1):=by delta strings_Split;infer_instance
instance (a0):Mi (Ix a0):=by delta Ix;infer_instance
instance (a0):Mi (Lk a0):=by delta Lk;infer_instance
instance:Mi (KV):=by delta KV;infer_instance
instance (b) (s):Mi (Ej b s):=by obtain⟨c,a⟩:=s;delta Ej;dsimp only;repeat' first | (show Mi _;infer_instance) | refine @iB _ _ _ _ ?_ (fun _=>?_) | refine @iC _ _ _ _ ?_ | refine @iI _ _ _ _ _ ?_ ?_
instance (a) (s):Mi (Nh a s):=by delta Nh;infer_instance
instance (a0):Mi (Ho a0):=by delta Ho;infer_instance
instance (a0) (a):Mi (FP a0 a):=by delta FP;infer_instance
instance (a0):Mi (FQ a0):=by delta FQ;infer_instance
instance (a0) (s):Mi (Ee a0 s):=by delta Ee;infer_instance
instance (a0) (s):Mi (IN a0 s):=by delta IN;infer_instance
instance (a0):Mi (HD a0):=by delta HD;infer_instance
instance (a):Mi (I2 a):=by delta I2;infer_instance
instance (a0) (a2) (self) [∀ c d e,Mi (self c d e)] (s):Mi (E7 a0 a2 self s):=by obtain⟨b,a⟩:=s;delta E7;dsimp only;infer_instance
instance (a0) (a2) (self) [∀ a b c,Mi (self a b c)] (s):Mi (Kg a0 a2 self s):=by delta Kg;infer_instance
instance (self) [∀ a b c,Mi (self a b c)] (a0) (a1) (a2):Mi (F4 self a0 a1 a2):=by delta F4;infer_instance
instance TA:∀ (n:Nat) (y0) (y1) (y2),Mi (F5 n y0 y1 y2)
 | 0,_,_,_=>⟨none,fun _ h=>by cases h⟩
 | n+1,y0,y1,y2=>by
  haveI:=TA n
  show Mi (F4 (F5 n) y0 y1 y2)
  infer_instance
instance (y0) (y1) (y2):Mi (LR y0 y1 y2):=by delta LR;infer_instance
instance (a):Mi (Jb a):=by delta Jb;infer_instance
instance (a0) (s):Mi (E1 a0 s):=by obtain⟨b,a⟩:=s;delta E1;dsimp only;repeat' first | (show Mi _;infer_instance) | refine @iB _ _ _ _ ?_ (fun _=>?_) | refine @iC _ _ _ _ ?_ | refine @iI _ _ _ _ _ ?_ ?_
instance (a0) (s):Mi (Ku a0 s):=by delta Ku;infer_instance
instance (a0):Mi (IH a0):=by delta IH;infer_instance
instance (_self1) (self2) [∀ a b c,Mi (self2 a b c)] (a0):Mi (Gv _self1 self2 a0):=by delta Gv;repeat' first | (show Mi _;infer_instance) | refine @iB _ _ _ _ ?_ (fun _=>?_) | refine @iC _ _ _ _ ?_ | refine @iI _ _ _ _ _ ?_ ?_
instance:Mi (Dc):=by delta Dc;infer_instance
instance (a0) (a1) (s):Mi (Be a0 a1 s):=by delta Be;infer_instance
instance (a0) (a1) (s):Mi (DK a0 a1 s):=by delta DK;infer_instance
instance (a0) (a1):Mi (DV a0 a1):=by delta DV;infer_instance
instance (a0) (a1):Mi (BD a0 a1):=by delta BD;infer_instance
instance (c) (a) (b):Mi (Fg c a b):=by delta Fg;infer_instance
instance (a1) (a):Mi (GJ a1 a):=by delta GJ;infer_instance
instance (a0) (a1) (a2) (self1) [∀ b,Mi (self1 b)] (s):Mi (CX a0 a1 a2 self1 s):=by obtain⟨c,a⟩:=s;delta CX;dsimp only;infer_instance
instance (a0) (a1) (a2) (self1) [∀ a,Mi (self1 a)] (s):Mi (I5 a0 a1 a2 self1 s):=by delta I5;infer_instance
instance (self1) [∀ a,Mi (self1 a)] (_self2) (a0) (a1) (a2):Mi (F6 self1 _self2 a0 a1 a2):=by delta F6;infer_instance
def IE:(n:Nat)->(∀ a,Mi ((BL n).1 a))×(∀ y0 y1 y2,Mi ((BL n).2 y0 y1 y2))
 | 0=>(fun _=>⟨none,fun _ h=>(by cases h)⟩,fun _ _ _=>⟨none,fun _ h=>(by cases h)⟩)
 | n+1=>(fun a=>by
  haveI:=(IE n).1
  haveI:=(IE n).2
  show Mi (Gv ((BL n).1) ((BL n).2) a)
  infer_instance,fun y0 y1 y2=>by
  haveI:=(IE n).1
  haveI:=(IE n).2
  show Mi (F6 ((BL n).1) ((BL n).2) y0 y1 y2)
  infer_instance)
instance (y0):Mi (Oi y0):=(IE 1000).1 y0
instance (a0):Mi (Hu a0):=by delta Hu;infer_instance
instance (a0) (a1):Mi (Eo a0 a1):=by delta Eo;infer_instance
instance (a0) (a1):Mi (Ep a0 a1):=by delta Ep;infer_instance
instance (a0) (a1):Mi (JI a0 a1):=by delta JI;infer_instance
instance (a0) (a1):Mi (BP a0 a1):=by delta BP;infer_instance
instance (a1) (y8) (a) (b) (c):Mi (FL a1 y8 a b c):=by delta FL;infer_instance
instance (a1) (a2) (self) [∀ a,Mi (self a)] (y8) (s):Mi (Fm a1 a2 self y8 s):=by obtain⟨b,c,d⟩:=s;delta Fm;dsimp only;infer_instance
instance (a1) (a2) (self) [∀ a,Mi (self a)] (y8) (s):Mi (HV a1 a2 self y8 s):=by delta HV;infer_instance
instance (self) [∀ a,Mi (self a)] (a0) (a1) (a2):Mi (GV self a0 a1 a2):=by delta GV;infer_instance
instance (self) [∀ a,Mi (self a)] (a0_0):Mi (Gi self a0_0):=by delta Gi;infer_instance
instance (a1) (y8) (a) (b) (c):Mi (GW a1 y8 a b c):=by delta GW;infer_instance
instance (a1) (a2) (self) [∀ a,Mi (self a)] (y8) (s):Mi (G4 a1 a2 self y8 s):=by obtain⟨b,c,d⟩:=s;delta G4;dsimp only;infer_instance
instance (a1) (a2) (self) [∀ a,Mi (self a)] (y8) (s):Mi (Jh a1 a2 self y8 s):=by delta Jh;infer_instance
instance (self) [∀ a,Mi (self a)] (a0) (a1) (a2):Mi (IB self a0 a1 a2):=by delta IB;infer_instance
instance (self) [∀ a,Mi (self a)] (a0):Mi (Hm self a0):=by delta Hm;infer_instance
instance (a0) (a1):Mi (IC a0 a1):=by delta IC;infer_instance
instance:Mi (Iy):=by delta Iy;infer_instance
instance (a0) (s):Mi (CV a0 s):=by delta CV;infer_instance
instance (a0) (s):Mi (G9 a0 s):=by delta G9;infer_instance
instance (a0):Mi (CG a0):=by delta CG;infer_instance
instance (a1) (a):Mi (Iz a1 a):=by delta Iz;infer_instance
instance (a0) (a1) (a) (s):Mi (HZ a0 a1 a s):=by delta HZ;repeat' first | (show Mi _;infer_instance) | refine @iB _ _ _ _ ?_ (fun _=>?_) | refine @iC _ _ _ _ ?_ | refine @iI _ _ _ _ _ ?_ ?_
instance (a0) (a1) (a) (s):Mi (JR a0 a1 a s):=by delta JR;infer_instance
instance (a0) (a1) (a):Mi (GA a0 a1 a):=by delta GA;infer_instance
instance:Mi (I0):=by delta I0;infer_instance
instance (a0) (a1) (s):Mi (FZ a0 a1 s):=by delta FZ;repeat' first | (show Mi _;infer_instance) | refine @iB _ _ _ _ ?_ (fun _=>?_) | refine @iC _ _ _ _ ?_ | refine @iI _ _ _ _ _ ?_ ?_
instance (a0) (a1) (s):Mi (JS a0 a1 s):=by delta JS;infer_instance
instance (a0) (a1):Mi (Ez a0 a1):=by delta Ez;infer_instance
instance (a0) (a):Mi (Hl a0 a):=by delta Hl;infer_instance
instance:Mi (IP):=by delta IP;infer_instance
instance (a0) (a1) (s):Mi (IA a0 a1 s):=by delta IA;infer_instance
instance (a0) (a1) (s):Mi (K8 a0 a1 s):=by delta K8;infer_instance
instance (a0) (a1):Mi (IQ a0 a1):=by delta IQ;infer_instance
instance (a0) (a1):Mi (strings_IndexAny a0 a1):=by delta strings_IndexAny;infer_instance
instance (s) (c):Mi (SB s c):=by delta SB;infer_instance
instance (a0) (a):Mi (FM a0 a):=by delta FM;infer_instance
instance (a0) (a1):Mi (IS a0 a1):=by delta IS;infer_instance
instance (self) [∀ a,Mi (self a)] (a0):Mi (FN self a0):=by delta FN;repeat' first | (show Mi _;infer_instance) | refine @iB _ _ _ _ ?_ (fun _=>?_) | refine @iC _ _ _ _ ?_ | refine @iI _ _ _ _ _ ?_ ?_
instance Qg:∀ (n:Nat) (y0),Mi (FR n y0)
 | 0,_=>⟨none,fun _ h=>by cases h⟩
 | n+1,y0=>by
  haveI:=Qg n
  show Mi (FN (FR n) y0)
  infer_instance
instance (y0):Mi (JJ y0):=by delta JJ;infer_instance
instance (_a0) (_a1):Mi (Jz _a0 _a1):=by delta Jz;infer_instance
instance (_a0) (_a1):Mi (Il _a0 _a1):=by delta Il;infer_instance
instance (a0) (a1):Mi (JK a0 a1):=by delta JK;infer_instance
instance (y22):Mi (Lc y22):=by delta Lc;infer_instance
instance (a0):Mi (Mj a0):=by delta Mj;repeat' first | (show Mi _;infer_instance) | refine @iB _ _ _ _ ?_ (fun _=>?_) | refine @iC _ _ _ _ ?_ | refine @iI _ _ _ _ _ ?_ ?_
instance (a0):Mi (MT a0):=by delta MT;infer_instance
instance (a0) (a1):Mi (N0 a0 a1):=by delta N0;infer_instance
def Gw(a0:List UInt8)(a:List Int):Option ((List Int)):=
 Go.L.AO (a=Go.L.iota a0.length/\a0.length<4611686018427387904) (some ((Go.L.Afk a0)))
theorem Ry:@Gw = @Iu:=by
 unfold Gw Iu;simp only [VN,VM,QP]
instance (a0) (a):Mi (Gw a0 a):=by delta Gw;infer_instance
instance (a0) (a):Mi (Iu a0 a):=⟨(inferInstance:Mi (Gw a0 a)).c,by rw [<- Ry];exact(inferInstance:Mi (Gw a0 a)).h⟩
instance (a0) (s):Mi (Em a0 s):=by obtain⟨b,a⟩:=s;delta Em;dsimp only;infer_instance
instance (a0) (s):Mi (La a0 s):=by delta La;infer_instance
instance (a0):Mi (Kv a0):=by delta Kv;infer_instance
instance (a0):Mi (Kw a0):=by delta Kw;infer_instance
instance (a1):Mi (FE a1):=by delta FE;infer_instance
instance (_a0) (a1):Mi (Hi _a0 a1):=by delta Hi;infer_instance
instance (a):Mi (G2 a):=by delta G2;infer_instance
instance (a0) (s):Mi (BA a0 s):=by obtain⟨b,a⟩:=s;delta BA;dsimp only;infer_instance
instance (a0) (s):Mi (EI a0 s):=by delta EI;infer_instance
instance (a0) (a):Mi (EJ a0 a):=by delta EJ;infer_instance
instance (a0) (s):Mi (BB a0 s):=by obtain⟨b,a⟩:=s;delta BB;dsimp only;infer_instance
instance (a0) (s):Mi (G3 a0 s):=by delta G3;infer_instance
instance (a0):Mi (E9 a0):=by delta E9;infer_instance
instance (a) (c) (b):Mi (F8 a c b):=by delta F8;infer_instance
instance (a0) (a) (s):Mi (Di a0 a s):=by obtain⟨d,c,b⟩:=s;delta Di;dsimp only;infer_instance
instance (a0) (a) (s):Mi (Hw a0 a s):=by delta Hw;infer_instance
instance (c) (d) (a) (e) (b):Mi (F9 c d a e b):=by delta F9;infer_instance
instance (a0) (d) (b) (c) (a):Mi (FA a0 d b c a):=by delta FA;infer_instance
instance (a0) (d) (a) (s):Mi (C4 a0 d a s):=by obtain⟨e,b,c⟩:=s;delta C4;dsimp only;infer_instance
instance (a0) (b) (a) (s):Mi (FB a0 b a s):=by delta FB;infer_instance
instance (a0) (b) (c) (a):Mi (FC a0 b c a):=by delta FC;infer_instance
instance (a0) (b) (c) (s):Mi (Dj a0 b c s):=by obtain⟨e,d,a⟩:=s;delta Dj;dsimp only;infer_instance
instance (a0) (a) (b) (s):Mi (Js a0 a b s):=by delta Js;infer_instance
instance (a0) (a) (b) (c):Mi (FD a0 a b c):=by delta FD;infer_instance
instance (a0):Mi (Ey a0):=by delta Ey;repeat' first | (show Mi _;infer_instance) | refine @iB _ _ _ _ ?_ (fun _=>?_) | refine @iC _ _ _ _ ?_ | refine @iI _ _ _ _ _ ?_ ?_
instance (a):Mi (Jd a):=by delta Jd;infer_instance
instance (a0) (b) (s):Mi (FF a0 b s):=by obtain⟨c,a⟩:=s;delta FF;dsimp only;repeat' first | (show Mi _;infer_instance) | refine @iB _ _ _ _ ?_ (fun _=>?_) | refine @iC _ _ _ _ ?_ | refine @iI _ _ _ _ _ ?_ ?_
instance (a0) (a) (s):Mi (M7 a0 a s):=by delta M7;infer_instance
instance (a) (b):Mi (Kx a b):=by delta Kx;infer_instance
instance (a0):Mi (JD a0):=by delta JD;infer_instance
instance (a0) (a1):Mi (Lv a0 a1):=by delta Lv;infer_instance
instance (a0) (a1):Mi (Cu a0 a1):=by delta Cu;infer_instance
instance (a0):Mi (I1 a0):=by delta I1;infer_instance
instance:Mi (Hd):=by delta Hd;infer_instance
instance (a0) (s):Mi (Ds a0 s):=by delta Ds;infer_instance
instance (a0) (s):Mi (IM a0 s):=by delta IM;infer_instance
instance (a0):Mi (IX a0):=by delta IX;infer_instance
instance (a0):Mi (HA a0):=by delta HA;infer_instance
instance:Mi (Dt):=by delta Dt;infer_instance
instance (a0) (a1) (s):Mi (BK a0 a1 s):=by delta BK;infer_instance
instance (a0) (a1) (s):Mi (E0 a0 a1 s):=by delta E0;infer_instance
instance (a0) (a1):Mi (DW a0 a1):=by delta DW;infer_instance
instance (a0) (a1):Mi (C1 a0 a1):=by delta C1;infer_instance
instance:Mi (HO):=by delta HO;infer_instance
instance (a) (s):Mi (DE a s):=by delta DE;infer_instance
instance (a) (s):Mi (Lm a s):=by delta Lm;infer_instance
instance (_c84) (_c85) (_c86) (b) (c) (a):Mi (BN _c84 _c85 _c86 b c a):=by delta BN;infer_instance
instance (b) (c) (d) (e) (f) (a):Mi (Gn b c d e f a):=by delta Gn;repeat' first | (show Mi _;infer_instance) | refine @iB _ _ _ _ ?_ (fun _=>?_) | refine @iC _ _ _ _ ?_ | refine @iI _ _ _ _ _ ?_ ?_
instance (b) (c) (d) (e) (f) (a):Mi (Gp b c d e f a):=by delta Gp;infer_instance
instance (b) (c) (d) (e) (f) (a):Mi (Gq b c d e f a):=by delta Gq;infer_instance
instance (a0):Mi (GY a0):=by delta GY;infer_instance
instance (a):Mi (He a):=by delta He;infer_instance
instance (a0) (a2) (self) [∀ c d e,Mi (self c d e)] (s):Mi (CH a0 a2 self s):=by obtain⟨b,a⟩:=s;delta CH;dsimp only;infer_instance
instance (a0) (a2) (self) [∀ a b c,Mi (self a b c)] (s):Mi (K3 a0 a2 self s):=by delta K3;infer_instance
instance (self) [∀ a b c,Mi (self a b c)] (a0) (a1) (a2):Mi (Ek self a0 a1 a2):=by delta Ek;infer_instance
instance Un:∀ (n:Nat) (y0) (y1) (y2),Mi (Fo n y0 y1 y2)
 | 0,_,_,_=>⟨none,fun _ h=>by cases h⟩
 | n+1,y0,y1,y2=>by
  haveI:=Un n
  show Mi (Ek (Fo n) y0 y1 y2)
  infer_instance
instance (y0) (y1) (y2):Mi (MV y0 y1 y2):=by delta MV;infer_instance
instance (b) (a):Mi (JW b a):=by delta JW;infer_instance
instance (s):Mi (FU s):=by obtain⟨b,a⟩:=s;delta FU;dsimp only;infer_instance
instance (s):Mi (LL s):=by delta LL;infer_instance
instance (a0):Mi (DZ a0):=by delta DZ;infer_instance
instance (a0):Mi (HP a0):=by delta HP;infer_instance
instance (a0) (a) (self) [∀ c,Mi (self c)] (b):Mi (Ea a0 a self b):=by delta Ea;infer_instance
instance (a):Mi (GH a):=by delta GH;infer_instance
instance (a0) (self) [∀ b,Mi (self b)] (s):Mi (Ce a0 self s):=by obtain⟨c,a⟩:=s;delta Ce;dsimp only;infer_instance
instance (a0) (self) [∀ a,Mi (self a)] (s):Mi (JX a0 self s):=by delta JX;infer_instance
instance (self) [∀ a,Mi (self a)] (a0):Mi (Fu self a0):=by delta Fu;infer_instance
instance TB:∀ (n:Nat) (y0),Mi (Fv n y0)
 | 0,_=>⟨none,fun _ h=>by cases h⟩
 | n+1,y0=>by
  haveI:=TB n
  show Mi (Fu (Fv n) y0)
  infer_instance
instance (y0):Mi (LM y0):=by delta LM;infer_instance
instance (a0):Mi (LN a0):=by delta LN;infer_instance
instance (a0):Mi (EG a0):=by delta EG;infer_instance
instance (a) (b) (c) (d):Mi (J7 a b c d):=by delta J7;infer_instance
instance (a0):Mi (Jk a0):=by delta Jk;infer_instance
instance (a) (b):Mi (Kd a b):=by delta Kd;infer_instance
instance (a) (b) (s):Mi (Hc a b s):=by obtain⟨d,c⟩:=s;delta Hc;dsimp only;infer_instance
instance (a) (b) (s):Mi (Ke a b s):=by delta Ke;infer_instance
instance (a) (b):Mi (DX a b):=by delta DX;repeat' first | (show Mi _;infer_instance) | refine @iB _ _ _ _ ?_ (fun _=>?_) | refine @iC _ _ _ _ ?_ | refine @iI _ _ _ _ _ ?_ ?_
instance (a) (b):Mi (Gl a b):=by delta Gl;infer_instance
instance (a) (b):Mi (Gm a b):=by delta Gm;infer_instance
instance (a0):Mi (Ir a0):=by delta Ir;infer_instance
instance (a0):Mi (KL a0):=by delta KL;infer_instance
instance (a0):Mi (GG a0):=by delta GG;infer_instance
instance (a0) (a1):Mi (AZ a0 a1):=by delta AZ;infer_instance
instance (a) (b):Mi (F2 a b):=by delta F2;infer_instance
instance (a0) (a) (s):Mi (BQ a0 a s):=by obtain⟨c,d,e,b⟩:=s;delta BQ;dsimp only;repeat' first | (show Mi _;infer_instance) | refine @iB _ _ _ _ ?_ (fun _=>?_) | refine @iC _ _ _ _ ?_ | refine @iI _ _ _ _ _ ?_ ?_
instance (a0) (a) (s):Mi (Hq a0 a s):=by delta Hq;infer_instance
instance (a0) (a) (b):Mi (F3 a0 a b):=by delta F3;infer_instance
instance (a0) (a) (s):Mi (C2 a0 a s):=by obtain⟨c,b⟩:=s;delta C2;dsimp only;infer_instance
instance (a0) (a) (s):Mi (Hr a0 a s):=by delta Hr;infer_instance
instance (a0) (s):Mi (C3 a0 s):=by obtain⟨b,a⟩:=s;delta C3;dsimp only;infer_instance
instance (a0) (s):Mi (Hs a0 s):=by delta Hs;infer_instance
instance (a0) (a1_c0):Mi (FO a0 a1_c0):=by delta FO;infer_instance
instance (a0) (a):Mi (HQ a0 a):=by delta HQ;infer_instance
instance (a0) (a1) (a) (s):Mi (Hb a0 a1 a s):=by obtain⟨c,b⟩:=s;delta Hb;dsimp only;infer_instance
instance (a0) (a1) (a) (s):Mi (LQ a0 a1 a s):=by delta LQ;infer_instance
instance (a0) (a1):Mi (Lz a0 a1):=by delta Lz;infer_instance
instance (a0) (a):Mi (HR a0 a):=by delta HR;infer_instance
instance (a0) (s):Mi (EM a0 s):=by obtain⟨b,a⟩:=s;delta EM;dsimp only;infer_instance
instance (a0) (s):Mi (NQ a0 s):=by delta NQ;infer_instance
instance (a0):Mi (Jl a0):=by delta Jl;infer_instance
instance (a0):Mi (Dd a0):=by delta Dd;infer_instance
instance {σ:Type} (a0:Pv) (a1:List (List UInt8)) (a:Int) (self:Pv->(List (List UInt8))->σ->Option σ) [∀ c d e,Mi (self c d e)] (b:List UInt8) (sJ72:σ):Mi (DF a0 a1 a self b sJ72):=by delta DF;infer_instance
instance {σ:Type} (a0:Pv) (a1:List (List UInt8)) (self:Pv->(List (List UInt8))->σ->Option σ) [∀ b c d,Mi (self b c d)] (s:Int×σ):Mi (CI a0 a1 self s):=by obtain⟨a,sJ55⟩:=s;delta CI;dsimp only;infer_instance
instance {σ:Type} (a0:Pv) (a1:List (List UInt8)) (self:Pv->(List (List UInt8))->σ->Option σ) [∀ a b c,Mi (self a b c)] (s:Int×σ):Mi (JE a0 a1 self s):=by delta JE;infer_instance
instance {σ:Type} (step:σ->((List UInt8)×Int×Int×(List UInt8))->Option σ) [∀ a b,Mi (step a b)] (self:Pv->(List (List UInt8))->σ->Option σ) [∀ a b c,Mi (self a b c)] (a0:Pv) (a1:List (List UInt8)) (s:σ):Mi (EU step self a0 a1 s):=by delta EU;infer_instance
instance SQ {σ:Type} (step:σ->((List UInt8)×Int×Int×(List UInt8))->Option σ) [∀ a b,Mi (step a b)]:∀ (n:Nat) (y0) (y1) (y2),Mi (FV step n y0 y1 y2)
 | 0,_,_,_=>⟨none,fun _ h=>by cases h⟩
 | n+1,y0,y1,y2=>by
  haveI:=SQ step n
  show Mi (EU step (FV step n) y0 y1 y2)
  infer_instance
instance {σ:Type} (step:σ->((List UInt8)×Int×Int×(List UInt8))->Option σ) [∀ a b,Mi (step a b)] (y0) (y1) (y2):Mi (JA step y0 y1 y2):=by delta JA;infer_instance
instance (i) (l) (x):Mi (Kp i l x):=by delta Kp;infer_instance
instance (a0):Mi (Fc a0):=by delta Fc;infer_instance
instance (a):Mi (IZ a):=by delta IZ;infer_instance
instance (a0) (s):Mi (GP a0 s):=by obtain⟨b,a⟩:=s;delta GP;dsimp only;infer_instance
instance (a0) (s):Mi (Kq a0 s):=by delta Kq;infer_instance
instance (a0):Mi (JB a0):=by delta JB;infer_instance
instance (a1):Mi (EH a1):=by delta EH;infer_instance
instance (_a0) (a1):Mi (E5 _a0 a1):=by delta E5;infer_instance
instance (a):Mi (Eb a):=by delta Eb;infer_instance
instance (a0) (s):Mi (CQ a0 s):=by obtain⟨b,a⟩:=s;delta CQ;dsimp only;infer_instance
instance (a0) (s):Mi (Fw a0 s):=by delta Fw;infer_instance
instance (a0) (a):Mi (De a0 a):=by delta De;infer_instance
instance (a0) (s):Mi (CR a0 s):=by obtain⟨b,a⟩:=s;delta CR;dsimp only;infer_instance
instance (a0) (s):Mi (Fx a0 s):=by delta Fx;infer_instance
instance (a0):Mi (DL a0):=by delta DL;infer_instance
instance (a):Mi (LO a):=by delta LO;infer_instance
instance (a0):Mi (Ka a0):=by delta Ka;infer_instance
instance (a):Mi (Kb a):=by delta Kb;infer_instance
instance (a0) (s):Mi (Is a0 s):=by obtain⟨b,a⟩:=s;delta Is;dsimp only;infer_instance
instance (a0) (s):Mi (LP a0 s):=by delta LP;infer_instance
instance (a0):Mi (Ly a0):=by delta Ly;infer_instance
instance (a0):Mi (Gr a0):=by delta Gr;infer_instance
instance (a0) (a):Mi (GZ a0 a):=by delta GZ;infer_instance
def FT(a0:Int)(a1:List (((List UInt8)×Int×Int×(List UInt8))×(List Int)))(b:(List ((List UInt8)×Int×Int×(List UInt8)))):(List (((List UInt8)×Int×Int×(List UInt8))×(List Int)))×Int->Option (((List (((List UInt8)×Int×Int×(List UInt8))×(List Int)))×Int) ⊕ ((Int×(List (((List UInt8)×Int×Int×(List UInt8))×(List Int))))×(Int×Int))):=fun⟨d,a⟩=>
 if a<(b.length:Int) then Go.L.AO (0<=a/\a<(b.length:Int)) (Qq4 (Fc (Go.L.BW [] ((b.getD a.toNat Qq2).1,(b.getD a.toNat Qq2).2.1,(b.getD a.toNat Qq2).2.2.1,(b.getD a.toNat Qq2).2.2.2) a1)) (fun c=>Go.L.AO (c.length<4611686018427387904) (Go.L.AO ((isI c).length<=9223372036854775807) (Go.L.AO (Go.E.Io 72 (d.length+([(((b.getD a.toNat Qq2).1,(b.getD a.toNat Qq2).2.1,(b.getD a.toNat Qq2).2.2.1,(b.getD a.toNat Qq2).2.2.2),(Lib.compact (isI c)))]).length)) (Go.L.AO (Go.L.Bw (a+(1:Int))) (some (Sum.inl ((d++[(((b.getD a.toNat Qq2).1,(b.getD a.toNat Qq2).2.1,(b.getD a.toNat Qq2).2.2.1,(b.getD a.toNat Qq2).2.2.2),(Lib.compact (isI c)))]),(a+(1:Int)))))))))) else Option.map Sum.inr ((GZ a0) d)
theorem QR:@FT = @Gs:=by
 unfold FT Gs;simp only [VN,VM,QP]
instance (a0) (a1) (b) (s):Mi (FT a0 a1 b s):=by obtain⟨c,a⟩:=s;delta FT;dsimp only;infer_instance
instance (a0) (a1) (a) (s):Mi (Gs a0 a1 a s):=⟨(inferInstance:Mi (FT a0 a1 a s)).c,by rw [<- QR];exact(inferInstance:Mi (FT a0 a1 a s)).h⟩
instance (a0) (a1) (a) (s):Mi (KX a0 a1 a s):=by delta KX;infer_instance
instance (a0) (a1):Mi (Hp a0 a1):=by delta Hp;infer_instance
instance (a0) (a):Mi (J4 a0 a):=by delta J4;infer_instance
instance (a0) (s):Mi (Df a0 s):=by obtain⟨b,a⟩:=s;delta Df;dsimp only;infer_instance
instance (a0) (s):Mi (KY a0 s):=by delta KY;infer_instance
instance (a0):Mi (Kr a0):=by delta Kr;infer_instance
instance (g) (a) (b) (c) (d) (e) (f):Mi (Eg g a b c d e f):=by delta Eg;infer_instance
instance (a) (b) (c):Mi (EN a b c):=by delta EN;infer_instance
instance (a0) (s):Mi (Dk a0 s):=by obtain⟨b,c,d,a⟩:=s;delta Dk;dsimp only;repeat' first | (show Mi _;infer_instance) | refine @iB _ _ _ _ ?_ (fun _=>?_) | refine @iC _ _ _ _ ?_ | refine @iI _ _ _ _ _ ?_ ?_
instance (a0) (s):Mi (J8 a0 s):=by delta J8;infer_instance
instance (a0):Mi (Jt a0):=by delta Jt;infer_instance
instance (a0):Mi (FW a0):=by delta FW;infer_instance
instance (a0):Mi (BO a0):=by delta BO;infer_instance
instance (a0):Mi (IG a0):=by delta IG;infer_instance
instance (a0) (a1):Mi (Ei a0 a1):=by delta Ei;infer_instance
instance (a0) (a1):Mi (strings_Compare a0 a1):=by delta strings_Compare;infer_instance
instance (a0) (a1):Mi (Gt a0 a1):=by delta Gt;infer_instance
instance (a0) (a1) (a):Mi (Bx a0 a1 a):=by delta Bx;infer_instance
instance (a0) (a1) (s):Mi (Bs a0 a1 s):=by obtain⟨b,a⟩:=s;delta Bs;dsimp only;repeat' first | (show Mi _;infer_instance) | refine @iB _ _ _ _ ?_ (fun _=>?_) | refine @iC _ _ _ _ ?_ | refine @iI _ _ _ _ _ ?_ ?_
instance (a0) (a1) (s):Mi (BC a0 a1 s):=by delta BC;infer_instance
instance (a0) (a1):Mi (Bm a0 a1):=by delta Bm;infer_instance
instance (a0) (a1):Mi (DD a0 a1):=by delta DD;infer_instance
instance (a0):Mi (D7 a0):=by delta D7;infer_instance
instance (a0) (a1):Mi (Gu a0 a1):=by delta Gu;infer_instance
instance (a):Mi (Je a):=by delta Je;infer_instance
instance (a0) (s):Mi (GS a0 s):=by obtain⟨b,a⟩:=s;delta GS;dsimp only;infer_instance
instance (a0) (s):Mi (Ky a0 s):=by delta Ky;infer_instance
instance (a0):Mi (H6 a0):=by delta H6;infer_instance
instance (a):Mi (B0 a):=by delta B0;infer_instance
instance (a):Mi (FG a):=by delta FG;infer_instance
instance:Mi (CU):=by delta CU;infer_instance
instance (a0) (a1) (s):Mi (B5 a0 a1 s):=by delta B5;infer_instance
instance (a0) (a1) (s):Mi (DR a0 a1 s):=by delta DR;infer_instance
instance (a0) (a1):Mi (D6 a0 a1):=by delta D6;infer_instance
instance (a0) (a1):Mi (Cj a0 a1):=by delta Cj;infer_instance
instance (a) (b):Mi (CW a b):=by delta CW;infer_instance
instance (b) (a) (c):Mi (E6 b a c):=by delta E6;infer_instance
instance (a0) (a1) (b) (a) (c) (s):Mi (Cm a0 a1 b a c s):=by delta Cm;infer_instance
instance (a0) (a1) (b) (a) (c) (s):Mi (Ia a0 a1 b a c s):=by delta Ia;infer_instance
instance (a):Mi (Ga a):=by delta Ga;infer_instance
instance (a0) (a1) (a) (s):Mi (CL a0 a1 a s):=by obtain⟨c,b⟩:=s;delta CL;dsimp only;infer_instance
instance (a0) (a1) (a) (s):Mi (Ib a0 a1 a s):=by delta Ib;infer_instance
instance (a0) (a1):Mi (Gb a0 a1):=by delta Gb;infer_instance
instance (a0) (a1) (s):Mi (CM a0 a1 s):=by delta CM;infer_instance
instance (a0) (a1) (s):Mi (Ic a0 a1 s):=by delta Ic;infer_instance
instance (a0) (a1):Mi (Ed a0 a1):=by delta Ed;infer_instance
instance (a0) (a1) (a2):Mi (EW a0 a1 a2):=by delta EW;infer_instance
instance (a) (b) (c):Mi (Cr a b c):=by delta Cr;infer_instance
instance (a0) (s):Mi (Bp a0 s):=by obtain⟨b,c,d,a⟩:=s;delta Bp;dsimp only;infer_instance
instance (a0) (s):Mi (Dp a0 s):=by delta Dp;infer_instance
instance (a0) (a1_c0) (a1_c1):Mi (CN a0 a1_c0 a1_c1):=by delta CN;infer_instance
instance (a0) (a1_c0) (a1_c1):Mi (BI a0 a1_c0 a1_c1):=by delta BI;infer_instance
instance (a) (_c100):Mi (Hh a _c100):=by delta Hh;infer_instance
instance (a0) (a2) (a) (s):Mi (Du a0 a2 a s):=by obtain⟨c,d,b⟩:=s;delta Du;dsimp only;repeat' first | (show Mi _;infer_instance) | refine @iB _ _ _ _ ?_ (fun _=>?_) | refine @iC _ _ _ _ ?_ | refine @iI _ _ _ _ _ ?_ ?_
instance (a0) (a2) (a) (s):Mi (K4 a0 a2 a s):=by delta K4;infer_instance
instance (a0) (a1) (a2) (a3):Mi (Ff a0 a1 a2 a3):=by delta Ff;infer_instance
instance (a0) (a1):Mi (KQ a0 a1):=by delta KQ;infer_instance
instance (a0):Mi (D0 a0):=by delta D0;infer_instance
instance (a0) (a1) (a3) (c) (d) (a) (b):Mi (BR a0 a1 a3 c d a b):=by delta BR;infer_instance
instance (a) (b) (c):Mi (Es a b c):=by delta Es;infer_instance
instance (a0) (a1) (a2) (a3) (s):Mi (Cv a0 a1 a2 a3 s):=by obtain⟨a,b,c,d⟩:=s;delta Cv;dsimp only;repeat' first | (show Mi _;infer_instance) | refine @iB _ _ _ _ ?_ (fun _=>?_) | refine @iC _ _ _ _ ?_ | refine @iI _ _ _ _ _ ?_ ?_
instance (a0) (a1) (a2) (a3) (s):Mi (Iq a0 a1 a2 a3 s):=by delta Iq;infer_instance
instance (a0) (a1) (a2) (a3):Mi (F7 a0 a1 a2 a3):=by delta F7;infer_instance
instance (a) (b):Mi (E8 a b):=by delta E8;infer_instance
instance (a0) (a1) (s):Mi (BV a0 a1 s):=by obtain⟨a,b,c⟩:=s;delta BV;dsimp only;infer_instance
instance (a0) (a1) (s):Mi (Gd a0 a1 s):=by delta Gd;infer_instance
instance (a0) (a1):Mi (EX a0 a1):=by delta EX;infer_instance
instance (a0) (a1):Mi (Ex a0 a1):=by delta Ex;infer_instance
instance (a0) (a1) (s):Mi (Dl a0 a1 s):=by obtain⟨b,a⟩:=s;delta Dl;dsimp only;infer_instance
instance (a0) (a1) (s):Mi (FH a0 a1 s):=by delta FH;infer_instance
instance (_a0):Mi (Hf _a0):=by delta Hf;infer_instance
instance (a0) (a1):Mi (Gk a0 a1):=by delta Gk;infer_instance
instance (b) (a):Mi (Cn b a):=by delta Cn;infer_instance
instance (a) (s):Mi (BF a s):=by obtain⟨d,b,c⟩:=s;delta BF;dsimp only;repeat' first | (show Mi _;infer_instance) | refine @iB _ _ _ _ ?_ (fun _=>?_) | refine @iC _ _ _ _ ?_ | refine @iI _ _ _ _ _ ?_ ?_
instance (a) (s):Mi (Co a s):=by delta Co;infer_instance
instance (b) (a):Mi (Cp b a):=by delta Cp;infer_instance
instance (a):Mi (Cq a):=by delta Cq;infer_instance
instance (s):Mi (Bo s):=by obtain⟨b,a⟩:=s;delta Bo;dsimp only;infer_instance
instance (s):Mi (EF s):=by delta EF;infer_instance
instance (a0):Mi (Cc a0):=by delta Cc;infer_instance
instance:Mi (GC):=by delta GC;infer_instance
instance (a0) (a1) (self) [∀ a b,Mi (self a b)] (s):Mi (Cy a0 a1 self s):=by delta Cy;infer_instance
instance (a0) (a1) (self) [∀ a b,Mi (self a b)] (s):Mi (JU a0 a1 self s):=by delta JU;infer_instance
instance (a0) (a1) (self) [∀ a b,Mi (self a b)]:Mi (GD a0 a1 self):=by delta GD;repeat' first | (show Mi _;infer_instance) | refine @iB _ _ _ _ ?_ (fun _=>?_) | refine @iC _ _ _ _ ?_ | refine @iI _ _ _ _ _ ?_ ?_
instance (self) [∀ a b,Mi (self a b)] (a0) (a1):Mi (DJ self a0 a1):=by delta DJ;infer_instance
instance TC:∀ (n:Nat) (y0) (y1),Mi (EE n y0 y1)
 | 0,_,_=>⟨none,fun _ h=>by cases h⟩
 | n+1,y0,y1=>by
  haveI:=TC n
  show Mi (DJ (EE n) y0 y1)
  infer_instance
instance (y0) (y1):Mi (LI y0 y1):=by delta LI;infer_instance
instance (a0) (a1):Mi (DT a0 a1):=by delta DT;infer_instance
def Dn(a:List Int):Option ((List Int)):=
 Go.L.AO (a.length<4611686018427387904) (Go.L.AO ((isI a).length<=9223372036854775807) (some ((Lib.compact (isI a)))))
theorem N6:@Dn = @DM:=by
 unfold Dn DM;simp only [VN,VM,QP]
instance (a):Mi (Dn a):=by delta Dn;infer_instance
instance (a):Mi (DM a):=⟨(inferInstance:Mi (Dn a)).c,by rw [<- N6];exact(inferInstance:Mi (Dn a)).h⟩
instance (a0) (a1) (s):Mi (DC a0 a1 s):=by obtain⟨b,a⟩:=s;delta DC;dsimp only;repeat' first | (show Mi _;infer_instance) | refine @iB _ _ _ _ ?_ (fun _=>?_) | refine @iC _ _ _ _ ?_ | refine @iI _ _ _ _ _ ?_ ?_
instance (a0) (a1) (s):Mi (GQ a0 a1 s):=by delta GQ;infer_instance
instance (a0) (a1):Mi (Fe a0 a1):=by delta Fe;infer_instance
instance (a0) (a1):Mi (Fy a0 a1):=by delta Fy;infer_instance
instance (a0) (a1) (a2):Mi (DG a0 a1 a2):=by delta DG;infer_instance
def C5(a:List Int)(b:Int)(c:Int):Option ((List Int)×Int×Int):=
 Go.L.AO (a.length<4611686018427387904) (Go.L.AO ((isI a).length<=9223372036854775807) (some ((Lib.compact (isI a)),b,c)))
theorem MB:@C5 = @Dg:=by
 unfold C5 Dg;simp only [VN,VM,QP]
instance (a) (b) (c):Mi (C5 a b c):=by delta C5;infer_instance
instance (a) (b) (d):Mi (Dg a b d):=⟨(inferInstance:Mi (C5 a b d)).c,by rw [<- MB];exact(inferInstance:Mi (C5 a b d)).h⟩
instance (a0) (a1) (s):Mi (CS a0 a1 s):=by obtain⟨b,c,d,a⟩:=s;delta CS;dsimp only;repeat' first | (show Mi _;infer_instance) | refine @iB _ _ _ _ ?_ (fun _=>?_) | refine @iC _ _ _ _ ?_ | refine @iI _ _ _ _ _ ?_ ?_
instance (a0) (a1) (s):Mi (Fz a0 a1 s):=by delta Fz;infer_instance
instance (a0) (a1) (a2_c0) (a2_c1):Mi (DN a0 a1 a2_c0 a2_c1):=by delta DN;infer_instance
instance (a0) (a1) (a2) (a3):Mi (Ev a0 a1 a2 a3):=by delta Ev;infer_instance
instance (a0) (a1):Mi (Ew a0 a1):=by delta Ew;infer_instance
def C6(a:List Int)(b:List UInt8):Option ((List Int)×(List UInt8)):=
 Go.L.AO (a.length<4611686018427387904) (Go.L.AO ((isI a).length<=9223372036854775807) (some ((Lib.compact (isI a)),b)))
theorem MC:@C6 = @Dh:=by
 unfold C6 Dh;simp only [VN,VM,QP]
instance (a) (b):Mi (C6 a b):=by delta C6;infer_instance
instance (a) (b):Mi (Dh a b):=⟨(inferInstance:Mi (C6 a b)).c,by rw [<- MC];exact(inferInstance:Mi (C6 a b)).h⟩
instance (a0) (a1) (s):Mi (CT a0 a1 s):=by obtain⟨b,c,a⟩:=s;delta CT;dsimp only;repeat' first | (show Mi _;infer_instance) | refine @iB _ _ _ _ ?_ (fun _=>?_) | refine @iC _ _ _ _ ?_ | refine @iI _ _ _ _ _ ?_ ?_
instance (a0) (a1) (s):Mi (F0 a0 a1 s):=by delta F0;infer_instance
instance (a0) (a1) (a2_c0):Mi (DO a0 a1 a2_c0):=by delta DO;infer_instance
instance (a0) (a1) (a2):Mi (F1 a0 a1 a2):=by delta F1;infer_instance
instance (a0) (a1):Mi (CZ a0 a1):=by delta CZ;repeat' first | (show Mi _;infer_instance) | refine @iB _ _ _ _ ?_ (fun _=>?_) | refine @iC _ _ _ _ ?_ | refine @iI _ _ _ _ _ ?_ ?_
instance (a):Mi (Ge a):=by delta Ge;infer_instance
instance (a1) (s):Mi (D1 a1 s):=by obtain⟨b,a⟩:=s;delta D1;dsimp only;infer_instance
instance (a1) (s):Mi (Gf a1 s):=by delta Gf;infer_instance
instance (a0) (a1):Mi (EY a0 a1):=by delta EY;infer_instance
instance (a) (b):Mi (CD a b):=by delta CD;infer_instance
instance (a1) (a) (b) (s):Mi (BY a1 a b s):=by obtain⟨d,c⟩:=s;delta BY;dsimp only;repeat' first | (show Mi _;infer_instance) | refine @iB _ _ _ _ ?_ (fun _=>?_) | refine @iC _ _ _ _ ?_ | refine @iI _ _ _ _ _ ?_ ?_
instance (a1) (a) (b) (s):Mi (D8 a1 a b s):=by delta D8;infer_instance
instance (a):Mi (CC a):=by delta CC;infer_instance
instance (a0) (a1) (self) [∀ b c,Mi (self b c)] (s):Mi (BH a0 a1 self s):=by obtain⟨d,a⟩:=s;delta BH;dsimp only;infer_instance
instance (a0) (a1) (self) [∀ a b,Mi (self a b)] (s):Mi (CE a0 a1 self s):=by delta CE;infer_instance
instance (a0) (a1) (self) [∀ b c,Mi (self b c)] (a):Mi (Cf a0 a1 self a):=by delta Cf;infer_instance
instance (a0) (a1) (self) [∀ c d,Mi (self c d)] (a) (s):Mi (BZ a0 a1 self a s):=by obtain⟨e,b⟩:=s;delta BZ;dsimp only;infer_instance
instance (a0) (a1) (self) [∀ b c,Mi (self b c)] (a) (s):Mi (D9 a0 a1 self a s):=by delta D9;infer_instance
instance (self) [∀ a b,Mi (self a b)] (a0) (a1):Mi (CA self a0 a1):=by delta CA;infer_instance
instance O9:∀ (n:Nat) (y0) (y1),Mi (Bq n y0 y1)
 | 0,_,_=>⟨none,fun _ h=>by cases h⟩
 | n+1,y0,y1=>by
  haveI:=O9 n
  show Mi (CA (Bq n) y0 y1)
  infer_instance
instance (y0) (y1):Mi (Fh y0 y1):=by delta Fh;infer_instance
instance (a):Mi (Gg a):=by delta Gg;infer_instance
instance (a2) (a) (s):Mi (D2 a2 a s):=by obtain⟨c,b⟩:=s;delta D2;dsimp only;infer_instance
instance (a2) (a) (s):Mi (Gh a2 a s):=by delta Gh;infer_instance
instance (a0) (a1) (a2):Mi (Cw a0 a1 a2):=by delta Cw;infer_instance
instance (a0):Mi (Ef a0):=by delta Ef;infer_instance
instance (a):Mi (Ih a):=by delta Ih;infer_instance
instance (a0) (s):Mi (Hv a0 s):=by obtain⟨c,a,b⟩:=s;delta Hv;dsimp only;infer_instance
instance (a0) (s):Mi (JG a0 s):=by delta JG;infer_instance
instance (a0):Mi (Jr a0):=by delta Jr;infer_instance
instance (a0):Mi (Ft a0):=by delta Ft;infer_instance
instance (a0) (a1) (a2):Mi (Ii a0 a1 a2):=by delta Ii;infer_instance
instance (a0):Mi (Ik a0):=by delta Ik;infer_instance
instance (a0) (a1) (a2) (a3):Mi (Hx a0 a1 a2 a3):=by delta Hx;infer_instance
instance (a0) (a1) (a2) (a3) (a4):Mi (Hj a0 a1 a2 a3 a4):=by delta Hj;infer_instance
instance (a0) (a) (b):Mi (I3 a0 a b):=by delta I3;infer_instance
instance (a0) (a) (b) (s):Mi (Ie a0 a b s):=by delta Ie;infer_instance
instance (a0) (a) (b) (s):Mi (Ki a0 a b s):=by delta Ki;infer_instance
instance (_self) (a0):Mi (I4 _self a0):=by delta I4;infer_instance
instance TD:∀ (n:Nat) (y0),Mi (Jc n y0)
 | 0,_=>⟨none,fun _ h=>by cases h⟩
 | n+1,y0=>by
  haveI:=TD n
  show Mi (I4 (Jc n) y0)
  infer_instance
instance (y0):Mi (LU y0):=by delta LU;infer_instance
instance (a) (b):Mi (Ig a b):=by delta Ig;infer_instance
instance (a0) (a1) (b) (self) [∀ c d,Mi (self c d)] (s):Mi (Ht a0 a1 b self s):=by obtain⟨e,a⟩:=s;delta Ht;dsimp only;infer_instance
instance (a0) (a1) (a) (self) [∀ b c,Mi (self b c)] (s):Mi (JF a0 a1 a self s):=by delta JF;infer_instance
instance (a0) (a1) (self) [∀ b c,Mi (self b c)] (a):Mi (Gc a0 a1 self a):=by delta Gc;infer_instance
instance (self) [∀ a b,Mi (self a b)] (a0) (a1):Mi (HS self a0 a1):=by delta HS;repeat' first | (show Mi _;infer_instance) | refine @iB _ _ _ _ ?_ (fun _=>?_) | refine @iC _ _ _ _ ?_ | refine @iI _ _ _ _ _ ?_ ?_
instance SR:∀ (n:Nat) (y0) (y1),Mi (It n y0 y1)
 | 0,_,_=>⟨none,fun _ h=>by cases h⟩
 | n+1,y0,y1=>by
  haveI:=SR n
  show Mi (HS (It n) y0 y1)
  infer_instance
instance (y0) (y1):Mi (MH y0 y1):=by delta MH;infer_instance
instance (a0):Mi (MI a0):=by delta MI;infer_instance
instance (a0) (a1):Mi (JQ a0 a1):=by delta JQ;infer_instance
instance:Mi (MG):=by delta MG;infer_instance
instance (a0) (a1) (s):Mi (LH a0 a1 s):=by delta LH;infer_instance
instance (a0) (a1) (s):Mi (O1 a0 a1 s):=by delta O1;infer_instance
instance (a0) (a1):Mi (Py a0 a1):=by delta Py;infer_instance
instance:Mi (Hy):=by delta Hy;infer_instance
instance (a0) (a1) (self) [∀ a b,Mi (self a b)] (s):Mi (GU a0 a1 self s):=by delta GU;infer_instance
instance (a0) (a1) (self) [∀ a b,Mi (self a b)] (s):Mi (Jx a0 a1 self s):=by delta Jx;infer_instance
instance (a0) (a1) (self) [∀ a b,Mi (self a b)]:Mi (Hz a0 a1 self):=by delta Hz;infer_instance
instance (self) [∀ a b,Mi (self a b)] (a0) (a1):Mi (Hk self a0 a1):=by delta Hk;infer_instance
instance RX:∀ (n:Nat) (y0) (y1),Mi (HF n y0 y1)
 | 0,_,_=>⟨none,fun _ h=>by cases h⟩
 | n+1,y0,y1=>by
  haveI:=RX n
  show Mi (Hk (HF n) y0 y1)
  infer_instance
instance (y0) (y1):Mi (Mc y0 y1):=by delta Mc;infer_instance
instance:Mi (Nz):=by delta Nz;infer_instance
instance (a0) (a1) (s):Mi (MF a0 a1 s):=by delta MF;infer_instance
instance (a0) (a1) (s):Mi (Pw a0 a1 s):=by delta Pw;infer_instance
instance (a0) (a1):Mi (Ra a0 a1):=by delta Ra;infer_instance
instance (a0) (a1):Mi (LF a0 a1):=by delta LF;infer_instance
instance (a):Mi (G5 a):=by delta G5;infer_instance
instance:Mi (L2):=by delta L2;repeat' first | (show Mi _;infer_instance) | refine @iB _ _ _ _ ?_ (fun _=>?_) | refine @iC _ _ _ _ ?_ | refine @iI _ _ _ _ _ ?_ ?_
theorem AcD:L2=some true:=(inferInstance:Mi L2).h true Qqb
end
end Go.Proofs.YtekmbcbgknmhiaaGreatDoor
end
noncomputable section
namespace Go.Proofs.YtekmbcbgknmhiaaGreatDoor
open Go Go.L
theorem AgT{l:List (List UInt8×Pv)}(hs:∀ d∈l,Sd d){q:Qv}(hq:Sq q){vis:List Bool}:HW l q vis=some true:=by
 obtain⟨⟨L,f⟩,hb,hr⟩:=ZC hs;unfold HW;rw [hb,Qq6,AcD];simp only [Qq6,Bool.not_true,Bool.false_eq_true,if_false,if_true];simp only at hr
 rcases hr with ⟨a,hl,ht,hv,rfl⟩ | ⟨a,rfl⟩
 ·rw [if_pos a];exact AhY hl (x:=(QO l,f)) (Qzk ..) (Aik hl hs ht hv) hq
 ·rw [if_neg a];unfold BO SK
  rfl
end Go.Proofs.YtekmbcbgknmhiaaGreatDoor
end
noncomputable section
namespace Go.E
open Go Go.RowKit Go.ChangeShapes Go.WideShapes
section
variable {H:Type} {enc:TypeId×Value->H} {P:Program} {w:World} {base:Nat} {spare:Nat->Bool} {held:Bool}
theorem wf_u8{n:Int}(h:(Lit.int .u8 n).wf=true):0<=n/\n<=255:=by
 simpa [Lit.wf,IntKind.min,IntKind.max,IntKind.signed,IntKind.bits] using h
theorem wf_i64{n:Int}(h:(Lit.int .i64 n).wf=true): -9223372036854775808<=n/\n<=9223372036854775807:=by
 simpa [Lit.wf,IntKind.min,IntKind.max,IntKind.signed,IntKind.bits] using h
theorem RF(hl:laidOutB P=true){W W':World}(hb:Below W.heap.size W W'):∀ {ts:List TypeId} {vs:List Value} {ds:List (DataW H)} {ps:List MemPlace},(∀ t∈ts,P.readableRec t=true/\t<P.types.size)->
  DataW.TrodAll enc P W 0 (fun _=>true) true ts vs ds ps->(∀ x∈ps,x.block<W.heap.size)->DataW.TrodAll enc P W' 0 (fun b=>decide (b<W.heap.size)) true ts vs ds ps
 | [],[],[],ps,_,h,_=>h
 | t::ts,v::vs,d::ds,ps,ht,h,hlt=>by
  obtain⟨p,q,c,h2,rfl⟩:=h;have a:=ht t (.head _);exact⟨p,q,Below.trod hl a.1 a.2 c hb (fun x hx=>hlt x (Qze.2 (.inl hx))),RF hl hb (fun t' h'=>ht t' (.tail _ h')) h2 (fun x hx=>hlt x (Qze.2 (.inr hx))),Z⟩
 | [],[],_::_,_,_,h,_=>by cases h
 | [],_::_,_,_,_,h,_=>by cases h
 | _::_,[],_,_,_,h,_=>by cases h
 | _::_,_::_,[],_,_,h,_=>by cases h
end
end Go.E
namespace Go.E
open Go Go.RowKit Go.ChangeShapes Go.WideShapes Go.Deep
def Reads(P:Program)(t:TypeId){α:Type}(r:Rp α)(ok:α->Prop):Prop:=
 ∀
  {H:Type} {enc:TypeId×Value->H} {w:World} {base:Nat} {spare:Nat->Bool} {held:Bool} {fuel:Nat} {cs:List Value} {x:DataW H×List MemPlace},
  DataW.trod enc P w base spare held fuel t cs=some x->∃ a,r.rel (hp w) a cs/\ok a
section
variable {P:Program} {t e:TypeId}
theorem Ph(ht:P.underlying t=some (.int .i64)):Reads P t (.int .i64) (fun n=>Go.L.Bw n):=fun h=>by
 obtain⟨n,rfl,_,hw⟩:=DataW.trod_int ht h;exact⟨n,Z,wf_i64 hw⟩
theorem RY(ht:P.underlying t=some (.int .u8)):Reads P t .byte (fun _=>True):=fun h=>by
 obtain⟨n,rfl,_,hw⟩:=DataW.trod_int ht h;have hw':=wf_u8 hw;refine⟨Go.L.u8 n,?_,trivial⟩
 show[_]=[_]
 rw [Go.L.Y6,Int.emod_eq_of_lt U U]
theorem Aa7(ht:P.underlying t=some .bool):Reads P t .bool (fun _=>True):=fun h=>by
 obtain⟨n,rfl,_⟩:=DataW.trod_bool ht h;exact⟨n,Z,trivial⟩
theorem ZE[Dr]{α:Type}{r:Rp α}{ok:α->Prop}(ht:P.underlying t=some (.slice e))(hc:P.cellsOf e=r.sz)(hsz:0<r.sz)(hr:Reads P e r ok):Reads P t (.vec r) (fun l=>l.length<=9223372036854775807/\∀ x∈l,ok x):=fun {H enc w base spare held fuel cs x} h=>by
 rcases open_slice ht h with ⟨rfl,_⟩ | ⟨a,len,cap,m,n,D,Pl,rfl,hb,hl,hm,rfl,_,hel⟩
 ·exact⟨[],⟨_,Z,AH.nil _ _⟩,by simp,by simp⟩
 ·have q:len<=(if spare a.block then cap else len):=by split <;> omega
  have hx:∀ i,i<len->∃ y,ok y/\∃ c,r.rel (hp w) y c/\w.cells? base (a.add (i * r.sz)) r.sz=some c:=fun i hi=>by
   obtain⟨cs',f,h2⟩:=hel i U;obtain⟨y,h3,b⟩:=hr h2;rw [hc] at f;exact⟨y,b,cs',h3,f⟩
  have key:∀ k,k<=len->∃ l:List α,l.length=k/\(∀ x∈l,ok x)/\∀ i y,l[i]? = some y->∃ c,r.rel (hp w) y c/\w.cells? base (a.add (i * r.sz)) r.sz=some c:=by
   intro k
   induction k with
   | zero=>intro _;exact⟨[],Z,by simp,by simp⟩
   | succ k ih=>
    intro hk;obtain⟨l,f,h2,h3⟩:=ih U;obtain⟨y,b,c,d,p⟩:=hx k U;refine⟨l++[y],by simp [f],fun z hz=>?_,fun i z hz=>?_⟩
    ·rcases Qze.1 hz with hz | hz
     ·exact h2 z hz
     ·simp at hz;subst hz;exact b
    ·rcases Qxk i l.length with hi | hi
     ·rw [Qkf hi] at hz;exact h3 i z hz
     ·rw [QkJ hi] at hz
      have g:i - l.length=0:=by
       have:=(QzC.1 hz).1;simp at this;omega
      rw [g] at hz;simp at hz;subst hz;obtain rfl:i=k:=by omega
      exact⟨c,d,p⟩
  obtain⟨l,f,h2,h3⟩:=key len (Qzx _);have hlm:len<=9223372036854775807:=by unfold maxLen at hm;omega
  refine⟨l,⟨_,Z,some a,cap,by rw [f],by omega,hm,(fun h=>by cases h),fun A hA hne=>?_⟩,by omega,h2⟩
  cases hA
  have cell:∀ i y,l[i]? = some y->∃ c,r.rel (hp w) y c/\∀ j u,c[j]? = some u->w.cell? ((a.add (i * r.sz)).add j)=some u:=fun i y hy=>by
   obtain⟨c,b,d⟩:=h3 i y hy;obtain⟨_,hlen,hcell⟩:=World.cells?_some d;exact⟨c,b,fun j u hu=>by rw [<- hu];exact hcell j (by rw [<- hlen];exact(QzC.1 hu).1)⟩
  have hspot:a.spot=none:=by
   obtain⟨y,l',rfl⟩:=QkE hne;obtain⟨c,b,d⟩:=cell 0 y Z;have o:0<c.length:=by rw [r.len b];omega
   have:=World.cell?_spot (d 0 _ (Qzw o))
   simpa [Addr.add] using this
  refine⟨hspot,fun i y hy=>?_⟩;obtain⟨c,b,d⟩:=cell i y hy;refine⟨c,b,fun j u hu=>?_⟩;rw [<- Kn hspot];exact d j u hu
end
end Go.E
end
noncomputable section
namespace Go.Proofs.YtekmbcbgknmhiaaGreatDoor.Ou
open Go Go.E
theorem one_le{H:Type}(d:DataW H):1<=Rows.uptoBulk d:=by
 cases d with
 | lit l=>cases l <;> simp [Rows.uptoBulk]
 | nil=>simp [Rows.uptoBulk]
 | ptr d=>simp [Rows.uptoBulk]
 | slice elems spare=>simp [Rows.uptoBulk]
 | agg parts=>simp [Rows.uptoBulk]
 | iface t d=>simp [Rows.uptoBulk]
 | map entries=>simp [Rows.uptoBulk]
 | held h=>simp [Rows.uptoBulk]
theorem length_le{H:Type}(l:List (DataW H)):l.length<=Rows.uptoBulkAll l:=by
 induction l with
 | nil=>simp [Rows.uptoBulkAll]
 | cons x r ih=>have:=one_le x;simp only [Rows.uptoBulkAll,Qzj];omega
theorem bound{H:Type}{l:List (DataW H)}(hk:Rows.uptoSmall H l=true):Rows.uptoBulkAll l<=1048576:=of_decide_eq_true hk
theorem Aa8{H:Type}{enc:TypeId×Value->H}{P:Program}{w:World}{base:Nat}{spare:Nat->Bool}{held:Bool}{fuel:Nat}{t e:TypeId}{b:Option Addr}{len cap:Nat}{x:DataW H×List MemPlace}
  (ht:P.underlying t=some (.slice e)) (h:DataW.trod enc P w base spare held fuel t [.slice b len cap]=some x):len+1<=Rows.uptoBulk x.1:=by
 rcases Deep.open_slice ht h with ⟨c,rfl⟩ | ⟨a,len',cap',m,n,D,Pl,c,_,_,_,_,rfl,_⟩
 ·simp only [List.cons.injEq,Value.slice.injEq,and_true] at c;obtain⟨_,rfl,_⟩:=c;exact Qzx _
 ·simp only [List.cons.injEq,Value.slice.injEq,and_true] at c;obtain⟨_,rfl,_⟩:=c;have h2:=length_le ((Qzv len).map D);rw [Qzk,QxB] at h2;simp only [Rows.uptoBulk];omega
theorem AgU{α:Type}{r:Rp α}{H:PH}{b:Option Addr}{len cap:Nat}{l:List α}(h:AH r H (.slice b len cap) l):l.length=len:=by
 obtain⟨_,_,a,_⟩:=h.ex;simp only [Value.slice.injEq] at a;exact a.2.1.symm
end Go.Proofs.YtekmbcbgknmhiaaGreatDoor.Ou
namespace Go.Proofs.YtekmbcbgknmhiaaGreatDoor.Ou
open Go Go.E Go.RowKit Go.ChangeShapes Go.WideShapes Go.Deep Go.L
theorem U3{H:Type}{l:List (DataW H)}{x:DataW H}(h:x∈l):Rows.uptoBulk x<=Rows.uptoBulkAll l:=by
 induction l with
 | nil=>cases h
 | cons y l ih=>
  simp only [Rows.uptoBulkAll]
  rcases Qzy.1 h with rfl | h
  ·omega
  ·have:=ih h;omega
def RB(P:Program)(t:TypeId){α:Type}(r:Rp α)(ok:α->Prop)(k:Nat):Prop:=
 ∀
  {H:Type} {enc:TypeId×Value->H} {w:World} {base:Nat} {spare:Nat->Bool} {held:Bool} {fuel:Nat} {cs:List Value} {x:DataW H×List MemPlace},
  Rows.uptoBulk x.1<=k->DataW.trod enc P w base spare held fuel t cs=some x->∃ a,r.rel (hp w) a cs/\ok a
section
variable {P:Program} {t e:TypeId} {k:Nat}
theorem RB.use{α:Type}{r:Rp α}{ok:α->Prop}(h:RB P t r ok k){H:Type}{enc:TypeId×Value->H}{w:World}{base:Nat}{spare:Nat->Bool}{held:Bool}{fuel:Nat}{cs:List Value}{d:DataW H}{p:List MemPlace}
  (hk:Rows.uptoBulk d<=k) (hx:DataW.trod enc P w base spare held fuel t cs=some (d,p)):∃ a,r.rel (hp w) a cs/\ok a:=@h H enc w base spare held fuel cs (d,p) hk hx
theorem TW{α:Type}{r:Rp α}{ok:α->Prop}(h:Reads P t r ok):RB P t r ok k:=fun _ hx=>h hx
theorem Aa9(ht:P.underlying t=some .string):RB P t .st (fun l=>l.length<=k) k:=fun hk h=>by
 obtain⟨s,rfl,rfl,hs⟩:=DataW.trod_string ht h;simp only [Rows.uptoBulk] at hk;exact⟨s.data.toList,by show[_]=[_];simp,by omega⟩
theorem Nc{α:Type}{r:Rp α}{ok:α->Prop}(ht:P.underlying t=some (.slice e))(hc:P.cellsOf e=r.sz)(hsz:0<r.sz)(hr:RB P e r ok k):RB P t (.vec r) (fun l=>l.length<=k/\∀ x∈l,ok x) k:=fun {H enc w base spare held fuel cs x} hk h=>by
 rcases open_slice ht h with ⟨rfl,_⟩ | ⟨a,len,cap,m,n,D,Pl,rfl,hb,hl,hm,rfl,rfl,hel⟩
 ·exact⟨[],⟨_,Z,AH.nil _ _⟩,by simp,by simp⟩
 ·have s:len<=(if spare a.block then cap else len):=by split <;> omega
  simp only [Rows.uptoBulk] at hk;have hlk:=length_le ((Qzv len).map D);rw [Qzk,QxB] at hlk
  have hx:∀ i,i<len->∃ y,ok y/\∃ c,r.rel (hp w) y c/\w.cells? base (a.add (i * r.sz)) r.sz=some c:=fun i hi=>by
   obtain⟨cs',g,h2⟩:=hel i U;have hDi:=U3 (QkX (f:=D) (Qz7.2 hi));obtain⟨y,h3,b⟩:=hr (x:=(D i,Pl i)) (by show Rows.uptoBulk (D i)<=k;omega) h2;rw [hc] at g;exact⟨y,b,cs',h3,g⟩
  have key:∀ k,k<=len->∃ l:List α,l.length=k/\(∀ x∈l,ok x)/\∀ i y,l[i]? = some y->∃ c,r.rel (hp w) y c/\w.cells? base (a.add (i * r.sz)) r.sz=some c:=by
   intro k
   induction k with
   | zero=>intro _;exact⟨[],Z,by simp,by simp⟩
   | succ k ih=>
    intro hk;obtain⟨l,g,h2,h3⟩:=ih U;obtain⟨y,b,c,d,q⟩:=hx k U;refine⟨l++[y],by simp [g],fun z hz=>?_,fun i z hz=>?_⟩
    ·rcases Qze.1 hz with hz | hz
     ·exact h2 z hz
     ·simp at hz;subst hz;exact b
    ·rcases Qxk i l.length with hi | hi
     ·rw [Qkf hi] at hz;exact h3 i z hz
     ·rw [QkJ hi] at hz
      have o:i - l.length=0:=by
       have:=(QzC.1 hz).1;simp at this;omega
      rw [o] at hz;simp at hz;subst hz;obtain rfl:i=k:=by omega
      exact⟨c,d,q⟩
  obtain⟨l,g,h2,h3⟩:=key len (Qzx _);refine⟨l,⟨_,Z,some a,cap,by rw [g],by omega,hm,(fun h=>by cases h),fun A hA hne=>?_⟩,by omega,h2⟩
  cases hA
  have cell:∀ i y,l[i]? = some y->∃ c,r.rel (hp w) y c/\∀ j u,c[j]? = some u->w.cell? ((a.add (i * r.sz)).add j)=some u:=fun i y hy=>by
   obtain⟨c,b,d⟩:=h3 i y hy;obtain⟨_,hlen,hcell⟩:=World.cells?_some d;exact⟨c,b,fun j u hu=>by rw [<- hu];exact hcell j (by rw [<- hlen];exact(QzC.1 hu).1)⟩
  have hspot:a.spot=none:=by
   obtain⟨y,l',rfl⟩:=QkE hne;obtain⟨c,b,d⟩:=cell 0 y Z;have p:0<c.length:=by rw [r.len b];omega
   have:=World.cell?_spot (d 0 _ (Qzw p))
   simpa [Addr.add] using this
  refine⟨hspot,fun i y hy=>?_⟩;obtain⟨c,b,d⟩:=cell i y hy;refine⟨c,b,fun j u hu=>?_⟩;rw [<- Kn hspot];exact d j u hu
theorem Afl{f0 f1 f2 f3 f4 f5 f6:Field}{tw tb tp te tg:TypeId}(ht:P.underlying t=some (.struct #[f0,f1,f2,f3,f4,f5,f6]))(hc:P.cellsOf t=7)
  (b:f0.offset=0) (c:f1.offset=1) (e:f2.offset=2) (g:f3.offset=3) (j:f4.offset=4) (l:f5.offset=5) (m:f6.offset=6)
  (o:P.underlying f0.type=some (.int .i64)) (q:f1.type=tw) (s:P.underlying f2.type=some .string) (u:f3.type=tb) (u4:P.underlying f4.type=some (.int .i64)) (u5:P.underlying f5.type=some (.int .i64)) (e6:f6.type=tp)
  (c0:P.cellsOf f0.type=1) (c1:P.cellsOf tw=1) (c2:P.cellsOf f2.type=1) (c3:P.cellsOf tb=1) (c4:P.cellsOf f4.type=1) (c5:P.cellsOf f5.type=1) (c6:P.cellsOf tp=1)
  (uw:P.underlying tw=some (.slice tg)) (ug:P.underlying tg=some .string) (cg:P.cellsOf tg=1) (ub:P.underlying tb=some (.slice te)) (ue:P.underlying te=some (.int .u8)) (ce:P.cellsOf te=1) (up:P.underlying tp=some (.slice t)) (B:Nat) (k:Nat) (hB:k<=B):RB P t .B1 (fun v=>∀ d,Smq B d v) k:=by
 induction k with
 | zero=>
  intro H enc w base spare held fuel cs x hk h;have:=one_le x.1;omega
 | succ k ih0=>
  intro H enc w base spare held fuel cs x hk h;subst q;subst u;subst e6;obtain⟨xs,n,rfl,rfl,hl,hlen,hfs⟩:=DataW.trod_struct ht h;have ih:RB P t .B1 (fun v=>∀ d,Smq B d v) k:=@ih0 U;simp only [Rows.uptoBulk] at hk
  have hb:∀ y∈xs,Rows.uptoBulk y.1<=k:=fun y hy=>by
   have:=U3 (QkX (f:=fun z:DataW H×List MemPlace=>z.1) hy);omega
  have ax:xs.length=7:=by simpa using hlen
  have get:∀ (i:Nat) (f:Field),(#[f0,f1,f2,f3,f4,f5,f6]:Array Field)[i]? = some f->i<7->P.cellsOf f.type=1->f.offset=i->∃ y:DataW H×List MemPlace,Rows.uptoBulk y.1<=k/\DataW.trod enc P w base spare held n f.type ((cs.drop i).take 1)=some y:=fun i f hf hi hcf hof=>by
   have a:=hfs i f hf;rw [hcf,hof,Qzw (by omega:i<xs.length)] at a;exact⟨_,hb _ (Qxx _),a⟩
  obtain⟨y0,b0,t0⟩:=get 0 f0 Z U c0 b;obtain⟨y1,b1,t1⟩:=get 1 f1 Z U c1 c;obtain⟨y2,b2,t2⟩:=get 2 f2 Z U c2 e;obtain⟨y3,b3,t3⟩:=get 3 f3 Z U c3 g;obtain⟨y4,b4,t4⟩:=get 4 f4 Z U c4 j;obtain⟨y5,b5,t5⟩:=get 5 f5 Z U c5 l;obtain⟨y6,b6,t6⟩:=get 6 f6 Z U c6 m;obtain⟨a0,r0,_⟩:=TW (k:=k) (Ph o) b0 t0;obtain⟨a1,r1,q1,q1'⟩:=Nc uw cg Qqc (Aa9 (k:=k) ug) b1 t1;obtain⟨a2,r2,q2⟩:=Aa9 (k:=k) s b2 t2;obtain⟨a3,r3,q3,_⟩:=Nc ub ce Qqc (TW (k:=k) (RY ue)) b3 t3;obtain⟨a4,r4,q4⟩:=TW (k:=k) (Ph u4) b4 t4;obtain⟨a5,r5,q5⟩:=TW (k:=k) (Ph u5) b5 t5;obtain⟨a6,r6,q6,q6'⟩:=Nc up (r:=.B1) hc Qqc ih b6 t6;refine⟨.mk a0 a1 a2 a3 a4 a5 a6,Rp.H4 ?_,fun d=>?_⟩
  ·have hcs:cs=(cs.drop 0).take 1++((cs.drop 1).take 1++((cs.drop 2).take 1++((cs.drop 3).take 1++((cs.drop 4).take 1++((cs.drop 5).take 1++(cs.drop 6).take 1))))):=by
    have h7:cs.length=7:=by rw [hl,hc]
    match cs,h7 with
    | [_,_,_,_,_,_,_],_=>rfl
   exact⟨_,_,hcs,r0,_,_,Z,r1,_,_,Z,r2,_,_,Z,r3,_,_,Z,r4,_,_,Z,r5,r6⟩
  ·cases d with
   | zero=>exact trivial
   | succ d=>exact⟨by show a1.length<=B;omega,by show a2.length<=B;omega,by show a3.length<=B;omega,by show a6.length<=B;omega,fun x hx=>by have:=q1' x hx;omega,q4,q5,fun p hp=>q6' p hp d⟩
end
end Go.Proofs.YtekmbcbgknmhiaaGreatDoor.Ou
end
noncomputable section
namespace Go.Proofs.YtekmbcbgknmhiaaGreatDoor.Ou
open Go Go.E Go.RowKit Go.ChangeShapes Go.WideShapes Go.Deep Go.L
section
variable {P:Program} {t e:TypeId} {k:Nat}
theorem AgV{f0 f1 f2 f3 f4:Field}{tb ts tp te:TypeId}(ht:P.underlying t=some (.struct #[f0,f1,f2,f3,f4]))(hc:P.cellsOf t=5)
  (b:f0.offset=0) (c:f1.offset=1) (e:f2.offset=2) (g:f3.offset=3) (j:f4.offset=4)
  (l:P.underlying f0.type=some (.int .i64)) (m:P.underlying f1.type=some (.int .i64)) (o:f2.type=tb) (q:f3.type=ts) (s:f4.type=tp)
  (u:P.cellsOf f0.type=1) (c1:P.cellsOf f1.type=1) (c2:P.cellsOf tb=1) (c3:P.cellsOf ts=1) (c4:P.cellsOf tp=1)
  (ub:P.underlying tb=some (.slice te)) (ue:P.underlying te=some (.int .u8)) (ce:P.cellsOf te=1) {tg:TypeId} (us:P.underlying ts=some (.slice tg)) (ug:P.underlying tg=some .string) (cg:P.cellsOf tg=1) (up:P.underlying tp=some (.slice t)) (B:Nat) (k:Nat) (hB:k<=B):RB P t .tree (fun v=>∀ d,Sm B d v) k:=by
 induction k with
 | zero=>
  intro H enc w base spare held fuel cs x hk h;have:=one_le x.1;omega
 | succ k ih0=>
  intro H enc w base spare held fuel cs x hk h;subst o;subst q;subst s;obtain⟨xs,n,rfl,rfl,hl,hlen,hfs⟩:=DataW.trod_struct ht h;have ih:RB P t .tree (fun v=>∀ d,Sm B d v) k:=@ih0 U;simp only [Rows.uptoBulk] at hk
  have hb:∀ y∈xs,Rows.uptoBulk y.1<=k:=fun y hy=>by
   have:=U3 (QkX (f:=fun z:DataW H×List MemPlace=>z.1) hy);omega
  have an:xs.length=5:=by simpa using hlen
  have get:∀ (i:Nat) (f:Field),(#[f0,f1,f2,f3,f4]:Array Field)[i]? = some f->i<5->P.cellsOf f.type=1->f.offset=i->∃ y:DataW H×List MemPlace,Rows.uptoBulk y.1<=k/\DataW.trod enc P w base spare held n f.type ((cs.drop i).take 1)=some y:=fun i f hf hi hcf hof=>by
   have a:=hfs i f hf;rw [hcf,hof,Qzw (by omega:i<xs.length)] at a;exact⟨_,hb _ (Qxx _),a⟩
  obtain⟨y0,b0,t0⟩:=get 0 f0 Z U u b;obtain⟨y1,b1,t1⟩:=get 1 f1 Z U c1 c;obtain⟨y2,b2,t2⟩:=get 2 f2 Z U c2 e;obtain⟨y3,b3,t3⟩:=get 3 f3 Z U c3 g;obtain⟨y4,b4,t4⟩:=get 4 f4 Z U c4 j;obtain⟨a0,r0,q0⟩:=TW (k:=k) (Ph l) b0 t0;obtain⟨a1,r1,q1⟩:=TW (k:=k) (Ph m) b1 t1;obtain⟨a2,r2,q2,_⟩:=Nc ub ce Qqc (TW (k:=k) (RY ue)) b2 t2;obtain⟨a3,r3,q3,q3'⟩:=Nc us cg Qqc (Aa9 (k:=k) ug) b3 t3;obtain⟨a4,r4,q4,q4'⟩:=Nc up (r:=.tree) hc Qqc ih b4 t4;refine⟨.mk a0 a1 a2 a3 a4,Rp.ES ?_,fun d=>?_⟩
  ·have hcs:cs=(cs.drop 0).take 1++((cs.drop 1).take 1++((cs.drop 2).take 1++((cs.drop 3).take 1++(cs.drop 4).take 1))):=by
    have h5:cs.length=5:=by rw [hl,hc]
    match cs,h5 with
    | [_,_,_,_,_],_=>rfl
   exact⟨_,_,hcs,r0,_,_,Z,r1,_,_,Z,r2,_,_,Z,r3,r4⟩
  ·cases d with
   | zero=>exact trivial
   | succ d=>exact⟨by show a2.length<=B;omega,by show a3.length<=B;omega,by show a4.length<=B;omega,fun x hx=>by have:=q3' x hx;omega,q0,q1,fun p hp=>q4' p hp d⟩
theorem Ail{f0 f1:Field}{tb tv te:TypeId}{ok:Pv->Prop}(ht:P.underlying t=some (.struct #[f0,f1]))(hc:P.cellsOf t=6)(c:f0.offset=0)(e:f1.offset=1)(g:f0.type=tb)(i:f1.type=tv)(j:P.cellsOf tb=1)(c1:P.cellsOf tv=5)
  (ub:P.underlying tb=some (.slice te)) (ue:P.underlying te=some (.int .u8)) (ce:P.cellsOf te=1) (hv:RB P tv .tree ok k):RB P t (.pair (.vec .byte) .tree) (fun d=>d.1.length<=k/\ok d.2) k:=fun {H enc w base spare held fuel cs x} hk h=>by
 subst g;subst i;obtain⟨xs,n,rfl,rfl,hl,hlen,hfs⟩:=DataW.trod_struct ht h;simp only [Rows.uptoBulk] at hk
 have hb:∀ y∈xs,Rows.uptoBulk y.1<=k:=fun y hy=>by
  have:=U3 (QkX (f:=fun z:DataW H×List MemPlace=>z.1) hy);omega
 have p:xs.length=2:=by simpa using hlen
 have a:=hfs 0 f0 Z;have b:=hfs 1 f1 Z;rw [j,c,Qzw (by omega:0<xs.length)] at a;rw [c1,e,Qzw (by omega:1<xs.length)] at b;obtain⟨a0,r0,l,_⟩:=Nc ub ce Qqc (TW (k:=k) (RY ue)) (hb _ (Qxx _)) a;obtain⟨a1,r1,m⟩:=hv (hb _ (Qxx _)) b;refine⟨(a0,a1),⟨(cs.drop 0).take 1,(cs.drop 1).take 5,?_,r0,r1⟩,l,m⟩;have o:cs.length=6:=by rw [hl,hc]
 match cs,o with
 | [_,_,_,_,_,_],_=>rfl
end
end Go.Proofs.YtekmbcbgknmhiaaGreatDoor.Ou
end
noncomputable section
namespace Go.Proofs.YtekmbcbgknmhiaaGreatDoor
open Go Go.E Go.Shelf Go.Lib
def u8ren:Ren:=⟨fun n=>n,fun | 119=>349 | 138=>351 | 139=>352 | n=>n,fun | 3=>4 | 4=>5 | n=>n⟩
theorem u8types:U8Types Tryz.prog u8ren:=⟨Tryz.underlying5,Tryz.underlying349,Tryz.underlying351,Tryz.underlying352⟩
def laidU : List (String × DataW Unit) := [("math/bits.deBruijn32tab", Rows.laid_math_bits_deBruijn32tab), ("math/bits.deBruijn64tab", Rows.laid_math_bits_deBruijn64tab), ("internal/strconv.uint64pow10", Rows.laid_internal_strconv_uint64pow10), ("unicode/utf8.acceptRanges", Rows.laid_unicode_utf8_acceptRanges), ("strconv.ErrRange", Rows.laid_strconv_ErrRange), ("strconv.ErrSyntax", Rows.laid_strconv_ErrSyntax), ("unicode/utf8.first", Rows.laid_unicode_utf8_first)]
theorem star : "*" ++ "errors.errorString" = "*errors.errorString" := by decide
theorem row364 (u : TypeId) (h : Tryz.prog.typeName? 3 u = some "*errors.errorString") : u = 364 :=
 typeName_ptr_named (nm := "errors.errorString") (by rw [star]; kernel_rfl) (by kernel_rfl) (by decide) u (by rw [star]; exact h)
theorem var_le{W w:World}{n:String}{cs:Array Value}(hs:Le (hp W) (hp w))(h:W.var? Tryz.prog n=some cs):w.var? Tryz.prog n=some cs:=by
 unfold World.var? at h ⊢
 cases hg:Tryz.prog.globalNamed n with
 | none=>rw [hg] at h;cases h
 | some g=>
  rw [hg] at h;simp only [Qq6] at h ⊢
  cases ho:W.heap[g]? with
  | none=>rw [ho] at h;cases h
  | some o=>rw [ho] at h;rw [show w.heap[g]? = some o from hs g o ho];exact h
theorem cell_of_var{W:World}{n:String}{g:Nat}{v:Value}(hg:Tryz.prog.globalNamed n=some g)(h:W.var? Tryz.prog n=some #[v]):IJ (hp W) ⟨g,0,none⟩=some v:=by
 rw [Yt,World.var?_cell hg h 0]
 rfl
theorem utab_of_laid{W:World}(h:laidMetH Tryz.prog laidU W):Gj (hp W):=by
 rw [MakeChecks.laidMetH_plain _ _ _ Qqb] at h;have i:Rows.laid_unicode_utf8_first=firstData:=by kernel_rfl
 have j:(Rows.laid_unicode_utf8_acceptRanges:DataW Unit)=acceptData:=by kernel_rfl
 have k:(Rows.laid_internal_strconv_uint64pow10:DataW Unit)=tabData .u64 pow10Tab:=by kernel_rfl
 have b := laidMet.reads h (n := "unicode/utf8.acceptRanges") (d := Rows.laid_unicode_utf8_acceptRanges) (by simp [laidU])
 have h2 := laidMet.reads h (n := "unicode/utf8.first") (d := Rows.laid_unicode_utf8_first) (by simp [laidU])
 rw [j] at b;rw [i] at h2;have ht := utf8Tabs_of_readsT u8types ⟨by kernel_rfl, by kernel_rfl, by kernel_rfl, by kernel_rfl, by kernel_rfl, by kernel_rfl, by kernel_rfl⟩ h2 b;have hT : laidMet Tryz.prog (("internal/strconv.uint64pow10", tabData .u64 pow10Tab) :: _) W := k ▸ h.tail.tail
 have a : TabIs Tryz.prog W "internal/strconv.uint64pow10" .u64 pow10Tab := tabIs_of_head (g := 1) (t := 305) (e := 205) (n := 20) (by kernel_rfl) (by kernel_rfl) Tryz.underlying305 Tryz.underlying205 (by kernel_rfl) (by kernel_rfl) hT
 obtain⟨a1,l,c,_⟩:=laid_sentinel (g:=3) h.tail.tail.tail.tail Qqb Qqb Tryz.underlying167 row364 Tryz.underlying364 Tryz.underlying366 Z Z Tryz.underlying9 Qqb Qqb;obtain⟨a2,m,f,_⟩:=laid_sentinel (g:=2) h.tail.tail.tail.tail.tail Qqb Qqb Tryz.underlying167 row364 Tryz.underlying364 Tryz.underlying366 Z Z Tryz.underlying9 Qqb Qqb;exact⟨⟨ht.1,ht.2⟩,fun w hw=>var_le hw a,⟨_,_,cell_of_var Qqb f⟩,⟨_,_,cell_of_var Qqb c⟩⟩
def laidWorld(os:Os):World:=
 let N:=(World.settled Tryz.prog os).heap.size
 let a:=World.holding Tryz.prog os ⟨#[.cells #[.string ⟨#[118,97,108,117,101,32,111,117,116,32,111,102,32,114,97,110,103,101]⟩] 366,.cells #[.string ⟨#[105,110,118,97,108,105,100,32,115,121,110,116,97,120]⟩] 366],#[],[]⟩
 let put (h:Array Obj) (g:Nat) (cs:Array Value):Array Obj:=h.modify g fun
  | .cells _ t frozen=>.cells cs t frozen
  | o=>o
 let b:=put (put a.heap 3 #[.iface 364 (.pointer (some ⟨N,0,none⟩))]) 2 #[.iface 364 (.pointer (some ⟨N+1,0,none⟩))]
 let c:=put (put b 4 (Lib.firstTab.map fun z=>Value.int .u8 z).toArray) 5 ((Qzv 16).flatMap fun i=>[Value.int .u8 (Lib.accLo i),Value.int .u8 (Lib.accHi i)]).toArray
 let h2:=put c 1 (pow10Tab.map (Value.int .u64)).toArray
 let nums (d:DataW Unit):Array Value:=match d with
  | .agg l=>(l.map fun | .lit (.int k z)=>Value.int k z | _=>.int .u8 0).toArray
  | _=>#[]
 let h3:=put (put h2 6 (nums Rows.laid_math_bits_deBruijn32tab)) 7 (nums Rows.laid_math_bits_deBruijn64tab)
 {a with heap:=h3}
set_option maxRecDepth 100000 in
theorem door_met(os:Os)(args:Array Value):laidMetH Tryz.prog laidU ((laidWorld os).forCall (fun _ _=>0) ⟨#[],args,[]⟩).memory:=
 laidMetH_of_parts3 (fuel:=12) (laidMet_of_run' 12 Qqb Qqb) Qqb Qqb
end Go.Proofs.YtekmbcbgknmhiaaGreatDoor
end
