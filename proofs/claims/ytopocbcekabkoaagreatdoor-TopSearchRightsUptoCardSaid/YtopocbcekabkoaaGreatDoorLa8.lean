/- Texts of a claim, merged. -/
import Derived.Test.YtopocbcekabkoaaGreatDoorLa7
import Derived.ProofKit
import Derived.OpenShut
import Derived.Carry
import Derived.Deep.Slices
import Derived.Test.YtopocbcekabkoaaGreatDoorRows
import Derived.Lib.LaidU8T
import Derived.Lib.LaidTab
import Derived.Stop.LaidErr
import Derived.LaidMore
import Derived.MakeChecks
import Derived.LaidHandle
import Derived.KernelRfl
open Option renaming bind_some->Qzq,bind->Qq9
open List renaming getD_eq_getElem?_getD->Qzj,getElem?_eq_getElem->Qzy,length_cons->Qzc,replicate->Qzv,length_map->Qza,length_append->Qzd,range->Qzb,mem_cons_of_mem->Qz1,mem_cons_self->Qz2,mem_singleton->QzD,getElem?_eq_some_iff->Qz6,mem_cons->Qze,append_nil->QzZ,mem_append->QzK,length_nil->QzB,length_take->QzC,getElem_mem->Qz3,length_singleton->Qxv,take_of_length_le->Qxb,mem_range->QzE,getElem?_map->Qxq,length_drop->Qz4,getElem?_eq_none->QxJ,pairwise_cons->Qxx,mem_map->Qz0,length_range->QxQ,length_filter_le->Qx0,flatMap_cons->QxX,map_append->Qxc,mem_filter->QxD,take_length->Qx3,range_succ->QxC,nil_append->Qxe,append_assoc->QxB,take_append_getElem->Qk3,filter_append->Qkj,drop_zero->Qx8,countP_cons->Qka,ext_getElem?->Qky,length_pos_iff->Qkv,not_mem_nil->Qkd,exists_cons_of_ne_nil->Qjj,getElem?_range->QkD,mem_map_of_mem->QkE,pairwise_singleton->QkC,filter_nil->Qk0,countP_append->Qk2,pairwise_map->QkX,filter_cons->Qk8,pairwise_append->Qjw,getElem?_append_left->Qk4,range'->Qkq,countP_congr->Qjk,countP_le_length->QjQ,any_eq_true->Qk5,drop_length->Qjx,getElem?_append_right->Qjb,getElem?_set->QjZ
open Int renaming toNat_natCast->Qzk
open Prod renaming fst->Qzz,snd->QzX,ext->Qxw
open Nat renaming le_refl->Qzu,zero_le->Qz5,add_sub_cancel->Qkx,lt_or_ge->Qxa
open Bool renaming and_eq_true->QzQ,false_ne_true->Qxu,eq_iff_iff->Qz7,false_eq_true->Qxk,or_eq_true->Qxj,true_and->Qkw,and_false->Qjv,and_true->QjK
set_option linter.unusedVariables false
set_option linter.unusedSimpArgs false
noncomputable section
namespace Go.Proofs.YtopocbcekabkoaaGreatDoor
open Go Go.L
def qfl(q:Qv):Int×Int:=if(ck 1000 q 0 1).2.1=0 then(if 200<(tx 8 q).length then(14,-1)else(0,0))else(ck 1000 q 0 1).2
theorem ZG{q:Qv}(h:(ck 1000 q 0 1).2.1=0):Vq 8 q/\nq 8 q<=40:=by
 obtain⟨a,h2,h3⟩:=Ajk 1000 q 0 1 U U 8 U h;exact⟨h3,by omega⟩
theorem AgF{q:Qv}(hq:Sq q):N9 q=some (if(qfl q).1=0 then tx 8 q else[],qfl q):=by
 unfold N9 Qp qfl;obtain⟨a,_,h3⟩:=Ag7 1000 q 0 1 hq U U U U;rw[a,Qzq]
 by_cases h:(ck 1000 q 0 1).2.1=0
 ·obtain⟨hv,hc⟩:=ZG h;rw[if_pos (by rw[h3.2 h];exact⟨Z,Z⟩),if_pos h];unfold RL;rw[(AgE 8 q hq hv U 1000 U).1,Qzq]
  by_cases hl:200<(tx 8 q).length
  ·rw[if_pos U,if_pos hl]
   rfl
  ·rw[if_neg U,if_neg hl]
   rfl
 ·rw[if_neg (fun e=>h e.1),if_neg h,if_neg h]
theorem Abj{q:Qv}(hq:Sq q):KE q=some (qfl q):=by
 unfold KE;rw[AgF hq]
 rfl
theorem XV{q:Qv}(hq:Sq q):KH q=some (qfl q):=by
 unfold KH On qfl;obtain⟨_,a,h3⟩:=Ag7 1000 q 0 1 hq U U U U;rw[a,Qzq]
 by_cases h:(ck 1000 q 0 1).2.1=0
 ·obtain⟨hv,hc⟩:=ZG h;rw[if_pos h,if_pos h];unfold Oq;rw[(AgE 8 q hq hv U 1000 U).2,Qzq]
  by_cases hl:200<(tx 8 q).length
  ·rw[if_pos U,if_pos hl]
   rfl
  ·rw[if_neg U,if_neg hl,h3.2 h]
 ·rw[if_neg h,if_neg h]
theorem AgG{q:Qv}(h:(qfl q).1=0):Vq 8 q/\nq 8 q<=40/\(tx 8 q).length<=200/\qfl q=(0,0):=by
 unfold qfl at h ⊢
 by_cases a:(ck 1000 q 0 1).2.1=0
 ·rw[if_pos a]at h ⊢
  by_cases h2:200<(tx 8 q).length
  ·rw[if_pos h2]at h
   cases h
  ·rw[if_neg h2];exact⟨(ZG a).1,(ZG a).2,by omega,Z⟩
 ·rw[if_neg a]at h;exact absurd h a
end Go.Proofs.YtopocbcekabkoaaGreatDoor
end
noncomputable section
namespace Go.L
open Go
def G9(f:Qv->Nat->Bool):Nat->Qv->Nat->Bool
 | 0,_,_=>false
 | d+1,q,i=>if q.f.1<8 then f q i else if q.f.1=10 then !G9 f d (q.f.2.2.2.2.2.2.getD 0 Qq2) i else if q.f.1=8 then q.f.2.2.2.2.2.2.all fun s=>G9 f d s i else q.f.2.2.2.2.2.2.any fun s=>G9 f d s i
theorem Ajl(f:Qv->Nat->Bool)(d:Nat)(q:Qv)(i:Nat):G9 f (d+1) q i=if q.f.1<8 then f q i else if q.f.1=10 then !G9 f d (q.f.2.2.2.2.2.2.getD 0 Qq2) i else if q.f.1=8 then q.f.2.2.2.2.2.2.all fun s=>G9 f d s i else q.f.2.2.2.2.2.2.any fun s=>G9 f d s i:=Z
def JX(n:Nat)(f:Nat->Bool):List Bool:=(Qzb n).map f
theorem LF(n:Nat)(f:Nat->Bool):(JX n f).length=n:=by simp[JX]
theorem Un{n:Nat}{f:Nat->Bool}{i:Nat}(h:i<n):(JX n f).getD i Qq2=f i:=by
 unfold JX;rw[Qzj,Qxq,QkD h]
 rfl
theorem KI{n:Nat}{f g:Nat->Bool}(h:∀i,i<n->f i=g i):JX n f=JX n g:=List.map_congr_left fun i hi=>h i (QzE.1 hi)
theorem Wc{n:Nat}{f:Nat->Bool}{i:Nat}{b:Bool}:(JX n f).set i b=JX n fun j=>if j=i then b else f j:=by
 unfold JX;apply Qky;intro j;rw[QjZ,Qxq,Qxq,Qza,QxQ]
 by_cases hj:j<n
 ·rw[QkD hj]
  by_cases h:i=j
  ·subst h;simp[hj]
  ·simp[h,Ne.symm h]
 ·rw[QxJ (by simpa using hj)]
  by_cases h:i=j
  ·subst h;simp[hj]
  ·simp[h]
end Go.L
namespace Go.Proofs.YtopocbcekabkoaaGreatDoor
open Go Go.L
abbrev LIB:Type:=(Int×(List (Qq4×(List Qq7))))×(Int×(List ((Qq4×Int×Int×Qq4)×Qq5)))×(List ((Qq5)×Qq5×Qq5))
def Fnd(L:LIB)(f:Qv->Nat->Bool):Prop:=∀d q,Sq q->Vq (d+1) q->q.f.1<8->∃items,E8 L q=some items/\items.length<=100000000/\(∀x∈items,0<=x/\x<(L.2.2.length:Int))/\∀i,i<L.2.2.length->f q i=decide ((i:Int)∈items)
theorem Aki{L:LIB}{items:Qq5}(hn:L.2.2.length<=64)(hl:items.length<=100000000)(hi:∀x∈items,0<=x/\x<(L.2.2.length:Int)):G5 L items=some (JX L.2.2.length fun i=>decide ((i:Int)∈items)):=by
 unfold G5 C8;simp only[Qzq];rw[Ac U,Qzk]
 have a:Qzv L.2.2.length false=JX L.2.2.length fun i=>decide ((i:Int)∈items.take 0):=by
  unfold JX;apply Qky;intro j;rw[List.getElem?_replicate,Qxq]
  by_cases hj:j<L.2.2.length
  ·rw[if_pos hj,QkD hj];simp
  ·rw[if_neg hj,QxJ (by simpa using hj)];rfl
 have key:∀(d k:Nat),k+d=items.length->IT items (JX L.2.2.length (fun i=>decide ((i:Int)∈items.take k)),(k:Int))=some (JX L.2.2.length fun i=>decide ((i:Int)∈items)):=by
  intro d
  induction d with
  | zero=>
   intro k hk;refine AV (m:=some _) ?_;unfold E2 IS;simp only;rw[if_neg U,Qxb U]
  | succ d ih=>
   intro k hk;have hkl:k<items.length:=by omega
   have hg:items.getD ((k:Int)).toNat Qq2=items[k]:=by rw[Qzk,Qzj,Qzy hkl];rfl
   have hb:=hi _ (Qz3 hkl)
   have e:E2 items (JX L.2.2.length (fun i=>decide ((i:Int)∈items.take k)),(k:Int))=some (.inl (JX L.2.2.length (fun i=>decide ((i:Int)∈items.take (k+1))),((k+1:Nat):Int))):=by
    unfold E2;simp only;rw[if_pos U,Ac U,hg,Ac (by rw[LF];exact hb),Ac (by unfold Bq;omega),Wc]
    have:(JX L.2.2.length fun j=>if j=items[k].toNat then true else decide ((j:Int)∈items.take k))=JX L.2.2.length fun i=>decide ((i:Int)∈items.take (k+1)):=KI fun j hj=>by
     rw[<- Qk3 hkl]
     by_cases h:j=items[k].toNat
     ·rw[if_pos h];have:(j:Int)=items[k]:=by omega
      refine(decide_eq_true (QzK.2 (.inr ?_))).symm;rw[this];exact List.mem_singleton_self _
     ·rw[if_neg h];have : ¬(j:Int)=items[k]:=by omega
      rw[decide_eq_decide,QzK,QzD];exact⟨.inl,fun h=>h.resolve_right this⟩
    rw[this]
    rfl
   unfold IT at ih ⊢;rw[Bh e,ih (k+1) U]
 have:=key items.length 0 U;rw[a];exact this
theorem YE{L:LIB}{f:Qv->Nat->Bool}(hn:L.2.2.length<=64)(hf:Fnd L f):∀(d:Nat) (q:Qv),Sq q->Vq d q->∀m,d<=m->B1 m L q=some (JX L.2.2.length (G9 f d q))
 | 0,_,_,h,_,_=>h.elim
 | d+1,q,hq,hv,m,hm=>by
  obtain⟨m,rfl⟩:∃k,m=k+1:=⟨m - 1,by omega⟩;obtain⟨hk,hF,_⟩:=QC hv.1;have ih:∀s∈q.f.2.2.2.2.2.2,B1 m L s=some (JX L.2.2.length (G9 f d s)):=fun s hs=>YE hn hf d s (hq.sub hs) (hv.2 s hs) m U
  show EE (B1 m) L q=_
  unfold EE Pe;rw[Qzq]
  by_cases t:q.f.1<8
  ·obtain⟨items,l,h2,h3,x⟩:=hf d q hq hv t
   have e:JX L.2.2.length (G9 f (d+1) q)=JX L.2.2.length fun i=>decide ((i:Int)∈items):=KI fun i hi=>by
    rw[G9,if_pos t,x i hi]
   have hs:=Aki hn h2 h3;rw[decide_eq_true U,if_pos Z]
   show Qq9 (E8 L q) (fun y=>Qq9 (G5 L y) fun u=>some u)=_
   rw[l,Qzq,hs,e]
   rfl
  ·rw[decide_eq_false U,if_neg Qxu];have hlen:q.f.2.2.2.2.2.2.length<=1048576:=hq.open.2.2.2.1
   have hpos:0<q.f.2.2.2.2.2.2.length:=by
    obtain⟨_,_,_,z,k5⟩:=K6 hF
    by_cases c:q.f.1=10
    ·rw[z c];omega
    ·have:=k5 U;omega
   have v:q.f.2.2.2.2.2.2.getD 0 Qq2∈q.f.2.2.2.2.2.2:=UU hpos;rw[Ac U]
   show Qq9 (B1 m L (q.f.2.2.2.2.2.2.getD 0 Qq2)) _=_
   rw[ih _ v,Qzq]
   by_cases c:q.f.1=10
   ·rw[if_pos c];have l:=(K6 hF).2.2.2.1 c
    have key:∀(k i:Nat),i+k=L.2.2.length->FM L q (B1 m) (JX L.2.2.length (G9 f d (q.f.2.2.2.2.2.2.getD 0 Qq2))) (JX L.2.2.length (fun j=>if j<i then !G9 f d (q.f.2.2.2.2.2.2.getD 0 Qq2) j else G9 f d (q.f.2.2.2.2.2.2.getD 0 Qq2) j),(i:Int))=some (JX L.2.2.length (G9 f (d+1) q)):=by
     intro k
     induction k with
     | zero=>
      intro i hi;refine AV (m:=some _) ?_;unfold CA;simp only;rw[LF,if_neg U];unfold CI;rw[Ac U];unfold DQ
      have:Go.L.run (BU L q (B1 m)) (JX L.2.2.length (fun j=>if j<i then !G9 f d (q.f.2.2.2.2.2.2.getD 0 Qq2) j else G9 f d (q.f.2.2.2.2.2.2.getD 0 Qq2) j),0)=some (JX L.2.2.length (G9 f (d+1) q)):=by
       refine AV (m:=some _) ?_;unfold BU DO;simp only;rw[if_neg (by rw[Qz4];show ¬(0:Int)<((q.f.2.2.2.2.2.2.length - 1:Nat):Int);omega)]
       have e:JX L.2.2.length (fun j=>if j<i then !G9 f d (q.f.2.2.2.2.2.2.getD 0 Qq2) j else G9 f d (q.f.2.2.2.2.2.2.getD 0 Qq2) j)=JX L.2.2.length (G9 f (d+1) q):=KI fun j hj=>by
        rw[if_pos U,G9,if_neg t,if_pos c]
       rw[e]
      rw[this]
     | succ k ihk=>
      intro i hi
      have e:CA L q (B1 m) (JX L.2.2.length (G9 f d (q.f.2.2.2.2.2.2.getD 0 Qq2))) (JX L.2.2.length (fun j=>if j<i then !G9 f d (q.f.2.2.2.2.2.2.getD 0 Qq2) j else G9 f d (q.f.2.2.2.2.2.2.getD 0 Qq2) j),(i:Int))=some (.inl (JX L.2.2.length (fun j=>if j<i+1 then !G9 f d (q.f.2.2.2.2.2.2.getD 0 Qq2) j else G9 f d (q.f.2.2.2.2.2.2.getD 0 Qq2) j),((i+1:Nat):Int))):=by
       unfold CA;simp only;rw[LF,LF,if_pos U,Ac U,Ac U,Ac (by unfold Bq;omega),Qzk,Un U,if_neg U,Wc]
       have:(JX L.2.2.length fun j=>if j=i then !G9 f d (q.f.2.2.2.2.2.2.getD 0 Qq2) i else if j<i then !G9 f d (q.f.2.2.2.2.2.2.getD 0 Qq2) j else G9 f d (q.f.2.2.2.2.2.2.getD 0 Qq2) j)=JX L.2.2.length fun j=>if j<i+1 then !G9 f d (q.f.2.2.2.2.2.2.getD 0 Qq2) j else G9 f d (q.f.2.2.2.2.2.2.getD 0 Qq2) j:=KI fun j hj=>by
        by_cases h:j=i
        ·subst h;rw[if_pos (show j=j from Z),if_pos (show j<j+1 by omega)]
        ·rw[if_neg h]
         by_cases h2:j<i
         ·rw[if_pos h2,if_pos (show j<i+1 by omega)]
         ·rw[if_neg h2,if_neg (show ¬j<i+1 by omega)]
       rw[this]
       rfl
      unfold FM at ihk ⊢;rw[Bh e,ihk (i+1) U]
    have:=key L.2.2.length 0 U;have o:JX L.2.2.length (fun j=>if j<0 then !G9 f d (q.f.2.2.2.2.2.2.getD 0 Qq2) j else G9 f d (q.f.2.2.2.2.2.2.getD 0 Qq2) j)=JX L.2.2.length (G9 f d (q.f.2.2.2.2.2.2.getD 0 Qq2)):=KI fun j hj=>by rw[if_neg U]
    rw[o]at this;exact this
   ·rw[if_neg c];unfold CI;rw[Ac U]
    -- what has been joined so far
    have one:∀(s:Qv) (g:Nat->Bool) (k:Int),∀(n i:Nat),i+n=L.2.2.length->FL q k (JX L.2.2.length (G9 f d s)) (JX L.2.2.length (fun j=>if j<i then(if q.f.1=8 then g j&&G9 f d s j else g j||G9 f d s j)else g j),(i:Int)) =
      DP k (JX L.2.2.length fun j=>if q.f.1=8 then g j&&G9 f d s j else g j||G9 f d s j):=by
     intro s g k n
     induction n with
     | zero=>
      intro i hi;refine AV ?_;unfold C9;simp only;rw[LF,if_neg U];have e:JX L.2.2.length (fun j=>if j<i then(if q.f.1=8 then g j&&G9 f d s j else g j||G9 f d s j)else g j)=JX L.2.2.length fun j=>if q.f.1=8 then g j&&G9 f d s j else g j||G9 f d s j:=KI fun j hj=>by rw[if_pos U]
      rw[e]
     | succ n ihn=>
      intro i hi
      have e:C9 q k (JX L.2.2.length (G9 f d s)) (JX L.2.2.length (fun j=>if j<i then(if q.f.1=8 then g j&&G9 f d s j else g j||G9 f d s j)else g j),(i:Int))=some (.inl (JX L.2.2.length (fun j=>if j<i+1 then(if q.f.1=8 then g j&&G9 f d s j else g j||G9 f d s j)else g j),((i+1:Nat):Int))):=by
       have st:∀b:Bool,b=(if q.f.1=8 then g i&&G9 f d s i else g i||G9 f d s i)->(JX L.2.2.length (fun j=>if j<i then(if q.f.1=8 then g j&&G9 f d s j else g j||G9 f d s j)else g j)).set i b=JX L.2.2.length (fun j=>if j<i+1 then(if q.f.1=8 then g j&&G9 f d s j else g j||G9 f d s j)else g j):=fun b hb=>by
        rw[Wc];refine KI fun j hj=>?_
        by_cases h:j=i
        ·subst h;rw[if_pos (show j=j from Z),if_pos (show j<j+1 by omega),hb]
        ·rw[if_neg h]
         by_cases h2:j<i
         ·rw[if_pos h2,if_pos (show j<i+1 by omega)]
         ·rw[if_neg h2,if_neg (show ¬j<i+1 by omega)]
       unfold C9;simp only;rw[LF,LF,if_pos U,Ac U,Qzk,Un U,Un U,if_neg (Nat.lt_irrefl i)]
       by_cases h8':q.f.1=8
       ·rw[if_pos h8',Ac U,Ac U,Ac (by unfold Bq;omega),st _ (by rw[if_pos h8'];cases g i <;> rfl)]
        rfl
       ·rw[if_neg h8',Ac U,Ac U,Ac (by unfold Bq;omega),st _ (by rw[if_neg h8'];cases g i <;> rfl)]
        rfl
      unfold FL at ihn ⊢;rw[Bh e,ihn (i+1) U]
    have all:∀(n k:Nat),k+n=(q.f.2.2.2.2.2.2.drop 1).length->DQ L q (B1 m) (JX L.2.2.length (fun j=>if q.f.1=8 then(q.f.2.2.2.2.2.2.take (k+1)).all fun s=>G9 f d s j else(q.f.2.2.2.2.2.2.take (k+1)).any fun s=>G9 f d s j),(k:Int))=some (JX L.2.2.length (G9 f (d+1) q)):=by
     intro n
     induction n with
     | zero=>
      intro k hk;refine AV (m:=some _) ?_;unfold BU DO;simp only;rw[if_neg (by show ¬(k:Int)<((q.f.2.2.2.2.2.2.drop 1).length:Int);omega)];rw[Qz4]at hk
      have e:JX L.2.2.length (fun j=>if q.f.1=8 then(q.f.2.2.2.2.2.2.take (k+1)).all fun s=>G9 f d s j else(q.f.2.2.2.2.2.2.take (k+1)).any fun s=>G9 f d s j)=JX L.2.2.length (G9 f (d+1) q):=KI fun j hj=>by
       rw[G9,if_neg t,if_neg c,Qxb U]
      rw[e]
     | succ n ihn=>
      intro k hk;have w:k<(q.f.2.2.2.2.2.2.drop 1).length:=by omega
      have p:k+1<q.f.2.2.2.2.2.2.length:=by rw[Qz4]at w;omega
      have hgs:(q.f.2.2.2.2.2.2.drop (1:Int).toNat).getD ((k:Int)).toNat Qq2=q.f.2.2.2.2.2.2[k+1]:=by
       show(q.f.2.2.2.2.2.2.drop 1).getD ((k:Int)).toNat Qq2=_
       rw[Qzk,Qzj,List.getElem?_drop,Nat.add_comm 1 k,Qzy p]
       rfl
      have e:BU L q (B1 m) (JX L.2.2.length (fun j=>if q.f.1=8 then(q.f.2.2.2.2.2.2.take (k+1)).all fun s=>G9 f d s j else(q.f.2.2.2.2.2.2.take (k+1)).any fun s=>G9 f d s j),(k:Int))=some (.inl (JX L.2.2.length (fun j=>if q.f.1=8 then(q.f.2.2.2.2.2.2.take (k+1+1)).all fun s=>G9 f d s j else(q.f.2.2.2.2.2.2.take (k+1+1)).any fun s=>G9 f d s j),((k+1:Nat):Int))):=by
       unfold BU;simp only;rw[if_pos (by show(k:Int)<((q.f.2.2.2.2.2.2.drop 1).length:Int);omega),Ac (by show 0<=(k:Int)/\(k:Int)<((q.f.2.2.2.2.2.2.drop 1).length:Int);omega),hgs]
       show Qq9 (B1 m L q.f.2.2.2.2.2.2[k+1]) _=_
       rw[ih _ (Qz3 p),Qzq];have l:=one q.f.2.2.2.2.2.2[k+1] (fun j=>if q.f.1=8 then(q.f.2.2.2.2.2.2.take (k+1)).all fun s=>G9 f d s j else(q.f.2.2.2.2.2.2.take (k+1)).any fun s=>G9 f d s j) (k:Int) L.2.2.length 0 U;have o:∀(g h:Nat->Bool),JX L.2.2.length (fun j=>if j<0 then h j else g j)=JX L.2.2.length g:=fun g h=>KI fun j hj=>by rw[if_neg U]
       rw[o]at l;refine Eq.trans l ?_;unfold DP;rw[Ac (by unfold Bq;omega)]
       have:(JX L.2.2.length fun j=>if q.f.1=8 then(if q.f.1=8 then(q.f.2.2.2.2.2.2.take (k+1)).all fun s=>G9 f d s j else(q.f.2.2.2.2.2.2.take (k+1)).any fun s=>G9 f d s j)&&G9 f d q.f.2.2.2.2.2.2[k+1] j else(if q.f.1=8 then(q.f.2.2.2.2.2.2.take (k+1)).all fun s=>G9 f d s j else(q.f.2.2.2.2.2.2.take (k+1)).any fun s=>G9 f d s j)||G9 f d q.f.2.2.2.2.2.2[k+1] j) =
         JX L.2.2.length (fun j=>if q.f.1=8 then(q.f.2.2.2.2.2.2.take (k+1+1)).all fun s=>G9 f d s j else(q.f.2.2.2.2.2.2.take (k+1+1)).any fun s=>G9 f d s j):=KI fun j hj=>by
        rw[<- Qk3 p]
        by_cases h8':q.f.1=8
        ·rw[if_pos h8',if_pos h8',if_pos h8',List.all_append,List.all_cons,List.all_nil,QjK]
        ·rw[if_neg h8',if_neg h8',if_neg h8',List.any_append,List.any_cons,List.any_nil,Bool.or_false]
       rw[this]
       rfl
      unfold DQ at ihn ⊢;rw[Bh e,ihn (k+1) U]
    have:=all (q.f.2.2.2.2.2.2.drop 1).length 0 U
    have o:JX L.2.2.length (fun j=>if q.f.1=8 then(q.f.2.2.2.2.2.2.take (0+1)).all fun s=>G9 f d s j else(q.f.2.2.2.2.2.2.take (0+1)).any fun s=>G9 f d s j)=JX L.2.2.length (G9 f d (q.f.2.2.2.2.2.2.getD 0 Qq2)):=KI fun j hj=>by
     have ht:q.f.2.2.2.2.2.2.take (0+1)=[q.f.2.2.2.2.2.2.getD 0 Qq2]:=by
      cases hl:q.f.2.2.2.2.2.2 with
      | nil=>rw[hl]at hpos;simp at hpos
      | cons a r=>rfl
     rw[ht]
     by_cases h8':q.f.1=8
     ·simp[h8']
     ·simp[h8']
    rw[o]at this;exact this
end Go.Proofs.YtopocbcekabkoaaGreatDoor
end
noncomputable section
namespace Go.L
open Go
def its(n:Nat)(f g:Nat->Bool):Qq5:=((Qzb n).filter fun i=>f i&&g i).map fun i:Nat=>(i:Int)
end Go.L
namespace Go.Proofs.YtopocbcekabkoaaGreatDoor
open Go Go.L
theorem Abk{n:Nat}{f:Nat->Bool}{vis:List Bool}(hn:n<=64)(hv:vis.length=n):∀(k i:Nat),i+k=n->IV vis (JX n f) (((Qzb i).filter fun j=>f j&&vis.getD j Qq2).map (fun j:Nat=>(j:Int)),(i:Int))=some (its n f fun j=>vis.getD j Qq2,(0,0))
 | 0,i,h=>by
  obtain rfl:i=n:=by omega
  refine AV (m:=some _) ?_;unfold E4 IU;simp only;rw[LF,if_neg U]
  rfl
 | k+1,i,h=>by
  have hr:(Qzb (i+1)).filter (fun j=>f j&&vis.getD j Qq2)=(Qzb i).filter (fun j=>f j&&vis.getD j Qq2)++(if f i&&vis.getD i Qq2 then[i]else[]):=by
   rw[QxC,Qkj,Qk8,Qk0]
  have hlen:((Qzb i).filter fun j=>f j&&vis.getD j Qq2).length<=64:=by
   have:=Qx0 (fun j=>f j&&vis.getD j Qq2) (Qzb i);rw[QxQ]at this;omega
  have e:E4 vis (JX n f) (((Qzb i).filter fun j=>f j&&vis.getD j Qq2).map (fun j:Nat=>(j:Int)),(i:Int))=some (.inl (((Qzb (i+1)).filter fun j=>f j&&vis.getD j Qq2).map (fun j:Nat=>(j:Int)),((i+1:Nat):Int))):=by
   unfold E4;simp only;rw[LF,if_pos U,Ac U,Qzk,Un U,hr]
   by_cases a:f i=true
   ·rw[if_pos a,Ac U]
    by_cases h2:vis.getD i Qq2=true
    ·rw[if_pos h2,Ac (by unfold Go.E.Fz;simp only[Qza,Qzc,QzB];omega),Ac (by unfold Bq;omega),a,h2];simp
    ·rw[if_neg h2,Ac (by unfold Bq;omega),a];rw[Bool.not_eq_true]at h2;rw[h2];simp
   ·rw[if_neg a,Ac (by unfold Bq;omega)];rw[Bool.not_eq_true]at a;rw[a];simp
  have ih:=Abk (f:=f) hn hv k (i+1) U;unfold IV at ih ⊢;rw[Bh e,ih]
def Ai1(n:Nat)(f:Qv->Nat->Bool)(vis:List Bool)(q:Qv):Qq5×Qq7:=
 if(qfl q).1=0 then(if vis.length=n then(its n (G9 f 8 q) fun j=>vis.getD j Qq2,(0,0))else([],(9,-2)))else([],qfl q)
theorem Ady{L:LIB}{f:Qv->Nat->Bool}(hn:L.2.2.length<=64)(hf:Fnd L f){q:Qv}(hq:Sq q){vis:List Bool}:CD L q vis=some (Ai1 L.2.2.length f vis q):=by
 unfold CD Ai1;rw[Abj hq,Qzq]
 by_cases h:(qfl q).1=0
 ·obtain⟨hv,_,_,a⟩:=AgG h;rw[if_pos (by rw[a];exact⟨Z,Z⟩),if_pos h];unfold C8 DL;simp only[Qzq]
  by_cases hl:vis.length=L.2.2.length
  ·rw[if_pos U,if_pos hl];have hm:He L q=some (JX L.2.2.length (G9 f 8 q)):=YE hn hf 8 q hq hv 1000 U
   show Qq9 (He L q) _=_
   rw[hm,Qzq];exact Abk hn hl L.2.2.length 0 U
  ·rw[if_neg U,if_neg hl]
 ·rw[if_neg (fun e=>h e.1),if_neg h]
end Go.Proofs.YtopocbcekabkoaaGreatDoor
end
noncomputable section
namespace Go.Proofs.YtopocbcekabkoaaGreatDoor
open Go Go.L
theorem AgH{n:Int}{es:HM}(hn:es.length<=1000000000)(hs:Inc (es.map Qzz))(w:Qq4)(hh:(BF [] w es).length<=1000000000):HC (n,es) w=some (if wf w=(0,0)then BF [] w es else[],wf w):=by
 unfold HC;rw[Ou,Qzq]
 by_cases h:wf w=(0,0)
 ·rw[if_pos h,if_pos (by rw[h];exact⟨Z,Z⟩)];simp only;rw[QA hn w hs,Qzq];unfold FH;rw[Ac (by rw[QzB];constructor <;> omega),Qzq,Qxe,h]
 ·rw[if_neg h,if_neg (fun x=>h (Qxw x.1 x.2))]
end Go.Proofs.YtopocbcekabkoaaGreatDoor
end
noncomputable section
namespace Go.L
open Go Go.Proofs.YtopocbcekabkoaaGreatDoor
theorem PT:∀(r:Qq8) (a i k:Nat) (w:Qq4),(w,((i:Int),(k:Int)))∈CJ a r↔a<=i/\i<a+r.length/\k<(Ty (r.getD (i - a) Qq2)).length/\((Ty (r.getD (i - a) Qq2)).getD k Qq2).1=w
 | [],a,i,k,w=>by
  unfold CJ;simp only[Qkd,QzB,false_iff,not_and];intro c h2;omega
 | t::r,a,i,k,w=>by
  unfold CJ;rw[QzK,PT r (a+1) i k w,Qzc,Pp,Qz0]
  constructor
  ·rintro(⟨m,hm,he⟩ | ⟨c,h2,h3⟩)
   ·rw[QzE]at hm;simp only[Prod.mk.injEq]at he;obtain⟨d,f,g⟩:=he;obtain rfl:a=i:=by omega
    obtain rfl:m=k:=by omega
    rw[Nat.sub_self];exact⟨Qzu _,by omega,hm,d⟩
   ·have e:(t::r).getD (i - a) Qq2=r.getD (i - (a+1)) Qq2:=by
     rw[show i - a=(i - (a+1))+1 by omega]
     rfl
    rw[e];exact⟨by omega,by omega,h3⟩
  ·rintro⟨c,h2,h3,b⟩
   rcases Qxa a i with h | h
   ·right
    have e:(t::r).getD (i - a) Qq2=r.getD (i - (a+1)) Qq2:=by
     rw[show i - a=(i - (a+1))+1 by omega]
     rfl
    rw[e]at h3 b;exact⟨by omega,by omega,h3,b⟩
   ·obtain rfl:a=i:=by omega
    rw[Nat.sub_self]at h3 b;exact .inl ⟨k,QzE.2 h3,by rw[<- b];rfl⟩
def Ai2(P:List (Qq4×JD))(l:Qq8)(h:JD):Prop:=∀k,k<l.length->(l.getD k Qq2,(h.1,h.2+(k:Int)))∈P
noncomputable instance (P:List (Qq4×JD)) (l:Qq8) (h:JD):Decidable (Ai2 P l h):=Classical.propDecidable _
def Sb:Nat->Qq8->Option Qq7
 | _,[]=>none
 | i,w::r=>if wf w=(0,0)then Sb (i+1) r else some ((wf w).1,(i:Int))
end Go.L
namespace Go.Proofs.YtopocbcekabkoaaGreatDoor
open Go Go.L
theorem Uo{l:List JD}(hn:l.length<=1000000000)(p:JD):Dd l p=some (decide (p∈l)):=by
 unfold Dd FG Ho
 have key:∀(r:List JD) (i:Nat),l.drop i=r->∃z,run (BD l p) (i:Int)=some z/\(0<=z↔p∈r):=by
  intro r
  induction r with
  | nil=>
   intro i hd;have hlen:=K5 hd;refine⟨-1,AV (m:=some (-1)) ?_,by simp⟩;unfold BD EC;rw[if_neg U]
  | cons x r ih=>
   intro i hd;obtain⟨hg,hd',hlt⟩:=IH hd
   by_cases h:p.1=x.1/\p.2=x.2
   ·refine⟨(i:Int),AV (m:=some (i:Int)) ?_,by simp[Qxw h.1 h.2]⟩;unfold BD;rw[if_pos U,Ac ⟨by omega,by omega⟩,Qzk,hg,if_pos h]
   ·obtain⟨z,a,h2⟩:=ih (i+1) hd';refine⟨z,?_,?_⟩
    ·rw[<- a];refine Bh ?_;unfold BD;rw[if_pos U,Ac ⟨by omega,by omega⟩,Qzk,hg,if_neg h,Ac (by constructor <;> omega)]
     rfl
    ·rw[h2,Qze];exact⟨.inr,fun h'=>h'.resolve_left (fun e=>h (by rw[e];exact⟨Z,Z⟩))⟩
 obtain⟨z,a,h2⟩:=key l 0 Z;have e:((p.1,p.2):JD)=p:=Z;rw[e];rw[show run (BD l p) 0=some z from a,Qzq]
 congr 1
 exact decide_eq_decide.2 h2
theorem Up{l:Qq5}(hn:l.length<=1000000000)(p:Int):BH l p=some (decide (p∈l)):=by
 unfold BH Fp F2
 have key:∀(r:Qq5) (i:Nat),l.drop i=r->∃z,run (Bs l p) (i:Int)=some z/\(0<=z↔p∈r):=by
  intro r
  induction r with
  | nil=>
   intro i hd;have hlen:=K5 hd;refine⟨-1,AV (m:=some (-1)) ?_,by simp⟩;unfold Bs DY;rw[if_neg U]
  | cons x r ih=>
   intro i hd;obtain⟨hg,hd',hlt⟩:=IH hd
   by_cases h:p=x
   ·refine⟨(i:Int),AV (m:=some (i:Int)) ?_,by simp[h]⟩;unfold Bs;rw[if_pos U,Ac ⟨by omega,by omega⟩,Qzk,hg,if_pos h]
   ·obtain⟨z,a,h2⟩:=ih (i+1) hd';refine⟨z,?_,?_⟩
    ·rw[<- a];refine Bh ?_;unfold Bs;rw[if_pos U,Ac ⟨by omega,by omega⟩,Qzk,hg,if_neg h,Ac (by constructor <;> omega)]
     rfl
    ·rw[h2,Qze];exact⟨.inr,fun h'=>h'.resolve_left h⟩
 obtain⟨z,a,h2⟩:=key l 0 Z;rw[show run (Bs l p) 0=some z from a,Qzq]
 congr 1
 exact decide_eq_decide.2 h2
structure XOk (es:HM):Prop where
 len:es.length<=1000000
 inc:Inc (es.map Qzz)
 Acp:∀w,(BF [] w es).length<=1000000/\∀h∈BF [] w es,-1000000<=h.2/\h.2<=1000000
theorem XOk.AkV{items:Qq8}(hn:items.length<=64)(ht:∀t∈items,t.length<=2048):XOk (E items):=by
 have hp:=Sr hn ht;have he:=Ago items;refine⟨by omega,AkL items,fun w=>?_⟩;rw[Xq];have a:=Ov (CJ 0 items) w;refine⟨by omega,fun h hh=>?_⟩;have h2:=Dx 0 items 2048 ht _ (G8.1 hh);simp only at h2;omega
def X5(es:HM)(l:Qq8)(h:JD)(k:Nat):Prop:=∀m,k<=m->m<l.length->(h.1,h.2+(m:Int))∈BF [] (l.getD m Qq2) es
noncomputable instance (es:HM) (l:Qq8) (h:JD) (k:Nat):Decidable (X5 es l h k):=Classical.propDecidable _
theorem Adz{n:Int}{es:HM}(hx:XOk es){l:Qq8}(hl:l.length<=16)(out H0:List JD)(hH:H0.length<=1000000){j:Nat}{h:JD}(hj:j<H0.length)(hg:H0.getD j Qq2=h)(hb : -1000000<=h.2/\h.2<=1000000):
  ∀(r:Qq8) (k:Nat),l.drop k=r->run (CC (n,es) l out (j:Int) H0) (k:Int)=if X5 es l h k then GC out (j:Int) H0 else DA (j:Int) out
 | [],k,hd=>by
  have hlen:=K5 hd;rw[if_pos (show X5 es l h k from fun m a h2=>by omega)];refine AV ?_;unfold CC;rw[if_neg U]
 | w::r,k,hd=>by
  obtain⟨hgk,hd',hlt⟩:=IH hd;have hw:=hx.Acp w
  by_cases hm:(h.1,h.2+(k:Int))∈BF [] w es
  ·have hb':CC (n,es) l out (j:Int) H0 (k:Int)=some (.inl ((k+1:Nat):Int)):=by
    unfold CC;simp only;rw[if_pos U,Ac ⟨by omega,by omega⟩,Qzk,Qzk,hg,hgk,Ac (by constructor <;> omega),QA (by have:=hx.len;omega) w hx.inc,Qzq,Uo U,Qzq,decide_eq_true hm,if_neg Qqc,Ac (by constructor <;> omega)]
    rfl
   rw[Bh hb',Adz hx hl out H0 hH hj hg hb r (k+1) hd']
   have e:X5 es l h (k+1)↔X5 es l h k:=by
    constructor
    ·intro hh m a h2
     rcases Qxa k m with h3 | h3
     ·exact hh m h3 h2
     ·obtain rfl:k=m:=by omega
      rw[hgk];exact hm
    ·intro hh m a h2;exact hh m U h2
   by_cases hf:X5 es l h k
   ·rw[if_pos hf,if_pos (e.2 hf)]
   ·rw[if_neg hf,if_neg (fun x=>hf (e.1 x))]
  ·rw[if_neg (fun hh=>hm (by have:=hh k (Qzu _) hlt;rw[hgk]at this;exact this))];refine AV ?_;unfold CC;simp only;rw[if_pos U,Ac ⟨by omega,by omega⟩,Qzk,Qzk,hg,hgk,Ac (by constructor <;> omega),QA (by have:=hx.len;omega) w hx.inc,Qzq,Uo U,Qzq,decide_eq_false hm,if_pos Qqc]
def K7(es:HM)(l:Qq8)(h:JD):Prop:=∀m,m<l.length->(h.1,h.2+(m:Int))∈BF [] (l.getD m Qq2) es
noncomputable instance (es:HM) (l:Qq8) (h:JD):Decidable (K7 es l h):=Classical.propDecidable _
theorem Ad0{n:Int}{es:HM}(hx:XOk es){l:Qq8}(hl:l.length<=16)(H0:List JD)(hH:H0.length<=1000000):∀(r:List JD) (j:Nat) (out:List JD),H0.drop j=r->out.length<=j->(∀h∈r,-1000000<=h.2/\h.2<=1000000)->
  run (Du (n,es) l H0) (out,(j:Int))=some (out++r.filter (fun h=>decide (K7 es l h)),(0,0))
 | [],j,out,hd,ho,_=>by
  have hlen:=K5 hd;refine AV ?_;unfold Du IN;simp only;rw[if_neg U,Qk0,QzZ]
 | h::r,j,out,hd,ho,hr=>by
  obtain⟨hg,hd',hlt⟩:=IH hd;have hb:=hr h (Qz2 ..);have a:=Adz (n:=n) hx hl out H0 hH hlt hg hb l 0 Z
  have hbody:Du (n,es) l H0 (out,(j:Int))=some (.inl (out++(if K7 es l h then[h]else[]),((j+1:Nat):Int))):=by
   unfold Du LS;simp only;rw[if_pos U,Ac ⟨by omega,by omega⟩];refine a.trans ?_
   by_cases hf:K7 es l h
   ·rw[if_pos hf,if_pos (show X5 es l h 0 from fun m _ h2=>hf m h2)];unfold GC DA;rw[Qzk,hg,Ac (by rw[Qxv];constructor <;> omega),Ac (by constructor <;> omega)]
    rfl
   ·rw[if_neg hf,if_neg (fun hh=>hf (fun m h2=>hh m (Qz5 _) h2)),QzZ];unfold DA;rw[Ac (by constructor <;> omega)]
    rfl
  rw[Bh hbody,Ad0 hx hl H0 hH r (j+1) _ hd' (by rw[Qzd];split <;> simp <;> omega) (fun x hx'=>hr x (Qz1 _ hx')),QxB]
  congr 3
  by_cases hf:K7 es l h
  ·rw[if_pos hf,List.filter_cons_of_pos (p:=fun h=>decide (K7 es l h)) (decide_eq_true hf)];rfl
  ·rw[if_neg hf,List.filter_cons_of_neg (p:=fun h=>decide (K7 es l h)) (by simpa using hf)];rfl
theorem Aex{n:Int}{es:HM}(hx:XOk es)(l:Qq8):
  ER (n,es) l=some (if l=[]then([],(10,-1))else if 16<l.length then([],(2,-1))else match Sb 0 l with | some f=>([],f) | none=>((BF [] (l.getD 0 Qq2) es).filter (fun h=>decide (K7 es l h)),(0,0))):=by
 unfold ER
 by_cases b:l=[]
 ·subst b;rfl
 have d:=Qkv.2 b;rw[if_neg U,if_neg b]
 by_cases a:16<l.length
 ·rw[if_pos U,if_pos a];rfl
 rw[if_neg U,if_neg a];unfold LV
 have key:∀(r:Qq8) (i:Nat),l.drop i=r->run (Dv (n,es) l) (i:Int)=some (match Sb i r with | some f=>([],f) | none=>((BF [] (l.getD 0 Qq2) es).filter (fun h=>decide (K7 es l h)),(0,0))):=by
  intro r
  induction r with
  | nil=>
   intro i hd;have hlen:=K5 hd;refine AV ?_;unfold Dv IP LU;have hw:=hx.Acp (l.getD 0 Qq2);have c:(0:Int).toNat=0:=Z;rw[if_neg U,Ac ⟨by omega,by omega⟩,c,QA (by have:=hx.len;omega) _ hx.inc,Qzq];have:=Ad0 (n:=n) hx (l:=l) U (BF [] (l.getD 0 Qq2) es) hw.1 _ 0 [] Z (Qzu _) hw.2;rw[Qxe]at this
   congr 1
  | cons w r ih=>
   intro i hd;obtain⟨hg,hd',hlt⟩:=IH hd;unfold Sb
   by_cases h:wf w=(0,0)
   ·rw[if_pos h,<- ih (i+1) hd'];refine Bh ?_;unfold Dv;rw[if_pos U,Ac ⟨by omega,by omega⟩,Qzk,hg,Ou,Qzq,if_pos (by rw[h];exact⟨Z,Z⟩),Ac (by constructor <;> omega)]
    rfl
   ·rw[if_neg h];refine AV ?_;unfold Dv;rw[if_pos U,Ac ⟨by omega,by omega⟩,Qzk,hg,Ou,Qzq,if_neg (fun x=>h (Qxw x.1 x.2))]
    rfl
 exact key l 0 Z
end Go.Proofs.YtopocbcekabkoaaGreatDoor
end
noncomputable section
namespace Go.L
open Go Go.Proofs.YtopocbcekabkoaaGreatDoor
def PU(ws:List W)(l:Qq8)(k:Nat):Bool:=decide (∀n,n<l.length->(ws.getD (k+n) Qq2).1=l.getD n Qq2)
def Pr(i:Nat)(ws:List W)(l:Qq8):List JD:=((Qzb (ws.length+1 - l.length)).filter (PU ws l)).map fun k=>((i:Int),((k:Nat):Int))
def NL:Nat->Qq8->Qq8->List JD
 | _,[],_=>[]
 | i,t::r,l=>Pr i (Ty t) l++NL (i+1) r l
end Go.L
namespace Go.Proofs.YtopocbcekabkoaaGreatDoor
open Go Go.L
theorem AkW{ws:List W}{l:Qq8}{k:Nat}(hk:k+l.length<=ws.length)(hw:ws.length<=1000000000)(out:List JD)(i:Nat):Qx l out (i:Int) (k:Int) ws (true,0)=L6 out (i:Int) (k:Int) (PU ws l k):=by
 unfold Qx
 exact BR (b:=K2 l out (i:Int) (k:Int) ws) (m:=L6 out (i:Int) (k:Int) (PU ws l k)) (fun n=>(decide (∀m,m<n->(ws.getD (k+m) Qq2).1=l.getD m Qq2),((n:Nat):Int))) l.length (fun n hn=>by
  have es:(∀m,m<n+1->(ws.getD (k+m) Qq2).1=l.getD m Qq2)↔(∀m,m<n->(ws.getD (k+m) Qq2).1=l.getD m Qq2)/\(ws.getD (k+n) Qq2).1=l.getD n Qq2:=by
   constructor
   ·intro h;exact⟨fun m hm=>h m U,h n U⟩
   ·rintro⟨a,h2⟩ m hm
    rcases Qxa m n with h | h
    ·exact a m h
    ·obtain rfl:m=n:=by omega
     exact h2
  unfold K2;simp only;have c:(k:Int)+(n:Int)=((k+n:Nat):Int):=by omega
  have d:(n:Int)+1=((n+1:Nat):Int):=by omega
  rw[if_pos U,c,d,Ac (by constructor <;> omega),Ac ⟨by omega,by omega⟩,Ac ⟨by omega,by omega⟩,Ac (by constructor <;> omega),Qzk,Qzk]
  by_cases h:∀m,m<n->(ws.getD (k+m) Qq2).1=l.getD m Qq2
  ·have e:decide ((ws.getD (k+n) Qq2).1=l.getD n Qq2)=decide (∀m,m<n+1->(ws.getD (k+m) Qq2).1=l.getD m Qq2):=decide_eq_decide.2 ⟨fun h2=>es.2 ⟨h,h2⟩,fun h2=>(es.1 h2).2⟩;rw[decide_eq_true h,if_pos Z,e]
  ·rw[decide_eq_false h,if_neg Qqc,decide_eq_false (fun h2=>h (es.1 h2).1),Ac (by constructor <;> omega)]) (by
  unfold K2;simp only;rw[if_neg U]
  rfl) 0 (hi:=(by omega))
theorem AkX{ws:List W}{l:Qq8}(hw:ws.length<=1000000000)(hl:l.length<=1000000000)(L:List JD)(hL:L.length<=1000000000)(i:Nat)(hi:i<=1000000000):Qz l (i:Int) ws (L,0)=some (.inl (L++Pr i ws l,((i+1:Nat):Int))):=by
 unfold Qz
 have key:=BR (b:=K3 l (i:Int) ws) (m:=some (.inl (L++Pr i ws l,((i+1:Nat):Int)))) (fun k=>(L++((Qzb k).filter (PU ws l)).map fun k=>((i:Int),((k:Nat):Int)),((k:Nat):Int))) (ws.length+1 - l.length) (fun k hk=>by
  unfold K3;simp only;rw[Ac (by constructor <;> omega),if_pos U,AkW U hw]
  have hlen:(L++((Qzb k).filter (PU ws l)).map fun k=>((i:Int),((k:Nat):Int))).length<=2000000000:=by
   rw[Qzd,Qza];have:=Qx0 (PU ws l) (Qzb k);rw[QxQ]at this;omega
  have a:(k:Int)+1=((k+1:Nat):Int):=by omega
  unfold L6 NF;rw[a,QxC,Qkj,Qxc]
  by_cases h:PU ws l k=true
  ·rw[if_pos h,Ac (by rw[Qxv];constructor <;> omega),Ac (by constructor <;> omega),List.filter_cons_of_pos h,QxB]
   rfl
  ·rw[if_neg h,Ac (by constructor <;> omega),List.filter_cons_of_neg h];simp) (by
  unfold K3 Qy;simp only;rw[Ac (by constructor <;> omega),if_neg U,Ac (by constructor <;> omega)]
  rfl) 0 (hi:=(by omega))
 rw[List.range_zero]at key;simp only[Qk0,List.map_nil,QzZ]at key;exact key
theorem Acq(i:Nat)(ws:List W)(l:Qq8):(Pr i ws l).length<=ws.length+1:=by
 unfold Pr;rw[Qza];have:=Qx0 (PU ws l) (Qzb (ws.length+1 - l.length));rw[QxQ]at this;omega
theorem Ajo{items l:Qq8}(hn:items.length<=64)(hl:l.length<=1000000000):∀(r:Qq8) (i:Nat) (L:List JD),items.drop i=r->i<=items.length->(∀t∈r,t.length<=2048)->L.length<=i * 3000->
  run (ID items l) (L,(i:Int))=some (L++NL i r l)
 | [],i,L,hd,hi,_,_=>by
  have hlen:=K5 hd;refine AV ?_;unfold ID Q0 NL;simp only;rw[if_neg U,QzZ]
 | t::r,i,L,hd,hi,ht,hL=>by
  obtain⟨hg,hd',hlt⟩:=IH hd;have a:=ht t (Qz2 ..);have hw:=VY t
  have hb:ID items l (L,(i:Int))=some (.inl (L++Pr i (Ty t) l,((i+1:Nat):Int))):=by
   unfold ID;simp only;rw[if_pos U,Ac ⟨by omega,by omega⟩,Qzk,hg,Y0 U,Qzq];exact AkX U hl L U i U
  rw[Bh hb,Ajo hn hl r (i+1) _ hd' U (fun x hx=>ht x (Qz1 _ hx)) (by rw[Qzd];have:=Acq i (Ty t) l;omega)];rw[QxB]
  rfl
theorem X6{items l:Qq8}(hn:items.length<=64)(hl:l.length<=1000000000)(ht:∀t∈items,t.length<=2048):NM items l=some (NL 0 items l):=by
 have:=Ajo hn hl items 0 [] Z (Qz5 _) ht Qqd;rw[Qxe]at this;exact this
end Go.Proofs.YtopocbcekabkoaaGreatDoor
namespace Go.L
open Go Go.Proofs.YtopocbcekabkoaaGreatDoor
theorem Acr(P Q:List (Qq4×JD))(w:Qq4):Gf (P++Q) w=Gf P w++Gf Q w:=by
 unfold Gf;rw[Qkj,Qxc]
theorem Acs(i:Nat)(ws:List W)(w:Qq4):Pr i ws [w]=Gf (FE (i:Int) ws) w:=by
 unfold Pr Gf;rw[Pp,List.filter_map,List.map_map,Qxv,Qkx]
 have e:∀k,PU ws [w] k=((fun p:Qq4×JD=>decide (p.1=w))∘fun k=>((ws.getD k Qq2).1,((i:Int),((k:Nat):Int)))) k:=fun k=>by
  unfold PU;apply decide_eq_decide.2
  constructor
  ·intro h;have:=h 0 Qqd
   simpa using this
  ·intro h n hn;obtain rfl:n=0:=by simp at hn;exact hn
   simpa using h
 rw[show PU ws [w]=_ from funext e]
 rfl
theorem Vw(w:Qq4):∀(r:Qq8) (i:Nat),NL i r [w]=Gf (CJ i r) w
 | [],_=>rfl
 | t::r,i=>by
  unfold NL CJ;rw[Acr,Acs,Vw w r (i+1)]
end Go.L
end
noncomputable section
namespace Go.L
open Go Go.Proofs.YtopocbcekabkoaaGreatDoor
def O0(items:Qq8)(a b:Qq4)(d x:Int):Prop:=∃k k':Int,(a,(x,k))∈CJ 0 items/\(b,(x,k'))∈CJ 0 items/\k≠k'/\-d<=k - k'/\k - k'<=d
theorem O0.symm{items:Qq8}{a b:Qq4}{d x:Int}:O0 items a b d x↔O0 items b a d x:=by
 constructor <;> (rintro⟨k,k',c,h2,h3,f,g⟩;exact⟨k',k,h2,c,fun e=>h3 e.symm,by omega,by omega⟩)
theorem O0.more{items:Qq8}{a b:Qq4}{d e x:Int}(h:d<=e):O0 items a b d x->O0 items a b e x:=by
 rintro⟨k,k',c,h2,h3,f,g⟩;exact⟨k,k',c,h2,h3,by omega,by omega⟩
abbrev Acu(l:Qq5):Prop:=l.Pairwise (· < ·)
def Cl(k h:JD)(d:Int):Prop:=h.1=k.1/\h.2≠k.2/\-d<=h.2 - k.2/\h.2 - k.2<=d
theorem Uq:∀(i:Nat) (r:Qq8),(CJ i r).Pairwise fun p q=>p.2.1<=q.2.1
 | _,[]=>List.Pairwise.nil
 | i,t::r=>by
  unfold CJ;refine Qjw.2 ⟨?_,Uq (i+1) r,fun p hp q hq=>?_⟩
  ·rw[List.pairwise_iff_forall_sublist];intro p q hs;have a:=OS (hs.subset (Qz2 ..));have h2:=OS (hs.subset (Qz1 _ (Qz2 ..)));omega
  ·have a:=OS hp;have h2:=(Dx (i+1) r (total r) (fun t ht=>Ss ht) q hq).1;omega
theorem XW(items:Qq8)(w:Qq4):(Gf (CJ 0 items) w).Pairwise fun h k=>h.1<=k.1:=by
 unfold Gf;rw[QkX];exact(Uq 0 items).filter _
end Go.L
namespace Go.Proofs.YtopocbcekabkoaaGreatDoor
open Go Go.L
theorem AgI{k h:JD}{d:Int}(hd:1<=d)(hk : -1000000<=k.2/\k.2<=1000000)(hh : -1000000<=h.2/\h.2<=1000000):∃b,G2 k h d=some (b,(h.1,h.2),d)/\(b=true↔Cl k h d):=by
 unfold G2;rw[Ac (by constructor <;> omega),Ac (by constructor <;> omega)];unfold Cl
 by_cases a:(h.1=k.1)/\((0:Int)<(max (h.2 - k.2) (k.2 - h.2)))
 ·rw[if_pos a];refine⟨_,Z,?_⟩;rw[decide_eq_true_eq]
  constructor
  ·intro h2;exact⟨a.1,by omega,by omega,by omega⟩
  ·rintro⟨_,_,h2,h3⟩;omega
 ·rw[if_neg a];refine⟨_,Z,?_⟩;simp only[Qxk,false_iff];rintro⟨h2,h3,_⟩;exact a ⟨h2,by omega⟩
theorem XX{B:List JD}(hB:B.length<=1000000)(hb:∀k∈B,-1000000<=k.2/\k.2<=1000000){h:JD}(hh : -1000000<=h.2/\h.2<=1000000){d:Int}(hd:1<=d):
  ∃b,Ca B h d=some (b,(h.1,h.2),d)/\(b=true↔∃k∈B,Cl k h d):=by
 unfold Ca E1 Gh
 have key:∀(r:List JD) (i:Nat),B.drop i=r->∃z,run (B7 B) (h.1,h.2,d,(i:Int))=some (z,(h.1,h.2),d)/\(0<=z↔∃k∈r,Cl k h d):=by
  intro r
  induction r with
  | nil=>
   intro i hdr;have hlen:=K5 hdr;refine⟨-1,AV (m:=some (-1,(h.1,h.2),d)) ?_,by simp⟩;unfold B7 DI;simp only;rw[if_neg U]
  | cons x r ih=>
   intro i hdr;obtain⟨hg,hd',hlt⟩:=IH hdr;have hx:x∈B:=List.mem_of_mem_drop (by rw[hdr];exact Qz2 ..);obtain⟨b,a,h2⟩:=AgI (k:=x) hd (hb x hx) hh;have h1':G2 (x.1,x.2) (h.1,h.2) d=some (b,(h.1,h.2),d):=a
   cases b with
   | true=>
    refine⟨(i:Int),AV (m:=some ((i:Int),(h.1,h.2),d)) ?_,?_⟩
    ·unfold B7;simp only;rw[if_pos U,Ac ⟨by omega,by omega⟩,Qzk,hg,h1',Qzq,if_pos Z]
    ·exact⟨fun _=>⟨x,Qz2 ..,h2.1 Z⟩,fun _=>by omega⟩
   | false=>
    obtain⟨z,h3,c⟩:=ih (i+1) hd';refine⟨z,?_,?_⟩
    ·rw[<- h3];refine Bh ?_;unfold B7;simp only;rw[if_pos U,Ac ⟨by omega,by omega⟩,Qzk,hg,h1',Qzq,if_neg Qxu,Ac (by constructor <;> omega)]
     rfl
    ·rw[c]
     constructor
     ·rintro⟨k,hk,hc⟩;exact⟨k,Qz1 _ hk,hc⟩
     ·rintro⟨k,hk,hc⟩
      rcases Qze.1 hk with rfl | hk
      ·have:=h2.2 hc;cases this
      ·exact⟨k,hk,hc⟩
 obtain⟨z,a,h2⟩:=key B 0 Z;rw[show run (B7 B) ((h.1,h.2).1,(h.1,h.2).2,d,0)=_ from a,Qzq];exact⟨_,Z,by rw[decide_eq_true_eq];exact h2⟩
theorem UX{n:Int}{es:HM}(hx:XOk es)(b:Qq4){d:Int}(hd:1<=d){H:List JD}(hH:H.length<=1000000):∀(r:List JD) (j:Nat) (out:Qq5),H.drop j=r->j<=H.length->out.length<=j->Acu out->(∀y∈out,∀h∈r,y<=h.1)->r.Pairwise (fun h k=>h.1<=k.1)->(∀h∈r,-1000000<=h.2/\h.2<=1000000)->
  ∃L,run (Eb (n,es) b H) (out,d,(j:Int))=some (L,(0,0))/\Acu L/\L.length<=H.length/\∀x,x∈L↔x∈out\/∃h∈r,h.1=x/\∃k∈BF [] b es,Cl k h d
 | [],j,out,hdr,hjl,ho,hi,_,_,_=>by
  have hlen:=K5 hdr;refine⟨out,AV (m:=some (out,(0,0))) ?_,hi,by omega,by simp⟩
  ·unfold Eb Ke;simp only;rw[if_neg U]
 | h::r,j,out,hdr,hjl,ho,hi,hy,hs,hr=>by
  obtain⟨hg,hd',hlt⟩:=IH hdr;have hb:=hr h (Qz2 ..);have hw:=hx.Acp b;obtain⟨c,s,h2⟩:=XX hw.1 hw.2 hb hd;have h1':Ca (BF [] b es) (h.1,h.2) d=some (c,(h.1,h.2),d):=s;have g:=Qxx.1 hs;have i:(j:Int)+1=((j+1:Nat):Int):=by omega
  -- the list behind this round
  by_cases hadd:c=true/\h.1∉out
  ·have hi':Acu (out++[h.1]):=Qjw.2 ⟨hi,QkC _ _,fun y f z hz=>by
    rw[QzD.1 hz];have h3:=hy y f h (Qz2 ..);have t:y≠h.1:=fun e=>hadd.2 (e ▸ f);omega⟩
   obtain⟨L,l,o,p,q⟩:=UX hx b hd hH r (j+1) (out++[h.1]) hd' hlt (by simp;omega) hi' (fun y f k hk=>by
    rcases QzK.1 f with f | f
    ·exact hy y f k (Qz1 _ hk)
    ·rw[QzD.1 f];exact g.1 k hk) g.2 (fun k hk=>hr k (Qz1 _ hk))
   refine⟨L,?_,o,p,fun x=>?_⟩
   ·rw[<- l];refine Bh ?_;unfold Eb;simp only;rw[if_pos U,Ac ⟨by omega,by omega⟩,Qzk,hg,QA (by have:=hx.len;omega) b hx.inc,Qzq,h1',Qzq,if_pos hadd.1,Up U,Qzq,decide_eq_false hadd.2,if_pos Qqc,Ac (by rw[Qxv];constructor <;> omega),Ac (by constructor <;> omega),i]
   ·rw[q,QzK,QzD]
    constructor
    ·rintro((a | a) | ⟨k,hk,a⟩)
     ·exact .inl a
     ·exact .inr ⟨h,Qz2 ..,a.symm,h2.1 hadd.1⟩
     ·exact .inr ⟨k,Qz1 _ hk,a⟩
    ·rintro(a | ⟨k,hk,a⟩)
     ·exact .inl (.inl a)
     ·rcases Qze.1 hk with rfl | hk
      ·exact .inl (.inr a.1.symm)
      ·exact .inr ⟨k,hk,a⟩
  ·obtain⟨L,l,o,p,q⟩:=UX hx b hd hH r (j+1) out hd' hlt U hi (fun y f k hk=>hy y f k (Qz1 _ hk)) g.2 (fun k hk=>hr k (Qz1 _ hk));refine⟨L,?_,o,p,fun x=>?_⟩
   ·rw[<- l];refine Bh ?_;unfold Eb;simp only;rw[if_pos U,Ac ⟨by omega,by omega⟩,Qzk,hg,QA (by have:=hx.len;omega) b hx.inc,Qzq,h1',Qzq]
    cases c with
    | false=>rw[if_neg Qxu,Ac (by constructor <;> omega),i]
    | true=>
     have hin:h.1∈out:=Decidable.byContradiction fun hn=>hadd ⟨Z,hn⟩;rw[if_pos Z,Up U,Qzq,decide_eq_true hin,if_neg Qqc,Ac (by constructor <;> omega),i]
   ·rw[q]
    constructor
    ·rintro(a | ⟨k,hk,a⟩)
     ·exact .inl a
     ·exact .inr ⟨k,Qz1 _ hk,a⟩
    ·rintro(a | ⟨k,hk,a⟩)
     ·exact .inl a
     ·rcases Qze.1 hk with rfl | hk
      ·have hc:c=true:=h2.2 a.2;have hin:k.1∈out:=Decidable.byContradiction fun hn=>hadd ⟨hc,hn⟩;exact .inl (a.1 ▸ hin)
      ·exact .inr ⟨k,hk,a⟩
def ZH(a b:Qq4)(d:Int):Prop:=wf a=(0,0)/\wf b=(0,0)/\1<=d/\d<=2048
def Ajp(a b:Qq4):Int×Int:=if wf a=(0,0)then if wf b=(0,0)then(4,-3)else((wf b).1,-2)else wf a
theorem Ai3{n:Int}{items:Qq8}(hn:items.length<=64)(ht:∀t∈items,t.length<=2048)(a b:Qq4)(d:Int):
  (ZH a b d->∃L,Gl (n,E items) a b d=some (L,(0,0))/\Acu L/\L.length<=1000000/\∀x,x∈L↔O0 items a b d x)/\(¬ZH a b d->Gl (n,E items) a b d=some ([],Ajp a b)):=by
 have hx:=XOk.AkV hn ht;unfold Gl;rw[Ou,Qzq]
 constructor
 ·rintro⟨c,h2,h3,l⟩;have hw:=hx.Acp a;obtain⟨L,m,o,q,p⟩:=UX (n:=n) hx b h3 hw.1 (BF [] a (E items)) 0 [] Z (Qz5 _) (Qzu _) List.Pairwise.nil Qqd (by rw[Xq];exact XW items a) hw.2;refine⟨L,?_,o,by omega,fun x=>?_⟩
  ·rw[if_pos (by rw[c];exact⟨Z,Z⟩),Ou,Qzq,if_pos (by rw[h2];exact⟨Z,Z⟩),if_neg U,if_neg U];simp only;rw[QA (by have:=hx.len;omega) a hx.inc,Qzq];exact m
  ·rw[p];unfold O0
   constructor
   ·rintro(e | ⟨h,hh,rfl,k,hk,f,g,i,j⟩)
    ·cases e
    ·rw[Xq,G8]at hh hk;exact⟨h.2,k.2,hh,by rw[f];exact hk,g,i,j⟩
   ·rintro⟨k,k',e,f,g,i,j⟩;refine .inr ⟨(x,k),by rw[Xq,G8];exact e,Z,(x,k'),by rw[Xq,G8];exact f,Z,g,i,j⟩
 ·intro h;unfold Ajp
  by_cases c:wf a=(0,0)
  ·rw[if_pos (by rw[c];exact⟨Z,Z⟩),if_pos c,Ou,Qzq]
   by_cases h2:wf b=(0,0)
   ·rw[if_pos (by rw[h2];exact⟨Z,Z⟩),if_pos h2]
    by_cases h3:d<1
    ·rw[if_pos h3];rfl
    ·rw[if_neg h3]
     by_cases l:2048<d
     ·rw[if_pos l];rfl
     ·exact absurd ⟨c,h2,by omega,by omega⟩ h
   ·rw[if_neg (fun x=>h2 (Qxw x.1 x.2)),if_neg h2];rfl
  ·rw[if_neg (fun x=>c (Qxw x.1 x.2)),if_neg c]
/- The reference. -/
theorem AgJ{x y:List JD}(hx:x.length<=1000000)(hy:y.length<=1000000)(hxb:∀h∈x,-1000000<=h.2/\h.2<=1000000)(hyb:∀h∈y,-1000000<=h.2/\h.2<=1000000){d:Int}(hd:1<=d/\d<=2048){k:Nat}{h:JD}(hk:k<x.length)(hg:x.getD k Qq2=h):
  ∀(r:List JD) (j:Nat) (f:Bool),y.drop j=r->∃g,run (IE d (k:Int) x y) (f,(j:Int))=some (.inl (g,((k+1:Nat):Int)))/\(g=true↔f=true\/∃q∈r,h.2≠q.2/\-d<=h.2 - q.2/\h.2 - q.2<=d)
 | [],j,f,hdr=>by
  have hlen:=K5 hdr;refine⟨f,AV (m:=some (Sum.inl (f,((k+1:Nat):Int)))) ?_,by simp⟩;unfold IE Q2;simp only;rw[if_neg U,Ac (by constructor <;> omega)]
  rfl
 | q::r,j,f,hdr=>by
  obtain⟨hgq,hd',hlt⟩:=IH hdr
  have hhx:h∈x:=by
   rw[<- hg,Qzj,Qzy hk];exact Qz3 _
  have hqy:q∈y:=List.mem_of_mem_drop (by rw[hdr];exact Qz2 ..);have o:=hxb h hhx;have p:=hyb q hqy;have b:(j:Int)+1=((j+1:Nat):Int):=by omega
  -- what is found behind this round
  have step:∃f',IE d (k:Int) x y (f,(j:Int))=some (.inl (f',((j+1:Nat):Int)))/\(f'=true↔f=true\/(h.2≠q.2/\-d<=h.2 - q.2/\h.2 - q.2<=d)):=by
   unfold IE;simp only;rw[if_pos U,Ac ⟨by omega,by omega⟩,Ac ⟨by omega,by omega⟩,Qzk,Qzk,hg,hgq,Ac (by constructor <;> omega)]
   cases f with
   | true=>exact⟨true,by rw[if_pos Z,Ac (by constructor <;> omega),b],by simp⟩
   | false=>
    rw[if_neg Qqc]
    by_cases e:h.2 - q.2=0
    ·exact⟨false,by rw[if_pos e,Ac (by constructor <;> omega),b],by simp;omega⟩
    ·rw[if_neg e,Ac (by constructor <;> omega),PO,Qzq,Ac (by constructor <;> omega),b];refine⟨_,Z,?_⟩;rw[decide_eq_true_eq];simp only[Qxk,false_or]
     constructor
     ·rintro⟨h3,c⟩;exact⟨by omega,h3,c⟩
     ·rintro⟨_,h3,c⟩;exact⟨h3,c⟩
  obtain⟨f',s1,i⟩:=step;obtain⟨g,l,n⟩:=AgJ hx hy hxb hyb hd hk hg r (j+1) f' hd';refine⟨g,by rw[Bh s1];exact l,?_⟩;rw[n,i]
  constructor
  ·rintro((a | a) | ⟨z,hz,a⟩)
   ·exact .inl a
   ·exact .inr ⟨q,Qz2 ..,a⟩
   ·exact .inr ⟨z,Qz1 _ hz,a⟩
  ·rintro(a | ⟨z,hz,a⟩)
   ·exact .inl (.inl a)
   ·rcases Qze.1 hz with rfl | hz
    ·exact .inl (.inr a)
    ·exact .inr ⟨z,hz,a⟩
theorem AgK{x y:List JD}(hx:x.length<=1000000)(hy:y.length<=1000000)(hxb:∀h∈x,-1000000<=h.2/\h.2<=1000000)(hyb:∀h∈y,-1000000<=h.2/\h.2<=1000000){d:Int}(hd:1<=d/\d<=2048)(out:Qq5)(i:Nat):
  ∀(r:List JD) (k:Nat) (f:Bool),x.drop k=r->∃g,run (K4 d out (i:Int) x y) (f,(k:Int))=NH out (i:Int) g/\(g=true↔f=true\/∃h∈r,∃q∈y,h.2≠q.2/\-d<=h.2 - q.2/\h.2 - q.2<=d)
 | [],k,f,hdr=>by
  have hlen:=K5 hdr;refine⟨f,AV ?_,by simp⟩;unfold K4;simp only;rw[if_neg U]
 | h::r,k,f,hdr=>by
  obtain⟨hg,hd',hlt⟩:=IH hdr;obtain⟨f',s1,b⟩:=AgJ hx hy hxb hyb hd hlt hg y 0 f Z;obtain⟨g,c,e⟩:=AgK hx hy hxb hyb hd out i r (k+1) f' hd';refine⟨g,?_,?_⟩
  ·rw[<- c];refine Bh ?_;unfold K4 TV;simp only;rw[if_pos U];exact s1
  ·rw[e,b]
   constructor
   ·rintro((a | a) | ⟨z,hz,a⟩)
    ·exact .inl a
    ·exact .inr ⟨h,Qz2 ..,a⟩
    ·exact .inr ⟨z,Qz1 _ hz,a⟩
   ·rintro(a | ⟨z,hz,a⟩)
    ·exact .inl (.inl a)
    ·rcases Qze.1 hz with rfl | hz
     ·exact .inl (.inr a)
     ·exact .inr ⟨z,hz,a⟩
theorem Aey{items:Qq8}{a b:Qq4}{d:Int}{i:Nat}(hi:i<items.length):
  (∃h∈Gf (CJ 0 [items.getD i Qq2]) a,∃q∈Gf (CJ 0 [items.getD i Qq2]) b,h.2≠q.2/\-d<=h.2 - q.2/\h.2 - q.2<=d)↔O0 items a b d (i:Int):=by
 have one:∀(w:Qq4) (k:Nat),(w,((0:Int),(k:Int)))∈CJ 0 [items.getD i Qq2]↔(w,((i:Int),(k:Int)))∈CJ 0 items:=fun w k=>by
  have c:=PT [items.getD i Qq2] 0 0 k w;have h2:=PT items 0 i k w;rw[show((0:Nat):Int)=0 from Z]at c;rw[c,h2,Nat.sub_zero,Nat.sub_zero];have e:([items.getD i Qq2]:Qq8).getD 0 Qq2=items.getD i Qq2:=Z;rw[e,Qxv]
  constructor
  ·rintro⟨_,_,h3⟩;exact⟨Qz5 _,by omega,h3⟩
  ·rintro⟨_,_,h3⟩;exact⟨Qz5 _,by omega,h3⟩
 have nat:∀{r:Qq8}{p:Qq4×JD},p∈CJ 0 r->∃k:Nat,p.2.2=(k:Int):=fun {r p} hp=>by
  have:=(Dx 0 r (total r) (fun t ht=>Ss ht) p hp).2.2.1;exact⟨p.2.2.toNat,by omega⟩
 have zer:∀{p:Qq4×JD},p∈CJ 0 [items.getD i Qq2]->p.2.1=0:=fun {p} hp=>by
  have:=Dx 0 [items.getD i Qq2] (total [items.getD i Qq2]) (fun t ht=>Ss ht) p hp;rw[Qxv]at this;omega
 unfold O0
 constructor
 ·rintro⟨h,hh,q,hq,c,h2,h3⟩;rw[G8]at hh hq;obtain⟨k,hk⟩:=nat hh;obtain⟨k',hk'⟩:=nat hq;have f:=zer hh;have g:=zer hq;simp only at hk hk' f g;have j:h=(0,(k:Int)):=Qxw f hk;have l:q=(0,(k':Int)):=Qxw g hk';subst j l;exact⟨(k:Int),(k':Int),(one a k).1 hh,(one b k').1 hq,c,h2,h3⟩
 ·rintro⟨k,k',c,h2,h3,n,o⟩;obtain⟨m,hm⟩:=nat c;obtain⟨m',hm'⟩:=nat h2;simp only at hm hm';subst hm hm';exact⟨(0,(m:Int)),G8.2 ((one a m).2 c),(0,(m':Int)),G8.2 ((one b m').2 h2),h3,n,o⟩
theorem AgL{items:Qq8}(hn:items.length<=64)(ht:∀t∈items,t.length<=2048)(a b:Qq4){d:Int}(hd:1<=d/\d<=2048):
  ∃L,Sk items a b d=some L/\Acu L/\∀x,x∈L↔O0 items a b d x:=by
 have inb:∀x,O0 items a b d x->0<=x/\x<(items.length:Int):=fun x ⟨k,k',c,_⟩=>by
  have:=Dx 0 items 2048 ht _ c;simp only at this;omega
 unfold Sk TX
 have key:∀(m i:Nat) (out:Qq5),i+m=items.length->Acu out->out.length<=i->(∀x,x∈out↔O0 items a b d x/\x<(i:Int))->
   ∃L,run (IF items a b d) (out,(i:Int))=some L/\Acu L/\∀x,x∈L↔O0 items a b d x:=by
  intro m
  induction m with
  | zero=>
   intro i out hm hi ho hx;refine⟨out,AV (m:=some out) ?_,hi,fun x=>?_⟩
   ·unfold IF Q3;simp only;rw[if_neg U]
   ·rw[hx];exact⟨fun h=>h.1,fun h=>⟨h,by have:=inb x h;omega⟩⟩
  | succ m ih=>
   intro i out hm hi ho hx;have hil:i<items.length:=by omega
   have htl:(items.getD i Qq2).length<=2048:=ht _ (by rw[Qzj,Qzy hil];exact Qz3 _)
   have hdt:(items.drop i).take (i+1 - i)=[items.getD i Qq2]:=by
    rw[Nat.add_sub_cancel_left,List.drop_eq_getElem_cons hil,List.take_succ_cons,List.take_zero,Qzj,Qzy hil]
    rfl
   have c:∀t∈[items.getD i Qq2],t.length<=2048:=fun t h=>by rw[QzD.1 h];exact htl
   have hp:=Sr (items:=[items.getD i Qq2]) Qqd c
   have hh:∀w,(Gf (CJ 0 [items.getD i Qq2]) w).length<=1000000/\∀h∈Gf (CJ 0 [items.getD i Qq2]) w,-1000000<=h.2/\h.2<=1000000:=fun w=>by
    have h2:=Ov (CJ 0 [items.getD i Qq2]) w;refine⟨by omega,fun h hm=>?_⟩;have:=Dx 0 _ 2048 c _ (G8.1 hm);simp only at this;omega
   have rh:∀w,NM [items.getD i Qq2] [w]=some (Gf (CJ 0 [items.getD i Qq2]) w):=fun w=>by rw[X6 Qqd Qqd c,Vw]
   have n:((i:Int)+1).toNat=i+1:=by omega
   obtain⟨g,o,f⟩:=AgK (hh a).1 (hh b).1 (hh a).2 (hh b).2 hd out i (Gf (CJ 0 [items.getD i Qq2]) a) 0 false Z;simp only[Qxk,false_or]at f;rw[Aey hil]at f
   have hbody:IF items a b d (out,(i:Int))=some (.inl (out++(if g then[(i:Int)]else[]),((i+1:Nat):Int))):=by
    unfold IF TW;simp only;rw[if_pos U,Ac (by constructor <;> omega),Ac ⟨by omega,by omega,by omega⟩,n,Qzk,hdt,rh a,Qzq,Ac (by constructor <;> omega),Ac ⟨by omega,by omega,by omega⟩,rh b,Qzq];refine o.trans ?_;unfold NH NG
    cases g with
    | true=>rw[if_pos Z,if_pos Z,Ac (by rw[Qxv];constructor <;> omega),Ac (by constructor <;> omega)];rfl
    | false=>rw[if_neg Qqc,if_neg Qqc,Ac (by constructor <;> omega),QzZ];rfl
   rw[Bh hbody]
   cases g with
   | true=>
    rw[if_pos Z]
    refine ih (i+1) _ U (Qjw.2 ⟨hi,QkC _ _,fun y hy z hz=>by
     rw[QzD.1 hz];exact((hx y).1 hy).2⟩) (by simp;omega) (fun x=>?_)
    rw[QzK,QzD,hx]
    constructor
    ·rintro(⟨h3,j⟩ | rfl)
     ·exact⟨h3,by omega⟩
     ·exact⟨f.1 Z,by omega⟩
    ·rintro⟨h3,j⟩
     by_cases l:x<(i:Int)
     ·exact .inl ⟨h3,l⟩
     ·exact .inr U
   | false=>
    rw[if_neg Qqc,QzZ];refine ih (i+1) _ U hi U (fun x=>?_);rw[hx]
    constructor
    ·rintro⟨h3,j⟩;exact⟨h3,by omega⟩
    ·rintro⟨h3,j⟩;refine⟨h3,?_⟩
     have l:x≠(i:Int):=fun e=>by
      have:=f.2 (e ▸ h3)
      cases this
     omega
 exact key items.length 0 [] U List.Pairwise.nil (Qzu _) (fun x=>by
  simp only[Qkd,false_iff,not_and];intro h;have:=inb x h;omega)
end Go.Proofs.YtopocbcekabkoaaGreatDoor
end
noncomputable section
namespace Go.L
open Go
theorem AgM(c d:UInt8)(p l:Qq4){k:Nat}(a:1<=k)(h2:k<=2):cls (c::p) (d::l)<k↔d.toNat<c.toNat\/d.toNat=c.toNat/\cls p l<k:=by
 have hle:cls p l<=2:=by unfold cls;split;omega;split <;> omega
 have hless:Op.bytesLess (d::l) (c::p)=true↔d.toNat<c.toNat\/d.toNat=c.toNat/\Op.bytesLess l p=true:=by
  rw[<- PM,<- PM];exact Xh d c l p
 unfold cls at hle ⊢;rw[Xg]
 by_cases hd:d=c
 ·subst hd;simp only[decide_true,Qkw]
  by_cases hp:pre l p=true
  ·rw[if_pos hp,if_pos hp];simp
  ·rw[if_neg hp,if_neg hp]
   by_cases hl:Op.bytesLess l p=true
   ·rw[if_pos hl,if_pos (hless.2 (.inr ⟨Z,hl⟩))];simp
   ·rw[if_neg hl,if_neg (fun h=>by rcases hless.1 h with h | h;omega;exact hl h.2)];simp
 ·have hne:d.toNat≠c.toNat:=fun e=>hd (UInt8.toNat.inj e);rw[decide_eq_false hd,Bool.false_and,if_neg Qqc]
  by_cases hl:d.toNat<c.toNat
  ·rw[if_pos (hless.2 (.inl hl))];omega
  ·rw[if_neg (fun h=>by rcases hless.1 h with h | h;exact hl h;exact hne h.1)];omega
def Pt(a p:Qq4)(k:Nat):Nat:=(Qzb (a.length+1)).countP fun q=>decide (cls p (a.drop q)<k)
theorem Ai4(a p:Qq4)(k:Nat){r:Nat}(hr:r<(op a).length):cls p (a.drop (op a)[r])<k↔r<Pt a p k:=by
 have hasc:((op a).map fun x=>cls p (a.drop x)).Pairwise (·<=·):=by
  rw[QkX];exact(UJ a).imp fun h=>AaC (of_decide_eq_true h)
 have h:=Sn _ k r hasc (by rw[Qza];exact hr);rw[List.countP_map,(Ug a).countP_eq]at h
 have hg:((op a).map fun x=>cls p (a.drop x)).getD r 0=cls p (a.drop (op a)[r]):=by
  rw[Qzj,Qxq,Qzy hr];rfl
 rw[hg]at h;exact h
theorem AgN(a p:Qq4)(k:Nat):Pt a p k<=a.length+1:=by
 have:=QjQ (p:=fun q=>decide (cls p (a.drop q)<k)) (l:=Qzb (a.length+1));rw[QxQ]at this;exact this
theorem X7(a p:Qq4):Pt a p 1<=Pt a p 2:=List.countP_mono_left fun q _ h=>decide_eq_true (by have:=of_decide_eq_true h;omega)
theorem Ad1(a:Qq4):Pt a [] 1=0/\Pt a [] 2=a.length+1:=by
 have h:∀q,cls [] (a.drop q)=1:=fun q=>by unfold cls;rw[pre_nil,if_pos Z]
 unfold Pt
 constructor
 ·exact List.countP_eq_zero.2 (fun q _=>by rw[h];decide)
 ·rw[List.countP_eq_length.2 (fun q _=>by rw[h];decide),QxQ]
theorem X8(a:Qq4)(f:Nat->Bool)(g:Nat->Bool)(h:∀r (hr:r<(op a).length),f r=g (op a)[r]):(Qzb (sym a).length).countP f=(Qzb (a.length+1)).countP g:=by
 rw[<- Yx a g];apply Qjk;intro r hr;have hr:r<(op a).length:=by rw[Eh,<- DV];exact QzE.1 hr
 rw[h r hr,opD hr]
def Sc(s:Qq5)(c:Int)(k:Nat):Nat:=(Qzb k).countP fun r=>decide (0<=s.getD r Qq2/\s.getD r Qq2<c)
def OU(s:Qq5)(c:Int)(f k:Nat):Nat:=(Qzb k).countP fun r=>decide (s.getD r Qq2=c/\r<f)
theorem UY{α:Type}(f g h:α->Bool)(e:∀x,h x=(f x||g x))(d:∀x,f x=true->g x=false):∀l:List α,l.countP h=l.countP f+l.countP g
 | []=>rfl
 | x::l=>by
  rw[Qka,Qka,Qka,UY f g h e d l,e x]
  cases hf:f x with
  | false=>simp;omega
  | true=>rw[d x hf];simp;omega
theorem Ur(a p:Qq4)(c:UInt8){k:Nat}(b:1<=k)(h2:k<=2):1+Sc (sym a) (c.toNat:Int) (sym a).length+OU (sym a) (c.toNat:Int) (Pt a p k) (sym a).length=Pt a (c::p) k:=by
 unfold Sc OU
 rw[X8 a _ (fun q=>decide (1<=q/\Hi a q<(c.toNat:Int))) (fun r hr=>by rw[M6 a hr];exact decide_eq_decide.2 (by rw[NI])),
  X8 a _ (fun q=>decide (Hi a q=(c.toNat:Int)/\cls p (a.drop q)<k)) (fun r hr=>by rw[M6 a hr];exact decide_eq_decide.2 (by rw[Ai4 a p k hr])),
  Nat.add_assoc,<- UY _ _ (fun q=>decide (1<=q/\Hi a q<(c.toNat:Int))||decide (Hi a q=(c.toNat:Int)/\cls p (a.drop q)<k)) (fun _=>Z) (fun q h=>by
   have:=of_decide_eq_true h;exact decide_eq_false U)]
 have eb:Pt a (c::p) k=(Qzb a.length).countP (fun q=>decide (cls (c::p) (a.drop q)<k))+[a.length].countP (fun q=>decide (cls (c::p) (a.drop q)<k)):=by
  unfold Pt;rw[QxC,Qk2]
 rw[eb]
 have d:(decide (1<=0/\Hi a 0<(c.toNat:Int))||decide (Hi a 0=(c.toNat:Int)/\cls p (a.drop 0)<k))=false:=by
  have:Hi a 0 = -1:=by unfold Hi;rw[if_pos Z]
  rw[this,decide_eq_false U,decide_eq_false U];rfl
 rw[Uh a.length (fun q=>decide (1<=q/\Hi a q<(c.toNat:Int))||decide (Hi a q=(c.toNat:Int)/\cls p (a.drop q)<k)) d]
 have e:(Qzb a.length).countP (fun q=>decide (1<=q+1/\Hi a (q+1)<(c.toNat:Int))||decide (Hi a (q+1)=(c.toNat:Int)/\cls p (a.drop (q+1))<k))=(Qzb a.length).countP (fun q=>decide (cls (c::p) (a.drop q)<k)):=by
  apply Qjk;intro q hq;have hq:=QzE.1 hq;have hd:=KR (a:=a) (q:=q+1) U U;rw[Qkx]at hd;rw[hd];simp only[Qxj,decide_eq_true_eq];rw[AgM c _ p _ b h2];unfold Hi;rw[if_neg U,Qkx];omega
 have f:decide (cls (c::p) (a.drop a.length)<k)=true:=by
  rw[Qjx];have:cls (c::p) []=0:=by unfold cls;rw[Ue];rfl
  rw[this];exact decide_eq_true U
 rw[e,List.countP_singleton,f,if_pos Z];omega
end Go.L
namespace Go.Proofs.YtopocbcekabkoaaGreatDoor
open Go Go.L
theorem Ai5{s:Qq5}(hl:s.length<=2049)(j:∀r,r<s.length->-1<=s.getD r Qq2){c:Int}(hc:0<=c)(f t:Nat):Ij s c (f:Int) (t:Int)=some (((1+Sc s c s.length+OU s c f s.length:Nat):Int),((1+Sc s c s.length+OU s c t s.length:Nat):Int)):=by
 have e:∀k,Sc s c k<=k:=fun k=>by have:=QjQ (p:=fun r=>decide (0<=s.getD r Qq2/\s.getD r Qq2<c)) (l:=Qzb k);rw[QxQ]at this;exact this
 have a:∀f k,OU s c f k<=k:=fun f k=>by have:=QjQ (p:=fun r=>decide (s.getD r Qq2=c/\r<f)) (l:=Qzb k);rw[QxQ]at this;exact this
 have s1:∀k,Sc s c (k+1)=Sc s c k+if 0<=s.getD k Qq2/\s.getD k Qq2<c then 1 else 0:=fun k=>by
  unfold Sc;rw[QxC,Qk2,List.countP_singleton];simp only[decide_eq_true_eq]
 have g:∀f k,OU s c f (k+1)=OU s c f k+if s.getD k Qq2=c/\k<f then 1 else 0:=fun f k=>by
  unfold OU;rw[QxC,Qk2,List.countP_singleton];simp only[decide_eq_true_eq]
 refine BR (b:=Di s c f t) (fun k=>(((1+Sc s c k:Nat):Int),(OU s c f k:Int),(OU s c t k:Int),(k:Int))) s.length (fun k hk=>?_) ?_ 0
 ·have d:∀x y:Nat,x<=5000->y<=5000->Cm s c (t:Int) (OU s c t k:Int) (k:Int) (x:Int) (y:Int)=some (.inl ((x:Int),(y:Int),(OU s c t (k+1):Int),((k+1:Nat):Int))):=fun x y hx hy=>by
   unfold Cm;have:=a t k;rw[Qzk,g t k]
   by_cases h:s.getD k Qq2=c/\k<t
   ·rw[if_pos U,if_pos h,Ac (by constructor <;> omega),Ac (by constructor <;> omega)];rfl
   ·rw[if_neg U,if_neg h,Ac (by constructor <;> omega)];rfl
  have m:=e k;have n:=a f k;have o:=j k hk;unfold Di;simp only;rw[if_pos U,Ac U,Qzk,s1 k,g f k]
  by_cases i:s.getD k Qq2 = -1
  ·rw[if_pos i,d _ _ U U,if_neg U,if_neg U];rfl
  ·rw[if_neg i]
   by_cases h2:s.getD k Qq2<c
   ·rw[if_pos h2,Ac (by constructor <;> omega),show((1+Sc s c k:Nat):Int)+1=((1+Sc s c k+1:Nat):Int) by omega,d _ _ U U,if_pos U,if_neg U];rfl
   ·rw[if_neg h2,if_neg (show ¬(0<=s.getD k Qq2/\s.getD k Qq2<c) by omega)]
    by_cases h3:s.getD k Qq2=c/\k<f
    ·rw[if_pos U,Ac (by constructor <;> omega),show(OU s c f k:Int)+1=((OU s c f k+1:Nat):Int) by omega,d _ _ U U,if_pos h3];rfl
    ·rw[if_neg U,d _ _ U U,if_neg h3];rfl
 ·have m:=e s.length;have n:=a f s.length;have o:=a t s.length;unfold Di;simp only;rw[if_neg U];unfold GN;rw[Ac (by constructor <;> omega),Ac (by constructor <;> omega)]
  rfl
theorem Us{a p:Qq4}(h:a.length<=2048)(hp:p.length<=64):∀k,k<=p.length->
  ∃f t:Nat,IQ (idx a) p ((Pt a (p.drop k) 1:Int),(Pt a (p.drop k) 2:Int),(k:Int) - 1)=some ((f:Int),(t:Int),(0,0))/\f<=t/\t<=a.length+1/\(f=t->Pt a p 1=Pt a p 2)/\(f<t->f=Pt a p 1/\t=Pt a p 2)
 | 0,_=>by
  refine⟨Pt a p 1,Pt a p 2,AV (b:=Cs (idx a) p) (m:=some _) ?_,X7 a p,AgN a p 2,id,fun _=>⟨Z,Z⟩⟩;unfold Cs;simp only;have:=X7 a p;rw[if_neg U,Qx8];unfold GF;rw[show max (Pt a p 1:Int) (Pt a p 2:Int)=(Pt a p 2:Int) by omega]
 | k+1,hk=>by
  have hm:=X7 a (p.drop (k+1))
  by_cases hlt:Pt a (p.drop (k+1)) 1<Pt a (p.drop (k+1)) 2
  ·have hd:p.drop k=p.getD k Qq2::p.drop (k+1):=by
    have:=KR (a:=p) (q:=k+1) U hk;rw[Qkx]at this;exact this
   have hb:Cs (idx a) p ((Pt a (p.drop (k+1)) 1:Int),(Pt a (p.drop (k+1)) 2:Int),((k+1:Nat):Int) - 1)=some (.inl ((Pt a (p.drop k) 1:Int),(Pt a (p.drop k) 2:Int),(k:Int) - 1)):=by
    unfold Cs;simp only;have c:(((k+1:Nat):Int) - 1).toNat=k:=by omega
    have d:(idx a).1=sym a:=Z;rw[if_pos U,Ac U,c,d,Ai5 (by rw[DV];omega) (fun r hr=>by rw[M6 a (by rw[Eh,<- DV];exact hr)];unfold Hi;split <;> omega) U,Qzq,Ac (by constructor <;> omega),Ur a _ _ U U,Ur a _ _ U U,<- hd]
    congr 4;omega
   unfold IQ;rw[Bh hb];exact Us h hp k U
  ·have he:Pt a (p.drop (k+1)) 1=Pt a (p.drop (k+1)) 2:=by omega
   have hnone:∀j,j<=k+1->Pt a (p.drop (k+1 - j)) 1=Pt a (p.drop (k+1 - j)) 2:=by
    intro j
    induction j with
    | zero=>intro _;exact he
    | succ j ih=>
     intro hj;have ih:=ih U
     have hd:p.drop (k+1 - (j+1))=p.getD (k+1 - (j+1)) Qq2::p.drop (k+1 - j):=by
      have:=KR (a:=p) (q:=k+1 - j) U U;rw[show k+1 - (j+1)=k+1 - j - 1 by omega];exact this
     rw[hd,<- Ur a _ _ U U,<- Ur a _ _ U U,ih]
   have hz:=hnone (k+1) U;rw[Nat.sub_self,Qx8]at hz;refine⟨Pt a (p.drop (k+1)) 1,Pt a (p.drop (k+1)) 1,AV (b:=Cs (idx a) p) (m:=some _) ?_,Qzu _,AgN a _ 1,fun _=>hz,fun h=>absurd h U⟩;unfold Cs;simp only;rw[if_neg U];unfold GF;rw[<- he,Int.max_self]
def pfF(p:Qq4):Int×Int:=if p.length=0 then(10,-1)else if p.length<=64 then(0,0)else(3,-1)
theorem Ai6{a p:Qq4}(h:a.length<=2048):∃f t:Nat,G4 (idx a) p=some ((f:Int),(t:Int),pfF p)/\f<=t/\t<=a.length+1/\(pfF p≠(0,0)->f=0/\t=0)/\(pfF p=(0,0)->(f=t->Pt a p 1=Pt a p 2)/\(f<t->f=Pt a p 1/\t=Pt a p 2)):=by
 unfold G4 pfF
 by_cases c:p.length=0
 ·rw[if_pos U,if_pos c];exact⟨0,0,Z,Qzu _,Qz5 _,fun _=>⟨Z,Z⟩,fun e=>absurd e Qqc⟩
 ·rw[if_neg U,if_neg c]
  by_cases b:p.length<=64
  ·rw[if_neg U,if_pos b]
   have e:Gc (idx a).1=some ((a.length+1:Nat):Int):=by
    unfold Gc;rw[show(idx a).1.length=a.length+1 from DV a]
    congr 1;omega
   rw[e,Qzq,Ac (by constructor <;> omega)];obtain⟨f,t,d,g,i,j,k⟩:=Us h b p.length (Qzu _);rw[Qjx,(Ad1 a).1,(Ad1 a).2]at d;exact⟨f,t,d,g,i,fun e=>absurd Z e,fun _=>⟨j,k⟩⟩
  ·rw[if_pos U,if_neg b];exact⟨0,0,Z,Qzu _,Qz5 _,fun _=>⟨Z,Z⟩,fun e=>absurd e Qqc⟩
end Go.Proofs.YtopocbcekabkoaaGreatDoor
end
noncomputable section
namespace Go.L
open Go
def XY(a p:Qq4)(k:Nat):List Nat:=(Qzb k).filter fun q=>pre (a.drop q) p
def occ(a p:Qq4):Qq5:=(XY a p a.length).map fun q:Nat=>(q:Int)
theorem Ai7(p l:Qq4):decide (cls p l<2)=(decide (cls p l<1)||pre l p):=by
 unfold cls
 by_cases hp:pre l p=true
 ·rw[if_pos hp,hp];decide
 ·rw[if_neg hp];have:pre l p=false:=by simpa using hp
  rw[this]
  split <;> decide
theorem Ai8{p l:Qq4}:pre l p=decide (¬cls p l<1/\cls p l<2):=by
 unfold cls
 by_cases hp:pre l p=true
 ·rw[if_pos hp,hp];decide
 ·rw[if_neg hp];have:pre l p=false:=by simpa using hp
  rw[this]
  split <;> decide
theorem Ai9{a p:Qq4}(hp:p≠[]):pre (a.drop a.length) p=false:=by
 rw[Qjx]
 cases p with
 | nil=>exact absurd Z hp
 | cons c p=>exact Ue c p
theorem Aez{a p:Qq4}(hp:p≠[]):XY a p (a.length+1)=XY a p a.length:=by
 unfold XY;rw[QxC,Qkj]
 have:[a.length].filter (fun q=>pre (a.drop q) p)=[]:=by
  rw[List.filter_cons_of_neg (by rw[Ai9 hp];decide)];rfl
 rw[this,QzZ]
theorem AiA{a p:Qq4}(hp:p≠[]):Pt a p 2=Pt a p 1+(occ a p).length:=by
 have h:Pt a p 2=Pt a p 1+(Qzb (a.length+1)).countP (fun q=>pre (a.drop q) p):=
  UY _ _ _ (fun q=>Ai7 p (a.drop q)) (fun q h=>by
   have:=of_decide_eq_true h;rw[Ai8];exact decide_eq_false U) _
 rw[h,List.countP_eq_length_filter]
 show _+(XY a p (a.length+1)).length=_
 rw[Aez hp];unfold occ;rw[Qza]
end Go.L
namespace Go.Proofs.YtopocbcekabkoaaGreatDoor
open Go Go.L
theorem AkZ{p:Qq4}(h:pfF p=(0,0)):p≠[]/\p.length<=64:=by
 unfold pfF at h
 split at h
 ·exact absurd h Qqc
 ·rename_i a;refine⟨fun e=>a (by rw[e];rfl),?_⟩
  split at h
  ·assumption
  ·exact absurd h Qqc
theorem Abl{a p:Qq4}(h:a.length<=2048):D4 (idx a) p=some (if pfF p=(0,0)then((occ a p).length:Int)else 0,pfF p):=by
 obtain⟨f,t,c,g,i,d,e⟩:=Ai6 (p:=p) h;unfold D4
 show Qq9 (G4 (idx a) p) _=_
 rw[c,Qzq,Ac (by show Bq ((t:Int) - (f:Int));constructor <;> omega)]
 by_cases hp:pfF p=(0,0)
 ·rw[if_pos hp];obtain⟨r1,r2⟩:=e hp;have hb:=AiA (a:=a) (AkZ hp).1
  have:(t:Int) - (f:Int)=((occ a p).length:Int):=by
   rcases Qxa f t with b | b
   ·have:=r2 b;omega
   ·have:=r1 U;omega
  show some ((t:Int) - (f:Int),pfF p)=_
  rw[this]
 ·rw[if_neg hp];obtain⟨rfl,rfl⟩:=d hp
  rfl
theorem Acv{a p:Qq4}(ha:a.length<=2048)(hp:p.length<=2048):RO a p=some (occ a p):=by
 refine BR (b:=I8 a p) (fun k=>((XY a p k).map (fun q:Nat=>(q:Int)),(k:Int))) a.length (fun k hk=>?_) ?_ 0
 ·unfold I8;simp only
  have hle:(XY a p k).length<=k:=by
   have:=Qx0 (fun q=>pre (a.drop q) p) (Qzb k);rw[QxQ]at this;exact this
  have hs:XY a p (k+1)=XY a p k++if pre (a.drop k) p then[k]else[]:=by
   unfold XY;rw[QxC,Qkj]
   congr 1
   cases h:pre (a.drop k) p <;> simp[h]
  rw[if_pos U,AbX ha hp U,Qzq,hs]
  cases h:pre (a.drop k) p with
  | true=>
   rw[if_pos Z,Ac (by rw[Qza];simp only[Qxv];constructor <;> omega),Ac (by constructor <;> omega),if_pos Z,Qxc]
   rfl
  | false=>
   rw[if_neg Qqc,Ac (by constructor <;> omega),if_neg Qqc,QzZ]
   rfl
 ·unfold I8;simp only;rw[if_neg U]
  rfl
end Go.Proofs.YtopocbcekabkoaaGreatDoor
end
noncomputable section
namespace Go.L
def Mk(L:List Bool)(n:Nat)(Q:Int->Prop):Prop:=L.length=n/\∀i:Nat,i<n->(L.getD i Qq2=true↔Q i)
theorem Mk.set{L:List Bool}{n:Nat}{Q:Int->Prop}(h:Mk L n Q){at':Nat}(ha:at'<n)(c:Bool):Mk (L.set at' (L.getD at' Qq2||c)) n (fun z=>Q z\/(c=true/\z=(at':Int))):=by
 refine⟨by rw[List.length_set];exact h.1,fun i hi=>?_⟩;rw[Qzj,QjZ]
 by_cases he:at'=i
 ·subst he;rw[if_pos Z,if_pos (by rw[h.1];exact ha)];have:=h.2 at' ha
  show(L.getD at' Qq2||c)=true↔_
  rw[Qxj,this];exact⟨fun h=>h.imp id fun h=>⟨h,Z⟩,fun h=>h.imp id fun h=>h.1⟩
 ·rw[if_neg he,<- Qzj,h.2 i hi];exact⟨.inl,fun h=>h.resolve_right fun h=>he U⟩
def collected(f:(Qq4×Int×Int×Qq4)×Qq5->Bool)(es:List ((Qq4×Int×Int×Qq4)×Qq5)):Qq5:=(es.filter f).flatMap (·.2)
theorem SR{f:(Qq4×Int×Int×Qq4)×Qq5->Bool}{es:List ((Qq4×Int×Int×Qq4)×Qq5)}{z:Int}:z∈collected f es↔∃e∈es,f e=true/\z∈e.2:=by
 unfold collected;rw[List.mem_flatMap]
 constructor
 ·rintro⟨e,he,hz⟩;obtain⟨a,h2⟩:=QxD.1 he;exact⟨e,a,h2,hz⟩
 ·rintro⟨e,a,h2,hz⟩;exact⟨e,QxD.2 ⟨a,h2⟩,hz⟩
theorem O1(f:(Qq4×Int×Int×Qq4)×Qq5->Bool){es:List ((Qq4×Int×Int×Qq4)×Qq5)}{i:Nat}(h:i<es.length):collected f (es.take (i+1))=collected f (es.take i)++if f (es.getD i Qq2)then(es.getD i Qq2).2 else[]:=by
 unfold collected;rw[List.take_add_one,Qzy h,Qkj,List.flatMap_append]
 congr 1
 have e:es.getD i Qq2=es[i]:=by simp[Qzj,Qzy h]
 rw[e];simp only[Option.toList_some,Qk8,Qk0]
 by_cases hf:f es[i]=true
 ·simp[hf]
 ·simp[hf]
theorem Gi(f:(Qq4×Int×Int×Qq4)×Qq5->Bool):∀{es:List ((Qq4×Int×Int×Qq4)×Qq5)},(∀e∈es,e.2.length<=64)->(collected f es).length<=64 * es.length
 | [],_=>by simp[collected]
 | e::es,h=>by
  have a:=h e (.head _);have h2:=Gi f (es:=es) fun x hx=>h x (.tail _ hx);unfold collected at h2 ⊢;rw[Qk8]
  split
  ·rw[QxX,Qzd,Qzc];omega
  ·rw[Qzc];omega
end Go.L
namespace Go.Proofs.YtopocbcekabkoaaGreatDoor
open Go Go.L
def XC(pat:Qq4)(e:(Qq4×Int×Int×Qq4)×Qq5):Bool:=fits (col (sl pat)) (sl e.1.1)
def qmE(pat:Qq4)(lo hi:Int)(e:(Qq4×Int×Int×Qq4)×Qq5):Bool:=XC pat e&&decide (e.1.2.1=1/\lo<=e.1.2.2.1/\e.1.2.2.1<=hi)
theorem X9(l:Qq5):(Go.E.ML l).length=l.length:=List.length_mergeSort _
theorem Acw{n:Int}{es:List En}{pat:Qq4}(hp:pat.length<900)(hl:es.length<=1000000)(a:∀e∈es,e.2.length<=64)(hpath:∀e∈es,e.1.1.length<=330):GW (n,es) pat=some (NK (collected (XC pat) es)):=by
 unfold GW La;refine BR (fun i=>(collected (XC pat) (es.take i),((i:Nat):Int))) es.length (fun i hi=>?_) ?_ 0
 ·have hlen:=Gi (XC pat) (es:=es.take i) fun e he=>a e (List.mem_of_mem_take he);rw[QzC]at hlen;have b:=a _ (C3 hi);have h2:=hpath _ (C3 hi);have hm:Ex pat (es.getD i Qq2).1.1=some (XC pat (es.getD i Qq2)):=Tp hp U;unfold Fe Kd;dsimp only;rw[if_pos U,Ac U,Qzk,Qzq,if_pos Z,hm,Qzq,O1 _ hi]
  by_cases hf:XC pat (es.getD i Qq2)=true
  ·rw[if_pos hf,if_pos hf,Ac (by unfold Go.E.Fz;omega),Ac (by unfold Bq;omega)]
   rfl
  ·rw[if_neg hf,if_neg hf,Ac (by unfold Bq;omega),QzZ]
   rfl
 ·have hlen:=Gi (XC pat) a;unfold Fe HA;dsimp only;rw[if_neg U,Qx3,Ac U,Ac (by rw[X9];omega)]
  rfl
theorem AiC(e:En)(lo hi:Int):EI e lo hi=some (decide (e.1.2.1=1/\lo<=e.1.2.2.1/\e.1.2.2.1<=hi),lo,hi):=by
 unfold EI
 by_cases a:e.1.2.1=1
 ·by_cases h2:lo<=e.1.2.2.1
  ·rw[if_pos a,if_pos h2];simp[a,h2]
  ·rw[if_pos a,if_neg h2];simp[a,h2]
 ·rw[if_neg a];simp[a]
theorem Abm{n:Int}{es:List En}{pat:Qq4}{lo hi:Int}(hp:pat.length<900)(hl:es.length<=1000000)(a:∀e∈es,e.2.length<=64)(hpath:∀e∈es,e.1.1.length<=330):F7 (n,es) pat lo hi=some (NK (collected (qmE pat lo hi) es),lo,hi):=by
 unfold F7 J1;refine BR (fun i=>(collected (qmE pat lo hi) (es.take i),lo,hi,((i:Nat):Int))) es.length (fun i hi'=>?_) ?_ 0
 ·have hlen:=Gi (qmE pat lo hi) (es:=es.take i) fun e he=>a e (List.mem_of_mem_take he);rw[QzC]at hlen;have b:=a _ (C3 hi');have h2:=hpath _ (C3 hi');have hm:Ex pat (es.getD i Qq2).1.1=some (XC pat (es.getD i Qq2)):=Tp hp U;have hn:EI (((es.getD i Qq2).1.1,(es.getD i Qq2).1.2.1,(es.getD i Qq2).1.2.2.1,(es.getD i Qq2).1.2.2.2),(es.getD i Qq2).2) lo hi=_:=AiC (es.getD i Qq2) lo hi;unfold El;dsimp only;rw[if_pos U,Ac U,Qzk,hn,Qzq,O1 _ hi'];have hqe:qmE pat lo hi (es.getD i Qq2)=(XC pat (es.getD i Qq2)&&decide ((es.getD i Qq2).1.2.1=1/\lo<=(es.getD i Qq2).1.2.2.1/\(es.getD i Qq2).1.2.2.1<=hi)):=Z;rw[hqe]
  by_cases hq:(es.getD i Qq2).1.2.1=1/\lo<=(es.getD i Qq2).1.2.2.1/\(es.getD i Qq2).1.2.2.1<=hi
  ·rw[decide_eq_true hq,if_pos Z,hm,Qzq,QjK]
   by_cases hf:XC pat (es.getD i Qq2)=true
   ·rw[if_pos hf,if_pos hf,Ac (by unfold Go.E.Fz;omega),Ac (by unfold Bq;omega)]
    rfl
   ·rw[if_neg hf,if_neg hf,Ac (by unfold Bq;omega),QzZ]
    rfl
  ·rw[decide_eq_false hq,Qjv,if_neg Qxu,if_neg Qxu,Ac (by unfold Bq;omega),QzZ]
   rfl
 ·have hlen:=Gi (qmE pat lo hi) a;unfold El G0;dsimp only;rw[if_neg U,Qx3,Ac U,Ac (by rw[X9];omega)]
  rfl
theorem find_eq{n:Int}{es:List En}{pat:Qq4}(hp:(pf pat).1=0)(hl:es.length<=1000000)(a:∀e∈es,e.2.length<=64)(hpath:∀e∈es,e.1.1.length<=330):GX (n,es) pat=some (NK (collected (XC pat) es),(0,0)):=by
 obtain⟨b,h2⟩:=VZ pat hp;unfold GX;rw[Sl,Qzq,b,if_pos ⟨Z,Z⟩,Acw U hl a hpath]
 rfl
theorem AiD{n:Int}{es:List En}{pat:Qq4}{lo hi:Int}(hp:(pf pat).1=0)(hlo : ¬hi<lo)(hl:es.length<=1000000)(a:∀e∈es,e.2.length<=64)(hpath:∀e∈es,e.1.1.length<=330):FN (n,es) pat lo hi=some (NK (collected (qmE pat lo hi) es),(0,0)):=by
 obtain⟨b,h2⟩:=VZ pat hp;unfold FN;rw[Sl,Qzq,b,if_pos ⟨Z,Z⟩,if_neg hlo,Abm U hl a hpath]
 rfl
end Go.Proofs.YtopocbcekabkoaaGreatDoor
end
noncomputable section
namespace Go.Proofs.YtopocbcekabkoaaGreatDoor
open Go Go.L
theorem Ad2:∀{l:Qq5}{lo n:Int},l.Pairwise (fun a b=>a<b)->(∀z∈l,lo<=z/\z<n)->lo<=n->(l.length:Int)<=n - lo
 | [],lo,n,_,_,h=>by simp;omega
 | a::l,lo,n,hp,hz,h=>by
  obtain⟨c,d⟩:=Qxx.1 hp;have ha:=hz a (.head _);have:=Ad2 (lo:=a+1) (n:=n) d (fun z hzz=>⟨by have:=c z hzz;omega,(hz z (.tail _ hzz)).2⟩) U;simp only[Qzc];omega
theorem GI.few{n:Int}{es:List En}(h:GI n es):∀e∈es,e.2.length<=64:=fun e he=>by
 have:=Ad2 (lo:=0) (n:=n) (h.ev e he).inc (h.ev e he).items h.n0;have:=h.n64;omega
def tmE(pat dat:Qq4)(e:En):Bool:=XC pat e&&decide (e.1.2.1=2/\e.1.2.2.2=dat)
theorem AgO(e:En)(dat:Qq4):FO e dat=some (decide (e.1.2.1=2/\e.1.2.2.2=dat),dat):=by
 unfold FO
 by_cases a:e.1.2.1=2
 ·rw[if_pos a];simp[a]
 ·rw[if_neg a];simp[a]
theorem Abn{n:Int}{es:List En}{pat dat:Qq4}(hp:pat.length<900)(hl:es.length<=1000000)(a:∀e∈es,e.2.length<=64)(hpath:∀e∈es,e.1.1.length<=330):F8 (n,es) pat dat=some (NK (collected (tmE pat dat) es),dat):=by
 unfold F8 J2;refine BR (fun i=>(collected (tmE pat dat) (es.take i),dat,((i:Nat):Int))) es.length (fun i hi'=>?_) ?_ 0
 ·have hlen:=Gi (tmE pat dat) (es:=es.take i) fun e he=>a e (List.mem_of_mem_take he);rw[QzC]at hlen;have b:=a _ (C3 hi');have h2:=hpath _ (C3 hi');have hm:Ex pat (es.getD i Qq2).1.1=some (XC pat (es.getD i Qq2)):=Tp hp U;have hn:FO (((es.getD i Qq2).1.1,(es.getD i Qq2).1.2.1,(es.getD i Qq2).1.2.2.1,(es.getD i Qq2).1.2.2.2),(es.getD i Qq2).2) dat=_:=AgO (es.getD i Qq2) dat;have hqe:tmE pat dat (es.getD i Qq2)=(XC pat (es.getD i Qq2)&&decide ((es.getD i Qq2).1.2.1=2/\(es.getD i Qq2).1.2.2.2=dat)):=Z;unfold Em;dsimp only;rw[if_pos U,Ac U,Qzk,hn,Qzq,O1 _ hi',hqe]
  by_cases hq:(es.getD i Qq2).1.2.1=2/\(es.getD i Qq2).1.2.2.2=dat
  ·rw[decide_eq_true hq,if_pos Z,hm,Qzq,QjK]
   by_cases hf:XC pat (es.getD i Qq2)=true
   ·rw[if_pos hf,if_pos hf,Ac (by unfold Go.E.Fz;omega),Ac (by unfold Bq;omega)]
    rfl
   ·rw[if_neg hf,if_neg hf,Ac (by unfold Bq;omega),QzZ]
    rfl
  ·rw[decide_eq_false hq,Qjv,if_neg Qxu,if_neg Qxu,Ac (by unfold Bq;omega),QzZ]
   rfl
 ·have hlen:=Gi (tmE pat dat) a;unfold Em G1;dsimp only;rw[if_neg U,Qx3,Ac U,Ac (by rw[X9];omega)]
  rfl
theorem AgP{n:Int}{es:List En}{pat dat:Qq4}(hp:(pf pat).1=0)(hd:dat.length<=4000)(hl:es.length<=1000000)(a:∀e∈es,e.2.length<=64)(hpath:∀e∈es,e.1.1.length<=330):GY (n,es) pat dat=some (NK (collected (tmE pat dat) es),(0,0)):=by
 obtain⟨b,h2⟩:=VZ pat hp;unfold GY;rw[Sl,Qzq,b,if_pos ⟨Z,Z⟩,if_neg U,Abn U hl a hpath]
 rfl
def Ld(l:List (Qq4×Pv)):LIB:=(((l.length:Int),E (l.map Qzz)),((l.length:Int),Nr (Gg (Oy 0 (l.map QzX)) [])),l.map fun d=>idx d.1)
theorem Acx{l:List (Qq4×Pv)}(hl:l.length<=64)(hs:∀d∈l,Sd d)(ht:∀d∈l,d.1.length<=2048){r:LIB×Qq7}(hr:DN (l.map QzX) (l.map Qzz) (l.map fun d=>idx d.1)=some r):(r.2.1=0/\X1 (l.map QzX)/\r.1=Ld l\/r.2.1≠0/\r.1=Tu):=by
 have hlm:(l.map Qzz).length=l.length:=Qza ..;have hlv:(l.map QzX).length=l.length:=Qza ..;have ht':∀t∈l.map Qzz,t.length<=2048:=fun t ht'=>by obtain⟨d,hd,rfl⟩:=Qz0.1 ht';exact ht d hd
 have i:NJ 0 (l.map Qzz)=none:=Tt 0 _ ht';have hw:=Xr U ht' i;obtain⟨s,hsb,h3⟩:=X2 (a:=l.map QzX) (fun v hv=>by obtain⟨d,hd,rfl⟩:=Qz0.1 hv;exact(hs d hd).2)
 have fault:∀(p:List ((Qq5)×Qq5×Qq5)) (a b c e:Int) (f:List (Qq4×(List Qq7))) (g:List ((Qq4×Int×Int×Qq4)×Qq5)),a≠0->DM p a b c f e g=some r->r.2.1≠0/\r.1=Tu:=fun p a b c e f g ha h=>by
  unfold DM DL at h;rw[if_neg (fun x=>ha x.1)]at h
  cases h
  exact⟨by decide,Z⟩
 unfold DN at hr;rw[hw]at hr
 by_cases hbig:131072<gs (SO (((l.map Qzz).length:Int),E (l.map Qzz)))
 ·rw[if_pos hbig,Qzq,if_neg (fun x=>by cases x.1)]at hr;exact .inr (fault _ _ _ _ _ _ _ Qqc hr)
 ·rw[if_neg hbig,Qzq,if_pos ⟨Z,Z⟩,hsb,Qzq]at hr
  rcases h3 with ⟨k,rfl⟩ | ⟨k,j,f,hj,hf,m,hvj,rfl⟩ | ⟨k,hv,rfl⟩
  ·omega
  ·exact .inr (fault _ _ _ _ _ _ _ m hr)
  ·by_cases hb:16384<(AaU ((l.map QzX).length:Int) (Nr (Gg (Oy 0 (l.map QzX)) []))).length
   ·unfold Aba at hr;rw[if_pos hb]at hr;exact .inr (fault _ _ _ _ _ _ _ Qqc hr)
   ·unfold Aba at hr;rw[if_neg hb]at hr;unfold DM at hr;rw[if_pos ⟨Z,Z⟩]at hr
    cases hr
    refine .inl ⟨Z,hv,?_⟩;unfold Ld;rw[hlm,hlv]
theorem Vx{l:List (Qq4×Pv)}(hs:∀d∈l,Sd d):∃r,Hd l=some r/\(r.2.1=0/\l.length<=64/\(∀d∈l,d.1.length<=2048)/\X1 (l.map QzX)/\r.1=Ld l\/r.2.1≠0/\r.1=Tu):=by
 unfold Hd
 by_cases h:64<l.length
 ·rw[if_pos U];exact⟨(Tu,(2,-1)),Z,.inr ⟨(show(2:Int)≠0 by decide),Z⟩⟩
 ·rw[if_neg U];obtain⟨r,a,h2⟩:=X3 (l:=l) U hs l.length 0 U Qqd;refine⟨r,a,?_⟩
  rcases h2 with ⟨ht,h2⟩ | h2
  ·exact(Acx U hs ht h2).imp (fun x=>⟨x.1,by omega,ht,x.2⟩) id
  ·exact .inr h2
theorem Ae0(l:List Qq7)(hl:l.length<=1000000):IB l=some (l.map Qzz):=by
 unfold IB PG;refine BR (fun i=>((l.take i).map Qzz,((i:Nat):Int))) l.length (fun i hi=>?_) ?_ 0 (hi:=(by omega))
 ·have hg:l.getD ((i:Int)).toNat Qq2=l[i]:=by rw[Qzk,Qzj,Qzy hi];rfl
  unfold Jd;simp only;rw[if_pos U,Ac U,hg,Ac (by unfold Go.E.Fz;simp only[Qza,QzC,Qzc,QzB];omega),Ac (by unfold Bq;omega),<- Qk3 hi,Qxc]
  rfl
 ·unfold Jd Mn;simp only;rw[if_neg U,Qxb (Qzu _)]
def E6:Qq4×Pv:=([],.mk 1 0 [] [] [])
theorem AgQ:∀d,Sm 1048576 d E6.2
 | 0=>trivial
 | d+1=>⟨by decide,by decide,by decide,fun x hx=>(by cases hx),⟨by decide,by decide⟩,⟨by decide,by decide⟩,fun p hp=>(by cases hp)⟩
theorem AgR:Sd E6:=⟨by decide,AgQ 10⟩
theorem AgS:FI E6.2=some 0:=by
 have a:=vc1 [1,2,3,4] E6.2;have b:=vc1 [4] E6.2;have ec:Gk E6.2.f.2.2.2.1=some (E6.2.f.2.2.2.1.any fun x=>!Tx x):=AbS Qqc;unfold FI;rw[a,Qzq];simp only[Gy,Gx,Gw,BN];have c:Cq [4] (Pv.mk E6.2.f.1 E6.2.f.2.1 E6.2.f.2.2.1 E6.2.f.2.2.2.1 E6.2.f.2.2.2.2)=some (decide (E6.2.f.1∈([4]:Qq5)),E6.2):=b;rw[c,ec]
 have hl:HV E6.2.f.2.2.2.1 (0:Int)=some 0:=by
  unfold HV;refine AV (m:=some _) ?_;unfold D1 HU
  rfl
 have hl':HV ([]:Qq8) (0:Int)=some 0:=hl;have ec':Gk ([]:Qq8)=some false:=AbS Qqc;simp[E6,Pv.f,hl',ec']
theorem YF:CG E6.2=some (0,0):=by
 have hc:OJ E6.2 0 1=some (1,(0,0)):=by
  show DZ (Fc 999) E6.2 0 1=_
  unfold DZ;rw[if_neg U,AgS,Qzq,if_pos Z,Ac Qqc];unfold Ny;refine AV (m:=some _) ?_;unfold C7 Hq
  rfl
 have he:∃b,N5 E6.2=some b/\b.length<=20:=by
  have c:=Gm (a:=1) Qqc;have d:=Gm (a:=0) Qqc;have e:=Eg (zz 1);have f:=Eg (zz 0);refine⟨OC (zz 1)++OC (zz 0),?_,by rw[Qzd];omega⟩
  show F3 (Ft 999) E6.2=_
  unfold F3
  show Qq9 (Df 1) _=_
  rw[c,Qzq]
  show Qq9 (Df 0) _=_
  rw[d,Qzq,Ac (by unfold Go.E.Fz;omega)]
 obtain⟨b,hb,hl⟩:=he;unfold CG N6;rw[hc,Qzq,if_pos ⟨Z,Z⟩,hb,Qzq,if_neg U]
 rfl
theorem YG:Hd [E6]=some (Ld [E6],(0,0)):=by
 have hs:∀d∈[E6],Sd d:=fun d hd=>by rw[QzD.1 hd];exact AgR
 have ht:∀t∈[E6].map Qzz,t.length<=2048:=fun t ht=>by
  obtain rfl:t=[]:=by simpa[E6]using ht
  decide
 have hw:=Xr (items:=[E6].map Qzz) Qqc ht (Tt 0 _ ht)
 have hE:E ([E6].map Qzz)=[]:=by
  have hp:CJ 0 ([E6].map Qzz)=[]:=by simp[CJ,E6,Ty,VW,fin,FE]
  have hm:=Ajh ([E6].map Qzz);rw[hp]at hm
  cases h:E ([E6].map Qzz)with
  | nil=>rfl
  | cons a l=>
   rw[h]at hm;have:=(hm a.1).1 Qqd;simp at this
 rw[hE,if_neg Qqc]at hw;obtain⟨s,hsb,h3⟩:=X2 (a:=[E6].map QzX) (fun v hv=>by rw[show v=E6.2 by simpa using hv];exact AgQ 10)
 have e:s=((1,Nr (Gg (Oy 0 ([E6].map QzX)) [])),(0,0)):=by
  rcases h3 with ⟨k,_⟩ | ⟨_,j,f,hj,hf,g,_⟩ | ⟨_,_,rfl⟩
  ·exact absurd k Qqc
  ·obtain rfl:j=0:=by simp at hj;omega
   have:CG E6.2=some f:=hf;rw[YF]at this
   cases this
   exact absurd Z g
  ·have hk:Nr (Gg (Oy 0 ([E6].map QzX)) [])=[(([],1,0,[]),NK [0])]:=by
    simp[Nr,Gg,Oy,E6,Pq,PS,Dm,BF,LK,jn,Pv.f]
   have hlen:(NK [0]).length<=1:=Xu [0];unfold Aba;rw[hk,if_neg ?_]
   ·rfl
   ·have c:=fun n=>Eg n;have f1:=Ms (NK [0]);have o:=c (zz ((([E6].map QzX).length:Nat):Int));have p:=c (zz (([(([]:Qq4),(1:Int),(0:Int),([]:Qq4))].length:Nat):Int));have q:=c (zz (([]:Qq4).length:Int));have r:=c (zz 1);have u:=c (zz 0);have w:=c (zz ((NK [0]).length:Int));unfold AaU SP UQ Z7;simp only[Qzd,QxX,List.flatMap_nil,List.flatten_cons,List.flatten_nil,QzB,Qzc,QzZ]at *;omega
 have i:DN [E6.2] [E6.1] [idx E6.1]=some (Ld [E6],(0,0)):=by
  unfold DN;have hw':J6 [E6.1]=_:=hw;have hsb':Lu [E6.2]=some s:=hsb;rw[hw',Qzq,if_pos ⟨Z,Z⟩,hsb',Qzq,e];unfold DM;rw[if_pos ⟨Z,Z⟩];unfold Ld;rw[hE]
  rfl
 unfold Hd KG;rw[if_neg Qqc];have hc:∀b:Nat,b<=100->Go.E.Fz b (0+1):=fun b hb=>by unfold Go.E.Fz;constructor <;> omega
 have hb:Cn [E6] ([],[],[],0)=some (.inl ([E6.2],[E6.1],[idx E6.1],1)):=by
  unfold Cn;simp only;rw[if_pos Qqc,Ac Qqc]
  show Qq9 (Ky E6.1) _=_
  rw[Ui,Qzq,if_pos (show E6.1.length<=2048 by decide),if_pos ⟨Z,Z⟩]
  show Qq9 (CG E6.2) _=_
  rw[YF,Qzq,if_pos ⟨Z,Z⟩,Ac (by exact hc 72 U),Ac (by exact hc 24 U),Ac (by exact hc 88 U)];unfold KF;rw[Ac Qqc]
  rfl
 rw[Bh hb];refine AV (m:=some _) ?_;unfold Cn;simp only;rw[if_neg Qqc,i]
end Go.Proofs.YtopocbcekabkoaaGreatDoor
end
noncomputable section
namespace Go.L
open Go Go.Proofs.YtopocbcekabkoaaGreatDoor
def Wat(t w:Qq4)(k:Int):Prop:=∃n:Nat,k=n/\n<(Ty t).length/\((Ty t).getD n Qq2).1=w
theorem PV{a:Qq8}(ht:∀t∈a,t.length<=2048){w:Qq4}{i:Nat}{k:Int}:(w,((i:Int),k))∈CJ 0 a↔i<a.length/\Wat (a.getD i Qq2) w k:=by
 constructor
 ·intro h;have b:=Dx 0 a 2048 ht _ h;simp only at b;obtain⟨m,rfl⟩:=Int.eq_ofNat_of_zero_le b.2.2.1;obtain⟨_,h2,h3⟩:=(PT a 0 i m w).1 h;exact⟨by omega,m,Z,h3⟩
 ·rintro⟨c,m,rfl,h2⟩;exact(PT a 0 i m w).2 ⟨Qz5 _,by omega,h2⟩
theorem AiF{a:Qq8}(ht:∀t∈a,t.length<=2048){w:Qq4}{i:Nat}{k:Int}:((i:Int),k)∈BF [] w (E a)↔i<a.length/\Wat (a.getD i Qq2) w k:=by
 rw[Xq,G8];exact PV ht
theorem AgU{a:List Pv}{f:En->Bool}{g:Lf->Bool}(hfg:∀e:En,f e=g e.1){i:Nat}(hi:i<a.length):(i:Int)∈NK (collected f (Nr (Gg (Oy 0 a) [])))↔(Pq 10 (a.getD i Qq2) []).any g=true:=by
 rw[(Mt _).2,SR]
 constructor
 ·rintro⟨e,he,hf,hz⟩;rw[(Xy.1 he).2,(Mt _).2,Sa]at hz
  have hpr:(e.1,(i:Int))∈Oy 0 a:=by
   rcases hz with hz | hz
   ·simp[BF]at hz
   ·exact hz
  obtain⟨j,_,j2,j3⟩:=Wa.1 hpr;have j2':(i:Int)=0+(j:Int):=j2;obtain rfl:i=j:=by omega
  exact Qk5.2 ⟨e.1,j3,by rw[<- hfg];exact hf⟩
 ·intro h;obtain⟨x,hx,hg⟩:=Qk5.1 h;have hpr:(x,(i:Int))∈Oy 0 a:=Wa.2 ⟨i,hi,(Int.zero_add _).symm,hx⟩;refine⟨(x,NK (BF [] x (Gg (Oy 0 a) []))),Xy.2 ⟨⟨_,hpr⟩,Z⟩,by rw[hfg];exact hg,?_⟩;rw[(Mt _).2,Sa];exact .inr hpr
end Go.L
namespace Go.Proofs.YtopocbcekabkoaaGreatDoor
open Go Go.L
noncomputable def pc(d t:Qq4):Bool:=match D4 ((idx t).1,(idx t).2.1,(idx t).2.2) d with
 | some c=>decide (0<c.1)
 | none=>false
def Lfq(d:Qq4×Pv)(q:Qv):Prop:=
 if q.f.1=1 then ∃k,Wat d.1 (q.f.2.1.getD ((0:Int).toNat) Qq2) k
 else if q.f.1=2 then q.f.2.1≠[]/\¬16<q.f.2.1.length/\Sb 0 q.f.2.1=none/\∃k,Wat d.1 (q.f.2.1.getD 0 Qq2) k/\∀m:Nat,m<q.f.2.1.length->Wat d.1 (q.f.2.1.getD m Qq2) (k+(m:Int))
 else if q.f.1=3 then ZH (q.f.2.1.getD ((0:Int).toNat) Qq2) (q.f.2.1.getD ((1:Int).toNat) Qq2) q.f.2.2.2.2.1/\∃k k':Int,Wat d.1 (q.f.2.1.getD ((0:Int).toNat) Qq2) k/\Wat d.1 (q.f.2.1.getD ((1:Int).toNat) Qq2) k'/\k≠k'/\-q.f.2.2.2.2.1<=k - k'/\k - k'<=q.f.2.2.2.2.1
 else if q.f.1=4 then pc q.f.2.2.2.1 d.1=true
 else if q.f.1=5 then(Pq 10 d.2 []).any (fun x=>XC q.f.2.2.1 (x,[]))=true
 else if q.f.1=6 then(Pq 10 d.2 []).any (fun x=>qmE q.f.2.2.1 q.f.2.2.2.2.1 q.f.2.2.2.2.2.1 (x,[]))=true
 else(Pq 10 d.2 []).any (fun x=>tmE q.f.2.2.1 q.f.2.2.2.1 (x,[]))=true
theorem AiG{L:LIB}{q:Qv}{a:Qq8}(hp:L.2.2=a.map idx)(ha:a.length<=64)(ht:∀t∈a,t.length<=2048):
  It L q (([]:Qq5),0)=some (((Qzb a.length).filter fun j=>pc q.f.2.2.2.1 (a.getD j Qq2)).map fun j:Nat=>(j:Int)):=by
 unfold It;refine BR (fun i=>(((Qzb i).filter fun j=>pc q.f.2.2.2.1 (a.getD j Qq2)).map (fun j:Nat=>(j:Int)),(i:Int))) a.length (fun i hi=>?_) ?_ 0 (hi:=(by omega))
 ·have hg:L.2.2.getD ((i:Int)).toNat Qq2=idx a[i]:=by
   rw[hp,Qzk,Qzj,Qxq,Qzy hi]
   rfl
  have hga:a.getD i Qq2=a[i]:=by rw[Qzj,Qzy hi];rfl
  obtain⟨c,hc⟩:∃c,D4 ((idx a[i]).1,(idx a[i]).2.1,(idx a[i]).2.2) q.f.2.2.2.1=some c:=⟨_,Abl (ht _ (Qz3 hi))⟩;have hpc:pc q.f.2.2.2.1 (a.getD i Qq2)=decide (0<c.1):=by unfold pc;rw[hga,hc]
  have hlen:((Qzb i).filter fun j=>pc q.f.2.2.2.1 (a.getD j Qq2)).length<=64:=by
   have:=Qx0 (fun j=>pc q.f.2.2.2.1 (a.getD j Qq2)) (Qzb i);rw[QxQ]at this;omega
  unfold FB;simp only;rw[hg,hc,hp,Qza,if_pos U,Ac U,Qzq,QxC,Qkj,Qk8,Qk0,hpc,Qxc]
  by_cases b:(0:Int)<c.1
  ·rw[if_pos b,Ac (by unfold Go.E.Fz;simp only[Qza,Qzc,QzB];omega),Ac (by unfold Bq;omega),decide_eq_true b]
   rfl
  ·rw[if_neg b,Ac (by unfold Bq;omega),decide_eq_false b];simp
 ·unfold FB B3;simp only;rw[hp,Qza,if_neg U]
theorem AgV{l:List (Qq4×Pv)}(hl:l.length<=64)(hs:∀d∈l,Sd d)(ht:∀d∈l,d.1.length<=2048)(hv:X1 (l.map QzX)){q:Qv}(hq:Sq q){d:Nat}(hvq:Vq (d+1) q)(h8:q.f.1<8):
  ∃items,E8 (Ld l) q=some items/\items.length<=100000000/\(∀x∈items,0<=x/\x<(l.length:Int))/\∀i:Nat,i<l.length->((i:Int)∈items↔Lfq (l.getD i Qq2) q):=by
 obtain⟨hk,hF,hw,hp,hnt⟩:=QC hvq.1;have hlm:(l.map Qzz).length=l.length:=Qza ..;have hlv:(l.map QzX).length=l.length:=Qza ..;have ht':∀t∈l.map Qzz,t.length<=2048:=fun t ht'=>by obtain⟨d,hd,rfl⟩:=Qz0.1 ht';exact ht d hd
 have hs':∀v∈l.map QzX,Sm 1048576 10 v:=fun v hv=>by obtain⟨d,hd,rfl⟩:=Qz0.1 hv;exact(hs d hd).2
 have g1:∀i:Nat,i<l.length->(l.map Qzz).getD i Qq2=(l.getD i Qq2).1:=fun i hi=>by
  rw[Qzj,Qzj,Qxq,Qzy hi];rfl
 have g2:∀i:Nat,i<l.length->(l.map QzX).getD i Qq2=(l.getD i Qq2).2:=fun i hi=>by
  rw[Qzj,Qzj,Qxq,Qzy hi];rfl
 have hx:=XOk.AkV (items:=l.map Qzz) U ht'
 have hhit:∀w,∀h∈BF [] w (E (l.map Qzz)),0<=h.1/\h.1<(l.length:Int):=fun w h hh=>by
  rw[Xq]at hh;have h2:=Dx 0 _ 2048 ht' _ (G8.1 hh);simp only at h2;omega
 have hgi:∀{w:Qq4}{i:Nat}{k:Int},i<l.length->(((i:Int),k)∈BF [] w (E (l.map Qzz))↔Wat (l.getD i Qq2).1 w k):=fun {w i k} hi=>by
  rw[AiF ht',g1 i hi,hlm];exact⟨fun h=>h.2,fun h=>⟨hi,h⟩⟩
 have hofh:∀hs:List Qq7,hs.length<=1000000->(∀h∈hs,0<=h.1/\h.1<(l.length:Int))->∃items,IB hs=some items/\items.length<=100000000/\(∀x∈items,0<=x/\x<(l.length:Int))/\∀i:Nat,(i:Int)∈items↔∃k,((i:Int),k)∈hs:=fun hs s h2=>by
  refine⟨_,Ae0 hs s,by rw[Qza];omega,fun x hx=>?_,fun i=>?_⟩
  ·obtain⟨h,hh,rfl⟩:=Qz0.1 hx;exact h2 h hh
  ·rw[Qz0];exact⟨fun⟨h,hh,e⟩=>⟨h.2,by rw[<- e];exact hh⟩,fun⟨k,hk⟩=>⟨_,hk,Z⟩⟩
 obtain⟨hG,_⟩:=Abi U hv hs';rw[hlv]at hG;have hpath:∀e∈Nr (Gg (Oy 0 (l.map QzX)) []),e.1.1.length<=330:=fun e he=>(hG.ev e he).path.1;have z:(pf q.f.2.2.1).1=0:=by rw[hp]
 have hcol:∀(f:En->Bool) (g:Lf->Bool),(∀e:En,f e=g e.1)->(NK (collected f (Nr (Gg (Oy 0 (l.map QzX)) [])))).length<=100000000/\(∀x∈NK (collected f (Nr (Gg (Oy 0 (l.map QzX)) []))),0<=x/\x<(l.length:Int))/\∀i:Nat,i<l.length->((i:Int)∈NK (collected f (Nr (Gg (Oy 0 (l.map QzX)) [])))↔(Pq 10 (l.getD i Qq2).2 []).any g=true):=fun f g hfg=>by
  have s:=Xu (collected f (Nr (Gg (Oy 0 (l.map QzX)) [])));have h2:=Gi f hG.few;have h3:=hG.len;refine⟨by omega,fun x hx=>?_,fun i hi=>?_⟩
  ·have hx:=(Mt _).2 x |>.1 hx;obtain⟨e,he,_,hxe⟩:=SR.1 hx;exact(hG.ev e he).items x hxe
  ·rw[AgU hfg U,g2 i hi]
 unfold E8 Ld Lfq;obtain h | h | h | h | h | h | h:q.f.1=1\/q.f.1=2\/q.f.1=3\/q.f.1=4\/q.f.1=5\/q.f.1=6\/q.f.1=7:=by omega
 ·have s:=(K6 hF).1 h;rw[if_pos h,Ac U];simp only[if_pos h]
  have hm:q.f.2.1.getD ((0:Int).toNat) Qq2∈q.f.2.1:=by
   show q.f.2.1.getD 0 Qq2∈_
   rw[Qzj,Qzy U];exact Qz3 _
  have hf:=AgH (n:=(l.length:Int)) (by have:=hx.len;omega) hx.inc (q.f.2.1.getD ((0:Int).toNat) Qq2) (by have:=(hx.Acp (q.f.2.1.getD ((0:Int).toNat) Qq2)).1;omega);rw[if_pos (hw _ hm)]at hf
  show ∃items,Qq9 (HC ((l.length:Int),E (l.map Qzz)) _) _=_/\_
  rw[hf,Qzq];unfold Is B3;obtain⟨items,p,e2,e3,y⟩:=hofh _ (hx.Acp (q.f.2.1.getD ((0:Int).toNat) Qq2)).1 (hhit _);exact⟨items,by rw[p];rfl,e2,e3,fun i hi=>(y i).trans ⟨fun⟨k,hk⟩=>⟨k,(hgi hi).1 hk⟩,fun⟨k,hk⟩=>⟨k,(hgi hi).2 hk⟩⟩⟩
 ·have s : ¬q.f.1=1:=by omega
  rw[if_neg s,if_pos h];simp only[if_neg s,if_pos h];have hf:=Aex (n:=(l.length:Int)) hx q.f.2.1
  show ∃items,Qq9 (ER ((l.length:Int),E (l.map Qzz)) q.f.2.1) _=_/\_
  have key:∃hs e,ER ((l.length:Int),E (l.map Qzz)) q.f.2.1=some (hs,e)/\hs.length<=1000000/\(∀h∈hs,0<=h.1/\h.1<(l.length:Int))/\∀i:Nat,i<l.length->((∃k,((i:Int),k)∈hs)↔q.f.2.1≠[]/\¬16<q.f.2.1.length/\Sb 0 q.f.2.1=none/\∃k,Wat (l.getD i Qq2).1 (q.f.2.1.getD 0 Qq2) k/\∀m:Nat,m<q.f.2.1.length->Wat (l.getD i Qq2).1 (q.f.2.1.getD m Qq2) (k+(m:Int))):=by
   rw[hf]
   split
   ·rename_i hc;exact⟨[],_,Z,by simp,by simp,fun i _=>⟨fun⟨_,h⟩=>absurd h Qkd,fun h=>absurd hc h.1⟩⟩
   ·rename_i hc
    split
    ·rename_i aa;exact⟨[],_,Z,by simp,by simp,fun i _=>⟨fun⟨_,h⟩=>absurd h Qkd,fun h=>absurd aa h.2.1⟩⟩
    ·rename_i aa
     split
     ·rename_i u;exact⟨[],_,Z,by simp,by simp,fun i _=>⟨fun⟨_,h⟩=>absurd h Qkd,fun h=>by rw[h.2.2.1]at u;cases u⟩⟩
     ·rename_i u;refine⟨_,_,Z,?_,fun h hh=>hhit _ h (QxD.1 hh).1,fun i hi=>?_⟩
      ·have:=(hx.Acp (q.f.2.1.getD 0 Qq2)).1;have:=Qx0 (fun h=>decide (K7 (E (l.map Qzz)) q.f.2.1 h)) (BF [] (q.f.2.1.getD 0 Qq2) (E (l.map Qzz)));omega
      ·constructor
       ·rintro⟨k,hk⟩;obtain⟨k1,k2⟩:=QxD.1 hk;exact⟨hc,aa,u,k,(hgi hi).1 k1,fun m hm=>(hgi hi).1 (of_decide_eq_true k2 m hm)⟩
       ·rintro⟨_,_,_,k,k1,k2⟩;exact⟨k,QxD.2 ⟨(hgi hi).2 k1,decide_eq_true fun m hm=>(hgi hi).2 (k2 m hm)⟩⟩
  obtain⟨hs,e,k1,k2,k3,k4⟩:=key;rw[k1,Qzq];obtain⟨items,p,e2,e3,y⟩:=hofh _ k2 k3;unfold B3;exact⟨items,by simp only;rw[p];rfl,e2,e3,fun i hi=>(y i).trans (k4 i hi)⟩
 ·have s:=(K6 hF).2.2.1 h;have b : ¬q.f.1=1:=by omega
  have c : ¬q.f.1=2:=by omega
  rw[if_neg b,if_neg c,if_pos h,Ac U,Ac U];simp only[if_neg b,if_neg c,if_pos h];have hf:=Ai3 (n:=(l.length:Int)) (items:=l.map Qzz) U ht' (q.f.2.1.getD ((0:Int).toNat) Qq2) (q.f.2.1.getD ((1:Int).toNat) Qq2) q.f.2.2.2.2.1
  show ∃items,Qq9 (Gl ((l.length:Int),E (l.map Qzz)) _ _ _) _=_/\_
  unfold B3
  by_cases hn:ZH (q.f.2.1.getD ((0:Int).toNat) Qq2) (q.f.2.1.getD ((1:Int).toNat) Qq2) q.f.2.2.2.2.1
  ·obtain⟨L,p,_,e3,y⟩:=hf.1 hn;refine⟨L,by rw[p];rfl,by omega,fun x hx=>?_,fun i hi=>?_⟩
   ·obtain⟨k,_,ah,_⟩:=(y x).1 hx;have h2:=Dx 0 _ 2048 ht' _ ah;simp only at h2;omega
   ·have hi':i<(l.map Qzz).length:=by omega
    rw[y];unfold O0;simp only[PV ht',g1 i hi,hi',true_and];exact⟨fun h=>⟨hn,h⟩,fun h=>h.2⟩
  ·exact⟨[],by rw[hf.2 hn];rfl,by simp,by simp,fun i _=>⟨fun h=>absurd h Qkd,fun h=>absurd h.1 hn⟩⟩
 ·have b : ¬q.f.1=1:=by omega
  have c : ¬q.f.1=2:=by omega
  have o : ¬q.f.1=3:=by omega
  rw[if_neg b,if_neg c,if_neg o,if_pos h];simp only[if_neg b,if_neg c,if_neg o,if_pos h];have p:=AiG (L:=Ld l) (q:=q) (a:=l.map Qzz) (by unfold Ld;simp) U ht';rw[hlm]at p;refine⟨_,p,?_,fun x hx=>?_,fun i hi=>?_⟩
  ·have:=Qx0 (fun j=>pc q.f.2.2.2.1 ((l.map Qzz).getD j Qq2)) (Qzb l.length);rw[QxQ]at this;rw[Qza];omega
  ·obtain⟨j,hj,rfl⟩:=Qz0.1 hx;have:=QzE.1 (QxD.1 hj).1;omega
  ·rw[Qz0]
   constructor
   ·rintro⟨j,hj,e⟩;obtain rfl:j=i:=by omega
    rw[<- g1 j hi];exact(QxD.1 hj).2
   ·intro hc;exact⟨i,QxD.2 ⟨QzE.2 hi,by rw[g1 i hi];exact hc⟩,Z⟩
 ·have b : ¬q.f.1=1:=by omega
  have c : ¬q.f.1=2:=by omega
  have o : ¬q.f.1=3:=by omega
  have r : ¬q.f.1=4:=by omega
  rw[if_neg b,if_neg c,if_neg o,if_neg r,if_pos h];simp only[if_neg b,if_neg c,if_neg o,if_neg r,if_pos h];have hf:=find_eq (n:=(l.length:Int)) (pat:=q.f.2.2.1) z hG.len hG.few hpath
  show ∃items,Qq9 (GX ((l.length:Int),Nr (Gg (Oy 0 (l.map QzX)) [])) q.f.2.2.1) _=_/\_
  rw[hf];exact⟨_,Z,hcol _ _ fun _=>Z⟩
 ·have b : ¬q.f.1=1:=by omega
  have c : ¬q.f.1=2:=by omega
  have o : ¬q.f.1=3:=by omega
  have r : ¬q.f.1=4:=by omega
  have n5 : ¬q.f.1=5:=by omega
  rw[if_neg b,if_neg c,if_neg o,if_neg r,if_neg n5,if_pos h];simp only[if_neg b,if_neg c,if_neg o,if_neg r,if_neg n5,if_pos h]
  have hlo : ¬q.f.2.2.2.2.2.1<q.f.2.2.2.2.1:=fun hc=>by
   unfold nt at hnt;rw[if_pos (.inr ⟨h,hc⟩)]at hnt
   cases hnt
  have hf:=AiD (n:=(l.length:Int)) (pat:=q.f.2.2.1) z hlo hG.len hG.few hpath
  show ∃items,Qq9 (FN ((l.length:Int),Nr (Gg (Oy 0 (l.map QzX)) [])) q.f.2.2.1 _ _) _=_/\_
  rw[hf];exact⟨_,Z,hcol _ _ fun _=>Z⟩
 ·have b : ¬q.f.1=1:=by omega
  have c : ¬q.f.1=2:=by omega
  have o : ¬q.f.1=3:=by omega
  have r : ¬q.f.1=4:=by omega
  have n5 : ¬q.f.1=5:=by omega
  have n6 : ¬q.f.1=6:=by omega
  rw[if_neg b,if_neg c,if_neg o,if_neg r,if_neg n5,if_neg n6,if_pos h];simp only[if_neg b,if_neg c,if_neg o,if_neg r,if_neg n5,if_neg n6];have hd:=Wb hnt;have hf:=AgP (n:=(l.length:Int)) (pat:=q.f.2.2.1) (dat:=q.f.2.2.2.1) z U hG.len hG.few hpath
  show ∃items,Qq9 (GY ((l.length:Int),Nr (Gg (Oy 0 (l.map QzX)) [])) q.f.2.2.1 _) _=_/\_
  rw[hf];exact⟨_,Z,hcol _ _ fun _=>Z⟩
noncomputable instance (d:Qq4×Pv) (q:Qv):Decidable (Lfq d q):=Classical.propDecidable _
noncomputable def lfb(l:List (Qq4×Pv))(q:Qv)(i:Nat):Bool:=decide (Lfq (l.getD i Qq2) q)
theorem AgW{l:List (Qq4×Pv)}(hl:l.length<=64)(hs:∀d∈l,Sd d)(ht:∀d∈l,d.1.length<=2048)(hv:X1 (l.map QzX)):Fnd (Ld l) (lfb l):=fun d q hq hvq a=>by
 obtain⟨items,b,h2,h3,c⟩:=AgV hl hs ht hv hq hvq a;have hlen:(Ld l).2.2.length=l.length:=Qza ..;refine⟨items,b,h2,by rw[hlen];exact h3,fun i hi=>?_⟩;unfold lfb;rw[Qz7,decide_eq_true_iff,decide_eq_true_iff];exact(c i U).symm
end Go.Proofs.YtopocbcekabkoaaGreatDoor
end
noncomputable section
namespace Go.Proofs.YtopocbcekabkoaaGreatDoor
open Go Go.L
theorem Ad3{v:Pv}{p:Qq8}{self:Pv->Qq4->Option (List Lf)}{d:Nat}(hv:Tn v)(hpo:POk p)(hp:p.length<=20)
  (hs:∀i,i<v.f.2.2.2.2.length->self (v.f.2.2.2.2.getD i Qq2) (jn (p++[Vu v i]))=some (Pq d (v.f.2.2.2.2.getD i Qq2) (p++[Vu v i]))) :
  ∀
   (k i:Nat) (L:List Lf),i+k=v.f.2.2.2.2.length->(L++(Qkq i k).flatMap fun i=>Pq d (v.f.2.2.2.2.getD i Qq2) (p++[Vu v i])).length<=1000000->
   Go.L.run (Ee v (jn p) self) (L,(i:Int))=some (L++(Qkq i k).flatMap fun i=>Pq d (v.f.2.2.2.2.getD i Qq2) (p++[Vu v i]))
 | 0,i,L,hi,_=>by
  refine AV (m:=some (L++(Qkq i 0).flatMap fun i=>Pq d (v.f.2.2.2.2.getD i Qq2) (p++[Vu v i]))) ?_;unfold Ee Kg;dsimp only;rw[if_neg U];simp
 | k+1,i,L,hi,hL=>by
  have hil:i<v.f.2.2.2.2.length:=by omega
  have hmany:=hv.many;have hpl:=hpo.Ts;have hcl:=Adt (Z9 hv hil);rw[List.range'_succ,QxX,<- QxB]at hL ⊢
  have a:FR v L (i:Int) self (jn (p++[Vu v i]))=some (.inl (L++Pq d (v.f.2.2.2.2.getD i Qq2) (p++[Vu v i]),((i+1:Nat):Int))):=by
   unfold FR;rw[Ac U,Qzk,hs i hil,Qzq,Ac (by unfold Go.E.Fz;simp only[Qzd]at hL;omega),Ac (by unfold Bq;omega)]
   rfl
  have e:∀x,x=Vu v i->FT v (jn p) L (i:Int) self x=some (.inl (L++Pq d (v.f.2.2.2.2.getD i Qq2) (p++[Vu v i]),((i+1:Nat):Int))):=by
   rintro x rfl;rw[Adr]at a;unfold FT
   by_cases c:p=[]
   ·rw[if_pos (hpo.nil.2 c)];rw[if_pos c]at a;exact a
   ·rw[if_neg (fun h=>c (hpo.nil.1 h)),Ac (by simp;omega),Ac (by simp;omega)];rw[if_neg c]at a;rw[show(jn p++[47])++Vu v i=jn p++47::Vu v i by simp];exact a
  have hb:Ee v (jn p) self (L,(i:Int))=some (.inl (L++Pq d (v.f.2.2.2.2.getD i Qq2) (p++[Vu v i]),((i+1:Nat):Int))):=by
   unfold Ee;dsimp only;rw[if_pos U]
   by_cases b:v.f.1=4
   ·have:=hv.same b;rw[if_pos b,Ac U,Qzk];exact e _ (by unfold Vu;rw[if_pos b])
   ·rw[if_neg b];exact e _ (by unfold Vu;rw[if_neg b])
  rw[Bh hb];exact Ad3 hv hpo hp hs k (i+1) _ U hL
theorem Ala:∀(d n:Nat) (v:Pv) (p:Qq8),d<=n->Vd d v->POk p->p.length+d<=20->nodes d v<=1000000->Hn n v (jn p)=some (Pq d v p)
 | 0,_,_,_,_,h,_,_,_=>h.elim
 | d+1,0,_,_,h,_,_,_,_=>absurd h U
 | d+1,n+1,v,p,hn,hv,hp,hl,hnd=>by
  have hlen:=QB (d+1) v p;obtain⟨hok,hvp⟩:=hv
  show JR (Hn n) v (jn p)=_
  unfold JR N1
  have:=Ad3 (d:=d) (self:=Hn n) hok hp U (fun i hi=>Ala d n _ _ U (hvp _ (C3 hi)) (hp.snoc (Z9 hok hi)) (by simp;omega) (by
   unfold nodes at hnd;have:=Y8 (d:=d) (C3 hi);omega)) v.f.2.2.2.2.length 0 [(jn p,v.f.1,v.f.2.1,v.f.2.2.1)] U (by
   unfold Pq at hlen;simp only[List.singleton_append];rw[hlen];exact hnd)
  exact this
theorem Tw{v:Pv}(hv:Vd 10 v)(hn:nodes 10 v<=1000000):Lc v []=some (Pq 10 v []):=by
 unfold Lc;exact Ala 10 1000 v [] U hv (fun x hx=>by cases hx) Qqd hn
end Go.Proofs.YtopocbcekabkoaaGreatDoor
end
noncomputable section
namespace Go.L
open Go Go.Proofs.YtopocbcekabkoaaGreatDoor
theorem Abp{t:Qq4}{l:Qq8}(hl:l≠[]):(0:Int)<((NL 0 [t] l).length:Int)↔∃k:Int,∀m:Nat,m<l.length->Wat t (l.getD m Qq2) (k+(m:Int)):=by
 have e:NL 0 [t] l=Pr 0 (Ty t) l:=by simp[NL]
 have hne:0<l.length:=Qkv.2 hl;rw[e];unfold Pr;rw[Qza]
 constructor
 ·intro h;obtain⟨k,hk⟩:=List.exists_mem_of_length_pos (by omega:0<((Qzb ((Ty t).length+1 - l.length)).filter (PU (Ty t) l)).length);obtain⟨a,h2⟩:=QxD.1 hk;rw[QzE]at a;exact⟨k,fun m hm=>⟨k+m,by omega,by omega,of_decide_eq_true h2 m hm⟩⟩
 ·rintro⟨k,h⟩;obtain⟨n,hn,a,h2⟩:=h 0 hne;obtain⟨n',hn',h1',_⟩:=h (l.length - 1) U
  have hm:n∈(Qzb ((Ty t).length+1 - l.length)).filter (PU (Ty t) l):=QxD.2 ⟨QzE.2 U,decide_eq_true fun m hm=>by
   obtain⟨b,d,_,c⟩:=h m hm;have:b=n+m:=by omega
   rw[<- this];exact c⟩
  have:=List.length_pos_of_mem hm;omega
theorem Vy:∀{l:Qq8} (i:Nat),(∀w∈l,wf w=(0,0))->Sb i l=none
 | [],_,_=>rfl
 | a::l,i,h=>by
  unfold Sb;rw[if_pos (h a (Qz2 ..))];exact Vy (i+1) fun w hw=>h w (Qz1 _ hw)
theorem ZI{b:Int->Option (Int⊕Bool)}{l:List Lf}{g:Lf->Bool}(hstep:∀i,i<l.length->b (i:Int)=if g (l.getD i Qq2)=true then some (.inr true)else some (.inl ((i+1:Nat):Int)))(hend:b (l.length:Int)=some (.inr false)):Go.L.run b 0=some (l.any g):=by
 have key:∀(d i:Nat),i+d=l.length->Go.L.run b (i:Int)=some ((l.drop i).any g):=by
  intro d
  induction d with
  | zero=>
   intro i hi;have:i=l.length:=by omega
   subst this;rw[Qjx];exact AV (m:=some false) hend
  | succ d ih=>
   intro i hi;have hil:i<l.length:=by omega
   have hb:=hstep i hil;rw[drop_cons hil,List.any_cons]
   by_cases h:g (l.getD i Qq2)=true
   ·rw[if_pos h]at hb;rw[AV (m:=some true) hb,h]
    rfl
   ·rw[if_neg h]at hb;have h':g (l.getD i Qq2)=false:=by simpa using h
    rw[Bh hb,ih (i+1) U,h',Bool.false_or]
 have:=key l.length 0 U
 rwa [Qx8]at this
end Go.L
namespace Go.Proofs.YtopocbcekabkoaaGreatDoor
open Go Go.L
theorem XA{v:Pv}(hv:Vd 10 v){x:Lf}(hx:x∈Pq 10 v []):x.1.length<=330:=by
 obtain⟨q,u,rfl,h2,h3,a,b⟩:=ZB 10 v [] hv (fun y hy=>by cases hy) hx;have:=h2.Ts;simp only[QzB]at h3
 show(jn q).length<=330
 omega
theorem Acy{v:Pv}{pat:Qq4}(hv:Vd 10 v)(hn:nodes 10 v<=600)(hp:pat.length<900):NC v pat=some ((Pq 10 v []).any fun x=>XC pat (x,[])):=by
 unfold NC QM;rw[Tw hv U,Qzq];have hlen:(Pq 10 v []).length<=600:=by rw[QB];exact hn
 have hpth:=fun x (hx:x∈Pq 10 v [])=>XA hv hx;generalize Pq 10 v []=l at *;refine ZI (fun i hi=>?_) ?_
 ·have hm:FY pat (l.getD i Qq2).1=some (XC pat (l.getD i Qq2,[])):=UP U (by have:=hpth _ (C3 hi);omega);unfold JS;rw[if_pos U,Ac U,Qzk,hm,Qzq,Ac (by unfold Bq;omega)]
  rfl
 ·unfold JS Nl;rw[if_neg U]
  rfl
theorem ZJ{v:Pv}{pat:Qq4}{lo hi:Int}(hv:Vd 10 v)(hn:nodes 10 v<=600)(hp:pat.length<900):L3 v pat lo hi=some ((Pq 10 v []).any fun x=>qmE pat lo hi (x,[])):=by
 unfold L3 OP;rw[Tw hv U,Qzq];have hlen:(Pq 10 v []).length<=600:=by rw[QB];exact hn
 have hpth:=fun x (hx:x∈Pq 10 v [])=>XA hv hx;generalize Pq 10 v []=l at *;refine ZI (fun i hi'=>?_) ?_
 ·have hm:FY pat (l.getD i Qq2).1=some (XC pat (l.getD i Qq2,[])):=UP U (by have:=hpth _ (C3 hi');omega);have hq:qmE pat lo hi (l.getD i Qq2,[])=(XC pat (l.getD i Qq2,[])&&decide ((l.getD i Qq2).2.1=1/\lo<=(l.getD i Qq2).2.2.1/\(l.getD i Qq2).2.2.1<=hi)):=Z;unfold Iu Ew;rw[if_pos U,Ac U,Qzk,Ac U,hm,Qzq,Ac U,Qzq,Ac (by unfold Bq;omega),hq]
  by_cases c1:(l.getD i Qq2).2.1=1
  ·by_cases c2:lo<=(l.getD i Qq2).2.2.1/\(l.getD i Qq2).2.2.1<=hi
   ·rw[if_pos c1,decide_eq_true c2,if_pos Z,decide_eq_true (⟨c1,c2⟩:_/\_),QjK]
    rfl
   ·rw[if_pos c1,decide_eq_false c2,if_neg Qxu,decide_eq_false (fun h=>c2 h.2),Qjv,if_neg Qxu]
    rfl
  ·rw[if_neg c1,decide_eq_false (fun h=>c1 h.1),Qjv,if_neg Qxu]
   rfl
 ·unfold Iu L2;rw[if_neg U]
  rfl
theorem Abq{v:Pv}{pat dat:Qq4}(hv:Vd 10 v)(hn:nodes 10 v<=600)(hp:pat.length<900):M4 v pat dat=some ((Pq 10 v []).any fun x=>tmE pat dat (x,[])):=by
 unfold M4 PK;rw[Tw hv U,Qzq];have hlen:(Pq 10 v []).length<=600:=by rw[QB];exact hn
 have hpth:=fun x (hx:x∈Pq 10 v [])=>XA hv hx;generalize Pq 10 v []=l at *;refine ZI (fun i hi'=>?_) ?_
 ·have hm:FY pat (l.getD i Qq2).1=some (XC pat (l.getD i Qq2,[])):=UP U (by have:=hpth _ (C3 hi');omega);have hq:tmE pat dat (l.getD i Qq2,[])=(XC pat (l.getD i Qq2,[])&&decide ((l.getD i Qq2).2.1=2/\(l.getD i Qq2).2.2.2=dat)):=Z;unfold Je;rw[if_pos U,Ac U,Qzk,Ac U,Ac U,hm,Qzq,Ac (by unfold Bq;omega),hq]
  by_cases c1:(l.getD i Qq2).2.1=2
  ·by_cases c2:(l.getD i Qq2).2.2.2=dat
   ·rw[if_pos c1,if_pos c2,decide_eq_true (⟨c1,c2⟩:_/\_),QjK]
    rfl
   ·rw[if_pos c1,if_neg c2,decide_eq_false (fun h=>c2 h.2),Qjv,if_neg Qxu]
    rfl
  ·rw[if_neg c1,decide_eq_false (fun h=>c1 h.1),Qjv,if_neg Qxu]
   rfl
 ·unfold Je Mo;rw[if_neg U]
  rfl
theorem Akj{q:Qv}(h:Frm q=true)(e:q.f.1=2):q.f.2.1.length<=16:=by
 unfold Frm at h;simp only[QzQ]at h;obtain⟨⟨⟨⟨⟨a,_⟩,_⟩,_⟩,_⟩,_⟩:=h;rw[e]at a;simp at a;omega
theorem AgX{b:Bool}{p:Prop}[Decidable p](h:b=true↔p):b=decide p:=by cases b <;> simp_all
theorem AgY{d:Qq4×Pv}(ht:d.1.length<=2048)(hv:Vd 10 d.2)(hn:nodes 10 d.2<=600){q:Qv}(hq:nf q=0)(z:q.f.1<8)(self:(Qq4×Pv)->Qv->Option Bool):E5 self d q=some (decide (Lfq d q)):=by
 obtain⟨hk,hF,hw,hp,hnt⟩:=QC hq;have hpl:q.f.2.2.1.length<=64:=(VZ _ (by rw[hp])).2;have g:∀t∈[d.1],t.length<=2048:=fun t h=>by rw[QzD.1 h];exact ht
 have hb:E5 self d q=Ef d q self (decide (q.f.1=1\/q.f.1=2)):=by
  unfold E5
  by_cases h:q.f.1=1
  ·rw[if_pos h];simp[h]
  ·rw[if_neg h];simp[h]
 rw[hb];unfold Ef;obtain h | h | h | h | h | h | h:q.f.1=1\/q.f.1=2\/q.f.1=3\/q.f.1=4\/q.f.1=5\/q.f.1=6\/q.f.1=7:=by omega
 ·have hl:=(K6 hF).1 h;rw[decide_eq_true (.inl h),if_pos Z,X6 Qqd U g,Qzq];refine congrArg some (decide_eq_decide.2 ?_);unfold Lfq;rw[Abp (fun e=>by rw[e]at hl;cases hl),if_pos h]
  constructor
  ·rintro⟨k,hk⟩;exact⟨_,hk 0 U⟩
  ·rintro⟨k,hk⟩;refine⟨k,fun m hm=>?_⟩;obtain rfl:m=0:=by omega
   simpa using hk
 ·have hl:=(K6 hF).2.1 h;have a : ¬q.f.1=1:=by omega
  have y:=Akj hF h;have hne:q.f.2.1≠[]:=fun e=>by rw[e]at hl;simp at hl
  rw[decide_eq_true (.inr h),if_pos Z,X6 Qqd U g,Qzq];refine congrArg some (decide_eq_decide.2 ?_);unfold Lfq;rw[Abp hne,if_neg a,if_pos h]
  constructor
  ·rintro⟨k,hk⟩;exact⟨hne,by omega,Vy 0 hw,k,by simpa using hk 0 U,hk⟩
  ·rintro⟨_,_,_,k,_,hk⟩;exact⟨k,hk⟩
 ·have hl:=(K6 hF).2.2.1 h;have a : ¬q.f.1=1:=by omega
  have b : ¬q.f.1=2:=by omega
  have hd:1<=q.f.2.2.2.2.1/\q.f.2.2.2.2.1<=2048:=by
   unfold nt at hnt
   split at hnt
   ·cases hnt
   ·omega
  obtain⟨L,w,_,r⟩:=AgL (items:=[d.1]) Qqd g (q.f.2.1.getD ((0:Int).toNat) Qq2) (q.f.2.1.getD ((1:Int).toNat) Qq2) hd
  have hm:∀j:Nat,j<2->wf (q.f.2.1.getD j Qq2)=(0,0):=fun j hj=>hw _ (by
   rw[Qzj,Qzy U];exact Qz3 _)
  rw[decide_eq_false (fun e=>e.elim a b),if_neg Qxu,if_pos h,Ac U,Ac U,w,Qzq];refine congrArg some (decide_eq_decide.2 ?_);unfold Lfq;rw[if_neg a,if_neg b,if_pos h]
  constructor
  ·intro h0;obtain⟨x,hx⟩:=List.exists_mem_of_length_pos (by omega:0<L.length);obtain⟨k,k',n,o,p⟩:=(r x).1 hx;have s:=Dx 0 _ 2048 g _ n;simp only[Qxv]at s;obtain rfl:x=((0:Nat):Int):=by omega
   exact⟨⟨hm 0 U,hm 1 U,hd⟩,k,k',((PV g).1 n).2,((PV g).1 o).2,p⟩
  ·rintro⟨_,k,k',n,o,p⟩;have:=(r ((0:Nat):Int)).2 ⟨k,k',(PV g).2 ⟨by simp,n⟩,(PV g).2 ⟨by simp,o⟩,p⟩;have:=List.length_pos_of_mem this;omega
 ·have a : ¬q.f.1=1:=by omega
  have b : ¬q.f.1=2:=by omega
  have c : ¬q.f.1=3:=by omega
  have hdl:=Wb hnt
  have u : ¬q.f.2.2.2.1.length=0:=fun e=>by
   unfold nt at hnt
   split at hnt
   ·cases hnt
   ·rw[if_pos ⟨h,e⟩]at hnt;cases hnt
  rw[decide_eq_false (fun e=>e.elim a b),if_neg Qxu,if_neg c,if_pos h,Acv ht U,Qzq];refine congrArg some (decide_eq_decide.2 ?_);unfold Lfq;rw[if_neg a,if_neg b,if_neg c,if_pos h];have hc:D4 ((idx d.1).1,(idx d.1).2.1,(idx d.1).2.2) q.f.2.2.2.1=_:=Abl ht;have hpf:pfF q.f.2.2.2.1=(0,0):=by unfold pfF;rw[if_neg u,if_pos hdl]
  rw[if_pos hpf]at hc;unfold pc;rw[hc];exact decide_eq_true_iff.symm
 ·have a : ¬q.f.1=1:=by omega
  have b : ¬q.f.1=2:=by omega
  have c : ¬q.f.1=3:=by omega
  have i : ¬q.f.1=4:=by omega
  rw[decide_eq_false (fun e=>e.elim a b),if_neg Qxu,if_neg c,if_neg i,if_pos h,Acy hv hn U,Qzq];refine congrArg some (AgX ?_);unfold Lfq;rw[if_neg a,if_neg b,if_neg c,if_neg i,if_pos h]
 ·have a : ¬q.f.1=1:=by omega
  have b : ¬q.f.1=2:=by omega
  have c : ¬q.f.1=3:=by omega
  have i : ¬q.f.1=4:=by omega
  have l : ¬q.f.1=5:=by omega
  rw[decide_eq_false (fun e=>e.elim a b),if_neg Qxu,if_neg c,if_neg i,if_neg l,if_pos h,ZJ hv hn U,Qzq];refine congrArg some (AgX ?_);unfold Lfq;rw[if_neg a,if_neg b,if_neg c,if_neg i,if_neg l,if_pos h]
 ·have a : ¬q.f.1=1:=by omega
  have b : ¬q.f.1=2:=by omega
  have c : ¬q.f.1=3:=by omega
  have i : ¬q.f.1=4:=by omega
  have l : ¬q.f.1=5:=by omega
  have v : ¬q.f.1=6:=by omega
  rw[decide_eq_false (fun e=>e.elim a b),if_neg Qxu,if_neg c,if_neg i,if_neg l,if_neg v,if_pos h,Abq hv hn U,Qzq];refine congrArg some (AgX ?_);unfold Lfq;rw[if_neg a,if_neg b,if_neg c,if_neg i,if_neg l,if_neg v]
theorem AgZ{d:Qq4×Pv}{q:Qv}{self:(Qq4×Pv)->Qv->Option Bool}{f:Qv->Bool}(hl:q.f.2.2.2.2.2.2.length<=1048576)(hs:∀s∈q.f.2.2.2.2.2.2,self d s=some (f s)):
  JB d q self (0,0)=Hg q (((q.f.2.2.2.2.2.2.filter f).length:Nat):Int):=by
 unfold JB;refine BR (fun i=>((((q.f.2.2.2.2.2.2.take i).filter f).length:Int),(i:Int))) q.f.2.2.2.2.2.2.length (fun i hi=>?_) ?_ 0
 ·have hg:q.f.2.2.2.2.2.2.getD i Qq2=q.f.2.2.2.2.2.2[i]:=by rw[Qzj,Qzy hi];rfl
  have hf:=Qx0 f (q.f.2.2.2.2.2.2.take i);rw[QzC]at hf;unfold GH;simp only;rw[if_pos U,Ac U,Qzk,hg,hs _ (Qz3 hi),Qzq,<- Qk3 hi,Qkj,Qk8,Qk0,Ac (by unfold Bq;omega),Ac (by unfold Bq;omega)]
  by_cases h:f q.f.2.2.2.2.2.2[i]=true
  ·rw[if_pos h,if_pos h,Qzd,Qxv];exact congrArg some (congrArg Sum.inl (Qxw Qqd (show(i:Int)+1=((i+1:Nat):Int) by omega)))
  ·rw[if_neg h,if_neg h,QzZ,Ac (by unfold Bq;omega)];exact congrArg some (congrArg Sum.inl (Qxw Z (show(i:Int)+1=((i+1:Nat):Int) by omega)))
 ·unfold GH;simp only;rw[if_neg U,Qx3]
theorem YH{l:List (Qq4×Pv)}{i:Nat}(ht:(l.getD i Qq2).1.length<=2048)(hv:Vd 10 (l.getD i Qq2).2)(hn:nodes 10 (l.getD i Qq2).2<=600):∀(d:Nat) (q:Qv),Sq q->Vq d q->∀m,d<=m->G7 m (l.getD i Qq2) q=some (G9 (lfb l) d q i)
 | 0,_,_,h,_,_=>h.elim
 | d+1,q,hq,hvq,m,hm=>by
  obtain⟨m,rfl⟩:∃k,m=k+1:=⟨m - 1,by omega⟩
  show E5 (G7 m) (l.getD i Qq2) q=_
  rw[Ajl]
  by_cases b:q.f.1<8
  ·rw[if_pos b,AgY ht hv hn hvq.1 b]
   rfl
  ·rw[if_neg b];obtain⟨hk,hF,_⟩:=QC hvq.1;have ih:∀s∈q.f.2.2.2.2.2.2,G7 m (l.getD i Qq2) s=some (G9 (lfb l) d s i):=fun s hs=>YH ht hv hn d s (hq.sub hs) (hvq.2 s hs) m U;have hlen:q.f.2.2.2.2.2.2.length<=1048576:=hq.open.2.2.2.1;have c : ¬q.f.1=1:=by omega
   have e : ¬q.f.1=2:=by omega
   have g : ¬q.f.1=3:=by omega
   have j : ¬q.f.1=4:=by omega
   have n : ¬q.f.1=5:=by omega
   have o : ¬q.f.1=6:=by omega
   have p : ¬q.f.1=7:=by omega
   unfold E5 Ef;rw[if_neg c,decide_eq_false e,if_neg Qxu,if_neg g,if_neg j,if_neg n,if_neg o,if_neg p]
   by_cases a:q.f.1=10
   ·have u:=(K6 hF).2.2.2.1 a;rw[if_pos a,if_pos a,Ac U,ih _ (UU U),Qzq]
    rfl
   ·have h2:=(K6 hF).2.2.2.2 U;rw[if_neg a,if_neg a,AgZ hlen ih];unfold Hg;refine congrArg some ?_
    by_cases h8':q.f.1=8
    ·have r : ¬q.f.1=9:=by omega
     rw[if_pos h8',decide_eq_false r,Bool.false_and,Bool.or_false,Qz7,decide_eq_true_iff,List.all_eq_true,<- List.length_filter_eq_length_iff];omega
    ·have t:q.f.1=9:=by omega
     rw[if_neg h8',decide_eq_true t,Qkw,Qz7,Qxj,decide_eq_true_iff,decide_eq_true_iff,Qk5];have hp:=@List.length_filter_pos_iff _ q.f.2.2.2.2.2.2 (fun s=>G9 (lfb l) d s i)
     constructor
     ·intro h;exact hp.1 U
     ·intro h;have:=hp.2 h;exact .inr U
theorem Acz{l:List (Qq4×Pv)}{i:Nat}(ht:(l.getD i Qq2).1.length<=2048)(hv:Vd 10 (l.getD i Qq2).2)(hn:nodes 10 (l.getD i Qq2).2<=600){q:Qv}(hq:Sq q){d:Nat}(hd:d<=1000)(hvq:Vq d q):Q6 (l.getD i Qq2) q=some (G9 (lfb l) d q i):=YH ht hv hn d q hq hvq 1000 hd
end Go.Proofs.YtopocbcekabkoaaGreatDoor
end
noncomputable section
namespace Go.Proofs.YtopocbcekabkoaaGreatDoor
open Go Go.L
theorem Abr(l:Qq5)(h:l.length<=1000000):KY l l=some true:=by
 unfold KY TE;rw[if_pos Z];refine BR (fun i=>(i:Int)) l.length (fun i hi=>?_) ?_ 0
 ·unfold My;rw[if_pos U,Ac U,Ac U,if_pos Z,Ac  GJ]
  rfl
 ·unfold My Qg;rw[if_neg U]
theorem Aha{n:Nat}(hn:n<=64){l:Qq5}(hl:l.length<=1000000)(hi:∀x∈l,0<=x/\x<(n:Int)):IG l (n:Int)=some (JX n fun i=>decide ((i:Int)∈l)):=by
 unfold IG;rw[Ac U,Qzk]
 have a:Qzv n false=JX n fun i=>decide ((i:Int)∈l.take 0):=by
  unfold JX;apply Qky;intro j;rw[List.getElem?_replicate,Qxq]
  by_cases hj:j<n
  ·rw[if_pos hj,QkD hj];simp
  ·rw[if_neg hj,QxJ (by simpa using hj)];rfl
 rw[a];unfold PL;refine BR (fun k=>(JX n fun i=>decide ((i:Int)∈l.take k),(k:Int))) l.length (fun k hk=>?_) ?_ 0
 ·have hg:l.getD k Qq2=l[k]:=by rw[Qzj,Qzy hk];rfl
  have hb:=hi _ (Qz3 hk);unfold Ji;simp only;rw[if_pos U,Ac U,Ac (by unfold Bq;omega),Qzk,hg,if_pos U,Ac U,Ac (by rw[LF];exact hb),Ac  GJ,Wc]
  have:(JX n fun j=>if j=l[k].toNat then true else decide ((j:Int)∈l.take k))=JX n fun i=>decide ((i:Int)∈l.take (k+1)):=KI fun j hj=>by
   rw[<- Qk3 hk]
   by_cases h:j=l[k].toNat
   ·rw[if_pos h];have:(j:Int)=l[k]:=by omega
    refine(decide_eq_true (QzK.2 (.inr ?_))).symm;rw[this];exact List.mem_singleton_self _
   ·rw[if_neg h];have : ¬(j:Int)=l[k]:=by omega
    rw[decide_eq_decide,QzK,QzD];exact⟨.inl,fun h=>h.resolve_right this⟩
  rw[this];exact congrArg some (congrArg Sum.inl (Qxw Z (show(k:Int)+1=((k+1:Nat):Int) by omega)))
 ·unfold Ji Mp;simp only;rw[if_neg U,Qx3]
theorem Akk{a b:Qq5}(ha:a.length<=1000000)(hb:b.length<=1000000)(h:∀x∈a,x∈b):Q8 a b=some true:=by
 unfold Q8 SL;refine BR (fun i=>(i:Int)) a.length (fun i hi=>?_) ?_ 0
 ·have hg:a.getD i Qq2=a[i]:=by rw[Qzj,Qzy hi];rfl
  unfold LA;rw[if_pos U];unfold SK;refine BR (fun k=>(decide (a[i]∈b.take k),(k:Int))) b.length (fun k hk=>?_) ?_ 0
  ·have hgk:b.getD k Qq2=b[k]:=by rw[Qzj,Qzy hk];rfl
   unfold L9;simp only;rw[if_pos U,<- Qk3 hk]
   by_cases hm:a[i]∈b.take k
   ·rw[decide_eq_true hm,if_pos Z,Ac  GJ,decide_eq_true (QzK.2 (.inl hm))];exact congrArg some (congrArg Sum.inl (Qxw Z (show(k:Int)+1=((k+1:Nat):Int) by omega)))
   ·rw[decide_eq_false hm,if_neg Qxu,Ac U,Ac U,Ac  GJ,Qzk,Qzk,hg,hgk];exact congrArg some (congrArg Sum.inl (Qxw (decide_eq_decide.2 (by rw[QzK,QzD];exact⟨.inr,fun h=>h.resolve_left hm⟩)) (show(k:Int)+1=((k+1:Nat):Int) by omega)))
  ·unfold L9;simp only;rw[if_neg U,Qx3,decide_eq_true (h _ (Qz3 hi))];unfold Pn Pm;rw[if_neg Qqd,Ac  GJ]
   rfl
 ·unfold LA Po;rw[if_neg U]
theorem ZK{c:List EN}{g:Qq8}{d:Int}{x:Int}:x∈Ot c g d↔∃i:Nat,x=i/\i<c.length/\Ud g d (c.getD i Qq2)=true:=by
 unfold Ot;rw[Qz0]
 constructor
 ·rintro⟨i,hi,rfl⟩;obtain⟨a,h2⟩:=QxD.1 hi;exact⟨i,Z,QzE.1 a,h2⟩
 ·rintro⟨i,rfl,a,h2⟩;exact⟨i,QxD.2 ⟨QzE.2 a,h2⟩,Z⟩
theorem Abs(c:List EN)(g:Qq8)(d:Int):(Ot c g d).length<=c.length:=by
 unfold Ot;rw[Qza];have:=Qx0 (fun i=>Ud g d (c.getD i Qq2)) (Qzb c.length)
 rwa [QxQ]at this
def found(f:Nat->Bool)(c:List EN)(g:Qq8)(d:Int):Qq5:=((Qzb c.length).filter fun i=>f i&&Ud g d (c.getD i Qq2)).map fun i:Nat=>(i:Int)
theorem Ae2{f:Nat->Bool}{c:List EN}{g:Qq8}{d:Int}:its c.length f (fun j=>(JX c.length fun i=>decide ((i:Int)∈Ot c g d)).getD j Qq2)=found f c g d:=by
 unfold its found;refine congrArg _ (List.filter_congr fun i hi=>?_);have hi:=QzE.1 hi
 show(f i&&(JX c.length fun i=>decide ((i:Int)∈Ot c g d)).getD i Qq2)=_
 rw[Un hi];refine congrArg (fun b=>f i&&b) ?_;rw[Qz7,decide_eq_true_iff,ZK]
 constructor
 ·rintro⟨j,e,_,h⟩;obtain rfl:i=j:=by omega
  exact h
 ·exact fun h=>⟨i,Z,hi,h⟩
theorem YI(f:Nat->Bool)(c:List EN)(g:Qq8)(d:Int):(found f c g d).length<=c.length:=by
 unfold found;rw[Qza];have:=Qx0 (fun i=>f i&&Ud g d (c.getD i Qq2)) (Qzb c.length)
 rwa [QxQ]at this
theorem Abt{f:Nat->Bool}{c:List EN}{g:Qq8}{d d':Int}(h:d<=d'):∀x∈found f c g d,x∈found f c g d':=fun x hx=>by
 unfold found at *;obtain⟨i,hi,rfl⟩:=Qz0.1 hx;obtain⟨a,h2⟩:=QxD.1 hi;rw[QzQ]at h2;exact Qz0.2 ⟨i,QxD.2 ⟨a,by rw[QzQ];exact⟨h2.1,AbV h h2.2⟩⟩,Z⟩
theorem Ac0{f:Nat->Bool}{c:List EN}{g:Qq8}{d:Int}:(Ot c g d).filter (fun x=>f x.toNat)=found f c g d:=by
 unfold Ot found;rw[List.filter_map];refine congrArg _ ?_;rw[List.filter_filter];exact List.filter_congr fun i _=>Z
def q0:Qv:=.mk 5 [] [42,42] [] 0 0 []
theorem Alb:Sq q0:=fun d=>by
 cases d with
 | zero=>trivial
 | succ d=>exact⟨by decide,by decide,by decide,by decide,fun x hx=>(by cases hx),⟨by decide,by decide⟩,⟨by decide,by decide⟩,fun p hp=>(by cases hp)⟩
theorem Alc:qfl q0=(0,0):=by decide
theorem AiH:CD (Ld [E6]) q0 [true]=some ([0],(0,0)):=by
 have hs:∀d∈[E6],Sd d:=fun d hd=>by rw[QzD.1 hd];exact AgR
 obtain⟨r,hb,hr⟩:=Vx hs;rw[YG]at hb
 cases hb
 rcases hr with ⟨_,hl,ht,hv,_⟩ | ⟨a,_⟩
 ·rw[Ady Qqc (AgW hl hs ht hv) Alb];unfold Ai1;rw[Alc,if_pos Z,if_pos (show[true].length=(Ld [E6]).2.2.length from Z)]
  have he:G9 (lfb [E6]) 8 q0 0=true:=by
   rw[Ajl,if_pos Qqc];unfold lfb;refine decide_eq_true ?_;unfold Lfq;rw[if_neg Qqc,if_neg Qqc,if_neg Qqc,if_neg Qqc,if_pos (show q0.f.1=5 from Z)]
   rfl
  have b:(Ld [E6]).2.2.length=1:=Z;unfold its;rw[b];simp[QxC,he]
 ·exact absurd Z a
theorem Sw{c:List EN}{l:List (Qq4×Pv)}{q:Qv}{g:Qq8}{day later:Int}{x:Qq5×Qq7}{r:LIB×Qq7}(hx:x.2.1=0\/x.1=[])(hr:r.2.1=0\/r.1=Tu):Ct c l q (g,day) later x r true=some true:=by
 have hI:r.2.1≠0->C8 r.1=some 0:=fun h=>by
  rw[hr.resolve_left h]
  rfl
 unfold Ct;rw[if_pos Z]
 by_cases a:x.2.1=0
 ·rw[if_pos a]
  by_cases h2:r.2.1=0
  ·rw[if_pos h2]
  ·rw[if_neg h2,hI h2];rfl
 ·rw[if_neg a,hx.resolve_left a,if_pos (show(([]:Qq5).length:Int)=0 from Z)]
  by_cases h2:r.2.1=0
  ·rw[if_pos h2]
  ·rw[if_neg h2,hI h2];rfl
theorem YJ{l:List (Qq4×Pv)}(hl:l.length<=64)(hs:∀d∈l,Sd d)(ht:∀d∈l,d.1.length<=2048)(hv:X1 (l.map QzX)){c:List EN}(hc:l.length=c.length){q:Qv}(hq:Sq q)(a:(qfl q).1=0)(g:Qq8)(d:Int){α:Type}(k:Qq5×Qq7->Option α):
  Qq9 (IG (Ot c g d) (l.length:Int)) (fun m=>Qq9 (CD (Ld l) q m) k)=k (found (G9 (lfb l) 8 q) c g d,(0,0)):=by
 have b:(Ld l).2.2.length=c.length:=(Qza ..).trans hc;have hsl:=Abs c g d;rw[hc,Aha U U (fun x hx=>by obtain⟨i,rfl,hi,_⟩:=ZK.1 hx;omega),Qzq,Ady U (AgW hl hs ht hv) hq,Qzq,b];unfold Ai1;rw[if_pos a,if_pos (LF _ _),Ae2]
theorem Ac1{c:List EN}{l:List (Qq4×Pv)}{q:Qv}{g:Qq8}{day later:Int}(hs:∀d∈l,Sd d)(hq:Sq q):Hx c l q (g,day) later=some true:=by
 obtain⟨⟨L,e⟩,hb,hr⟩:=Vx hs;have hrl:e.1=0\/L=Tu:=hr.imp (fun h=>h.1) (fun h=>h.2)
 have red:∀x:Qq5×Qq7,CR c (g,day)=some x->Dw c l q (g,day) later x (L,e)=some true->Hx c l q (g,day) later=some true:=fun x hx hk=>by
  unfold Hx;rw[hx,Qzq,hb,Qzq]
  show Qq9 (Hd [E6]) _=_
  rw[YG,Qzq]
  show Qq9 (CD (Ld [E6]) q0 [true]) _=_
  rw[AiH,Qzq,if_pos Z,if_pos Z,Abr _ Qqc,Qzq,if_neg Qqc];exact hk
 have bad:∀f:Int×Int,f.1≠0->Dw c l q (g,day) later ([],f) (L,e)=some true:=fun f hf=>by
  unfold Dw;rw[if_neg hf];exact Sw (.inr Z) hrl
 rcases AjV c g with ⟨f,j,hv⟩ | ⟨r,hv⟩
 ·exact red _ (hv day) (bad f j)
 by_cases hd:1<=day/\day<=3652059
 rotate_left
 ·have:=hv day;rw[if_neg hd]at this;exact red _ this (bad _ (show(4:Int)≠0 by decide))
 have hvd:=hv day;rw[if_pos hd]at hvd;refine red _ hvd ?_;unfold Dw;rw[if_pos Z]
 by_cases he:e.1=0
 rotate_left
 ·rw[if_neg he];exact Sw (.inl Z) hrl
 rw[if_pos he]
 by_cases hlc:(l.length:Int)=(c.length:Int)
 rotate_left
 ·rw[if_neg hlc];exact Sw (.inl Z) hrl
 rw[if_pos hlc,XV hq,Qzq]
 by_cases a:(qfl q).1=0
 rotate_left
 ·rw[decide_eq_false a];exact Sw (.inl Z) hrl
 rw[decide_eq_true a]
 rcases hr with ⟨_,hl,ht,hav,rfl⟩ | ⟨m,_⟩
 rotate_left
 ·exact absurd he m
 have hlc':l.length=c.length:=by omega
 obtain⟨hvq,_⟩:=AgG a;unfold Ct;rw[if_neg Qqc];unfold I0;refine(YJ hl hs ht hav hlc' hq a g day _).trans ?_;have hsl:=Abs c g day;have hfl:=YI (G9 (lfb l) 8 q) c g day
 have n : ¬later<day->Gd c l q (g,day) later (found (G9 (lfb l) 8 q) c g day) (Ld l,e)=some true:=fun hlt=>by
  unfold Gd;have hvl:=hv later
  by_cases b:1<=later/\later<=3652059
  ·rw[if_pos b]at hvl;rw[hvl,Qzq,if_pos Z];refine(YJ hl hs ht hav hlc' hq a g later _).trans ?_;unfold Iy;have o:=YI (G9 (lfb l) 8 q) c g later;rw[if_pos Z,Akk U U (Abt U)]
   rfl
  ·rw[if_neg b]at hvl;rw[hvl,Qzq,if_neg (show ¬(4:Int)=0 by decide),if_pos U]
   rfl
 have p:Ge c l q (g,day) later 0 (found (G9 (lfb l) 8 q) c g day) (Ld l,e) (found (G9 (lfb l) 8 q) c g day)=some true:=by
  unfold Ge;rw[if_pos Z,Abr _ U,Qzq,if_neg Qqc]
  by_cases hlt:later<day
  ·rw[if_pos hlt,if_pos Z];rfl
  ·rw[if_neg hlt];exact n hlt
 unfold Iz LC;refine BR (fun k=>((((Ot c g day).take k).filter fun x=>G9 (lfb l) 8 q x.toNat),(k:Int))) (Ot c g day).length (fun k hk=>?_) ?_ 0
 ·have hg:(Ot c g day).getD k Qq2=(Ot c g day)[k]:=by rw[Qzj,Qzy hk];rfl
  obtain⟨i,hi,hic,_⟩:=ZK.1 (Qz3 hk);have hil:i<l.length:=by omega
  have hgi:l.getD i Qq2=l[i]:=by rw[Qzj,Qzy hil];rfl
  have hm:l.getD i Qq2∈l:=by rw[hgi];exact Qz3 _
  obtain⟨_,hV,hN⟩:=hav _ (QkE (f:=QzX) hm);have ha:=Acz (l:=l) (i:=i) (ht _ hm) hV hN hq (d:=8) U hvq;have htk:=Qx0 (fun x:Int=>G9 (lfb l) 8 q x.toNat) ((Ot c g day).take k);rw[QzC]at htk;unfold FD;simp only;rw[if_pos U,Ac U,Ac (by unfold Bq;omega),Qzk,hg,hi,if_pos U,Ac U,Ac U,Qzk,ha,Qzq,<- Qk3 hk,Qkj,Qk8,Qk0,hi,Qzk]
  by_cases hf:G9 (lfb l) 8 q i=true
  ·rw[if_pos hf,if_pos hf,Ac U,Ac (by unfold Go.E.Fz;simp only[Qxv];omega),Ac  GJ];exact congrArg some (congrArg Sum.inl (Qxw Z (show(k:Int)+1=((k+1:Nat):Int) by omega)))
  ·rw[if_neg hf,if_neg hf,QzZ,Ac  GJ];exact congrArg some (congrArg Sum.inl (Qxw Z (show(k:Int)+1=((k+1:Nat):Int) by omega)))
 ·unfold FD;simp only;rw[if_neg U,Qx3,Ac0,p]
end Go.Proofs.YtopocbcekabkoaaGreatDoor
end
noncomputable section
namespace Go.E
open Go Go.RowKit Go.ChangeShapes Go.WideShapes
section
variable {H:Type}{enc:TypeId×Value->H}{P:Program}{w:World}{base:Nat}{spare:Nat->Bool}{held:Bool}
theorem wf_u8{n:Int}(h:(Lit.int .u8 n).wf=true):0<=n/\n<=255:=by
 simpa[Lit.wf,IntKind.min,IntKind.max,IntKind.signed,IntKind.bits]using h
theorem wf_i64{n:Int}(h:(Lit.int .i64 n).wf=true): -9223372036854775808<=n/\n<=9223372036854775807:=by
 simpa[Lit.wf,IntKind.min,IntKind.max,IntKind.signed,IntKind.bits]using h
theorem SS(hl:laidOutB P=true){W W':World}(hb:Below W.heap.size W W'):∀{ts:List TypeId}{vs:Qq6}{ds:List (DataW H)}{ps:List MemPlace},(∀t∈ts,P.readableRec t=true/\t<P.types.size)->
  DataW.TrodAll enc P W 0 (fun _=>true) true ts vs ds ps->(∀x∈ps,x.block<W.heap.size)->DataW.TrodAll enc P W' 0 (fun b=>decide (b<W.heap.size)) true ts vs ds ps
 | [],[],[],ps,_,h,_=>h
 | t::ts,v::vs,d::ds,ps,ht,h,hlt=>by
  obtain⟨p,q,c,h2,rfl⟩:=h;have a:=ht t (.head _);exact⟨p,q,Below.trod hl a.1 a.2 c hb (fun x hx=>hlt x (QzK.2 (.inl hx))),SS hl hb (fun t' h'=>ht t' (.tail _ h')) h2 (fun x hx=>hlt x (QzK.2 (.inr hx))),Z⟩
 | [],[],_::_,_,_,h,_=>by cases h
 | [],_::_,_,_,_,h,_=>by cases h
 | _::_,[],_,_,_,h,_=>by cases h
 | _::_,_::_,[],_,_,h,_=>by cases h
end
end Go.E
namespace Go.E
open Go Go.RowKit Go.ChangeShapes Go.WideShapes Go.Deep
def Reads(P:Program)(t:TypeId){α:Type}(r:Rp α)(ok:α->Prop):Prop:=
 ∀
  {H:Type}{enc:TypeId×Value->H}{w:World}{base:Nat}{spare:Nat->Bool}{held:Bool}{fuel:Nat}{cs:Qq6}{x:DataW H×List MemPlace},
  DataW.trod enc P w base spare held fuel t cs=some x->∃a,r.rel (hp w) a cs/\ok a
section
variable {P:Program}{t e:TypeId}
theorem EX(ht:P.underlying t=some (.int .i64)):Reads P t (.int .i64) (fun n=>Go.L.Bq n):=fun h=>by
 obtain⟨n,rfl,_,hw⟩:=DataW.trod_int ht h;exact⟨n,Z,wf_i64 hw⟩
theorem QD(ht:P.underlying t=some (.int .u8)):Reads P t .byte (fun _=>True):=fun h=>by
 obtain⟨n,rfl,_,hw⟩:=DataW.trod_int ht h;have hw':=wf_u8 hw;refine⟨Go.L.u8 n,?_,trivial⟩
 show[_]=[_]
 rw[Go.L.Aad,Int.emod_eq_of_lt U U]
theorem Sx(ht:P.underlying t=some .string):Reads P t .st (fun l=>l.length<=9223372036854775807):=fun h=>by
 obtain⟨s,rfl,_,hs⟩:=DataW.trod_string ht h;refine⟨s.data.toList,?_,?_⟩
 ·show[_]=[_]
  simp
 ·show s.data.toList.length<=_
  rw[Array.length_toList];exact hs
theorem MX[Dr]{α:Type}{r:Rp α}{ok:α->Prop}(ht:P.underlying t=some (.slice e))(hc:P.cellsOf e=r.sz)(hsz:0<r.sz)(hr:Reads P e r ok):Reads P t (.vec r) (fun l=>l.length<=9223372036854775807/\∀x∈l,ok x):=fun {H enc w base spare held fuel cs x} h=>by
 rcases open_slice ht h with ⟨rfl,_⟩ | ⟨a,len,cap,m,n,D,Pl,rfl,hb,hl,hm,rfl,_,hel⟩
 ·exact⟨[],⟨_,Z,AS.nil _ _⟩,by simp,by simp⟩
 ·have q:len<=(if spare a.block then cap else len):=by split <;> omega
  have hx:∀i,i<len->∃y,ok y/\∃c,r.rel (hp w) y c/\w.cells? base (a.add (i * r.sz)) r.sz=some c:=fun i hi=>by
   obtain⟨cs',f,h2⟩:=hel i U;obtain⟨y,h3,b⟩:=hr h2;rw[hc]at f;exact⟨y,b,cs',h3,f⟩
  have key:∀k,k<=len->∃l:List α,l.length=k/\(∀x∈l,ok x)/\∀i y,l[i]? = some y->∃c,r.rel (hp w) y c/\w.cells? base (a.add (i * r.sz)) r.sz=some c:=by
   intro k
   induction k with
   | zero=>intro _;exact⟨[],Z,by simp,by simp⟩
   | succ k ih=>
    intro hk;obtain⟨l,f,h2,h3⟩:=ih U;obtain⟨y,b,c,d,p⟩:=hx k U;refine⟨l++[y],by simp[f],fun z hz=>?_,fun i z hz=>?_⟩
    ·rcases QzK.1 hz with hz | hz
     ·exact h2 z hz
     ·simp at hz;subst hz;exact b
    ·rcases Qxa i l.length with hi | hi
     ·rw[Qk4 hi]at hz;exact h3 i z hz
     ·rw[Qjb hi]at hz
      have g:i - l.length=0:=by
       have:=(Qz6.1 hz).1;simp at this;omega
      rw[g]at hz;simp at hz;subst hz;obtain rfl:i=k:=by omega
      exact⟨c,d,p⟩
  obtain⟨l,f,h2,h3⟩:=key len (Qzu _);have hlm:len<=9223372036854775807:=by unfold maxLen at hm;omega
  refine⟨l,⟨_,Z,some a,cap,by rw[f],by omega,hm,(fun h=>by cases h),fun A hA hne=>?_⟩,by omega,h2⟩
  cases hA
  have cell:∀i y,l[i]? = some y->∃c,r.rel (hp w) y c/\∀j u,c[j]? = some u->w.cell? ((a.add (i * r.sz)).add j)=some u:=fun i y hy=>by
   obtain⟨c,b,d⟩:=h3 i y hy;obtain⟨_,hlen,hcell⟩:=World.cells?_some d;exact⟨c,b,fun j u hu=>by rw[<- hu];exact hcell j (by rw[<- hlen];exact(Qz6.1 hu).1)⟩
  have hspot:a.spot=none:=by
   obtain⟨y,l',rfl⟩:=Qjj hne;obtain⟨c,b,d⟩:=cell 0 y Z;have o:0<c.length:=by rw[r.len b];omega
   have:=World.cell?_spot (d 0 _ (Qzy o))
   simpa[Addr.add]using this
  refine⟨hspot,fun i y hy=>?_⟩;obtain⟨c,b,d⟩:=cell i y hy;refine⟨c,b,fun j u hu=>?_⟩;rw[<- JG hspot];exact d j u hu
def ZL(P:Program)(fs:List Field)(off:Nat){α:Type}(r:Rp α)(ok:α->Prop):Prop:=
 ∀
  {H:Type}{enc:TypeId×Value->H}{w:World}{base:Nat}{spare:Nat->Bool}{held:Bool}{fuel:Nat}{cs:Qq6},
  (∀f∈fs,∃y:DataW H×List MemPlace,DataW.trod enc P w base spare held fuel f.type ((cs.drop f.offset).take (P.cellsOf f.type))=some y)->∃a,r.rel (hp w) a ((cs.drop off).take r.sz)/\ok a
theorem O2{f:Field}{α:Type}{r:Rp α}{ok:α->Prop}{off:Nat}(hr:Reads P f.type r ok)(ho:f.offset=off)(hc:P.cellsOf f.type=r.sz):ZL P [f] off r ok:=fun h=>by
 obtain⟨y,hy⟩:=h f (.head _);rw[ho,hc]at hy;exact hr hy
theorem Dj{f:Field}{fs:List Field}{α β:Type}{r:Rp α}{s:Rp β}{ok:α->Prop}{ok':β->Prop}{off:Nat}(hr:Reads P f.type r ok)(ho:f.offset=off)(hc:P.cellsOf f.type=r.sz)(hs:ZL P fs (off+r.sz) s ok'):ZL P (f::fs) off (.pair r s) (fun x=>ok x.1/\ok' x.2):=fun {H enc w base spare held fuel cs} h=>by
 obtain⟨y,hy⟩:=h f (.head _);rw[ho,hc]at hy;obtain⟨a,c,h2⟩:=hr hy;obtain⟨b,h3,d⟩:=hs (cs:=cs) (fun g hg=>h g (.tail _ hg));refine⟨(a,b),⟨_,_,?_,c,h3⟩,h2,d⟩
 show(cs.drop off).take (r.sz+s.sz)=_
 rw[List.take_add,List.drop_drop]
theorem LG{fs:Array Field}{α:Type}{r:Rp α}{ok:α->Prop}(ht:P.underlying t=some (.struct fs))(hc:P.cellsOf t=r.sz)(hf:ZL P fs.toList 0 r ok):Reads P t r ok:=fun h=>by
 obtain⟨xs,n,_,_,hl,hlen,hfs⟩:=DataW.trod_struct ht h
 obtain⟨a,b,h2⟩:=hf (fun f hf'=>by
  obtain⟨i,hi,rfl⟩:=List.getElem_of_mem hf';have hi':i<fs.size:=by simpa using hi
  have:=hfs i fs[i] Qqd;refine⟨xs[i]'(by omega),?_⟩;rw[Qzy U]at this
  simpa using this)
 rw[Qx8,Qxb (by rw[hl,hc];exact Qzu _)]at b;exact⟨a,b,h2⟩
end
end Go.E
end
noncomputable section
namespace Go.Proofs.YtopocbcekabkoaaGreatDoor.QP
open Go Go.E
theorem one_le{H:Type}(d:DataW H):1<=Rows.uptoBulk d:=by
 cases d with
 | lit l=>cases l <;> simp[Rows.uptoBulk]
 | nil=>simp[Rows.uptoBulk]
 | ptr d=>simp[Rows.uptoBulk]
 | slice elems spare=>simp[Rows.uptoBulk]
 | agg parts=>simp[Rows.uptoBulk]
 | iface t d=>simp[Rows.uptoBulk]
 | map entries=>simp[Rows.uptoBulk]
 | held h=>simp[Rows.uptoBulk]
theorem length_le{H:Type}(l:List (DataW H)):l.length<=Rows.uptoBulkAll l:=by
 induction l with
 | nil=>simp[Rows.uptoBulkAll]
 | cons x r ih=>have:=one_le x;simp only[Rows.uptoBulkAll,Qzc];omega
theorem bound{H:Type}{l:List (DataW H)}(hk:Rows.uptoSmall H l=true):Rows.uptoBulkAll l<=1048576:=of_decide_eq_true hk
end Go.Proofs.YtopocbcekabkoaaGreatDoor.QP
namespace Go.Proofs.YtopocbcekabkoaaGreatDoor.QP
open Go Go.E Go.RowKit Go.ChangeShapes Go.WideShapes Go.Deep Go.L
theorem Wd{H:Type}{l:List (DataW H)}{x:DataW H}(h:x∈l):Rows.uptoBulk x<=Rows.uptoBulkAll l:=by
 induction l with
 | nil=>cases h
 | cons y l ih=>
  simp only[Rows.uptoBulkAll]
  rcases Qze.1 h with rfl | h
  ·omega
  ·have:=ih h;omega
def RB(P:Program)(t:TypeId){α:Type}(r:Rp α)(ok:α->Prop)(k:Nat):Prop:=
 ∀
  {H:Type}{enc:TypeId×Value->H}{w:World}{base:Nat}{spare:Nat->Bool}{held:Bool}{fuel:Nat}{cs:Qq6}{x:DataW H×List MemPlace},
  Rows.uptoBulk x.1<=k->DataW.trod enc P w base spare held fuel t cs=some x->∃a,r.rel (hp w) a cs/\ok a
section
variable {P:Program}{t e:TypeId}{k:Nat}
theorem RB.use{α:Type}{r:Rp α}{ok:α->Prop}(h:RB P t r ok k){H:Type}{enc:TypeId×Value->H}{w:World}{base:Nat}{spare:Nat->Bool}{held:Bool}{fuel:Nat}{cs:Qq6}{d:DataW H}{p:List MemPlace}
  (hk:Rows.uptoBulk d<=k) (hx:DataW.trod enc P w base spare held fuel t cs=some (d,p)):∃a,r.rel (hp w) a cs/\ok a:=@h H enc w base spare held fuel cs (d,p) hk hx
theorem Vz{α:Type}{r:Rp α}{ok:α->Prop}(h:Reads P t r ok):RB P t r ok k:=fun _ hx=>h hx
theorem Ac2(ht:P.underlying t=some .string):RB P t .st (fun l=>l.length<=k) k:=fun hk h=>by
 obtain⟨s,rfl,rfl,hs⟩:=DataW.trod_string ht h;simp only[Rows.uptoBulk]at hk;exact⟨s.data.toList,by show[_]=[_];simp,by omega⟩
theorem MY{α:Type}{r:Rp α}{ok:α->Prop}(ht:P.underlying t=some (.slice e))(hc:P.cellsOf e=r.sz)(hsz:0<r.sz)(hr:RB P e r ok k):RB P t (.vec r) (fun l=>l.length<=k/\∀x∈l,ok x) k:=fun {H enc w base spare held fuel cs x} hk h=>by
 rcases open_slice ht h with ⟨rfl,_⟩ | ⟨a,len,cap,m,n,D,Pl,rfl,hb,hl,hm,rfl,rfl,hel⟩
 ·exact⟨[],⟨_,Z,AS.nil _ _⟩,by simp,by simp⟩
 ·have s:len<=(if spare a.block then cap else len):=by split <;> omega
  simp only[Rows.uptoBulk]at hk;have hlk:=length_le ((Qzb len).map D);rw[Qza,QxQ]at hlk
  have hx:∀i,i<len->∃y,ok y/\∃c,r.rel (hp w) y c/\w.cells? base (a.add (i * r.sz)) r.sz=some c:=fun i hi=>by
   obtain⟨cs',g,h2⟩:=hel i U;have hDi:=Wd (QkE (f:=D) (QzE.2 hi));obtain⟨y,h3,b⟩:=hr (x:=(D i,Pl i)) (by show Rows.uptoBulk (D i)<=k;omega) h2;rw[hc]at g;exact⟨y,b,cs',h3,g⟩
  have key:∀k,k<=len->∃l:List α,l.length=k/\(∀x∈l,ok x)/\∀i y,l[i]? = some y->∃c,r.rel (hp w) y c/\w.cells? base (a.add (i * r.sz)) r.sz=some c:=by
   intro k
   induction k with
   | zero=>intro _;exact⟨[],Z,by simp,by simp⟩
   | succ k ih=>
    intro hk;obtain⟨l,g,h2,h3⟩:=ih U;obtain⟨y,b,c,d,q⟩:=hx k U;refine⟨l++[y],by simp[g],fun z hz=>?_,fun i z hz=>?_⟩
    ·rcases QzK.1 hz with hz | hz
     ·exact h2 z hz
     ·simp at hz;subst hz;exact b
    ·rcases Qxa i l.length with hi | hi
     ·rw[Qk4 hi]at hz;exact h3 i z hz
     ·rw[Qjb hi]at hz
      have o:i - l.length=0:=by
       have:=(Qz6.1 hz).1;simp at this;omega
      rw[o]at hz;simp at hz;subst hz;obtain rfl:i=k:=by omega
      exact⟨c,d,q⟩
  obtain⟨l,g,h2,h3⟩:=key len (Qzu _);refine⟨l,⟨_,Z,some a,cap,by rw[g],by omega,hm,(fun h=>by cases h),fun A hA hne=>?_⟩,by omega,h2⟩
  cases hA
  have cell:∀i y,l[i]? = some y->∃c,r.rel (hp w) y c/\∀j u,c[j]? = some u->w.cell? ((a.add (i * r.sz)).add j)=some u:=fun i y hy=>by
   obtain⟨c,b,d⟩:=h3 i y hy;obtain⟨_,hlen,hcell⟩:=World.cells?_some d;exact⟨c,b,fun j u hu=>by rw[<- hu];exact hcell j (by rw[<- hlen];exact(Qz6.1 hu).1)⟩
  have hspot:a.spot=none:=by
   obtain⟨y,l',rfl⟩:=Qjj hne;obtain⟨c,b,d⟩:=cell 0 y Z;have p:0<c.length:=by rw[r.len b];omega
   have:=World.cell?_spot (d 0 _ (Qzy p))
   simpa[Addr.add]using this
  refine⟨hspot,fun i y hy=>?_⟩;obtain⟨c,b,d⟩:=cell i y hy;refine⟨c,b,fun j u hu=>?_⟩;rw[<- JG hspot];exact d j u hu
theorem Ahb{f0 f1 f2 f3 f4 f5 f6:Field}{tw tb tp te tg:TypeId}(ht:P.underlying t=some (.struct #[f0,f1,f2,f3,f4,f5,f6]))(hc:P.cellsOf t=7)
  (b:f0.offset=0) (c:f1.offset=1) (e:f2.offset=2) (g:f3.offset=3) (j:f4.offset=4) (l:f5.offset=5) (m:f6.offset=6)
  (o:P.underlying f0.type=some (.int .i64)) (q:f1.type=tw) (s:P.underlying f2.type=some .string) (u:f3.type=tb) (u4:P.underlying f4.type=some (.int .i64)) (u5:P.underlying f5.type=some (.int .i64)) (e6:f6.type=tp)
  (c0:P.cellsOf f0.type=1) (c1:P.cellsOf tw=1) (c2:P.cellsOf f2.type=1) (c3:P.cellsOf tb=1) (c4:P.cellsOf f4.type=1) (c5:P.cellsOf f5.type=1) (c6:P.cellsOf tp=1)
  (uw:P.underlying tw=some (.slice tg)) (ug:P.underlying tg=some .string) (cg:P.cellsOf tg=1) (ub:P.underlying tb=some (.slice te)) (ue:P.underlying te=some (.int .u8)) (ce:P.cellsOf te=1) (up:P.underlying tp=some (.slice t)) (B:Nat) (k:Nat) (hB:k<=B):RB P t .Cy (fun v=>∀d,Smq B d v) k:=by
 induction k with
 | zero=>
  intro H enc w base spare held fuel cs x hk h;have:=one_le x.1;omega
 | succ k ih0=>
  intro H enc w base spare held fuel cs x hk h;subst q;subst u;subst e6;obtain⟨xs,n,rfl,rfl,hl,hlen,hfs⟩:=DataW.trod_struct ht h;have ih:RB P t .Cy (fun v=>∀d,Smq B d v) k:=@ih0 U;simp only[Rows.uptoBulk]at hk
  have hb:∀y∈xs,Rows.uptoBulk y.1<=k:=fun y hy=>by
   have:=Wd (QkE (f:=fun z:DataW H×List MemPlace=>z.1) hy);omega
  have ax:xs.length=7:=by simpa using hlen
  have get:∀(i:Nat) (f:Field),(#[f0,f1,f2,f3,f4,f5,f6]:Array Field)[i]? = some f->i<7->P.cellsOf f.type=1->f.offset=i->∃y:DataW H×List MemPlace,Rows.uptoBulk y.1<=k/\DataW.trod enc P w base spare held n f.type ((cs.drop i).take 1)=some y:=fun i f hf hi hcf hof=>by
   have a:=hfs i f hf;rw[hcf,hof,Qzy (by omega:i<xs.length)]at a;exact⟨_,hb _ (Qz3 _),a⟩
  obtain⟨y0,b0,t0⟩:=get 0 f0 Z U c0 b;obtain⟨y1,b1,t1⟩:=get 1 f1 Z U c1 c;obtain⟨y2,b2,t2⟩:=get 2 f2 Z U c2 e;obtain⟨y3,b3,t3⟩:=get 3 f3 Z U c3 g;obtain⟨y4,b4,t4⟩:=get 4 f4 Z U c4 j;obtain⟨y5,b5,t5⟩:=get 5 f5 Z U c5 l;obtain⟨y6,b6,t6⟩:=get 6 f6 Z U c6 m;obtain⟨a0,r0,_⟩:=Vz (k:=k) (EX o) b0 t0;obtain⟨a1,r1,q1,q1'⟩:=MY uw cg Qqc (Ac2 (k:=k) ug) b1 t1;obtain⟨a2,r2,q2⟩:=Ac2 (k:=k) s b2 t2;obtain⟨a3,r3,q3,_⟩:=MY ub ce Qqc (Vz (k:=k) (QD ue)) b3 t3;obtain⟨a4,r4,q4⟩:=Vz (k:=k) (EX u4) b4 t4;obtain⟨a5,r5,q5⟩:=Vz (k:=k) (EX u5) b5 t5;obtain⟨a6,r6,q6,q6'⟩:=MY up (r:=.Cy) hc Qqc ih b6 t6;refine⟨.mk a0 a1 a2 a3 a4 a5 a6,Rp.Aa0 ?_,fun d=>?_⟩
  ·have hcs:cs=(cs.drop 0).take 1++((cs.drop 1).take 1++((cs.drop 2).take 1++((cs.drop 3).take 1++((cs.drop 4).take 1++((cs.drop 5).take 1++(cs.drop 6).take 1))))):=by
    have h7:cs.length=7:=by rw[hl,hc]
    match cs,h7 with
    | [_,_,_,_,_,_,_],_=>rfl
   exact⟨_,_,hcs,r0,_,_,Z,r1,_,_,Z,r2,_,_,Z,r3,_,_,Z,r4,_,_,Z,r5,r6⟩
  ·cases d with
   | zero=>exact trivial
   | succ d=>exact⟨by show a1.length<=B;omega,by show a2.length<=B;omega,by show a3.length<=B;omega,by show a6.length<=B;omega,fun x hx=>by have:=q1' x hx;omega,q4,q5,fun p hp=>q6' p hp d⟩
end
end Go.Proofs.YtopocbcekabkoaaGreatDoor.QP
end
noncomputable section
namespace Go.Proofs.YtopocbcekabkoaaGreatDoor.QP
open Go Go.E Go.RowKit Go.ChangeShapes Go.WideShapes Go.Deep Go.L
section
variable {P:Program}{t e:TypeId}{k:Nat}
theorem AiI{f0 f1 f2 f3 f4:Field}{tb ts tp te:TypeId}(ht:P.underlying t=some (.struct #[f0,f1,f2,f3,f4]))(hc:P.cellsOf t=5)
  (b:f0.offset=0) (c:f1.offset=1) (e:f2.offset=2) (g:f3.offset=3) (j:f4.offset=4)
  (l:P.underlying f0.type=some (.int .i64)) (m:P.underlying f1.type=some (.int .i64)) (o:f2.type=tb) (q:f3.type=ts) (s:f4.type=tp)
  (u:P.cellsOf f0.type=1) (c1:P.cellsOf f1.type=1) (c2:P.cellsOf tb=1) (c3:P.cellsOf ts=1) (c4:P.cellsOf tp=1)
  (ub:P.underlying tb=some (.slice te)) (ue:P.underlying te=some (.int .u8)) (ce:P.cellsOf te=1) {tg:TypeId} (us:P.underlying ts=some (.slice tg)) (ug:P.underlying tg=some .string) (cg:P.cellsOf tg=1) (up:P.underlying tp=some (.slice t)) (B:Nat) (k:Nat) (hB:k<=B):RB P t .tree (fun v=>∀d,Sm B d v) k:=by
 induction k with
 | zero=>
  intro H enc w base spare held fuel cs x hk h;have:=one_le x.1;omega
 | succ k ih0=>
  intro H enc w base spare held fuel cs x hk h;subst o;subst q;subst s;obtain⟨xs,n,rfl,rfl,hl,hlen,hfs⟩:=DataW.trod_struct ht h;have ih:RB P t .tree (fun v=>∀d,Sm B d v) k:=@ih0 U;simp only[Rows.uptoBulk]at hk
  have hb:∀y∈xs,Rows.uptoBulk y.1<=k:=fun y hy=>by
   have:=Wd (QkE (f:=fun z:DataW H×List MemPlace=>z.1) hy);omega
  have am:xs.length=5:=by simpa using hlen
  have get:∀(i:Nat) (f:Field),(#[f0,f1,f2,f3,f4]:Array Field)[i]? = some f->i<5->P.cellsOf f.type=1->f.offset=i->∃y:DataW H×List MemPlace,Rows.uptoBulk y.1<=k/\DataW.trod enc P w base spare held n f.type ((cs.drop i).take 1)=some y:=fun i f hf hi hcf hof=>by
   have a:=hfs i f hf;rw[hcf,hof,Qzy (by omega:i<xs.length)]at a;exact⟨_,hb _ (Qz3 _),a⟩
  obtain⟨y0,b0,t0⟩:=get 0 f0 Z U u b;obtain⟨y1,b1,t1⟩:=get 1 f1 Z U c1 c;obtain⟨y2,b2,t2⟩:=get 2 f2 Z U c2 e;obtain⟨y3,b3,t3⟩:=get 3 f3 Z U c3 g;obtain⟨y4,b4,t4⟩:=get 4 f4 Z U c4 j;obtain⟨a0,r0,q0⟩:=Vz (k:=k) (EX l) b0 t0;obtain⟨a1,r1,q1⟩:=Vz (k:=k) (EX m) b1 t1;obtain⟨a2,r2,q2,_⟩:=MY ub ce Qqc (Vz (k:=k) (QD ue)) b2 t2;obtain⟨a3,r3,q3,q3'⟩:=MY us cg Qqc (Ac2 (k:=k) ug) b3 t3;obtain⟨a4,r4,q4,q4'⟩:=MY up (r:=.tree) hc Qqc ih b4 t4;refine⟨.mk a0 a1 a2 a3 a4,Rp.Eu ?_,fun d=>?_⟩
  ·have hcs:cs=(cs.drop 0).take 1++((cs.drop 1).take 1++((cs.drop 2).take 1++((cs.drop 3).take 1++(cs.drop 4).take 1))):=by
    have h5:cs.length=5:=by rw[hl,hc]
    match cs,h5 with
    | [_,_,_,_,_],_=>rfl
   exact⟨_,_,hcs,r0,_,_,Z,r1,_,_,Z,r2,_,_,Z,r3,r4⟩
  ·cases d with
   | zero=>exact trivial
   | succ d=>exact⟨by show a2.length<=B;omega,by show a3.length<=B;omega,by show a4.length<=B;omega,fun x hx=>by have:=q3' x hx;omega,q0,q1,fun p hp=>q4' p hp d⟩
theorem Akl{f0 f1:Field}{tb tv te:TypeId}{ok:Pv->Prop}(ht:P.underlying t=some (.struct #[f0,f1]))(hc:P.cellsOf t=6)(c:f0.offset=0)(e:f1.offset=1)(g:f0.type=tb)(i:f1.type=tv)(j:P.cellsOf tb=1)(c1:P.cellsOf tv=5)
  (ub:P.underlying tb=some (.slice te)) (ue:P.underlying te=some (.int .u8)) (ce:P.cellsOf te=1) (hv:RB P tv .tree ok k):RB P t (.pair (.vec .byte) .tree) (fun d=>d.1.length<=k/\ok d.2) k:=fun {H enc w base spare held fuel cs x} hk h=>by
 subst g;subst i;obtain⟨xs,n,rfl,rfl,hl,hlen,hfs⟩:=DataW.trod_struct ht h;simp only[Rows.uptoBulk]at hk
 have hb:∀y∈xs,Rows.uptoBulk y.1<=k:=fun y hy=>by
  have:=Wd (QkE (f:=fun z:DataW H×List MemPlace=>z.1) hy);omega
 have o:xs.length=2:=by simpa using hlen
 have a:=hfs 0 f0 Z;have b:=hfs 1 f1 Z;rw[j,c,Qzy (by omega:0<xs.length)]at a;rw[c1,e,Qzy (by omega:1<xs.length)]at b;obtain⟨a0,r0,q0,_⟩:=MY ub ce Qqc (Vz (k:=k) (QD ue)) (hb _ (Qz3 _)) a;obtain⟨a1,r1,l⟩:=hv (hb _ (Qz3 _)) b;refine⟨(a0,a1),⟨(cs.drop 0).take 1,(cs.drop 1).take 5,?_,r0,r1⟩,q0,l⟩;have m:cs.length=6:=by rw[hl,hc]
 match cs,m with
 | [_,_,_,_,_,_],_=>rfl
end
end Go.Proofs.YtopocbcekabkoaaGreatDoor.QP
end
noncomputable section
namespace Go.E
open Go Go.RowKit Go.ChangeShapes Go.WideShapes Go.Deep
theorem XB{P:Program}{t e:TypeId}{n:Nat}(ht:P.underlying t=some (.array n e))(he:P.underlying e=some (.int .u8))(hc:P.cellsOf e=1)(hn:P.cellsOf t=n):Reads P t (.bs n) (fun _=>True):=fun {H enc w base spare held fuel cs x} h=>by
 obtain⟨xs,m,rfl,_,hl,hlen,hf⟩:=DataW.trod_array ht h
 have cell:∀i,i<n->∃b:UInt8,cs[i]? = some (.int .u8 (b.toNat:Int)):=fun i hi=>by
  have a:=hf i hi;rw[hc,Nat.mul_one,Qzy U]at a;obtain⟨b,hb,_⟩:=QD he a;refine⟨b,?_⟩;have h2:((cs.drop i).take 1)[0]? = some (.int .u8 (b.toNat:Int)):=by rw[show(cs.drop i).take 1=[.int .u8 (b.toNat:Int)]from hb];rfl
  simpa using h2
 refine⟨fun i=>if h:i<n then(cell i h).choose else 0,?_,trivial⟩
 show cs=FU n _
 unfold FU;apply Qky;intro i;rw[Qxq]
 by_cases hi:i<n
 ·rw[QkD hi,(cell i hi).choose_spec];simp[hi]
 ·rw[QxJ U,QxJ (by simpa using hi)];rfl
end Go.E
end
noncomputable section
namespace Go.Proofs.YtopocbcekabkoaaGreatDoor
open Go Go.E Go.Shelf Go.Lib
def Ald:Ren:=⟨fun n=>n,fun | 119=>305 | 138=>307 | 139=>308 | n=>n,fun | 3=>1 | 4=>2 | n=>n⟩
theorem AiJ:U8Types Tryz.prog Ald:=⟨Tryz.underlying5,Tryz.underlying305,Tryz.underlying307,Tryz.underlying308⟩
def Ad4 : List (String × DataW Unit) := [("math/bits.deBruijn32tab", Rows.laid_math_bits_deBruijn32tab), ("math/bits.deBruijn64tab", Rows.laid_math_bits_deBruijn64tab), ("internal/strconv.uint64pow10", Rows.laid_internal_strconv_uint64pow10), ("unicode/utf8.acceptRanges", Rows.laid_unicode_utf8_acceptRanges), ("unicode/utf8.first", Rows.laid_unicode_utf8_first)]
theorem Akm{W w:World}{n:String}{cs:Array Value}(hs:Le (hp W) (hp w))(h:W.var? Tryz.prog n=some cs):w.var? Tryz.prog n=some cs:=by
 unfold World.var? at h ⊢
 cases hg:Tryz.prog.globalNamed n with
 | none=>rw[hg]at h;cases h
 | some g=>
  rw[hg]at h;simp only[Qzq]at h ⊢
  cases ho:W.heap[g]? with
  | none=>rw[ho]at h;cases h
  | some o=>rw[ho]at h;rw[show w.heap[g]? = some o from hs g o ho];exact h
theorem ZM{W:World}(h:laidMetH Tryz.prog Ad4 W):HG (hp W):=by
 rw[MakeChecks.laidMetH_plain _ _ _ Qqb]at h;have c:Rows.laid_unicode_utf8_first=firstData:=by kernel_rfl
 have f:(Rows.laid_unicode_utf8_acceptRanges:DataW Unit)=acceptData:=by kernel_rfl
 have i:(Rows.laid_internal_strconv_uint64pow10:DataW Unit)=tabData .u64 pow10Tab:=by kernel_rfl
 have b := laidMet.reads h (n := "unicode/utf8.acceptRanges") (d := Rows.laid_unicode_utf8_acceptRanges) (by simp[Ad4])
 have h2 := laidMet.reads h (n := "unicode/utf8.first") (d := Rows.laid_unicode_utf8_first) (by simp[Ad4])
 rw[f]at b;rw[c]at h2;have ht := utf8Tabs_of_readsT AiJ ⟨by kernel_rfl, by kernel_rfl, by kernel_rfl, by kernel_rfl, by kernel_rfl, by kernel_rfl, by kernel_rfl⟩ h2 b;have hT : laidMet Tryz.prog (("internal/strconv.uint64pow10", tabData .u64 pow10Tab) :: _) W := i ▸ h.tail.tail
 have a : TabIs Tryz.prog W "internal/strconv.uint64pow10" .u64 pow10Tab := tabIs_of_head (g := 3) (t := 325) (e := 245) (n := 20) (by kernel_rfl) (by kernel_rfl) Tryz.underlying325 Tryz.underlying245 (by kernel_rfl) (by kernel_rfl) hT
 exact⟨⟨ht.1,ht.2⟩,fun w hw=>Akm hw a⟩
noncomputable def UZ(os:Os):World:=
 let a:=World.holding Tryz.prog os ⟨#[],#[],[]⟩
 let put (h:Array Obj) (g:Nat) (cs:Array Value):Array Obj:=h.modify g fun
  | .cells _ t frozen=>.cells cs t frozen
  | o=>o
 let b:=put (put a.heap 1 (Lib.firstTab.map fun z=>Value.int .u8 z).toArray) 2 ((Qzb 16).flatMap fun i=>[Value.int .u8 (Lib.accLo i),Value.int .u8 (Lib.accHi i)]).toArray
 let h2:=put b 3 (pow10Tab.map (Value.int .u64)).toArray
 let nums (d:DataW Unit):Array Value:=match d with
  | .agg l=>(l.map fun | .lit (.int k z)=>Value.int k z | _=>.int .u8 0).toArray
  | _=>#[]
 let h3:=put (put h2 4 (nums Rows.laid_math_bits_deBruijn32tab)) 5 (nums Rows.laid_math_bits_deBruijn64tab)
 {a with heap:=h3}
set_option maxRecDepth 100000 in
theorem Ahc(os:Os)(args:Array Value):laidMetH Tryz.prog Ad4 ((UZ os).forCall (fun _ _=>0) ⟨#[],args,[]⟩).memory:=
 laidMetH_of_parts3 (fuel:=12) (laidMet_of_run' 12 Qqb Qqb) Qqb Qqb
end Go.Proofs.YtopocbcekabkoaaGreatDoor
end
