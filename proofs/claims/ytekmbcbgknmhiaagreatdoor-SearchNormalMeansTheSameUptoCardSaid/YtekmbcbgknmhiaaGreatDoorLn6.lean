/- Texts of a claim, merged. -/
import Derived.Test.YtekmbcbgknmhiaaGreatDoorLn5
import Derived.KernelRfl
open _root_.Go.Proofs.Tryz renaming underlying26→Aj3,underlying24→AjP
open Option renaming bind->Qq4,bind_some->Qq5,map->Qq7,bind_assoc->Qkv,map_some->QkK,toList_some->Qjb
open List renaming getD_eq_getElem?_getD->Qzq,getElem?_eq_getElem->Qzw,replicate->Qzz,length_map->Qzk,length_cons->Qzj,length_append->Qzu,range->Qzv,mem_cons_of_mem->QzA,mem_singleton->Qzf,getElem?_eq_some_iff->QzD,mem_cons_self->QzJ,drop_eq_nil_of_le->Qz1,mem_cons->Qzy,length_nil->Qze,mem_append->QzQ,length_take->QzK,take_of_length_le->Qxk,map_cons->Qzd,pairwise_cons->Qz0,length_drop->QzC,append_nil->QzX,flatMap_cons->Qz6,getElem?_eq_none->Qxe,getElem?_drop->Qxv,getElem?_map->Qxy,getElem_mem->Qxj,mem_map->Qz8,mem_range->Qz7,nil_append->Qxz,take_add_one->QxX,drop_eq_getElem_cons->Qkf,length_range->QxA,length_singleton->QxC,map_append->Qxf,getElem?_cons_zero->Qx7,length->Qxu,append_assoc->Qxd,countP_cons->Qx3,take_length->Qx4,range_succ->Qx2,mergeSort_perm->Qkz,drop_drop->Qkw,countP_append->QkQ,exists_cons_of_ne_nil->QkC,drop_zero->QxD,pairwise_map->Qkk,any_cons->Qkj,ext_getElem?->Qkd,countP_eq_zero->QkE,map_congr_left->Qkq,mem_iff_getElem?->Qjy,all_cons->QxE,all_eq_true->Qx9,getElem?_range->Qk5,getElem?_append_left->QkZ,pairwise_mergeSort->Qk4,countP_congr->Qk7,length_filter_le->Qk3,map_map->Qx0,any_eq_true->Qk2,countP_singleton->Qjv,countP_le_length->Qju,length_set->QkJ,pairwise_append->Qja,getElem?_set->Qjw,getElem?_take_of_lt->Qjd
open Int renaming toNat_natCast->Qq8,reduceEq->QxK
open Prod renaming fst->Qq6
open Nat renaming le_refl->Qzx,le_trans->Qz2,add_zero->Qxx,zero_le->Qz5,lt_or_ge->Qxw,add_sub_cancel->Qkx,mul_le_mul_right->Qka
open Bool renaming and_eq_true->Qzb,false_eq_true->QzB,eq_iff_iff->Qz3,or_eq_true->Qxq,not_false->Qkb,not_eq_true'->QkX,or_false->Qk6,false_or->Qjj
open UInt8 renaming lt_iff_toNat_lt->QxQ,ofNat->QzE,toNat_lt->Qx1,ofNat_toNat->Qjx
set_option linter.unusedVariables false
set_option linter.unusedSimpArgs false
set_option linter.unusedSectionVars false
noncomputable section
namespace Go.Proofs.YtekmbcbgknmhiaaGreatDoor
open Go Go.E Go.RowKit Go.L
set_option maxHeartbeats 1000000
set_option maxRecDepth 10000
open _root_.Go.Proofs.Tryz
def Mg(a0:Qv):Option Int:=
 Qq4 (LQ a0.f.2.2.1) (fun a=>if a.1=0 then(if a0.f.1=3 then if((!decide (1<=a0.f.2.2.2.2.1/\a0.f.2.2.2.2.1<=2048))||((decide (a0.f.1=6))&&(decide (a0.f.2.2.2.2.2.1<a0.f.2.2.2.2.1)))) then some (4) else(if((decide (a0.f.1=4))&&(decide ((a0.f.2.2.2.1.length:Int)=0))) then some (10) else(if 64<(a0.f.2.2.2.1.length:Int) then some (3) else some (0))) else if((decide (a0.f.1=6))&&(decide (a0.f.2.2.2.2.2.1<a0.f.2.2.2.2.1))) then some (4) else(if((decide (a0.f.1=4))&&(decide ((a0.f.2.2.2.1.length:Int)=0))) then some (10) else(if 64<(a0.f.2.2.2.1.length:Int) then some (3) else some (0)))) else some (a.1))
def Ju(a0:Qv):Int->Option ((Int) ⊕ (Int)):=fun a=>
 if a<(a0.f.2.1.length:Int) then AN (0<=a/\a<(a0.f.2.1.length:Int)) (Qq4 (Ob (a0.f.2.1.getD a.toNat Qq2)) (fun b=>if b.1=0 then AN (Bz (a+1)) (some (Sum.inl (a+1))) else Qq7 Sum.inr (some (b.1)))) else Qq7 Sum.inr ((Mg a0))
def Ox(a0:Qv)(s:Int):Option Int:=Go.L.run (Ju a0) s
def FM(a0:Qv):Option Int:=
 (Ox a0) (0:Int)
def HX(a0:Qv):Int->Option ((Int) ⊕ (Int)):=fun a=>
 if((decide (a<(a0.f.2.2.2.2.2.2.length:Int)))&&(decide (a0.f.1<10))) then AN (0<=a/\a<(a0.f.2.2.2.2.2.2.length:Int)) (if(a0.f.2.2.2.2.2.2.getD a.toNat Qq2).f.1=a0.f.1 then Qq7 Sum.inr (some (6)) else AN (Bz (a+1)) (some (Sum.inl (a+1)))) else Qq7 Sum.inr ((FM a0))
def Oy(a0:Qv)(s:Int):Option Int:=Go.L.run (HX a0) s
def Mh(a0:Qv):Option Int:=
 (Oy a0) (0:Int)
def Od(a0:Qv):Option Int:=
 if 1<=a0.f.1/\a0.f.1<=10 then AN (0<=a0.f.1/\a0.f.1<11) (AN (0<=a0.f.1/\a0.f.1<11) (if(((!decide ((([0,1,2,2,0,0,0,0,0,0,0]:List Int).getD a0.f.1.toNat Qq2)<=(a0.f.2.1.length:Int)/\(a0.f.2.1.length:Int)<=(([0,1,16,2,0,0,0,0,0,0,0]:List Int).getD a0.f.1.toNat Qq2)))||((!decide (5<=a0.f.1/\a0.f.1<=7))&&(!decide (a0.f.2.2.1=([]:AaV)))))||(((!decide (a0.f.1=4))&&(!decide (a0.f.1=7)))&&(decide (0<(a0.f.2.2.2.1.length:Int))))) then some (6) else(if((((!decide (a0.f.1=3))&&(!decide (a0.f.1=6)))&&(!decide (a0.f.2.2.2.2.1=0)))||((!decide (a0.f.1=6))&&(!decide (a0.f.2.2.2.2.2.1=0)))) then some (6) else(if(((decide (a0.f.1<8))&&(decide (0<(a0.f.2.2.2.2.2.2.length:Int))))||((decide (a0.f.1=10))&&(!decide ((a0.f.2.2.2.2.2.2.length:Int)=1)))) then some (6) else if((decide (8<=a0.f.1/\a0.f.1<=9))&&(decide ((a0.f.2.2.2.2.2.2.length:Int)<2))) then some (6) else(Mh a0))))) else some (5)
def PJ(a:Int):Option Aki:=
 some (a,(0,0))
def Jd(a0:Qv)(a2:Int)(self:Qv->Int->Int->Option Aki):Int×Int->Option ((Int×Int) ⊕ Aki):=fun⟨b,a⟩=>
 if a<(a0.f.2.2.2.2.2.2.length:Int) then AN (0<=a/\a<(a0.f.2.2.2.2.2.2.length:Int)) (AN (Bz (a2+1)) (Qq4 (self (a0.f.2.2.2.2.2.2.getD a.toNat Qq2) b (a2+1)) (fun c=>if c.2.1=0 then AN (Bz (a+1)) (some (Sum.inl (c.1,(a+1)))) else Qq7 Sum.inr (some (0,(c.2.1,c.2.2)))))) else Qq7 Sum.inr (PJ b)
def PK(a0:Qv)(a2:Int)(self:Qv->Int->Int->Option Aki)(s:Int×Int):Option Aki:=Go.L.run (Jd a0 a2 self) s
def KA(self:Qv->Int->Int->Option Aki)(a0:Qv)(a1 a2:Int):Option Aki:=
 if(40<=a1)\/(8<a2) then Qq4 (LO (2:Int) a1) (fun b=>some (0,(b.1,b.2))) else Qq4 (Od a0) (fun c=>if c=0 then AN (Bz (a1+1)) ((PK a0 a2 self) ((a1+1),0)) else Qq4 (LO c a1) (fun a=>some (0,(a.1,a.2))))
def K3:Nat->Qv->Int->Int->Option Aki
 | 0=>fun _ _ _=>none
 | n+1=>KA (K3 n)
def Lj(c:AaV)(a b:Int):Option ((AaV×Int) ⊕ (AaV)):=
 AN (Bz (48+b)) (AN (Go.E.HK 1 (([(Go.L.u8 (48+b))]).length+c.length)) (AN (-9223372036854775808<=a/\a<=9223372036854775807/\0<(10:Int)) (some (Sum.inl (([(Go.L.u8 (48+b))]++c),(Int.tdiv a (10:Int)))))))
def Qb(a0:Int)(a:AaV):Option AaV:=
 if a0<0 then AN (Go.E.HK 1 (([(45:UInt8)]).length+a.length)) (some (([(45:UInt8)]++a))) else some a
def HJ(a0:Int):AaV×Int->Option ((AaV×Int) ⊕ (AaV)):=fun⟨b,a⟩=>
 if a=0 then Qq7 Sum.inr ((Qb a0) b) else AN (-9223372036854775808<=a/\a<=9223372036854775807/\0<(10:Int)) (if(Int.tmod a (10:Int))<0 then AN (Bz (-(Int.tmod a (10:Int)))) ((Lj b a) (-(Int.tmod a (10:Int)))) else(Lj b a) (Int.tmod a (10:Int)))
def Qc(a0:Int)(s:AaV×Int):Option AaV:=Go.L.run (HJ a0) s
def Mj(a0:Int):Option AaV:=
 if a0=0 then some (([48]:AaV)) else(Qc a0) (([]:AaV),a0)
def Kk(a0:AaV)(b:AaV)(a:Int)(c:Bool):Option ((AaV×Int) ⊕ (AaV)):=
 if c then AN (0<=a/\a<(a0.length:Int)) (AN (Go.E.HK 1 (b.length+([a0.getD a.toNat Qq2]).length)) (AN (Bz (a+1)) (some (Sum.inl ((b++[a0.getD a.toNat Qq2]),(a+1)))))) else AN (0<=a/\a<(a0.length:Int)) (AN (0<=((a0.getD a.toNat Qq2).toNat:Int)/\((a0.getD a.toNat Qq2).toNat:Int)<=9223372036854775807/\0<(16:Int)) (Qq4 (KM (((a0.getD a.toNat Qq2).toNat:Int) / (16:Int))) (fun d=>AN (0<=a/\a<(a0.length:Int)) (AN (0<=((a0.getD a.toNat Qq2).toNat:Int)/\((a0.getD a.toNat Qq2).toNat:Int)<=9223372036854775807/\0<(16:Int)) (Qq4 (KM (((a0.getD a.toNat Qq2).toNat:Int) % (16:Int))) (fun e=>AN (Go.E.HK 1 (b.length+([(92:UInt8),d,e]).length)) (AN (Bz (a+1)) (some (Sum.inl ((b++[(92:UInt8),d,e]),(a+1)))))))))))
def QM(a:AaV):Option AaV:=
 AN (Go.E.HK 1 (a.length+([(39:UInt8)]).length)) (some ((a++[(39:UInt8)])))
def J6(a0:AaV):AaV×Int->Option ((AaV×Int) ⊕ (AaV)):=fun⟨b,a⟩=>
 if a<(a0.length:Int) then AN (0<=a/\a<(a0.length:Int)) (if 32<=((a0.getD a.toNat Qq2).toNat:Int)/\((a0.getD a.toNat Qq2).toNat:Int)<=126 then AN (0<=a/\a<(a0.length:Int)) (if((a0.getD a.toNat Qq2).toNat:Int)=39 then(Kk a0 b a) false else AN (0<=a/\a<(a0.length:Int)) ((Kk a0 b a) (!decide (((a0.getD a.toNat Qq2).toNat:Int)=92)))) else(Kk a0 b a) false) else Qq7 Sum.inr (QM b)
def QN(a0:AaV)(s:AaV×Int):Option AaV:=Go.L.run (J6 a0) s
def O0(a0:AaV):Option AaV:=
 (QN a0) ([(39:UInt8)],0)
def FN:Option Bool:=
 some true
def DS(a0:Qv)(a1:Qv)(self:Qv->Qv->Option Bool):Int->Option ((Int) ⊕ (Bool)):=fun a=>
 if a<(a0.f.2.2.2.2.2.2.length:Int) then AN (0<=a/\a<(a0.f.2.2.2.2.2.2.length:Int)) (AN (0<=a/\a<(a1.f.2.2.2.2.2.2.length:Int)) (Qq4 (self (a0.f.2.2.2.2.2.2.getD a.toNat Qq2) (a1.f.2.2.2.2.2.2.getD a.toNat Qq2)) (fun b=>if !b then Qq7 Sum.inr (some false) else AN (Bz (a+1)) (some (Sum.inl (a+1)))))) else Qq7 Sum.inr FN
def Jv(a0:Qv)(a1:Qv)(self:Qv->Qv->Option Bool)(s:Int):Option Bool:=Go.L.run (DS a0 a1 self) s
def H6(a0:Qv)(a1:Qv)(self:Qv->Qv->Option Bool):Option Bool:=
 (Jv a0 a1 self) (0:Int)
def E2(self:Qv->Qv->Option Bool)(a0:Qv)(a1:Qv):Option Bool:=
 if((((!decide (a0.f.1=a1.f.1))||(!decide (a0.f.2.2.1=a1.f.2.2.1)))||(!decide (a0.f.2.2.2.2.1=a1.f.2.2.2.2.1)))||(!decide (a0.f.2.2.2.2.2.1=a1.f.2.2.2.2.2.1))) then some false else Qq4 (IS a0.f.2.2.2.1 a1.f.2.2.2.1) (fun a=>if !a then some false else Qq4 (M8 a0.f.2.1 a1.f.2.1) (fun b=>if((!b)||(!decide ((a0.f.2.2.2.2.2.2.length:Int)=(a1.f.2.2.2.2.2.2.length:Int)))) then some false else(H6 a0 a1 self)))
def Je(self:Qv->Qv->Option Bool):Prop:=∀ (w:World) (H:PH) (hH:Le H (hp w)) {a0:Qv} {a1:Qv} {a:Value} {b:Value} {c:Value} {d:Value} {e:Value} {g:Value} (i:AJ .st H a (a0.f.2.1)) (j:AJ .byte H b (a0.f.2.2.2.1)) (k:AJ .Bu H c (a0.f.2.2.2.2.2.2)) (l:AJ .st H d (a1.f.2.1)) (m:AJ .byte H e (a1.f.2.2.2.1)) (n:AJ .Bu H g (a1.f.2.2.2.2.2.2)) {r:Bool} (h:self a0 a1=some r),Ok prog 17 [.agg #[No a0.f.1,a,AaM a0.f.2.2.1,b,No a0.f.2.2.2.2.1,No a0.f.2.2.2.2.2.1,c],.agg #[No a1.f.1,d,AaM a1.f.2.2.1,e,No a1.f.2.2.2.2.1,No a1.f.2.2.2.2.2.1,g]] w (fun v w'=>Ext w w'/\v=.bool r)
def G2:Nat->Qv->Qv->Option Bool
 | 0=>fun _ _=>none
 | n+1=>E2 (G2 n)
def EM:Qv->Qv->Option Bool:=G2 1000
theorem PL(self:Qv->Qv->Option Bool)(hself:Je self):Je (E2 self):=by
 intro w H hH a0 a1 o p u v x y a2 a3 ac a4 a5 ah r h;unfold Je at hself;refine A1 76 [(0,.agg #[No a0.f.1,o,AaM a0.f.2.2.1,p,No a0.f.2.2.2.2.1,No a0.f.2.2.2.2.2.1,u]),(1,.agg #[No a1.f.1,v,AaM a1.f.2.2.1,x,No a1.f.2.2.2.2.1,No a1.f.2.2.2.2.2.1,y])] func17 Z fun hL=>Aj<|CD (t:=26) Z Z hL fun w1 b1 bc bh _=>CD (t:=26) Z Z bc fun w2 b2 k bi _=>A8 1 Z<|B2 Unit (fun(_:Unit)=>[(2,(Aad b1)),(3,(Aad b2))]) (fun(_:Unit) wr=>Bb w [.box b2 [No a1.f.1,v,AaM a1.f.2.2.1,x,No a1.f.2.2.2.2.1,No a1.f.2.2.2.2.2.1,y] 26,.box b1 [No a0.f.1,o,AaM a0.f.2.2.1,p,No a0.f.2.2.2.2.1,No a0.f.2.2.2.2.2.1,u] 26] wr/\(H6 a0 a1 self)=some r) ?_ ?_
 ·refine Aj<|Ai (Ae Z Aj3 Z CR.e)<|Ai (Ag 1 Z k Z)<|Ai (Ae Z Aj3 Z CR.e)<|Ai (Ag 0 Z k Z)<|Ar 2 Z<|OU 6 17 (.bool ((!decide (a0.f.1=a1.f.1))||(!decide (a0.f.2.2.1=a1.f.2.2.1)))) (fun ak=>?_) ?_
  ·refine IG (s:=11) Z (fun c=>?_) (fun c=>?_)
   ·iterate 5 refine Ao c ?_
    refine Ai (AK c Z)<|ak.to 5 (Wq c) Z Z
   refine Ab c<|Ai (Ae Z Aj3 Z HO.e)<|Ab c<|Ai (Ag 1 Z k Z)<|Ab c<|Ai (Ae Z Aj3 Z HO.e)<|Ab c<|Ai (Ag 0 Z k Z)<|Ab c<|Ai (Ss Z Z)<|Ai (AO c Z)<|ak.to 5 (Wr c) Z Z
  refine Ar 1 Z<|OU 6 24 (.bool (((!decide (a0.f.1=a1.f.1))||(!decide (a0.f.2.2.1=a1.f.2.2.1)))||(!decide (a0.f.2.2.2.2.1=a1.f.2.2.2.2.1)))) (fun al=>?_) ?_
  ·refine IG (s:=18) Z (fun d=>?_) (fun d=>?_)
   ·iterate 5 refine Ao d ?_
    refine Ai (AK d Z)<|al.to 5 (Wq d) Z Z
   refine Ab d<|Ai (Ae Z Aj3 Z CR.e)<|Ab d<|Ai (Ag 1 Z k Z)<|Ab d<|Ai (Ae Z Aj3 Z CR.e)<|Ab d<|Ai (Ag 0 Z k Z)<|Ab d<|Ai (Am Z)<|Ai (AO d Z)<|al.to 5 (Wr d) Z Z
  refine Ar 1 Z<|OU 6 31 (.bool ((((!decide (a0.f.1=a1.f.1))||(!decide (a0.f.2.2.1=a1.f.2.2.1)))||(!decide (a0.f.2.2.2.2.1=a1.f.2.2.2.2.1)))||(!decide (a0.f.2.2.2.2.2.1=a1.f.2.2.2.2.2.1)))) (fun am=>?_) ?_
  ·refine IG (s:=25) Z (fun e=>?_) (fun e=>?_)
   ·iterate 5 refine Ao e ?_
    refine Ai (AK e Z)<|am.to 5 (Wq e) Z Z
   refine Ab e<|Ai (Ae Z Aj3 Z CR.e)<|Ab e<|Ai (Ag 1 Z k Z)<|Ab e<|Ai (Ae Z Aj3 Z CR.e)<|Ab e<|Ai (Ag 0 Z k Z)<|Ab e<|Ai (Am Z)<|Ai (AO e Z)<|am.to 5 (Wr e) Z Z
  refine Ar 1 Z<|Fs 32 h ?_ ?_<;>intro i h
  ·iterate 6 refine Ao i ?_
   refine Ai (AK i Z)<|Ar 1 Z ?_
   iterate 6 refine Ao Z ?_
   refine Ai (AK Z Z)<|Ar 1 Z ?_
   iterate 7 refine Ao Z ?_
   refine Ai (AK Z Z)<|Ad<|Fq<|AI 1 Z<|Ay<|Bs ?_
   cases h
   refine Al Z ⟨k.ext,Z⟩
  refine Ab i<|Ai (Ae Z Aj3 Z IF.e)<|Ab i<|Ai (Ag 1 Z k Z)<|Ab i<|Ai (Ae Z Aj3 Z IF.e)<|Ab i<|Ai (Ag 0 Z k Z)<|Ab i<|Aw h fun bs a6 h=>AD k (Oq _ _ (An k) (a3.mono  Ah) (a5.mono  Ah) a6) fun bt bj m be=>Ab i<|Ai (Am Z)<|Ai (AO i Z)<|Ar 1 Z<|Fs 40 h ?_ ?_<;>intro j h
  ·iterate 6 refine Ao j ?_
   refine Ai (AK j Z)<|Ar 1 Z ?_
   iterate 7 refine Ao Z ?_
   refine Ai (AK Z Z)<|Ad<|Fq<|AI 1 Z<|Ay<|Bs ?_
   cases h
   refine Al Z ⟨m.ext,Z⟩
  refine Ab j<|Ai (Ae Z Aj3 Z Nq.e)<|Ab j<|Ai (Ag 1 Z m Z)<|Ab j<|Ai (Ae Z Aj3 Z Nq.e)<|Ab j<|Ai (Ag 0 Z m Z)<|Ab j<|Aw h fun bd a7 h=>AD m (Wx _ _ (An m) (a2.mono  Ah) (a4.mono  Ah) a7) fun bu bk z bf=>Ab j<|Ai (Am Z)<|Ai (AO j Z)<|Ar 1 Z<|OU 8 56 (.bool ((!bd)||(!decide ((a0.f.2.2.2.2.2.2.length:Int)=(a1.f.2.2.2.2.2.2.length:Int))))) (fun an=>?_) ?_
  ·refine IG (s:=48) Z (fun b=>?_) (fun b=>?_)
   ·iterate 7 refine Ao b ?_
    refine Ai (AK b Z)<|an.to 7 (Wq b) Z Z
   refine Ab b<|Ai (Ae Z Aj3 Z JP.e)<|Ab b<|Ai (Ag 1 Z z Z)<|Ab b<|Ai (Bm ac)<|Ab b<|Ai (Ae Z Aj3 Z JP.e)<|Ab b<|Ai (Ag 0 Z z Z)<|Ab b<|Ai (Bm ah)<|Ab b<|Ai (Am Z)<|Ai (AO b Z)<|an.to 7 (Wr b) Z Z
  refine Ad<|B8 h ?_ ?_<;>intro a8 h
  ·refine AI 1 Z<|Ay<|Bs ?_
   cases h
   refine Al Z ⟨z.ext,Z⟩
  refine Ax<|AA () ⟨z,h⟩
 rintro _ bl ⟨a9,h⟩;refine B2 Unit (fun(_:Unit)=>[]) (fun(_:Unit) wr=>Bb w [.box b2 [No a1.f.1,v,AaM a1.f.2.2.1,x,No a1.f.2.2.2.2.1,No a1.f.2.2.2.2.2.1,y] 26,.box b1 [No a0.f.1,o,AaM a0.f.2.2.1,p,No a0.f.2.2.2.2.1,No a0.f.2.2.2.2.2.1,u] 26] wr/\FN=some r) ?_ ?_
 ·refine AI 1 Z<|A4 ?_;obtain⟨ad,h⟩:=Ba h;refine B7 (Int×Nat) (fun⟨g,n⟩=>[(2,(Aad b1)),(3,(Aad b2)),(5,No g)]) (fun⟨g,n⟩ wr=>Bb w [.box b2 [No a1.f.1,v,AaM a1.f.2.2.1,x,No a1.f.2.2.2.2.1,No a1.f.2.2.2.2.2.1,y] 26,.box b1 [No a0.f.1,o,AaM a0.f.2.2.1,p,No a0.f.2.2.2.2.1,No a0.f.2.2.2.2.2.1,u] 26] wr/\Ia (DS a0 a1 self) n g=some r) (fun⟨g,n⟩=>n) (0,ad) Z ⟨a9,h⟩ ?_;rintro⟨g,nn100⟩ bg ⟨aa,h⟩;obtain⟨ad,bm,rfl,h,ab⟩:=AZ h;refine AB<|Bx 1 Z<|Ai (Ae Z Aj3 Z JP.e)<|Ai (Ag 1 Z aa Z)<|Ai (Bm ac)<|A8 1 Z<|AQ h ?_ ?_<;>intro aq h
  ·refine Ax<|As<|AB<|A4<|Ex (Qqz 0 12 (.tail 12)) mixed Qqb (fun ba ar=>?_);have a:=aa.call ar;refine CB Z (Ae Z Aj3 Z JP.e) Z<|CB Z (Ag 1 Z a Z) Z<|D4 1 Z<|A2 h fun ae h=>HZ Z Z Z AjP ac g.toNat (GX ae) (AX ae) Z ?_;rintro bn _ e106t0 au;obtain⟨_,_,rfl,rfl,⟨_,_,rfl,⟨e106v1,rfl,e106h1⟩,⟨_,_,rfl,rfl,⟨_,_,rfl,⟨e106v3,rfl,e106h3⟩,⟨_,_,rfl,rfl,⟨_,_,rfl,rfl,⟨e106v6,rfl,e106h6⟩⟩⟩⟩⟩⟩⟩:=Go.E.Rp.HQ e106t0;refine CB Z (Cz au (hH.trans a.arg)) Z<|CB Z (Ae Z Aj3 Z JP.e) Z<|CB Z (Ag 0 Z a Z) Z<|D4 1 Z<|A2 h fun af h=>HZ Z Z Z AjP ah g.toNat (GX af) (AX af) Z ?_;rintro bo _ e108t0 av;obtain⟨_,_,rfl,rfl,⟨_,_,rfl,⟨e108v1,rfl,e108h1⟩,⟨_,_,rfl,rfl,⟨_,_,rfl,⟨e108v3,rfl,e108h3⟩,⟨_,_,rfl,rfl,⟨_,_,rfl,rfl,⟨e108v6,rfl,e108h6⟩⟩⟩⟩⟩⟩⟩:=Go.E.Rp.HQ e108t0;refine CB Z (Cz av (hH.trans a.arg)) Z<|Aw h fun bp aw h=>?_
   have ao:=(fun(ap:World) (l:Ext ba ap)=>hself ap _ (Le.refl _) ((e106h1.mono (hH.trans a.arg)).mono l.le) ((e106h3.mono (hH.trans a.arg)).mono l.le) ((e106h6.mono (hH.trans a.arg)).mono l.le) ((e108h1.mono (hH.trans a.arg)).mono l.le) ((e108h3.mono (hH.trans a.arg)).mono l.le) ((e108h6.mono (hH.trans a.arg)).mono l.le) aw);refine JN Z Z Z ao<|D4 1 Z<|BT (fun bq ax=>?_);have ag:=a.call ax;refine Ad<|B8 h ?_ ?_<;>intro ay h
   ·refine AI 1 Z<|Ay<|Av<|Aq<|BJ ?_;have h:=Cf.out h ab;refine Av<|Bs ?_
    cases h
    refine Al Z ⟨ag.ext,Z⟩
   refine Ax<|A3<|As<|Au<|Ar 1 Z<|A2 h fun az h=>Ai (A7 az)<|Ar 1 Z<|AL ?_;have h:=Cf.again h ab;refine AM (_,_) Z ⟨ag,h⟩
  refine B4<|AF<|A5 ?_;have h:=Cf.out h ab;refine Bg<|AA () ⟨aa,h⟩
 rintro _ br ⟨bb,h⟩;refine AI 1 Z<|Ay ?_
 cases h
 refine Al Z ⟨bb.ext,Z⟩
theorem R2(n:Nat):Je (G2 n):=by
 induction n with
 | zero=>unfold Je;intros;rename_i h;cases h
 | succ n ih=>exact PL (G2 n) ih
section
variable(w:World)(H:PH)(hH:Le H (hp w)) include hH
theorem JH(a0 a1:Qv){a b c d e g:Value}(i:AJ .st H a (a0.f.2.1))(j:AJ .byte H b (a0.f.2.2.2.1))(k:AJ .Bu H c (a0.f.2.2.2.2.2.2))(l:AJ .st H d (a1.f.2.1))(m:AJ .byte H e (a1.f.2.2.2.1))(n:AJ .Bu H g (a1.f.2.2.2.2.2.2)){r:Bool}(h:EM a0 a1=some r):Ok prog 17 [.agg #[No a0.f.1,a,AaM a0.f.2.2.1,b,No a0.f.2.2.2.2.1,No a0.f.2.2.2.2.2.1,c],.agg #[No a1.f.1,d,AaM a1.f.2.2.1,e,No a1.f.2.2.2.2.1,No a1.f.2.2.2.2.2.1,g]] w (fun v w'=>Ext w w'/\v=.bool r):=R2 1000 w H hH i j k l m n h
end
def R3(a:Int)(b:List Qv):Option (Qv):=
 some ((Qv.mk a ([]) ([]:AaV) ([]) (0:Int) (0:Int) b))
def Kl(a0:Qv)(a1:Bool)(d:Int)(self:Qv->Bool->Option (Qv)):(List Qv)×Int->Option (((List Qv)×Int) ⊕ (Qv)):=fun⟨b,a⟩=>
 if a<(a0.f.2.2.2.2.2.2.length:Int) then AN (0<=a/\a<(a0.f.2.2.2.2.2.2.length:Int)) (Qq4 (self (a0.f.2.2.2.2.2.2.getD a.toNat Qq2) a1) (fun c=>if c.f.1=d then AN (Go.E.HK 112 (b.length+c.f.2.2.2.2.2.2.length)) (AN (Bz (a+1)) (some (Sum.inl ((b++c.f.2.2.2.2.2.2),(a+1))))) else AN (Go.E.HK 112 (b.length+([c]).length)) (AN (Bz (a+1)) (some (Sum.inl ((b++[c]),(a+1))))))) else Qq7 Sum.inr ((R3 d) b)
def R4(a0:Qv)(a1:Bool)(a:Int)(self:Qv->Bool->Option (Qv))(s:(List Qv)×Int):Option (Qv):=Go.L.run (Kl a0 a1 a self) s
def KB(a0:Qv)(a1:Bool)(self:Qv->Bool->Option (Qv))(a:Int):Option (Qv):=
 (R4 a0 a1 a self) (([]:List Qv),0)
def G3(self:Qv->Bool->Option (Qv))(a0:Qv)(a1:Bool):Option (Qv):=
 if a0.f.1=10 then AN (0<=(0:Int)/\(0:Int)<(a0.f.2.2.2.2.2.2.length:Int)) (Qq4 (self (a0.f.2.2.2.2.2.2.getD ((0:Int).toNat) Qq2) (!a1)) (fun a=>some a)) else(if a0.f.1<8 then(if a1 then some ((Qv.mk (10:Int) ([]) ([]:AaV) ([]) (0:Int) (0:Int) ([a0]))) else some a0) else(if a1 then AN (Bz (17 - a0.f.1)) ((KB a0 a1 self) (17 - a0.f.1)) else(KB a0 a1 self) a0.f.1))
def OG:Nat->Qv->Bool->Option (Qv)
 | 0=>fun _ _=>none
 | n+1=>G3 (OG n)
def Ml(a:AaV):Option AaV:=
 AN (([(34:UInt8)]).length+a.length<=9223372036854775807) (AN (([(34:UInt8)]++a).length+([(34:UInt8)]).length<=9223372036854775807) (some ((([(34:UInt8)]++a)++[(34:UInt8)]))))
def Fj(a0:Qv):AaV×Int->Option ((AaV×Int) ⊕ (AaV)):=fun⟨b,a⟩=>
 if a<(a0.f.2.1.length:Int) then AN (b.length+([32]:AaV).length<=9223372036854775807) (AN (0<=a/\a<(a0.f.2.1.length:Int)) (AN ((b++([32]:AaV)).length+(a0.f.2.1.getD a.toNat Qq2).length<=9223372036854775807) (AN (Bz (a+1)) (some (Sum.inl (((b++([32]:AaV))++a0.f.2.1.getD a.toNat Qq2),(a+1))))))) else Qq7 Sum.inr (Ml b)
def Jw(a0:Qv)(s:AaV×Int):Option AaV:=Go.L.run (Fj a0) s
def Mm(a0:Qv)(self2:(List Qv)->AaV->Int->Int->Option AaV):Option AaV:=
 Qq4 (self2 a0.f.2.2.2.2.2.2 ([]:AaV) (8:Int) (9:Int)) (fun a=>AN (([33]:AaV).length+a.length<=9223372036854775807) (some ((([33]:AaV)++a))))
def KC(_self1:Qv->Option AaV)(self2:(List Qv)->AaV->Int->Int->Option AaV)(a0:Qv):Option AaV:=
 if a0.f.1=1 then AN (0<=(0:Int)/\(0:Int)<(a0.f.2.1.length:Int)) (some (a0.f.2.1.getD ((0:Int).toNat) Qq2)) else(if a0.f.1=2 then AN (0<=(0:Int)/\(0:Int)<(a0.f.2.1.length:Int)) ((Jw a0) (a0.f.2.1.getD ((0:Int).toNat) Qq2,1)) else(if a0.f.1=3 then AN (0<=(0:Int)/\(0:Int)<(a0.f.2.1.length:Int)) (AN ((a0.f.2.1.getD ((0:Int).toNat) Qq2).length+([126]:AaV).length<=9223372036854775807) (Qq4 (Mj a0.f.2.2.2.2.1) (fun a=>AN ((a0.f.2.1.getD ((0:Int).toNat) Qq2++([126]:AaV)).length+a.length<=9223372036854775807) (AN (((a0.f.2.1.getD ((0:Int).toNat) Qq2++([126]:AaV))++a).length+([126]:AaV).length<=9223372036854775807) (AN (0<=(1:Int)/\(1:Int)<(a0.f.2.1.length:Int)) (AN ((((a0.f.2.1.getD ((0:Int).toNat) Qq2++([126]:AaV))++a)++([126]:AaV)).length+(a0.f.2.1.getD ((1:Int).toNat) Qq2).length<=9223372036854775807) (some (((((a0.f.2.1.getD ((0:Int).toNat) Qq2++([126]:AaV))++a)++([126]:AaV))++a0.f.2.1.getD ((1:Int).toNat) Qq2))))))))) else(if a0.f.1=4 then Qq4 (O0 a0.f.2.2.2.1) (fun e=>some e) else(if a0.f.1=5 then AN (([47]:AaV).length+a0.f.2.2.1.length<=9223372036854775807) (some ((([47]:AaV)++a0.f.2.2.1))) else(if a0.f.1=6 then AN (([47]:AaV).length+a0.f.2.2.1.length<=9223372036854775807) (AN ((([47]:AaV)++a0.f.2.2.1).length+([61]:AaV).length<=9223372036854775807) (Qq4 (Mj a0.f.2.2.2.2.1) (fun b=>AN (((([47]:AaV)++a0.f.2.2.1)++([61]:AaV)).length+b.length<=9223372036854775807) (AN ((((([47]:AaV)++a0.f.2.2.1)++([61]:AaV))++b).length+([46,46]:AaV).length<=9223372036854775807) (Qq4 (Mj a0.f.2.2.2.2.2.1) (fun c=>AN (((((([47]:AaV)++a0.f.2.2.1)++([61]:AaV))++b)++([46,46]:AaV)).length+c.length<=9223372036854775807) (some ((((((([47]:AaV)++a0.f.2.2.1)++([61]:AaV))++b)++([46,46]:AaV))++c))))))))) else(if a0.f.1=7 then AN (([47]:AaV).length+a0.f.2.2.1.length<=9223372036854775807) (AN ((([47]:AaV)++a0.f.2.2.1).length+([61]:AaV).length<=9223372036854775807) (Qq4 (O0 a0.f.2.2.2.1) (fun d=>AN (((([47]:AaV)++a0.f.2.2.1)++([61]:AaV)).length+d.length<=9223372036854775807) (some ((((([47]:AaV)++a0.f.2.2.1)++([61]:AaV))++d)))))) else(if a0.f.1=8 then Qq4 (self2 a0.f.2.2.2.2.2.2 ([38]:AaV) (9:Int) (0:Int)) (fun g=>some g) else(if a0.f.1=9 then Qq4 (self2 a0.f.2.2.2.2.2.2 ([124]:AaV) (0:Int) (0:Int)) (fun h=>some h) else(Mm a0 self2)))))))))
def I4(a0:List Qv)(a:Int)(b:AaV)(self1:Qv->Option AaV)(d:Bool):Option ((AaV×Int) ⊕ (AaV)):=
 if d then AN (b.length+([40]:AaV).length<=9223372036854775807) (AN (0<=a/\a<(a0.length:Int)) (Qq4 (self1 (a0.getD a.toNat Qq2)) (fun c=>AN ((b++([40]:AaV)).length+c.length<=9223372036854775807) (AN (((b++([40]:AaV))++c).length+([41]:AaV).length<=9223372036854775807) (AN (Bz (a+1)) (some (Sum.inl ((((b++([40]:AaV))++c)++([41]:AaV)),(a+1))))))))) else AN (0<=a/\a<(a0.length:Int)) (Qq4 (self1 (a0.getD a.toNat Qq2)) (fun e=>AN (b.length+e.length<=9223372036854775807) (AN (Bz (a+1)) (some (Sum.inl ((b++e),(a+1)))))))
def I5(a0:List Qv)(a2 a3 a:Int)(self1:Qv->Option AaV)(b:AaV):Option ((AaV×Int) ⊕ (AaV)):=
 AN (0<=a/\a<(a0.length:Int)) (if(a0.getD a.toNat Qq2).f.1=a2 then(I4 a0 a b self1) true else AN (0<=a/\a<(a0.length:Int)) ((I4 a0 a b self1) (decide ((a0.getD a.toNat Qq2).f.1=a3))))
def Km(a:AaV):Option AaV:=
 some a
def Db(a0:List Qv)(a1:AaV)(a2 a3:Int)(self1:Qv->Option AaV):AaV×Int->Option ((AaV×Int) ⊕ (AaV)):=fun⟨b,a⟩=>
 if a<(a0.length:Int) then(if 0<a then AN (b.length+a1.length<=9223372036854775807) ((I5 a0 a2 a3 a self1) (b++a1)) else(I5 a0 a2 a3 a self1) b) else Qq7 Sum.inr (Km b)
def Nj(a0:List Qv)(a1:AaV)(a2 a3:Int)(self1:Qv->Option AaV)(s:AaV×Int):Option AaV:=Go.L.run (Db a0 a1 a2 a3 self1) s
def Mn(self1:Qv->Option AaV)(_self2:(List Qv)->AaV->Int->Int->Option AaV)(a0:List Qv)(a1:AaV)(a2 a3:Int):Option AaV:=
 (Nj a0 a1 a2 a3 self1) (([]:AaV),0)
def D3:Nat->(Qv->Option AaV)×((List Qv)->AaV->Int->Int->Option AaV)
 | 0=>(fun _=>none,fun _ _ _ _=>none)
 | n+1=>(KC ((D3 n).1) ((D3 n).2),Mn ((D3 n).1) ((D3 n).2))
end Go.Proofs.YtekmbcbgknmhiaaGreatDoor
end
noncomputable section
namespace Go.L
open Go
def Smq(B:Nat):Nat->Qv->Prop
 | 0,_=>True
 | d+1,q=>q.f.2.1.length<=B/\q.f.2.2.1.length<=B/\q.f.2.2.2.1.length<=B/\q.f.2.2.2.2.2.2.length<=B/\(∀ x∈q.f.2.1,x.length<=B)/\Bz q.f.2.2.2.2.1/\Bz q.f.2.2.2.2.2.1/\∀ p∈q.f.2.2.2.2.2.2,Smq B d p
end Go.L
namespace Go.Proofs.YtekmbcbgknmhiaaGreatDoor
open Go Go.L
def ZU:List (List UInt8)->Int
 | []=>0
 | w::l=>if(wf w).1=0 then ZU l else(wf w).1
theorem Ajb{w:List UInt8}(h:(wf w).1=0):wf w=(0,0):=by
 unfold wf at h ⊢
 split at h
 ·cases h
 ·rename_i a;rw [if_neg a]
  split at h
  ·rename_i b;rw [if_pos b]
  ·cases h
theorem Ajc{w:List UInt8}(h:(pf w).1=0):pf w=(0,0):=by
 unfold pf at h ⊢
 split at h
 ·cases h
 ·rename_i a;rw [if_neg a]
  split at h
  ·cases h
  ·rename_i b;rw [if_neg b]
theorem Qf(k:Int)(ws:List (List UInt8))(p d:List UInt8)(l h:Int)(ss:List Qv):(Qv.mk k ws p d l h ss).f=(k,ws,p,d,l,h,ss):=Z
theorem Xd{ws:List (List UInt8)}(hl:ws.length<=1000000000){b:Int->Option (Int ⊕ Int)}{m:Option Int}
  (a:∀ i:Nat,i<ws.length->b (i:Int)=if(wf (ws.getD i Qq2)).1=0 then some (.inl ((i:Int)+1)) else some (.inr (wf (ws.getD i Qq2)).1)) (h2:b (ws.length:Int)=m.map Sum.inr):Go.L.run b 0=if ZU ws=0 then m else some (ZU ws):=by
 have key:∀ (d i:Nat),i+d=ws.length->Go.L.run b (i:Int)=if ZU (ws.drop i)=0 then m else some (ZU (ws.drop i)):=by
  intro d
  induction d with
  | zero=>
   intro i hi;rw [Qz1 U,if_pos (by rfl),show i=ws.length by omega];exact AP h2
  | succ d ih=>
   intro i hi;have hb:=a i U;rw [Qkf U,ZU];have hg:ws.getD i Qq2=ws[i]:=by rw [Qzq,Qzw U];rfl
   rw [hg] at hb
   by_cases hw:(wf ws[i]).1=0
   ·rw [if_pos hw] at hb ⊢;rw [Be hb];exact ih (i+1) U
   ·rw [if_neg hw] at hb ⊢;rw [if_neg hw];exact AP (m:=some _) hb
 exact key ws.length 0 U
def OL(q:Qv):Bool:=q.f.2.2.2.2.2.2.any fun s=>decide (s.f.1=q.f.1)
theorem Aey{l:List Qv}{k:Int}(hl:l.length<=1000000000){σ ρ:Type}{b:σ->Option (σ ⊕ ρ)}{st:Nat->σ}{m y:Option ρ}
  (a:∀ i:Nat,i<l.length->b (st i)=if(l.getD i Qq2).f.1=k then y.map Sum.inr else some (.inl (st (i+1)))) (h2:b (st l.length)=m.map Sum.inr):Go.L.run b (st 0)=if(l.any fun s=>decide (s.f.1=k)) then y else m:=by
 have key:∀ (d i:Nat),i+d=l.length->Go.L.run b (st i)=if((l.drop i).any fun s=>decide (s.f.1=k)) then y else m:=by
  intro d
  induction d with
  | zero=>
   intro i hi;rw [Qz1 U,if_neg Qqd,show i=l.length by omega];exact AP h2
  | succ d ih=>
   intro i hi;have hb:=a i U;have hg:l.getD i Qq2=l[i]:=by rw [Qzq,Qzw U];rfl
   rw [hg] at hb;rw [Qkf U,Qkj]
   by_cases hw:l[i].f.1=k
   ·rw [if_pos hw] at hb;rw [decide_eq_true hw,Bool.true_or,if_pos Z];exact AP hb
   ·rw [if_neg hw] at hb;rw [Be hb,decide_eq_false hw,Qjj];exact ih (i+1) U
 exact key l.length 0 U
end Go.Proofs.YtekmbcbgknmhiaaGreatDoor
namespace Go.Proofs.YtekmbcbgknmhiaaGreatDoor
open Go Go.L
theorem Ag6{q:Qv}(hl:q.f.2.2.2.2.2.2.length<=1000000000):∃ u,AW q.f.2.2.2.2.2.2 q=some (OL q,u):=by
 unfold AW Cg CA;obtain⟨k,ws,pat,data,low,high,subs⟩:=q;simp only [Qf] at hl ⊢
 have key:∃ r,Go.L.run (Bh subs) (k,ws,pat,data,low,high,subs,0)=some r/\decide (0<=r.1)=OL (.mk k ws pat data low high subs):=by
  have:∀ (d i:Nat),i+d=subs.length->∃ r,Go.L.run (Bh subs) (k,ws,pat,data,low,high,subs,(i:Int))=some r/\decide (0<=r.1)=(subs.drop i).any fun s=>decide (s.f.1=k):=by
   intro d
   induction d with
   | zero=>
    intro i hi;refine⟨(-1,.mk k ws pat data low high subs),AP (m:=some _) ?_,?_⟩
    ·unfold Bh;simp only;rw [if_neg U]
     rfl
    ·rw [Qz1 U]
     rfl
   | succ d ih=>
    intro i hi;have hg:subs.getD i Qq2=subs[i]:=by rw [Qzq,Qzw U];rfl
    rw [Qkf U,Qkj]
    have hb:Bh subs (k,ws,pat,data,low,high,subs,(i:Int))=if subs[i].f.1=k then some (.inr ((i:Int),.mk k ws pat data low high subs)) else some (.inl (k,ws,pat,data,low,high,subs,((i+1:Nat):Int))):=by
     unfold Bh;simp only;rw [if_pos U,Ac ⟨by omega,by omega⟩,Qq8,hg];unfold J2;simp only [Qq5,Qf]
     by_cases hk:subs[i].f.1=k
     ·simp [hk]
     ·simp only [hk,decide_false,QzB,if_false];rw [Ac (by constructor <;> omega)]
      rfl
    by_cases hk:subs[i].f.1=k
    ·rw [if_pos hk] at hb;refine⟨_,AP (m:=some _) hb,?_⟩;rw [decide_eq_true hk,Bool.true_or];exact decide_eq_true U
    ·rw [if_neg hk] at hb;rw [Be hb,decide_eq_false hk,Qjj];exact ih (i+1) U
  exact this subs.length 0 U
 obtain⟨r,a,h2⟩:=key;rw [a,Qq5,h2];exact⟨_,Z⟩
def Frm(q:Qv):Bool:=
 let k:=q.f.1
 let n:=q.f.2.1.length
 let m:=q.f.2.2.2.2.2.2.length
 (if k=1 then decide (n=1) else if k=2 then decide (2<=n/\n<=16) else if k=3 then decide (n=2) else decide (n=0)) &&
 (decide (k=5\/k=6\/k=7)||decide (q.f.2.2.1=[]))&&(decide (k=4\/k=7)||decide (q.f.2.2.2.1=[])) &&
 (decide (k=3\/k=6)||decide (q.f.2.2.2.2.1=0))&&(decide (k=6)||decide (q.f.2.2.2.2.2.1=0)) &&
 (if k=8\/k=9 then decide (2<=m)&&!OL q else if k=10 then decide (m=1) else decide (m=0))
theorem Ac7{q:Qv}(hl:q.f.2.2.2.2.2.2.length<=1000000000)(hk:1<=q.f.1/\q.f.1<=10):JB q=some (Frm q):=by
 obtain⟨u,hc⟩:=Ag6 hl;unfold JB Ct;rw [hc];clear hc;unfold Frm;clear hl;generalize OL q=B;generalize q.f.1=k at hk ⊢;generalize q.f.2.1.length=n;have hd:∀ l:List UInt8,l=[]↔l.length=0:=fun l=>List.length_eq_zero_iff.symm;have hd':([]=q.f.2.2.1)↔q.f.2.2.1.length=0:=by rw [eq_comm,hd]
 generalize q.f.2.2.2.2.1=low;generalize q.f.2.2.2.1=data;generalize q.f.2.2.2.2.2.1=high;generalize q.f.2.2.2.2.2.2.length=m;obtain rfl | rfl | rfl | rfl | rfl | rfl | rfl | rfl | rfl | rfl:k=1\/k=2\/k=3\/k=4\/k=5\/k=6\/k=7\/k=8\/k=9\/k=10:=by omega
 all_goals simp only [QxK,if_true,if_false,hd',decide_true,decide_false,Qk6,Bool.or_true,Qjj,Bool.true_or,Bool.not_true,Qkb,QzB,Qq5,Qze,cond_true,cond_false,or_false,or_true,false_or,true_or,hd,List.nil_eq]
 all_goals (repeat' split)
 all_goals (refine congrArg some (Qz3.2 ?_))
 all_goals clear hd hd'
 all_goals (simp only [Qzb,decide_eq_true_eq,Qxq,QzB,QkX,Bool.not_eq_true,true_iff,false_iff,iff_true,iff_false,Bool.true_eq_false,Int.natCast_eq_zero,and_true,true_and] at *)
 all_goals first | omega | exact⟨fun h=>⟨by omega,by omega,h⟩,fun h=>h.2.2⟩
theorem Rr{q:Qv}(h:Frm q=true):q.f.2.1.length<=16:=by
 unfold Frm at h;simp only [Qzb] at h;have:=h.1.1.1.1.1
 split at this
 ·simp at this;omega
 ·split at this
  ·simp at this;omega
  ·split at this
   ·simp at this;omega
   ·simp at this;simp [this]
def nt(q:Qv):Int:=if(q.f.1=3/\(q.f.2.2.2.2.1<1\/2048<q.f.2.2.2.2.1))\/(q.f.1=6/\q.f.2.2.2.2.2.1<q.f.2.2.2.2.1) then 4 else if q.f.1=4/\q.f.2.2.2.1.length=0 then 10 else if 64<q.f.2.2.2.1.length then 3 else 0
def nf(q:Qv):Int:=if 1<=q.f.1/\q.f.1<=10 then(if Frm q=true then(if ZU q.f.2.1=0 then(if(pf q.f.2.2.1).1=0 then nt q else(pf q.f.2.2.1).1) else ZU q.f.2.1) else 6) else 5
theorem Yd{q:Qv}(hl:q.f.2.2.2.2.2.2.length<=1000000000):HI q=some (nf q):=by
 unfold HI nf
 by_cases hk:1<=q.f.1/\q.f.1<=10
 ·rw [if_neg (by simp;omega),if_pos hk,Ac7 hl hk,Qq5]
  cases hF:Frm q with
  | false=>rfl
  | true=>
   rw [if_neg Qqc,if_pos Z];have hw:=Rr hF;unfold II;rw [Xd (ws:=q.f.2.1) (b:=Eg q) (m:=FU q) U ?A ?B]
   ·by_cases c:ZU q.f.2.1=0
    ·rw [if_pos c,if_pos c];unfold FU;rw [Ro,Qq5]
     by_cases a:(pf q.f.2.2.1).1=0
     ·rw [if_pos (by rw [Ajc a];exact⟨Z,Z⟩),if_pos a];unfold FT nt;clear hl hw hF c a;generalize q.f.1=k at hk ⊢;generalize q.f.2.2.2.1.length=n;generalize q.f.2.2.2.2.1=low;generalize q.f.2.2.2.2.2.1=high;simp only [Qzb,decide_eq_true_eq,Qxq]
      repeat' split
      all_goals first | rfl | (exfalso;omega)
     ·rw [if_neg (fun h=>a h.1),if_neg a]
    ·rw [if_neg c,if_neg c]
   ·intro i hi;unfold Eg;rw [if_pos U,Ac ⟨by omega,by omega⟩,Qq8,Oc,Qq5]
    by_cases a:(wf (q.f.2.1.getD i Qq2)).1=0
    ·rw [if_pos (by rw [Ajb a];exact⟨Z,Z⟩),if_pos a,Ac (by constructor <;> omega)]
    ·rw [if_neg (fun h=>a h.1),if_neg a]
     rfl
   ·unfold Eg;rw [if_neg U]
 ·rw [if_pos (by simp;omega),if_neg hk]
theorem Ye{q:Qv}(hl:q.f.2.2.2.2.2.2.length<=1000000000):Od q=some (nf q):=by
 have e:q.f.2.1.length<=16->FM q=some (if ZU q.f.2.1=0 then(if(pf q.f.2.2.1).1=0 then nt q else(pf q.f.2.2.1).1) else ZU q.f.2.1):=fun hw=>by
  unfold FM Ox;rw [Xd (ws:=q.f.2.1) (b:=Ju q) (m:=Mg q) U ?A ?B]
  ·by_cases d:ZU q.f.2.1=0
   ·rw [if_pos d,if_pos d];unfold Mg;rw [Ac4,Qq5]
    by_cases c:(pf q.f.2.2.1).1=0
    ·rw [if_pos c,if_pos c];unfold nt;clear hl hw d c;generalize q.f.1=k;generalize q.f.2.2.2.1.length=n;generalize q.f.2.2.2.2.1=low;generalize q.f.2.2.2.2.2.1=high;simp only [Qzb,decide_eq_true_eq,Qxq,QkX,decide_eq_false_iff_not]
     repeat' split
     all_goals first | rfl | (exfalso;omega)
    ·rw [if_neg c,if_neg c]
   ·rw [if_neg d,if_neg d]
  ·intro i hi;unfold Ju;rw [if_pos U,Ac ⟨by omega,by omega⟩,Qq8,XX,Qq5]
   by_cases c:(wf (q.f.2.1.getD i Qq2)).1=0
   ·rw [if_pos c,if_pos c,Ac (by constructor <;> omega)]
   ·rw [if_neg c,if_neg c]
    rfl
  ·unfold Ju;rw [if_neg U]
 have g:Mh q=if OL q=true/\q.f.1<10 then some 6 else FM q:=by
  unfold Mh Oy
  by_cases j:q.f.1<10
  ·have:=Aey (k:=q.f.1) hl (b:=HX q) (st:=fun i=>(i:Int)) (m:=FM q) (y:=some 6) (fun i hi=>?_) ?_
   ·unfold OL;simp only [j,and_true];exact this
   ·unfold HX;rw [if_pos (by simp;omega),Ac ⟨by omega,by omega⟩,Qq8,Ac (by constructor <;> omega)]
    rfl
   ·unfold HX;rw [if_neg Qqd]
  ·rw [if_neg (fun h=>j h.2)];refine AP ?_;unfold HX;rw [if_neg (by simp;omega)]
 unfold Od nf
 by_cases hk:1<=q.f.1/\q.f.1<=10
 ·rw [if_pos hk,if_pos hk,Ac ⟨by omega,by omega⟩,Ac ⟨by omega,by omega⟩,g];have hX:Frm q=true->FM q=_:=fun h=>e (Rr h);clear g e hl
  revert hX
  generalize (if ZU q.f.2.1=0 then(if(pf q.f.2.2.1).1=0 then nt q else(pf q.f.2.2.1).1) else ZU q.f.2.1)=r;generalize FM q=X;have hd:∀ l:List UInt8,l=[]↔l.length=0:=fun l=>List.length_eq_zero_iff.symm;unfold Frm
  have hB:OL q=true->0<q.f.2.2.2.2.2.2.length:=fun h=>by
   unfold OL at h
   cases hs:q.f.2.2.2.2.2.2 with
   | nil=>rw [hs] at h;cases h
   | cons a l=>simp
  revert hB
  generalize OL q=B;generalize q.f.1=k at hk ⊢;generalize q.f.2.1.length=n;simp only [hd];generalize q.f.2.2.1.length=pn;generalize q.f.2.2.2.2.1=low;generalize q.f.2.2.2.1.length=dn;generalize q.f.2.2.2.2.2.1=high;generalize q.f.2.2.2.2.2.2.length=m;intro hB hX;obtain rfl | rfl | rfl | rfl | rfl | rfl | rfl | rfl | rfl | rfl:k=1\/k=2\/k=3\/k=4\/k=5\/k=6\/k=7\/k=8\/k=9\/k=10:=by omega
  all_goals (cases B <;> simp at hX hB ⊢ <;> (repeat' split) <;> first | rfl | (exfalso;omega) | (intros;exfalso;omega) | (rw [hX] <;> omega))
 ·rw [if_neg hk,if_neg hk]
end Go.Proofs.YtekmbcbgknmhiaaGreatDoor
end
noncomputable section
namespace Go.Proofs.YtekmbcbgknmhiaaGreatDoor
open Go Go.L
def Sq(q:Qv):Prop:=∀ d,Smq 1048576 d q
theorem Sq.open{q:Qv}(h:Sq q):q.f.2.1.length<=1048576/\q.f.2.2.1.length<=1048576/\q.f.2.2.2.1.length<=1048576/\q.f.2.2.2.2.2.2.length<=1048576/\(∀ x∈q.f.2.1,x.length<=1048576)/\Bz q.f.2.2.2.2.1/\Bz q.f.2.2.2.2.2.1:=
 ⟨(h 1).1,(h 1).2.1,(h 1).2.2.1,(h 1).2.2.2.1,(h 1).2.2.2.2.1,(h 1).2.2.2.2.2.1,(h 1).2.2.2.2.2.2.1⟩
theorem Sq.sub{q:Qv}(h:Sq q){p:Qv}(hp:p∈q.f.2.2.2.2.2.2):Sq p:=fun d=>(h (d+1)).2.2.2.2.2.2.2 p hp
theorem Sq.len{q:Qv}(h:Sq q):q.f.2.2.2.2.2.2.length<=1000000000:=by have:=h.open.2.2.2.1;omega
def cks(f:Qv->Int->Int->Int×(Int×Int))(lev:Int):List Qv->Int->Int×(Int×Int)
 | [],num=>(num,(0,0))
 | s::l,num=>if(f s num lev).2.1=0 then cks f lev l (f s num lev).1 else(0,(f s num lev).2)
def ck:Nat->Qv->Int->Int->Int×(Int×Int)
 | 0,_,_,_=>(0,(0,0))
 | n+1,q,num,lev=>if 40<=num\/8<lev then(0,(2,num)) else if nf q=0 then cks (ck n) (lev+1) q.f.2.2.2.2.2.2 (num+1) else(0,(nf q,num))
def CkP(r:Int×(Int×Int)):Prop:=0<=r.1/\(r.2.1=0->r.2=(0,0))
theorem Ah8{f:Qv->Int->Int->Int×(Int×Int)}{lev:Int}:∀ (l:List Qv) (num:Int),0<=num->(∀ s∈l,∀ num,0<=num->CkP (f s num lev))->CkP (cks f lev l num)
 | [],num,h,_=>⟨h,fun _=>Z⟩
 | s::l,num,h,hf=>by
  have a:=hf s (QzJ ..) num h;unfold cks
  split
  ·exact Ah8 l _ a.1 (fun s hs=>hf s (QzA _ hs))
  ·exact⟨Int.le_refl _,fun e=>absurd e (by assumption)⟩
theorem Ab8{l:List Qv}(hl:l.length<=1000000000){f:Qv->Int->Int->Int×(Int×Int)}{lev:Int}{b:Int×Int->Option ((Int×Int) ⊕ (Int×(Int×Int)))}
  (hp:∀ s∈l,∀ num,0<=num->CkP (f s num lev))
  (a:∀ (i:Nat) (num:Int),0<=num->i<l.length->b (num,(i:Int))=if(f (l.getD i Qq2) num lev).2.1=0 then some (.inl ((f (l.getD i Qq2) num lev).1,(i:Int)+1)) else some (.inr (0,(f (l.getD i Qq2) num lev).2)))
  (h2:∀ num,b (num,(l.length:Int))=some (.inr (num,(0,0)))) (num:Int) (hn:0<=num):Go.L.run b (num,0)=some (cks f lev l num):=by
 have key:∀ (d i:Nat) (num:Int),0<=num->i+d=l.length->Go.L.run b (num,(i:Int))=some (cks f lev (l.drop i) num):=by
  intro d
  induction d with
  | zero=>
   intro i num hn hi;rw [Qz1 U,show i=l.length by omega];exact AP (m:=some _) (h2 num)
  | succ d ih=>
   intro i num hn hi;have hb:=a i num hn U;have hg:l.getD i Qq2=l[i]:=by rw [Qzq,Qzw U];rfl
   rw [hg] at hb;rw [Qkf U,cks]
   by_cases hw:(f l[i] num lev).2.1=0
   ·rw [if_pos hw] at hb ⊢;rw [Be hb];exact ih (i+1) _ (hp _ (Qxj _) num hn).1 U
   ·rw [if_neg hw] at hb ⊢;exact AP (m:=some _) hb
 exact key l.length 0 num hn U
theorem Nu{l:List Qv}{i:Nat}(h:i<l.length):l.getD i Qq2∈l:=by
 rw [Qzq,Qzw h];exact Qxj _
theorem Ah9:∀ (n:Nat) (q:Qv) (num lev:Int),Sq q->0<=num->1<=lev->lev<=9->10<=lev+n->
  F6 n q num lev=some (ck n q num lev)/\K3 n q num lev=some (ck n q num lev)/\CkP (ck n q num lev)
 | 0,q,num,lev,_,_,_,a,h2=>by omega
 | n+1,q,num,lev,hq,hn,g,j,k=>by
  show F5 (F6 n) q num lev=_/\KA (K3 n) q num lev=_/\_
  unfold F5 KA ck
  by_cases b:40<=num\/8<lev
  ·rw [if_pos b,if_pos b,if_pos b];exact⟨Z,Z,by show(0:Int)<=0;omega,fun e=>by cases e⟩
  ·rw [if_neg b,if_neg b,if_neg b,Yd hq.len,Ye hq.len,Qq5,Qq5]
   by_cases a:nf q=0
   ·rw [if_pos a,if_pos a,if_pos a,Ac (by constructor <;> omega),Ac (by constructor <;> omega)]
    have ih:∀ s∈q.f.2.2.2.2.2.2,∀ num,0<=num->F6 n s num (lev+1)=some (ck n s num (lev+1))/\K3 n s num (lev+1)=some (ck n s num (lev+1))/\CkP (ck n s num (lev+1)):=
     fun s hs num hn=>Ah9 n s num (lev+1) (hq.sub hs) hn U U U
    have hp:∀ s∈q.f.2.2.2.2.2.2,∀ num,0<=num->CkP (ck n s num (lev+1)):=fun s hs num hn=>(ih s hs num hn).2.2;refine⟨?_,?_,Ah8 _ _ U hp⟩
    ·refine Ab8 hq.len hp (fun i num hn hi=>?_) (fun num=>?_) _ U
     ·unfold E8;simp only;obtain⟨c,_,d⟩:=ih _ (Nu hi) num hn;rw [if_pos U,Ac ⟨by omega,by omega⟩,Qq8,Ac (by constructor <;> omega),c,Qq5]
      by_cases h2:(ck n (q.f.2.2.2.2.2.2.getD i Qq2) num (lev+1)).2.1=0
      ·rw [if_pos (by rw [d.2 h2];exact⟨Z,Z⟩),if_pos h2,Ac (by have:=hq.len;constructor <;> omega)]
      ·rw [if_neg (fun h=>h2 h.1),if_neg h2]
       rfl
     ·unfold E8;simp only;rw [if_neg U]
      rfl
    ·refine Ab8 hq.len hp (fun i num hn hi=>?_) (fun num=>?_) _ U
     ·unfold Jd;simp only;obtain⟨_,c,d⟩:=ih _ (Nu hi) num hn;rw [if_pos U,Ac ⟨by omega,by omega⟩,Qq8,Ac (by constructor <;> omega),c,Qq5]
      by_cases h2:(ck n (q.f.2.2.2.2.2.2.getD i Qq2) num (lev+1)).2.1=0
      ·rw [if_pos h2,if_pos h2,Ac (by have:=hq.len;constructor <;> omega)]
      ·rw [if_neg h2,if_neg h2]
       rfl
     ·unfold Jd;simp only;rw [if_neg U]
      rfl
   ·rw [if_neg a,if_neg a,if_neg a];exact⟨Z,Z,by show(0:Int)<=0;omega,fun e=>absurd e a⟩
def Vq:Nat->Qv->Prop
 | 0,_=>False
 | n+1,q=>nf q=0/\∀ s∈q.f.2.2.2.2.2.2,Vq n s
def nq:Nat->Qv->Nat
 | 0,_=>0
 | n+1,q=>1+(q.f.2.2.2.2.2.2.map (nq n)).sum
theorem Aez{f:Qv->Int->Int->Int×(Int×Int)}{lev:Int}{g:Qv->Nat}{V:Qv->Prop}:∀ (l:List Qv) (num:Int),(∀ s∈l,∀ num,(f s num lev).2.1=0->(f s num lev).1=num+g s/\(f s num lev).1<=40/\V s)->num<=40->(cks f lev l num).2.1=0->
  (cks f lev l num).1=num+(l.map g).sum/\(cks f lev l num).1<=40/\∀ s∈l,V s
 | [],num,_,h,_=>⟨by simp [cks],h,by simp⟩
 | s::l,num,hf,h,he=>by
  unfold cks at he ⊢;have hs:=hf s (QzJ ..) num
  split at he
  ·rename_i a;rw [if_pos a];obtain⟨b,c,d⟩:=hs a;obtain⟨e,i,j⟩:=Aez l _ (fun s hs=>hf s (QzA _ hs)) c he;refine⟨by rw [e,b];simp;omega,i,fun x hx=>?_⟩
   rcases Qzy.1 hx with rfl | hx
   ·exact d
   ·exact j x hx
  ·rename_i a;exact absurd he a
theorem AhA:∀ (n:Nat) (q:Qv) (num lev:Int),10<=lev+n->lev<=9->∀ m:Nat,lev+m=9->(ck n q num lev).2.1=0->(ck n q num lev).1=num+nq m q/\(ck n q num lev).1<=40/\Vq m q
 | 0,q,num,lev,h,h',_,_=>by omega
 | n+1,q,num,lev,h,h',m,hm=>by
  unfold ck
  by_cases b:40<=num\/8<lev
  ·rw [if_pos b];intro e
   cases e
  ·rw [if_neg b]
   by_cases a:nf q=0
   ·rw [if_pos a];intro he;obtain⟨m,rfl⟩:∃ k,m=k+1:=⟨m - 1,by omega⟩;obtain⟨c,d,f⟩:=Aez (g:=nq m) (V:=Vq m) _ (num+1) (fun s hs num he=>AhA n s num (lev+1) U U m U he) U he;exact⟨by rw [c];unfold nq;omega,d,a,f⟩
   ·rw [if_neg a];intro e;exact absurd e a
end Go.Proofs.YtekmbcbgknmhiaaGreatDoor
end
noncomputable section
namespace Go.L
open Go
def hxd(n:Nat):UInt8:=([48,49,50,51,52,53,54,55,56,57,97,98,99,100,101,102]:List UInt8).getD n 0
def qub(c:UInt8):List UInt8:=if(32<=c.toNat/\c.toNat<=126)/\c.toNat≠39/\c.toNat≠92 then[c] else[92,hxd (c.toNat / 16),hxd (c.toNat % 16)]
def quo(l:List UInt8):List UInt8:=39::l.flatMap qub++[39]
theorem Yf(c:UInt8):1<=(qub c).length/\(qub c).length<=3:=by
 unfold qub
 split <;> simp
theorem VE:∀ l:List UInt8,(l.flatMap qub).length<=3 * l.length
 | []=>by simp
 | c::l=>by
  have a:=VE l;have h2:=(Yf c).2;rw [Qz6,Qzu,Qzj];omega
end Go.L
namespace Go.Proofs.YtekmbcbgknmhiaaGreatDoor
open Go Go.L
theorem TZ{n:Nat}(h:n<16):KM (n:Int)=some (hxd n):=by
 have:∀ k:Fin 16,KM ((k.val:Nat):Int)=some (hxd k.val):=by
  intro k;unfold KM
  split
  ·rw [Ac (by have:=k.isLt;constructor <;> omega)]
   revert k
   decide
  ·rw [Ac (by have:=k.isLt;constructor <;> omega),Ac (by have:=k.isLt;constructor <;> omega)]
   revert k
   decide
 exact this ⟨n,h⟩
theorem Xe{l:List UInt8}(hl:l.length<=1000000000):O0 l=some (quo l):=by
 unfold O0 QN
 have key:∀ (d i:Nat) (o:List UInt8),o.length<=3 * i+1->i+d=l.length->Go.L.run (J6 l) (o,(i:Int))=some (o++(l.drop i).flatMap qub++[39]):=by
  intro d
  induction d with
  | zero=>
   intro i o ho hi;rw [Qz1 U];refine AP (m:=some _) ?_;unfold J6 QM;simp only;rw [if_neg U,Ac (by constructor <;> simp <;> omega)];simp
  | succ d ih=>
   intro i o ho hi;have hg:l.getD i Qq2=l[i]:=by rw [Qzq,Qzw U];rfl
   have hb:J6 l (o,(i:Int))=some (.inl (o++qub l[i],((i+1:Nat):Int))):=by
    have a:∀ b:Bool,(b=true↔((32<=l[i].toNat/\l[i].toNat<=126)/\l[i].toNat≠39/\l[i].toNat≠92))->Kk l o (i:Int) b=some (.inl (o++qub l[i],((i+1:Nat):Int))):=fun b hb=>by
     have hc:l[i].toNat<256:=Qx1 _;unfold Kk qub;rw [Qq8,hg]
     by_cases h:b=true
     ·rw [if_pos h,if_pos (hb.1 h),Ac ⟨by omega,by omega⟩,Ac (by constructor <;> simp <;> omega),Ac (by constructor <;> omega)]
      rfl
     ·rw [if_neg h,if_neg (fun e=>h (hb.2 e)),Ac ⟨by omega,by omega⟩,Ac ⟨by omega,by omega,by omega⟩];rw [show((l[i].toNat:Nat):Int) / 16=((l[i].toNat / 16:Nat):Int) by omega,TZ U,Qq5,Ac ⟨by omega,by omega⟩,Ac ⟨by omega,by omega,by omega⟩];rw [show((l[i].toNat:Nat):Int) % 16=((l[i].toNat % 16:Nat):Int) by omega,TZ U,Qq5,Ac (by constructor <;> simp <;> omega),Ac (by constructor <;> omega)]
      rfl
    unfold J6;simp only;rw [if_pos U,Ac ⟨by omega,by omega⟩,Ac ⟨by omega,by omega⟩,Ac ⟨by omega,by omega⟩,Qq8,hg]
    by_cases c:(32:Int)<=(l[i].toNat:Int)/\(l[i].toNat:Int)<=126
    ·rw [if_pos c]
     by_cases h2:(l[i].toNat:Int)=39
     ·rw [if_pos h2,a false (by simp;omega)]
     ·rw [if_neg h2,a _ (by simp;omega)]
    ·rw [if_neg c,a false (by simp;omega)]
   have:=(Yf l[i]).2;rw [Be hb,ih (i+1) _ (by rw [Qzu];omega) U,Qkf (by omega:i<l.length),Qz6];simp
 exact key l.length 0 [39] Qqd U
theorem Xf{l:List UInt8}(hl:l.length<=1000000000):IC l=some (quo l):=by
 unfold IC Kw
 have key:∀ (d i:Nat) (o:List UInt8),o.length<=3 * i+1->i+d=l.length->Go.L.run (E5 l) (o,(i:Int))=some (o++(l.drop i).flatMap qub++[39]):=by
  intro d
  induction d with
  | zero=>
   intro i o ho hi;rw [Qz1 U];refine AP (m:=some _) ?_;unfold E5 IZ;simp only;rw [if_neg U,Ac (by constructor <;> simp <;> omega)];simp
  | succ d ih=>
   intro i o ho hi;have hg:l.getD i Qq2=l[i]:=by rw [Qzq,Qzw U];rfl
   have hb:E5 l (o,(i:Int))=some (.inl (o++qub l[i],((i+1:Nat):Int))):=by
    have hc:l[i].toNat<256:=Qx1 _
    have b:(l[i] >>> (4:UInt8)).toNat=l[i].toNat / 16:=by
     have:∀ n:Fin 256,(QzE n.val >>> (4:UInt8)).toNat=n.val / 16:=by decide +kernel
     have h:=this ⟨l[i].toNat,hc⟩
     rwa [Qjx] at h
    have c:(l[i] &&& (15:UInt8)).toNat=l[i].toNat % 16:=by
     have:∀ n:Fin 256,(QzE n.val &&& (15:UInt8)).toNat=n.val % 16:=by decide +kernel
     have h:=this ⟨l[i].toNat,hc⟩
     rwa [Qjx] at h
    unfold E5 qub;simp only;rw [if_pos U,Ac ⟨by omega,by omega⟩,Qq8,hg,b,c]
    by_cases a:(32<=l[i].toNat/\l[i].toNat<=126)/\l[i].toNat≠39/\l[i].toNat≠92
    ·rw [if_neg U,if_pos a,Ac (by constructor <;> simp <;> omega),Ac (by constructor <;> omega)]
     rfl
    ·rw [if_pos U,if_neg a,Ac ⟨by omega,by simp;omega⟩,Ac ⟨by omega,by simp;omega⟩,Ac (by constructor <;> simp <;> omega),Ac (by constructor <;> omega)]
     rfl
   have:=(Yf l[i]).2;rw [Be hb,ih (i+1) _ (by rw [Qzu];omega) U,Qkf (by omega:i<l.length),Qz6];simp
 exact key l.length 0 [39] Qqd U
end Go.Proofs.YtekmbcbgknmhiaaGreatDoor
namespace Go.Proofs.YtekmbcbgknmhiaaGreatDoor
open Go Go.L
theorem Se{n:Int}(hn:Bz n):Mj n=some (Lib.itoa n):=by
 unfold Mj
 by_cases a:n=0
 ·subst a;rw [if_pos Z];exact congrArg some (by rw [Lib.itoa,if_neg U,Lib.decDigits,dif_pos Qqc];rfl)
 rw [if_neg a];unfold Qc
 have fin:∀ l:List UInt8,l.length<=30->Go.L.run (HJ n) (l,0)=some ((if n<0 then[45] else[])++l):=fun l hl=>by
  refine AP (m:=some _) ?_;unfold HJ Qb;simp only;rw [if_pos trivial]
  by_cases hn:n<0
  ·rw [if_pos hn,if_pos hn,Ac (by constructor <;> simp <;> omega)]
  ·rw [if_neg hn,if_neg hn]
   rfl
 have key:∀ (k:Nat) (s:Int) (l:List UInt8),s.natAbs<10 ^ k->l.length+k<=30->Bz s->(s=0->l≠[])->Go.L.run (HJ n) (l,s)=some ((if n<0 then[45] else[])++((if s=0 then[] else Lib.decDigits s.natAbs)++l)):=by
  intro k
  induction k with
  | zero=>
   intro s l hs hl hi _;obtain rfl:s=0:=by omega
   rw [fin l U,if_pos Z]
   rfl
  | succ k ih=>
   intro s l hs hl hi _
   by_cases hz:s=0
   ·subst hz;rw [fin l U,if_pos Z]
    rfl
   ·have hb:HJ n (l,s)=some (.inl ([QzE (48+s.natAbs % 10)]++l,Int.tdiv s 10)):=by
     have b:∀ d:Int,d=((s.natAbs % 10:Nat):Int)->Lj l s d=some (.inl ([QzE (48+s.natAbs % 10)]++l,Int.tdiv s 10)):=fun d hd=>by
      unfold Lj;rw [Ac (by constructor <;> omega),Ac (by constructor <;> simp <;> omega),Ac ⟨hi.1,hi.2,by decide⟩]
      have:u8 (48+d)=QzE (48+s.natAbs % 10):=by
       unfold u8
       congr 1
       omega
      rw [this]
     unfold HJ;simp only;rw [if_neg hz,Ac ⟨hi.1,hi.2,by decide⟩]
     have hm:Int.tmod s 10=if 0<=s then((s.natAbs % 10:Nat):Int) else -((s.natAbs % 10:Nat):Int):=by
      split
      ·rw [Int.tmod_eq_emod_of_nonneg (by assumption)];omega
      ·rw [show s = -(-s) by omega,Int.neg_tmod,Int.tmod_eq_emod_of_nonneg U];omega
     rw [hm]
     split
     ·split
      ·omega
      ·exact b _ Z
     ·split
      ·rw [Ac (by constructor <;> omega)];exact b _ U
      ·exact b _ U
    have hd:(Int.tdiv s 10).natAbs=s.natAbs / 10:=by rw [Int.natAbs_tdiv];rfl
    have hp:10 ^ (k+1)=10 * 10 ^ k:=by rw [Nat.pow_succ,Nat.mul_comm]
    have e:=hi;rw [Be hb,ih _ _ (by rw [hd];omega) (by simp;omega) (by constructor <;> omega) Qqd,if_neg hz]
    congr 2
    have hdd:Lib.decDigits s.natAbs=if h:s.natAbs<10 then[QzE (48+s.natAbs)] else Lib.decDigits (s.natAbs / 10)++[QzE (48+s.natAbs % 10)]:=by rw [Lib.decDigits]
    rw [hdd]
    by_cases c:s.natAbs<10
    ·rw [dif_pos c,if_pos U,Nat.mod_eq_of_lt c]
     rfl
    ·rw [dif_neg c,if_neg U,hd];simp
 rw [key 19 n [] (by have:=hn.1;have:=hn.2;omega) Qqd hn (fun h=>absurd h a),if_neg a,QzX];unfold Lib.itoa
 split
 ·rfl
 ·rw [show n.natAbs=n.toNat by omega];rfl
theorem SJ{n:Int}(hn:Bz n):(Lib.itoa n).length<=30:=by
 have key:∀ (k u:Nat),u<10 ^ (k+1)->(Lib.decDigits u).length<=k+1:=by
  intro k
  induction k with
  | zero=>intro u h;rw [Lib.decDigits,dif_pos (by simpa using h)];simp
  | succ k ih=>
   intro u h;rw [Lib.decDigits]
   split
   ·simp
   ·have:10 ^ (k+1+1)=10 * 10 ^ (k+1):=by rw [Nat.pow_succ,Nat.mul_comm]
    have:=ih (u / 10) U;simp;omega
 unfold Lib.itoa;have a:=hn.1;have h2:=hn.2
 split
 ·have:=key 18 n.natAbs U;simp;omega
 ·have:=key 18 n.toNat U;omega
end Go.Proofs.YtekmbcbgknmhiaaGreatDoor
end
noncomputable section
namespace Go.L
open Go
def par(f:Qv->List UInt8)(ks:List Int)(s:Qv):List UInt8:=if s.f.1∈ks then([40]++f s)++[41] else f s
def tb(f:Qv->List UInt8)(q:Qv):List UInt8:=
 if q.f.1=1 then q.f.2.1.getD 0 Qq2 else if q.f.1=2 then([34]++Lib.join q.f.2.1 [32])++[34]
 else if q.f.1=3 then(((q.f.2.1.getD 0 Qq2++[126])++Lib.itoa q.f.2.2.2.2.1)++[126])++q.f.2.1.getD 1 Qq2
 else if q.f.1=4 then quo q.f.2.2.2.1 else if q.f.1=5 then[47]++q.f.2.2.1
 else if q.f.1=6 then(((([47]++q.f.2.2.1)++[61])++Lib.itoa q.f.2.2.2.2.1)++[46,46])++Lib.itoa q.f.2.2.2.2.2.1
 else if q.f.1=7 then(([47]++q.f.2.2.1)++[61])++quo q.f.2.2.2.1
 else if q.f.1=8 then Lib.join (q.f.2.2.2.2.2.2.map (par f [9])) [38] else if q.f.1=9 then Lib.join (q.f.2.2.2.2.2.2.map (par f [])) [124]
 else[33]++Lib.join (q.f.2.2.2.2.2.2.map (par f [8,9])) []
def tx:Nat->Qv->List UInt8
 | 0,_=>[]
 | n+1,q=>tb (tx n) q
theorem Ab9(sep:List UInt8)(x:List UInt8)(r:List (List UInt8)):Lib.joinTail sep (x::r)=sep++x++Lib.joinTail sep r:=by
 simp [Lib.joinTail]
theorem Xg(x:List UInt8)(r:List (List UInt8)):Lib.lens (x::r)=x.length+Lib.lens r:=by simp [Lib.lens]
theorem join_le(l:List (List UInt8))(sep:List UInt8):(Lib.join l sep).length<=sep.length * l.length+Lib.lens l:=by
 cases l with
 | nil=>simp [Lib.join_nil]
 | cons x r=>
  rw [Lib.join_length];have:=Nat.mul_le_mul_left sep.length (Nat.le_succ r.length);simp only [Qzj,Nat.succ_eq_add_one] at this ⊢;omega
theorem Ag7(f:Qv->List UInt8)(ks:List Int)(s:Qv):(par f ks s).length<=(f s).length+2:=by
 unfold par
 split <;> simp
end Go.L
namespace Go.Proofs.YtekmbcbgknmhiaaGreatDoor
open Go Go.L
theorem Ae0:∀ {ws:List (List UInt8)},ZU ws=0->∀ w∈ws,wf w=(0,0)
 | [],_=>by simp
 | w::l,h=>by
  unfold ZU at h
  split at h
  ·rename_i a;intro x hx
   rcases Qzy.1 hx with rfl | hx
   ·exact Ajb a
   ·exact Ae0 h x hx
  ·rename_i a;exact absurd h a
theorem Ae1{w:List UInt8}(h:wf w=(0,0)):w.length<=64:=by
 unfold wf at h
 split at h
 ·cases h
 ·omega
theorem Ae2{w:List UInt8}(h:pf w=(0,0)):w.length<=64:=by
 unfold pf at h
 split at h
 ·cases h
 ·omega
theorem O1{q:Qv}(h:nf q=0):(1<=q.f.1/\q.f.1<=10)/\Frm q=true/\(∀ w∈q.f.2.1,wf w=(0,0))/\pf q.f.2.2.1=(0,0)/\nt q=0:=by
 unfold nf at h
 split at h
 ·rename_i b
  split at h
  ·rename_i h2
   split at h
   ·rename_i h3
    split at h
    ·rename_i a;exact⟨b,h2,Ae0 h3,Ajc a,h⟩
    ·rename_i a;exact absurd h a
   ·rename_i h3;exact absurd h h3
  ·cases h
 ·cases h
theorem Yg{q:Qv}(h:nt q=0):q.f.2.2.2.1.length<=64:=by
 unfold nt at h
 split at h
 ·cases h
 ·split at h
  ·cases h
  ·split at h
   ·cases h
   ·omega
theorem Nk{q:Qv}(h:Frm q=true):(q.f.1=1->q.f.2.1.length=1)/\(q.f.1=2->2<=q.f.2.1.length)/\(q.f.1=3->q.f.2.1.length=2)/\(q.f.1=10->q.f.2.2.2.2.2.2.length=1)/\(q.f.1=8\/q.f.1=9->2<=q.f.2.2.2.2.2.2.length):=by
 unfold Frm at h;simp only [Qzb] at h;obtain⟨⟨⟨⟨⟨a,_⟩,_⟩,_⟩,_⟩,b⟩:=h;refine⟨fun e=>?_,fun e=>?_,fun e=>?_,fun e=>?_,fun e=>?_⟩
 ·rw [e] at a;simpa using a
 ·rw [e] at a;simp at a;omega
 ·rw [e] at a;simpa using a
 ·rw [e] at b;simpa using b
 ·rw [if_pos e] at b;simp at b;exact b.1
theorem Ajd{d:Nat}{q:Qv}(h:Vq d q):1<=nq d q:=by
 cases d with
 | zero=>exact h.elim
 | succ d=>unfold nq;omega
theorem Yh{l:List Qv}{g:Qv->Nat}{f:Qv->List UInt8}(h:∀ s∈l,(f s).length+1<=3000 * g s):Lib.lens (l.map f)+l.length<=3000 * (l.map g).sum:=by
 induction l with
 | nil=>simp [Lib.lens]
 | cons a l ih=>
  have b:=h a (QzJ ..);have:=ih fun s hs=>h s (QzA _ hs);simp only [Qzj,Qzd,List.sum_cons,Xg];omega
theorem Ae3{l:List (List UInt8)}(h:∀ w∈l,w.length<=64):Lib.lens l<=64 * l.length:=by
 induction l with
 | nil=>simp [Lib.lens]
 | cons a l ih=>
  have b:=h a (QzJ ..);have:=ih fun s hs=>h s (QzA _ hs);simp only [Qzj,Xg];omega
theorem T5{l:List (List UInt8)}(h:∀ w∈l,w.length<=64)(i:Nat):(l.getD i Qq2).length<=64:=by
 rw [Qzq]
 cases e:l[i]? with
 | none=>decide
 | some w=>exact h w (List.mem_of_getElem? e)
theorem Aay:∀ (d:Nat) (q:Qv),Sq q->Vq d q->(tx d q).length+3<=3000 * nq d q
 | 0,_,_,h=>h.elim
 | d+1,q,hq,hv=>by
  obtain⟨hk,hF,hw,hp,ht⟩:=O1 hv.1;have hw':∀ w∈q.f.2.1,w.length<=64:=fun w h=>Ae1 (hw w h);have hd:=Yg ht;have hp:=Ae2 hp;have hwn:=Rr hF
  have hs:∀ ks,∀ s∈q.f.2.2.2.2.2.2,(par (tx d) ks s).length+1<=3000 * nq d s:=fun ks s hs=>by
   have l:=Aay d s (hq.sub hs) (hv.2 s hs);have h2:=Ag7 (tx d) ks s;omega
  have e:=SJ hq.open.2.2.2.2.2.1;have g:=SJ hq.open.2.2.2.2.2.2
  have hqu:(quo q.f.2.2.2.1).length<=3 * q.f.2.2.2.1.length+2:=by
   have:=VE q.f.2.2.2.1;simp [quo]
   simpa using this
  have i:=T5 hw' 0;have j:=T5 hw' 1;have hwl:=Ae3 hw';unfold tx tb nq;have b:=join_le (q.f.2.2.2.2.2.2.map (par (tx d) [9])) [38];have c:=join_le (q.f.2.2.2.2.2.2.map (par (tx d) [])) [124];have a:=join_le (q.f.2.2.2.2.2.2.map (par (tx d) [8,9])) [];have m:=Yh (hs [9]);have n:=Yh (hs []);have k:=Yh (hs [8,9]);have j2:=join_le q.f.2.1 [32];simp only [Qzk,Qzj,Qze] at b c a j2
  repeat' split
  all_goals first | omega | (simp only [Qzu,Qzj,Qze];omega)
end Go.Proofs.YtekmbcbgknmhiaaGreatDoor
end
noncomputable section
namespace Go.Proofs.YtekmbcbgknmhiaaGreatDoor
open Go Go.L
theorem Aim{l:List Int}(hl:l.length<=1000)(a:Int):BD l a=some (decide (a∈l)):=by
 have key:∀ (d i:Nat),i+d=l.length->∃ r,Go.L.run (Bc l a) (i:Int)=some r/\(0<=r↔a∈l.drop i):=by
  intro d
  induction d with
  | zero=>
   intro i hi;refine⟨-1,AP (m:=some (-1)) ?_,by rw [Qz1 U];simp⟩;unfold Bc De;rw [if_neg U]
  | succ d ih=>
   intro i hi;have hil:i<l.length:=by omega
   rw [drop_cons hil]
   have hb:Bc l a (i:Int)=if a=l.getD i Qq2 then some (.inr (i:Int)) else some (.inl ((i+1:Nat):Int)):=by
    unfold Bc;rw [if_pos U,Ac U,Qq8,Ac (by constructor <;> omega)]
    rfl
   by_cases h:a=l.getD i Qq2
   ·rw [if_pos h] at hb;exact⟨_,AP (m:=some (i:Int)) hb,by rw [h];simp⟩
   ·rw [if_neg h] at hb;obtain⟨r,b,h2⟩:=ih (i+1) U;refine⟨r,by rw [Be hb,b],h2.trans ?_⟩;rw [Qzy];exact⟨.inr,fun hh=>hh.resolve_left h⟩
 unfold BD DX DN;obtain⟨r,b,h2⟩:=key l.length 0 U;rw [show((0:Nat):Int)=0 from Z] at b;rw [b,Qq5]
 congr 1
 simpa using h2
theorem Ae4{l:List Qv}(hl:l.length<=2000000){f:Qv->Option (List UInt8)}{f2:List Qv->List UInt8->List Int->Option (List UInt8)}{g:Qv->List UInt8}{sep:List UInt8}{ks:List Int}(hk:ks.length<=1000)
  (hf:∀ s∈l,f s=some (g s)) (hg:∀ s∈l,(g s).length<=1000000) (hj:(Lib.join (l.map (par g ks)) sep).length<=1000000):F8 f f2 l sep ks=some (Lib.join (l.map (par g ks)) sep):=by
 unfold F8 I2
 have key:∀ (d i:Nat) (o:List (List UInt8)),o.length=i->i+d=l.length->Go.L.run (Da l sep ks f) (o,(i:Int))=S5 (o++(l.drop i).map (par g ks)) sep:=by
  intro d
  induction d with
  | zero=>
   intro i o ho hi;rw [Qz1 U];refine AP ?_;unfold Da GU;simp only;rw [if_neg U];simp
  | succ d ih=>
   intro i o ho hi;have hil:i<l.length:=by omega
   have hm:=Nu hil;have hgl:=hg _ hm
   have hb:Da l sep ks f (o,(i:Int))=some (.inl (o++[par g ks (l.getD i Qq2)],((i+1:Nat):Int))):=by
    unfold Da Fg par;simp only;rw [if_pos U,Ac ⟨by omega,by omega⟩,Qq8,hf _ hm,Qq5,Aim hk,Qq5]
    by_cases h:(l.getD i Qq2).f.1∈ks
    ·rw [decide_eq_true h,if_pos Z,if_pos h,Ac (by simp [-Qzq];omega),Ac (by simp [-Qzq];omega),Ac (by constructor <;> simp [-Qzq] <;> omega),Ac (by constructor <;> omega)]
     rfl
    ·rw [decide_eq_false h,if_neg Qqc,if_neg h,Ac (by constructor <;> simp [-Qzq] <;> omega),Ac (by constructor <;> omega)]
     rfl
   rw [Be hb,ih (i+1) _ (by simp [ho]) U,drop_cons hil];simp
 have:=key l.length 0 [] Z U;rw [show((0:Nat):Int)=0 from Z] at this;rw [this];unfold S5;rw [Qxz,QxD,Ac ⟨by rw [Qzk];omega,by omega⟩]
theorem Aaz{l:List Qv}(hl:l.length<=2000000){f:Qv->Option (List UInt8)}{f2:List Qv->List UInt8->Int->Int->Option (List UInt8)}{g:Qv->List UInt8}{sep:List UInt8}{ks:List Int}{c j:Int}(hk:∀ s∈l,(s.f.1=c\/s.f.1=j)↔s.f.1∈ks)
  (hf:∀ s∈l,f s=some (g s)) (hg:∀ s∈l,(g s).length<=1000000) (hsep:sep.length<=10) (hj:(Lib.join (l.map (par g ks)) sep).length<=1000000):Mn f f2 l sep c j=some (Lib.join (l.map (par g ks)) sep):=by
 unfold Mn Nj
 have k:∀ (i:Nat) (o:List UInt8),i<l.length->o.length<=10000000->I5 l c j (i:Int) f o=some (.inl (o++par g ks (l.getD i Qq2),((i+1:Nat):Int))):=fun i o hil ho=>by
  have hm:=Nu hil;have hgl:=hg _ hm
  have n:∀ b:Bool,(b=true↔(l.getD i Qq2).f.1∈ks)->I4 l (i:Int) o f b=some (.inl (o++par g ks (l.getD i Qq2),((i+1:Nat):Int))):=fun b hb=>by
   unfold I4 par;rw [Qq8,hf _ hm]
   by_cases h:b=true
   ·rw [if_pos h,if_pos (hb.1 h),Ac (by simp [-Qzq];omega),Ac ⟨by omega,by omega⟩,Qq5,Ac (by simp [-Qzq];omega),Ac (by simp [-Qzq];omega),Ac (by constructor <;> omega)];simp
   ·rw [if_neg h,if_neg (fun e=>h (hb.2 e)),Ac ⟨by omega,by omega⟩,Qq5,Ac U,Ac (by constructor <;> omega)]
    rfl
  unfold I5;rw [Ac ⟨by omega,by omega⟩,Ac ⟨by omega,by omega⟩,Qq8]
  by_cases h:(l.getD i Qq2).f.1=c
  ·rw [if_pos h,n true (by simpa using (hk _ hm).1 (.inl h))]
  ·rw [if_neg h,n _ (by rw [decide_eq_true_eq,<- hk _ hm];exact⟨.inr,fun e=>e.resolve_left h⟩)]
 have key:∀ (d i:Nat) (o:List UInt8),1<=i->i+d=l.length->o.length+(Lib.joinTail sep ((l.drop i).map (par g ks))).length<=1000000->Go.L.run (Db l sep c j f) (o,(i:Int))=some (o++Lib.joinTail sep ((l.drop i).map (par g ks))):=by
  intro d
  induction d with
  | zero=>
   intro i o ho hi _;rw [Qz1 U];refine AP (m:=some _) ?_;unfold Db Km;simp only;rw [if_neg U];simp [Lib.joinTail]
  | succ d ih=>
   intro i o ho hi hlen;have hil:i<l.length:=by omega
   rw [drop_cons hil,Qzd,Ab9] at hlen ⊢;rw [Qzu,Qzu] at hlen
   have hb:Db l sep c j f (o,(i:Int))=some (.inl ((o++sep)++par g ks (l.getD i Qq2),((i+1:Nat):Int))):=by
    unfold Db;simp only;rw [if_pos U,if_pos U,Ac U,k i _ hil (by simp [-Qzq];omega)]
   rw [Be hb,ih (i+1) _ U U (by simp;simp at hlen;omega)];simp
 cases l with
 | nil=>
  refine AP (m:=some _) ?_;unfold Db Km;simp only;rw [if_neg Qqd]
  rfl
 | cons a r=>
  have hb:Db (a::r) sep c j f ([],0)=some (.inl (par g ks a,1)):=by
   unfold Db;simp only;rw [if_pos Qqd,if_neg U];exact k 0 [] Qqd Qqd
  rw [Qzd,Lib.join_cons] at hj ⊢;rw [Qzu] at hj;rw [Be hb];exact key r.length 1 _ U (by simp [-Qzq];omega) (by simpa using hj)
theorem Aa0{q:Qv}(hw:∀ w∈q.f.2.1,w.length<=64)(hl:q.f.2.1.length<=16)(a:1<=q.f.2.1.length):Jw q (q.f.2.1.getD 0 Qq2,1)=some (([34]++Lib.join q.f.2.1 [32])++[34]):=by
 unfold Jw
 have key:∀ (d i:Nat) (o:List UInt8),i+d=q.f.2.1.length->o.length<=65 * i->Go.L.run (Fj q) (o,(i:Int))=some (([34]++(o++Lib.joinTail [32] (q.f.2.1.drop i)))++[34]):=by
  intro d
  induction d with
  | zero=>
   intro i o hi ho;rw [Qz1 U];refine AP (m:=some _) ?_;unfold Fj Ml;simp only;rw [if_neg U,Ac (by simp [-Qzq];omega),Ac (by simp [-Qzq];omega)];simp [Lib.joinTail]
  | succ d ih=>
   intro i o hi ho;have hil:i<q.f.2.1.length:=by omega
   have hwl:=T5 hw i;rw [drop_cons hil,Ab9]
   have hb:Fj q (o,(i:Int))=some (.inl ((o++[32])++q.f.2.1.getD i Qq2,((i+1:Nat):Int))):=by
    unfold Fj;simp only;rw [if_pos U,Ac (by simp [-Qzq];omega),Ac ⟨by omega,by omega⟩,Qq8,Ac (by simp [-Qzq];omega),Ac (by constructor <;> omega)]
    rfl
   rw [Be hb,ih (i+1) _ U (by simp [-Qzq];omega)];simp
 obtain⟨w,r,hwr⟩:=QkC (List.ne_nil_of_length_pos a);have hwl:=T5 hw 0;have:=key (q.f.2.1.length - 1) 1 (q.f.2.1.getD 0 Qq2) U U;rw [show((1:Nat):Int)=1 from Z] at this;rw [this,hwr,Lib.join_cons]
 rfl
theorem Ag8{q:Qv}{f:Qv->List UInt8}(hq:Sq q)(hn:nf q=0)(ht:(tb f q).length<=1000000){s1:Qv->Option (List UInt8)}{b:List Qv->List UInt8->List Int->Option (List UInt8)}{r1:Qv->Option (List UInt8)}{r2:List Qv->List UInt8->Int->Int->Option (List UInt8)}
  (g:q.f.1=8->b q.f.2.2.2.2.2.2 [38] [9]=some (tb f q)/\r2 q.f.2.2.2.2.2.2 [38] 9 0=some (tb f q)) (i:q.f.1=9->b q.f.2.2.2.2.2.2 [124] []=some (tb f q)/\r2 q.f.2.2.2.2.2.2 [124] 0 0=some (tb f q))
  (d:q.f.1=10->b q.f.2.2.2.2.2.2 [] [8,9]=some (Lib.join (q.f.2.2.2.2.2.2.map (par f [8,9])) [])/\r2 q.f.2.2.2.2.2.2 [] 8 9=some (Lib.join (q.f.2.2.2.2.2.2.map (par f [8,9])) [])) :
  G1 s1 b q=some (tb f q)/\KC r1 r2 q=some (tb f q):=by
 obtain⟨hk,hF,hw,hp,hnt⟩:=O1 hn;have hw':∀ w∈q.f.2.1,w.length<=64:=fun w h=>Ae1 (hw w h);have hd:=Yg hnt;have hp:=Ae2 hp;have hwn:=Rr hF;obtain⟨f1,f2,f3,_⟩:=Nk hF;have a:=hq.open.2.2.2.2.2.1;have c:=hq.open.2.2.2.2.2.2;have l:=SJ a;have m:=SJ c;have n:=T5 hw' 0;have o:=T5 hw' 1;have hwl:=Ae3 hw';have j2:=join_le q.f.2.1 [32];simp only [Qzj,Qze] at j2;have j:S4 q.f.2.2.2.2.1=some (Lib.itoa q.f.2.2.2.2.1):=by unfold S4;rw [Ac ⟨a.1,a.2⟩]
 have k:S4 q.f.2.2.2.2.2.1=some (Lib.itoa q.f.2.2.2.2.2.1):=by unfold S4;rw [Ac ⟨c.1,c.2⟩]
 have hqu:(quo q.f.2.2.2.1).length<=3 * q.f.2.2.2.1.length+2:=by
  have:=VE q.f.2.2.2.1;simp [quo]
  simpa using this
 unfold G1 KC Mm;obtain e | e | e | e | e | e | e | e | e | e:q.f.1=1\/q.f.1=2\/q.f.1=3\/q.f.1=4\/q.f.1=5\/q.f.1=6\/q.f.1=7\/q.f.1=8\/q.f.1=9\/q.f.1=10:=by omega
 ·have:=f1 e;simp only [tb,e,if_true];rw [Ac ⟨by omega,by omega⟩];exact⟨Z,Z⟩
 ·have:=f2 e;simp only [tb,e,QxK,if_true,if_false]
  constructor
  ·unfold S5;rw [Ac ⟨by omega,by omega⟩,Qq5,Ac (by simp [-Qzq];omega),Ac (by simp [-Qzq];omega)]
  ·rw [Ac ⟨by omega,by omega⟩];exact Aa0 hw' hwn U
 ·have:=f3 e;simp only [tb,e,QxK,if_true,if_false];rw [j,Se a];simp only [Qq5]
  constructor
  all_goals (rw [Ac ⟨by omega,by omega⟩,Ac (by simp [-Qzq];omega),Ac (by simp [-Qzq];omega),Ac (by simp [-Qzq];omega),Ac ⟨by omega,by omega⟩,Ac (by simp [-Qzq];omega)];rfl)
 ·simp only [tb,e,QxK,if_true,if_false];rw [Xf U,Xe U];exact⟨Z,Z⟩
 ·simp only [tb,e,QxK,if_true,if_false];rw [Ac (by simp [-Qzq];omega)];exact⟨Z,Z⟩
 ·simp only [tb,e,QxK,if_true,if_false];rw [j,k,Se a,Se c];simp only [Qq5]
  constructor
  all_goals (rw [Ac (by simp [-Qzq];omega),Ac (by simp [-Qzq];omega),Ac (by simp [-Qzq];omega),Ac (by simp [-Qzq];omega),Ac (by simp [-Qzq];omega)])
 ·simp only [tb,e,QxK,if_true,if_false];rw [Xf U,Xe U];simp only [Qq5]
  constructor
  all_goals (rw [Ac (by simp [-Qzq];omega),Ac (by simp [-Qzq];omega),Ac (by simp [-Qzq];omega)])
 ·simp only [e,QxK,if_true,if_false];rw [(g e).1,(g e).2];exact⟨Z,Z⟩
 ·simp only [e,QxK,if_true,if_false];rw [(i e).1,(i e).2];exact⟨Z,Z⟩
 ·simp only [tb,e,QxK,if_true,if_false,Qzu] at ht ⊢;rw [(d e).1,(d e).2];simp only [Qq5];rw [Ac U];exact⟨Z,Z⟩
theorem Yi{l:List Qv}{g:Qv->Nat}{s:Qv}(h:s∈l):g s<=(l.map g).sum:=by
 induction l with
 | nil=>cases h
 | cons a l ih=>
  rw [Qzd,List.sum_cons]
  rcases Qzy.1 h with rfl | h
  ·omega
  ·have:=ih h;omega
theorem AhB:∀ (d:Nat) (q:Qv),Sq q->Vq d q->nq d q<=200->∀ n,2 * d<=n->(BL n).1 q=some (tx d q)/\(D3 n).1 q=some (tx d q)
 | 0,_,_,h,_,_,_=>h.elim
 | d+1,q,hq,hv,hc,n,hn=>by
  obtain⟨n,rfl⟩:∃ m,n=m+2:=⟨n - 2,by omega⟩;have hlen:=Aay (d+1) q hq hv;have hsl:=hq.open.2.2.2.1
  have hsum:∀ s∈q.f.2.2.2.2.2.2,nq d s<=200:=fun s hs=>by
   have:nq d s<=(q.f.2.2.2.2.2.2.map (nq d)).sum:=Yi hs;unfold nq at hc;omega
  have ih:∀ s∈q.f.2.2.2.2.2.2,(BL n).1 s=some (tx d s)/\(D3 n).1 s=some (tx d s):=fun s hs=>AhB d s (hq.sub hs) (hv.2 s hs) (hsum s hs) n U
  have hgl:∀ s∈q.f.2.2.2.2.2.2,(tx d s).length<=1000000:=fun s hs=>by
   have:=Aay d s (hq.sub hs) (hv.2 s hs);have:=hsum s hs;omega
  have a:∀ s∈q.f.2.2.2.2.2.2,1<=s.f.1:=fun s hs=>by
   have:=hv.2 s hs
   cases d with
   | zero=>exact this.elim
   | succ d=>exact(O1 this.1).1.1
  have ht:(tb (tx d) q).length<=1000000:=by
   show(tx (d+1) q).length<=_
   omega
  have hT:∀ sep ks,ks.length<=1000->(Lib.join (q.f.2.2.2.2.2.2.map (par (tx d) ks)) sep).length<=1000000->(BL (n+1)).2 q.f.2.2.2.2.2.2 sep ks=some (Lib.join (q.f.2.2.2.2.2.2.map (par (tx d) ks)) sep):=fun sep ks hk hj=>Ae4 (f2:=(BL n).2) U hk (fun s hs=>(ih s hs).1) hgl hj
  have hB:∀ sep ks b c,(∀ s∈q.f.2.2.2.2.2.2,(s.f.1=b\/s.f.1=c)↔s.f.1∈ks)->sep.length<=10->(Lib.join (q.f.2.2.2.2.2.2.map (par (tx d) ks)) sep).length<=1000000->(D3 (n+1)).2 q.f.2.2.2.2.2.2 sep b c=some (Lib.join (q.f.2.2.2.2.2.2.map (par (tx d) ks)) sep):=
   fun sep ks b c hk hs hj=>Aaz (f2:=(D3 n).2) U hk (fun s hs=>(ih s hs).2) hgl hs hj
  refine Ag8 (s1:=(BL (n+1)).1) (r1:=(D3 (n+1)).1) hq hv.1 ht (fun e=>?_) (fun e=>?_) (fun e=>?_)
  ·simp only [tb,e,QxK,if_true,if_false] at ht ⊢;exact⟨hT _ _ Qqd ht,hB _ [9] _ _ (fun s hs=>by have:=a s hs;simp;omega) Qqd ht⟩
  ·simp only [tb,e,QxK,if_true,if_false] at ht ⊢;exact⟨hT _ _ Qqd ht,hB _ [] _ _ (fun s hs=>by have:=a s hs;simp;omega) Qqd ht⟩
  ·simp only [tb,e,QxK,if_true,if_false,Qzu] at ht;exact⟨hT _ _ Qqd U,hB _ [8,9] _ _ (fun s hs=>by simp) Qqd U⟩
def Yj(q:Qv):Int×Int:=if(ck 1000 q 0 1).2.1=0 then(if 200<(tx 8 q).length then(14,-1) else(0,0)) else(ck 1000 q 0 1).2
theorem Aa1{q:Qv}(h:(ck 1000 q 0 1).2.1=0):Vq 8 q/\nq 8 q<=40:=by
 obtain⟨a,h2,h3⟩:=AhA 1000 q 0 1 U U 8 U h;exact⟨h3,by omega⟩
theorem Ae5{q:Qv}(hq:Sq q):Hz q=some (if(Yj q).1=0 then tx 8 q else[],Yj q):=by
 unfold Hz Mb Yj;obtain⟨a,_,h3⟩:=Ah9 1000 q 0 1 hq U U U U;rw [a,Qq5]
 by_cases h:(ck 1000 q 0 1).2.1=0
 ·obtain⟨hv,hc⟩:=Aa1 h;rw [if_pos (by rw [h3.2 h];exact⟨Z,Z⟩),if_pos h];unfold Ov;rw [(AhB 8 q hq hv U 1000 U).1,Qq5]
  by_cases hl:200<(tx 8 q).length
  ·rw [if_pos U,if_pos hl]
   rfl
  ·rw [if_neg U,if_neg hl]
   rfl
 ·rw [if_neg (fun e=>h e.1),if_neg h,if_neg h]
theorem QO{q:Qv}(hq:Sq q):Gc q=some (Yj q):=by
 unfold Gc;rw [Ae5 hq]
 rfl
theorem VF{q:Qv}(h:(Yj q).1=0):Vq 8 q/\nq 8 q<=40/\(tx 8 q).length<=200/\Yj q=(0,0):=by
 unfold Yj at h ⊢
 by_cases a:(ck 1000 q 0 1).2.1=0
 ·rw [if_pos a] at h ⊢
  by_cases h2:200<(tx 8 q).length
  ·rw [if_pos h2] at h
   cases h
  ·rw [if_neg h2];exact⟨(Aa1 a).1,(Aa1 a).2,by omega,Z⟩
 ·rw [if_neg a] at h;exact absurd h a
end Go.Proofs.YtekmbcbgknmhiaaGreatDoor
end
noncomputable section
namespace Go.L
open Go
def Gd(f:Qv->Nat->Bool):Nat->Qv->Nat->Bool
 | 0,_,_=>false
 | d+1,q,i=>if q.f.1<8 then f q i else if q.f.1=10 then !Gd f d (q.f.2.2.2.2.2.2.getD 0 Qq2) i else if q.f.1=8 then q.f.2.2.2.2.2.2.all fun s=>Gd f d s i else q.f.2.2.2.2.2.2.any fun s=>Gd f d s i
theorem RM(f:Qv->Nat->Bool)(d:Nat)(q:Qv)(i:Nat):Gd f (d+1) q i=if q.f.1<8 then f q i else if q.f.1=10 then !Gd f d (q.f.2.2.2.2.2.2.getD 0 Qq2) i else if q.f.1=8 then q.f.2.2.2.2.2.2.all fun s=>Gd f d s i else q.f.2.2.2.2.2.2.any fun s=>Gd f d s i:=Z
def LD(n:Nat)(f:Nat->Bool):List Bool:=(Qzv n).map f
theorem NB(n:Nat)(f:Nat->Bool):(LD n f).length=n:=by simp [LD]
theorem UD{n:Nat}{f:Nat->Bool}{i:Nat}(h:i<n):(LD n f).getD i Qq2=f i:=by
 unfold LD;rw [Qzq,Qxy,Qk5 h]
 rfl
theorem Mo{n:Nat}{f g:Nat->Bool}(h:∀ i,i<n->f i=g i):LD n f=LD n g:=Qkq fun i hi=>h i (Qz7.1 hi)
theorem Yk{n:Nat}{f:Nat->Bool}{i:Nat}{b:Bool}:(LD n f).set i b=LD n fun j=>if j=i then b else f j:=by
 unfold LD;apply Qkd;intro j;rw [Qjw,Qxy,Qxy,Qzk,QxA]
 by_cases hj:j<n
 ·rw [Qk5 hj]
  by_cases h:i=j
  ·subst h;simp [hj]
  ·simp [h,Ne.symm h]
 ·rw [Qxe (by simpa using hj)]
  by_cases h:i=j
  ·subst h;simp [hj]
  ·simp [h]
end Go.L
namespace Go.Proofs.YtekmbcbgknmhiaaGreatDoor
open Go Go.L
abbrev LIB:Type:=(Int×(List ((List UInt8)×(List (Int×Int)))))×(Int×(List (((List UInt8)×Int×Int×(List UInt8))×(List Int))))×(List (((List Int))×(List Int)×(List Int)))
def Fnd(L:LIB)(f:Qv->Nat->Bool):Prop:=∀ d q,Sq q->Vq (d+1) q->q.f.1<8->∃ items,Dc L q=some items/\items.length<=100000000/\(∀ x∈items,0<=x/\x<(L.2.2.length:Int))/\∀ i,i<L.2.2.length->f q i=decide ((i:Int)∈items)
theorem Ae6{f:Qv->Nat->Bool}:∀ (d:Nat) (q:Qv) (i:Nat),Vq d q->Gd f (d+1) q i=Gd f d q i
 | 0,_,_,h=>h.elim
 | d+1,q,i,h=>by
  have ih:∀ s∈q.f.2.2.2.2.2.2,Gd f (d+1) s i=Gd f d s i:=fun s hs=>Ae6 d s i (h.2 s hs);rw [RM f (d+1) q i,RM f d q i]
  by_cases b:q.f.1<8
  ·rw [if_pos b,if_pos b]
  ·rw [if_neg b,if_neg b]
   by_cases a:q.f.1=10
   ·rw [if_pos a,if_pos a]
    have hpos:0<q.f.2.2.2.2.2.2.length:=by
     have:=(Nk (O1 h.1).2.1).2.2.2.1 a;omega
    rw [ih _ (Nu hpos)]
   ·rw [if_neg a,if_neg a]
    by_cases h8':q.f.1=8
    ·rw [if_pos h8',if_pos h8',Qz3,Qx9,Qx9];exact⟨fun h s hs=>by rw [<- ih s hs];exact h s hs,fun h s hs=>by rw [ih s hs];exact h s hs⟩
    ·rw [if_neg h8',if_neg h8',Qz3,Qk2,Qk2];exact⟨fun⟨s,hs,h⟩=>⟨s,hs,by rw [<- ih s hs];exact h⟩,fun⟨s,hs,h⟩=>⟨s,hs,by rw [ih s hs];exact h⟩⟩
theorem Ain{L:LIB}{items:List Int}(hn:L.2.2.length<=64)(hl:items.length<=100000000)(hi:∀ x∈items,0<=x/\x<(L.2.2.length:Int)):EZ L items=some (LD L.2.2.length fun i=>decide ((i:Int)∈items)):=by
 unfold EZ BX;simp only [Qq5];rw [Ac U,Qq8]
 have a:Qzz L.2.2.length false=LD L.2.2.length fun i=>decide ((i:Int)∈items.take 0):=by
  unfold LD;apply Qkd;intro j;rw [List.getElem?_replicate,Qxy]
  by_cases hj:j<L.2.2.length
  ·rw [if_pos hj,Qk5 hj];simp
  ·rw [if_neg hj,Qxe (by simpa using hj)];rfl
 have key:∀ (d k:Nat),k+d=items.length->Gl items (LD L.2.2.length (fun i=>decide ((i:Int)∈items.take k)),(k:Int))=some (LD L.2.2.length fun i=>decide ((i:Int)∈items)):=by
  intro d
  induction d with
  | zero=>
   intro k hk;refine AP (m:=some _) ?_;unfold D1 Gk;simp only;rw [if_neg U,Qxk U]
  | succ d ih=>
   intro k hk;have hkl:k<items.length:=by omega
   have hg:items.getD ((k:Int)).toNat Qq2=items[k]:=by rw [Qq8,Qzq,Qzw hkl];rfl
   have hb:=hi _ (Qxj hkl)
   have e:D1 items (LD L.2.2.length (fun i=>decide ((i:Int)∈items.take k)),(k:Int))=some (.inl (LD L.2.2.length (fun i=>decide ((i:Int)∈items.take (k+1))),((k+1:Nat):Int))):=by
    unfold D1;simp only;rw [if_pos U,Ac U,hg,Ac (by rw [NB];exact hb),Ac (by unfold Bz;omega),Yk]
    have:(LD L.2.2.length fun j=>if j=items[k].toNat then true else decide ((j:Int)∈items.take k))=LD L.2.2.length fun i=>decide ((i:Int)∈items.take (k+1)):=Mo fun j hj=>by
     rw [<- List.take_append_getElem hkl]
     by_cases h:j=items[k].toNat
     ·rw [if_pos h];have:(j:Int)=items[k]:=by omega
      refine(decide_eq_true (QzQ.2 (.inr ?_))).symm;rw [this];exact List.mem_singleton_self _
     ·rw [if_neg h];have : ¬ (j:Int)=items[k]:=by omega
      rw [decide_eq_decide,QzQ,Qzf];exact⟨.inl,fun h=>h.resolve_right this⟩
    rw [this]
    rfl
   unfold Gl at ih ⊢;rw [Be e,ih (k+1) U]
 have:=key items.length 0 U;rw [a];exact this
theorem Xh{L:LIB}{f:Qv->Nat->Bool}(hn:L.2.2.length<=64)(hf:Fnd L f):∀ (d:Nat) (q:Qv),Sq q->Vq d q->∀ m,d<=m->Br m L q=some (LD L.2.2.length (Gd f d q))
 | 0,_,_,h,_,_=>h.elim
 | d+1,q,hq,hv,m,hm=>by
  obtain⟨m,rfl⟩:∃ k,m=k+1:=⟨m - 1,by omega⟩;obtain⟨hk,hF,_⟩:=O1 hv.1;have ih:∀ s∈q.f.2.2.2.2.2.2,Br m L s=some (LD L.2.2.length (Gd f d s)):=fun s hs=>Xh hn hf d s (hq.sub hs) (hv.2 s hs) m U
  show CC (Br m) L q=_
  unfold CC GA;rw [Qq5]
  by_cases t:q.f.1<8
  ·obtain⟨items,l,h2,h3,x⟩:=hf d q hq hv t
   have e:LD L.2.2.length (Gd f (d+1) q)=LD L.2.2.length fun i=>decide ((i:Int)∈items):=Mo fun i hi=>by
    rw [Gd,if_pos t,x i hi]
   have hs:=Ain hn h2 h3;rw [decide_eq_true U,if_pos Z]
   show Qq4 (Dc L q) (fun y=>Qq4 (EZ L y) fun u=>some u)=_
   rw [l,Qq5,hs,e]
   rfl
  ·rw [decide_eq_false U,if_neg Bool.false_ne_true];have hlen:q.f.2.2.2.2.2.2.length<=1048576:=hq.open.2.2.2.1
   have hpos:0<q.f.2.2.2.2.2.2.length:=by
    obtain⟨_,_,_,z,k5⟩:=Nk hF
    by_cases c:q.f.1=10
    ·rw [z c];omega
    ·have:=k5 U;omega
   have v:q.f.2.2.2.2.2.2.getD 0 Qq2∈q.f.2.2.2.2.2.2:=Nu hpos;rw [Ac U]
   show Qq4 (Br m L (q.f.2.2.2.2.2.2.getD 0 Qq2)) _=_
   rw [ih _ v,Qq5]
   by_cases c:q.f.1=10
   ·rw [if_pos c];have l:=(Nk hF).2.2.2.1 c
    have key:∀ (k i:Nat),i+k=L.2.2.length->D9 L q (Br m) (LD L.2.2.length (Gd f d (q.f.2.2.2.2.2.2.getD 0 Qq2))) (LD L.2.2.length (fun j=>if j<i then !Gd f d (q.f.2.2.2.2.2.2.getD 0 Qq2) j else Gd f d (q.f.2.2.2.2.2.2.getD 0 Qq2) j),(i:Int))=some (LD L.2.2.length (Gd f (d+1) q)):=by
     intro k
     induction k with
     | zero=>
      intro i hi;refine AP (m:=some _) ?_;unfold BZ;simp only;rw [NB,if_neg U];unfold Ce;rw [Ac U];unfold CH
      have:Go.L.run (BF L q (Br m)) (LD L.2.2.length (fun j=>if j<i then !Gd f d (q.f.2.2.2.2.2.2.getD 0 Qq2) j else Gd f d (q.f.2.2.2.2.2.2.getD 0 Qq2) j),0)=some (LD L.2.2.length (Gd f (d+1) q)):=by
       refine AP (m:=some _) ?_;unfold BF CF;simp only;rw [if_neg (by rw [QzC];show ¬ (0:Int)<((q.f.2.2.2.2.2.2.length - 1:Nat):Int);omega)]
       have e:LD L.2.2.length (fun j=>if j<i then !Gd f d (q.f.2.2.2.2.2.2.getD 0 Qq2) j else Gd f d (q.f.2.2.2.2.2.2.getD 0 Qq2) j)=LD L.2.2.length (Gd f (d+1) q):=Mo fun j hj=>by
        rw [if_pos U,Gd,if_neg t,if_pos c]
       rw [e]
      rw [this]
     | succ k ihk=>
      intro i hi
      have e:BZ L q (Br m) (LD L.2.2.length (Gd f d (q.f.2.2.2.2.2.2.getD 0 Qq2))) (LD L.2.2.length (fun j=>if j<i then !Gd f d (q.f.2.2.2.2.2.2.getD 0 Qq2) j else Gd f d (q.f.2.2.2.2.2.2.getD 0 Qq2) j),(i:Int))=some (.inl (LD L.2.2.length (fun j=>if j<i+1 then !Gd f d (q.f.2.2.2.2.2.2.getD 0 Qq2) j else Gd f d (q.f.2.2.2.2.2.2.getD 0 Qq2) j),((i+1:Nat):Int))):=by
       unfold BZ;simp only;rw [NB,NB,if_pos U,Ac U,Ac U,Ac (by unfold Bz;omega),Qq8,UD U,if_neg U,Yk]
       have:(LD L.2.2.length fun j=>if j=i then !Gd f d (q.f.2.2.2.2.2.2.getD 0 Qq2) i else if j<i then !Gd f d (q.f.2.2.2.2.2.2.getD 0 Qq2) j else Gd f d (q.f.2.2.2.2.2.2.getD 0 Qq2) j)=LD L.2.2.length fun j=>if j<i+1 then !Gd f d (q.f.2.2.2.2.2.2.getD 0 Qq2) j else Gd f d (q.f.2.2.2.2.2.2.getD 0 Qq2) j:=Mo fun j hj=>by
        by_cases h:j=i
        ·subst h;rw [if_pos (show j=j from Z),if_pos (show j<j+1 by omega)]
        ·rw [if_neg h]
         by_cases h2:j<i
         ·rw [if_pos h2,if_pos (show j<i+1 by omega)]
         ·rw [if_neg h2,if_neg (show ¬ j<i+1 by omega)]
       rw [this]
       rfl
      unfold D9 at ihk ⊢;rw [Be e,ihk (i+1) U]
    have:=key L.2.2.length 0 U;have o:LD L.2.2.length (fun j=>if j<0 then !Gd f d (q.f.2.2.2.2.2.2.getD 0 Qq2) j else Gd f d (q.f.2.2.2.2.2.2.getD 0 Qq2) j)=LD L.2.2.length (Gd f d (q.f.2.2.2.2.2.2.getD 0 Qq2)):=Mo fun j hj=>by rw [if_neg U]
    rw [o] at this;exact this
   ·rw [if_neg c];unfold Ce;rw [Ac U]
    -- what has been joined so far
    have one:∀ (s:Qv) (g:Nat->Bool) (k:Int),∀ (n i:Nat),i+n=L.2.2.length->D8 q k (LD L.2.2.length (Gd f d s)) (LD L.2.2.length (fun j=>if j<i then(if q.f.1=8 then g j&&Gd f d s j else g j||Gd f d s j) else g j),(i:Int)) =
      CG k (LD L.2.2.length fun j=>if q.f.1=8 then g j&&Gd f d s j else g j||Gd f d s j):=by
     intro s g k n
     induction n with
     | zero=>
      intro i hi;refine AP ?_;unfold BY;simp only;rw [NB,if_neg U];have e:LD L.2.2.length (fun j=>if j<i then(if q.f.1=8 then g j&&Gd f d s j else g j||Gd f d s j) else g j)=LD L.2.2.length fun j=>if q.f.1=8 then g j&&Gd f d s j else g j||Gd f d s j:=Mo fun j hj=>by rw [if_pos U]
      rw [e]
     | succ n ihn=>
      intro i hi
      have e:BY q k (LD L.2.2.length (Gd f d s)) (LD L.2.2.length (fun j=>if j<i then(if q.f.1=8 then g j&&Gd f d s j else g j||Gd f d s j) else g j),(i:Int))=some (.inl (LD L.2.2.length (fun j=>if j<i+1 then(if q.f.1=8 then g j&&Gd f d s j else g j||Gd f d s j) else g j),((i+1:Nat):Int))):=by
       have st:∀ b:Bool,b=(if q.f.1=8 then g i&&Gd f d s i else g i||Gd f d s i)->(LD L.2.2.length (fun j=>if j<i then(if q.f.1=8 then g j&&Gd f d s j else g j||Gd f d s j) else g j)).set i b=LD L.2.2.length (fun j=>if j<i+1 then(if q.f.1=8 then g j&&Gd f d s j else g j||Gd f d s j) else g j):=fun b hb=>by
        rw [Yk];refine Mo fun j hj=>?_
        by_cases h:j=i
        ·subst h;rw [if_pos (show j=j from Z),if_pos (show j<j+1 by omega),hb]
        ·rw [if_neg h]
         by_cases h2:j<i
         ·rw [if_pos h2,if_pos (show j<i+1 by omega)]
         ·rw [if_neg h2,if_neg (show ¬ j<i+1 by omega)]
       unfold BY;simp only;rw [NB,NB,if_pos U,Ac U,Qq8,UD U,UD U,if_neg (Nat.lt_irrefl i)]
       by_cases h8':q.f.1=8
       ·rw [if_pos h8',Ac U,Ac U,Ac (by unfold Bz;omega),st _ (by rw [if_pos h8'];cases g i <;> rfl)]
        rfl
       ·rw [if_neg h8',Ac U,Ac U,Ac (by unfold Bz;omega),st _ (by rw [if_neg h8'];cases g i <;> rfl)]
        rfl
      unfold D8 at ihn ⊢;rw [Be e,ihn (i+1) U]
    have all:∀ (n k:Nat),k+n=(q.f.2.2.2.2.2.2.drop 1).length->CH L q (Br m) (LD L.2.2.length (fun j=>if q.f.1=8 then(q.f.2.2.2.2.2.2.take (k+1)).all fun s=>Gd f d s j else(q.f.2.2.2.2.2.2.take (k+1)).any fun s=>Gd f d s j),(k:Int))=some (LD L.2.2.length (Gd f (d+1) q)):=by
     intro n
     induction n with
     | zero=>
      intro k hk;refine AP (m:=some _) ?_;unfold BF CF;simp only;rw [if_neg (by show ¬ (k:Int)<((q.f.2.2.2.2.2.2.drop 1).length:Int);omega)];rw [QzC] at hk
      have e:LD L.2.2.length (fun j=>if q.f.1=8 then(q.f.2.2.2.2.2.2.take (k+1)).all fun s=>Gd f d s j else(q.f.2.2.2.2.2.2.take (k+1)).any fun s=>Gd f d s j)=LD L.2.2.length (Gd f (d+1) q):=Mo fun j hj=>by
       rw [Gd,if_neg t,if_neg c,Qxk U]
      rw [e]
     | succ n ihn=>
      intro k hk;have w:k<(q.f.2.2.2.2.2.2.drop 1).length:=by omega
      have p:k+1<q.f.2.2.2.2.2.2.length:=by rw [QzC] at w;omega
      have hgs:(q.f.2.2.2.2.2.2.drop (1:Int).toNat).getD ((k:Int)).toNat Qq2=q.f.2.2.2.2.2.2[k+1]:=by
       show(q.f.2.2.2.2.2.2.drop 1).getD ((k:Int)).toNat Qq2=_
       rw [Qq8,Qzq,Qxv,Nat.add_comm 1 k,Qzw p]
       rfl
      have e:BF L q (Br m) (LD L.2.2.length (fun j=>if q.f.1=8 then(q.f.2.2.2.2.2.2.take (k+1)).all fun s=>Gd f d s j else(q.f.2.2.2.2.2.2.take (k+1)).any fun s=>Gd f d s j),(k:Int))=some (.inl (LD L.2.2.length (fun j=>if q.f.1=8 then(q.f.2.2.2.2.2.2.take (k+1+1)).all fun s=>Gd f d s j else(q.f.2.2.2.2.2.2.take (k+1+1)).any fun s=>Gd f d s j),((k+1:Nat):Int))):=by
       unfold BF;simp only;rw [if_pos (by show(k:Int)<((q.f.2.2.2.2.2.2.drop 1).length:Int);omega),Ac (by show 0<=(k:Int)/\(k:Int)<((q.f.2.2.2.2.2.2.drop 1).length:Int);omega),hgs]
       show Qq4 (Br m L q.f.2.2.2.2.2.2[k+1]) _=_
       rw [ih _ (Qxj p),Qq5];have l:=one q.f.2.2.2.2.2.2[k+1] (fun j=>if q.f.1=8 then(q.f.2.2.2.2.2.2.take (k+1)).all fun s=>Gd f d s j else(q.f.2.2.2.2.2.2.take (k+1)).any fun s=>Gd f d s j) (k:Int) L.2.2.length 0 U;have o:∀ (g h:Nat->Bool),LD L.2.2.length (fun j=>if j<0 then h j else g j)=LD L.2.2.length g:=fun g h=>Mo fun j hj=>by rw [if_neg U]
       rw [o] at l;refine Eq.trans l ?_;unfold CG;rw [Ac (by unfold Bz;omega)]
       have:(LD L.2.2.length fun j=>if q.f.1=8 then(if q.f.1=8 then(q.f.2.2.2.2.2.2.take (k+1)).all fun s=>Gd f d s j else(q.f.2.2.2.2.2.2.take (k+1)).any fun s=>Gd f d s j)&&Gd f d q.f.2.2.2.2.2.2[k+1] j else(if q.f.1=8 then(q.f.2.2.2.2.2.2.take (k+1)).all fun s=>Gd f d s j else(q.f.2.2.2.2.2.2.take (k+1)).any fun s=>Gd f d s j)||Gd f d q.f.2.2.2.2.2.2[k+1] j) =
         LD L.2.2.length (fun j=>if q.f.1=8 then(q.f.2.2.2.2.2.2.take (k+1+1)).all fun s=>Gd f d s j else(q.f.2.2.2.2.2.2.take (k+1+1)).any fun s=>Gd f d s j):=Mo fun j hj=>by
        rw [<- List.take_append_getElem p]
        by_cases h8':q.f.1=8
        ·rw [if_pos h8',if_pos h8',if_pos h8',List.all_append,QxE,List.all_nil,Bool.and_true]
        ·rw [if_neg h8',if_neg h8',if_neg h8',List.any_append,Qkj,List.any_nil,Qk6]
       rw [this]
       rfl
      unfold CH at ihn ⊢;rw [Be e,ihn (k+1) U]
    have:=all (q.f.2.2.2.2.2.2.drop 1).length 0 U
    have o:LD L.2.2.length (fun j=>if q.f.1=8 then(q.f.2.2.2.2.2.2.take (0+1)).all fun s=>Gd f d s j else(q.f.2.2.2.2.2.2.take (0+1)).any fun s=>Gd f d s j)=LD L.2.2.length (Gd f d (q.f.2.2.2.2.2.2.getD 0 Qq2)):=Mo fun j hj=>by
     have ht:q.f.2.2.2.2.2.2.take (0+1)=[q.f.2.2.2.2.2.2.getD 0 Qq2]:=by
      cases hl:q.f.2.2.2.2.2.2 with
      | nil=>rw [hl] at hpos;simp at hpos
      | cons a r=>rfl
     rw [ht]
     by_cases h8':q.f.1=8
     ·simp [h8']
     ·simp [h8']
    rw [o] at this;exact this
end Go.Proofs.YtekmbcbgknmhiaaGreatDoor
end
noncomputable section
namespace Go.L
open Go
def its(n:Nat)(f g:Nat->Bool):List Int:=((Qzv n).filter fun i=>f i&&g i).map fun i:Nat=>(i:Int)
theorem Aio(n:Nat)(f g:Nat->Bool):(its n f g).length<=n:=by
 unfold its;have:=Qk3 (fun j=>f j&&g j) (Qzv n);rw [QxA] at this;rw [Qzk];omega
theorem Ac8{n:Nat}{f f' g:Nat->Bool}(h:∀ i,f i=f' i):its n f g=its n f' g:=by rw [funext h]
end Go.L
namespace Go.Proofs.YtekmbcbgknmhiaaGreatDoor
open Go Go.L
theorem Zk{n:Nat}{f:Nat->Bool}{vis:List Bool}(hn:n<=64)(hv:vis.length=n):∀ (k i:Nat),i+k=n->Gn vis (LD n f) (((Qzv i).filter fun j=>f j&&vis.getD j Qq2).map (fun j:Nat=>(j:Int)),(i:Int))=some (its n f fun j=>vis.getD j Qq2,(0,0))
 | 0,i,h=>by
  obtain rfl:i=n:=by omega
  refine AP (m:=some _) ?_;unfold D2 Gm;simp only;rw [NB,if_neg U]
  rfl
 | k+1,i,h=>by
  have hr:(Qzv (i+1)).filter (fun j=>f j&&vis.getD j Qq2)=(Qzv i).filter (fun j=>f j&&vis.getD j Qq2)++(if f i&&vis.getD i Qq2 then[i] else[]):=by
   rw [Qx2,List.filter_append,List.filter_cons,List.filter_nil]
  have hlen:((Qzv i).filter fun j=>f j&&vis.getD j Qq2).length<=64:=by
   have:=Qk3 (fun j=>f j&&vis.getD j Qq2) (Qzv i);rw [QxA] at this;omega
  have e:D2 vis (LD n f) (((Qzv i).filter fun j=>f j&&vis.getD j Qq2).map (fun j:Nat=>(j:Int)),(i:Int))=some (.inl (((Qzv (i+1)).filter fun j=>f j&&vis.getD j Qq2).map (fun j:Nat=>(j:Int)),((i+1:Nat):Int))):=by
   unfold D2;simp only;rw [NB,if_pos U,Ac U,Qq8,UD U,hr]
   by_cases a:f i=true
   ·rw [if_pos a,Ac U]
    by_cases h2:vis.getD i Qq2=true
    ·rw [if_pos h2,Ac (by unfold Go.E.HK;simp only [Qzk,Qzj,Qze];omega),Ac (by unfold Bz;omega),a,h2];simp
    ·rw [if_neg h2,Ac (by unfold Bz;omega),a];rw [Bool.not_eq_true] at h2;rw [h2];simp
   ·rw [if_neg a,Ac (by unfold Bz;omega)];rw [Bool.not_eq_true] at a;rw [a];simp
  have ih:=Zk (f:=f) hn hv k (i+1) U;unfold Gn at ih ⊢;rw [Be e,ih]
def Aa2(n:Nat)(f:Qv->Nat->Bool)(vis:List Bool)(q:Qv):List Int×(Int×Int):=
 if(Yj q).1=0 then(if vis.length=n then(its n (Gd f 8 q) fun j=>vis.getD j Qq2,(0,0)) else([],(9,-2))) else([],Yj q)
theorem AbA{L:LIB}{f:Qv->Nat->Bool}(hn:L.2.2.length<=64)(hf:Fnd L f){q:Qv}(hq:Sq q){vis:List Bool}:Cy L q vis=some (Aa2 L.2.2.length f vis q):=by
 unfold Cy Aa2;rw [QO hq,Qq5]
 by_cases h:(Yj q).1=0
 ·obtain⟨hv,_,_,a⟩:=VF h;rw [if_pos (by rw [a];exact⟨Z,Z⟩),if_pos h];unfold BX Cn;simp only [Qq5]
  by_cases hl:vis.length=L.2.2.length
  ·rw [if_pos U,if_pos hl];have hm:Fi L q=some (LD L.2.2.length (Gd f 8 q)):=Xh hn hf 8 q hq hv 1000 U
   show Qq4 (Fi L q) _=_
   rw [hm,Qq5];exact Zk hn hl L.2.2.length 0 U
  ·rw [if_neg U,if_neg hl]
 ·rw [if_neg (fun e=>h e.1),if_neg h]
end Go.Proofs.YtekmbcbgknmhiaaGreatDoor
end
noncomputable section
namespace Go.L
open Go
def Dp:Nat->Qv->Prop
 | 0,_=>False
 | n+1,q=>∀ s∈q.f.2.2.2.2.2.2,Dp n s
end Go.L
namespace Go.Proofs.YtekmbcbgknmhiaaGreatDoor
open Go Go.L
theorem Vq.dp:∀ {n:Nat} {q:Qv},Vq n q->Dp n q
 | 0,_,h=>h.elim
 | _+1,_,h=>fun s hs=>Vq.dp (h.2 s hs)
theorem Sq.mk{k:Int}{ss:List Qv}(hl:ss.length<=1048576)(h:∀ s∈ss,Sq s):Sq (.mk k [] [] [] 0 0 ss):=fun d=>by
 cases d with
 | zero=>exact trivial
 | succ d=>exact⟨by simp [Qf],by simp [Qf],by simp [Qf],hl,by simp [Qf],(show Bz 0 from⟨by decide,by decide⟩),(show Bz 0 from⟨by decide,by decide⟩),fun s hs=>h s hs d⟩
theorem Aa3(l:List (List UInt8))(hl:l.length<=1000000000):M8 l l=some true:=by
 unfold M8 MR;rw [if_pos Z];refine DM (fun i=>(i:Int)) l.length (fun i hi=>?_) ?_ 0 (hi:=(by omega))
 ·unfold IU;rw [if_pos U,Ac ⟨by omega,by omega⟩,Ac ⟨by omega,by omega⟩,if_pos Z,Ac (by constructor <;> omega)]
  rfl
 ·unfold IU KN;rw [if_neg U]
theorem Ae7:∀ (n:Nat) (q:Qv),Sq q->Dp n q->∀ m,n<=m->G2 m q q=some true
 | 0,_,_,h,_,_=>h.elim
 | n+1,q,hq,hd,m,hm=>by
  obtain⟨m,rfl⟩:∃ k,m=k+1:=⟨m - 1,by omega⟩;have hl:=hq.len
  show E2 _ q q=_
  unfold E2 IS;rw [if_neg Qqd,Qq5,if_neg Qqd,Aa3 _ (by have:=hq.open.1;omega),Qq5,if_neg Qqd];refine DM (fun i=>(i:Int)) q.f.2.2.2.2.2.2.length (fun i hi=>?_) ?_ 0 (hi:=(by omega))
  ·unfold DS;rw [if_pos U,Ac ⟨by omega,by omega⟩,Ac ⟨by omega,by omega⟩,Qq8,Ae7 n _ (hq.sub (Nu hi)) (hd _ (Nu hi)) m U,Qq5,if_neg Qqc,Ac (by constructor <;> omega)]
   rfl
  ·unfold DS FN;rw [if_neg U]
theorem Ae8{n:Nat}{q:Qv}(hq:Sq q)(hd:Dp n q)(hn:n<=1000):EM q q=some true:=Ae7 n q hq hd 1000 hn
theorem Aip:EM (.mk 0 [] [] [] 0 0 []) (.mk 0 [] [] [] 0 0 [])=some true:=Ae8 (n:=1) (Sq.mk Qqd (fun s hs=>by cases hs)) (fun s hs=>by cases hs) U
end Go.Proofs.YtekmbcbgknmhiaaGreatDoor
end
noncomputable section
namespace Go.L
open Go
def KX(f:Qv->Qv)(c:Int)(l:List Qv):List Qv:=l.flatMap fun s=>if(f s).f.1=c then(f s).f.2.2.2.2.2.2 else[f s]
def Lk:Nat->Qv->Bool->Qv
 | 0,q,_=>q
 | n+1,q,b=>if q.f.1=10 then Lk n (q.f.2.2.2.2.2.2.getD 0 Qq2) (!b) else if q.f.1<8 then(if b then .mk 10 [] [] [] 0 0 [q] else q)
  else .mk (if b then 17 - q.f.1 else q.f.1) [] [] [] 0 0 (KX (fun s=>Lk n s b) (if b then 17 - q.f.1 else q.f.1) q.f.2.2.2.2.2.2)
end Go.L
namespace Go.Proofs.YtekmbcbgknmhiaaGreatDoor
open Go Go.L
theorem Zl{q:Qv}(h:Frm q=true)(hk:q.f.1<8):q.f.2.2.2.2.2.2=[]:=by
 unfold Frm at h;simp only [Qzb] at h;have:=h.2;rw [if_neg U,if_neg U] at this
 simpa using this
theorem Aa4{q:Qv}(hq:Sq q)(h:q.f.2.2.2.2.2.2=[]):Kx q=some q:=by
 obtain⟨a,_,b,_⟩:=hq.open
 show F7 _ q=_
 unfold F7 Cv Em;rw [Ac (by constructor <;> simp <;> omega),Qq5,Ac (by constructor <;> simp <;> omega),Qq5];refine AP (m:=some q) ?_;unfold Gi GS;simp only;rw [h,if_neg Qqd];simp only [Qxz,QkK];obtain⟨k,ws,p,d,l,hh,ss⟩:=q;rw [Qf] at h;subst h
 rfl
theorem Xi{l:List Qv}(hl:l.length<=2000000){g:Qv->Qv}{c:Int}{N:Nat}(hN:∀ o:List Qv,(o++KX g c l).length<=N+o.length)(hN':N<=1000000){b:List Qv×Int->Option ((List Qv×Int) ⊕ Qv)}{m:List Qv->Option Qv}
  (a:∀ (i:Nat) (o:List Qv),i<l.length->o.length+(if(g (l.getD i Qq2)).f.1=c then(g (l.getD i Qq2)).f.2.2.2.2.2.2 else[g (l.getD i Qq2)]).length<=1000000->
   b (o,(i:Int))=some (.inl (o++(if(g (l.getD i Qq2)).f.1=c then(g (l.getD i Qq2)).f.2.2.2.2.2.2 else[g (l.getD i Qq2)]),(i:Int)+1)))
  (h2:∀ o:List Qv,b (o,(l.length:Int))=(m o).map Sum.inr):Go.L.run b ([],0)=m (KX g c l):=by
 have hlen:=hN []
 have key:∀ (d i:Nat) (o:List Qv),i+d=l.length->o++KX g c (l.drop i)=KX g c l->Go.L.run b (o,(i:Int))=m (KX g c l):=by
  intro d
  induction d with
  | zero=>
   intro i o hi ho;rw [Qz1 U] at ho;rw [show i=l.length by omega,AP (h2 o),<- ho];simp [KX]
  | succ d ih=>
   intro i o hi ho;have hil:i<l.length:=by omega
   rw [drop_cons hil,KX,Qz6] at ho
   have hb:=a i o hil (by
    have:=congrArg Qxu ho;simp only [Qxz,Qzu,Qze] at this hlen;omega)
   rw [Be hb];exact ih (i+1) _ U (by rw [Qxd];exact ho)
 exact key l.length 0 [] U Z
theorem Xj{g:Qv->Qv}{c:Int}{h:Qv->Nat}:∀ {l:List Qv},(∀ s∈l,(g s).f.2.2.2.2.2.2.length<=h s/\1<=h s)->(KX g c l).length<=(l.map h).sum
 | [],_=>by simp [KX]
 | s::l,hs=>by
  have a:=hs s (QzJ ..);have:=Xj (g:=g) (c:=c) fun x hx=>hs x (QzA _ hx);unfold KX at this ⊢;rw [Qz6,Qzu,Qzd,List.sum_cons]
  split
  ·omega
  ·simp only [Qzj,Qze];omega
theorem Aa5:∀ (n:Nat) (q:Qv) (b:Bool),Sq q->Vq n q->nq n q<=200->(∀ m,n<=m->Gb m q b=some (Lk n q b)/\OG m q b=some (Lk n q b))/\Sq (Lk n q b)/\(Lk n q b).f.2.2.2.2.2.2.length<=nq n q
 | 0,_,_,_,h,_=>h.elim
 | n+1,q,b,hq,hv,hc=>by
  obtain⟨hk,hF,_⟩:=O1 hv.1;have hsl:=hq.open.2.2.2.1
  have hsum:∀ s∈q.f.2.2.2.2.2.2,nq n s<=200:=fun s hs=>by
   have:=Yi (g:=nq n) hs;unfold nq at hc;omega
  have ih:∀ s∈q.f.2.2.2.2.2.2,∀ b,_:=fun s hs b=>Aa5 n s b (hq.sub hs) (hv.2 s hs) (hsum s hs)
  by_cases a:q.f.1=10
  ·have r:=(Nk hF).2.2.2.1 a;have hm:=Nu (l:=q.f.2.2.2.2.2.2) (i:=0) U;obtain⟨j,p,t⟩:=ih _ hm (!b);have hnn:=Yi (g:=nq n) hm;refine⟨fun m hm=>?_,?_⟩
   ·obtain⟨m,rfl⟩:∃ k,m=k+1:=⟨m - 1,by omega⟩;obtain⟨j1,j2⟩:=j m U
    show Cw _ q b=_/\G3 _ q b=_
    unfold Cw G3 Lk;rw [if_pos a,if_pos a,if_pos a,Ac ⟨by omega,by omega⟩,Ac ⟨by omega,by omega⟩];rw [show((0:Int).toNat)=0 from Z,j1,j2];exact⟨Z,Z⟩
   ·unfold Lk nq;rw [if_pos a];exact⟨p,by omega⟩
  by_cases d:q.f.1<8
  ·have hs:=Zl hF d;refine⟨fun m hm=>?_,?_⟩
   ·obtain⟨m,rfl⟩:∃ k,m=k+1:=⟨m - 1,by omega⟩
    show Cw _ q b=_/\G3 _ q b=_
    unfold Cw G3 Lk GA;rw [if_neg a,if_neg a,if_neg a,if_pos d,if_pos d,Aa4 hq hs];simp only [Qq5,decide_eq_true (show 1<=q.f.1/\q.f.1<=7 by omega),cond_true,if_true]
    cases b <;> exact⟨Z,Z⟩
   ·unfold Lk nq;rw [if_neg a,if_pos d]
    cases b with
    | false=>exact⟨hq,by rw [if_neg Qqc,hs];simp⟩
    | true=>exact⟨Sq.mk Qqd (fun s hs=>by rw [Qzf.1 hs];exact hq),by rw [if_pos Z,Qf];simp⟩
  ·have hnl:(KX (fun s=>Lk n s b) (if b then 17 - q.f.1 else q.f.1) q.f.2.2.2.2.2.2).length<=(q.f.2.2.2.2.2.2.map (nq n)).sum:=Xj fun s hs=>⟨(ih s hs b).2.2,Ajd (hv.2 s hs)⟩;have hcc:=hc;unfold nq at hcc;refine⟨fun m hm=>?_,?_⟩
   ·obtain⟨m,rfl⟩:∃ k,m=k+1:=⟨m - 1,by omega⟩
    show Cw _ q b=_/\G3 _ q b=_
    have kA:∀ c,(KX (fun s=>Lk n s b) c q.f.2.2.2.2.2.2).length<=(q.f.2.2.2.2.2.2.map (nq n)).sum->E9 q b (Gb m) c=some (.mk c [] [] [] 0 0 (KX (fun s=>Lk n s b) c q.f.2.2.2.2.2.2)):=fun c hc=>by
     refine Xi (N:=200) U (fun o=>by rw [Qzu];omega) U (m:=fun o=>some (.mk c [] [] [] 0 0 o)) (fun i o hi ho=>?_) (fun o=>?_)
     ·obtain⟨e,_⟩:=(ih _ (Nu hi) b).1 m U;unfold Er;simp only;rw [if_pos U,Ac ⟨by omega,by omega⟩,Qq8,e,Qq5]
      split
      ·rename_i hx;rw [if_pos hx] at ho;rw [Ac (by constructor <;> omega),Ac (by constructor <;> omega)]
      ·rename_i hx;rw [if_neg hx] at ho;rw [Ac (by constructor <;> omega),Ac (by constructor <;> omega)]
     ·unfold Er;simp only;rw [if_neg U]
      rfl
    have kB:∀ c,(KX (fun s=>Lk n s b) c q.f.2.2.2.2.2.2).length<=(q.f.2.2.2.2.2.2.map (nq n)).sum->KB q b (OG m) c=some (.mk c [] [] [] 0 0 (KX (fun s=>Lk n s b) c q.f.2.2.2.2.2.2)):=fun c hc=>by
     refine Xi (N:=200) U (fun o=>by rw [Qzu];omega) U (m:=fun o=>some (.mk c [] [] [] 0 0 o)) (fun i o hi ho=>?_) (fun o=>?_)
     ·obtain⟨_,e⟩:=(ih _ (Nu hi) b).1 m U;unfold Kl;simp only;rw [if_pos U,Ac ⟨by omega,by omega⟩,Qq8,e,Qq5]
      split
      ·rename_i hx;rw [if_pos hx] at ho;rw [Ac (by constructor <;> omega),Ac (by constructor <;> omega)]
      ·rename_i hx;rw [if_neg hx] at ho;rw [Ac (by constructor <;> omega),Ac (by constructor <;> omega)]
     ·unfold Kl;simp only;rw [if_neg U]
      rfl
    unfold Cw G3 Lk GA;rw [if_neg a,if_neg a,if_neg a,if_neg d,if_neg d];simp only [Qq5,decide_eq_false (show ¬ (1<=q.f.1/\q.f.1<=7) by omega),cond_false,QzB,if_false]
    cases b with
    | false=>
     simp only [QzB,if_false] at hnl ⊢;exact⟨kA _ hnl,kB _ hnl⟩
    | true=>
     simp only [if_true] at hnl ⊢;rw [Ac (by constructor <;> omega),Ac (by constructor <;> omega)];exact⟨kA _ hnl,kB _ hnl⟩
   ·unfold Lk nq;rw [if_neg a,if_neg d];refine⟨Sq.mk U fun s hs=>?_,by rw [Qf];simp only;omega⟩;unfold KX at hs;generalize (if b=true then 17 - q.f.1 else q.f.1)=c at hs;obtain⟨x,hx,hs⟩:=List.mem_flatMap.1 hs
    split at hs
    ·exact(ih x hx b).2.1.sub hs
    ·rw [Qzf.1 hs];exact(ih x hx b).2.1
theorem Xk{q:Qv}(hq:Sq q):HA q=some (if(Yj q).1=0 then(if(Yj (Lk 8 q false)).1=0 then(Lk 8 q false,(0,0)) else(.mk 0 [] [] [] 0 0 [],(14,-1))) else(.mk 0 [] [] [] 0 0 [],Yj q)):=by
 unfold HA;rw [QO hq,Qq5]
 by_cases h:(Yj q).1=0
 ·obtain⟨hv,hc,_,a⟩:=VF h;obtain⟨b,c,_⟩:=Aa5 8 q false hq hv U;rw [if_pos (by rw [a];exact⟨Z,Z⟩),if_pos h];unfold KU;rw [(b 1000 U).1,Qq5,QO c,Qq5]
  by_cases h2:(Yj (Lk 8 q false)).1=0
  ·rw [if_pos (by rw [(VF h2).2.2.2];exact⟨Z,Z⟩),if_pos h2]
  ·rw [if_neg (fun e=>h2 e.1),if_neg h2]
   rfl
 ·rw [if_neg (fun e=>h e.1),if_neg h]
  rfl
end Go.Proofs.YtekmbcbgknmhiaaGreatDoor
end
noncomputable section
namespace Go.L
open Go
def Nd:Nat->Qv->Prop
 | 0,_=>False
 | d+1,q=>(q.f.1=10->q.f.2.2.2.2.2.2≠[])/\∀ s∈q.f.2.2.2.2.2.2,Nd d s
theorem Nd.up:∀ {d:Nat} {q:Qv},Nd d q->Nd (d+1) q
 | 0,_,h=>h.elim
 | _+1,_,h=>⟨h.1,fun s hs=>Nd.up (h.2 s hs)⟩
theorem Nd.le{d e:Nat}(h:d<=e){q:Qv}(hq:Nd d q):Nd e q:=by
 induction h with
 | refl=>exact hq
 | step _ ih=>exact ih.up
def NF:Nat->Qv->Prop
 | 0,_=>False
 | d+1,q=>(q.f.1<8/\q.f.2.2.2.2.2.2=[])\/(1<=d/\∃ s,q=.mk 10 [] [] [] 0 0 [s]/\s.f.1<8/\s.f.2.2.2.2.2.2=[])\/
  ((q.f.1=8\/q.f.1=9)/\(q=.mk q.f.1 [] [] [] 0 0 q.f.2.2.2.2.2.2)/\∀ s∈q.f.2.2.2.2.2.2,NF d s/\s.f.1≠q.f.1)
theorem NF.up:∀ {d:Nat} {q:Qv},NF d q->NF (d+1) q
 | 0,_,h=>h.elim
 | _+1,_,h=>h.imp id fun h=>h.imp (fun h=>⟨by omega,h.2⟩) fun h=>⟨h.1,h.2.1,fun s hs=>⟨NF.up (h.2.2 s hs).1,(h.2.2 s hs).2⟩⟩
theorem Zm{α β:Type}(p:β->Bool)(g:α->List β):∀ l:List α,(l.flatMap g).all p=l.all fun a=>(g a).all p
 | []=>rfl
 | a::l=>by rw [Qz6,List.all_append,Zm p g l,QxE]
theorem Zn{α β:Type}(p:β->Bool)(g:α->List β):∀ l:List α,(l.flatMap g).any p=l.any fun a=>(g a).any p
 | []=>rfl
 | a::l=>by rw [Qz6,List.any_append,Zn p g l,Qkj]
theorem SK{α:Type}{p q:α->Bool}{l:List α}(h:∀ x∈l,p x=q x):l.all p=l.all q:=by
 rw [Qz3,Qx9,Qx9];exact⟨fun k x hx=>by rw [<- h x hx];exact k x hx,fun k x hx=>by rw [h x hx];exact k x hx⟩
theorem SL{α:Type}{p q:α->Bool}{l:List α}(h:∀ x∈l,p x=q x):l.any p=l.any q:=by
 rw [Qz3,Qk2,Qk2];exact⟨fun⟨x,hx,k⟩=>⟨x,hx,by rw [<- h x hx];exact k⟩,fun⟨x,hx,k⟩=>⟨x,hx,by rw [h x hx];exact k⟩⟩
theorem AgA{α:Type}(p:α->Bool)(l:List α):(!l.all p)=l.any fun x=>!p x:=by
 induction l with
 | nil=>rfl
 | cons a l ih=>rw [QxE,Qkj,Bool.not_and,ih]
theorem AgB{α:Type}(p:α->Bool)(l:List α):(!l.any p)=l.all fun x=>!p x:=by
 induction l with
 | nil=>rfl
 | cons a l ih=>rw [Qkj,QxE,Bool.not_or,ih]
theorem Aa6{f:Qv->Nat->Bool}{i:Nat}:∀ (d:Nat) (q:Qv),Nd d q->∀ m,d<=m->Gd f m q i=Gd f d q i
 | 0,_,h,_,_=>h.elim
 | d+1,q,h,m,hm=>by
  obtain⟨m,rfl⟩:∃ k,m=k+1:=⟨m - 1,by omega⟩;have ih:∀ s∈q.f.2.2.2.2.2.2,Gd f m s i=Gd f d s i:=fun s hs=>Aa6 d s (h.2 s hs) m U;rw [RM f m q i,RM f d q i]
  by_cases c:q.f.1<8
  ·rw [if_pos c,if_pos c]
  ·rw [if_neg c,if_neg c]
   by_cases b:q.f.1=10
   ·rw [if_pos b,if_pos b];obtain⟨a,r,e⟩:=QkC (h.1 b);have:=ih a (by rw [e];exact QzJ ..);rw [e]
    show(!Gd f m a i) = !Gd f d a i
    rw [this]
   ·rw [if_neg b,if_neg b,SK ih,SL ih]
end Go.L
namespace Go.Proofs.YtekmbcbgknmhiaaGreatDoor
open Go Go.L
theorem Aiq(f:Qv->Nat->Bool)(d:Nat)(k:Int)(ss:List Qv)(i:Nat)(b : ¬ k<8)(a:k≠10):Gd f (d+1) (.mk k [] [] [] 0 0 ss) i=if k=8 then ss.all fun s=>Gd f d s i else ss.any fun s=>Gd f d s i:=by
 rw [RM f d,Qf];simp only;rw [if_neg b,if_neg a]
theorem AgC(f:Qv->Nat->Bool)(d:Nat)(s:Qv)(i:Nat):Gd f (d+1) (.mk 10 [] [] [] 0 0 [s]) i = !Gd f d s i:=by
 rw [RM f d,Qf];simp only;rw [if_neg (show ¬ (10:Int)<8 by decide),if_pos True.intro]
 rfl
theorem T6{f:Qv->Nat->Bool}{i:Nat}:∀ (n:Nat) (q:Qv) (b:Bool),Sq q->Vq n q->Nd (n+1) (Lk n q b)/\NF (n+1) (Lk n q b)/\Gd f (n+1) (Lk n q b) i=(Gd f n q i !=b)
 | 0,_,_,_,h=>h.elim
 | n+1,q,b,hq,hv=>by
  obtain⟨hk,hF,_⟩:=O1 hv.1;have ih:∀ s∈q.f.2.2.2.2.2.2,∀ c,Nd (n+1) (Lk n s c)/\NF (n+1) (Lk n s c)/\Gd f (n+1) (Lk n s c) i=(Gd f n s i !=c):=fun s hs c=>T6 n s c (hq.sub hs) (hv.2 s hs);rw [Lk]
  by_cases a:q.f.1=10
  ·rw [if_pos a];have r:=(Nk hF).2.2.2.1 a;have hm:=Nu (l:=q.f.2.2.2.2.2.2) (i:=0) U;obtain⟨d,j,k⟩:=ih _ hm (!b);refine⟨d.up,j.up,?_⟩;rw [Aa6 (n+1) _ d (n+1+1) U,k,RM f n q i,if_neg U,if_pos a]
   cases Gd f n (q.f.2.2.2.2.2.2.getD 0 Qq2) i <;> cases b <;> rfl
  ·rw [if_neg a]
   by_cases g:q.f.1<8
   ·rw [if_pos g];have hl:=Zl hF g;have hnd:Nd 1 q:=⟨fun e=>absurd e a,fun s hs=>by rw [hl] at hs;cases hs⟩;have hev:∀ m,Gd f (m+1) q i=f q i:=fun m=>by rw [RM f m q i,if_pos g]
    cases b with
    | false=>
     simp only [QzB,if_false];refine⟨hnd.le U,.inl ⟨g,hl⟩,?_⟩;rw [hev,hev]
     cases f q i <;> rfl
    | true=>
     simp only [if_true];refine⟨⟨fun _ e=>absurd e (List.cons_ne_nil _ _),fun s hs=>?_⟩,.inr (.inl ⟨by omega,q,Z,g,hl⟩),?_⟩
     ·obtain rfl:=Qzf.1 hs;exact hnd.le U
     rw [AgC,hev]
     cases f q i <;> rfl
   ·rw [if_neg g];have p:q.f.1=8\/q.f.1=9:=by omega
    generalize hc:(if b then 17 - q.f.1 else q.f.1)=c;have o:c=8\/c=9:=by rw [<- hc];cases b <;> simp only [QzB,if_false,if_true] <;> omega
    have hsub:∀ u∈KX (fun s=>Lk n s b) c q.f.2.2.2.2.2.2,(Nd (n+1) u/\NF (n+1) u/\u.f.1≠c):=fun u hu=>by
     obtain⟨s,hs,hu⟩:=List.mem_flatMap.1 hu;obtain⟨d,j,_⟩:=ih s hs b
     by_cases e:(Lk n s b).f.1=c
     ·rw [if_pos e] at hu;refine⟨(d.2 u hu).up,?_⟩
      rcases j with ⟨h,_⟩ | ⟨_,t,h,_⟩ | ⟨_,_,h⟩
      ·omega
      ·rw [h] at e;have:(10:Int)=c:=e;omega
      ·exact⟨(h u hu).1.up,by rw [<- e];exact(h u hu).2⟩
     ·rw [if_neg e] at hu;obtain rfl:=Qzf.1 hu;exact⟨d,j,e⟩
    have hone:∀ s∈q.f.2.2.2.2.2.2,(if c=8 then(if(Lk n s b).f.1=c then(Lk n s b).f.2.2.2.2.2.2 else[Lk n s b]).all fun u=>Gd f (n+1) u i else(if(Lk n s b).f.1=c then(Lk n s b).f.2.2.2.2.2.2 else[Lk n s b]).any fun u=>Gd f (n+1) u i)=(Gd f n s i !=b):=fun s hs=>by
     obtain⟨d,j,k⟩:=ih s hs b
     by_cases e:(Lk n s b).f.1=c
     ·have hs':=RM f n (Lk n s b) i;rw [e,if_neg (show ¬ c<8 by omega),if_neg (show ¬ c=10 by omega)] at hs';rw [if_pos e,<- k,hs'];have hcg:∀ u∈(Lk n s b).f.2.2.2.2.2.2,Gd f (n+1) u i=Gd f n u i:=fun u hu=>Aa6 n u (d.2 u hu) (n+1) U;rw [SK hcg,SL hcg]
     ·rw [if_neg e,QxE,List.all_nil,Qkj,List.any_nil,k,Bool.and_true,Qk6]
      split <;> rfl
    refine⟨⟨fun h=>absurd h (by show ¬ c=10;omega),fun u hu=>(hsub u hu).1⟩,.inr (.inr ⟨o,Z,fun u hu=>⟨(hsub u hu).2.1,(hsub u hu).2.2⟩⟩),?_⟩;rw [Aiq _ _ _ _ _ U U,RM f n q i,if_neg g,if_neg a];unfold KX;rw [Zm,Zn]
    by_cases c8:c=8
    ·rw [if_pos c8]
     have:∀ s∈q.f.2.2.2.2.2.2,(if(Lk n s b).f.1=c then(Lk n s b).f.2.2.2.2.2.2 else[Lk n s b]).all (fun u=>Gd f (n+1) u i)=(Gd f n s i !=b):=fun s hs=>by
      have:=hone s hs
      rwa [if_pos c8] at this
     rw [SK this]
     cases b with
     | false=>
      have:q.f.1=8:=by simpa [c8] using hc
      rw [if_pos this];simp
     | true=>
      have : ¬ q.f.1=8:=by simp only [if_true] at hc;omega
      rw [if_neg this,Bool.bne_true,AgB];exact SK fun x _=>Bool.bne_true _
    ·rw [if_neg c8]
     have:∀ s∈q.f.2.2.2.2.2.2,(if(Lk n s b).f.1=c then(Lk n s b).f.2.2.2.2.2.2 else[Lk n s b]).any (fun u=>Gd f (n+1) u i)=(Gd f n s i !=b):=fun s hs=>by
      have:=hone s hs
      rwa [if_neg c8] at this
     rw [SL this]
     cases b with
     | false=>
      have : ¬ q.f.1=8:=by simp only [QzB,if_false] at hc;omega
      rw [if_neg this];simp
     | true=>
      have:q.f.1=8:=by simp only [if_true] at hc;omega
      rw [if_pos this,Bool.bne_true,AgA];exact SL fun x _=>Bool.bne_true _
theorem Ae9:∀ (d:Nat) (q:Qv),NF d q->∀ m,d<=m->Lk m q false=q
 | 0,_,h,_,_=>h.elim
 | d+1,q,h,m,hm=>by
  obtain⟨m,rfl⟩:∃ k,m=k+1:=⟨m - 1,by omega⟩
  rcases h with ⟨b,_⟩ | ⟨e,s,rfl,b,hl⟩ | ⟨g,he,hs⟩
  ·rw [Lk,if_neg U,if_pos b]
   rfl
  ·rw [Lk,if_pos (show(Qv.mk 10 [] [] [] 0 0 [s]).f.1=10 from Z)]
   cases m with
   | zero=>omega
   | succ m=>
    show Lk (m+1) s true=_
    rw [Lk,if_neg U,if_pos b]
    rfl
  ·rw [Lk,if_neg U,if_neg U]
   have:KX (fun s=>Lk m s false) q.f.1 q.f.2.2.2.2.2.2=q.f.2.2.2.2.2.2:=by
    unfold KX
    have key:∀ l:List Qv,(∀ s∈l,NF d s/\s.f.1≠q.f.1)->(l.flatMap fun s=>if(Lk m s false).f.1=q.f.1 then(Lk m s false).f.2.2.2.2.2.2 else[Lk m s false])=l:=by
     intro l
     induction l with
     | nil=>intro _;rfl
     | cons a l ih=>
      intro h;obtain⟨c,h2⟩:=h a (QzJ ..);rw [Qz6,ih fun s hs=>h s (QzA _ hs),Ae9 d a c m U,if_neg h2]
      rfl
    exact key _ hs
   simp only [QzB,if_false];rw [this];exact he.symm
theorem Aje{d:Nat}:∀ (e:Nat) (q:Qv),Vq e q->NF d q->NF e q:=by
 intro e
 induction e generalizing d with
 | zero=>intro q h;exact h.elim
 | succ e ih=>
  intro q hv h
  cases d with
  | zero=>exact h.elim
  | succ d=>
   rcases h with h | ⟨_,s,rfl,h⟩ | ⟨a,h2,h3⟩
   ·exact .inl h
   ·refine .inr (.inl ⟨?_,s,Z,h⟩);have:=hv.2 s (Qzf.2 Z)
    cases e with
    | zero=>exact this.elim
    | succ e=>omega
   ·exact .inr (.inr ⟨a,h2,fun s hs=>⟨ih s (hv.2 s hs) (h3 s hs).1,(h3 s hs).2⟩⟩)
end Go.Proofs.YtekmbcbgknmhiaaGreatDoor
end
noncomputable section
namespace Go.L
open Go
theorem Ph:∀ l m:List UInt8,Lib.compareBytes l m<0↔Op.bytesLess l m=true
 | [],[]=>by simp [Lib.compareBytes,Op.bytesLess]
 | [],_::_=>by simp [Lib.compareBytes,Op.bytesLess]
 | _::_,[]=>by simp [Lib.compareBytes,Op.bytesLess]
 | a::l,b::m=>by
  have ih:=Ph l m;unfold Lib.compareBytes Op.bytesLess
  by_cases c:a<b
  ·rw [if_pos c];simp [c]
  ·rw [if_neg c]
   by_cases h2:b<a
   ·have hne:a≠b:=fun e=>by subst e;exact c h2
    rw [if_pos h2];simp [c,hne]
   ·have e:a=b:=SE c h2;rw [if_neg h2,ih];simp [c,e]
def lcp:List UInt8->List UInt8->Nat
 | a::l,b::m=>if a=b then lcp l m+1 else 0
 | _,_=>0
section
variable (a:List UInt8)
theorem Ac9:(Aau a).Perm (PX a.length):=Qkz _ _
theorem Nl:(DH a).Perm (iota a.length):=by
 unfold DH;rw [<- Xb];exact(Ac9 a).map _
theorem MW:(DH a).length=a.length:=by rw [(Nl a).length_eq,I3]
theorem AeA{n:Nat}{x:Int}:x∈iota n↔0<=x/\x<n:=by
 unfold iota;rw [Qz8]
 constructor
 ·rintro⟨i,hi,rfl⟩;have:=Qz7.1 hi;omega
 ·intro h;exact⟨x.toNat,Qz7.2 U,by omega⟩
theorem VG{x:Int}:x∈DH a↔0<=x/\x<a.length:=by rw [(Nl a).mem_iff,AeA]
theorem Aa7(n:Nat):(iota n).Nodup:=by
 unfold iota List.Nodup;rw [Qkk];exact List.pairwise_lt_range.imp fun h=>by omega
theorem Yl:(DH a).Nodup:=(Nl a).symm.nodup (Aa7 _)
theorem RN:(DH a).Pairwise fun x y=>Lib.compareBytes (a.drop x.toNat) (a.drop y.toNat)<0:=by
 have hO:=Ab6 (fun x:Fin (a.length+1)=>a.drop x.val)
 have h:=Qk4 (le:=fun x y=>!(Go.Proofs.ltOf (K9 a)) y x) (fun x y z b h2=>by
   simp only [QkX] at *;exact hO.ntrans z y x h2 b) (fun x y=>by
   have:=KR (a.drop y.val) (a.drop x.val)
   by_cases h:Lib.compareBytes (a.drop y.val) (a.drop x.val)<0
   ·have h' : ¬ Lib.compareBytes (a.drop x.val) (a.drop y.val)<0:=by omega
    simp [Go.Proofs.ltOf,K9,h']
   ·simp [Go.Proofs.ltOf,K9,h]) (PX a.length)
 have hn:(Aau a).Nodup:=by
  have:=Yl a;unfold DH List.Nodup at this;rw [Qkk] at this;exact this.imp fun h e=>h (by rw [e])
 unfold DH;rw [Qkk];have h2:=List.Pairwise.and h hn;refine h2.imp fun {x y} ⟨h3,c⟩=>?_
 replace h3 : ¬ Lib.compareBytes (a.drop y.val) (a.drop x.val)<0:=by
  intro hc;have:Go.Proofs.ltOf (K9 a) y x=true:=by simp [Go.Proofs.ltOf,K9,hc]
  rw [this] at h3;cases h3
 simp only [Qq8];have s:=KR (a.drop x.val) (a.drop y.val)
 rcases Int.lt_trichotomy (Lib.compareBytes (a.drop x.val) (a.drop y.val)) 0 with h | h | h
 ·exact h
 ·exact absurd (PD a x y (decide_eq_false (show ¬ Lib.compareBytes (a.drop x.val) (a.drop y.val)<0 by omega)) (decide_eq_false h3)) c
 ·omega
end
def pre(l p:List UInt8):Bool:=decide (l.take p.length=p)
def fs(a p:List UInt8):Nat->Nat×Nat
 | 0=>(0,0)
 | k+1=>if pre (a.drop k) p then((fs a p k).1,(fs a p k).2+1) else if Op.bytesLess (a.drop k) p then((fs a p k).1+1,(fs a p k).2) else fs a p k
theorem AgD(a p:List UInt8)(k:Nat):fs a p (k+1)=if pre (a.drop k) p then((fs a p k).1,(fs a p k).2+1) else if Op.bytesLess (a.drop k) p then((fs a p k).1+1,(fs a p k).2) else fs a p k:=Z
end Go.L
end
noncomputable section
namespace Go.Proofs.YtekmbcbgknmhiaaGreatDoor
open Go Go.L
theorem AcA{a:List UInt8}(h:a.length<=2048):Kz a=some (DH a):=by
 unfold Kz;rw [Ac U];unfold Li;have hst:∀ k,k<=a.length->(((iota k)++Qzz (a.length - k) 0).length=a.length):=fun k hk=>by rw [Qzu,I3,List.length_replicate];omega
 have c:=DM (b:=Es a) (m:=some (DH a)) (fun k=>((iota k)++Qzz (a.length - k) 0,((k:Nat):Int))) a.length (fun k hk=>?_) ?_ 0
 ·simpa [iota] using c
 ·show Es a (_,_)=_
  unfold Es;dsimp only;have:=hst k U;rw [if_pos (by rw [List.length_replicate];omega),Ac (by rw [this];omega),Ac (by unfold Bz;omega),Qq8]
  congr 3
  have d:a.length - k=(a.length - (k+1))+1:=by omega
  rw [d,List.replicate_succ,List.set_append_right _ _ (by rw [I3];exact Qzx _),I3,Nat.sub_self,List.set_cons_zero];unfold iota;rw [Qx2,Qxf,Qxd]
  rfl
 ·show Es a (_,_)=_
  unfold Es Iu;dsimp only;rw [if_neg (by rw [List.length_replicate];omega),Nat.sub_self,List.replicate_zero,QzX,Ac ⟨Z,by omega⟩]
theorem AcB(a:List UInt8):K0 a=some (if a.length<=2048 then(DH a,(0,0)) else([],(3,-1))):=by
 unfold K0
 by_cases h:a.length<=2048
 ·rw [if_neg U,if_pos h,AcA h];rfl
 ·rw [if_pos U,if_neg h];rfl
end Go.Proofs.YtekmbcbgknmhiaaGreatDoor
end
noncomputable section
namespace Go.L
open Go
theorem VH(c d:UInt8)(p l:List UInt8):pre (d::l) (c::p)=(decide (d=c)&&pre l p):=by
 unfold pre;simp only [Qzj,List.take_succ_cons,List.cons.injEq];rw [Qz3];simp
theorem pre_nil(l:List UInt8):pre l []=true:=by simp [pre]
theorem SM(c:UInt8)(p:List UInt8):pre [] (c::p)=false:=by simp [pre]
theorem SN:∀ (p x:List UInt8),pre x p=true->Op.bytesLess x p=false
 | [],x,_=>by cases x <;> rfl
 | c::p,[],h=>by rw [SM] at h;cases h
 | c::p,d::x,h=>by
  rw [VH] at h;simp only [Qzb,decide_eq_true_eq] at h;obtain⟨rfl,h⟩:=h;have:=SN p x h;have hd : ¬ d<d:=fun h=>by have:=QxQ.1 h;omega
  simp [Op.bytesLess,this,hd]
theorem Ua:∀ (p x y:List UInt8),Op.bytesLess x p=false->Op.bytesLess x y=true->pre y p=true->pre x p=true
 | [],x,_,_,_,_=>pre_nil x
 | c::p,[],_,h,_,_=>by simp [Op.bytesLess] at h
 | c::p,_::_,[],_,_,h=>by rw [SM] at h;cases h
 | c::p,d::x,e::y,a,h2,h3=>by
  rw [VH] at h3 ⊢;simp only [Qzb,decide_eq_true_eq] at h3;obtain⟨rfl,h3⟩:=h3;simp only [Op.bytesLess,Bool.or_eq_false_iff,Bool.and_eq_false_iff,Qxq,Qzb,decide_eq_true_eq,decide_eq_false_iff_not,beq_iff_eq] at a h2
  rcases h2 with h2 | ⟨rfl,h2⟩
  ·exact absurd h2 a.1
  ·have b:Op.bytesLess x p=false:=by
    rcases a.2 with h | h
    ·simp at h
    ·exact h
   simp [Ua p x y b h2 h3]
def cls(p l:List UInt8):Nat:=if pre l p then 1 else if Op.bytesLess l p then 0 else 2
theorem Zo{p x y:List UInt8}(h:Lib.compareBytes x y<0):cls p x<=cls p y:=by
 have hxy:=(Ph x y).1 h;unfold cls
 by_cases hy:pre y p=true
 ·rw [if_pos hy]
  by_cases hx:pre x p=true
  ·rw [if_pos hx];exact Qzx _
  ·rw [if_neg hx]
   by_cases hl:Op.bytesLess x p=true
   ·rw [if_pos hl];omega
   ·exact absurd (Ua p x y (by simpa using hl) hxy hy) hx
 ·rw [if_neg hy]
  by_cases hl:Op.bytesLess y p=true
  ·have hxp:Op.bytesLess x p=true:=(Ph _ _).1 (NI _ _ _ h ((Ph _ _).2 hl));have hx : ¬ pre x p=true:=fun hx=>by rw [SN p x hx] at hxp;cases hxp
   rw [if_neg hx,if_pos hxp];omega
  ·rw [if_neg hl]
   split
   ·omega
   ·split <;> omega
theorem Rs:∀ (l:List Nat) (c i:Nat),l.Pairwise (·<=·)->i<l.length->(l.getD i 0<c↔i<l.countP (· < c))
 | [],_,_,_,h=>by cases h
 | x::l,c,i,hp,hi=>by
  have hq:=Qz0.1 hp
  by_cases hx:x<c
  ·rw [List.countP_cons_of_pos (by simpa using hx)]
   cases i with
   | zero=>simp [hx]
   | succ i=>
    have:=Rs l c i hq.2 (by simpa using hi);simp only [List.getD_cons_succ];omega
  ·rw [List.countP_cons_of_neg (by simpa using hx)]
   have a:l.countP (· < c)=0:=by
    rw [QkE];intro y hy;have:=hq.1 y hy;simp;omega
   rw [a]
   cases i with
   | zero=>simp [hx]
   | succ i=>
    simp only [Qzj] at hi
    have hm:l.getD i 0∈l:=by
     rw [Qzq,Qzw U];exact Qxj _
    have:=hq.1 _ hm;simp only [List.getD_cons_succ];omega
theorem AcC(n:Nat):iota (n+1)=iota n++[(n:Int)]:=by simp [iota,Qx2]
theorem Zp(a p:List UInt8):∀ k,((iota k).map fun x=>cls p (a.drop x.toNat)).countP (· < 1)=(fs a p k).1/\((iota k).map fun x=>cls p (a.drop x.toNat)).countP (· < 2)=(fs a p k).1+(fs a p k).2
 | 0=>by simp [iota,fs]
 | k+1=>by
  obtain⟨b,h2⟩:=Zp a p k;rw [AcC,Qxf,QkQ,QkQ,b,h2,AgD];simp only [Qzd,List.map_nil,Qjv,Qq8];unfold cls
  by_cases hp:pre (a.drop k) p=true
  ·rw [if_pos hp,if_pos hp];simp;omega
  ·rw [if_neg hp,if_neg hp]
   by_cases hl:Op.bytesLess (a.drop k) p=true
   ·rw [if_pos hl,if_pos hl];simp;omega
   ·rw [if_neg hl,if_neg hl];simp
theorem found(a p:List UInt8){i:Nat}(hi:i<a.length):pre (a.drop ((DH a).getD i Qq2).toNat) p=decide ((fs a p a.length).1<=i/\i<(fs a p a.length).1+(fs a p a.length).2):=by
 have hlen:i<((DH a).map fun x=>cls p (a.drop x.toNat)).length:=by rw [Qzk,MW];exact hi
 have hasc:((DH a).map fun x=>cls p (a.drop x.toNat)).Pairwise (·<=·):=by
  rw [Qkk];exact(RN a).imp fun h=>Zo h
 have hperm:=(Nl a).map fun x=>cls p (a.drop x.toNat);obtain⟨c1,c2⟩:=Zp a p a.length;have a1:=Rs _ 1 i hasc hlen;have a2:=Rs _ 2 i hasc hlen;rw [hperm.countP_eq,c1] at a1;rw [hperm.countP_eq,c2] at a2
 have hg:((DH a).map fun x=>cls p (a.drop x.toNat)).getD i 0=cls p (a.drop ((DH a).getD i Qq2).toNat):=by
  rw [Qzq,Qzw hlen,Qzq,Qzw (by rw [MW];exact hi)];simp
 rw [hg] at a1 a2;rw [Qz3,decide_eq_true_eq]
 have hc:pre (a.drop ((DH a).getD i Qq2).toNat) p=true↔¬ cls p (a.drop ((DH a).getD i Qq2).toNat)<1/\cls p (a.drop ((DH a).getD i Qq2).toNat)<2:=by
  generalize a.drop ((DH a).getD i Qq2).toNat=l;unfold cls
  by_cases hp:pre l p=true
  ·rw [if_pos hp];simp [hp]
  ·rw [if_neg hp]
   split <;> simp [hp]
 rw [hc,a1,a2];omega
def rmx(a:List UInt8)(i:Nat):Nat->Nat
 | 0=>0
 | k+1=>max (rmx a i k) (lcp (a.drop i) (a.drop (i+1+k)))
def tw(a:List UInt8):Nat->Nat×Nat
 | 0=>(0,0)
 | k+1=>if(tw a k).2<rmx a k (a.length - (k+1)) then(k,rmx a k (a.length - (k+1))) else tw a k
theorem VI(x y:UInt8)(l m:List UInt8):Lib.compareBytes (x::l) (y::m)<0↔x.toNat<y.toNat\/x.toNat=y.toNat/\Lib.compareBytes l m<0:=by
 show(if x<y then(-1:Int) else if y<x then 1 else Lib.compareBytes l m)<0↔_
 by_cases a:x<y
 ·rw [if_pos a];have:=QxQ.1 a;exact⟨fun _=>.inl this,fun _=>by decide⟩
 ·rw [if_neg a];have h1' : ¬ x.toNat<y.toNat:=fun h=>a (QxQ.2 h)
  by_cases h2:y<x
  ·rw [if_pos h2];have:=QxQ.1 h2;exact⟨fun h=>absurd h Qqc,fun h=>by omega⟩
  ·rw [if_neg h2];have h2' : ¬ y.toNat<x.toNat:=fun h=>h2 (QxQ.2 h);exact⟨fun h=>.inr ⟨by omega,h⟩,fun h=>by rcases h with h | h;exact absurd h h1';exact h.2⟩
def lt(a:List UInt8)(x y:Nat):Bool:=decide (Lib.compareBytes (a.drop x) (a.drop y)<0)
theorem Ym(a:List UInt8)(x:Nat):lt a x x=false:=by
 unfold lt;rw [V2];decide
theorem AeB{a:List UInt8}{x y:Nat}(h:lt a x y=true):lt a y x=false:=by
 unfold lt at *;have:=of_decide_eq_true h;have:=KR (a.drop x) (a.drop y);exact decide_eq_false U
def op(a:List UInt8):List Nat:=a.length::(DH a).map Int.toNat
theorem Fk(a:List UInt8):(op a).length=a.length+1:=by simp [op,MW]
theorem SO(a:List UInt8):(op a).Perm (Qzv (a.length+1)):=by
 have h:=(Nl a).map Int.toNat
 have e:(iota a.length).map Int.toNat=Qzv a.length:=by
  unfold iota;rw [Qx0]
  conv=>rhs;rw [<- List.map_id (Qzv a.length)]
  rfl
 rw [e] at h;unfold op;rw [Qx2];exact(h.cons a.length).trans (List.perm_append_comm (l₁:=[a.length]))
theorem T7(a:List UInt8):(op a).Pairwise fun x y=>lt a x y=true:=by
 unfold op;refine Qz0.2 ⟨fun y hy=>?_,?_⟩
 ·obtain⟨z,hz,rfl⟩:=Qz8.1 hy;have hz:=(VG a).1 hz;unfold lt;rw [List.drop_length]
  cases hd:a.drop z.toNat with
  | nil=>have:=congrArg Qxu hd;rw [QzC] at this;simp at this;omega
  | cons b l=>rfl
 ·rw [Qkk];exact(RN a).imp fun h=>decide_eq_true h
theorem VJ{α:Type}(f:α->α->Bool)(irr:∀ x,f x x=false)(asy:∀ x y,f x y=true->f y x=false):∀ (l:List α),l.Pairwise (fun x y=>f x y=true)->∀ r (h:r<l.length),l.countP (fun x=>f x l[r])=r
 | x::l,hp,0,_=>by
  have hx:=(Qz0.1 hp).1;simp only [List.getElem_cons_zero,Qx3,irr];rw [QkE.2 (fun y hy=>by rw [asy _ _ (hx y hy)];decide)]
  rfl
 | x::l,hp,r+1,h=>by
  have h':r<l.length:=by simpa using h
  have hx:=(Qz0.1 hp).1;have ih:=VJ f irr asy l (Qz0.1 hp).2 r h';simp only [List.getElem_cons_succ,Qx3,ih,hx l[r] (Qxj h')]
  rfl
theorem AgE(a:List UInt8){r:Nat}(h:r<(op a).length):(op a).countP (fun x=>lt a x (op a)[r])=r:=VJ (lt a) (Ym a) (fun _ _=>AeB) _ (T7 a) r h
theorem Xl(a:List UInt8){r:Nat}(h:r<(op a).length):(op a)[r]<=a.length:=by
 have:=(SO a).mem_iff.1 (Qxj h);have:=Qz7.1 this;omega
theorem AbB{a:List UInt8}{p:Nat}(h:p<=a.length):∃ r,∃ hr:r<(op a).length,(op a)[r]=p:=by
 have hm:p∈op a:=(SO a).mem_iff.2 (Qz7.2 U);obtain⟨r,hr,e⟩:=List.getElem_of_mem hm;exact⟨r,hr,e⟩
theorem AeC(a:List UInt8){k r:Nat}(hk:k<(op a).length)(hr:r<(op a).length):lt a (op a)[k] (op a)[r]=true↔k<r:=by
 have hp:=List.pairwise_iff_getElem.1 (T7 a)
 rcases Nat.lt_trichotomy k r with h | h | h
 ·exact⟨fun _=>h,fun _=>hp k r hk hr h⟩
 ·subst h;rw [Ym];exact⟨fun h=>(by cases h),fun h=>by omega⟩
 ·rw [AeB (hp r k hr hk h)];exact⟨fun h=>(by cases h),fun h=>by omega⟩
theorem AeD{a:List UInt8}{k r:Nat}(hk:k<(op a).length)(hr:r<(op a).length)(h:(op a)[k]=(op a)[r]):k=r:=by
 have b:=AeC a hk hr;have h2:=AeC a hr hk;rw [h,Ym] at b;rw [h,Ym] at h2;simp only [QzB,false_iff] at b h2;omega
def I6(a:List UInt8)(q:Nat):Int:=if q=0 then -1 else((a.getD (q - 1) Qq2).toNat:Int)
def sym(a:List UInt8):List Int:=(op a).map (I6 a)
theorem Fa(a:List UInt8):(sym a).length=a.length+1:=by rw [sym,Qzk,Fk]
theorem MX(a:List UInt8){r:Nat}(h:r<(op a).length):(sym a).getD r Qq2=I6 a (op a)[r]:=by
 unfold sym;rw [Qzq,Qxy,Qzw h];rfl
theorem NC(a:List UInt8)(q:Nat):0<=I6 a q↔1<=q:=by unfold I6;split <;> omega
theorem AeE(a:List UInt8)(q:Nat):I6 a q<256:=by
 unfold I6;split
 ·omega
 ·have:=(a.getD (q - 1) Qq2).toNat_lt;omega
theorem Lz{a:List UInt8}{q:Nat}(b:1<=q)(h:q<=a.length):a.drop (q - 1)=a.getD (q - 1) Qq2::a.drop q:=by
 rw [Qkf (by omega:q - 1<a.length),Qzq,Qzw (by omega:q - 1<a.length),show q - 1+1=q by omega];rfl
def Zq(s:List Int)(r:Nat):Nat:=1+(Qzv s.length).countP fun k=>decide (0<=s.getD k Qq2/\(s.getD k Qq2<s.getD r Qq2\/s.getD k Qq2=s.getD r Qq2/\k<r))
def QP(s:List Int):List Int:=(Qzv s.length).map fun r=>if s.getD r Qq2<0 then 0 else(Zq s r:Int)
theorem Zs(s:List Int):(QP s).length=s.length:=by simp [QP]
theorem VK(s:List Int){r:Nat}(h:r<s.length):(QP s).getD r Qq2=if s.getD r Qq2<0 then 0 else(Zq s r:Int):=by
 unfold QP;rw [Qzq,Qxy,Qk5 h];rfl
theorem AcD{α β:Type}[Inhabited β](l:List α)(d:α)(f:α->Bool):(Qzv l.length).countP (fun k=>f (l.getD k d))=l.countP f:=by
 have e:l=(Qzv l.length).map fun k=>l.getD k d:=by
  apply List.ext_getElem
  ·simp
  ·intro k a h2;rw [List.getElem_map,List.getElem_range,Qzq,Qzw a];rfl
 conv=>rhs;rw [e,List.countP_map]
 rfl
theorem Xm(a:List UInt8)(g:Nat->Bool):(Qzv (sym a).length).countP (fun k=>g ((op a).getD k 0))=(Qzv (a.length+1)).countP g:=by
 have h:=AcD (β:=Nat) (op a) 0 g;rw [Fk] at h;rw [Fa,h,(SO a).countP_eq]
theorem SP(n:Nat)(g:Nat->Bool)(a:g 0=false):(Qzv (n+1)).countP g=(Qzv n).countP fun q=>g (q+1):=by
 rw [List.range_succ_eq_map,Qx3,List.countP_map,a];rfl
theorem opD{a:List UInt8}{k:Nat}(h:k<(op a).length):(op a).getD k 0=(op a)[k]:=by rw [Qzq,Qzw h];rfl
theorem AgF{a:List UInt8}{r r':Nat}(hr:r<(op a).length)(hr':r'<(op a).length)(hp:(op a)[r]=(op a)[r']+1):Zq (sym a) r=r':=by
 have hle:=Xl a hr;generalize hq':(op a)[r']=p' at *;have d:(op a).countP (fun x=>lt a x p')=r':=by have:=AgE a hr';rw [hq'] at this;exact this
 rw [(SO a).countP_eq,Qx2,QkQ,Qjv] at d
 have hend:lt a a.length p'=true:=by
  unfold lt;rw [List.drop_length]
  cases hd:a.drop p' with
  | nil=>have:=congrArg Qxu hd;rw [QzC] at this;simp at this;omega
  | cons b l=>rfl
 rw [hend,if_pos Z] at d
 have e:(Qzv (sym a).length).countP (fun k=>decide (0<=(sym a).getD k Qq2/\((sym a).getD k Qq2<(sym a).getD r Qq2\/(sym a).getD k Qq2=(sym a).getD r Qq2/\k<r)))=(Qzv (sym a).length).countP (fun k=>(fun q=>decide (1<=q)&&lt a (q - 1) p') ((op a).getD k 0)):=by
  apply Qk7;intro k hk;have hk:k<(op a).length:=by have:=Qz7.1 hk;rw [Fa] at this;rw [Fk];exact this
  have hkl:=Xl a hk;rw [MX a hk,MX a hr,opD hk,hp];have hlt:=AeC a hk hr;rw [hp] at hlt;generalize (op a)[k]=q at *;simp only [decide_eq_true_eq,Qzb];rw [NC,<- hlt];rw [hp] at hle
  constructor
  ·rintro⟨c,h2⟩;refine⟨c,?_⟩;have hd:=Lz c hkl;have hd':=Lz (q:=p'+1) U hle;rw [Qkx] at hd';unfold lt;rw [hd,hd'];refine decide_eq_true ((VI _ _ _ _).2 ?_);unfold I6 at h2;rw [if_neg U,if_neg U,Qkx] at h2
   rcases h2 with h2 | ⟨h2,h3⟩
   ·exact .inl U
   ·exact .inr ⟨by omega,of_decide_eq_true h3⟩
  ·rintro⟨c,h2⟩;refine⟨c,?_⟩;have hd:=Lz c hkl;have hd':=Lz (q:=p'+1) U hle;rw [Qkx] at hd';unfold lt at h2;rw [hd,hd'] at h2;unfold I6;rw [if_neg U,if_neg U,Qkx]
   rcases(VI _ _ _ _).1 (of_decide_eq_true h2) with h | ⟨h,h'⟩
   ·exact .inl U
   ·exact .inr ⟨by omega,decide_eq_true h'⟩
 unfold Zq;rw [e,Xm a (fun q=>decide (1<=q)&&lt a (q - 1) p'),SP _ _ Qqd]
 have f:(Qzv a.length).countP (fun q=>decide (1<=q+1)&&lt a (q+1 - 1) p')=(Qzv a.length).countP (fun x=>lt a x p'):=by
  apply Qk7;intro k _;simp
 rw [f];omega
end Go.L
end
noncomputable section
namespace Go.L
open Go
def Xn(s:List Int)(c:Int)(k r:Nat):Bool:=decide (0<=s.getD r Qq2/\(s.getD r Qq2<c\/s.getD r Qq2=c/\r<k))
def LB(s:List Int)(c:Int)(k:Nat):List Int:=(Qzv s.length).map fun r=>if Xn s c k r then(Zq s r:Int) else 0
def NX(s:List Int)(c:Int)(k:Nat):Nat:=1+(Qzv s.length).countP (Xn s c k)
theorem Pj(s:List Int)(c:Int)(k:Nat):(LB s c k).length=s.length:=by simp [LB]
theorem Ajf(s:List Int)(c:Int)(k:Nat):NX s c k<=1+s.length:=by
 unfold NX;have:=Qju (p:=Xn s c k) (l:=Qzv s.length);rw [QxA] at this;omega
theorem Air{s:List Int}{k:Nat}:NX s (s.getD k Qq2) k=Zq s k:=Z
theorem Zt(s:List Int){c:Int}(hc:0<=c)(k r:Nat):Xn s c (k+1) r=(Xn s c k r||decide (r=k/\s.getD k Qq2=c)):=by
 unfold Xn;rw [Qz3];simp only [Qxq,decide_eq_true_eq]
 constructor
 ·rintro⟨a,h2 | ⟨h2,h3⟩⟩
  ·exact .inl ⟨a,.inl h2⟩
  ·by_cases h:r=k
   ·subst h;exact .inr ⟨Z,h2⟩
   ·exact .inl ⟨a,.inr ⟨h2,by omega⟩⟩
 ·rintro(⟨a,h2 | ⟨h2,h3⟩⟩ | ⟨rfl,h⟩)
  ·exact⟨a,.inl h2⟩
  ·exact⟨a,.inr ⟨h2,by omega⟩⟩
  ·exact⟨by omega,.inr ⟨h,by omega⟩⟩
theorem AbC{s:List Int}{c:Int}(hc:0<=c){k:Nat}(hk:k<s.length):LB s c (k+1)=if s.getD k Qq2=c then(LB s c k).set k (NX s c k) else LB s c k:=by
 apply Qkd;intro r
 by_cases hr:r<s.length
 ·have b:(LB s c (k+1))[r]? = some (if Xn s c (k+1) r then(Zq s r:Int) else 0):=by simp [LB,hr]
  have a:(LB s c k)[r]? = some (if Xn s c k r then(Zq s r:Int) else 0):=by simp [LB,hr]
  rw [b,Zt s hc]
  by_cases h:s.getD k Qq2=c
  ·rw [if_pos h,Qjw,Pj,a]
   by_cases hkr:k=r
   ·subst hkr;rw [if_pos Z,if_pos hk];have:(Xn s c k k||decide (k=k/\s.getD k Qq2=c))=true:=by rw [decide_eq_true (⟨Z,h⟩:k=k/\s.getD k Qq2=c),Bool.or_true]
    rw [this,if_pos Z,<- Air,h]
   ·rw [if_neg hkr];have:decide (r=k/\s.getD k Qq2=c)=false:=decide_eq_false (fun e=>hkr e.1.symm);rw [this,Qk6]
  ·rw [if_neg h,a];have:decide (r=k/\s.getD k Qq2=c)=false:=decide_eq_false (fun e=>h e.2);rw [this,Qk6]
 ·rw [Qxe (by rw [Pj];omega)]
  split
  ·rw [Qxe (by rw [QkJ,Pj];omega)]
  ·rw [Qxe (by rw [Pj];omega)]
theorem AbD{s:List Int}{c:Int}(hc:0<=c){k:Nat}(hk:k<s.length):NX s c (k+1)=if s.getD k Qq2=c then NX s c k+1 else NX s c k:=by
 unfold NX
 have e:(Qzv s.length).countP (Xn s c (k+1))=(Qzv s.length).countP (Xn s c k)+(Qzv s.length).countP (fun r=>decide (r=k/\s.getD k Qq2=c)):=by
  generalize Qzv s.length=l
  induction l with
  | nil=>rfl
  | cons r l ih=>
   rw [Qx3,Qx3,Qx3,ih,Zt s hc]
   by_cases h:r=k/\s.getD k Qq2=c
   ·have h2:Xn s c k r=false:=by
     unfold Xn;rw [h.1,h.2];exact decide_eq_false U
    rw [h2,decide_eq_true h];simp only [Bool.or_true,if_true,QzB,if_false];omega
   ·rw [decide_eq_false h,Qk6];simp only [QzB,if_false];omega
 rw [e]
 by_cases h:s.getD k Qq2=c
 ·rw [if_pos h]
  have:(Qzv s.length).countP (fun r=>decide (r=k/\s.getD k Qq2=c))=1:=by
   have a:(Qzv s.length).countP (fun r=>decide (r=k/\s.getD k Qq2=c))=(Qzv s.length).count k:=by
    unfold List.count;apply Qk7;intro r _;rw [decide_eq_true_eq,beq_iff_eq];exact⟨fun e=>e.1,fun e=>⟨e,h⟩⟩
   rw [a,List.nodup_range.count,if_pos (Qz7.2 hk)]
  omega
 ·rw [if_neg h];have:(Qzv s.length).countP (fun r=>decide (r=k/\s.getD k Qq2=c))=0:=QkE.2 (fun r _=>by rw [decide_eq_false (fun e:r=k/\s.getD k Qq2=c=>h e.2)];decide);omega
theorem Zu(s:List Int)(c:Int){r:Nat}(hr:r<s.length):Xn s c s.length r=Xn s (c+1) 0 r:=by
 unfold Xn;rw [Qz3];simp only [decide_eq_true_eq];omega
theorem AgG(s:List Int)(c:Int):LB s c s.length=LB s (c+1) 0:=by
 unfold LB;apply Qkq;intro r hr;rw [Zu s c (Qz7.1 hr)]
theorem AgH(s:List Int)(c:Int):NX s c s.length=NX s (c+1) 0:=by
 unfold NX;rw [Qk7 fun r hr=>by rw [Zu s c (Qz7.1 hr)]]
theorem AgI(s:List Int):LB s 0 0=Qzz s.length 0:=by
 unfold LB
 rw [Qkq (g:=fun _=>(0:Int)) (fun r _=>by
  have:Xn s 0 0 r=false:=decide_eq_false U;rw [this];rfl)]
 rw [List.map_const',QxA]
theorem AgJ(s:List Int):NX s 0 0=1:=by
 unfold NX
 rw [QkE.2 (fun r _=>by
  have:Xn s 0 0 r=false:=decide_eq_false U;rw [this];decide)]
theorem Ais{s:List Int}(h:∀ r,r<s.length->s.getD r Qq2<256):LB s 256 0=QP s:=by
 unfold LB QP;apply Qkq;intro r hr;have:=h r (Qz7.1 hr)
 by_cases a:s.getD r Qq2<0
 ·have e:Xn s 256 0 r=false:=decide_eq_false U;rw [e,if_pos a];rfl
 ·have e:Xn s 256 0 r=true:=decide_eq_true U;rw [e,if_neg a];rfl
def wlk(s B:List Int):Nat->List Int->Nat->(List Int×List Int×List Int)×Bool
 | 0,A,r=>((s,B,A.set r 0),decide (s.getD r Qq2 = -1))
 | i+1,A,r=>if s.getD r Qq2 = -1 then(([],[],[]),false) else wlk s B i (A.set r ((i+1:Nat):Int)) (B.getD r Qq2).toNat
end Go.L
namespace Go.Proofs.YtekmbcbgknmhiaaGreatDoor
open Go Go.L
theorem Aa8{s:List Int}{c:Nat}(hl:s.length<=2049)(hc:c<256):
  H4 s (c:Int) (LB s c 0,(NX s c 0:Int),0)=some (.inl (LB s ((c+1:Nat):Int) 0,(NX s ((c+1:Nat):Int) 0:Int),((c+1:Nat):Int))):=by
 have a:(0:Int)<=(c:Int):=by omega
 refine DM (b:=Dj s (c:Int)) (fun k=>(LB s c k,(NX s c k:Int),(k:Int))) s.length (fun k hk=>?_) ?_ 0
 ·unfold Dj;simp only;have:=Ajf s c k;rw [if_pos U,Ac U,Qq8]
  by_cases h:s.getD k Qq2=(c:Int)
  ·rw [if_pos h,Ac (by rw [Pj];omega),Ac (by constructor <;> omega),Ac (by constructor <;> omega),AbC a hk,if_pos h,AbD a hk,if_pos h]
   rfl
  ·rw [if_neg h,Ac (by constructor <;> omega),AbC a hk,if_neg h,AbD a hk,if_neg h]
   rfl
 ·unfold Dj;simp only;rw [if_neg U];unfold FA;rw [Ac (by constructor <;> omega),AgG,AgH]
  rfl
theorem Xo{s B:List Int}(hl:s.length<=2049)(hB:B.length=s.length)(hr:∀ r,r<s.length->0<=B.getD r Qq2/\B.getD r Qq2<s.length):∀ (i:Nat) (A:List Int) (r:Nat),i<=s.length->A.length=s.length->r<s.length->
  FD s s B (A,(r:Int),(i:Int))=some (wlk s B i A r)
 | 0,A,r,_,hA,h=>by
  refine AP (b:=C5 s s B) (m:=some _) ?_;unfold C5;simp only;rw [if_neg U];unfold FC FB;rw [Ac U,Ac U,Qq8]
  rfl
 | i+1,A,r,hi,hA,h=>by
  have hb:C5 s s B (A,(r:Int),((i+1:Nat):Int))=if s.getD r Qq2 = -1 then some (.inr (([],[],[]),false)) else some (.inl (A.set r ((i+1:Nat):Int),(((B.getD r Qq2).toNat:Nat):Int),(i:Int))):=by
   unfold C5;simp only;rw [if_pos U,Ac U,Ac U,Qq8]
   split
   ·rfl
   ·rw [Ac U,Ac (by constructor <;> omega),Int.toNat_of_nonneg (hr r h).1,show((i+1:Nat):Int) - 1=(i:Int) by omega]
  unfold FD wlk
  by_cases a:s.getD r Qq2 = -1
  ·rw [if_pos a] at hb ⊢;exact AP (m:=some _) hb
  ·rw [if_neg a] at hb ⊢;rw [Be hb];have:=hr r h;exact Xo hl hB hr i _ _ U (by rw [QkJ];exact hA) U
theorem AeF{s:List Int}(a:0<s.length)(hl:s.length<=2049)(hs:∀ r,r<s.length->s.getD r Qq2<256)(hr:∀ r,r<s.length->(QP s).getD r Qq2<s.length):
  E1 s=some (wlk s (QP s) (s.length - 1) (Qzz s.length 0) 0):=by
 have e:((s.length:Int) - 1+1).toNat=s.length:=by omega
 unfold E1;rw [Ac (by constructor <;> omega),Ac (by constructor <;> omega),Ac (by constructor <;> omega),Ac U,Ac U,e];unfold FF;have hpos:∀ r,r<s.length->0<=(QP s).getD r Qq2/\(QP s).getD r Qq2<s.length:=fun r h=>⟨by rw [VK s h];split <;> omega,hr r h⟩
 have key:=DM (b:=Dk s s (Qzz s.length 0)) (m:=some (wlk s (QP s) (s.length - 1) (Qzz s.length 0) 0)) (fun c=>(LB s c 0,(NX s c 0:Int),(c:Int))) 256 (fun c hc=>by
  unfold Dk;simp only;rw [if_pos U];exact Aa8 hl hc) (by
  unfold Dk;simp only;rw [if_neg U];unfold FE;have:=Xo hl (Zs s) hpos (s.length - 1) (Qzz s.length 0) 0 U Qqd a;rw [show LB s ((256:Nat):Int) 0=QP s from Ais hs];rw [show(s.length:Int) - 1=((s.length - 1:Nat):Int) by omega];exact congrArg (Qq7 Sum.inr) this) 0 (hi:=(by omega))
 rw [show LB s ((0:Nat):Int) 0=Qzz s.length 0 from AgI s,show NX s ((0:Nat):Int) 0=1 from AgJ s] at key;exact key
end Go.Proofs.YtekmbcbgknmhiaaGreatDoor
end
noncomputable section
namespace Go.L
open Go
theorem Zv{a:List UInt8}{r r':Nat}(hr:r<(op a).length)(hr':r'<(op a).length)(hp:(op a)[r]=(op a)[r']+1):(QP (sym a)).getD r Qq2=(r':Int):=by
 rw [VK _ (by rw [Fa,<- Fk];exact hr),MX a hr];have h:0<=I6 a (op a)[r]:=(NC a _).2 U;rw [if_neg U,AgF hr hr' hp]
theorem AgK{a:List UInt8}{r:Nat}(h:r<(sym a).length):(QP (sym a)).getD r Qq2<(sym a).length:=by
 have hr:r<(op a).length:=by rw [Fk,<- Fa];exact h
 by_cases b:(op a)[r]=0
 ·rw [VK _ h,MX a hr,b];have:I6 a 0<0:=by unfold I6;rw [if_pos Z];decide
  rw [if_pos this];omega
 ·have hle:=Xl a hr;obtain⟨r',hr',e⟩:=AbB (a:=a) (p:=(op a)[r] - 1) U;rw [Zv hr hr' U];rw [Fk,<- Fa] at hr';omega
theorem Ait{a:List UInt8}{r:Nat}(h:r<(sym a).length):(sym a).getD r Qq2<256:=by
 rw [MX a (by rw [Fk,<- Fa];exact h)];exact AeE a _
def opI(a:List UInt8):List Int:=(op a).map fun x:Nat=>(x:Int)
theorem VL(a:List UInt8):(opI a).length=a.length+1:=by rw [opI,Qzk,Fk]
theorem Zw(a:List UInt8):∀ (p:Nat) (A:List Int) (r:Nat) (hr:r<(op a).length),(op a)[r]=p->A.length=a.length+1->(∀ k (hk:k<(op a).length),p<(op a)[k]->A[k]? = some (((op a)[k]:Nat):Int))->
  wlk (sym a) (QP (sym a)) p A r=((sym a,QP (sym a),opI a),true)
 | 0,A,r,hr,hp,hA,hk=>by
  have d:A.set r 0=opI a:=by
   apply Qkd;intro k
   by_cases hkl:k<(op a).length
   ·have e:(opI a)[k]? = some (((op a)[k]:Nat):Int):=by simp [opI,hkl]
    rw [Qjw,e]
    by_cases h:r=k
    ·subst h;rw [if_pos Z,if_pos (by rw [hA,<- Fk];exact hr),hp];rfl
    ·rw [if_neg h];refine hk k hkl (Nat.pos_of_ne_zero fun f=>h (AeD hr hkl (by rw [hp,f])))
   ·rw [Qxe (by rw [QkJ,hA,<- Fk];omega),Qxe (by rw [VL,<- Fk];omega)]
  unfold wlk;rw [d,MX a hr,hp]
  rfl
 | p+1,A,r,hr,hp,hA,hk=>by
  have hle:=Xl a hr;obtain⟨r',hr',e⟩:=AbB (a:=a) (p:=p) U;have hn:0<=I6 a (p+1):=(NC a _).2 U;unfold wlk;rw [MX a hr,hp,if_neg U,Zv hr hr' U,Qq8];refine Zw a p _ r' hr' e (by rw [QkJ];exact hA) fun k b g=>?_;rw [Qjw]
  by_cases h:r=k
  ·subst h;rw [if_pos Z,if_pos (by rw [hA,<- Fk];exact hr),hp]
  ·rw [if_neg h];refine hk k b ?_
   rcases Qxw (p+1) (op a)[k] with c | c
   ·exact c
   ·exact absurd (AeD hr b U) h
theorem AgL(a:List UInt8):(op a)[0]'(by rw [Fk];omega)=a.length:=Z
def idx(a:List UInt8):List Int×List Int×List Int:=(sym a,QP (sym a),opI a)
end Go.L
namespace Go.Proofs.YtekmbcbgknmhiaaGreatDoor
open Go Go.L
theorem AcE{a:List UInt8}(h:a.length<=2048):E1 (sym a)=some (idx a,true):=by
 rw [AeF (by rw [Fa];omega) (by rw [Fa];omega) (fun _=>Ait) (fun _=>AgK),Fa,Qkx];rw [Zw a a.length _ 0 (by rw [Fk];omega) (AgL a) Qqd (fun k hk h=>by have:=Xl a hk;omega)]
 rfl
theorem AgM{x:Int}{l:List Int}(h:l.length<=2048):EC [[x],l]=some (x::l):=by
 have a:∀ s:Int×Int,GC [[x],l] s=Go.L.run (BB [[x],l]) s:=fun _=>Z;have hn:(([[x],l]:List (List Int)).length:Int)=2:=Z;have b:∀ s:List Int×Int,EK [[x],l] s=Go.L.run (BA [[x],l]) s:=fun _=>Z
 have a1:BB [[x],l] (0,0)=some (.inl (1,1)):=by
  unfold BB;rfl
 have a2:BB [[x],l] (1,1)=some (.inl (1+(l.length:Int),2)):=by
  unfold BB;simp only;have e:([[x],l]:List (List Int)).getD (1:Int).toNat Qq2=l:=Z;rw [hn,if_pos Qqc,Ac Qqc,e,Ac (by constructor <;> omega),if_neg U,Ac (by constructor <;> omega)]
  rfl
 have c:BA [[x],l] ([],0)=some (.inl ([x],1)):=by
  unfold BA;rfl
 have d:BA [[x],l] ([x],1)=some (.inl (x::l,2)):=by
  unfold BA;simp only;have e:([[x],l]:List (List Int)).getD (1:Int).toNat Qq2=l:=Z;rw [hn,if_pos Qqc,Ac Qqc,e,Ac (by simp only [QxC];constructor <;> omega),Ac Qqc]
  rfl
 have f:BA [[x],l] (x::l,2)=(some (x::l)).map .inr:=by
  unfold BA;simp only;rw [hn,if_neg Qqc];rfl
 have a3:BB [[x],l] (1+(l.length:Int),2)=(some (x::l)).map .inr:=by
  unfold BB;simp only;rw [hn,if_neg Qqc];unfold EL Hp FG;rw [if_neg U,Ac Qqc,Ac (by constructor <;> omega),if_pos U,Ac U]
  show Qq7 Sum.inr (EK [[x],l] ([],0))=_
  rw [b,Be c,Be d,AP f]
 unfold EC;rw [a,Be a1,Be a2,AP a3]
theorem AeG(a:List UInt8):opI a=(a.length:Int)::DH a:=by
 unfold opI op;rw [Qzd,Qx0]
 congr 1
 conv=>rhs;rw [<- List.map_id (DH a)]
 apply Qkq;intro x hx;have:=(VG a).1 hx
 show((x.toNat:Nat):Int)=x
 omega
theorem AgN(a:List UInt8){r:Nat}(h:r<(op a).length):(opI a).getD r Qq2=(((op a)[r]:Nat):Int):=by
 unfold opI;rw [Qzq,Qxy,Qzw h];rfl
theorem VM(a:List UInt8):JC a=some (if a.length<=2048 then(idx a,(0,0)) else(([],[],[]),(3,-1))):=by
 unfold JC;rw [AcB]
 by_cases h:a.length<=2048
 ·rw [if_pos h,if_pos h];rw [Qq5,if_pos ⟨Z,Z⟩,Ac (by constructor <;> omega),Ac U,AgM (by rw [MW];exact h),Qq5,<- AeG];have hl:=VL a;have ho:=Fk a
  have key:=DM (b:=FH a (opI a)) (m:=some (idx a,((0:Int),(0:Int)))) (fun k=>((sym a).take k,(k:Int))) (a.length+1) (fun k hk=>by
   unfold FH;simp only;have hk':k<(op a).length:=by omega
   have hle:=Xl a hk';have htk:((sym a).take k).length=k:=by rw [QzK,Fa];omega
   have hs:(sym a).take (k+1)=(sym a).take k++[I6 a (op a)[k]]:=by
    rw [QxX];have:(sym a)[k]? = some (I6 a (op a)[k]):=by simp [sym,hk']
    rw [this];rfl
   rw [if_pos U,Ac U,Qq8,AgN a hk']
   by_cases c:(op a)[k]=0
   ·rw [c] at hs ⊢;rw [if_pos (show((0:Nat):Int)=0 from Z),Ac (by rw [htk];simp only [QxC];constructor <;> omega),Ac (by constructor <;> omega),hs]
    rfl
   ·rw [if_neg U,Ac (by constructor <;> omega),Ac U,Ac (by rw [htk];simp only [QxC];constructor <;> omega),Ac (by constructor <;> omega),hs];have d:(((op a)[k]:Int) - 1).toNat=(op a)[k] - 1:=by omega
    unfold I6;rw [if_neg c,d]
    rfl) (by
   unfold FH;simp only;rw [if_neg U,Qxk (by rw [Fa];omega)];unfold Jb;rw [AcE h]
   rfl) 0 (hi:=(by omega))
  exact key
 ·rw [if_neg h,if_neg h];rfl
end Go.Proofs.YtekmbcbgknmhiaaGreatDoor
end
noncomputable section
namespace Go.Proofs.YtekmbcbgknmhiaaGreatDoor
open Go Go.L
theorem AeH{a:List UInt8}(hs:a.length<=2048):Ji a=some (Zj a,(0,0)):=by
 unfold Ji;rw [if_neg U,TX U]
 rfl
theorem Aa9{a:List UInt8}(hs:2048<a.length):Ji a=some ([],(3,-1)):=by
 unfold Ji;rw [if_pos U]
 rfl
end Go.Proofs.YtekmbcbgknmhiaaGreatDoor
end
noncomputable section
namespace Go.L
open Go Go.Proofs.YtekmbcbgknmhiaaGreatDoor
abbrev Mv:=Int×Int
abbrev HM:=List (List UInt8×List Mv)
section
variable {κ β:Type} [DecidableEq κ]
theorem VN(d:β)(k k':κ)(y:β):∀ M:List (κ×β),BV d k' (Ge k y M)=if k'=k then y else BV d k' M
 | []=>by
  unfold Ge BV
  by_cases h:k'=k
  ·rw [if_pos h,if_pos h]
  ·rw [if_neg h,if_neg h];rfl
 | (a,z)::l=>by
  unfold Ge
  by_cases h:k=a
  ·rw [if_pos h];subst h
   by_cases b:k'=k
   ·simp only [BV];rw [if_pos b,if_pos b]
   ·simp only [BV];rw [if_neg b,if_neg b,if_neg b]
  ·rw [if_neg h];simp only [BV];rw [VN d k k' y l]
   by_cases b:k'=a
   ·rw [if_pos b,if_pos b,if_neg (fun e=>h (e.symm.trans b))]
   ·rw [if_neg b,if_neg b]
theorem T8(k:κ)(y:β):∀ M:List (κ×β),(Ge k y M).map Qq6=if k∈M.map Qq6 then M.map Qq6 else M.map Qq6++[k]
 | []=>by simp [Ge]
 | (a,z)::l=>by
  unfold Ge
  by_cases h:k=a
  ·rw [if_pos h];simp [h]
  ·rw [if_neg h,Qzd,T8 k y l,Qzd]
   by_cases b:k∈l.map Qq6
   ·rw [if_pos b,if_pos (QzA _ b)]
   ·rw [if_neg b,if_neg (by simp only [Qzy,not_or];exact⟨h,b⟩)]
    rfl
theorem T9(d:β)(k:κ):∀ M:List (κ×β),k∉M.map Qq6->BV d k M=d
 | [],_=>rfl
 | (a,z)::l,h=>by
  simp only [Qzd,Qzy,not_or] at h;unfold BV;rw [if_neg h.1];exact T9 d k l h.2
end
def Nv(M:HM)(p:List UInt8×Mv):HM:=Ge p.1 (BV [] p.1 M++[p.2]) M
def Oe(P:List (List UInt8×Mv))(w:List UInt8):List Mv:=(P.filter fun p=>p.1=w).map Prod.snd
theorem add_get(w:List UInt8):∀ (P:List (List UInt8×Mv)) (M:HM),BV [] w (P.foldl Nv M)=BV [] w M++Oe P w
 | [],M=>by simp [Oe]
 | p::P,M=>by
  rw [List.foldl_cons,add_get w P];unfold Nv;rw [VN];unfold Oe
  by_cases h:w=p.1
  ·subst h;simp
  ·rw [if_neg h];rw [List.filter_cons_of_neg (by simpa using fun e=>h e.symm)]
theorem VO:∀ (P:List (List UInt8×Mv)) (M:HM) (k:List UInt8),k∈(P.foldl Nv M).map Qq6↔k∈M.map Qq6\/k∈P.map Qq6
 | [],M,k=>by simp
 | p::P,M,k=>by
  rw [List.foldl_cons,VO P];unfold Nv;rw [T8]
  by_cases h:p.1∈M.map Qq6
  ·rw [if_pos h,Qzd,Qzy]
   constructor
   ·rintro(a | a)
    ·exact .inl a
    ·exact .inr (.inr a)
   ·rintro(a | a | a)
    ·exact .inl a
    ·exact .inl (a ▸ h)
    ·exact .inr a
  ·rw [if_neg h,Qzd,Qzy,QzQ,Qzf]
   constructor
   ·rintro((a | a) | a)
    ·exact .inl a
    ·exact .inr (.inl a)
    ·exact .inr (.inr a)
   ·rintro(a | a | a)
    ·exact .inl (.inl a)
    ·exact .inl (.inr a)
    ·exact .inr a
theorem TA:∀ (P:List (List UInt8×Mv)) (M:HM),(M.map Qq6).Nodup->((P.foldl Nv M).map Qq6).Nodup
 | [],_,h=>h
 | p::P,M,h=>by
  rw [List.foldl_cons];refine TA P _ ?_;unfold Nv;rw [T8]
  by_cases c:p.1∈M.map Qq6
  ·rw [if_pos c];exact h
  ·rw [if_neg c];refine List.nodup_append.2 ⟨h,by simp,fun a ha b hb e=>?_⟩;rw [Qzf] at hb;exact c (hb ▸ e ▸ ha)
theorem PM(P:List (List UInt8×Mv))(w:List UInt8):(Oe P w).length<=P.length:=by
 unfold Oe;rw [Qzk];exact Qk3 _ _
def Io(i:Int)(l:List W):List (List UInt8×Mv):=(l.zipIdx).map fun x=>(x.1.1,(i,((x.2:Nat):Int)))
theorem Nn(i:Int)(l:List W):(Io i l).length=l.length:=by unfold Io;rw [Qzk,List.length_zipIdx]
theorem Ub(i:Int)(l:List W)(k:Nat)(hk:k<l.length):(Io i l)[k]? = some ((l.getD k Qq2).1,(i,(k:Int))):=by
 unfold Io;rw [Qxy,List.getElem?_zipIdx,Qzw hk,Qzq,Qzw hk];simp
theorem Yn(i:Int)(l:List W)(k:Nat)(hk:k<l.length)(M:HM):((Io i l).take (k+1)).foldl Nv M=Nv (((Io i l).take k).foldl Nv M) ((l.getD k Qq2).1,(i,(k:Int))):=by
 rw [QxX,Ub i l k hk,List.foldl_append]
 rfl
def HD:Nat->List (List UInt8)->List (List UInt8×Mv)
 | _,[]=>[]
 | i,t::r=>Io (i:Int) (Zj t)++HD (i+1) r
theorem Xp:∀ (i:Nat) (r:List (List UInt8)),(∀ t∈r,t.length<=2048)->(HD i r).length<=r.length * 2049
 | _,[],_=>by simp [HD]
 | i,t::r,h=>by
  unfold HD;rw [Qzu,Nn,Qzj];have a:=XY t;have h2:=Xp (i+1) r (fun x hx=>h x (QzA _ hx));have h3:=h t (QzJ ..);omega
end Go.L
namespace Go.L
def ND:Nat->List (List UInt8)->Option Nat
 | _,[]=>none
 | i,t::r=>if 2048<t.length then some i else ND (i+1) r
end Go.L
namespace Go.Proofs.YtekmbcbgknmhiaaGreatDoor
open Go Go.L
theorem AeI(i:Nat)(l:List W)(M:HM)(hl:l.length<=3000)(hi:i<=100)(hM:∀ w,(BV [] w M).length<=1000000):
  Ke (i:Int) (l,(0,0)) (M,0)=some (.inl ((Io (i:Int) l).foldl Nv M,((i+1:Nat):Int))):=by
 unfold Ke
 have key:=DM (b:=Hj (i:Int) (l,(0,0))) (m:=some (.inl ((Io (i:Int) l).foldl Nv M,((i+1:Nat):Int)))) (fun k=>(((Io (i:Int) l).take k).foldl Nv M,((k:Nat):Int))) l.length (fun k hk=>by
  unfold Hj;simp only
  have a:(BV [] (l.getD k Qq2).1 (((Io (i:Int) l).take k).foldl Nv M)).length<=1003000:=by
   rw [add_get,Qzu];have h2:=PM ((Io (i:Int) l).take k) (l.getD k Qq2).1;rw [QzK,Nn] at h2;have h3:=hM (l.getD k Qq2).1;omega
  rw [if_pos U,Ac ⟨by omega,by omega⟩,Qq8,Ac (by constructor <;> omega),Ac (by constructor <;> omega),Yn (i:Int) l k hk M]
  rfl) (by
  unfold Hj Kd;simp only;rw [if_neg U,Ac (by constructor <;> omega),Qxk (by rw [Nn];exact Qzx _)]
  congr 3) 0 (hi:=(by omega))
 exact key
theorem Xq(items:List (List UInt8))(hn:items.length<=64):∀ (r:List (List UInt8)) (i:Nat) (M:HM),items.drop i=r->i<=items.length->(∀ w,(BV [] w M).length<=i * 3000)->
  run (EP items) (M,(i:Int))=match ND i r with | some j=>some ((0,[]),(3,(j:Int))) | none=>HV items ((HD i r).foldl Nv M)
 | [],i,M,hd,hi,hM=>by
  have hlen:=congrArg Qxu hd;rw [QzC,Qze] at hlen;unfold ND HD;refine AP ?_;unfold EP;simp only;rw [if_neg U]
  rfl
 | t::r,i,M,hd,hi,hM=>by
  have hlen:=congrArg Qxu hd;rw [QzC,Qzj] at hlen
  have hg:items.getD i Qq2=t:=by
   have:=congrArg (·[0]?) hd;simp only [Qxv,Qx7,Qxx] at this;rw [Qzq,this]
   rfl
  have hd':items.drop (i+1)=r:=by rw [<- Qkw,hd];rfl
  unfold ND
  by_cases h:2048<t.length
  ·rw [if_pos h];refine AP ?_;unfold EP;simp only;rw [if_pos U,Ac ⟨by omega,by omega⟩,Qq8,hg,Aa9 h,Qq5,if_neg Qqd]
   rfl
  ·rw [if_neg h];have hw:=XY t
   have hb:EP items (M,(i:Int))=some (.inl ((Io (i:Int) (Zj t)).foldl Nv M,((i+1:Nat):Int))):=by
    unfold EP;simp only;rw [if_pos U,Ac ⟨by omega,by omega⟩,Qq8,hg,AeH U,Qq5,if_pos ⟨Z,Z⟩];exact AeI i (Zj t) M U U (fun w=>by have:=hM w;omega)
   rw [Be hb,Xq items hn r (i+1) _ hd' U (fun w=>by
    rw [add_get,Qzu];have a:=PM (Io (i:Int) (Zj t)) w;rw [Nn] at a;have h2:=hM w;omega)]
   have e:(HD i (t::r)).foldl Nv M=(HD (i+1) r).foldl Nv ((Io (i:Int) (Zj t)).foldl Nv M):=by
    rw [HD,List.foldl_append]
   rw [e]
theorem AcF(items:List (List UInt8)):Jj items=if 64<items.length then some ((0,[]),(2,-1)) else match ND 0 items with | some j=>some ((0,[]),(3,(j:Int))) | none=>HV items ((HD 0 items).foldl Nv []):=by
 unfold Jj
 by_cases h:64<items.length
 ·rw [if_pos U,if_pos h]
  rfl
 ·rw [if_neg U,if_neg h];exact Xq items U items 0 [] Z U (fun w=>by simp [BV])
end Go.Proofs.YtekmbcbgknmhiaaGreatDoor
end
noncomputable section
namespace Go.L
open Go Go.Proofs.YtekmbcbgknmhiaaGreatDoor
theorem VP{cur:List UInt8}{fr at' n:Nat}(h:cur.length<=n):∀ w∈fin cur fr at',w.1.length<=n:=by
 intro w hw;unfold fin at hw
 split at hw
 ·cases hw
 ·rw [Qzf.1 hw];exact h
theorem VQ{a:List UInt8}:∀ (f at':Nat) (cur:List UInt8) (fr:Nat),at'<=a.length->cur.length<=at'->∀ w∈VA a f at' cur fr,w.1.length<=a.length
 | 0,at',cur,fr,h,hc=>VP U
 | f+1,at',cur,fr,h,hc=>by
  intro w hw;unfold VA at hw
  split at hw
  ·rename_i b
   split at hw
   ·rcases QzQ.1 hw with hw | hw
    ·exact VP U w hw
    ·exact VQ f (at'+1) [] (at'+1) U Qqd w hw
   ·exact VQ f _ _ fr (QL b) (by rw [Qzu,XU b];omega) w hw
  ·exact VP U w hw
theorem Zx(a:List UInt8):∀ w∈Zj a,w.1.length<=a.length:=VQ _ 0 [] 0 (Qz5 _) (Qzx _)
theorem VR:∀ (i:Nat) (r:List (List UInt8)),(∀ t∈r,t.length<=2048)->∀ k∈(HD i r).map Qq6,k.length<=2048
 | _,[],_,k,hk=>by cases hk
 | i,t::r,h,k,hk=>by
  unfold HD at hk;rw [Qxf] at hk
  rcases QzQ.1 hk with hk | hk
  ·obtain⟨x,hx,rfl⟩:=Qz8.1 hk;unfold Io at hx;obtain⟨y,hy,rfl⟩:=Qz8.1 hx
   have a:y.1∈Zj t:=by
    have:=List.mem_zipIdx' hy;rw [this.2];exact Qxj _
   exact Qz2 (Zx t y.1 a) (h t (QzJ ..))
  ·exact VR (i+1) r (fun x hx=>h x (QzA _ hx)) k hk
def R5(M:HM):HM:=((M.map Qq6).mergeSort leB).map fun k=>(k,BV [] k M)
theorem Zy(M:HM):(R5 M).length=M.length:=by unfold R5;rw [Qzk,List.length_mergeSort,Qzk]
end Go.L
namespace Go.Proofs.YtekmbcbgknmhiaaGreatDoor
open Go Go.L
theorem AaA(n:Int)(M:HM)(hf:SF M)(hm:M.length<=1000000):LA n M=HU n (R5 M):=by
 unfold LA MD;rw [Ac hf,Qq5];unfold Ma;have hl:((M.map Qq6).mergeSort leB).length=M.length:=by rw [List.length_mergeSort,Qzk]
 have key:=DM (b:=Hi n M ((M.map Qq6).mergeSort leB)) (m:=HU n (R5 M)) (fun k=>((R5 M).take k,((k:Nat):Int))) M.length (fun k hk=>by
  unfold Hi;simp only
  have a:(R5 M).take (k+1)=(R5 M).take k++[(((M.map Qq6).mergeSort leB).getD k Qq2,BV [] (((M.map Qq6).mergeSort leB).getD k Qq2) M)]:=by
   rw [QxX]
   congr 1
   unfold R5;rw [Qxy,Qzq,Qzw U]
   rfl
  have h2:((R5 M).take k).length<=1000000:=by rw [QzK];omega
  rw [if_pos U,Ac ⟨by omega,by omega⟩,Qq8,Ac (by rw [QxC];constructor <;> omega),Ac (by constructor <;> omega),a]
  rfl) (by
  unfold Hi;simp only;rw [if_neg U,Qxk (by rw [Zy];exact Qzx _)]) 0 (hi:=(by omega))
 exact key
end Go.Proofs.YtekmbcbgknmhiaaGreatDoor
namespace Go.L
open Go
def QQ(n:Nat):Nat:=if n=0 then 0 else n.log2+1
theorem Yo{n k:Nat}(h:n<2 ^ k):QQ n<=k:=by
 unfold QQ
 split
 ·omega
 ·rename_i a;have:=(Nat.log2_lt a).2 h;omega
theorem Zz{n k:Nat}(h:2 ^ k<=n):QQ n=QQ (n / 2 ^ k)+k:=by
 have hp:0<2 ^ k:=Nat.two_pow_pos k;have hn:n≠0:=by omega
 have hm:n / 2 ^ k≠0:=by
  have:=Nat.div_pos h hp;omega
 unfold QQ;rw [if_neg hn,if_neg hm]
 have a:n.log2<=(n / 2 ^ k).log2+k:=by
  have h2:n / 2 ^ k<2 ^ ((n / 2 ^ k).log2+1):=Nat.lt_log2_self
  have h3:n<2 ^ ((n / 2 ^ k).log2+1+k):=by
   rw [Nat.pow_add];exact(Nat.div_lt_iff_lt_mul hp).1 h2
  have:=(Nat.log2_lt hn).2 h3;omega
 have h2:(n / 2 ^ k).log2+k<=n.log2:=by
  rw [Nat.le_log2 hn,Nat.pow_add];exact Qz2 (Qka _ (Nat.log2_self_le hm)) (Nat.div_mul_le_self n (2 ^ k))
 omega
end Go.L
namespace Go.Proofs.YtekmbcbgknmhiaaGreatDoor
open Go Go.L
theorem AjA:∀ i:Fin 256,DZ ((i.val:Nat):Int) 0=some ((QQ i.val:Nat):Int):=by decide +kernel
theorem AeJ{s:Nat}(hs:s<256){c:Int}(b:0<=c)(d:c<=100):DZ (s:Int) c=some (c+((QQ s:Nat):Int)):=by
 have h:=AjA ⟨s,hs⟩;have hb:QQ s<=8:=Yo U;simp only at h;unfold DZ at h ⊢;obtain⟨a,h⟩:=GG h;obtain⟨_,h⟩:=GG h;have hT:=Option.some.inj h;rw [Int.zero_add] at hT;rw [Ac a,hT,Ac (by constructor <;> omega)]
theorem AeK{n:Nat}(hn:n<16777216):Is (n:Int)=some ((QQ n:Nat):Int):=by
 unfold Is Gt Gs;rw [if_neg U]
 by_cases a:65536<=n
 ·have e:(n:Int) / 65536=((n / 65536:Nat):Int):=by omega
  rw [if_pos U,Ac (by constructor <;> omega),e,if_neg U,AeJ U U U,Zz (n:=n) (k:=16) U]
  congr 1
  show 16+((QQ (n / 65536):Nat):Int)=((QQ (n / 65536)+16:Nat):Int)
  omega
 ·rw [if_neg U]
  by_cases h2:256<=n
  ·have e:(n:Int) / 256=((n / 256:Nat):Int):=by omega
   rw [if_pos U,Ac (by constructor <;> omega),e,AeJ U U U,Zz (n:=n) (k:=8) U]
   congr 1
   show 8+((QQ (n / 256):Nat):Int)=((QQ (n / 256)+8:Nat):Int)
   omega
  ·rw [if_neg U,AeJ U U U,Int.zero_add]
def gzw(n:Nat):Nat:=if n=0 then 0 else 2 * QQ n - 1
theorem AeL{n:Nat}(hn:n<16777216):GQ (n:Int)=some ((gzw n:Nat):Int):=by
 unfold GQ gzw KP
 by_cases h:n=0
 ·rw [if_pos U,if_pos h];rfl
 ·have hb:QQ n<=24:=Yo U;have hp:1<=QQ n:=by unfold QQ;rw [if_neg h];omega
  have hw:IntKind.u64.wrap (n:Int)=(n:Int):=by simp [IntKind.wrap,IntKind.signed,IntKind.bits];omega
  rw [if_neg U,if_neg h,hw,AeK hn,Qq5,Qq5,Ac (by constructor <;> omega),Ac (by constructor <;> omega)]
  congr 1
  omega
theorem Aiu{n k:Nat}(h:n<2 ^ k)(_hk:1<=k):gzw n<=2 * k - 1:=by
 unfold gzw;have:=Yo h
 split <;> omega
end Go.Proofs.YtekmbcbgknmhiaaGreatDoor
end
noncomputable section
namespace Go.L
open Go Go.Proofs.YtekmbcbgknmhiaaGreatDoor
section
variable {σ ρ α:Type}
theorem MH{b:σ->Option (σ ⊕ ρ)}{s:σ}{m:Option α}{k:α->Option (σ ⊕ ρ)}{R:α->Option ρ}(h:b s=m.bind k)(hs:∀ x,b s=k x->run b s=R x):run b s=m.bind R:=by
 cases m with
 | none=>exact AP (m:=none) h
 | some x=>exact hs x h
theorem bcg{β:Type}{m:Option α}{f g:α->Option β}(h:∀ x,f x=g x):m.bind f=m.bind g:=congrArg _ (funext h)
def fm(f:Int->σ->Option σ):List Int->σ->Option σ
 | [],c=>some c
 | n::r,c=>(f n c).bind (fm f r)
theorem AaB(f:Int->σ->Option σ):∀ (l r:List Int) (c:σ),fm f (l++r) c=(fm f l c).bind (fm f r)
 | [],_,_=>rfl
 | n::l,r,c=>by
  show(f n c).bind (fm f (l++r))=((f n c).bind (fm f l)).bind (fm f r)
  rw [Qkv];refine bcg fun x=>AaB f l r x
end
def Pk:Mv->List Mv->List Int
 | _,[]=>[]
 | p,h::r=>(if h.1=p.1 then[1,h.2 - p.2] else[1+h.1 - p.1,h.2+1])++Pk h r
def Uc(b:UInt8):Int:=(b.toNat:Int)+1
def Yp(e:List UInt8×List Mv):List Int:=(e.1.length:Int)::(e.1.map Uc++((e.2.length:Int)::Pk (0,-1) e.2))
def RO(x:Int×HM):List Int:=(x.1+1)::((x.2.length:Int)+1)::x.2.flatMap Yp
def HB(h:Mv):Prop:=0<=h.1/\h.1<=1000000000/\-1<=h.2/\h.2<=1000000000
def EB(e:List UInt8×List Mv):Prop:=e.1.length<=1000000000/\e.2.length<=1000000000/\∀ h∈e.2,HB h
end Go.L
namespace Go.Proofs.YtekmbcbgknmhiaaGreatDoor
open Go Go.L
theorem AeM{a:Int×HM}{i:Nat}(hi:i<1000000000){H:List Mv}(hH:H.length<=1000000000)(he:(a.2.getD i Qq2).2=H):∀ (r:List Mv) (j:Nat) (p:Mv) (c:Int),H.drop j=r->j<=H.length->HB p->(∀ h∈r,HB h)->
  run (BQ a (i:Int)) (p.1,p.2,c,(j:Int))=(fm AY (Pk p r) c).bind fun c=>some (.inl (c,((i+1:Nat):Int)))
 | [],j,p,c,hd,hj,hp,hr=>by
  have hlen:=congrArg Qxu hd;rw [QzC,Qze] at hlen
  show _=some (Sum.inl (c,((i+1:Nat):Int)))
  refine AP ?_;unfold BQ F3;simp only;rw [Qq8,he,if_neg U,Ac (by constructor <;> omega)]
  congr 3
 | h::r,j,p,c,hd,hj,hp,hr=>by
  have hlen:=congrArg Qxu hd;rw [QzC,Qzj] at hlen
  have hg:H.getD j Qq2=h:=by
   have:=congrArg (·[0]?) hd;simp only [Qxv,Qx7,Qxx] at this;rw [Qzq,this]
   rfl
  have hd':H.drop (j+1)=r:=by rw [<- Qkw,hd];rfl
  obtain⟨b,h2,h3,d⟩:=hr h (QzJ ..);obtain⟨e,f,g,k⟩:=hp;have ej:((j:Nat):Int)+1=((j+1:Nat):Int):=by omega
  have ih:=fun c=>AeM hi hH he r (j+1) h c hd' U ⟨b,h2,h3,d⟩ (fun x hx=>hr x (QzA _ hx));unfold Pk;rw [AaB,Qkv]
  by_cases hs:h.1=p.1
  ·rw [if_pos hs]
   show _=Qq4 (Qq4 (AY 1 c) (fun x=>Qq4 (AY (h.2 - p.2) x) some)) _
   rw [Qkv]
   have hb:BQ a (i:Int) (p.1,p.2,c,(j:Int))=Qq4 (AY 1 c) (fun x=>Qq4 (AY (h.2 - p.2) x) (fun y=>some (.inl (h.1,h.2,y,((j+1:Nat):Int))))):=by
    unfold BQ;simp only;rw [Qq8,he,if_pos U,Ac ⟨by omega,by omega⟩,Qq8,hg,if_pos hs,ej];refine bcg fun x=>?_;rw [Ac (by constructor <;> omega)];refine bcg fun y=>?_;rw [Ac (by constructor <;> omega)]
   refine MH hb fun x hx=>?_;rw [Qkv];refine MH hx fun y hy=>?_;rw [Be hy];exact ih y
  ·rw [if_neg hs]
   show _=Qq4 (Qq4 (AY (1+h.1 - p.1) c) (fun x=>Qq4 (AY (h.2+1) x) some)) _
   rw [Qkv]
   have hb:BQ a (i:Int) (p.1,p.2,c,(j:Int))=Qq4 (AY (1+h.1 - p.1) c) (fun x=>Qq4 (AY (h.2+1) x) (fun y=>some (.inl (h.1,h.2,y,((j+1:Nat):Int))))):=by
    unfold BQ;simp only;rw [Qq8,he,if_pos U,Ac ⟨by omega,by omega⟩,Qq8,hg,if_neg hs,Ac (by constructor <;> omega),Ac (by constructor <;> omega),ej];refine bcg fun x=>?_;rw [Ac (by constructor <;> omega)];refine bcg fun y=>?_;rw [Ac (by constructor <;> omega)]
   refine MH hb fun x hx=>?_;rw [Qkv];refine MH hx fun y hy=>?_;rw [Be hy];exact ih y
theorem AeN{a:Int×HM}{i:Nat}(hi:i<1000000000){w:List UInt8}{H:List Mv}(hw:w.length<=1000000000)(hH:H.length<=1000000000)(he:a.2.getD i Qq2=(w,H))(hb:∀ h∈H,HB h):∀ (r:List UInt8) (j:Nat) (c:Int),w.drop j=r->j<=w.length->
  run (C3 a (i:Int)) (c,(j:Int))=(fm AY (r.map Uc++((H.length:Int)::Pk (0,-1) H)) c).bind fun c=>some (.inl (c,((i+1:Nat):Int)))
 | [],j,c,hd,hj=>by
  have hlen:=congrArg Qxu hd;rw [QzC,Qze] at hlen;refine AP ?_;have d:(a.2.getD i Qq2).1=w:=by rw [he]
  have e:(a.2.getD i Qq2).2=H:=by rw [he]
  unfold C3 F4 Hw;simp only;rw [Qq8,d,e,if_neg U]
  congr 1
  show _=Qq4 (Qq4 (AY (H.length:Int) c) (fm AY (Pk (0,-1) H))) _
  rw [Qkv];refine bcg fun x=>AeM hi hH e H 0 (0,-1) x Z (Qz5 _) ⟨by decide,by decide,by decide,by decide⟩ hb
 | b::r,j,c,hd,hj=>by
  have hlen:=congrArg Qxu hd;rw [QzC,Qzj] at hlen
  have hg:w.getD j Qq2=b:=by
   have:=congrArg (·[0]?) hd;simp only [Qxv,Qx7,Qxx] at this;rw [Qzq,this]
   rfl
  have hd':w.drop (j+1)=r:=by rw [<- Qkw,hd];rfl
  have ej:((j:Nat):Int)+1=((j+1:Nat):Int):=by omega
  have d:(a.2.getD i Qq2).1=w:=by rw [he]
  have f:=b.toNat_lt
  show _=Qq4 (Qq4 (AY (Uc b) c) (fm AY (r.map Uc++((H.length:Int)::Pk (0,-1) H)))) _
  rw [Qkv]
  have hbody:C3 a (i:Int) (c,(j:Int))=Qq4 (AY (Uc b) c) (fun x=>some (.inl (x,((j+1:Nat):Int)))):=by
   unfold C3;simp only;rw [Qq8,d,if_pos U,Ac ⟨by omega,by omega⟩,Qq8,hg,Ac (by constructor <;> omega),ej];refine bcg fun x=>?_;rw [Ac (by constructor <;> omega)]
  refine MH hbody fun x hx=>?_;rw [Be hx];exact AeN hi hw hH he hb r (j+1) x hd' U
theorem AeO{a:Int×HM}(hn:a.2.length<1000000000):∀ (r:HM) (i:Nat) (c:Int),a.2.drop i=r->i<=a.2.length->(∀ e∈r,EB e)->
  run (C4 a) (c,(i:Int))=fm AY (r.flatMap Yp) c
 | [],i,c,hd,hi,_=>by
  have hlen:=congrArg Qxu hd;rw [QzC,Qze] at hlen;refine AP (m:=some c) ?_;unfold C4;simp only;rw [if_neg U]
 | e::r,i,c,hd,hi,hE=>by
  have hlen:=congrArg Qxu hd;rw [QzC,Qzj] at hlen
  have hg:a.2.getD i Qq2=e:=by
   have:=congrArg (·[0]?) hd;simp only [Qxv,Qx7,Qxx] at this;rw [Qzq,this]
   rfl
  have hd':a.2.drop (i+1)=r:=by rw [<- Qkw,hd];rfl
  obtain⟨w,H⟩:=e;obtain⟨hw,hH,hB⟩:=hE _ (QzJ ..);simp only at hw hH hB;rw [Qz6,AaB]
  show _=Qq4 (Qq4 (AY (w.length:Int) c) (fm AY (w.map Uc++((H.length:Int)::Pk (0,-1) H)))) _
  rw [Qkv]
  have hbody:C4 a (c,(i:Int))=Qq4 (AY (w.length:Int) c) (fun x=>(fm AY (w.map Uc++((H.length:Int)::Pk (0,-1) H)) x).bind fun c=>some (.inl (c,((i+1:Nat):Int)))):=by
   have b:(a.2.getD i Qq2).1=w:=by rw [hg]
   unfold C4 Hx;simp only;rw [Qq8,b,if_pos U,Ac ⟨by omega,by omega⟩];refine bcg fun x=>?_;rw [Ac U];exact AeN U hw hH hg hB w 0 x Z (Qz5 _)
  refine MH hbody fun x hx=>MH hx fun y hy=>?_;rw [Be hy];exact AeO hn r (i+1) y hd' U (fun z hz=>hE z (QzA _ hz))
theorem Aiv{a:Int×HM}(b:0<=a.1/\a.1<=1000000000)(hn:a.2.length<1000000000)(hE:∀ e∈a.2,EB e)(c:Int):FR a c=fm AY (RO a) c:=by
 unfold FR;rw [Ac (by constructor <;> omega)]
 show _=Qq4 (AY (a.1+1) c) (fun x=>Qq4 (AY ((a.2.length:Int)+1) x) (fm AY (a.2.flatMap Yp)))
 refine bcg fun x=>?_;rw [Ac (by constructor <;> omega)];refine bcg fun y=>?_;unfold Hy;exact AeO hn a.2 0 y Z (Qz5 _) hE
end Go.Proofs.YtekmbcbgknmhiaaGreatDoor
end
noncomputable section
namespace Go.L
open Go Go.Proofs.YtekmbcbgknmhiaaGreatDoor
theorem AbE:∀ x y:List UInt8,Op.bytesLess x y=decide (x<y)
 | [],[]=>by simp [Op.bytesLess]
 | _::_,[]=>by simp [Op.bytesLess]
 | [],_::_=>by simp [Op.bytesLess]
 | a::x,b::y=>by
  rw [Op.bytesLess,AbE x y];simp only [List.cons_lt_cons_iff]
  by_cases c:a<b <;> by_cases h2:a=b <;> by_cases h3:x<y <;> simp [c,h2,h3]
theorem Xr{a b:UInt8}(c : ¬ a<b)(h2 : ¬ b<a):a=b:=by
 apply UInt8.toNat.inj;rw [QxQ] at c h2;omega
theorem AaC:∀ l m:List UInt8,Lib.compareBytes l m<0↔l<m
 | [],[]=>by simp [Lib.compareBytes]
 | [],_::_=>by simp [Lib.compareBytes]
 | _::_,[]=>by simp [Lib.compareBytes]
 | a::l,b::m=>by
  have ih:=AaC l m;unfold Lib.compareBytes;rw [List.cons_lt_cons_iff]
  by_cases c:a<b
  ·rw [if_pos c];simp [c]
  ·rw [if_neg c]
   by_cases h2:b<a
   ·have hne:a≠b:=fun e=>by subst e;exact c h2
    rw [if_pos h2];simp [c,hne]
   ·have e:a=b:=Xr c h2;rw [if_neg h2,ih];simp [e]
theorem TB:∀ l m:List UInt8,Lib.compareBytes l m=0↔l=m
 | [],[]=>by simp [Lib.compareBytes]
 | [],_::_=>by simp [Lib.compareBytes]
 | _::_,[]=>by simp [Lib.compareBytes]
 | a::l,b::m=>by
  have ih:=TB l m;unfold Lib.compareBytes
  by_cases c:a<b
  ·have hne:a≠b:=fun e=>by subst e;rw [QxQ] at c;omega
   rw [if_pos c];simp [hne]
  ·rw [if_neg c]
   by_cases h2:b<a
   ·have hne:a≠b:=fun e=>by subst e;exact c h2
    rw [if_pos h2];simp [hne]
   ·have e:a=b:=Xr c h2;rw [if_neg h2,ih];simp [e]
theorem L2(l:List UInt8): ¬ l<l:=by
 rw [<- decide_eq_false_iff_not,<- AbE]
 induction l with
 | nil=>rfl
 | cons a l ih=>unfold Op.bytesLess;simp [ih]
abbrev Inc(l:List (List UInt8)):Prop:=l.Pairwise (· < ·)
theorem Inc.nodup{l:List (List UInt8)}(h:Inc l):l.Nodup:=by
 refine List.Pairwise.imp ?_ h;intro a b hab e;subst e;exact L2 a hab
theorem AeP{l:List (List UInt8)}(h:l.Nodup):Inc (l.mergeSort leB):=by
 have tr:∀ a b c:List UInt8,leB a b=true->leB b c=true->leB a c=true:=fun a b c d h2=>by simp only [leB,decide_eq_true_eq] at *;exact List.le_trans d h2
 have to:∀ a b:List UInt8,(leB a b||leB b a)=true:=fun a b=>by simp only [leB,Qxq,decide_eq_true_eq];exact List.le_total a b
 have d:(l.mergeSort leB).Pairwise fun a b=>leB a b=true:=Qk4 tr to l;have h2:(l.mergeSort leB).Nodup:=(Qkz l leB).nodup_iff.2 h;refine(d.and h2).imp fun {a b} hab=>?_;have h3:=of_decide_eq_true hab.1
 rcases List.le_iff_lt_or_eq.1 h3 with h | h
 ·exact h
 ·exact absurd h hab.2
theorem AbF{w:List UInt8}{hs:List Mv}:∀ (es:HM) (i:Nat),es[i]? = some (w,hs)->(∀ k,k<i->(es.getD k Qq2).1≠w)->BV [] w es=hs
 | [],i,h,_=>by simp at h
 | e::es,0,h,_=>by
  simp only [Qx7,Option.some.injEq] at h;subst h
  show(if w=w then hs else _)=hs
  rw [if_pos Z]
 | e::es,i+1,h,hk=>by
  have a:e.1≠w:=hk 0 U
  show(if w=e.1 then e.2 else BV [] w es)=hs
  rw [if_neg (fun x=>a x.symm)];exact AbF es i (by simpa using h) (fun k hk'=>by have:=hk (k+1) U;simpa using this)
theorem Z0(w:List UInt8)(f:List UInt8->List Mv):∀ K:List (List UInt8),BV [] w (K.map fun k=>(k,f k))=if w∈K then f w else[]
 | []=>by simp [BV]
 | k::K=>by
  show(if w=k then f k else BV [] w (K.map fun k=>(k,f k)))=_
  rw [Z0 w f K]
  by_cases h:w=k
  ·subst h;simp
  ·rw [if_neg h];simp [h]
theorem AeQ(M:HM)(w:List UInt8):BV [] w (R5 M)=BV [] w M:=by
 unfold R5;rw [Z0]
 by_cases h:w∈(M.map Qq6).mergeSort leB
 ·rw [if_pos h]
 ·rw [if_neg h,T9];exact fun h'=>h ((Qkz _ _).mem_iff.2 h')
theorem AcG(M:HM):(R5 M).map Qq6=(M.map Qq6).mergeSort leB:=by
 unfold R5;rw [Qx0];exact List.map_id' _
end Go.L
namespace Go.Proofs.YtekmbcbgknmhiaaGreatDoor
open Go Go.L
theorem Z1(e:List UInt8×List Mv)(w:List UInt8):Gz e w=some (Lib.compareBytes e.1 w):=Z
theorem Aiw{i j:Nat}(hi:i<=1000000000)(hj:j<=1000000000):IntKind.i64.wrap (IntKind.u64.wrap ((i:Int)+(j:Int)) / 2)=(((i+j) / 2:Nat):Int):=by
 have a:IntKind.u64.wrap ((i:Int)+(j:Int))=((i+j:Nat):Int):=by simp [IntKind.wrap,IntKind.signed,IntKind.bits];omega
 rw [a];simp [IntKind.wrap,IntKind.signed,IntKind.bits];omega
theorem AcH{es:HM}(hn:es.length<=1000000000)(w:List UInt8)(hs:Inc (es.map Qq6)):
  Bj es w=some ((((es.map Qq6).countP fun k=>decide (k<w):Nat):Int),decide (w∈es.map Qq6)):=by
 have hk:∀ k,k<es.length->(es.map Qq6)[k]? = some (es.getD k Qq2).1:=fun k h=>by
  rw [Qxy,Qzw h,Qzq,Qzw h];rfl
 have mono:∀ a b,a<b->b<es.length->(es.getD a Qq2).1<(es.getD b Qq2).1:=fun a b hab hb=>by
  have:=List.pairwise_iff_getElem.1 hs a b (by rw [Qzk];omega) (by rw [Qzk];omega) hab;have m:=Qzw (l:=es.map Qq6) (i:=a) (by rw [Qzk];omega);have n:=Qzw (l:=es.map Qq6) (i:=b) (by rw [Qzk];omega);rw [hk a U] at m;rw [hk b hb] at n;rw [Option.some.inj m,Option.some.inj n];exact this
 -- how many keys are less, once the place is known
 have cnt:∀ i,i<=es.length->(∀ k,k<i->(es.getD k Qq2).1<w)->(∀ k,i<=k->k<es.length->¬ (es.getD k Qq2).1<w)->(es.map Qq6).countP (fun k=>decide (k<w))=i:=fun i hi f h2=>by
  have e:es.map Qq6=(es.map Qq6).take i++(es.map Qq6).drop i:=(List.take_append_drop _ _).symm;rw [e,QkQ,List.countP_eq_length.2,QkE.2,QzK,Qzk]
  ·omega
  ·intro x hx;obtain⟨k,c⟩:=Qjy.1 hx;rw [Qxv] at c
   have hlt:i+k<es.length:=by
    have:=(QzD.1 c).1;rw [Qzk] at this;exact this
   rw [hk _ hlt] at c;rw [<- Option.some.inj c]
   simpa using h2 (i+k) U hlt
  ·intro x hx;obtain⟨k,c⟩:=Qjy.1 hx
   have hlt:k<i:=by
    have:=(QzD.1 c).1;rw [QzK] at this;omega
   rw [Qjd hlt,hk _ U] at c;rw [<- Option.some.inj c]
   simpa using f k hlt
 unfold Bj BC;refine Abf (fun s=>∃ i j:Nat,s=((i:Int),(j:Int))/\i<=j/\j<=es.length/\(∀ k,k<i->(es.getD k Qq2).1<w)/\(∀ k,j<=k->k<es.length->¬ (es.getD k Qq2).1<w)) (fun s=>(s.2 - s.1).toNat) ?_ (s:=((0:Int),(es.length:Int))) ⟨0,es.length,Z,Qz5 _,Qzx _,fun k h=>by omega,fun k f h2=>by omega⟩;rintro _ ⟨i,j,rfl,hij,hj,f,h2⟩;unfold Bv;simp only
 by_cases h:i<j
 ·left
  rw [if_pos U,Ac (by constructor <;> omega),Aiw U U,Ac ⟨by omega,by omega⟩,Qq8,Z1,Qq5];have hm:(i+j) / 2<es.length:=by omega
  by_cases hc:(es.getD ((i+j) / 2) Qq2).1<w
  ·rw [if_pos ((AaC _ _).2 hc),Ac (by constructor <;> omega)];refine⟨_,Z,⟨(i+j) / 2+1,j,by congr 1,by omega,hj,fun k hk'=>?_,h2⟩,by simp only;omega⟩
   rcases Qxw k ((i+j) / 2) with hlt | hge
   ·exact List.lt_trans (mono _ _ hlt hm) hc
   ·obtain rfl:k=(i+j) / 2:=by omega
    exact hc
  ·rw [if_neg (fun x=>hc ((AaC _ _).1 x))];refine⟨_,Z,⟨i,(i+j) / 2,Z,by omega,by omega,f,fun k c d hl=>?_⟩,by simp only;omega⟩
   rcases Qxw ((i+j) / 2) k with hlt | hge
   ·exact hc (List.lt_trans (mono _ _ hlt d) hl)
   ·obtain rfl:k=(i+j) / 2:=by omega
    exact hc hl
 ·right
  obtain rfl:i=j:=by omega
  rw [if_neg U,cnt i hj f h2]
  congr 1
  unfold Bw
  by_cases h3:i<es.length
  ·rw [if_pos U,Ac ⟨by omega,by omega⟩,Qq8,Z1,Qq5]
   congr 2
   by_cases g:(es.getD i Qq2).1=w
   ·rw [decide_eq_true ((TB _ _).2 g),decide_eq_true];rw [<- g];exact Qjy.2 ⟨i,hk i h3⟩
   ·rw [decide_eq_false (fun x=>g ((TB _ _).1 x)),decide_eq_false];intro hmem;obtain⟨k,c⟩:=Qjy.1 hmem
    have hkl:k<es.length:=by
     have:=(QzD.1 c).1;rw [Qzk] at this;exact this
    rw [hk k hkl] at c;have d:=Option.some.inj c
    rcases Nat.lt_trichotomy k i with hlt | he | hgt
    ·exact L2 w (by have:=f k hlt;rw [d] at this;exact this)
    ·subst he;exact g d
    ·have o:=mono i k hgt hkl;rw [d] at o;exact h2 i (Qzx _) h3 o
  ·rw [if_neg U]
   congr 2
   rw [eq_comm,decide_eq_false_iff_not];intro hmem;obtain⟨k,c⟩:=Qjy.1 hmem
   have hkl:k<es.length:=by
    have:=(QzD.1 c).1;rw [Qzk] at this;exact this
   rw [hk k hkl] at c;have:=f k U;rw [Option.some.inj c] at this;exact L2 w this
theorem PN{n:Int}{es:HM}(hn:es.length<=1000000000)(w:List UInt8)(hs:Inc (es.map Qq6)):DD (n,es) w=some (BV [] w es):=by
 unfold DD;simp only;rw [AcH hn w hs,Qq5];simp only
 by_cases h:w∈es.map Qq6
 ·rw [decide_eq_true h,if_neg Qqc]
  have hc:(es.map Qq6).countP (fun k=>decide (k<w))<es.length:=by
   rcases Qxw ((es.map Qq6).countP (fun k=>decide (k<w))) (es.map Qq6).length with a | a
   ·rw [Qzk] at a;exact a
   ·have h2:=Nat.le_antisymm Qju a;exact absurd (of_decide_eq_true (List.countP_eq_length.1 h2 w h)) (L2 w)
  rw [Ac ⟨by omega,by omega⟩,Qq8]
  congr 1
  -- the place of w
  obtain⟨l,r,hlr⟩:=List.append_of_mem h;have hinc:=hs;rw [hlr] at hinc;have hl:∀ x∈l,x<w:=fun x hx=>(Qja.1 hinc).2.2 x hx w (QzJ ..);have hr:∀ x∈r,¬ x<w:=fun x hx hxw=>L2 w (List.lt_trans ((Qz0.1 (Qja.1 hinc).2.1).1 x hx) hxw)
  have hcnt:(es.map Qq6).countP (fun k=>decide (k<w))=l.length:=by
   rw [hlr,QkQ,Qx3,List.countP_eq_length.2 (fun x hx=>decide_eq_true (hl x hx)),QkE.2 (fun x hx=>by simpa using hr x hx),if_neg (by simp [L2 w])]
   rfl
  rw [hcnt] at hc ⊢;have hget:(es.map Qq6)[l.length]? = some w:=by rw [hlr];simp
  rw [Qxy,Qzw hc] at hget;refine(AbF es l.length (hs:=(es.getD l.length Qq2).2) ?_ (fun k hk=>?_)).symm
  ·rw [Qzw hc,Qzq,Qzw hc];simp only [QkK,Option.some.injEq] at hget;rw [<- hget]
   rfl
  ·intro hw;have a:(es.map Qq6)[k]? = l[k]?:=by rw [hlr,QkZ hk]
   rw [Qxy,Qzw U,Qzw hk] at a;rw [Qzq,Qzw U] at hw;simp only [QkK,Option.some.injEq] at a;have h2:=hl l[k] (Qxj _);rw [<- a] at h2;simp only [Option.getD_some] at hw;rw [hw] at h2;exact L2 w h2
 ·rw [decide_eq_false h,if_pos Qqc,T9 [] w es h]
/- Lists that are equal. -/
end Go.Proofs.YtekmbcbgknmhiaaGreatDoor
end
noncomputable section
namespace Go.L
open Go
theorem AeR{l r:List UInt8}{k:Nat}(h:k<l.length):bt (l++r) k=bt l k:=by
 unfold bt;rw [Qzq,Qzq,QkZ h]
def Ch(x:List UInt8):Prop:=x≠[]/\x.map Js=x/\∀ r,MT (x++r)=x.length
theorem AbG:∀ c:Fin 256,asc c.val=true->asc (Js (QzE c.val)).toNat=true/\Js (Js (QzE c.val))=Js (QzE c.val):=by decide +kernel
theorem AgO{l r:List UInt8}(h:PZ l≠0):PZ (l.take (PZ l)++r)=PZ l:=by
 have hc:∀ k,cont l k=true->k<l.length:=fun k h=>(of_decide_eq_true h).1
 have key:∀ n,PZ l=n->1<n->n<=l.length->(∀ k,k<n->bt (l.take n++r) k=bt l k)/\(∀ k,k<n->cont (l.take n++r) k=cont l k):=by
  intro n _ _ hn;have hl:(l.take n).length=n:=by rw [QzK];omega
  have hb:∀ k,k<n->bt (l.take n++r) k=bt l k:=fun k hk=>by
   rw [AeR U];unfold bt;rw [Qzq,Qzq,Qjd hk]
  refine⟨hb,fun k hk=>?_⟩;unfold cont;rw [hb k hk,Qzu,hl]
  congr 1
  apply propext
  constructor <;> (rintro⟨_,h2⟩;exact⟨by omega,h2⟩)
 have h':=h;unfold PZ at h'
 split at h'
 ·rename_i hA
  split at h'
  ·rename_i a;have e:PZ l=2:=by unfold PZ;rw [if_pos hA,if_pos a]
   obtain⟨hb,hk⟩:=key 2 e Qqc (hc 1 a);rw [e];unfold PZ;rw [hb 0 Qqc,hk 1 Qqc,if_pos hA,if_pos a]
  ·exact absurd Z h'
 ·rename_i hA
  split at h'
  ·rename_i hB
   split at h'
   ·rename_i a;have e:PZ l=3:=by unfold PZ;rw [if_neg hA,if_pos hB,if_pos a]
    obtain⟨hb,hk⟩:=key 3 e Qqc (hc 2 a.2.1);rw [e];unfold pt3 at a;unfold PZ pt3;rw [hb 0 Qqc,hb 1 Qqc,hb 2 Qqc,hk 1 Qqc,hk 2 Qqc,if_neg hA,if_pos hB,if_pos a]
   ·exact absurd Z h'
  ·rename_i hB
   split at h'
   ·rename_i hC
    split at h'
    ·rename_i a;have e:PZ l=4:=by unfold PZ;rw [if_neg hA,if_neg hB,if_pos hC,if_pos a]
     obtain⟨hb,hk⟩:=key 4 e Qqc (hc 3 a.2.2.1);rw [e];unfold pt4 at a;unfold PZ pt4;rw [hb 0 Qqc,hb 1 Qqc,hb 2 Qqc,hb 3 Qqc,hk 1 Qqc,hk 2 Qqc,hk 3 Qqc,if_neg hA,if_neg hB,if_pos hC,if_pos a]
    ·exact absurd Z h'
   ·exact absurd Z h'
theorem Aix{l:List UInt8}(hne:l≠[])(h:MT l≠0):Ch ((l.take (MT l)).map Js):=by
 have hl:=Aav l hne;have hlen:((l.take (MT l)).map Js).length=MT l:=by rw [Qzk,QzK];omega
 refine⟨fun e=>by rw [e] at hlen;exact h hlen.symm,?_,fun r=>?_⟩
 all_goals
  by_cases ha:asc (bt l 0)=true
 ·obtain⟨c,m,rfl⟩:=QkC hne;have e:MT (c::m)=1:=by unfold MT;rw [if_pos ha]
  have:=(AbG ⟨c.toNat,c.toNat_lt⟩ ha).2;rw [e];simp only [Qjx] at this;simp [this]
 ·have e:MT l=PZ l:=by unfold MT;rw [if_neg ha]
  rw [e] at h ⊢;rw [UB h,UB h]
 ·obtain⟨c,m,rfl⟩:=QkC hne;have e:MT (c::m)=1:=by unfold MT;rw [if_pos ha]
  have:=(AbG ⟨c.toNat,c.toNat_lt⟩ ha).1;simp only [Qjx] at this;rw [hlen,e]
  show MT (Js c::r)=1
  unfold MT;rw [if_pos (show asc (bt (Js c::r) 0)=true from this)]
 ·have e:MT l=PZ l:=by unfold MT;rw [if_neg ha]
  rw [hlen];rw [e] at h hl ⊢;rw [UB h]
  have a:bt (l.take (PZ l)++r) 0=bt l 0:=by
   rw [AeR (by rw [QzK];omega)];unfold bt;rw [Qzq,Qzq,Qjd U]
  unfold MT;rw [a,if_neg ha];exact AgO h
def Lw(t:List UInt8):Prop:=∃ cs:List (List UInt8),t=cs.flatten/\∀ x∈cs,Ch x
theorem Lw.nil:Lw []:=⟨[],Z,by simp⟩
theorem Lw.snoc{t x:List UInt8}(h:Lw t)(hx:Ch x):Lw (t++x):=by
 obtain⟨cs,rfl,hc⟩:=h;refine⟨cs++[x],by simp,fun y hy=>?_⟩
 rcases QzQ.1 hy with hy | hy
 ·exact hc y hy
 ·rw [Qzf.1 hy];exact hx
def Wok(n:Nat)(w:W):Prop:=Lw w.1/\w.1≠[]/\0<=w.2.1/\w.2.1<w.2.2/\w.2.2<=(n:Int)
theorem AaD{n:Nat}{cur:List UInt8}{fr at':Nat}(hc:Lw cur)(h:cur=[]\/fr<at')(hn:at'<=n):∀ w∈fin cur fr at',Wok n w:=by
 intro w hw;unfold fin at hw
 split at hw
 ·cases hw
 ·rename_i hne;rw [Qzf.1 hw];have:=h.resolve_left hne;exact⟨hc,hne,by show(0:Int)<=(fr:Int);omega,by show(fr:Int)<(at':Int);omega,by show(at':Int)<=(n:Int);omega⟩
theorem AaE{a:List UInt8}:∀ (f at':Nat) (cur:List UInt8) (fr:Nat),at'<=a.length->Lw cur->(cur=[]\/fr<at')->fr<=at'->∀ w∈VA a f at' cur fr,Wok a.length w
 | 0,at',cur,fr,h,hc,hf,_=>AaD hc hf h
 | f+1,at',cur,fr,h,hc,hf,hle=>by
  intro w hw;unfold VA at hw
  split at hw
  ·rename_i b
   split at hw
   ·rcases QzQ.1 hw with hw | hw
    ·exact AaD hc hf h w hw
    ·exact AaE f (at'+1) [] (at'+1) U Lw.nil (.inl Z) (Qzx _) w hw
   ·rename_i h2;exact AaE f _ _ fr (QL b) (hc.snoc (Aix (UC b) h2)) (.inr U) U w hw
  ·exact AaD hc hf h w hw
theorem Aiy(a:List UInt8):∀ w∈Zj a,Wok a.length w:=AaE _ 0 [] 0 (Qz5 _) Lw.nil (.inl Z) (Qzx _)
end Go.L
end
noncomputable section
namespace Go.L
open Go Go.Proofs.YtekmbcbgknmhiaaGreatDoor
theorem MI{α:Type}[Inhabited α]{l:List α}{i:Nat}{x:α}{r:List α}(h:l.drop i=x::r):l.getD i Qq2=x/\l.drop (i+1)=r/\i<l.length:=by
 have hlen:=congrArg Qxu h;rw [QzC,Qzj] at hlen;refine⟨?_,by rw [<- Qkw,h];rfl,by omega⟩;have:=congrArg (·[0]?) h;simp only [Qxv,Qx7,Qxx] at this;rw [Qzq,this]
 rfl
theorem Of{α:Type}{l:List α}{i:Nat}(h:l.drop i=[]):l.length<=i:=by
 have hlen:=congrArg Qxu h;rw [QzC,Qze] at hlen;omega
def E(items:List (List UInt8)):HM:=R5 ((HD 0 items).foldl Nv [])
theorem AeS(items:List (List UInt8)):(E items).map Qq6=(((HD 0 items).foldl Nv []).map Qq6).mergeSort leB:=AcG _
theorem Ajg(items:List (List UInt8)):Inc ((E items).map Qq6):=by
 rw [AeS];exact AeP (TA _ [] List.nodup_nil)
theorem Ajh(items:List (List UInt8))(k:List UInt8):k∈(E items).map Qq6↔k∈(HD 0 items).map Qq6:=by
 rw [AeS,(Qkz _ _).mem_iff,VO];simp
theorem Xs(items:List (List UInt8))(w:List UInt8):BV [] w (E items)=Oe (HD 0 items) w:=by
 unfold E;rw [AeQ,add_get]
 rfl
theorem AeT{items:List (List UInt8)}{e:List UInt8×List Mv}(h:e∈E items):e.2=Oe (HD 0 items) e.1:=by
 unfold E R5 at h;obtain⟨k,_,rfl⟩:=Qz8.1 h;simp only;rw [add_get]
 rfl
theorem Z2(k:List UInt8)(y:List Mv):∀ M:HM,(Ge k y M).length<=M.length+1
 | []=>by simp [Ge]
 | (a,z)::l=>by
  unfold Ge
  split
  ·simp
  ·have:=Z2 k y l;simp only [Qzj];omega
theorem Yq:∀ (P:List (List UInt8×Mv)) (M:HM),(P.foldl Nv M).length<=M.length+P.length
 | [],M=>by simp
 | p::P,M=>by
  rw [List.foldl_cons,Qzj];have a:=Yq P (Nv M p);have h2:(Nv M p).length<=M.length+1:=Z2 _ _ M;omega
theorem AeU(items:List (List UInt8)):(E items).length<=(HD 0 items).length:=by
 unfold E;rw [Zy];have:=Yq (HD 0 items) [];rw [Qze] at this;omega
theorem W4(i:Int)(l:List W):Io i l=(Qzv l.length).map fun k=>((l.getD k Qq2).1,(i,((k:Nat):Int))):=by
 apply Qkd;intro k
 by_cases h:k<l.length
 ·rw [Ub i l k h,Qxy,Qk5 h];rfl
 ·rw [Qxe (by rw [Nn];omega),Qxe (by rw [Qzk,QxA];omega)]
theorem O2{i:Int}{l:List W}{p:List UInt8×Mv}(h:p∈Io i l):p.2.1=i/\0<=p.2.2/\p.2.2<(l.length:Int)/\∃ w∈l,w.1=p.1:=by
 rw [W4] at h;obtain⟨k,hk,rfl⟩:=Qz8.1 h;rw [Qz7] at hk;refine⟨Z,by simp only;omega,by simp only;omega,l.getD k Qq2,?_,Z⟩;rw [Qzq,Qzw hk];exact Qxj _
theorem Jx:∀ (i:Nat) (r:List (List UInt8)) (m:Nat),(∀ t∈r,t.length<=m)->∀ p∈HD i r,(i:Int)<=p.2.1/\p.2.1<((i+r.length:Nat):Int)/\0<=p.2.2/\p.2.2<=(m:Int)/\p.1≠[]/\p.1.length<=m
 | _,[],_,_,p,hp=>by cases hp
 | i,t::r,m,h,p,hp=>by
  unfold HD at hp
  rcases QzQ.1 hp with hp | hp
  ·obtain⟨d,h2,h3,w,a,b⟩:=O2 hp;have c:=Aiy t w a;have e:=Zx t w a;have f:=XY t;have g:=h t (QzJ ..);rw [Qzj];exact⟨by omega,by omega,h2,by omega,b ▸ c.2.1,b ▸ U⟩
  ·have:=Jx (i+1) r m (fun x hx=>h x (QzA _ hx)) p hp;rw [Qzj];exact⟨by omega,by omega,this.2.2⟩
theorem MJ{P:List (List UInt8×Mv)}{w:List UInt8}{h:Mv}:h∈Oe P w↔(w,h)∈P:=by
 unfold Oe;rw [Qz8]
 constructor
 ·rintro⟨p,hp,rfl⟩;rw [List.mem_filter] at hp;obtain⟨a,h2⟩:=hp;have h2:=of_decide_eq_true h2;rw [<- h2];exact a
 ·intro a;exact⟨(w,h),List.mem_filter.2 ⟨a,decide_eq_true Z⟩,Z⟩
theorem AjC{items:List (List UInt8)}(hn:items.length<=64){m:Nat}(ht:∀ t∈items,t.length<=m){e:List UInt8×List Mv}(h:e∈E items):
  e.1≠[]/\e.1.length<=m/\e.2.length<=(HD 0 items).length/\∀ x∈e.2,0<=x.1/\x.1<=63/\0<=x.2/\x.2<=(m:Int):=by
 have hk:e.1∈(HD 0 items).map Qq6:=(Ajh items e.1).1 (List.mem_map_of_mem h);obtain⟨p,hp,hpe⟩:=Qz8.1 hk;have a:=Jx 0 items m ht p hp;rw [hpe] at a;refine⟨a.2.2.2.2.1,a.2.2.2.2.2,?_,fun x hx=>?_⟩
 ·rw [AeT h];exact PM _ _
 ·rw [AeT h,MJ] at hx;have h2:=Jx 0 items m ht _ hx;simp only at h2;exact⟨by omega,by omega,h2.2.2.1,h2.2.2.2.1⟩
def gs(l:List Int):Nat:=(l.map fun n=>gzw n.toNat).sum
theorem AbH(n:Int)(l:List Int):gs (n::l)=gzw n.toNat+gs l:=by simp [gs]
theorem AhE{b:Nat}:∀ {l:List Int},(∀ n∈l,gzw n.toNat<=b)->gs l<=l.length * b
 | [],_=>by simp [gs]
 | n::l,h=>by
  rw [AbH,Qzj,Nat.succ_mul];have a:=h n (QzJ ..);have h2:=AhE (l:=l) (fun x hx=>h x (QzA _ hx));omega
theorem Z3{m:Int}(hm:0<=m):∀ (p:Mv) (l:List Mv),0<=p.1->-1<=p.2->(∀ x∈l,0<=x.1/\x.1<=63/\0<=x.2/\x.2<=m)->∀ n∈Pk p l,n<=m+64
 | _,[],_,_,_,n,hn=>by cases hn
 | p,h::r,a,h2,hl,n,hn=>by
  obtain⟨a1,a2,a3,a4⟩:=hl h (QzJ ..);unfold Pk at hn
  rcases QzQ.1 hn with hn | hn
  ·split at hn
   ·simp only [Qzy,List.not_mem_nil,or_false] at hn;omega
   ·simp only [Qzy,List.not_mem_nil,or_false] at hn;omega
  ·exact Z3 hm h r a1 U (fun x hx=>hl x (QzA _ hx)) n hn
theorem Xt:∀ (p:Mv) (l:List Mv),(Pk p l).length=2 * l.length
 | _,[]=>rfl
 | p,h::r=>by
  unfold Pk;rw [Qzu,Xt h r,Qzj]
  split <;> simp <;> omega
theorem AeV{e:HM}{b:Nat}:(∀ x∈e,(Yp x).length<=b)->(e.flatMap Yp).length<=e.length * b:=by
 induction e with
 | nil=>intro _;simp
 | cons x e ih=>
  intro h;rw [Qz6,Qzu,Qzj,Nat.succ_mul];have a:=h x (QzJ ..);have h2:=ih (fun y hy=>h y (QzA _ hy));omega
end Go.L
namespace Go.Proofs.YtekmbcbgknmhiaaGreatDoor
open Go Go.L
theorem AcI{n:Int}(hn:n<16777216):GQ n=some ((gzw n.toNat:Nat):Int):=by
 by_cases h:0<=n
 ·obtain⟨k,rfl⟩:=Int.eq_ofNat_of_zero_le h;rw [Qq8];exact AeL U
 ·unfold GQ;rw [if_pos U,Int.toNat_of_nonpos U]
  rfl
theorem AeW{n:Int}(hn:n<16777216):gzw n.toNat<=47:=Aiu (k:=24) U Qqc
theorem AcJ{n:Int}(hn:n<16777216){c:Int}(a:0<=c)(b:c<=1000000000000000000):AY n c=some (c+((gzw n.toNat:Nat):Int)):=by
 unfold AY;have:=AeW hn;rw [AcI hn,Qq5,Ac (by constructor <;> omega)]
theorem Z4:∀ (l:List Int) (c:Int),(∀ n∈l,n<16777216)->0<=c->c+(gs l:Int)<=1000000000000000000->fm AY l c=some (c+(gs l:Int))
 | [],c,_,_,_=>by
  show some c=_
  congr 1
  have:gs []=0:=Z;omega
 | n::l,c,h,a,b=>by
  rw [AbH] at b ⊢
  show(AY n c).bind (fm AY l)=_
  rw [AcJ (h n (QzJ ..)) a U,Qq5,Z4 l _ (fun x hx=>h x (QzA _ hx)) U U]
  congr 1
  omega
theorem TC{items:List (List UInt8)}(hn:items.length<=64)(ht:∀ t∈items,t.length<=2048):(HD 0 items).length<=131136:=by
 have a:=Xp 0 items ht;omega
theorem AeX{items:List (List UInt8)}(hn:items.length<=64)(ht:∀ t∈items,t.length<=2048):(∀ n∈RO ((items.length:Int),E items),n<16777216)/\gs (RO ((items.length:Int),E items))<=1000000000000000/\∀ e∈E items,EB e:=by
 have hp:=TC hn ht;have he:=AeU items
 have a:∀ e∈E items,(∀ n∈Yp e,n<16777216)/\(Yp e).length<=300000/\EB e:=fun e h=>by
  obtain⟨_,a2,a3,a4⟩:=AjC hn ht h;refine⟨fun n hn'=>?_,?_,?_⟩
  ·unfold Yp at hn'
   rcases Qzy.1 hn' with rfl | hn'
   ·omega
   rcases QzQ.1 hn' with hn' | hn'
   ·obtain⟨b,_,rfl⟩:=Qz8.1 hn';have:=b.toNat_lt;unfold Uc;omega
   rcases Qzy.1 hn' with rfl | hn'
   ·omega
   ·have:=Z3 (m:=2048) Qqc (0,-1) e.2 Qqc Qqc a4 n hn';omega
  ·unfold Yp;rw [Qzj,Qzu,Qzk,Qzj,Xt];omega
  ·exact⟨by omega,by omega,fun x hx=>by have:=a4 x hx;exact⟨by omega,by omega,by omega,by omega⟩⟩
 have h2:∀ n∈RO ((items.length:Int),E items),n<16777216:=fun n hn'=>by
  unfold RO at hn';simp only at hn'
  rcases Qzy.1 hn' with rfl | hn'
  ·omega
  rcases Qzy.1 hn' with rfl | hn'
  ·omega
  ·obtain⟨e,c,d⟩:=List.mem_flatMap.1 hn';exact(a e c).1 n d
 refine⟨h2,?_,fun e h=>(a e h).2.2⟩;have h3:=AhE (b:=47) (fun n hn'=>AeW (h2 n hn'))
 have f:(RO ((items.length:Int),E items)).length<=2+(E items).length * 300000:=by
  unfold RO;have:=AeV (e:=E items) (b:=300000) (fun x hx=>(a x hx).2.1);simp only [Qzj];omega
 omega
theorem Z5{items:List (List UInt8)}(hn:items.length<=64)(ht:∀ t∈items,t.length<=2048)(hl:ND 0 items=none):
  Jj items=if 131072<gs (RO ((items.length:Int),E items)) then some ((0,[]),(14,-1)) else some (((items.length:Int),E items),(0,0)):=by
 have hp:=TC hn ht;obtain⟨b,h2,h3⟩:=AeX hn ht;have he:=AeU items;have hm:=Yq (HD 0 items) [];rw [Qze] at hm;rw [AcF,if_neg U,hl];simp only;unfold HV;rw [AaA _ _ ⟨TA _ [] List.nodup_nil,fun x hx=>?_,by omega⟩ U]
 ·unfold HU;have c:R5 ((HD 0 items).foldl Nv [])=E items:=Z;rw [c,Aiv (a:=((items.length:Int),E items)) ⟨by simp only;omega,by simp only;omega⟩ (by simp only;omega) h3,Z4 _ _ b U U,Qq5,Int.zero_add]
  by_cases h:131072<gs (RO ((items.length:Int),E items))
  ·rw [if_pos U,if_pos h];rfl
  ·rw [if_neg U,if_neg h];rfl
 ·rw [VO] at hx;have:=VR 0 items ht x (hx.resolve_left Qqd);unfold maxLen;omega
def total(items:List (List UInt8)):Nat:=(items.map Qxu).sum
theorem Xu{t:List UInt8}:∀ {items:List (List UInt8)},t∈items->t.length<=total items
 | [],h=>by cases h
 | x::r,h=>by
  have e:total (x::r)=x.length+total r:=by simp [total]
  rcases Qzy.1 h with rfl | h
  ·omega
  ·have:=Xu h;omega
end Go.Proofs.YtekmbcbgknmhiaaGreatDoor
end
noncomputable section
namespace Go.L
def zz(a:Int):Nat:=if 0<=a then(2 * a).toNat else(-2 * a - 1).toNat
theorem Aji{a:Int}(h:Bz a):zz a<18446744073709551616:=by unfold zz;unfold Bz at h;split <;> omega
def VS:Nat->Nat->List UInt8
 | 0,_=>[]
 | n+1,u=>if 128<=u then QzE (u % 128+128)::VS n (u / 128) else[QzE u]
def Pm(u:Nat):List UInt8:=VS 10 u
theorem Xv:∀ n u,(VS n u).length<=n
 | 0,_=>by simp [VS]
 | n+1,u=>by
  unfold VS
  split
  ·have:=Xv n (u / 128);simp only [Qzj];omega
  ·simp
theorem GV(u:Nat):(Pm u).length<=10:=Xv 10 u
set_option maxRecDepth 20000 in
theorem Ajj(u:Nat):u8 (u:Int) ||| 128=QzE (u % 128+128):=by
 have h:∀ b:Fin 256,(QzE b.val ||| 128)=QzE (b.val % 128+128):=by decide
 have:=h ⟨u % 256,Nat.mod_lt _ Qqc⟩;dsimp only at this;unfold u8;rw [show((u:Int) % 256).toNat=u % 256 by omega,this]
 congr 2
 omega
theorem AeY{u:Nat}:u8 (u:Int)=QzE u:=by
 unfold u8;rw [show((u:Int) % 256).toNat=u % 256 by omega];apply UInt8.toNat.inj;simp
end Go.L
namespace Go.Proofs.YtekmbcbgknmhiaaGreatDoor
open Go Go.L
theorem Z6:∀ (n u:Nat) (L:List UInt8),u<128 ^ n->L.length+n<=1000->n<=10->1<=n->Go.L.run FZ (L,(u:Int))=some (L++VS n u)
 | 0,_,_,_,_,_,h=>absurd h U
 | n+1,u,L,hu,hL,hn,_=>by
  unfold VS
  by_cases h:128<=u
  ·have b:1<=n:=by
    rcases Nat.eq_zero_or_pos n with a | a
    ·subst a;simp at hu;omega
    ·exact a
   have e:FZ (L,(u:Int))=some (.inl (L++[QzE (u % 128+128)],((u / 128:Nat):Int))):=by
    unfold FZ;dsimp only;rw [if_pos U,Ac (by unfold Go.E.HK;simp;omega),Ajj]
    rfl
   rw [Be e,Z6 n (u / 128) _ (Nat.div_lt_of_lt_mul (by rw [Nat.pow_succ,Nat.mul_comm] at hu;exact hu)) (by simp;omega) U b,if_pos h];simp
  ·rw [if_neg h];refine AP (m:=some (L++[QzE u])) ?_;unfold FZ JW;dsimp only;rw [if_neg U,Ac (by unfold Go.E.HK;simp;omega),AeY]
theorem Aiz{x:Int}:IntKind.u64.wrap x=x % 18446744073709551616:=by
 simp only [IntKind.wrap];simp [IntKind.bits,IntKind.signed]
theorem AgP{k:Nat}(h:k<2 ^ 64):k ^^^ 18446744073709551615=18446744073709551615 - k:=by
 have h2:(BitVec.ofNat 64 k ^^^ BitVec.allOnes 64).toNat=(~~~ (BitVec.ofNat 64 k)).toNat:=by rw [BitVec.xor_allOnes]
 rw [BitVec.toNat_xor,BitVec.toNat_not,BitVec.toNat_ofNat,BitVec.toNat_allOnes,Nat.mod_eq_of_lt h] at h2;exact h2
theorem Jf{a:Int}(h:Bz a):Eb a=some (Pm (zz a)):=by
 have hz:=Aji h;unfold Bz at h;unfold Eb;simp only [Aiz];rw [Ac U];unfold LV Pm
 have key:((((a % 18446744073709551616 * 2 % 18446744073709551616).toNat ^^^ (a / 9223372036854775808 % 18446744073709551616).toNat:Nat)):Int)=((zz a:Nat):Int):=by
  unfold zz
  by_cases b:0<=a
  ·rw [if_pos b,show a / 9223372036854775808 % 18446744073709551616=0 by omega];simp only [Int.toNat_zero,Nat.xor_zero];omega
  ·rw [if_neg b,show(a / 9223372036854775808 % 18446744073709551616).toNat=18446744073709551615 by omega,AgP U];omega
 rw [key,Z6 10 (zz a) [] (Nat.lt_trans hz Qqc) Qqc Qqc Qqc]
 rfl
end Go.Proofs.YtekmbcbgknmhiaaGreatDoor
end
noncomputable section
namespace Go.L
structure TD (v:Pv):Prop where
 kind:v.f.1=1\/v.f.1=2\/v.f.1=3\/v.f.1=4
 num:v.f.1=1\/v.f.2.1=0
 bytes:v.f.1=2\/v.f.2.2.1=[]
 names:v.f.1=4\/v.f.2.2.2.1=[]
 parts:v.f.1=3\/v.f.1=4\/v.f.2.2.2.2=[]
 same:v.f.1=4->v.f.2.2.2.1.length=v.f.2.2.2.2.length
 many:v.f.2.2.2.2.length<=600
 SI:∀ x∈v.f.2.2.2.1,SI x=true
 nd:v.f.2.2.2.1.Nodup
def Vd:Nat->Pv->Prop
 | 0,_=>False
 | d+1,v=>TD v/\∀ p∈v.f.2.2.2.2,Vd d p
def Sm(B:Nat):Nat->Pv->Prop
 | 0,_=>True
 | d+1,v=>v.f.2.2.1.length<=B/\v.f.2.2.2.1.length<=B/\v.f.2.2.2.2.length<=B/\(∀ x∈v.f.2.2.2.1,x.length<=B)/\Bz v.f.1/\Bz v.f.2.1/\∀ p∈v.f.2.2.2.2,Sm B d p
def nodes:Nat->Pv->Nat
 | 0,_=>0
 | d+1,v=>1+(v.f.2.2.2.2.map (nodes d)).sum
end Go.L
namespace Go.Proofs.YtekmbcbgknmhiaaGreatDoor
open Go Go.L
theorem AeZ{l:List Int}(hl:l.length<=1000)(a:Int):BD l a=some (decide (a∈l)):=by
 have key:∀ (d i:Nat),i+d=l.length->∃ r,Go.L.run (Bc l a) (i:Int)=some r/\(0<=r↔a∈l.drop i):=by
  intro d
  induction d with
  | zero=>
   intro i hi;refine⟨-1,AP (m:=some (-1)) ?_,by rw [Qz1 U];simp⟩;unfold Bc De;rw [if_neg U]
  | succ d ih=>
   intro i hi;have hil:i<l.length:=by omega
   rw [drop_cons hil]
   have hb:Bc l a (i:Int)=if a=l.getD i Qq2 then some (.inr (i:Int)) else some (.inl ((i+1:Nat):Int)):=by
    unfold Bc;rw [if_pos U,Ac U,Qq8,Ac (by unfold Bz;omega)]
    rfl
   by_cases h:a=l.getD i Qq2
   ·rw [if_pos h] at hb;exact⟨_,AP (m:=some (i:Int)) hb,by rw [h];simp⟩
   ·rw [if_neg h] at hb;obtain⟨r,b,h2⟩:=ih (i+1) U;refine⟨r,by rw [Be hb,b],h2.trans ?_⟩;rw [Qzy];exact⟨.inr,fun hh=>hh.resolve_left h⟩
 unfold BD DX DN;obtain⟨r,b,h2⟩:=key l.length 0 U;rw [show((0:Int))=((0:Nat):Int) from Z,b,Qq5];rw [QxD] at h2
 congr 1
 rw [Qz3,decide_eq_true_eq,decide_eq_true_eq];exact h2
theorem Afa{l:List (List UInt8)}(hl:l.length<=1000000000000)(a:List UInt8):C2 l a=some (decide (a∈l)):=by
 have key:∀ (d i:Nat),i+d=l.length->∃ r,Go.L.run (BK l a) (i:Int)=some r/\(0<=r↔a∈l.drop i):=by
  intro d
  induction d with
  | zero=>
   intro i hi;refine⟨-1,AP (m:=some (-1)) ?_,by rw [Qz1 U];simp⟩;unfold BK Dw;rw [if_neg U]
  | succ d ih=>
   intro i hi;have hil:i<l.length:=by omega
   rw [drop_cons hil]
   have hb:BK l a (i:Int)=if a=l.getD i Qq2 then some (.inr (i:Int)) else some (.inl ((i+1:Nat):Int)):=by
    unfold BK;rw [if_pos U,Ac U,Qq8,Ac (by unfold Bz;omega)]
    rfl
   by_cases h:a=l.getD i Qq2
   ·rw [if_pos h] at hb;exact⟨_,AP (m:=some (i:Int)) hb,by rw [h];simp⟩
   ·rw [if_neg h] at hb;obtain⟨r,b,h2⟩:=ih (i+1) U;refine⟨r,by rw [Be hb,b],h2.trans ?_⟩;rw [Qzy];exact⟨.inr,fun hh=>hh.resolve_left h⟩
 unfold C2 DY E4;obtain⟨r,b,h2⟩:=key l.length 0 U;rw [show((0:Int))=((0:Nat):Int) from Z,b,Qq5];rw [QxD] at h2
 congr 1
 rw [Qz3,decide_eq_true_eq,decide_eq_true_eq];exact h2
theorem Ai0{l:List (List UInt8)}(hl:l.length<=1000000000000):HG l=some (l.any fun x=>!SI x):=by
 have key:∀ (d i:Nat),i+d=l.length->∃ r,Go.L.run (Dv l) (i:Int)=some r/\(0<=r↔(l.drop i).any (fun x=>!SI x)=true):=by
  intro d
  induction d with
  | zero=>
   intro i hi;refine⟨-1,AP (m:=some (-1)) ?_,by rw [Qz1 U];simp⟩;unfold Dv Hk;rw [if_neg U]
  | succ d ih=>
   intro i hi;have hil:i<l.length:=by omega
   rw [drop_cons hil]
   have hb:Dv l (i:Int)=if(!SI (l.getD i Qq2))=true then some (.inr (i:Int)) else some (.inl ((i+1:Nat):Int)):=by
    unfold Dv I0;rw [if_pos U,Ac U,Qq8,Ab7,Ac (by unfold Bz;omega)]
    rfl
   by_cases h:(!SI (l.getD i Qq2))=true
   ·rw [if_pos h] at hb;exact⟨_,AP (m:=some (i:Int)) hb,by rw [Qkj,h];simp⟩
   ·rw [if_neg h] at hb;obtain⟨r,a,h2⟩:=ih (i+1) U;refine⟨r,by rw [Be hb,a],h2.trans ?_⟩;have hf:(!SI (l.getD i Qq2))=false:=by simpa using h
    rw [Qkj,hf,Qjj]
 unfold HG IV IH;obtain⟨r,a,h2⟩:=key l.length 0 U;rw [show((0:Int))=((0:Nat):Int) from Z,a,Qq5];rw [QxD] at h2
 congr 1
 rw [Qz3,decide_eq_true_eq];exact h2
theorem AbI{l:List (List UInt8)}(hl:l.length<=1000000000000):∀ (d i:Nat),i+d=l.length->(l.take i).Nodup->∃ c,Go.L.run (DE l) (i:Int)=some c/\(c=0->l.Nodup)
 | 0,i,hi,hn=>by
  refine⟨0,AP (m:=some 0) ?_,fun _=>?_⟩
  ·unfold DE HS;rw [if_neg U]
  ·rwa [Qxk U] at hn
 | d+1,i,hi,hn=>by
  have hil:i<l.length:=by omega
  have hb:DE l (i:Int)=if l.getD i Qq2∈l.take i then some (.inr 8) else some (.inl ((i+1:Nat):Int)):=by
   unfold DE;rw [if_pos U,Ac U,Ac U,Qq8,Afa (by rw [QzK];omega),Qq5,Ac (by unfold Bz;omega)]
   by_cases h:l.getD i Qq2∈l.take i <;> simp [h]
  by_cases h:l.getD i Qq2∈l.take i
  ·rw [if_pos h] at hb;exact⟨8,AP (m:=some 8) hb,fun hc=>by cases hc⟩
  ·rw [if_neg h] at hb
   obtain⟨c,f,h2⟩:=AbI hl d (i+1) U (by
    rw [QxX,Qzw hil];have e:l[i]=l.getD i Qq2:=by rw [Qzq,Qzw hil];rfl
    rw [e];exact List.nodup_append.2 ⟨hn,List.pairwise_singleton _ _,fun a ha b hb e=>by rw [Qjb,Qzf] at hb;subst hb;subst e;exact h ha⟩)
   exact⟨c,by rw [Be hb,f],h2⟩
theorem Ajk(a b:Int)(c:List UInt8){ns:List (List UInt8)}(hn:ns.length<=1000000000000)(ps:List Pv)(fl:Bool):∃ r,BN a b c ns ps fl=some r/\(r=0->fl=false/\ps.length<=600/\(∀ x∈ns,SI x=true)/\ns.Nodup):=by
 unfold BN
 cases fl with
 | true=>exact⟨6,Z,fun h=>by cases h⟩
 | false=>
  rw [if_neg Qqc]
  by_cases d:(600:Int)<(ps.length:Int)
  ·rw [if_pos d];exact⟨14,Z,fun h=>by cases h⟩
  ·rw [if_neg d,Ai0 hn,Qq5]
   by_cases h2:(ns.any fun x=>!SI x)=true
   ·rw [if_pos h2];exact⟨7,Z,fun h=>by cases h⟩
   ·rw [if_neg h2];obtain⟨r,h3,e⟩:=AbI hn ns.length 0 U Qqd;refine⟨r,h3,fun h=>⟨Z,by omega,fun x hx=>?_,e h⟩⟩
    cases hk:SI x with
    | true=>rfl
    | false=>exact absurd (Qk2.2 ⟨x,hx,by simp [hk]⟩) h2
theorem vc1(l:List Int)(hl:l.length<=1000)(v:Pv):Cu l v=some (decide (v.f.1∈l),v):=by
 unfold Cu;rw [AeZ hl]
 rfl
set_option maxHeartbeats 4000000 in
theorem Yr(v:Pv)(hn:v.f.2.2.2.1.length<=1000000000000):∃ c,Hg v=some c/\(c=0->TD v):=by
 have fin:∀ fl:Bool,(fl=false->(v.f.1=1\/v.f.1=2\/v.f.1=3\/v.f.1=4)/\(v.f.1=1\/v.f.2.1=0)/\(v.f.1=2\/v.f.2.2.1=[])/\(v.f.1=4\/v.f.2.2.2.1=[])/\(v.f.1=3\/v.f.1=4\/v.f.2.2.2.2=[])/\(v.f.1=4->v.f.2.2.2.1.length=v.f.2.2.2.2.length))->
   ∃ c,BN v.f.1 v.f.2.1 v.f.2.2.1 v.f.2.2.2.1 v.f.2.2.2.2 fl=some c/\(c=0->TD v):=by
  intro fl hfl;obtain⟨r,d,h2⟩:=Ajk v.f.1 v.f.2.1 v.f.2.2.1 hn v.f.2.2.2.2 fl;refine⟨r,d,fun hr=>?_⟩;obtain⟨e,g,i,j⟩:=h2 hr;obtain⟨m,o,p,q,s,t⟩:=hfl e;exact⟨m,o,p,q,s,t,g,i,j⟩
 have a:=vc1 [1,2,3,4] Qqc v;have u:=vc1 [1] Qqc v;have w:=vc1 [2] Qqc v;have x:=vc1 [3,4] Qqc v;have y:=vc1 [4] Qqc v
 by_cases hk:v.f.1=1\/v.f.1=2\/v.f.1=3\/v.f.1=4
 ·have ev:Pv.mk v.f.1 v.f.2.1 v.f.2.2.1 v.f.2.2.2.1 v.f.2.2.2.2=v:=by cases v;rfl
  unfold Hg Gw Gv Gu;simp only [a,u,w,x,y,ev,Qq5];generalize v.f.1=k at *;generalize v.f.2.1=n at *;generalize v.f.2.2.1=b at *;generalize v.f.2.2.2.1=ns at *;generalize v.f.2.2.2.2=ps at *
  have hb:b=[]\/(0:Int)<(b.length:Int):=by cases b with
   | nil=>exact .inl Z
   | cons _ _=>exact .inr (by simp only [Qzj];omega)
  have hm:ns=[]\/(0:Int)<(ns.length:Int):=by cases ns with
   | nil=>exact .inl Z
   | cons _ _=>exact .inr (by simp only [Qzj];omega)
  have hp:ps=[]\/(0:Int)<(ps.length:Int):=by cases ps with
   | nil=>exact .inl Z
   | cons _ _=>exact .inr (by simp only [Qzj];omega)
  rcases hk with rfl | rfl | rfl | rfl <;> by_cases hz:n=0 <;> rcases hb with rfl | hb <;> rcases hm with rfl | hm <;> rcases hp with rfl | hp <;>
   simp +decide only [*,if_true,if_false,Qze,Bool.not_true,Qkb,QzB,decide_true,decide_false,Int.lt_irrefl,Int.natCast_zero] <;>
   (refine fin _ fun hfl=>?_) <;> simp_all <;> omega
 ·refine⟨5,?_,fun h=>by cases h⟩;unfold Hg;rw [a,Qq5];rw [if_pos (by simp [hk])]
end Go.Proofs.YtekmbcbgknmhiaaGreatDoor
end
noncomputable section
namespace Go.Proofs.YtekmbcbgknmhiaaGreatDoor
open Go Go.L
abbrev En:Type:=Lf×List Int
end Go.Proofs.YtekmbcbgknmhiaaGreatDoor
end
noncomputable section
namespace Go.L
def VT{α:Type}(f:List α->Bool):List α->Bool
 | []=>f []
 | y::q=>f (y::q)||VT f q
def fits:List (List UInt8)->List (List UInt8)->Bool
 | [],q=>decide (q.length=0)
 | x::p,q=>if x=[42,42] then VT (fun r=>fits p r) q else match q with
  | []=>false
  | y::q'=>(decide (x=[42])||decide (x=y))&&fits p q'
def kp(l:List (List UInt8))(j:Nat):Bool:=decide (j=0\/¬ (l.getD j Qq2=[42,42]/\l.getD (j - 1) Qq2=[42,42]))
def kept(l:List (List UInt8))(m:Nat):List (List UInt8):=((Qzv m).filter (kp l)).map fun j=>l.getD j Qq2
theorem TE(l:List (List UInt8))(m:Nat):kept l (m+1)=kept l m++if kp l m then[l.getD m Qq2] else[]:=by
 unfold kept;rw [Qx2,List.filter_append,Qxf]
 congr 1
 by_cases h:kp l m=true <;> simp [h]
theorem Afb(l:List (List UInt8))(m:Nat):(kept l m).length<=m:=by
 unfold kept;rw [Qzk];exact Qz2 (Qk3 _ _) Qqd
theorem VU{l:List (List UInt8)}{m:Nat}(hm:m<=l.length)(h:∀ j,j<m->kp l j=true):kept l m=l.take m:=by
 induction m with
 | zero=>rfl
 | succ m ih=>
  rw [TE,ih U (fun j hj=>h j U),h m U,if_pos Z,QxX,Qzw (by omega:m<l.length)];simp [Qzq,Qzw (by omega:m<l.length)]
end Go.L
namespace Go.Proofs.YtekmbcbgknmhiaaGreatDoor
open Go Go.L
theorem AgQ{self:List (List UInt8)->List (List UInt8)->Option Bool}{p q:List (List UInt8)}{x:List UInt8}(hq:q.length<=1000000000000)(hs:∀ r:List (List UInt8),r.length<=q.length->self p r=some (fits p r)):
  ∀ (d i:Nat),i+d=q.length->Go.L.run (C0 (x::p) q self) (i:Int)=some (VT (fun r=>fits p r) (q.drop i)):=by
 have hend:Go.L.run (C0 (x::p) q self) ((q.length+1:Nat):Int)=some false:=by
  refine AP (m:=some false) ?_;unfold C0 GN;rw [if_neg U]
 have hb:∀ i:Nat,i<=q.length->C0 (x::p) q self (i:Int)=if fits p (q.drop i) then some (.inr true) else some (.inl ((i+1:Nat):Int)):=by
  intro i hi;unfold C0;have a:((x::p).drop (1:Int).toNat)=p:=Z;rw [if_pos U,Ac (by simp only [Qzj];omega),Ac U,a,Qq8,hs _ Qqd,Qq5,Ac (by unfold Bz;omega)]
  rfl
 intro d
 induction d with
 | zero=>
  intro i hi;obtain rfl:i=q.length:=by omega
  have h:=hb q.length (Qzx _);rw [Qz1 (Qzx _)] at h ⊢;unfold VT
  by_cases hf:fits p []=true
  ·rw [if_pos hf] at h;rw [AP (m:=some true) h,hf]
  ·rw [if_neg hf] at h;rw [Be h,hend]
   simpa using hf
 | succ d ih=>
  intro i hi;have h:=hb i U;rw [drop_cons (by omega:i<q.length)] at h ⊢;unfold VT
  by_cases hf:fits p (q.getD i Qq2::q.drop (i+1))=true
  ·rw [if_pos hf] at h;rw [AP (m:=some true) h,hf]
   rfl
  ·rw [if_neg hf] at h;rw [Be h,ih (i+1) U];have:fits p (q.getD i Qq2::q.drop (i+1))=false:=by simpa using hf
   rw [this,Qjj]
theorem AbJ:∀ (p:List (List UInt8)) (n:Nat) (q:List (List UInt8)),p.length<n->q.length<=1000000000000->EG n p q=some (fits p q)
 | [],0,_,h,_=>by simp at h
 | _::_,0,_,h,_=>by simp at h
 | [],n+1,q,_,hq=>by
  show DK (EG n) [] q=_
  unfold DK fits;rw [if_pos (show((([]:List (List UInt8)).length:Nat):Int)=0 from Z)]
  congr 1
  rw [decide_eq_decide];omega
 | x::p,n+1,q,hp,hq=>by
  show DK (EG n) (x::p) q=_
  have ih:∀ r:List (List UInt8),r.length<=q.length->EG n p r=some (fits p r):=fun r hr=>AbJ p n r (by simp at hp;omega) U;unfold DK fits;have hg:(x::p).getD ((0:Int).toNat) Qq2=x:=Z;rw [if_neg (by simp only [Qzj];omega),Ac (by simp only [Qzj];omega),hg]
  by_cases hx:x=[42,42]
  ·rw [if_pos hx,if_pos hx,Ac (by unfold Bz;omega)];exact AgQ (x:=x) hq ih q.length 0 U
  ·rw [if_neg hx,if_neg hx];unfold GO
   cases q with
   | nil=>rfl
   | cons y q'=>
    have b:(0:Int)<((y::q').length:Int):=by simp only [Qzj];omega
    have h2:(0:Int)<=0/\(0:Int)<((x::p).length:Int):=by simp only [Qzj];omega
    have h3:(0:Int)<=1/\(1:Int)<=((x::p).length:Int):=by simp only [Qzj];omega
    have c:(0:Int)<=1/\(1:Int)<=((y::q').length:Int):=by simp only [Qzj];omega
    have d:(0:Int)<=0/\(0:Int)<((y::q').length:Int):=by simp only [Qzj];omega
    have e:(x::p).drop (1:Int).toNat=p:=Z;have f:(y::q').drop (1:Int).toNat=q':=Z;have g:(y::q').getD ((0:Int).toNat) Qq2=y:=Z;rw [if_pos b];simp only [Ac h2,Ac h3,Ac c,Ac d,hg,e,f,g,ih q' Qqd,Qq5]
    by_cases a:x=[42]
    ·rw [if_pos a];simp [a]
    ·rw [if_neg a]
     by_cases i:x=y <;> simp [a,i]
theorem AbK(a b:List UInt8):Gr a b=some (decide (a=[42,42]/\b=[42,42])):=by
 unfold Gr
 by_cases h:a=[42,42] <;> simp [h]
def col(l:List (List UInt8)):List (List UInt8):=kept l l.length
theorem AgR(l:List (List UInt8)):(col l).length<=l.length:=Afb l l.length
theorem Ajm{l:List (List UInt8)}(hl:l.length<=1000000000000){a:Nat}(e:1<=a)(hk:a<l.length)(hall:∀ j,j<a->kp l j=true)(hno:kp l a=false):
  Cp (a:Int) (l,(a:Int),(1:Int))=some (.inr (col l)):=by
 unfold Cp;refine Abf (fun s=>∃ (m:List (List UInt8)) (k b:Nat),s=(m,(k:Int),(b:Int))/\m.length=l.length/\m.drop (a+b - 1)=l.drop (a+b - 1)/\m.take k=kept l (a+b)/\k=(kept l (a+b)).length/\k<=a+b - 1/\1<=b/\a+b<=l.length) (fun s=>l.length - s.2.2.toNat) ?_ ?_
 ·rintro _ ⟨m,k,b,rfl,hm,hd,ht,hkl,hkk,h2,hle⟩;have hdl:(m.drop a).length=l.length - a:=by rw [QzC,hm]
  by_cases hc:a+b<l.length
  ·left
   have c:(m.drop a).getD b Qq2=l.getD (a+b) Qq2:=by
    have:(m.drop (a+b - 1))[1]? = (l.drop (a+b - 1))[1]?:=by rw [hd]
    rw [Qxv,Qxv,show a+b - 1+1=a+b by omega] at this;rw [Qzq,Qzq,Qxv,this]
   have d:(m.drop a).getD (b - 1) Qq2=l.getD (a+b - 1) Qq2:=by
    have:(m.drop (a+b - 1))[0]? = (l.drop (a+b - 1))[0]?:=by rw [hd]
    rw [Qxv,Qxv,Qxx] at this;rw [Qzq,Qzq,Qxv,show a+(b - 1)=a+b - 1 by omega,this]
   have hks:=TE l (a+b)
   by_cases hp:kp l (a+b)=true
   ·refine⟨(m.set k (l.getD (a+b) Qq2),((k+1:Nat):Int),((b+1:Nat):Int)),?_,⟨_,k+1,b+1,Z,by rw [QkJ,hm],?_,?_,?_,by omega,by omega,by omega⟩,by simp only [Qq8];omega⟩
    ·unfold BE;dsimp only;rw [Qq8,if_pos U,Ac U,Ac (by unfold Bz;omega),Ac U,Qq8,show((b:Int) - 1).toNat=b - 1 by omega,c,d,AbK,Qq5]
     have hx:decide (l.getD (a+b) Qq2=[42,42]/\l.getD (a+b - 1) Qq2=[42,42])=false:=by
      unfold kp at hp;rw [decide_eq_true_eq] at hp;rw [decide_eq_false_iff_not]
      rcases hp with hp | hp
      ·omega
      ·exact hp
     rw [hx,if_pos Qqc,Ac U,Ac U,Ac (by unfold Bz;omega),Ac (by unfold Bz;omega),Qq8]
     rfl
    ·rw [show a+(b+1) - 1=a+b by omega,List.drop_set_of_lt U];have:(m.drop (a+b - 1)).drop 1=(l.drop (a+b - 1)).drop 1:=by rw [hd]
     rwa [Qkw,Qkw,show a+b - 1+1=a+b by omega] at this
    ·rw [show a+(b+1)=a+b+1 by omega,hks,if_pos hp,QxX,List.take_set_of_le (Qzx _),ht,List.getElem?_set_self U]
     rfl
    ·rw [show a+(b+1)=a+b+1 by omega,hks,if_pos hp,Qzu,<- hkl];rfl
   ·have hp':kp l (a+b)=false:=by simpa using hp
    refine⟨(m,(k:Int),((b+1:Nat):Int)),?_,⟨m,k,b+1,Z,hm,?_,?_,?_,by omega,by omega,by omega⟩,by simp only [Qq8];omega⟩
    ·unfold BE;dsimp only;rw [Qq8,if_pos U,Ac U,Ac (by unfold Bz;omega),Ac U,Qq8,show((b:Int) - 1).toNat=b - 1 by omega,c,d,AbK,Qq5]
     have hx:decide (l.getD (a+b) Qq2=[42,42]/\l.getD (a+b - 1) Qq2=[42,42])=true:=by
      unfold kp at hp';rw [decide_eq_false_iff_not] at hp';rw [decide_eq_true_eq];exact Decidable.not_not.1 (fun hh=>hp' (.inr hh))
     rw [hx,if_neg Qqc,Ac (by unfold Bz;omega)]
     rfl
    ·rw [show a+(b+1) - 1=a+b by omega];have:(m.drop (a+b - 1)).drop 1=(l.drop (a+b - 1)).drop 1:=by rw [hd]
     rwa [Qkw,Qkw,show a+b - 1+1=a+b by omega] at this
    ·rw [show a+(b+1)=a+b+1 by omega,hks,hp']
     simpa using ht
    ·rw [show a+(b+1)=a+b+1 by omega,hks,hp']
     simpa using hkl
  ·right
   have he:a+b=l.length:=by omega
   unfold BE Co;dsimp only;rw [Qq8,if_neg U,Qq8,Ac U,Ac (by simp;omega)]
   congr 1
   have htl:(m.take k).length=k:=by rw [QzK];omega
   rw [show(m.take k++Qzz (m.length - k) ([]:List UInt8)).take k=m.take k by rw [List.take_append_of_le_length U,Qxk U],ht,he]
   rfl
 ·have hks:=TE l a;have hka:=VU (l:=l) (m:=a) U hall;refine⟨l,a,1,Z,Z,Z,?_,?_,by omega,by omega,by omega⟩
  ·rw [hks,hno,hka];simp
  ·rw [hks,hno,hka];simp;omega
theorem Ai1{l:List (List UInt8)}(hl:l.length<=1000000000000):∀ (d k:Nat),k+d=l.length->1<=k->(∀ j,j<k->kp l j=true)->Go.L.run Bp (l,(k:Int))=some (col l):=by
 intro d
 induction d with
 | zero=>
  intro k hk a hall;refine AP (m:=some (col l)) ?_;unfold Bp Cr;dsimp only;rw [if_neg U];unfold col;rw [VU (Qzx _) (fun j hj=>hall j U),Qx4]
 | succ d ih=>
  intro k hk a hall
  by_cases hp:kp l k=true
  ·have hb:Bp (l,(k:Int))=some (.inl (l,((k+1:Nat):Int))):=by
    unfold Bp;dsimp only;rw [if_pos U,Ac U,Ac (by unfold Bz;omega),Ac U,Qq8,show((k:Int) - 1).toNat=k - 1 by omega,AbK,Qq5]
    have hx:decide (l.getD k Qq2=[42,42]/\l.getD (k - 1) Qq2=[42,42])=false:=by
     unfold kp at hp;rw [decide_eq_true_eq] at hp;rw [decide_eq_false_iff_not]
     rcases hp with hp | hp
     ·omega
     ·exact hp
    rw [hx,if_neg Qqc];unfold Cq;rw [Ac (by unfold Bz;omega)]
    rfl
   rw [Be hb];refine ih (k+1) U U (fun j hj=>?_)
   rcases Nat.lt_succ_iff_lt_or_eq.1 hj with h | rfl
   ·exact hall j h
   ·exact hp
  ·have hp':kp l k=false:=by simpa using hp
   refine AP (m:=some (col l)) ?_;unfold Bp;dsimp only;rw [if_pos U,Ac U,Ac (by unfold Bz;omega),Ac U,Qq8,show((k:Int) - 1).toNat=k - 1 by omega,AbK,Qq5]
   have hx:decide (l.getD k Qq2=[42,42]/\l.getD (k - 1) Qq2=[42,42])=true:=by
    unfold kp at hp';rw [decide_eq_false_iff_not] at hp';rw [decide_eq_true_eq];exact Decidable.not_not.1 (fun hh=>hp' (.inr hh))
   rw [hx,if_pos Z,Ac U,Ajm hl a U hall hp']
   rfl
theorem Afc{l:List (List UInt8)}(hl:l.length<=1000000000000):Ca l=some (col l):=by
 unfold Ca
 have a:∀ j,j<1->kp l j=true:=fun j hj=>by
  have:j=0:=by omega
  subst this;unfold kp;simp
 by_cases h:(l.length:Int)<2
 ·rw [if_pos h];unfold col;rw [VU (Qzx _) (fun j hj=>a j U),Qx4]
 ·rw [if_neg h];exact Ai1 hl (l.length - 1) 1 U (Qzx _) a
theorem Sf{a b:List UInt8}(ha:a.length<900)(hb:b.length<4294967281):DV a b=some (fits (col (sl a)) (sl b)):=by
 unfold DV;have hla:=Aes a;have hlb:=Aes b;have:=AgR (sl a);rw [VD U,Qq5,Afc U,Qq5,VD U,Qq5];have hf:LR (col (sl a)) (sl b)=some (fits (col (sl a)) (sl b)):=AbJ (col (sl a)) 1000 (sl b) U U;rw [hf]
 rfl
theorem Ys(a:List UInt8):(pf a).1=0->pf a=(0,0)/\a.length<=64:=by
 unfold pf
 split
 ·intro h;simp at h
 ·split
  ·intro h;simp at h
  ·intro _;exact⟨Z,by omega⟩
end Go.Proofs.YtekmbcbgknmhiaaGreatDoor
end
noncomputable section
namespace Go.L
def VV(s:List UInt8):List UInt8:=Pm (zz (s.length:Int))++s
def AaF(l:List Int):List UInt8:=Pm (zz (l.length:Int))++l.flatMap fun i=>Pm (zz i)
end Go.L
namespace Go.Proofs.YtekmbcbgknmhiaaGreatDoor
open Go Go.L
def SQ(e:En):List UInt8:=[VV e.1.1,Pm (zz e.1.2.1),Pm (zz e.1.2.2.1),VV e.1.2.2.2,AaF e.2].flatten
def AbL(n:Int)(es:List En):List UInt8:=Pm (zz n)++(Pm (zz (es.length:Int))++es.flatMap SQ)
def EnS(e:En):Prop:=e.1.1.length<=2000000/\Bz e.1.2.1/\Bz e.1.2.2.1/\e.1.2.2.2.length<=2000000/\(∀ z∈e.2,Bz z)/\e.2.length<=1000000
theorem Pn(l:List Int):(l.flatMap fun i=>Pm (zz i)).length<=10 * l.length:=by
 induction l with
 | nil=>simp
 | cons a l ih=>rw [Qz6,Qzu,Qzj];have:=GV (zz a);omega
theorem O3{α β:Type}[Inhabited α](f:α->List β){l:List α}{i:Nat}(h:i<l.length):(l.take (i+1)).flatMap f=(l.take i).flatMap f++f (l.getD i Qq2):=by
 rw [QxX,Qzw h,Qjb,List.flatMap_append];simp [Qzq,Qzw h]
theorem AgS{l:List Int}(h:∀ z∈l,Bz z)(hl:l.length<=1000000):JA l=some (AaF l):=by
 unfold JA;rw [Jf (by unfold Bz;omega),Qq5];unfold Ks;have b:=GV (zz (l.length:Int));refine DM (fun i=>(Pm (zz (l.length:Int))++(l.take i).flatMap (fun i=>Pm (zz i)),((i:Nat):Int))) l.length (fun i hi=>?_) ?_ 0 |> fun hh=>by simpa using hh
 ·unfold GY;dsimp only;have a:=Pn (l.take i);have h2:=GV (zz (l.getD i Qq2));rw [QzK] at a;rw [if_pos U,Ac U,Qq8,Jf (h _ (Ew hi)),Qq5,Ac (by unfold Go.E.HK;simp only [Qzu];omega),Ac (by unfold Bz;omega),O3 _ hi,Qxd]
  rfl
 ·unfold GY IX;dsimp only;rw [if_neg U,Qx4]
  rfl
theorem RP{α:Type}:∀ (L:List (List α)) (i:Nat),(L.take i).flatten.length<=L.flatten.length
 | [],i=>by simp
 | x::L,0=>by simp
 | x::L,i+1=>by have:=RP L i;simp only [List.take_succ_cons,List.flatten_cons,Qzu];omega
theorem Mp{α:Type}{L:List (List α)}{i:Nat}(h:i<L.length):(L.take (i+1)).flatten=(L.take i).flatten++L.getD i Qq2:=by
 rw [QxX,Qzw h,Qjb,List.flatten_append];simp [Qzq,Qzw h]
theorem AgT{n:Int}(h:0<=n/\n<=1000000000000):E6 [] n=some []:=by
 unfold E6 EJ;rw [if_neg U,Ac (by unfold Bz;omega),Ac (by unfold Bz;omega)]
 split
 ·rw [Ac U]
 ·rfl
theorem AcL{L:List (List UInt8)}(hL:L.length<=1000)(ht:L.flatten.length<=1000000000000):DO L=some L.flatten:=by
 have hx:∀ i,i<L.length->(L.take i).flatten.length+(L.getD i Qq2).length<=1000000000000:=fun i hi=>by
  have a:=RP L (i+1);rw [Mp hi,Qzu] at a;omega
 have b:Df L (L.flatten.length:Int)=some L.flatten:=by
  unfold Df;rw [AgT U,Qq5];unfold Fx;refine DM (fun i=>((L.take i).flatten,((i:Nat):Int))) L.length (fun i hi=>?_) ?_ 0
  ·unfold CS;dsimp only;have:=hx i hi;rw [if_pos U,Ac U,Qq8,Ac (by unfold Go.E.HK;omega),Ac (by unfold Bz;omega),Mp hi]
   rfl
  ·unfold CS Ed;dsimp only;rw [if_neg U,Qx4]
 unfold DO Fy;refine DM (fun i=>(((L.take i).flatten.length:Int),((i:Nat):Int))) L.length (fun i hi=>?_) ?_ 0
 ·unfold CT;dsimp only;have:=hx i hi;rw [if_pos U,Ac U,Qq8,Ac (by unfold Bz;omega),if_neg U,Ac (by unfold Bz;omega),Mp hi,Qzu]
  rfl
 ·unfold CT;dsimp only;rw [if_neg U,Qx4,b]
theorem Rt{e:En}(h:EnS e):(SQ e).length<=20000000:=by
 obtain⟨a,_,_,b,_,c⟩:=h;unfold SQ VV AaF;simp only [List.flatten_cons,List.flatten_nil,Qzu,Qze];have:=Pn e.2;have:=GV (zz (e.1.1.length:Int));have:=GV (zz e.1.2.1);have:=GV (zz e.1.2.2.1);have:=GV (zz (e.1.2.2.2.length:Int));have:=GV (zz (e.2.length:Int));omega
theorem Z7{s:List UInt8}(h:s.length<=2000000):HT s=some (VV s):=by
 unfold HT VV;have:=GV (zz (s.length:Int));rw [Jf (by unfold Bz;omega),Qq5,Ac (by unfold Go.E.HK;omega)]
theorem AgU{e:En}(h:EnS e):Ka e=some (SQ e):=by
 have hl:=Rt h;obtain⟨a,h2,h3,b,c,d⟩:=h;unfold Ka;rw [Ac U,Z7 a,Qq5,Jf h2,Qq5,Jf h3,Qq5,Ac U,Z7 b,Qq5,AgS c d,Qq5,AcL Qqd (by unfold SQ at hl;omega)]
 rfl
theorem Og{α β:Type}(f:α->List β)(B:Nat):∀ {l:List α},(∀ x∈l,(f x).length<=B)->(l.flatMap f).length<=l.length * B
 | [],_=>by simp
 | x::l,h=>by
  rw [Qz6,Qzu,Qzj,Nat.add_mul];have:=h x (.head _);have:=Og f B fun y hy=>h y (.tail _ hy);omega
theorem Afd{n:Int}{es:List En}(hn:Bz n)(hl:es.length<=1000000)(h:∀ e∈es,EnS e):Gx (n,es)=some (AbL n es):=by
 have ht:=Og SQ 20000000 (l:=es) fun x hx=>Rt (h x hx);have b:=GV (zz (es.length:Int));have c:=GV (zz n)
 have hw:L9 es=some (Pm (zz (es.length:Int))++es.flatMap SQ):=by
  unfold L9;rw [Jf (by unfold Bz;omega),Qq5];unfold LZ;refine DM (fun i=>(Pm (zz (es.length:Int))++(es.take i).flatMap SQ,((i:Nat):Int))) es.length (fun i hi=>?_) ?_ 0 |> fun hh=>by simpa using hh
  ·unfold It;dsimp only;have a:=Og SQ 20000000 (l:=es.take i) fun x hx=>Rt (h x (List.mem_of_mem_take hx));rw [QzK] at a;have d:=Rt (h _ (Ew hi));have f:min i es.length * 20000000<=1000000 * 20000000:=Qka _ U;rw [if_pos U,Ac U,Qq8]
   show(Ka (es.getD i Qq2)).bind _=_
   rw [AgU (h _ (Ew hi)),Qq5,Ac (by unfold Go.E.HK;simp only [Qzu];omega),Ac (by unfold Bz;omega),O3 _ hi,Qxd]
   rfl
  ·unfold It Kb;dsimp only;rw [if_neg U,Qx4]
 unfold Gx;dsimp only;have g:es.length * 20000000<=1000000 * 20000000:=Qka _ hl;rw [Jf hn,Qq5,hw,Qq5,Ac (by unfold Go.E.HK;simp only [Qzu];omega)]
 rfl
structure EV (n:Int) (e:En):Prop where
 path:e.1.1.length<=330/\¬ 0<=wr false 0 (sl e.1.1)
 kind:1<=e.1.2.1/\e.1.2.1<=4
 num:e.1.2.2.1=0\/e.1.2.1=1
 text:e.1.2.2.2=[]\/e.1.2.1=2
 ne:e.2≠[]
 items:∀ z∈e.2,0<=z/\z<n
 inc:e.2.Pairwise (fun a b=>a<b)
end Go.Proofs.YtekmbcbgknmhiaaGreatDoor
end
