/- Texts of a claim, merged. -/
import Derived.Test.YtekmbcbgknmhiaaGreatDoorLt5
import Derived.KernelRfl
open _root_.Go.Proofs.Tryz renaming underlying24→Aj6,underlying26→Ajl
open Option renaming bind->Qq4,bind_some->Qq6,map->Qq7,bind_assoc->Qkj,toList_some->Qja
open List renaming getD_eq_getElem?_getD->Qq9,getElem?_eq_getElem->Qzj,replicate->Qzz,length_map->Qzk,length_cons->Qzw,length_append->Qzu,range->Qzv,getElem?_eq_some_iff->QzD,mem_cons_of_mem->QzC,mem_cons->Qzy,drop_eq_nil_of_le->Qz5,mem_cons_self->Qz0,mem_singleton->QzB,length_nil->Qzd,mem_append->QzQ,length_take->QzK,take_of_length_le->Qxj,pairwise_cons->Qz1,length_drop->QzA,map_cons->Qze,append_nil->QzZ,mem_range->QzX,getElem?_eq_none->Qxe,getElem?_map->Qz6,getElem?_drop->Qxw,mem_map->QzJ,getElem_mem->Qz9,flatMap_cons->Qxd,length_range->QxQ,take_add_one->QxJ,map_append->Qxa,drop_eq_getElem_cons->Qkf,nil_append->Qxv,length_singleton->QxD,getElem?_cons_zero->Qx7,mergeSort_perm->Qkq,range_succ->QxB,countP_cons->Qx2,take_length->Qx4,length->Qxy,mem_filter->Qx3,append_assoc->QxX,drop_drop->Qkk,countP_append->QkQ,length_filter_le->Qkd,drop_zero->QxE,pairwise_map->Qkx,ext_getElem?->Qkc,countP_eq_zero->QkD,map_congr_left->Qx9,not_mem_nil->Qkw,pairwise_mergeSort->Qk1,pairwise_singleton->QkJ,mem_iff_getElem?->Qju,exists_cons_of_ne_nil->Qk2,getElem?_range->QkA,getElem?_append_left->QkZ,countP_congr->Qk3,map_map->Qx0,countP_singleton->Qjw,countP_le_length->Qjv,length_set->QkK,pairwise_append->Qjy,filter_append->Qjj,pairwise_iff_getElem->Qjc,getElem?_set->Qjk,any_cons->Qjq,getElem?_take_of_lt->Qjd
open Int renaming toNat_natCast->Qq8,reduceEq->QxA,lt_trichotomy->Qke
open Prod renaming fst->Qq5
open Nat renaming le_refl->Qzx,le_trans->Qz2,add_zero->Qxk,zero_le->Qz3,lt_or_ge->Qxx,add_sub_cancel->Qkz,mul_le_mul_right->Qky
open Bool renaming and_eq_true->Qzb,false_eq_true->Qxq,or_eq_true->Qz8,eq_iff_iff->Qxz,not_false->Qka,not_eq_true'->QkX,false_or->Qjz,or_false->Qjx
open UInt8 renaming lt_iff_toNat_lt->Qxf,ofNat->QzE,toNat_lt->Qx1,ofNat_toNat->Qk8
set_option linter.unusedVariables false
set_option linter.unusedSimpArgs false
set_option linter.unusedSectionVars false
noncomputable section
namespace Go.Proofs.YtekmbcbgknmhiaaGreatDoor
open Go Go.E Go.RowKit Go.L
set_option maxHeartbeats 1000000
set_option maxRecDepth 10000
open _root_.Go.Proofs.Tryz
def LV(a0:Qv):Option Int:=
 Qq4 (LA a0.f.2.2.1) (fun a=>if a.1=0 then(if a0.f.1=3 then if((!decide (1<=a0.f.2.2.2.2.1/\a0.f.2.2.2.2.1<=2048))||((decide (a0.f.1=6))&&(decide (a0.f.2.2.2.2.2.1<a0.f.2.2.2.2.1)))) then some (4) else(if((decide (a0.f.1=4))&&(decide ((a0.f.2.2.2.1.length:Int)=0))) then some (10) else(if 64<(a0.f.2.2.2.1.length:Int) then some (3) else some (0))) else if((decide (a0.f.1=6))&&(decide (a0.f.2.2.2.2.2.1<a0.f.2.2.2.2.1))) then some (4) else(if((decide (a0.f.1=4))&&(decide ((a0.f.2.2.2.1.length:Int)=0))) then some (10) else(if 64<(a0.f.2.2.2.1.length:Int) then some (3) else some (0)))) else some (a.1))
def Js(a0:Qv):Int->Option ((Int) ⊕ (Int)):=fun a=>
 if a<(a0.f.2.1.length:Int) then AN (0<=a/\a<(a0.f.2.1.length:Int)) (Qq4 (NO (a0.f.2.1.getD a.toNat Qq2)) (fun b=>if b.1=0 then AN (Bz (a+1)) (some (Sum.inl (a+1))) else Qq7 Sum.inr (some (b.1)))) else Qq7 Sum.inr ((LV a0))
def On(a0:Qv)(s:Int):Option Int:=Go.L.run (Js a0) s
def FD(a0:Qv):Option Int:=
 (On a0) (0:Int)
def HN(a0:Qv):Int->Option ((Int) ⊕ (Int)):=fun a=>
 if((decide (a<(a0.f.2.2.2.2.2.2.length:Int)))&&(decide (a0.f.1<10))) then AN (0<=a/\a<(a0.f.2.2.2.2.2.2.length:Int)) (if(a0.f.2.2.2.2.2.2.getD a.toNat Qq2).f.1=a0.f.1 then Qq7 Sum.inr (some (6)) else AN (Bz (a+1)) (some (Sum.inl (a+1)))) else Qq7 Sum.inr ((FD a0))
def Oo(a0:Qv)(s:Int):Option Int:=Go.L.run (HN a0) s
def LW(a0:Qv):Option Int:=
 (Oo a0) (0:Int)
def NQ(a0:Qv):Option Int:=
 if 1<=a0.f.1/\a0.f.1<=10 then AN (0<=a0.f.1/\a0.f.1<11) (AN (0<=a0.f.1/\a0.f.1<11) (if(((!decide ((([0,1,2,2,0,0,0,0,0,0,0]:List Int).getD a0.f.1.toNat Qq2)<=(a0.f.2.1.length:Int)/\(a0.f.2.1.length:Int)<=(([0,1,16,2,0,0,0,0,0,0,0]:List Int).getD a0.f.1.toNat Qq2)))||((!decide (5<=a0.f.1/\a0.f.1<=7))&&(!decide (a0.f.2.2.1=([]:AcC)))))||(((!decide (a0.f.1=4))&&(!decide (a0.f.1=7)))&&(decide (0<(a0.f.2.2.2.1.length:Int))))) then some (6) else(if((((!decide (a0.f.1=3))&&(!decide (a0.f.1=6)))&&(!decide (a0.f.2.2.2.2.1=0)))||((!decide (a0.f.1=6))&&(!decide (a0.f.2.2.2.2.2.1=0)))) then some (6) else(if(((decide (a0.f.1<8))&&(decide (0<(a0.f.2.2.2.2.2.2.length:Int))))||((decide (a0.f.1=10))&&(!decide ((a0.f.2.2.2.2.2.2.length:Int)=1)))) then some (6) else if((decide (8<=a0.f.1/\a0.f.1<=9))&&(decide ((a0.f.2.2.2.2.2.2.length:Int)<2))) then some (6) else(LW a0))))) else some (5)
def PA(a:Int):Option AjP:=
 some (a,(0,0))
def Jb(a0:Qv)(a2:Int)(self:Qv->Int->Int->Option AjP):Int×Int->Option ((Int×Int) ⊕ AjP):=fun⟨b,a⟩=>
 if a<(a0.f.2.2.2.2.2.2.length:Int) then AN (0<=a/\a<(a0.f.2.2.2.2.2.2.length:Int)) (AN (Bz (a2+1)) (Qq4 (self (a0.f.2.2.2.2.2.2.getD a.toNat Qq2) b (a2+1)) (fun c=>if c.2.1=0 then AN (Bz (a+1)) (some (Sum.inl (c.1,(a+1)))) else Qq7 Sum.inr (some (0,(c.2.1,c.2.2)))))) else Qq7 Sum.inr (PA b)
def PB(a0:Qv)(a2:Int)(self:Qv->Int->Int->Option AjP)(s:Int×Int):Option AjP:=Go.L.run (Jb a0 a2 self) s
def K3(self:Qv->Int->Int->Option AjP)(a0:Qv)(a1 a2:Int):Option AjP:=
 if(40<=a1)\/(8<a2) then Qq4 (L8 (2:Int) a1) (fun b=>some (0,(b.1,b.2))) else Qq4 (NQ a0) (fun c=>if c=0 then AN (Bz (a1+1)) ((PB a0 a2 self) ((a1+1),0)) else Qq4 (L8 c a1) (fun a=>some (0,(a.1,a.2))))
def Kv:Nat->Qv->Int->Int->Option AjP
 | 0=>fun _ _ _=>none
 | n+1=>K3 (Kv n)
def KW(c:AcC)(a b:Int):Option ((AcC×Int) ⊕ (AcC)):=
 AN (Bz (48+b)) (AN (Go.E.H7 1 (([(Go.L.u8 (48+b))]).length+c.length)) (AN (-9223372036854775808<=a/\a<=9223372036854775807/\0<(10:Int)) (some (Sum.inl (([(Go.L.u8 (48+b))]++c),(Int.tdiv a (10:Int)))))))
def PR(a0:Int)(a:AcC):Option AcC:=
 if a0<0 then AN (Go.E.H7 1 (([(45:UInt8)]).length+a.length)) (some (([(45:UInt8)]++a))) else some a
def H5(a0:Int):AcC×Int->Option ((AcC×Int) ⊕ (AcC)):=fun⟨b,a⟩=>
 if a=0 then Qq7 Sum.inr ((PR a0) b) else AN (-9223372036854775808<=a/\a<=9223372036854775807/\0<(10:Int)) (if(Int.tmod a (10:Int))<0 then AN (Bz (-(Int.tmod a (10:Int)))) ((KW b a) (-(Int.tmod a (10:Int)))) else(KW b a) (Int.tmod a (10:Int)))
def PS(a0:Int)(s:AcC×Int):Option AcC:=Go.L.run (H5 a0) s
def LX(a0:Int):Option AcC:=
 if a0=0 then some (([48]:AcC)) else(PS a0) (([]:AcC),a0)
def Kf(a0:AcC)(b:AcC)(a:Int)(c:Bool):Option ((AcC×Int) ⊕ (AcC)):=
 if c then AN (0<=a/\a<(a0.length:Int)) (AN (Go.E.H7 1 (b.length+([a0.getD a.toNat Qq2]).length)) (AN (Bz (a+1)) (some (Sum.inl ((b++[a0.getD a.toNat Qq2]),(a+1)))))) else AN (0<=a/\a<(a0.length:Int)) (AN (0<=((a0.getD a.toNat Qq2).toNat:Int)/\((a0.getD a.toNat Qq2).toNat:Int)<=9223372036854775807/\0<(16:Int)) (Qq4 (KE (((a0.getD a.toNat Qq2).toNat:Int) / (16:Int))) (fun d=>AN (0<=a/\a<(a0.length:Int)) (AN (0<=((a0.getD a.toNat Qq2).toNat:Int)/\((a0.getD a.toNat Qq2).toNat:Int)<=9223372036854775807/\0<(16:Int)) (Qq4 (KE (((a0.getD a.toNat Qq2).toNat:Int) % (16:Int))) (fun e=>AN (Go.E.H7 1 (b.length+([(92:UInt8),d,e]).length)) (AN (Bz (a+1)) (some (Sum.inl ((b++[(92:UInt8),d,e]),(a+1)))))))))))
def QC(a:AcC):Option AcC:=
 AN (Go.E.H7 1 (a.length+([(39:UInt8)]).length)) (some ((a++[(39:UInt8)])))
def J3(a0:AcC):AcC×Int->Option ((AcC×Int) ⊕ (AcC)):=fun⟨b,a⟩=>
 if a<(a0.length:Int) then AN (0<=a/\a<(a0.length:Int)) (if 32<=((a0.getD a.toNat Qq2).toNat:Int)/\((a0.getD a.toNat Qq2).toNat:Int)<=126 then AN (0<=a/\a<(a0.length:Int)) (if((a0.getD a.toNat Qq2).toNat:Int)=39 then(Kf a0 b a) false else AN (0<=a/\a<(a0.length:Int)) ((Kf a0 b a) (!decide (((a0.getD a.toNat Qq2).toNat:Int)=92)))) else(Kf a0 b a) false) else Qq7 Sum.inr (QC b)
def QD(a0:AcC)(s:AcC×Int):Option AcC:=Go.L.run (J3 a0) s
def Oq(a0:AcC):Option AcC:=
 (QD a0) ([(39:UInt8)],0)
def Hs:Option Bool:=
 some true
def GM(a0:Qv)(a1:Qv)(self:Qv->Qv->Option Bool):Int->Option ((Int) ⊕ (Bool)):=fun a=>
 if a<(a0.f.2.2.2.2.2.2.length:Int) then AN (0<=a/\a<(a0.f.2.2.2.2.2.2.length:Int)) (AN (0<=a/\a<(a1.f.2.2.2.2.2.2.length:Int)) (Qq4 (self (a0.f.2.2.2.2.2.2.getD a.toNat Qq2) (a1.f.2.2.2.2.2.2.getD a.toNat Qq2)) (fun b=>if !b then none else AN (Bz (a+1)) (some (Sum.inl (a+1)))))) else Qq7 Sum.inr Hs
def Jt(a0:Qv)(a1:Qv)(self:Qv->Qv->Option Bool)(s:Int):Option Bool:=Go.L.run (GM a0 a1 self) s
def Ht(a0:Qv)(a1:Qv)(self:Qv->Qv->Option Bool):Option Bool:=
 (Jt a0 a1 self) (0:Int)
def He(self:Qv->Qv->Option Bool)(a0:Qv)(a1:Qv):Option Bool:=
 if((((!decide (a0.f.1=a1.f.1))||(!decide (a0.f.2.2.1=a1.f.2.2.1)))||(!decide (a0.f.2.2.2.2.1=a1.f.2.2.2.2.1)))||(!decide (a0.f.2.2.2.2.2.1=a1.f.2.2.2.2.2.1))) then none else Qq4 (JM a0.f.2.2.2.1 a1.f.2.2.2.1) (fun a=>if !a then none else Qq4 (Pz a0.f.2.1 a1.f.2.1) (fun b=>if((!b)||(!decide ((a0.f.2.2.2.2.2.2.length:Int)=(a1.f.2.2.2.2.2.2.length:Int)))) then none else(Ht a0 a1 self)))
def Jc(self:Qv->Qv->Option Bool):Prop:=∀ (w:World) (H:PH) (hH:Le H (hp w)) {a0:Qv} {a1:Qv} {a:Value} {b:Value} {c:Value} {d:Value} {e:Value} {g:Value} (i:AJ .st H a (a0.f.2.1)) (j:AJ .byte H b (a0.f.2.2.2.1)) (k:AJ .B1 H c (a0.f.2.2.2.2.2.2)) (l:AJ .st H d (a1.f.2.1)) (m:AJ .byte H e (a1.f.2.2.2.1)) (n:AJ .B1 H g (a1.f.2.2.2.2.2.2)) {r:Bool} (h:self a0 a1=some r),Ok prog 17 [.agg #[No a0.f.1,a,AcB a0.f.2.2.1,b,No a0.f.2.2.2.2.1,No a0.f.2.2.2.2.2.1,c],.agg #[No a1.f.1,d,AcB a1.f.2.2.1,e,No a1.f.2.2.2.2.1,No a1.f.2.2.2.2.2.1,g]] w (fun v w'=>Ext w w'/\v=.bool r)
def H6:Nat->Qv->Qv->Option Bool
 | 0=>fun _ _=>none
 | n+1=>He (H6 n)
def LY:Qv->Qv->Option Bool:=H6 1000
theorem PC(self:Qv->Qv->Option Bool)(hself:Jc self):Jc (He self):=by
 intro w H hH a0 a1 m o p u v x a2 a3 aa a4 a5 ag r h;unfold Jc at hself;refine Az 76 [(0,.agg #[No a0.f.1,m,AcB a0.f.2.2.1,o,No a0.f.2.2.2.2.1,No a0.f.2.2.2.2.2.1,p]),(1,.agg #[No a1.f.1,u,AcB a1.f.2.2.1,v,No a1.f.2.2.2.2.1,No a1.f.2.2.2.2.2.1,x])] func17 Z fun hL=>Aj<|C9 (t:=26) Z Z hL fun w1 b1 bc bh _=>C9 (t:=26) Z Z bc fun w2 b2 k bi _=>A7 1 Z<|By Unit (fun(_:Unit)=>[(2,(Acy b1)),(3,(Acy b2))]) (fun(_:Unit) wr=>Bb w [.box b2 [No a1.f.1,u,AcB a1.f.2.2.1,v,No a1.f.2.2.2.2.1,No a1.f.2.2.2.2.2.1,x] 26,.box b1 [No a0.f.1,m,AcB a0.f.2.2.1,o,No a0.f.2.2.2.2.1,No a0.f.2.2.2.2.2.1,p] 26] wr/\(Ht a0 a1 self)=some r) ?_ ?_
 ·refine Aj<|Ai (Ae Z Ajl Z CO.e)<|Ai (Ag 1 Z k Z)<|Ai (Ae Z Ajl Z CO.e)<|Ai (Ag 0 Z k Z)<|Aq 2 Z<|ON 6 17 (.bool ((!decide (a0.f.1=a1.f.1))||(!decide (a0.f.2.2.1=a1.f.2.2.1)))) (fun aj=>?_) ?_
  ·refine IG (s:=11) Z (fun c=>?_) (fun c=>?_)
   ·iterate 5 refine Au c ?_
    refine Ai (AK c Z)<|aj.to 5 (Wh c) Z Z
   refine Ab c<|Ai (Ae Z Ajl Z HC.e)<|Ab c<|Ai (Ag 1 Z k Z)<|Ab c<|Ai (Ae Z Ajl Z HC.e)<|Ab c<|Ai (Ag 0 Z k Z)<|Ab c<|Ai (Sb Z Z)<|Ai (AS c Z)<|aj.to 5 (Wi c) Z Z
  refine Aq 1 Z<|ON 6 24 (.bool (((!decide (a0.f.1=a1.f.1))||(!decide (a0.f.2.2.1=a1.f.2.2.1)))||(!decide (a0.f.2.2.2.2.1=a1.f.2.2.2.2.1)))) (fun ak=>?_) ?_
  ·refine IG (s:=18) Z (fun d=>?_) (fun d=>?_)
   ·iterate 5 refine Au d ?_
    refine Ai (AK d Z)<|ak.to 5 (Wh d) Z Z
   refine Ab d<|Ai (Ae Z Ajl Z CO.e)<|Ab d<|Ai (Ag 1 Z k Z)<|Ab d<|Ai (Ae Z Ajl Z CO.e)<|Ab d<|Ai (Ag 0 Z k Z)<|Ab d<|Ai (Am Z)<|Ai (AS d Z)<|ak.to 5 (Wi d) Z Z
  refine Aq 1 Z<|ON 6 31 (.bool ((((!decide (a0.f.1=a1.f.1))||(!decide (a0.f.2.2.1=a1.f.2.2.1)))||(!decide (a0.f.2.2.2.2.1=a1.f.2.2.2.2.1)))||(!decide (a0.f.2.2.2.2.2.1=a1.f.2.2.2.2.2.1)))) (fun al=>?_) ?_
  ·refine IG (s:=25) Z (fun e=>?_) (fun e=>?_)
   ·iterate 5 refine Au e ?_
    refine Ai (AK e Z)<|al.to 5 (Wh e) Z Z
   refine Ab e<|Ai (Ae Z Ajl Z CO.e)<|Ab e<|Ai (Ag 1 Z k Z)<|Ab e<|Ai (Ae Z Ajl Z CO.e)<|Ab e<|Ai (Ag 0 Z k Z)<|Ab e<|Ai (Am Z)<|Ai (AS e Z)<|al.to 5 (Wi e) Z Z
  refine Aq 1 Z<|GV 32 h ?_ ?_<;>intro i h
  ·iterate 6 refine Au i ?_
   refine Ai (AK i Z)<|Aq 1 Z ?_
   iterate 6 refine Au Z ?_
   refine Ai (AK Z Z)<|Aq 1 Z ?_
   iterate 7 refine Au Z ?_
   refine Ai (AK Z Z)<|Ac<|Ff ?_
   cases h
  refine Ab i<|Ai (Ae Z Ajl Z IF.e)<|Ab i<|Ai (Ag 1 Z k Z)<|Ab i<|Ai (Ae Z Ajl Z IF.e)<|Ab i<|Ai (Ag 0 Z k Z)<|Ab i<|Aw h fun bs a6 h=>AE k (Oh _ _ (An k) (a3.mono  Ah) (a5.mono  Ah) a6) fun bt bj y be=>Ab i<|Ai (Am Z)<|Ai (AS i Z)<|Aq 1 Z<|GV 40 h ?_ ?_<;>intro j h
  ·iterate 6 refine Au j ?_
   refine Ai (AK j Z)<|Aq 1 Z ?_
   iterate 7 refine Au Z ?_
   refine Ai (AK Z Z)<|Ac<|Ff ?_
   cases h
  refine Ab j<|Ai (Ae Z Ajl Z Na.e)<|Ab j<|Ai (Ag 1 Z y Z)<|Ab j<|Ai (Ae Z Ajl Z Na.e)<|Ab j<|Ai (Ag 0 Z y Z)<|Ab j<|Aw h fun bd a7 h=>AE y (Wp _ _ (An y) (a2.mono  Ah) (a4.mono  Ah) a7) fun bu bk ab bf=>Ab j<|Ai (Am Z)<|Ai (AS j Z)<|Aq 1 Z<|ON 8 56 (.bool ((!bd)||(!decide ((a0.f.2.2.2.2.2.2.length:Int)=(a1.f.2.2.2.2.2.2.length:Int))))) (fun am=>?_) ?_
  ·refine IG (s:=48) Z (fun b=>?_) (fun b=>?_)
   ·iterate 7 refine Au b ?_
    refine Ai (AK b Z)<|am.to 7 (Wh b) Z Z
   refine Ab b<|Ai (Ae Z Ajl Z Mh.e)<|Ab b<|Ai (Ag 1 Z ab Z)<|Ab b<|Ai (Bk aa)<|Ab b<|Ai (Ae Z Ajl Z Mh.e)<|Ab b<|Ai (Ag 0 Z ab Z)<|Ab b<|Ai (Bk ag)<|Ab b<|Ai (Am Z)<|Ai (AS b Z)<|am.to 7 (Wi b) Z Z
  refine Ac<|B3 h ?_ ?_<;>intro a8 h
  ·cases h
  refine Av<|AA () ⟨ab,h⟩
 rintro _ bl ⟨a9,h⟩;refine By Unit (fun(_:Unit)=>[]) (fun(_:Unit) wr=>Bb w [.box b2 [No a1.f.1,u,AcB a1.f.2.2.1,v,No a1.f.2.2.2.2.1,No a1.f.2.2.2.2.2.1,x] 26,.box b1 [No a0.f.1,m,AcB a0.f.2.2.1,o,No a0.f.2.2.2.2.1,No a0.f.2.2.2.2.2.1,p] 26] wr/\Hs=some r) ?_ ?_
 ·refine AI 1 Z<|A3 ?_;obtain⟨ac,h⟩:=Ba h;refine B5 (Int×Nat) (fun⟨g,n⟩=>[(2,(Acy b1)),(3,(Acy b2)),(5,No g)]) (fun⟨g,n⟩ wr=>Bb w [.box b2 [No a1.f.1,u,AcB a1.f.2.2.1,v,No a1.f.2.2.2.2.1,No a1.f.2.2.2.2.2.1,x] 26,.box b1 [No a0.f.1,m,AcB a0.f.2.2.1,o,No a0.f.2.2.2.2.1,No a0.f.2.2.2.2.2.1,p] 26] wr/\H8 (GM a0 a1 self) n g=some r) (fun⟨g,n⟩=>n) (0,ac) Z ⟨a9,h⟩ ?_;rintro⟨g,nn100⟩ bg ⟨z,h⟩;obtain⟨ac,bm,rfl,h,ad⟩:=AY h;refine AB<|Bt 1 Z<|Ai (Ae Z Ajl Z Mh.e)<|Ai (Ag 1 Z z Z)<|Ai (Bk aa)<|A7 1 Z<|AO h ?_ ?_<;>intro ap h
  ·refine Av<|Ar<|AB<|A3<|Eu (Qqz 0 12 (.tail 12)) mixed Qqb (fun ba aq=>?_);have a:=z.call aq;refine CD Z (Ae Z Ajl Z Mh.e) Z<|CD Z (Ag 1 Z a Z) Z<|D0 1 Z<|A1 h fun ae h=>HR Z Z Z Aj6 aa g.toNat (G1 ae) (AX ae) Z ?_;rintro bn _ e106t0 ar;obtain⟨_,_,rfl,rfl,⟨_,_,rfl,⟨e106v1,rfl,e106h1⟩,⟨_,_,rfl,rfl,⟨_,_,rfl,⟨e106v3,rfl,e106h3⟩,⟨_,_,rfl,rfl,⟨_,_,rfl,rfl,⟨e106v6,rfl,e106h6⟩⟩⟩⟩⟩⟩⟩:=Go.E.Rp.HE e106t0;refine CD Z (Cj ar (hH.trans a.arg)) Z<|CD Z (Ae Z Ajl Z Mh.e) Z<|CD Z (Ag 0 Z a Z) Z<|D0 1 Z<|A1 h fun af h=>HR Z Z Z Aj6 ag g.toNat (G1 af) (AX af) Z ?_;rintro bo _ e108t0 au;obtain⟨_,_,rfl,rfl,⟨_,_,rfl,⟨e108v1,rfl,e108h1⟩,⟨_,_,rfl,rfl,⟨_,_,rfl,⟨e108v3,rfl,e108h3⟩,⟨_,_,rfl,rfl,⟨_,_,rfl,rfl,⟨e108v6,rfl,e108h6⟩⟩⟩⟩⟩⟩⟩:=Go.E.Rp.HE e108t0;refine CD Z (Cj au (hH.trans a.arg)) Z<|Aw h fun bp av h=>?_
   have an:=(fun(ao:World) (l:Ext ba ao)=>hself ao _ (Le.refl _) ((e106h1.mono (hH.trans a.arg)).mono l.le) ((e106h3.mono (hH.trans a.arg)).mono l.le) ((e106h6.mono (hH.trans a.arg)).mono l.le) ((e108h1.mono (hH.trans a.arg)).mono l.le) ((e108h3.mono (hH.trans a.arg)).mono l.le) ((e108h6.mono (hH.trans a.arg)).mono l.le) av);refine JI Z Z Z an<|D0 1 Z<|BU (fun bq aw=>?_);have ax:=a.call aw;refine Ac<|B3 h ?_ ?_<;>intro ay h
   ·cases h
   refine Av<|A2<|Ar<|As<|Aq 1 Z<|A1 h fun az h=>Ai (A6 az)<|Aq 1 Z<|AL ?_;have h:=Ce.again h ad;refine AM (_,_) Z ⟨ax,h⟩
  refine B2<|AD<|A5 ?_;have h:=Ce.out h ad;refine Bf<|AA () ⟨z,h⟩
 rintro _ br ⟨bb,h⟩;refine AI 1 Z<|Ay ?_
 cases h
 refine Al Z ⟨bb.ext,Z⟩
theorem Ro(n:Nat):Jc (H6 n):=by
 induction n with
 | zero=>unfold Jc;intros;rename_i h;cases h
 | succ n ih=>exact PC (H6 n) ih
section
variable(w:World)(H:PH)(hH:Le H (hp w)) include hH
theorem S6{a0 a1:Qv}{a b c d e g:Value}(i:AJ .st H a (a0.f.2.1))(j:AJ .byte H b (a0.f.2.2.2.1))(k:AJ .B1 H c (a0.f.2.2.2.2.2.2))(l:AJ .st H d (a1.f.2.1))(m:AJ .byte H e (a1.f.2.2.2.1))(n:AJ .B1 H g (a1.f.2.2.2.2.2.2)){r:Bool}(h:LY a0 a1=some r):Ok prog 17 [.agg #[No a0.f.1,a,AcB a0.f.2.2.1,b,No a0.f.2.2.2.2.1,No a0.f.2.2.2.2.2.1,c],.agg #[No a1.f.1,d,AcB a1.f.2.2.1,e,No a1.f.2.2.2.2.1,No a1.f.2.2.2.2.2.1,g]] w (fun v w'=>Ext w w'/\v=.bool r):=Ro 1000 w H hH i j k l m n h
end
def LZ(a:AcC):Option AcC:=
 AN (([(34:UInt8)]).length+a.length<=9223372036854775807) (AN (([(34:UInt8)]++a).length+([(34:UInt8)]).length<=9223372036854775807) (some ((([(34:UInt8)]++a)++[(34:UInt8)]))))
def EZ(a0:Qv):AcC×Int->Option ((AcC×Int) ⊕ (AcC)):=fun⟨b,a⟩=>
 if a<(a0.f.2.1.length:Int) then AN (b.length+([32]:AcC).length<=9223372036854775807) (AN (0<=a/\a<(a0.f.2.1.length:Int)) (AN ((b++([32]:AcC)).length+(a0.f.2.1.getD a.toNat Qq2).length<=9223372036854775807) (AN (Bz (a+1)) (some (Sum.inl (((b++([32]:AcC))++a0.f.2.1.getD a.toNat Qq2),(a+1))))))) else Qq7 Sum.inr (LZ b)
def Ju(a0:Qv)(s:AcC×Int):Option AcC:=Go.L.run (EZ a0) s
def Ma(a0:Qv)(self2:(List Qv)->AcC->Int->Int->Option AcC):Option AcC:=
 Qq4 (self2 a0.f.2.2.2.2.2.2 ([]:AcC) (8:Int) (9:Int)) (fun a=>AN (([33]:AcC).length+a.length<=9223372036854775807) (some ((([33]:AcC)++a))))
def K4(_self1:Qv->Option AcC)(self2:(List Qv)->AcC->Int->Int->Option AcC)(a0:Qv):Option AcC:=
 if a0.f.1=1 then AN (0<=(0:Int)/\(0:Int)<(a0.f.2.1.length:Int)) (some (a0.f.2.1.getD ((0:Int).toNat) Qq2)) else(if a0.f.1=2 then AN (0<=(0:Int)/\(0:Int)<(a0.f.2.1.length:Int)) ((Ju a0) (a0.f.2.1.getD ((0:Int).toNat) Qq2,1)) else(if a0.f.1=3 then AN (0<=(0:Int)/\(0:Int)<(a0.f.2.1.length:Int)) (AN ((a0.f.2.1.getD ((0:Int).toNat) Qq2).length+([126]:AcC).length<=9223372036854775807) (Qq4 (LX a0.f.2.2.2.2.1) (fun a=>AN ((a0.f.2.1.getD ((0:Int).toNat) Qq2++([126]:AcC)).length+a.length<=9223372036854775807) (AN (((a0.f.2.1.getD ((0:Int).toNat) Qq2++([126]:AcC))++a).length+([126]:AcC).length<=9223372036854775807) (AN (0<=(1:Int)/\(1:Int)<(a0.f.2.1.length:Int)) (AN ((((a0.f.2.1.getD ((0:Int).toNat) Qq2++([126]:AcC))++a)++([126]:AcC)).length+(a0.f.2.1.getD ((1:Int).toNat) Qq2).length<=9223372036854775807) (some (((((a0.f.2.1.getD ((0:Int).toNat) Qq2++([126]:AcC))++a)++([126]:AcC))++a0.f.2.1.getD ((1:Int).toNat) Qq2))))))))) else(if a0.f.1=4 then Qq4 (Oq a0.f.2.2.2.1) (fun e=>some e) else(if a0.f.1=5 then AN (([47]:AcC).length+a0.f.2.2.1.length<=9223372036854775807) (some ((([47]:AcC)++a0.f.2.2.1))) else(if a0.f.1=6 then AN (([47]:AcC).length+a0.f.2.2.1.length<=9223372036854775807) (AN ((([47]:AcC)++a0.f.2.2.1).length+([61]:AcC).length<=9223372036854775807) (Qq4 (LX a0.f.2.2.2.2.1) (fun b=>AN (((([47]:AcC)++a0.f.2.2.1)++([61]:AcC)).length+b.length<=9223372036854775807) (AN ((((([47]:AcC)++a0.f.2.2.1)++([61]:AcC))++b).length+([46,46]:AcC).length<=9223372036854775807) (Qq4 (LX a0.f.2.2.2.2.2.1) (fun c=>AN (((((([47]:AcC)++a0.f.2.2.1)++([61]:AcC))++b)++([46,46]:AcC)).length+c.length<=9223372036854775807) (some ((((((([47]:AcC)++a0.f.2.2.1)++([61]:AcC))++b)++([46,46]:AcC))++c))))))))) else(if a0.f.1=7 then AN (([47]:AcC).length+a0.f.2.2.1.length<=9223372036854775807) (AN ((([47]:AcC)++a0.f.2.2.1).length+([61]:AcC).length<=9223372036854775807) (Qq4 (Oq a0.f.2.2.2.1) (fun d=>AN (((([47]:AcC)++a0.f.2.2.1)++([61]:AcC)).length+d.length<=9223372036854775807) (some ((((([47]:AcC)++a0.f.2.2.1)++([61]:AcC))++d)))))) else(if a0.f.1=8 then Qq4 (self2 a0.f.2.2.2.2.2.2 ([38]:AcC) (9:Int) (0:Int)) (fun g=>some g) else(if a0.f.1=9 then Qq4 (self2 a0.f.2.2.2.2.2.2 ([124]:AcC) (0:Int) (0:Int)) (fun h=>some h) else(Ma a0 self2)))))))))
def I2(a0:List Qv)(a:Int)(b:AcC)(self1:Qv->Option AcC)(d:Bool):Option ((AcC×Int) ⊕ (AcC)):=
 if d then AN (b.length+([40]:AcC).length<=9223372036854775807) (AN (0<=a/\a<(a0.length:Int)) (Qq4 (self1 (a0.getD a.toNat Qq2)) (fun c=>AN ((b++([40]:AcC)).length+c.length<=9223372036854775807) (AN (((b++([40]:AcC))++c).length+([41]:AcC).length<=9223372036854775807) (AN (Bz (a+1)) (some (Sum.inl ((((b++([40]:AcC))++c)++([41]:AcC)),(a+1))))))))) else AN (0<=a/\a<(a0.length:Int)) (Qq4 (self1 (a0.getD a.toNat Qq2)) (fun e=>AN (b.length+e.length<=9223372036854775807) (AN (Bz (a+1)) (some (Sum.inl ((b++e),(a+1)))))))
def I3(a0:List Qv)(a2 a3 a:Int)(self1:Qv->Option AcC)(b:AcC):Option ((AcC×Int) ⊕ (AcC)):=
 AN (0<=a/\a<(a0.length:Int)) (if(a0.getD a.toNat Qq2).f.1=a2 then(I2 a0 a b self1) true else AN (0<=a/\a<(a0.length:Int)) ((I2 a0 a b self1) (decide ((a0.getD a.toNat Qq2).f.1=a3))))
def Kg(a:AcC):Option AcC:=
 some a
def CX(a0:List Qv)(a1:AcC)(a2 a3:Int)(self1:Qv->Option AcC):AcC×Int->Option ((AcC×Int) ⊕ (AcC)):=fun⟨b,a⟩=>
 if a<(a0.length:Int) then(if 0<a then AN (b.length+a1.length<=9223372036854775807) ((I3 a0 a2 a3 a self1) (b++a1)) else(I3 a0 a2 a3 a self1) b) else Qq7 Sum.inr (Kg b)
def MX(a0:List Qv)(a1:AcC)(a2 a3:Int)(self1:Qv->Option AcC)(s:AcC×Int):Option AcC:=Go.L.run (CX a0 a1 a2 a3 self1) s
def Mb(self1:Qv->Option AcC)(_self2:(List Qv)->AcC->Int->Int->Option AcC)(a0:List Qv)(a1:AcC)(a2 a3:Int):Option AcC:=
 (MX a0 a1 a2 a3 self1) (([]:AcC),0)
def Dz:Nat->(Qv->Option AcC)×((List Qv)->AcC->Int->Int->Option AcC)
 | 0=>(fun _=>none,fun _ _ _ _=>none)
 | n+1=>(K4 ((Dz n).1) ((Dz n).2),Mb ((Dz n).1) ((Dz n).2))
end Go.Proofs.YtekmbcbgknmhiaaGreatDoor
end
noncomputable section
namespace Go.L
open Go
def Smq(B:Nat):Nat->Qv->Prop
 | 0,_=>True
 | d+1,q=>q.f.2.1.length<=B/\q.f.2.2.1.length<=B/\q.f.2.2.2.1.length<=B/\q.f.2.2.2.2.2.2.length<=B/\(∀ x∈q.f.2.1,x.length<=B)/\Bz q.f.2.2.2.2.1/\Bz q.f.2.2.2.2.2.1/\∀ p∈q.f.2.2.2.2.2.2,Smq B d p
end Go.L
namespace Go.Proofs.YtekmbcbgknmhiaaGreatDoor
open Go Go.L
def ZF:List (List UInt8)->Int
 | []=>0
 | w::l=>if(wf w).1=0 then ZF l else(wf w).1
theorem AiJ{w:List UInt8}(h:(wf w).1=0):wf w=(0,0):=by
 unfold wf at h ⊢
 split at h
 ·cases h
 ·rename_i a;rw [if_neg a]
  split at h
  ·rename_i b;rw [if_pos b]
  ·cases h
theorem AiK{w:List UInt8}(h:(pf w).1=0):pf w=(0,0):=by
 unfold pf at h ⊢
 split at h
 ·cases h
 ·rename_i a;rw [if_neg a]
  split at h
  ·cases h
  ·rename_i b;rw [if_neg b]
theorem Qf(k:Int)(ws:List (List UInt8))(p d:List UInt8)(l h:Int)(ss:List Qv):(Qv.mk k ws p d l h ss).f=(k,ws,p,d,l,h,ss):=Z
theorem WU{ws:List (List UInt8)}(hl:ws.length<=1000000000){b:Int->Option (Int ⊕ Int)}{m:Option Int}
  (a:∀ i:Nat,i<ws.length->b (i:Int)=if(wf (ws.getD i Qq2)).1=0 then some (.inl ((i:Int)+1)) else some (.inr (wf (ws.getD i Qq2)).1)) (h2:b (ws.length:Int)=m.map Sum.inr):Go.L.run b 0=if ZF ws=0 then m else some (ZF ws):=by
 have key:∀ (d i:Nat),i+d=ws.length->Go.L.run b (i:Int)=if ZF (ws.drop i)=0 then m else some (ZF (ws.drop i)):=by
  intro d
  induction d with
  | zero=>
   intro i hi;rw [Qz5 U,if_pos (by rfl),show i=ws.length by omega];exact AP h2
  | succ d ih=>
   intro i hi;have hb:=a i U;rw [Qkf U,ZF];have hg:ws.getD i Qq2=ws[i]:=by rw [Qq9,Qzj U];rfl
   rw [hg] at hb
   by_cases hw:(wf ws[i]).1=0
   ·rw [if_pos hw] at hb ⊢;rw [Bg hb];exact ih (i+1) U
   ·rw [if_neg hw] at hb ⊢;rw [if_neg hw];exact AP (m:=some _) hb
 exact key ws.length 0 U
def OF(q:Qv):Bool:=q.f.2.2.2.2.2.2.any fun s=>decide (s.f.1=q.f.1)
theorem Aec{l:List Qv}{k:Int}(hl:l.length<=1000000000){σ ρ:Type}{b:σ->Option (σ ⊕ ρ)}{st:Nat->σ}{m y:Option ρ}
  (a:∀ i:Nat,i<l.length->b (st i)=if(l.getD i Qq2).f.1=k then y.map Sum.inr else some (.inl (st (i+1)))) (h2:b (st l.length)=m.map Sum.inr):Go.L.run b (st 0)=if(l.any fun s=>decide (s.f.1=k)) then y else m:=by
 have key:∀ (d i:Nat),i+d=l.length->Go.L.run b (st i)=if((l.drop i).any fun s=>decide (s.f.1=k)) then y else m:=by
  intro d
  induction d with
  | zero=>
   intro i hi;rw [Qz5 U,if_neg Qqd,show i=l.length by omega];exact AP h2
  | succ d ih=>
   intro i hi;have hb:=a i U;have hg:l.getD i Qq2=l[i]:=by rw [Qq9,Qzj U];rfl
   rw [hg] at hb;rw [Qkf U,Qjq]
   by_cases hw:l[i].f.1=k
   ·rw [if_pos hw] at hb;rw [decide_eq_true hw,Bool.true_or,if_pos Z];exact AP hb
   ·rw [if_neg hw] at hb;rw [Bg hb,decide_eq_false hw,Qjz];exact ih (i+1) U
 exact key l.length 0 U
end Go.Proofs.YtekmbcbgknmhiaaGreatDoor
namespace Go.Proofs.YtekmbcbgknmhiaaGreatDoor
open Go Go.L
theorem Agn{q:Qv}(hl:q.f.2.2.2.2.2.2.length<=1000000000):∃ u,AV q.f.2.2.2.2.2.2 q=some (OF q,u):=by
 unfold AV Cf C7;obtain⟨k,ws,pat,data,low,high,subs⟩:=q;simp only [Qf] at hl ⊢
 have key:∃ r,Go.L.run (Bi subs) (k,ws,pat,data,low,high,subs,0)=some r/\decide (0<=r.1)=OF (.mk k ws pat data low high subs):=by
  have:∀ (d i:Nat),i+d=subs.length->∃ r,Go.L.run (Bi subs) (k,ws,pat,data,low,high,subs,(i:Int))=some r/\decide (0<=r.1)=(subs.drop i).any fun s=>decide (s.f.1=k):=by
   intro d
   induction d with
   | zero=>
    intro i hi;refine⟨(-1,.mk k ws pat data low high subs),AP (m:=some _) ?_,?_⟩
    ·unfold Bi;simp only;rw [if_neg U]
     rfl
    ·rw [Qz5 U]
     rfl
   | succ d ih=>
    intro i hi;have hg:subs.getD i Qq2=subs[i]:=by rw [Qq9,Qzj U];rfl
    rw [Qkf U,Qjq]
    have hb:Bi subs (k,ws,pat,data,low,high,subs,(i:Int))=if subs[i].f.1=k then some (.inr ((i:Int),.mk k ws pat data low high subs)) else some (.inl (k,ws,pat,data,low,high,subs,((i+1:Nat):Int))):=by
     unfold Bi;simp only;rw [if_pos U,Ad ⟨by omega,by omega⟩,Qq8,hg];unfold Jz;simp only [Qq6,Qf]
     by_cases hk:subs[i].f.1=k
     ·simp [hk]
     ·simp only [hk,decide_false,Qxq,if_false];rw [Ad (by constructor <;> omega)]
      rfl
    by_cases hk:subs[i].f.1=k
    ·rw [if_pos hk] at hb;refine⟨_,AP (m:=some _) hb,?_⟩;rw [decide_eq_true hk,Bool.true_or];exact decide_eq_true U
    ·rw [if_neg hk] at hb;rw [Bg hb,decide_eq_false hk,Qjz];exact ih (i+1) U
  exact this subs.length 0 U
 obtain⟨r,a,h2⟩:=key;rw [a,Qq6,h2];exact⟨_,Z⟩
def Frm(q:Qv):Bool:=
 let k:=q.f.1
 let n:=q.f.2.1.length
 let m:=q.f.2.2.2.2.2.2.length
 (if k=1 then decide (n=1) else if k=2 then decide (2<=n/\n<=16) else if k=3 then decide (n=2) else decide (n=0)) &&
 (decide (k=5\/k=6\/k=7)||decide (q.f.2.2.1=[]))&&(decide (k=4\/k=7)||decide (q.f.2.2.2.1=[])) &&
 (decide (k=3\/k=6)||decide (q.f.2.2.2.2.1=0))&&(decide (k=6)||decide (q.f.2.2.2.2.2.1=0)) &&
 (if k=8\/k=9 then decide (2<=m)&&!OF q else if k=10 then decide (m=1) else decide (m=0))
theorem Acl{q:Qv}(hl:q.f.2.2.2.2.2.2.length<=1000000000)(hk:1<=q.f.1/\q.f.1<=10):J7 q=some (Frm q):=by
 obtain⟨u,hc⟩:=Agn hl;unfold J7 Cr;rw [hc];clear hc;unfold Frm;clear hl;generalize OF q=B;generalize q.f.1=k at hk ⊢;generalize q.f.2.1.length=n;have hd:∀ l:List UInt8,l=[]↔l.length=0:=fun l=>List.length_eq_zero_iff.symm;have hd':([]=q.f.2.2.1)↔q.f.2.2.1.length=0:=by rw [eq_comm,hd]
 generalize q.f.2.2.2.2.1=low;generalize q.f.2.2.2.1=data;generalize q.f.2.2.2.2.2.1=high;generalize q.f.2.2.2.2.2.2.length=m;obtain rfl | rfl | rfl | rfl | rfl | rfl | rfl | rfl | rfl | rfl:k=1\/k=2\/k=3\/k=4\/k=5\/k=6\/k=7\/k=8\/k=9\/k=10:=by omega
 all_goals simp only [QxA,if_true,if_false,hd',decide_true,decide_false,Qjx,Bool.or_true,Qjz,Bool.true_or,Bool.not_true,Qka,Qxq,Qq6,Qzd,cond_true,cond_false,or_false,or_true,false_or,true_or,hd,List.nil_eq]
 all_goals (repeat' split)
 all_goals (refine congrArg some (Qxz.2 ?_))
 all_goals clear hd hd'
 all_goals (simp only [Qzb,decide_eq_true_eq,Qz8,Qxq,QkX,Bool.not_eq_true,true_iff,false_iff,iff_true,iff_false,Bool.true_eq_false,Int.natCast_eq_zero,and_true,true_and] at *)
 all_goals first | omega | exact⟨fun h=>⟨by omega,by omega,h⟩,fun h=>h.2.2⟩
theorem Re{q:Qv}(h:Frm q=true):q.f.2.1.length<=16:=by
 unfold Frm at h;simp only [Qzb] at h;have:=h.1.1.1.1.1
 split at this
 ·simp at this;omega
 ·split at this
  ·simp at this;omega
  ·split at this
   ·simp at this;omega
   ·simp at this;simp [this]
def nt(q:Qv):Int:=if(q.f.1=3/\(q.f.2.2.2.2.1<1\/2048<q.f.2.2.2.2.1))\/(q.f.1=6/\q.f.2.2.2.2.2.1<q.f.2.2.2.2.1) then 4 else if q.f.1=4/\q.f.2.2.2.1.length=0 then 10 else if 64<q.f.2.2.2.1.length then 3 else 0
def nf(q:Qv):Int:=if 1<=q.f.1/\q.f.1<=10 then(if Frm q=true then(if ZF q.f.2.1=0 then(if(pf q.f.2.2.1).1=0 then nt q else(pf q.f.2.2.1).1) else ZF q.f.2.1) else 6) else 5
theorem XQ{q:Qv}(hl:q.f.2.2.2.2.2.2.length<=1000000000):H4 q=some (nf q):=by
 unfold H4 nf
 by_cases hk:1<=q.f.1/\q.f.1<=10
 ·rw [if_neg (by simp;omega),if_pos hk,Acl hl hk,Qq6]
  cases hF:Frm q with
  | false=>rfl
  | true=>
   rw [if_neg Qqc,if_pos Z];have hw:=Re hF;unfold II;rw [WU (ws:=q.f.2.1) (b:=Ef q) (m:=FL q) U ?A ?B]
   ·by_cases c:ZF q.f.2.1=0
    ·rw [if_pos c,if_pos c];unfold FL;rw [Rc,Qq6]
     by_cases a:(pf q.f.2.2.1).1=0
     ·rw [if_pos (by rw [AiK a];exact⟨Z,Z⟩),if_pos a];unfold FK nt;clear hl hw hF c a;generalize q.f.1=k at hk ⊢;generalize q.f.2.2.2.1.length=n;generalize q.f.2.2.2.2.1=low;generalize q.f.2.2.2.2.2.1=high;simp only [Qzb,decide_eq_true_eq,Qz8]
      repeat' split
      all_goals first | rfl | (exfalso;omega)
     ·rw [if_neg (fun h=>a h.1),if_neg a]
    ·rw [if_neg c,if_neg c]
   ·intro i hi;unfold Ef;rw [if_pos U,Ad ⟨by omega,by omega⟩,Qq8,NP,Qq6]
    by_cases a:(wf (q.f.2.1.getD i Qq2)).1=0
    ·rw [if_pos (by rw [AiJ a];exact⟨Z,Z⟩),if_pos a,Ad (by constructor <;> omega)]
    ·rw [if_neg (fun h=>a h.1),if_neg a]
     rfl
   ·unfold Ef;rw [if_neg U]
 ·rw [if_pos (by simp;omega),if_neg hk]
theorem XR{q:Qv}(hl:q.f.2.2.2.2.2.2.length<=1000000000):NQ q=some (nf q):=by
 have e:q.f.2.1.length<=16->FD q=some (if ZF q.f.2.1=0 then(if(pf q.f.2.2.1).1=0 then nt q else(pf q.f.2.2.1).1) else ZF q.f.2.1):=fun hw=>by
  unfold FD On;rw [WU (ws:=q.f.2.1) (b:=Js q) (m:=LV q) U ?A ?B]
  ·by_cases d:ZF q.f.2.1=0
   ·rw [if_pos d,if_pos d];unfold LV;rw [Acj,Qq6]
    by_cases c:(pf q.f.2.2.1).1=0
    ·rw [if_pos c,if_pos c];unfold nt;clear hl hw d c;generalize q.f.1=k;generalize q.f.2.2.2.1.length=n;generalize q.f.2.2.2.2.1=low;generalize q.f.2.2.2.2.2.1=high;simp only [Qzb,decide_eq_true_eq,Qz8,QkX,decide_eq_false_iff_not]
     repeat' split
     all_goals first | rfl | (exfalso;omega)
    ·rw [if_neg c,if_neg c]
   ·rw [if_neg d,if_neg d]
  ·intro i hi;unfold Js;rw [if_pos U,Ad ⟨by omega,by omega⟩,Qq8,XK,Qq6]
   by_cases c:(wf (q.f.2.1.getD i Qq2)).1=0
   ·rw [if_pos c,if_pos c,Ad (by constructor <;> omega)]
   ·rw [if_neg c,if_neg c]
    rfl
  ·unfold Js;rw [if_neg U]
 have g:LW q=if OF q=true/\q.f.1<10 then some 6 else FD q:=by
  unfold LW Oo
  by_cases j:q.f.1<10
  ·have:=Aec (k:=q.f.1) hl (b:=HN q) (st:=fun i=>(i:Int)) (m:=FD q) (y:=some 6) (fun i hi=>?_) ?_
   ·unfold OF;simp only [j,and_true];exact this
   ·unfold HN;rw [if_pos (by simp;omega),Ad ⟨by omega,by omega⟩,Qq8,Ad (by constructor <;> omega)]
    rfl
   ·unfold HN;rw [if_neg Qqd]
  ·rw [if_neg (fun h=>j h.2)];refine AP ?_;unfold HN;rw [if_neg (by simp;omega)]
 unfold NQ nf
 by_cases hk:1<=q.f.1/\q.f.1<=10
 ·rw [if_pos hk,if_pos hk,Ad ⟨by omega,by omega⟩,Ad ⟨by omega,by omega⟩,g];have hX:Frm q=true->FD q=_:=fun h=>e (Re h);clear g e hl
  revert hX
  generalize (if ZF q.f.2.1=0 then(if(pf q.f.2.2.1).1=0 then nt q else(pf q.f.2.2.1).1) else ZF q.f.2.1)=r;generalize FD q=X;have hd:∀ l:List UInt8,l=[]↔l.length=0:=fun l=>List.length_eq_zero_iff.symm;unfold Frm
  have hB:OF q=true->0<q.f.2.2.2.2.2.2.length:=fun h=>by
   unfold OF at h
   cases hs:q.f.2.2.2.2.2.2 with
   | nil=>rw [hs] at h;cases h
   | cons a l=>simp
  revert hB
  generalize OF q=B;generalize q.f.1=k at hk ⊢;generalize q.f.2.1.length=n;simp only [hd];generalize q.f.2.2.1.length=pn;generalize q.f.2.2.2.2.1=low;generalize q.f.2.2.2.1.length=dn;generalize q.f.2.2.2.2.2.1=high;generalize q.f.2.2.2.2.2.2.length=m;intro hB hX;obtain rfl | rfl | rfl | rfl | rfl | rfl | rfl | rfl | rfl | rfl:k=1\/k=2\/k=3\/k=4\/k=5\/k=6\/k=7\/k=8\/k=9\/k=10:=by omega
  all_goals (cases B <;> simp at hX hB ⊢ <;> (repeat' split) <;> first | rfl | (exfalso;omega) | (intros;exfalso;omega) | (rw [hX] <;> omega))
 ·rw [if_neg hk,if_neg hk]
end Go.Proofs.YtekmbcbgknmhiaaGreatDoor
end
noncomputable section
namespace Go.Proofs.YtekmbcbgknmhiaaGreatDoor
open Go Go.L
def Sq(q:Qv):Prop:=∀ d,Smq 1048576 d q
theorem Sq.open{q:Qv}(h:Sq q):q.f.2.1.length<=1048576/\q.f.2.2.1.length<=1048576/\q.f.2.2.2.1.length<=1048576/\q.f.2.2.2.2.2.2.length<=1048576/\(∀ x∈q.f.2.1,x.length<=1048576)/\Bz q.f.2.2.2.2.1/\Bz q.f.2.2.2.2.2.1:=
 ⟨(h 1).1,(h 1).2.1,(h 1).2.2.1,(h 1).2.2.2.1,(h 1).2.2.2.2.1,(h 1).2.2.2.2.2.1,(h 1).2.2.2.2.2.2.1⟩
theorem Sq.sub{q:Qv}(h:Sq q){p:Qv}(hp:p∈q.f.2.2.2.2.2.2):Sq p:=fun d=>(h (d+1)).2.2.2.2.2.2.2 p hp
theorem Sq.len{q:Qv}(h:Sq q):q.f.2.2.2.2.2.2.length<=1000000000:=by have:=h.open.2.2.2.1;omega
def cks(f:Qv->Int->Int->Int×(Int×Int))(lev:Int):List Qv->Int->Int×(Int×Int)
 | [],num=>(num,(0,0))
 | s::l,num=>if(f s num lev).2.1=0 then cks f lev l (f s num lev).1 else(0,(f s num lev).2)
def ck:Nat->Qv->Int->Int->Int×(Int×Int)
 | 0,_,_,_=>(0,(0,0))
 | n+1,q,num,lev=>if 40<=num\/8<lev then(0,(2,num)) else if nf q=0 then cks (ck n) (lev+1) q.f.2.2.2.2.2.2 (num+1) else(0,(nf q,num))
def CkP(r:Int×(Int×Int)):Prop:=0<=r.1/\(r.2.1=0->r.2=(0,0))
theorem Ahq{f:Qv->Int->Int->Int×(Int×Int)}{lev:Int}:∀ (l:List Qv) (num:Int),0<=num->(∀ s∈l,∀ num,0<=num->CkP (f s num lev))->CkP (cks f lev l num)
 | [],num,h,_=>⟨h,fun _=>Z⟩
 | s::l,num,h,hf=>by
  have a:=hf s (Qz0 ..) num h;unfold cks
  split
  ·exact Ahq l _ a.1 (fun s hs=>hf s (QzC _ hs))
  ·exact⟨Int.le_refl _,fun e=>absurd e (by assumption)⟩
theorem Abp{l:List Qv}(hl:l.length<=1000000000){f:Qv->Int->Int->Int×(Int×Int)}{lev:Int}{b:Int×Int->Option ((Int×Int) ⊕ (Int×(Int×Int)))}
  (hp:∀ s∈l,∀ num,0<=num->CkP (f s num lev))
  (a:∀ (i:Nat) (num:Int),0<=num->i<l.length->b (num,(i:Int))=if(f (l.getD i Qq2) num lev).2.1=0 then some (.inl ((f (l.getD i Qq2) num lev).1,(i:Int)+1)) else some (.inr (0,(f (l.getD i Qq2) num lev).2)))
  (h2:∀ num,b (num,(l.length:Int))=some (.inr (num,(0,0)))) (num:Int) (hn:0<=num):Go.L.run b (num,0)=some (cks f lev l num):=by
 have key:∀ (d i:Nat) (num:Int),0<=num->i+d=l.length->Go.L.run b (num,(i:Int))=some (cks f lev (l.drop i) num):=by
  intro d
  induction d with
  | zero=>
   intro i num hn hi;rw [Qz5 U,show i=l.length by omega];exact AP (m:=some _) (h2 num)
  | succ d ih=>
   intro i num hn hi;have hb:=a i num hn U;have hg:l.getD i Qq2=l[i]:=by rw [Qq9,Qzj U];rfl
   rw [hg] at hb;rw [Qkf U,cks]
   by_cases hw:(f l[i] num lev).2.1=0
   ·rw [if_pos hw] at hb ⊢;rw [Bg hb];exact ih (i+1) _ (hp _ (Qz9 _) num hn).1 U
   ·rw [if_neg hw] at hb ⊢;exact AP (m:=some _) hb
 exact key l.length 0 num hn U
theorem V4{l:List Qv}{i:Nat}(h:i<l.length):l.getD i Qq2∈l:=by
 rw [Qq9,Qzj h];exact Qz9 _
theorem Ahr:∀ (n:Nat) (q:Qv) (num lev:Int),Sq q->0<=num->1<=lev->lev<=9->10<=lev+n->
  Fy n q num lev=some (ck n q num lev)/\Kv n q num lev=some (ck n q num lev)/\CkP (ck n q num lev)
 | 0,q,num,lev,_,_,_,a,h2=>by omega
 | n+1,q,num,lev,hq,hn,g,j,k=>by
  show Fx (Fy n) q num lev=_/\K3 (Kv n) q num lev=_/\_
  unfold Fx K3 ck
  by_cases b:40<=num\/8<lev
  ·rw [if_pos b,if_pos b,if_pos b];exact⟨Z,Z,by show(0:Int)<=0;omega,fun e=>by cases e⟩
  ·rw [if_neg b,if_neg b,if_neg b,XQ hq.len,XR hq.len,Qq6,Qq6]
   by_cases a:nf q=0
   ·rw [if_pos a,if_pos a,if_pos a,Ad (by constructor <;> omega),Ad (by constructor <;> omega)]
    have ih:∀ s∈q.f.2.2.2.2.2.2,∀ num,0<=num->Fy n s num (lev+1)=some (ck n s num (lev+1))/\Kv n s num (lev+1)=some (ck n s num (lev+1))/\CkP (ck n s num (lev+1)):=
     fun s hs num hn=>Ahr n s num (lev+1) (hq.sub hs) hn U U U
    have hp:∀ s∈q.f.2.2.2.2.2.2,∀ num,0<=num->CkP (ck n s num (lev+1)):=fun s hs num hn=>(ih s hs num hn).2.2;refine⟨?_,?_,Ahq _ _ U hp⟩
    ·refine Abp hq.len hp (fun i num hn hi=>?_) (fun num=>?_) _ U
     ·unfold E3;simp only;obtain⟨c,_,d⟩:=ih _ (V4 hi) num hn;rw [if_pos U,Ad ⟨by omega,by omega⟩,Qq8,Ad (by constructor <;> omega),c,Qq6]
      by_cases h2:(ck n (q.f.2.2.2.2.2.2.getD i Qq2) num (lev+1)).2.1=0
      ·rw [if_pos (by rw [d.2 h2];exact⟨Z,Z⟩),if_pos h2,Ad (by have:=hq.len;constructor <;> omega)]
      ·rw [if_neg (fun h=>h2 h.1),if_neg h2]
       rfl
     ·unfold E3;simp only;rw [if_neg U]
      rfl
    ·refine Abp hq.len hp (fun i num hn hi=>?_) (fun num=>?_) _ U
     ·unfold Jb;simp only;obtain⟨_,c,d⟩:=ih _ (V4 hi) num hn;rw [if_pos U,Ad ⟨by omega,by omega⟩,Qq8,Ad (by constructor <;> omega),c,Qq6]
      by_cases h2:(ck n (q.f.2.2.2.2.2.2.getD i Qq2) num (lev+1)).2.1=0
      ·rw [if_pos h2,if_pos h2,Ad (by have:=hq.len;constructor <;> omega)]
      ·rw [if_neg h2,if_neg h2]
       rfl
     ·unfold Jb;simp only;rw [if_neg U]
      rfl
   ·rw [if_neg a,if_neg a,if_neg a];exact⟨Z,Z,by show(0:Int)<=0;omega,fun e=>absurd e a⟩
def Vq:Nat->Qv->Prop
 | 0,_=>False
 | n+1,q=>nf q=0/\∀ s∈q.f.2.2.2.2.2.2,Vq n s
def nq:Nat->Qv->Nat
 | 0,_=>0
 | n+1,q=>1+(q.f.2.2.2.2.2.2.map (nq n)).sum
theorem Aee{f:Qv->Int->Int->Int×(Int×Int)}{lev:Int}{g:Qv->Nat}{V:Qv->Prop}:∀ (l:List Qv) (num:Int),(∀ s∈l,∀ num,(f s num lev).2.1=0->(f s num lev).1=num+g s/\(f s num lev).1<=40/\V s)->num<=40->(cks f lev l num).2.1=0->
  (cks f lev l num).1=num+(l.map g).sum/\(cks f lev l num).1<=40/\∀ s∈l,V s
 | [],num,_,h,_=>⟨by simp [cks],h,by simp⟩
 | s::l,num,hf,h,he=>by
  unfold cks at he ⊢;have hs:=hf s (Qz0 ..) num
  split at he
  ·rename_i a;rw [if_pos a];obtain⟨b,c,d⟩:=hs a;obtain⟨e,i,j⟩:=Aee l _ (fun s hs=>hf s (QzC _ hs)) c he;refine⟨by rw [e,b];simp;omega,i,fun x hx=>?_⟩
   rcases Qzy.1 hx with rfl | hx
   ·exact d
   ·exact j x hx
  ·rename_i a;exact absurd he a
theorem Ahs:∀ (n:Nat) (q:Qv) (num lev:Int),10<=lev+n->lev<=9->∀ m:Nat,lev+m=9->(ck n q num lev).2.1=0->(ck n q num lev).1=num+nq m q/\(ck n q num lev).1<=40/\Vq m q
 | 0,q,num,lev,h,h',_,_=>by omega
 | n+1,q,num,lev,h,h',m,hm=>by
  unfold ck
  by_cases b:40<=num\/8<lev
  ·rw [if_pos b];intro e
   cases e
  ·rw [if_neg b]
   by_cases a:nf q=0
   ·rw [if_pos a];intro he;obtain⟨m,rfl⟩:∃ k,m=k+1:=⟨m - 1,by omega⟩;obtain⟨c,d,f⟩:=Aee (g:=nq m) (V:=Vq m) _ (num+1) (fun s hs num he=>Ahs n s num (lev+1) U U m U he) U he;exact⟨by rw [c];unfold nq;omega,d,a,f⟩
   ·rw [if_neg a];intro e;exact absurd e a
end Go.Proofs.YtekmbcbgknmhiaaGreatDoor
end
noncomputable section
namespace Go.L
open Go
def hxd(n:Nat):UInt8:=([48,49,50,51,52,53,54,55,56,57,97,98,99,100,101,102]:List UInt8).getD n 0
def qub(c:UInt8):List UInt8:=if(32<=c.toNat/\c.toNat<=126)/\c.toNat≠39/\c.toNat≠92 then[c] else[92,hxd (c.toNat / 16),hxd (c.toNat % 16)]
def quo(l:List UInt8):List UInt8:=39::l.flatMap qub++[39]
theorem XS(c:UInt8):1<=(qub c).length/\(qub c).length<=3:=by
 unfold qub
 split <;> simp
theorem V5:∀ l:List UInt8,(l.flatMap qub).length<=3 * l.length
 | []=>by simp
 | c::l=>by
  have a:=V5 l;have h2:=(XS c).2;rw [Qxd,Qzu,Qzw];omega
end Go.L
namespace Go.Proofs.YtekmbcbgknmhiaaGreatDoor
open Go Go.L
theorem TN{n:Nat}(h:n<16):KE (n:Int)=some (hxd n):=by
 have:∀ k:Fin 16,KE ((k.val:Nat):Int)=some (hxd k.val):=by
  intro k;unfold KE
  split
  ·rw [Ad (by have:=k.isLt;constructor <;> omega)]
   revert k
   decide
  ·rw [Ad (by have:=k.isLt;constructor <;> omega),Ad (by have:=k.isLt;constructor <;> omega)]
   revert k
   decide
 exact this ⟨n,h⟩
theorem WV{l:List UInt8}(hl:l.length<=1000000000):Oq l=some (quo l):=by
 unfold Oq QD
 have key:∀ (d i:Nat) (o:List UInt8),o.length<=3 * i+1->i+d=l.length->Go.L.run (J3 l) (o,(i:Int))=some (o++(l.drop i).flatMap qub++[39]):=by
  intro d
  induction d with
  | zero=>
   intro i o ho hi;rw [Qz5 U];refine AP (m:=some _) ?_;unfold J3 QC;simp only;rw [if_neg U,Ad (by constructor <;> simp <;> omega)];simp
  | succ d ih=>
   intro i o ho hi;have hg:l.getD i Qq2=l[i]:=by rw [Qq9,Qzj U];rfl
   have hb:J3 l (o,(i:Int))=some (.inl (o++qub l[i],((i+1:Nat):Int))):=by
    have a:∀ b:Bool,(b=true↔((32<=l[i].toNat/\l[i].toNat<=126)/\l[i].toNat≠39/\l[i].toNat≠92))->Kf l o (i:Int) b=some (.inl (o++qub l[i],((i+1:Nat):Int))):=fun b hb=>by
     have hc:l[i].toNat<256:=Qx1 _;unfold Kf qub;rw [Qq8,hg]
     by_cases h:b=true
     ·rw [if_pos h,if_pos (hb.1 h),Ad ⟨by omega,by omega⟩,Ad (by constructor <;> simp <;> omega),Ad (by constructor <;> omega)]
      rfl
     ·rw [if_neg h,if_neg (fun e=>h (hb.2 e)),Ad ⟨by omega,by omega⟩,Ad ⟨by omega,by omega,by omega⟩];rw [show((l[i].toNat:Nat):Int) / 16=((l[i].toNat / 16:Nat):Int) by omega,TN U,Qq6,Ad ⟨by omega,by omega⟩,Ad ⟨by omega,by omega,by omega⟩];rw [show((l[i].toNat:Nat):Int) % 16=((l[i].toNat % 16:Nat):Int) by omega,TN U,Qq6,Ad (by constructor <;> simp <;> omega),Ad (by constructor <;> omega)]
      rfl
    unfold J3;simp only;rw [if_pos U,Ad ⟨by omega,by omega⟩,Ad ⟨by omega,by omega⟩,Ad ⟨by omega,by omega⟩,Qq8,hg]
    by_cases c:(32:Int)<=(l[i].toNat:Int)/\(l[i].toNat:Int)<=126
    ·rw [if_pos c]
     by_cases h2:(l[i].toNat:Int)=39
     ·rw [if_pos h2,a false (by simp;omega)]
     ·rw [if_neg h2,a _ (by simp;omega)]
    ·rw [if_neg c,a false (by simp;omega)]
   have:=(XS l[i]).2;rw [Bg hb,ih (i+1) _ (by rw [Qzu];omega) U,Qkf (by omega:i<l.length),Qxd];simp
 exact key l.length 0 [39] Qqd U
theorem WW{l:List UInt8}(hl:l.length<=1000000000):IC l=some (quo l):=by
 unfold IC Kq
 have key:∀ (d i:Nat) (o:List UInt8),o.length<=3 * i+1->i+d=l.length->Go.L.run (E0 l) (o,(i:Int))=some (o++(l.drop i).flatMap qub++[39]):=by
  intro d
  induction d with
  | zero=>
   intro i o ho hi;rw [Qz5 U];refine AP (m:=some _) ?_;unfold E0 IX;simp only;rw [if_neg U,Ad (by constructor <;> simp <;> omega)];simp
  | succ d ih=>
   intro i o ho hi;have hg:l.getD i Qq2=l[i]:=by rw [Qq9,Qzj U];rfl
   have hb:E0 l (o,(i:Int))=some (.inl (o++qub l[i],((i+1:Nat):Int))):=by
    have hc:l[i].toNat<256:=Qx1 _
    have b:(l[i] >>> (4:UInt8)).toNat=l[i].toNat / 16:=by
     have:∀ n:Fin 256,(QzE n.val >>> (4:UInt8)).toNat=n.val / 16:=by decide +kernel
     have h:=this ⟨l[i].toNat,hc⟩
     rwa [Qk8] at h
    have c:(l[i] &&& (15:UInt8)).toNat=l[i].toNat % 16:=by
     have:∀ n:Fin 256,(QzE n.val &&& (15:UInt8)).toNat=n.val % 16:=by decide +kernel
     have h:=this ⟨l[i].toNat,hc⟩
     rwa [Qk8] at h
    unfold E0 qub;simp only;rw [if_pos U,Ad ⟨by omega,by omega⟩,Qq8,hg,b,c]
    by_cases a:(32<=l[i].toNat/\l[i].toNat<=126)/\l[i].toNat≠39/\l[i].toNat≠92
    ·rw [if_neg U,if_pos a,Ad (by constructor <;> simp <;> omega),Ad (by constructor <;> omega)]
     rfl
    ·rw [if_pos U,if_neg a,Ad ⟨by omega,by simp;omega⟩,Ad ⟨by omega,by simp;omega⟩,Ad (by constructor <;> simp <;> omega),Ad (by constructor <;> omega)]
     rfl
   have:=(XS l[i]).2;rw [Bg hb,ih (i+1) _ (by rw [Qzu];omega) U,Qkf (by omega:i<l.length),Qxd];simp
 exact key l.length 0 [39] Qqd U
end Go.Proofs.YtekmbcbgknmhiaaGreatDoor
namespace Go.Proofs.YtekmbcbgknmhiaaGreatDoor
open Go Go.L
theorem RR{n:Int}(hn:Bz n):LX n=some (Lib.itoa n):=by
 unfold LX
 by_cases a:n=0
 ·subst a;rw [if_pos Z];exact congrArg some (by rw [Lib.itoa,if_neg U,Lib.decDigits,dif_pos Qqc];rfl)
 rw [if_neg a];unfold PS
 have fin:∀ l:List UInt8,l.length<=30->Go.L.run (H5 n) (l,0)=some ((if n<0 then[45] else[])++l):=fun l hl=>by
  refine AP (m:=some _) ?_;unfold H5 PR;simp only;rw [if_pos trivial]
  by_cases hn:n<0
  ·rw [if_pos hn,if_pos hn,Ad (by constructor <;> simp <;> omega)]
  ·rw [if_neg hn,if_neg hn]
   rfl
 have key:∀ (k:Nat) (s:Int) (l:List UInt8),s.natAbs<10 ^ k->l.length+k<=30->Bz s->(s=0->l≠[])->Go.L.run (H5 n) (l,s)=some ((if n<0 then[45] else[])++((if s=0 then[] else Lib.decDigits s.natAbs)++l)):=by
  intro k
  induction k with
  | zero=>
   intro s l hs hl hi _;obtain rfl:s=0:=by omega
   rw [fin l U,if_pos Z]
   rfl
  | succ k ih=>
   intro s l hs hl hi _
   by_cases hz:s=0
   ·subst hz;rw [fin l U,if_pos Z]
    rfl
   ·have hb:H5 n (l,s)=some (.inl ([QzE (48+s.natAbs % 10)]++l,Int.tdiv s 10)):=by
     have b:∀ d:Int,d=((s.natAbs % 10:Nat):Int)->KW l s d=some (.inl ([QzE (48+s.natAbs % 10)]++l,Int.tdiv s 10)):=fun d hd=>by
      unfold KW;rw [Ad (by constructor <;> omega),Ad (by constructor <;> simp <;> omega),Ad ⟨hi.1,hi.2,by decide⟩]
      have:u8 (48+d)=QzE (48+s.natAbs % 10):=by
       unfold u8
       congr 1
       omega
      rw [this]
     unfold H5;simp only;rw [if_neg hz,Ad ⟨hi.1,hi.2,by decide⟩]
     have hm:Int.tmod s 10=if 0<=s then((s.natAbs % 10:Nat):Int) else -((s.natAbs % 10:Nat):Int):=by
      split
      ·rw [Int.tmod_eq_emod_of_nonneg (by assumption)];omega
      ·rw [show s = -(-s) by omega,Int.neg_tmod,Int.tmod_eq_emod_of_nonneg U];omega
     rw [hm]
     split
     ·split
      ·omega
      ·exact b _ Z
     ·split
      ·rw [Ad (by constructor <;> omega)];exact b _ U
      ·exact b _ U
    have hd:(Int.tdiv s 10).natAbs=s.natAbs / 10:=by rw [Int.natAbs_tdiv];rfl
    have hp:10 ^ (k+1)=10 * 10 ^ k:=by rw [Nat.pow_succ,Nat.mul_comm]
    have e:=hi;rw [Bg hb,ih _ _ (by rw [hd];omega) (by simp;omega) (by constructor <;> omega) Qqd,if_neg hz]
    congr 2
    have hdd:Lib.decDigits s.natAbs=if h:s.natAbs<10 then[QzE (48+s.natAbs)] else Lib.decDigits (s.natAbs / 10)++[QzE (48+s.natAbs % 10)]:=by rw [Lib.decDigits]
    rw [hdd]
    by_cases c:s.natAbs<10
    ·rw [dif_pos c,if_pos U,Nat.mod_eq_of_lt c]
     rfl
    ·rw [dif_neg c,if_neg U,hd];simp
 rw [key 19 n [] (by have:=hn.1;have:=hn.2;omega) Qqd hn (fun h=>absurd h a),if_neg a,QzZ];unfold Lib.itoa
 split
 ·rfl
 ·rw [show n.natAbs=n.toNat by omega];rfl
theorem S7{n:Int}(hn:Bz n):(Lib.itoa n).length<=30:=by
 have key:∀ (k u:Nat),u<10 ^ (k+1)->(Lib.decDigits u).length<=k+1:=by
  intro k
  induction k with
  | zero=>intro u h;rw [Lib.decDigits,dif_pos (by simpa using h)];simp
  | succ k ih=>
   intro u h;rw [Lib.decDigits]
   split
   ·simp
   ·have:10 ^ (k+1+1)=10 * 10 ^ (k+1):=by rw [Nat.pow_succ,Nat.mul_comm]
    have:=ih (u / 10) U;simp;omega
 unfold Lib.itoa;have a:=hn.1;have h2:=hn.2
 split
 ·have:=key 18 n.natAbs U;simp;omega
 ·have:=key 18 n.toNat U;omega
end Go.Proofs.YtekmbcbgknmhiaaGreatDoor
end
noncomputable section
namespace Go.L
open Go
def par(f:Qv->List UInt8)(ks:List Int)(s:Qv):List UInt8:=if s.f.1∈ks then([40]++f s)++[41] else f s
def tb(f:Qv->List UInt8)(q:Qv):List UInt8:=
 if q.f.1=1 then q.f.2.1.getD 0 Qq2 else if q.f.1=2 then([34]++Lib.join q.f.2.1 [32])++[34]
 else if q.f.1=3 then(((q.f.2.1.getD 0 Qq2++[126])++Lib.itoa q.f.2.2.2.2.1)++[126])++q.f.2.1.getD 1 Qq2
 else if q.f.1=4 then quo q.f.2.2.2.1 else if q.f.1=5 then[47]++q.f.2.2.1
 else if q.f.1=6 then(((([47]++q.f.2.2.1)++[61])++Lib.itoa q.f.2.2.2.2.1)++[46,46])++Lib.itoa q.f.2.2.2.2.2.1
 else if q.f.1=7 then(([47]++q.f.2.2.1)++[61])++quo q.f.2.2.2.1
 else if q.f.1=8 then Lib.join (q.f.2.2.2.2.2.2.map (par f [9])) [38] else if q.f.1=9 then Lib.join (q.f.2.2.2.2.2.2.map (par f [])) [124]
 else[33]++Lib.join (q.f.2.2.2.2.2.2.map (par f [8,9])) []
def tx:Nat->Qv->List UInt8
 | 0,_=>[]
 | n+1,q=>tb (tx n) q
theorem Abq(sep:List UInt8)(x:List UInt8)(r:List (List UInt8)):Lib.joinTail sep (x::r)=sep++x++Lib.joinTail sep r:=by
 simp [Lib.joinTail]
theorem WX(x:List UInt8)(r:List (List UInt8)):Lib.lens (x::r)=x.length+Lib.lens r:=by simp [Lib.lens]
theorem join_le(l:List (List UInt8))(sep:List UInt8):(Lib.join l sep).length<=sep.length * l.length+Lib.lens l:=by
 cases l with
 | nil=>simp [Lib.join_nil]
 | cons x r=>
  rw [Lib.join_length];have:=Nat.mul_le_mul_left sep.length (Nat.le_succ r.length);simp only [Qzw,Nat.succ_eq_add_one] at this ⊢;omega
theorem Ago(f:Qv->List UInt8)(ks:List Int)(s:Qv):(par f ks s).length<=(f s).length+2:=by
 unfold par
 split <;> simp
end Go.L
namespace Go.Proofs.YtekmbcbgknmhiaaGreatDoor
open Go Go.L
theorem Aef:∀ {ws:List (List UInt8)},ZF ws=0->∀ w∈ws,wf w=(0,0)
 | [],_=>by simp
 | w::l,h=>by
  unfold ZF at h
  split at h
  ·rename_i a;intro x hx
   rcases Qzy.1 hx with rfl | hx
   ·exact AiJ a
   ·exact Aef h x hx
  ·rename_i a;exact absurd h a
theorem Aeg{w:List UInt8}(h:wf w=(0,0)):w.length<=64:=by
 unfold wf at h
 split at h
 ·cases h
 ·omega
theorem Aeh{w:List UInt8}(h:pf w=(0,0)):w.length<=64:=by
 unfold pf at h
 split at h
 ·cases h
 ·omega
theorem S8{q:Qv}(h:nf q=0):(1<=q.f.1/\q.f.1<=10)/\Frm q=true/\(∀ w∈q.f.2.1,wf w=(0,0))/\pf q.f.2.2.1=(0,0)/\nt q=0:=by
 unfold nf at h
 split at h
 ·rename_i b
  split at h
  ·rename_i h2
   split at h
   ·rename_i h3
    split at h
    ·rename_i a;exact⟨b,h2,Aef h3,AiK a,h⟩
    ·rename_i a;exact absurd h a
   ·rename_i h3;exact absurd h h3
  ·cases h
 ·cases h
theorem XT{q:Qv}(h:nt q=0):q.f.2.2.2.1.length<=64:=by
 unfold nt at h
 split at h
 ·cases h
 ·split at h
  ·cases h
  ·split at h
   ·cases h
   ·omega
theorem QE{q:Qv}(h:Frm q=true):(q.f.1=1->q.f.2.1.length=1)/\(q.f.1=2->2<=q.f.2.1.length)/\(q.f.1=3->q.f.2.1.length=2)/\(q.f.1=10->q.f.2.2.2.2.2.2.length=1)/\(q.f.1=8\/q.f.1=9->2<=q.f.2.2.2.2.2.2.length):=by
 unfold Frm at h;simp only [Qzb] at h;obtain⟨⟨⟨⟨⟨a,_⟩,_⟩,_⟩,_⟩,b⟩:=h;refine⟨fun e=>?_,fun e=>?_,fun e=>?_,fun e=>?_,fun e=>?_⟩
 ·rw [e] at a;simpa using a
 ·rw [e] at a;simp at a;omega
 ·rw [e] at a;simpa using a
 ·rw [e] at b;simpa using b
 ·rw [if_pos e] at b;simp at b;exact b.1
theorem XU{l:List Qv}{g:Qv->Nat}{f:Qv->List UInt8}(h:∀ s∈l,(f s).length+1<=3000 * g s):Lib.lens (l.map f)+l.length<=3000 * (l.map g).sum:=by
 induction l with
 | nil=>simp [Lib.lens]
 | cons a l ih=>
  have b:=h a (Qz0 ..);have:=ih fun s hs=>h s (QzC _ hs);simp only [Qzw,Qze,List.sum_cons,WX];omega
theorem Aei{l:List (List UInt8)}(h:∀ w∈l,w.length<=64):Lib.lens l<=64 * l.length:=by
 induction l with
 | nil=>simp [Lib.lens]
 | cons a l ih=>
  have b:=h a (Qz0 ..);have:=ih fun s hs=>h s (QzC _ hs);simp only [Qzw,WX];omega
theorem Tq{l:List (List UInt8)}(h:∀ w∈l,w.length<=64)(i:Nat):(l.getD i Qq2).length<=64:=by
 rw [Qq9]
 cases e:l[i]? with
 | none=>decide
 | some w=>exact h w (List.mem_of_getElem? e)
theorem Aak:∀ (d:Nat) (q:Qv),Sq q->Vq d q->(tx d q).length+3<=3000 * nq d q
 | 0,_,_,h=>h.elim
 | d+1,q,hq,hv=>by
  obtain⟨hk,hF,hw,hp,ht⟩:=S8 hv.1;have hw':∀ w∈q.f.2.1,w.length<=64:=fun w h=>Aeg (hw w h);have hd:=XT ht;have hp:=Aeh hp;have hwn:=Re hF
  have hs:∀ ks,∀ s∈q.f.2.2.2.2.2.2,(par (tx d) ks s).length+1<=3000 * nq d s:=fun ks s hs=>by
   have l:=Aak d s (hq.sub hs) (hv.2 s hs);have h2:=Ago (tx d) ks s;omega
  have e:=S7 hq.open.2.2.2.2.2.1;have g:=S7 hq.open.2.2.2.2.2.2
  have hqu:(quo q.f.2.2.2.1).length<=3 * q.f.2.2.2.1.length+2:=by
   have:=V5 q.f.2.2.2.1;simp [quo]
   simpa using this
  have i:=Tq hw' 0;have j:=Tq hw' 1;have hwl:=Aei hw';unfold tx tb nq;have b:=join_le (q.f.2.2.2.2.2.2.map (par (tx d) [9])) [38];have c:=join_le (q.f.2.2.2.2.2.2.map (par (tx d) [])) [124];have a:=join_le (q.f.2.2.2.2.2.2.map (par (tx d) [8,9])) [];have m:=XU (hs [9]);have n:=XU (hs []);have k:=XU (hs [8,9]);have j2:=join_le q.f.2.1 [32];simp only [Qzk,Qzw,Qzd] at b c a j2
  repeat' split
  all_goals first | omega | (simp only [Qzu,Qzw,Qzd];omega)
end Go.Proofs.YtekmbcbgknmhiaaGreatDoor
end
noncomputable section
namespace Go.Proofs.YtekmbcbgknmhiaaGreatDoor
open Go Go.L
theorem AhX{l:List Int}(hl:l.length<=1000)(a:Int):BC l a=some (decide (a∈l)):=by
 have key:∀ (d i:Nat),i+d=l.length->∃ r,Go.L.run (Bc l a) (i:Int)=some r/\(0<=r↔a∈l.drop i):=by
  intro d
  induction d with
  | zero=>
   intro i hi;refine⟨-1,AP (m:=some (-1)) ?_,by rw [Qz5 U];simp⟩;unfold Bc Da;rw [if_neg U]
  | succ d ih=>
   intro i hi;have hil:i<l.length:=by omega
   rw [drop_cons hil]
   have hb:Bc l a (i:Int)=if a=l.getD i Qq2 then some (.inr (i:Int)) else some (.inl ((i+1:Nat):Int)):=by
    unfold Bc;rw [if_pos U,Ad U,Qq8,Ad (by constructor <;> omega)]
    rfl
   by_cases h:a=l.getD i Qq2
   ·rw [if_pos h] at hb;exact⟨_,AP (m:=some (i:Int)) hb,by rw [h];simp⟩
   ·rw [if_neg h] at hb;obtain⟨r,b,h2⟩:=ih (i+1) U;refine⟨r,by rw [Bg hb,b],h2.trans ?_⟩;rw [Qzy];exact⟨.inr,fun hh=>hh.resolve_left h⟩
 unfold BC DW DK;obtain⟨r,b,h2⟩:=key l.length 0 U;rw [show((0:Nat):Int)=0 from Z] at b;rw [b,Qq6]
 congr 1
 simpa using h2
theorem Aej{l:List Qv}(hl:l.length<=2000000){f:Qv->Option (List UInt8)}{f2:List Qv->List UInt8->List Int->Option (List UInt8)}{g:Qv->List UInt8}{sep:List UInt8}{ks:List Int}(hk:ks.length<=1000)
  (hf:∀ s∈l,f s=some (g s)) (hg:∀ s∈l,(g s).length<=1000000) (hj:(Lib.join (l.map (par g ks)) sep).length<=1000000):Fz f f2 l sep ks=some (Lib.join (l.map (par g ks)) sep):=by
 unfold Fz Iz
 have key:∀ (d i:Nat) (o:List (List UInt8)),o.length=i->i+d=l.length->Go.L.run (CW l sep ks f) (o,(i:Int))=Sr (o++(l.drop i).map (par g ks)) sep:=by
  intro d
  induction d with
  | zero=>
   intro i o ho hi;rw [Qz5 U];refine AP ?_;unfold CW GD;simp only;rw [if_neg U];simp
  | succ d ih=>
   intro i o ho hi;have hil:i<l.length:=by omega
   have hm:=V4 hil;have hgl:=hg _ hm
   have hb:CW l sep ks f (o,(i:Int))=some (.inl (o++[par g ks (l.getD i Qq2)],((i+1:Nat):Int))):=by
    unfold CW EX par;simp only;rw [if_pos U,Ad ⟨by omega,by omega⟩,Qq8,hf _ hm,Qq6,AhX hk,Qq6]
    by_cases h:(l.getD i Qq2).f.1∈ks
    ·rw [decide_eq_true h,if_pos Z,if_pos h,Ad (by simp [-Qq9];omega),Ad (by simp [-Qq9];omega),Ad (by constructor <;> simp [-Qq9] <;> omega),Ad (by constructor <;> omega)]
     rfl
    ·rw [decide_eq_false h,if_neg Qqc,if_neg h,Ad (by constructor <;> simp [-Qq9] <;> omega),Ad (by constructor <;> omega)]
     rfl
   rw [Bg hb,ih (i+1) _ (by simp [ho]) U,drop_cons hil];simp
 have:=key l.length 0 [] Z U;rw [show((0:Nat):Int)=0 from Z] at this;rw [this];unfold Sr;rw [Qxv,QxE,Ad ⟨by rw [Qzk];omega,by omega⟩]
theorem Aal{l:List Qv}(hl:l.length<=2000000){f:Qv->Option (List UInt8)}{f2:List Qv->List UInt8->Int->Int->Option (List UInt8)}{g:Qv->List UInt8}{sep:List UInt8}{ks:List Int}{c j:Int}(hk:∀ s∈l,(s.f.1=c\/s.f.1=j)↔s.f.1∈ks)
  (hf:∀ s∈l,f s=some (g s)) (hg:∀ s∈l,(g s).length<=1000000) (hsep:sep.length<=10) (hj:(Lib.join (l.map (par g ks)) sep).length<=1000000):Mb f f2 l sep c j=some (Lib.join (l.map (par g ks)) sep):=by
 unfold Mb MX
 have k:∀ (i:Nat) (o:List UInt8),i<l.length->o.length<=10000000->I3 l c j (i:Int) f o=some (.inl (o++par g ks (l.getD i Qq2),((i+1:Nat):Int))):=fun i o hil ho=>by
  have hm:=V4 hil;have hgl:=hg _ hm
  have n:∀ b:Bool,(b=true↔(l.getD i Qq2).f.1∈ks)->I2 l (i:Int) o f b=some (.inl (o++par g ks (l.getD i Qq2),((i+1:Nat):Int))):=fun b hb=>by
   unfold I2 par;rw [Qq8,hf _ hm]
   by_cases h:b=true
   ·rw [if_pos h,if_pos (hb.1 h),Ad (by simp [-Qq9];omega),Ad ⟨by omega,by omega⟩,Qq6,Ad (by simp [-Qq9];omega),Ad (by simp [-Qq9];omega),Ad (by constructor <;> omega)];simp
   ·rw [if_neg h,if_neg (fun e=>h (hb.2 e)),Ad ⟨by omega,by omega⟩,Qq6,Ad U,Ad (by constructor <;> omega)]
    rfl
  unfold I3;rw [Ad ⟨by omega,by omega⟩,Ad ⟨by omega,by omega⟩,Qq8]
  by_cases h:(l.getD i Qq2).f.1=c
  ·rw [if_pos h,n true (by simpa using (hk _ hm).1 (.inl h))]
  ·rw [if_neg h,n _ (by rw [decide_eq_true_eq,<- hk _ hm];exact⟨.inr,fun e=>e.resolve_left h⟩)]
 have key:∀ (d i:Nat) (o:List UInt8),1<=i->i+d=l.length->o.length+(Lib.joinTail sep ((l.drop i).map (par g ks))).length<=1000000->Go.L.run (CX l sep c j f) (o,(i:Int))=some (o++Lib.joinTail sep ((l.drop i).map (par g ks))):=by
  intro d
  induction d with
  | zero=>
   intro i o ho hi _;rw [Qz5 U];refine AP (m:=some _) ?_;unfold CX Kg;simp only;rw [if_neg U];simp [Lib.joinTail]
  | succ d ih=>
   intro i o ho hi hlen;have hil:i<l.length:=by omega
   rw [drop_cons hil,Qze,Abq] at hlen ⊢;rw [Qzu,Qzu] at hlen
   have hb:CX l sep c j f (o,(i:Int))=some (.inl ((o++sep)++par g ks (l.getD i Qq2),((i+1:Nat):Int))):=by
    unfold CX;simp only;rw [if_pos U,if_pos U,Ad U,k i _ hil (by simp [-Qq9];omega)]
   rw [Bg hb,ih (i+1) _ U U (by simp;simp at hlen;omega)];simp
 cases l with
 | nil=>
  refine AP (m:=some _) ?_;unfold CX Kg;simp only;rw [if_neg Qqd]
  rfl
 | cons a r=>
  have hb:CX (a::r) sep c j f ([],0)=some (.inl (par g ks a,1)):=by
   unfold CX;simp only;rw [if_pos Qqd,if_neg U];exact k 0 [] Qqd Qqd
  rw [Qze,Lib.join_cons] at hj ⊢;rw [Qzu] at hj;rw [Bg hb];exact key r.length 1 _ U (by simp [-Qq9];omega) (by simpa using hj)
theorem Aam{q:Qv}(hw:∀ w∈q.f.2.1,w.length<=64)(hl:q.f.2.1.length<=16)(a:1<=q.f.2.1.length):Ju q (q.f.2.1.getD 0 Qq2,1)=some (([34]++Lib.join q.f.2.1 [32])++[34]):=by
 unfold Ju
 have key:∀ (d i:Nat) (o:List UInt8),i+d=q.f.2.1.length->o.length<=65 * i->Go.L.run (EZ q) (o,(i:Int))=some (([34]++(o++Lib.joinTail [32] (q.f.2.1.drop i)))++[34]):=by
  intro d
  induction d with
  | zero=>
   intro i o hi ho;rw [Qz5 U];refine AP (m:=some _) ?_;unfold EZ LZ;simp only;rw [if_neg U,Ad (by simp [-Qq9];omega),Ad (by simp [-Qq9];omega)];simp [Lib.joinTail]
  | succ d ih=>
   intro i o hi ho;have hil:i<q.f.2.1.length:=by omega
   have hwl:=Tq hw i;rw [drop_cons hil,Abq]
   have hb:EZ q (o,(i:Int))=some (.inl ((o++[32])++q.f.2.1.getD i Qq2,((i+1:Nat):Int))):=by
    unfold EZ;simp only;rw [if_pos U,Ad (by simp [-Qq9];omega),Ad ⟨by omega,by omega⟩,Qq8,Ad (by simp [-Qq9];omega),Ad (by constructor <;> omega)]
    rfl
   rw [Bg hb,ih (i+1) _ U (by simp [-Qq9];omega)];simp
 obtain⟨w,r,hwr⟩:=Qk2 (List.ne_nil_of_length_pos a);have hwl:=Tq hw 0;have:=key (q.f.2.1.length - 1) 1 (q.f.2.1.getD 0 Qq2) U U;rw [show((1:Nat):Int)=1 from Z] at this;rw [this,hwr,Lib.join_cons]
 rfl
theorem Agp{q:Qv}{f:Qv->List UInt8}(hq:Sq q)(hn:nf q=0)(ht:(tb f q).length<=1000000){s1:Qv->Option (List UInt8)}{b:List Qv->List UInt8->List Int->Option (List UInt8)}{r1:Qv->Option (List UInt8)}{r2:List Qv->List UInt8->Int->Int->Option (List UInt8)}
  (g:q.f.1=8->b q.f.2.2.2.2.2.2 [38] [9]=some (tb f q)/\r2 q.f.2.2.2.2.2.2 [38] 9 0=some (tb f q)) (i:q.f.1=9->b q.f.2.2.2.2.2.2 [124] []=some (tb f q)/\r2 q.f.2.2.2.2.2.2 [124] 0 0=some (tb f q))
  (d:q.f.1=10->b q.f.2.2.2.2.2.2 [] [8,9]=some (Lib.join (q.f.2.2.2.2.2.2.map (par f [8,9])) [])/\r2 q.f.2.2.2.2.2.2 [] 8 9=some (Lib.join (q.f.2.2.2.2.2.2.map (par f [8,9])) [])) :
  Gq s1 b q=some (tb f q)/\K4 r1 r2 q=some (tb f q):=by
 obtain⟨hk,hF,hw,hp,hnt⟩:=S8 hn;have hw':∀ w∈q.f.2.1,w.length<=64:=fun w h=>Aeg (hw w h);have hd:=XT hnt;have hp:=Aeh hp;have hwn:=Re hF;obtain⟨f1,f2,f3,_⟩:=QE hF;have a:=hq.open.2.2.2.2.2.1;have c:=hq.open.2.2.2.2.2.2;have l:=S7 a;have m:=S7 c;have n:=Tq hw' 0;have o:=Tq hw' 1;have hwl:=Aei hw';have j2:=join_le q.f.2.1 [32];simp only [Qzw,Qzd] at j2;have j:Sp q.f.2.2.2.2.1=some (Lib.itoa q.f.2.2.2.2.1):=by unfold Sp;rw [Ad ⟨a.1,a.2⟩]
 have k:Sp q.f.2.2.2.2.2.1=some (Lib.itoa q.f.2.2.2.2.2.1):=by unfold Sp;rw [Ad ⟨c.1,c.2⟩]
 have hqu:(quo q.f.2.2.2.1).length<=3 * q.f.2.2.2.1.length+2:=by
  have:=V5 q.f.2.2.2.1;simp [quo]
  simpa using this
 unfold Gq K4 Ma;obtain e | e | e | e | e | e | e | e | e | e:q.f.1=1\/q.f.1=2\/q.f.1=3\/q.f.1=4\/q.f.1=5\/q.f.1=6\/q.f.1=7\/q.f.1=8\/q.f.1=9\/q.f.1=10:=by omega
 ·have:=f1 e;simp only [tb,e,if_true];rw [Ad ⟨by omega,by omega⟩];exact⟨Z,Z⟩
 ·have:=f2 e;simp only [tb,e,QxA,if_true,if_false]
  constructor
  ·unfold Sr;rw [Ad ⟨by omega,by omega⟩,Qq6,Ad (by simp [-Qq9];omega),Ad (by simp [-Qq9];omega)]
  ·rw [Ad ⟨by omega,by omega⟩];exact Aam hw' hwn U
 ·have:=f3 e;simp only [tb,e,QxA,if_true,if_false];rw [j,RR a];simp only [Qq6]
  constructor
  all_goals (rw [Ad ⟨by omega,by omega⟩,Ad (by simp [-Qq9];omega),Ad (by simp [-Qq9];omega),Ad (by simp [-Qq9];omega),Ad ⟨by omega,by omega⟩,Ad (by simp [-Qq9];omega)];rfl)
 ·simp only [tb,e,QxA,if_true,if_false];rw [WW U,WV U];exact⟨Z,Z⟩
 ·simp only [tb,e,QxA,if_true,if_false];rw [Ad (by simp [-Qq9];omega)];exact⟨Z,Z⟩
 ·simp only [tb,e,QxA,if_true,if_false];rw [j,k,RR a,RR c];simp only [Qq6]
  constructor
  all_goals (rw [Ad (by simp [-Qq9];omega),Ad (by simp [-Qq9];omega),Ad (by simp [-Qq9];omega),Ad (by simp [-Qq9];omega),Ad (by simp [-Qq9];omega)])
 ·simp only [tb,e,QxA,if_true,if_false];rw [WW U,WV U];simp only [Qq6]
  constructor
  all_goals (rw [Ad (by simp [-Qq9];omega),Ad (by simp [-Qq9];omega),Ad (by simp [-Qq9];omega)])
 ·simp only [e,QxA,if_true,if_false];rw [(g e).1,(g e).2];exact⟨Z,Z⟩
 ·simp only [e,QxA,if_true,if_false];rw [(i e).1,(i e).2];exact⟨Z,Z⟩
 ·simp only [tb,e,QxA,if_true,if_false,Qzu] at ht ⊢;rw [(d e).1,(d e).2];simp only [Qq6];rw [Ad U];exact⟨Z,Z⟩
theorem Agq{l:List Qv}{g:Qv->Nat}{s:Qv}(h:s∈l):g s<=(l.map g).sum:=by
 induction l with
 | nil=>cases h
 | cons a l ih=>
  rw [Qze,List.sum_cons]
  rcases Qzy.1 h with rfl | h
  ·omega
  ·have:=ih h;omega
theorem Aht:∀ (d:Nat) (q:Qv),Sq q->Vq d q->nq d q<=200->∀ n,2 * d<=n->(BL n).1 q=some (tx d q)/\(Dz n).1 q=some (tx d q)
 | 0,_,_,h,_,_,_=>h.elim
 | d+1,q,hq,hv,hc,n,hn=>by
  obtain⟨n,rfl⟩:∃ m,n=m+2:=⟨n - 2,by omega⟩;have hlen:=Aak (d+1) q hq hv;have hsl:=hq.open.2.2.2.1
  have hsum:∀ s∈q.f.2.2.2.2.2.2,nq d s<=200:=fun s hs=>by
   have:nq d s<=(q.f.2.2.2.2.2.2.map (nq d)).sum:=Agq hs;unfold nq at hc;omega
  have ih:∀ s∈q.f.2.2.2.2.2.2,(BL n).1 s=some (tx d s)/\(Dz n).1 s=some (tx d s):=fun s hs=>Aht d s (hq.sub hs) (hv.2 s hs) (hsum s hs) n U
  have hgl:∀ s∈q.f.2.2.2.2.2.2,(tx d s).length<=1000000:=fun s hs=>by
   have:=Aak d s (hq.sub hs) (hv.2 s hs);have:=hsum s hs;omega
  have a:∀ s∈q.f.2.2.2.2.2.2,1<=s.f.1:=fun s hs=>by
   have:=hv.2 s hs
   cases d with
   | zero=>exact this.elim
   | succ d=>exact(S8 this.1).1.1
  have ht:(tb (tx d) q).length<=1000000:=by
   show(tx (d+1) q).length<=_
   omega
  have hT:∀ sep ks,ks.length<=1000->(Lib.join (q.f.2.2.2.2.2.2.map (par (tx d) ks)) sep).length<=1000000->(BL (n+1)).2 q.f.2.2.2.2.2.2 sep ks=some (Lib.join (q.f.2.2.2.2.2.2.map (par (tx d) ks)) sep):=fun sep ks hk hj=>Aej (f2:=(BL n).2) U hk (fun s hs=>(ih s hs).1) hgl hj
  have hB:∀ sep ks b c,(∀ s∈q.f.2.2.2.2.2.2,(s.f.1=b\/s.f.1=c)↔s.f.1∈ks)->sep.length<=10->(Lib.join (q.f.2.2.2.2.2.2.map (par (tx d) ks)) sep).length<=1000000->(Dz (n+1)).2 q.f.2.2.2.2.2.2 sep b c=some (Lib.join (q.f.2.2.2.2.2.2.map (par (tx d) ks)) sep):=
   fun sep ks b c hk hs hj=>Aal (f2:=(Dz n).2) U hk (fun s hs=>(ih s hs).2) hgl hs hj
  refine Agp (s1:=(BL (n+1)).1) (r1:=(Dz (n+1)).1) hq hv.1 ht (fun e=>?_) (fun e=>?_) (fun e=>?_)
  ·simp only [tb,e,QxA,if_true,if_false] at ht ⊢;exact⟨hT _ _ Qqd ht,hB _ [9] _ _ (fun s hs=>by have:=a s hs;simp;omega) Qqd ht⟩
  ·simp only [tb,e,QxA,if_true,if_false] at ht ⊢;exact⟨hT _ _ Qqd ht,hB _ [] _ _ (fun s hs=>by have:=a s hs;simp;omega) Qqd ht⟩
  ·simp only [tb,e,QxA,if_true,if_false,Qzu] at ht;exact⟨hT _ _ Qqd U,hB _ [8,9] _ _ (fun s hs=>by simp) Qqd U⟩
def qfl(q:Qv):Int×Int:=if(ck 1000 q 0 1).2.1=0 then(if 200<(tx 8 q).length then(14,-1) else(0,0)) else(ck 1000 q 0 1).2
theorem Aan{q:Qv}(h:(ck 1000 q 0 1).2.1=0):Vq 8 q/\nq 8 q<=40:=by
 obtain⟨a,h2,h3⟩:=Ahs 1000 q 0 1 U U 8 U h;exact⟨h3,by omega⟩
theorem Aek{q:Qv}(hq:Sq q):Ho q=some (if(qfl q).1=0 then tx 8 q else[],qfl q):=by
 unfold Ho LN qfl;obtain⟨a,_,h3⟩:=Ahr 1000 q 0 1 hq U U U U;rw [a,Qq6]
 by_cases h:(ck 1000 q 0 1).2.1=0
 ·obtain⟨hv,hc⟩:=Aan h;rw [if_pos (by rw [h3.2 h];exact⟨Z,Z⟩),if_pos h];unfold Ol;rw [(Aht 8 q hq hv U 1000 U).1,Qq6]
  by_cases hl:200<(tx 8 q).length
  ·rw [if_pos U,if_pos hl]
   rfl
  ·rw [if_neg U,if_neg hl]
   rfl
 ·rw [if_neg (fun e=>h e.1),if_neg h,if_neg h]
theorem YY{q:Qv}(hq:Sq q):FQ q=some (qfl q):=by
 unfold FQ;rw [Aek hq]
 rfl
theorem AhY{q:Qv}(h:(qfl q).1=0):Vq 8 q/\nq 8 q<=40/\(tx 8 q).length<=200/\qfl q=(0,0):=by
 unfold qfl at h ⊢
 by_cases a:(ck 1000 q 0 1).2.1=0
 ·rw [if_pos a] at h ⊢
  by_cases h2:200<(tx 8 q).length
  ·rw [if_pos h2] at h
   cases h
  ·rw [if_neg h2];exact⟨(Aan a).1,(Aan a).2,by omega,Z⟩
 ·rw [if_neg a] at h;exact absurd h a
end Go.Proofs.YtekmbcbgknmhiaaGreatDoor
end
noncomputable section
namespace Go.L
open Go
def IE(f:Qv->Nat->Bool):Nat->Qv->Nat->Bool
 | 0,_,_=>false
 | d+1,q,i=>if q.f.1<8 then f q i else if q.f.1=10 then !IE f d (q.f.2.2.2.2.2.2.getD 0 Qq2) i else if q.f.1=8 then q.f.2.2.2.2.2.2.all fun s=>IE f d s i else q.f.2.2.2.2.2.2.any fun s=>IE f d s i
theorem Ahu(f:Qv->Nat->Bool)(d:Nat)(q:Qv)(i:Nat):IE f (d+1) q i=if q.f.1<8 then f q i else if q.f.1=10 then !IE f d (q.f.2.2.2.2.2.2.getD 0 Qq2) i else if q.f.1=8 then q.f.2.2.2.2.2.2.all fun s=>IE f d s i else q.f.2.2.2.2.2.2.any fun s=>IE f d s i:=Z
def Lx(n:Nat)(f:Nat->Bool):List Bool:=(Qzv n).map f
theorem N0(n:Nat)(f:Nat->Bool):(Lx n f).length=n:=by simp [Lx]
theorem U1{n:Nat}{f:Nat->Bool}{i:Nat}(h:i<n):(Lx n f).getD i Qq2=f i:=by
 unfold Lx;rw [Qq9,Qz6,QkA h]
 rfl
theorem Mc{n:Nat}{f g:Nat->Bool}(h:∀ i,i<n->f i=g i):Lx n f=Lx n g:=Qx9 fun i hi=>h i (QzX.1 hi)
theorem XV{n:Nat}{f:Nat->Bool}{i:Nat}{b:Bool}:(Lx n f).set i b=Lx n fun j=>if j=i then b else f j:=by
 unfold Lx;apply Qkc;intro j;rw [Qjk,Qz6,Qz6,Qzk,QxQ]
 by_cases hj:j<n
 ·rw [QkA hj]
  by_cases h:i=j
  ·subst h;simp [hj]
  ·simp [h,Ne.symm h]
 ·rw [Qxe (by simpa using hj)]
  by_cases h:i=j
  ·subst h;simp [hj]
  ·simp [h]
end Go.L
namespace Go.Proofs.YtekmbcbgknmhiaaGreatDoor
open Go Go.L
abbrev LIB:Type:=(Int×(List ((List UInt8)×(List (Int×Int)))))×(Int×(List (((List UInt8)×Int×Int×(List UInt8))×(List Int))))×(List (((List Int))×(List Int)×(List Int)))
def Fnd(L:LIB)(f:Qv->Nat->Bool):Prop:=∀ d q,Sq q->Vq (d+1) q->q.f.1<8->∃ items,DC L q=some items/\items.length<=100000000/\(∀ x∈items,0<=x/\x<(L.2.2.length:Int))/\∀ i,i<L.2.2.length->f q i=decide ((i:Int)∈items)
theorem AhZ{L:LIB}{items:List Int}(hn:L.2.2.length<=64)(hl:items.length<=100000000)(hi:∀ x∈items,0<=x/\x<(L.2.2.length:Int)):EP L items=some (Lx L.2.2.length fun i=>decide ((i:Int)∈items)):=by
 unfold EP BE;simp only [Qq6];rw [Ad U,Qq8]
 have a:Qzz L.2.2.length false=Lx L.2.2.length fun i=>decide ((i:Int)∈items.take 0):=by
  unfold Lx;apply Qkc;intro j;rw [List.getElem?_replicate,Qz6]
  by_cases hj:j<L.2.2.length
  ·rw [if_pos hj,QkA hj];simp
  ·rw [if_neg hj,Qxe (by simpa using hj)];rfl
 have key:∀ (d k:Nat),k+d=items.length->Ga items (Lx L.2.2.length (fun i=>decide ((i:Int)∈items.take k)),(k:Int))=some (Lx L.2.2.length fun i=>decide ((i:Int)∈items)):=by
  intro d
  induction d with
  | zero=>
   intro k hk;refine AP (m:=some _) ?_;unfold Dx FZ;simp only;rw [if_neg U,Qxj U]
  | succ d ih=>
   intro k hk;have hkl:k<items.length:=by omega
   have hg:items.getD ((k:Int)).toNat Qq2=items[k]:=by rw [Qq8,Qq9,Qzj hkl];rfl
   have hb:=hi _ (Qz9 hkl)
   have e:Dx items (Lx L.2.2.length (fun i=>decide ((i:Int)∈items.take k)),(k:Int))=some (.inl (Lx L.2.2.length (fun i=>decide ((i:Int)∈items.take (k+1))),((k+1:Nat):Int))):=by
    unfold Dx;simp only;rw [if_pos U,Ad U,hg,Ad (by rw [N0];exact hb),Ad (by unfold Bz;omega),XV]
    have:(Lx L.2.2.length fun j=>if j=items[k].toNat then true else decide ((j:Int)∈items.take k))=Lx L.2.2.length fun i=>decide ((i:Int)∈items.take (k+1)):=Mc fun j hj=>by
     rw [<- List.take_append_getElem hkl]
     by_cases h:j=items[k].toNat
     ·rw [if_pos h];have:(j:Int)=items[k]:=by omega
      refine(decide_eq_true (QzQ.2 (.inr ?_))).symm;rw [this];exact List.mem_singleton_self _
     ·rw [if_neg h];have : ¬ (j:Int)=items[k]:=by omega
      rw [decide_eq_decide,QzQ,QzB];exact⟨.inl,fun h=>h.resolve_right this⟩
    rw [this]
    rfl
   unfold Ga at ih ⊢;rw [Bg e,ih (k+1) U]
 have:=key items.length 0 U;rw [a];exact this
theorem WY{L:LIB}{f:Qv->Nat->Bool}(hn:L.2.2.length<=64)(hf:Fnd L f):∀ (d:Nat) (q:Qv),Sq q->Vq d q->∀ m,d<=m->Bq m L q=some (Lx L.2.2.length (IE f d q))
 | 0,_,_,h,_,_=>h.elim
 | d+1,q,hq,hv,m,hm=>by
  obtain⟨m,rfl⟩:∃ k,m=k+1:=⟨m - 1,by omega⟩;obtain⟨hk,hF,_⟩:=S8 hv.1;have ih:∀ s∈q.f.2.2.2.2.2.2,Bq m L s=some (Lx L.2.2.length (IE f d s)):=fun s hs=>WY hn hf d s (hq.sub hs) (hv.2 s hs) m U
  show C8 (Bq m) L q=_
  unfold C8 IB;rw [Qq6]
  by_cases t:q.f.1<8
  ·obtain⟨items,l,h2,h3,x⟩:=hf d q hq hv t
   have e:Lx L.2.2.length (IE f (d+1) q)=Lx L.2.2.length fun i=>decide ((i:Int)∈items):=Mc fun i hi=>by
    rw [IE,if_pos t,x i hi]
   have hs:=AhZ hn h2 h3;rw [decide_eq_true U,if_pos Z]
   show Qq4 (DC L q) (fun y=>Qq4 (EP L y) fun u=>some u)=_
   rw [l,Qq6,hs,e]
   rfl
  ·rw [decide_eq_false U,if_neg Bool.false_ne_true];have hlen:q.f.2.2.2.2.2.2.length<=1048576:=hq.open.2.2.2.1
   have hpos:0<q.f.2.2.2.2.2.2.length:=by
    obtain⟨_,_,_,z,k5⟩:=QE hF
    by_cases c:q.f.1=10
    ·rw [z c];omega
    ·have:=k5 U;omega
   have v:q.f.2.2.2.2.2.2.getD 0 Qq2∈q.f.2.2.2.2.2.2:=V4 hpos;rw [Ad U]
   show Qq4 (Bq m L (q.f.2.2.2.2.2.2.getD 0 Qq2)) _=_
   rw [ih _ v,Qq6]
   by_cases c:q.f.1=10
   ·rw [if_pos c];have l:=(QE hF).2.2.2.1 c
    have key:∀ (k i:Nat),i+k=L.2.2.length->D5 L q (Bq m) (Lx L.2.2.length (IE f d (q.f.2.2.2.2.2.2.getD 0 Qq2))) (Lx L.2.2.length (fun j=>if j<i then !IE f d (q.f.2.2.2.2.2.2.getD 0 Qq2) j else IE f d (q.f.2.2.2.2.2.2.getD 0 Qq2) j),(i:Int))=some (Lx L.2.2.length (IE f (d+1) q)):=by
     intro k
     induction k with
     | zero=>
      intro i hi;refine AP (m:=some _) ?_;unfold BY;simp only;rw [N0,if_neg U];unfold Cd;rw [Ad U];unfold CC
      have:Go.L.run (BF L q (Bq m)) (Lx L.2.2.length (fun j=>if j<i then !IE f d (q.f.2.2.2.2.2.2.getD 0 Qq2) j else IE f d (q.f.2.2.2.2.2.2.getD 0 Qq2) j),0)=some (Lx L.2.2.length (IE f (d+1) q)):=by
       refine AP (m:=some _) ?_;unfold BF CA;simp only;rw [if_neg (by rw [QzA];show ¬ (0:Int)<((q.f.2.2.2.2.2.2.length - 1:Nat):Int);omega)]
       have e:Lx L.2.2.length (fun j=>if j<i then !IE f d (q.f.2.2.2.2.2.2.getD 0 Qq2) j else IE f d (q.f.2.2.2.2.2.2.getD 0 Qq2) j)=Lx L.2.2.length (IE f (d+1) q):=Mc fun j hj=>by
        rw [if_pos U,IE,if_neg t,if_pos c]
       rw [e]
      rw [this]
     | succ k ihk=>
      intro i hi
      have e:BY L q (Bq m) (Lx L.2.2.length (IE f d (q.f.2.2.2.2.2.2.getD 0 Qq2))) (Lx L.2.2.length (fun j=>if j<i then !IE f d (q.f.2.2.2.2.2.2.getD 0 Qq2) j else IE f d (q.f.2.2.2.2.2.2.getD 0 Qq2) j),(i:Int))=some (.inl (Lx L.2.2.length (fun j=>if j<i+1 then !IE f d (q.f.2.2.2.2.2.2.getD 0 Qq2) j else IE f d (q.f.2.2.2.2.2.2.getD 0 Qq2) j),((i+1:Nat):Int))):=by
       unfold BY;simp only;rw [N0,N0,if_pos U,Ad U,Ad U,Ad (by unfold Bz;omega),Qq8,U1 U,if_neg U,XV]
       have:(Lx L.2.2.length fun j=>if j=i then !IE f d (q.f.2.2.2.2.2.2.getD 0 Qq2) i else if j<i then !IE f d (q.f.2.2.2.2.2.2.getD 0 Qq2) j else IE f d (q.f.2.2.2.2.2.2.getD 0 Qq2) j)=Lx L.2.2.length fun j=>if j<i+1 then !IE f d (q.f.2.2.2.2.2.2.getD 0 Qq2) j else IE f d (q.f.2.2.2.2.2.2.getD 0 Qq2) j:=Mc fun j hj=>by
        by_cases h:j=i
        ·subst h;rw [if_pos (show j=j from Z),if_pos (show j<j+1 by omega)]
        ·rw [if_neg h]
         by_cases h2:j<i
         ·rw [if_pos h2,if_pos (show j<i+1 by omega)]
         ·rw [if_neg h2,if_neg (show ¬ j<i+1 by omega)]
       rw [this]
       rfl
      unfold D5 at ihk ⊢;rw [Bg e,ihk (i+1) U]
    have:=key L.2.2.length 0 U;have o:Lx L.2.2.length (fun j=>if j<0 then !IE f d (q.f.2.2.2.2.2.2.getD 0 Qq2) j else IE f d (q.f.2.2.2.2.2.2.getD 0 Qq2) j)=Lx L.2.2.length (IE f d (q.f.2.2.2.2.2.2.getD 0 Qq2)):=Mc fun j hj=>by rw [if_neg U]
    rw [o] at this;exact this
   ·rw [if_neg c];unfold Cd;rw [Ad U]
    -- what has been joined so far
    have one:∀ (s:Qv) (g:Nat->Bool) (k:Int),∀ (n i:Nat),i+n=L.2.2.length->D4 q k (Lx L.2.2.length (IE f d s)) (Lx L.2.2.length (fun j=>if j<i then(if q.f.1=8 then g j&&IE f d s j else g j||IE f d s j) else g j),(i:Int)) =
      CB k (Lx L.2.2.length fun j=>if q.f.1=8 then g j&&IE f d s j else g j||IE f d s j):=by
     intro s g k n
     induction n with
     | zero=>
      intro i hi;refine AP ?_;unfold BX;simp only;rw [N0,if_neg U];have e:Lx L.2.2.length (fun j=>if j<i then(if q.f.1=8 then g j&&IE f d s j else g j||IE f d s j) else g j)=Lx L.2.2.length fun j=>if q.f.1=8 then g j&&IE f d s j else g j||IE f d s j:=Mc fun j hj=>by rw [if_pos U]
      rw [e]
     | succ n ihn=>
      intro i hi
      have e:BX q k (Lx L.2.2.length (IE f d s)) (Lx L.2.2.length (fun j=>if j<i then(if q.f.1=8 then g j&&IE f d s j else g j||IE f d s j) else g j),(i:Int))=some (.inl (Lx L.2.2.length (fun j=>if j<i+1 then(if q.f.1=8 then g j&&IE f d s j else g j||IE f d s j) else g j),((i+1:Nat):Int))):=by
       have st:∀ b:Bool,b=(if q.f.1=8 then g i&&IE f d s i else g i||IE f d s i)->(Lx L.2.2.length (fun j=>if j<i then(if q.f.1=8 then g j&&IE f d s j else g j||IE f d s j) else g j)).set i b=Lx L.2.2.length (fun j=>if j<i+1 then(if q.f.1=8 then g j&&IE f d s j else g j||IE f d s j) else g j):=fun b hb=>by
        rw [XV];refine Mc fun j hj=>?_
        by_cases h:j=i
        ·subst h;rw [if_pos (show j=j from Z),if_pos (show j<j+1 by omega),hb]
        ·rw [if_neg h]
         by_cases h2:j<i
         ·rw [if_pos h2,if_pos (show j<i+1 by omega)]
         ·rw [if_neg h2,if_neg (show ¬ j<i+1 by omega)]
       unfold BX;simp only;rw [N0,N0,if_pos U,Ad U,Qq8,U1 U,U1 U,if_neg (Nat.lt_irrefl i)]
       by_cases h8':q.f.1=8
       ·rw [if_pos h8',Ad U,Ad U,Ad (by unfold Bz;omega),st _ (by rw [if_pos h8'];cases g i <;> rfl)]
        rfl
       ·rw [if_neg h8',Ad U,Ad U,Ad (by unfold Bz;omega),st _ (by rw [if_neg h8'];cases g i <;> rfl)]
        rfl
      unfold D4 at ihn ⊢;rw [Bg e,ihn (i+1) U]
    have all:∀ (n k:Nat),k+n=(q.f.2.2.2.2.2.2.drop 1).length->CC L q (Bq m) (Lx L.2.2.length (fun j=>if q.f.1=8 then(q.f.2.2.2.2.2.2.take (k+1)).all fun s=>IE f d s j else(q.f.2.2.2.2.2.2.take (k+1)).any fun s=>IE f d s j),(k:Int))=some (Lx L.2.2.length (IE f (d+1) q)):=by
     intro n
     induction n with
     | zero=>
      intro k hk;refine AP (m:=some _) ?_;unfold BF CA;simp only;rw [if_neg (by show ¬ (k:Int)<((q.f.2.2.2.2.2.2.drop 1).length:Int);omega)];rw [QzA] at hk
      have e:Lx L.2.2.length (fun j=>if q.f.1=8 then(q.f.2.2.2.2.2.2.take (k+1)).all fun s=>IE f d s j else(q.f.2.2.2.2.2.2.take (k+1)).any fun s=>IE f d s j)=Lx L.2.2.length (IE f (d+1) q):=Mc fun j hj=>by
       rw [IE,if_neg t,if_neg c,Qxj U]
      rw [e]
     | succ n ihn=>
      intro k hk;have w:k<(q.f.2.2.2.2.2.2.drop 1).length:=by omega
      have p:k+1<q.f.2.2.2.2.2.2.length:=by rw [QzA] at w;omega
      have hgs:(q.f.2.2.2.2.2.2.drop (1:Int).toNat).getD ((k:Int)).toNat Qq2=q.f.2.2.2.2.2.2[k+1]:=by
       show(q.f.2.2.2.2.2.2.drop 1).getD ((k:Int)).toNat Qq2=_
       rw [Qq8,Qq9,Qxw,Nat.add_comm 1 k,Qzj p]
       rfl
      have e:BF L q (Bq m) (Lx L.2.2.length (fun j=>if q.f.1=8 then(q.f.2.2.2.2.2.2.take (k+1)).all fun s=>IE f d s j else(q.f.2.2.2.2.2.2.take (k+1)).any fun s=>IE f d s j),(k:Int))=some (.inl (Lx L.2.2.length (fun j=>if q.f.1=8 then(q.f.2.2.2.2.2.2.take (k+1+1)).all fun s=>IE f d s j else(q.f.2.2.2.2.2.2.take (k+1+1)).any fun s=>IE f d s j),((k+1:Nat):Int))):=by
       unfold BF;simp only;rw [if_pos (by show(k:Int)<((q.f.2.2.2.2.2.2.drop 1).length:Int);omega),Ad (by show 0<=(k:Int)/\(k:Int)<((q.f.2.2.2.2.2.2.drop 1).length:Int);omega),hgs]
       show Qq4 (Bq m L q.f.2.2.2.2.2.2[k+1]) _=_
       rw [ih _ (Qz9 p),Qq6];have l:=one q.f.2.2.2.2.2.2[k+1] (fun j=>if q.f.1=8 then(q.f.2.2.2.2.2.2.take (k+1)).all fun s=>IE f d s j else(q.f.2.2.2.2.2.2.take (k+1)).any fun s=>IE f d s j) (k:Int) L.2.2.length 0 U;have o:∀ (g h:Nat->Bool),Lx L.2.2.length (fun j=>if j<0 then h j else g j)=Lx L.2.2.length g:=fun g h=>Mc fun j hj=>by rw [if_neg U]
       rw [o] at l;refine Eq.trans l ?_;unfold CB;rw [Ad (by unfold Bz;omega)]
       have:(Lx L.2.2.length fun j=>if q.f.1=8 then(if q.f.1=8 then(q.f.2.2.2.2.2.2.take (k+1)).all fun s=>IE f d s j else(q.f.2.2.2.2.2.2.take (k+1)).any fun s=>IE f d s j)&&IE f d q.f.2.2.2.2.2.2[k+1] j else(if q.f.1=8 then(q.f.2.2.2.2.2.2.take (k+1)).all fun s=>IE f d s j else(q.f.2.2.2.2.2.2.take (k+1)).any fun s=>IE f d s j)||IE f d q.f.2.2.2.2.2.2[k+1] j) =
         Lx L.2.2.length (fun j=>if q.f.1=8 then(q.f.2.2.2.2.2.2.take (k+1+1)).all fun s=>IE f d s j else(q.f.2.2.2.2.2.2.take (k+1+1)).any fun s=>IE f d s j):=Mc fun j hj=>by
        rw [<- List.take_append_getElem p]
        by_cases h8':q.f.1=8
        ·rw [if_pos h8',if_pos h8',if_pos h8',List.all_append,List.all_cons,List.all_nil,Bool.and_true]
        ·rw [if_neg h8',if_neg h8',if_neg h8',List.any_append,Qjq,List.any_nil,Qjx]
       rw [this]
       rfl
      unfold CC at ihn ⊢;rw [Bg e,ihn (k+1) U]
    have:=all (q.f.2.2.2.2.2.2.drop 1).length 0 U
    have o:Lx L.2.2.length (fun j=>if q.f.1=8 then(q.f.2.2.2.2.2.2.take (0+1)).all fun s=>IE f d s j else(q.f.2.2.2.2.2.2.take (0+1)).any fun s=>IE f d s j)=Lx L.2.2.length (IE f d (q.f.2.2.2.2.2.2.getD 0 Qq2)):=Mc fun j hj=>by
     have ht:q.f.2.2.2.2.2.2.take (0+1)=[q.f.2.2.2.2.2.2.getD 0 Qq2]:=by
      cases hl:q.f.2.2.2.2.2.2 with
      | nil=>rw [hl] at hpos;simp at hpos
      | cons a r=>rfl
     rw [ht]
     by_cases h8':q.f.1=8
     ·simp [h8']
     ·simp [h8']
    rw [o] at this;exact this
end Go.Proofs.YtekmbcbgknmhiaaGreatDoor
end
noncomputable section
namespace Go.L
open Go
def its(n:Nat)(f g:Nat->Bool):List Int:=((Qzv n).filter fun i=>f i&&g i).map fun i:Nat=>(i:Int)
theorem Aia(n:Nat)(f g:Nat->Bool):(its n f g).length<=n:=by
 unfold its;have:=Qkd (fun j=>f j&&g j) (Qzv n);rw [QxQ] at this;rw [Qzk];omega
end Go.L
namespace Go.Proofs.YtekmbcbgknmhiaaGreatDoor
open Go Go.L
theorem YZ{n:Nat}{f:Nat->Bool}{vis:List Bool}(hn:n<=64)(hv:vis.length=n):∀ (k i:Nat),i+k=n->Gc vis (Lx n f) (((Qzv i).filter fun j=>f j&&vis.getD j Qq2).map (fun j:Nat=>(j:Int)),(i:Int))=some (its n f fun j=>vis.getD j Qq2,(0,0))
 | 0,i,h=>by
  obtain rfl:i=n:=by omega
  refine AP (m:=some _) ?_;unfold Dy Gb;simp only;rw [N0,if_neg U]
  rfl
 | k+1,i,h=>by
  have hr:(Qzv (i+1)).filter (fun j=>f j&&vis.getD j Qq2)=(Qzv i).filter (fun j=>f j&&vis.getD j Qq2)++(if f i&&vis.getD i Qq2 then[i] else[]):=by
   rw [QxB,Qjj,List.filter_cons,List.filter_nil]
  have hlen:((Qzv i).filter fun j=>f j&&vis.getD j Qq2).length<=64:=by
   have:=Qkd (fun j=>f j&&vis.getD j Qq2) (Qzv i);rw [QxQ] at this;omega
  have e:Dy vis (Lx n f) (((Qzv i).filter fun j=>f j&&vis.getD j Qq2).map (fun j:Nat=>(j:Int)),(i:Int))=some (.inl (((Qzv (i+1)).filter fun j=>f j&&vis.getD j Qq2).map (fun j:Nat=>(j:Int)),((i+1:Nat):Int))):=by
   unfold Dy;simp only;rw [N0,if_pos U,Ad U,Qq8,U1 U,hr]
   by_cases a:f i=true
   ·rw [if_pos a,Ad U]
    by_cases h2:vis.getD i Qq2=true
    ·rw [if_pos h2,Ad (by unfold Go.E.H7;simp only [Qzk,Qzw,Qzd];omega),Ad (by unfold Bz;omega),a,h2];simp
    ·rw [if_neg h2,Ad (by unfold Bz;omega),a];rw [Bool.not_eq_true] at h2;rw [h2];simp
   ·rw [if_neg a,Ad (by unfold Bz;omega)];rw [Bool.not_eq_true] at a;rw [a];simp
  have ih:=YZ (f:=f) hn hv k (i+1) U;unfold Gc at ih ⊢;rw [Bg e,ih]
def Aao(n:Nat)(f:Qv->Nat->Bool)(vis:List Bool)(q:Qv):List Int×(Int×Int):=
 if(qfl q).1=0 then(if vis.length=n then(its n (IE f 8 q) fun j=>vis.getD j Qq2,(0,0)) else([],(9,-2))) else([],qfl q)
theorem Abr{L:LIB}{f:Qv->Nat->Bool}(hn:L.2.2.length<=64)(hf:Fnd L f){q:Qv}(hq:Sq q){vis:List Bool}:Cv L q vis=some (Aao L.2.2.length f vis q):=by
 unfold Cv Aao;rw [YY hq,Qq6]
 by_cases h:(qfl q).1=0
 ·obtain⟨hv,_,_,a⟩:=AhY h;rw [if_pos (by rw [a];exact⟨Z,Z⟩),if_pos h];unfold BE Cx;simp only [Qq6]
  by_cases hl:vis.length=L.2.2.length
  ·rw [if_pos U,if_pos hl];have hm:EY L q=some (Lx L.2.2.length (IE f 8 q)):=WY hn hf 8 q hq hv 1000 U
   show Qq4 (EY L q) _=_
   rw [hm,Qq6];exact YZ hn hl L.2.2.length 0 U
  ·rw [if_neg U,if_neg hl]
 ·rw [if_neg (fun e=>h e.1),if_neg h]
end Go.Proofs.YtekmbcbgknmhiaaGreatDoor
end
noncomputable section
namespace Go.L
open Go
theorem Pa:∀ l m:List UInt8,Lib.compareBytes l m<0↔Op.bytesLess l m=true
 | [],[]=>by simp [Lib.compareBytes,Op.bytesLess]
 | [],_::_=>by simp [Lib.compareBytes,Op.bytesLess]
 | _::_,[]=>by simp [Lib.compareBytes,Op.bytesLess]
 | a::l,b::m=>by
  have ih:=Pa l m;unfold Lib.compareBytes Op.bytesLess
  by_cases c:a<b
  ·rw [if_pos c];simp [c]
  ·rw [if_neg c]
   by_cases h2:b<a
   ·have hne:a≠b:=fun e=>by subst e;exact c h2
    rw [if_pos h2];simp [c,hne]
   ·have e:a=b:=S1 c h2;rw [if_neg h2,ih];simp [c,e]
def lcp:List UInt8->List UInt8->Nat
 | a::l,b::m=>if a=b then lcp l m+1 else 0
 | _,_=>0
section
variable (a:List UInt8)
theorem Acm:(Aag a).Perm (PN a.length):=Qkq _ _
theorem MY:(DF a).Perm (iota a.length):=by
 unfold DF;rw [<- WQ];exact(Acm a).map _
theorem ML:(DF a).length=a.length:=by rw [(MY a).length_eq,I0]
theorem Ael{n:Nat}{x:Int}:x∈iota n↔0<=x/\x<n:=by
 unfold iota;rw [QzJ]
 constructor
 ·rintro⟨i,hi,rfl⟩;have:=QzX.1 hi;omega
 ·intro h;exact⟨x.toNat,QzX.2 U,by omega⟩
theorem V6{x:Int}:x∈DF a↔0<=x/\x<a.length:=by rw [(MY a).mem_iff,Ael]
theorem Aap(n:Nat):(iota n).Nodup:=by
 unfold iota List.Nodup;rw [Qkx];exact List.pairwise_lt_range.imp fun h=>by omega
theorem XW:(DF a).Nodup:=(MY a).symm.nodup (Aap _)
theorem R5:(DF a).Pairwise fun x y=>Lib.compareBytes (a.drop x.toNat) (a.drop y.toNat)<0:=by
 have hO:=Abn (fun x:Fin (a.length+1)=>a.drop x.val)
 have h:=Qk1 (le:=fun x y=>!(Go.Proofs.ltOf (K2 a)) y x) (fun x y z b h2=>by
   simp only [QkX] at *;exact hO.ntrans z y x h2 b) (fun x y=>by
   have:=KI (a.drop y.val) (a.drop x.val)
   by_cases h:Lib.compareBytes (a.drop y.val) (a.drop x.val)<0
   ·have h' : ¬ Lib.compareBytes (a.drop x.val) (a.drop y.val)<0:=by omega
    simp [Go.Proofs.ltOf,K2,h']
   ·simp [Go.Proofs.ltOf,K2,h]) (PN a.length)
 have hn:(Aag a).Nodup:=by
  have:=XW a;unfold DF List.Nodup at this;rw [Qkx] at this;exact this.imp fun h e=>h (by rw [e])
 unfold DF;rw [Qkx];have h2:=List.Pairwise.and h hn;refine h2.imp fun {x y} ⟨h3,c⟩=>?_
 replace h3 : ¬ Lib.compareBytes (a.drop y.val) (a.drop x.val)<0:=by
  intro hc;have:Go.Proofs.ltOf (K2 a) y x=true:=by simp [Go.Proofs.ltOf,K2,hc]
  rw [this] at h3;cases h3
 simp only [Qq8];have s:=KI (a.drop x.val) (a.drop y.val)
 rcases Qke (Lib.compareBytes (a.drop x.val) (a.drop y.val)) 0 with h | h | h
 ·exact h
 ·exact absurd (P5 a x y (decide_eq_false (show ¬ Lib.compareBytes (a.drop x.val) (a.drop y.val)<0 by omega)) (decide_eq_false h3)) c
 ·omega
end
def pre(l p:List UInt8):Bool:=decide (l.take p.length=p)
def fs(a p:List UInt8):Nat->Nat×Nat
 | 0=>(0,0)
 | k+1=>if pre (a.drop k) p then((fs a p k).1,(fs a p k).2+1) else if Op.bytesLess (a.drop k) p then((fs a p k).1+1,(fs a p k).2) else fs a p k
theorem Ags(a p:List UInt8)(k:Nat):fs a p (k+1)=if pre (a.drop k) p then((fs a p k).1,(fs a p k).2+1) else if Op.bytesLess (a.drop k) p then((fs a p k).1+1,(fs a p k).2) else fs a p k:=Z
end Go.L
end
noncomputable section
namespace Go.Proofs.YtekmbcbgknmhiaaGreatDoor
open Go Go.L
theorem Acn{a:List UInt8}(h:a.length<=2048):Kr a=some (DF a):=by
 unfold Kr;rw [Ad U];unfold KV;have hst:∀ k,k<=a.length->(((iota k)++Qzz (a.length - k) 0).length=a.length):=fun k hk=>by rw [Qzu,I0,List.length_replicate];omega
 have c:=DJ (b:=Eo a) (m:=some (DF a)) (fun k=>((iota k)++Qzz (a.length - k) 0,((k:Nat):Int))) a.length (fun k hk=>?_) ?_ 0
 ·simpa [iota] using c
 ·show Eo a (_,_)=_
  unfold Eo;dsimp only;have:=hst k U;rw [if_pos (by rw [List.length_replicate];omega),Ad (by rw [this];omega),Ad (by unfold Bz;omega),Qq8]
  congr 3
  have d:a.length - k=(a.length - (k+1))+1:=by omega
  rw [d,List.replicate_succ,List.set_append_right _ _ (by rw [I0];exact Qzx _),I0,Nat.sub_self,List.set_cons_zero];unfold iota;rw [QxB,Qxa,QxX]
  rfl
 ·show Eo a (_,_)=_
  unfold Eo Io;dsimp only;rw [if_neg (by rw [List.length_replicate];omega),Nat.sub_self,List.replicate_zero,QzZ,Ad ⟨Z,by omega⟩]
theorem Aco(a:List UInt8):Ks a=some (if a.length<=2048 then(DF a,(0,0)) else([],(3,-1))):=by
 unfold Ks
 by_cases h:a.length<=2048
 ·rw [if_neg U,if_pos h,Acn h];rfl
 ·rw [if_pos U,if_neg h];rfl
end Go.Proofs.YtekmbcbgknmhiaaGreatDoor
end
noncomputable section
namespace Go.L
open Go
theorem V7(c d:UInt8)(p l:List UInt8):pre (d::l) (c::p)=(decide (d=c)&&pre l p):=by
 unfold pre;simp only [Qzw,List.take_succ_cons,List.cons.injEq];rw [Qxz];simp
theorem pre_nil(l:List UInt8):pre l []=true:=by simp [pre]
theorem S9(c:UInt8)(p:List UInt8):pre [] (c::p)=false:=by simp [pre]
theorem SA:∀ (p x:List UInt8),pre x p=true->Op.bytesLess x p=false
 | [],x,_=>by cases x <;> rfl
 | c::p,[],h=>by rw [S9] at h;cases h
 | c::p,d::x,h=>by
  rw [V7] at h;simp only [Qzb,decide_eq_true_eq] at h;obtain⟨rfl,h⟩:=h;have:=SA p x h;have hd : ¬ d<d:=fun h=>by have:=Qxf.1 h;omega
  simp [Op.bytesLess,this,hd]
theorem TO:∀ (p x y:List UInt8),Op.bytesLess x p=false->Op.bytesLess x y=true->pre y p=true->pre x p=true
 | [],x,_,_,_,_=>pre_nil x
 | c::p,[],_,h,_,_=>by simp [Op.bytesLess] at h
 | c::p,_::_,[],_,_,h=>by rw [S9] at h;cases h
 | c::p,d::x,e::y,a,h2,h3=>by
  rw [V7] at h3 ⊢;simp only [Qzb,decide_eq_true_eq] at h3;obtain⟨rfl,h3⟩:=h3;simp only [Op.bytesLess,Bool.or_eq_false_iff,Bool.and_eq_false_iff,Qz8,Qzb,decide_eq_true_eq,decide_eq_false_iff_not,beq_iff_eq] at a h2
  rcases h2 with h2 | ⟨rfl,h2⟩
  ·exact absurd h2 a.1
  ·have b:Op.bytesLess x p=false:=by
    rcases a.2 with h | h
    ·simp at h
    ·exact h
   simp [TO p x y b h2 h3]
def cls(p l:List UInt8):Nat:=if pre l p then 1 else if Op.bytesLess l p then 0 else 2
theorem Za{p x y:List UInt8}(h:Lib.compareBytes x y<0):cls p x<=cls p y:=by
 have hxy:=(Pa x y).1 h;unfold cls
 by_cases hy:pre y p=true
 ·rw [if_pos hy]
  by_cases hx:pre x p=true
  ·rw [if_pos hx];exact Qzx _
  ·rw [if_neg hx]
   by_cases hl:Op.bytesLess x p=true
   ·rw [if_pos hl];omega
   ·exact absurd (TO p x y (by simpa using hl) hxy hy) hx
 ·rw [if_neg hy]
  by_cases hl:Op.bytesLess y p=true
  ·have hxp:Op.bytesLess x p=true:=(Pa _ _).1 (N5 _ _ _ h ((Pa _ _).2 hl));have hx : ¬ pre x p=true:=fun hx=>by rw [SA p x hx] at hxp;cases hxp
   rw [if_neg hx,if_pos hxp];omega
  ·rw [if_neg hl]
   split
   ·omega
   ·split <;> omega
theorem Rf:∀ (l:List Nat) (c i:Nat),l.Pairwise (·<=·)->i<l.length->(l.getD i 0<c↔i<l.countP (· < c))
 | [],_,_,_,h=>by cases h
 | x::l,c,i,hp,hi=>by
  have hq:=Qz1.1 hp
  by_cases hx:x<c
  ·rw [List.countP_cons_of_pos (by simpa using hx)]
   cases i with
   | zero=>simp [hx]
   | succ i=>
    have:=Rf l c i hq.2 (by simpa using hi);simp only [List.getD_cons_succ];omega
  ·rw [List.countP_cons_of_neg (by simpa using hx)]
   have a:l.countP (· < c)=0:=by
    rw [QkD];intro y hy;have:=hq.1 y hy;simp;omega
   rw [a]
   cases i with
   | zero=>simp [hx]
   | succ i=>
    simp only [Qzw] at hi
    have hm:l.getD i 0∈l:=by
     rw [Qq9,Qzj U];exact Qz9 _
    have:=hq.1 _ hm;simp only [List.getD_cons_succ];omega
theorem Acp(n:Nat):iota (n+1)=iota n++[(n:Int)]:=by simp [iota,QxB]
theorem Zb(a p:List UInt8):∀ k,((iota k).map fun x=>cls p (a.drop x.toNat)).countP (· < 1)=(fs a p k).1/\((iota k).map fun x=>cls p (a.drop x.toNat)).countP (· < 2)=(fs a p k).1+(fs a p k).2
 | 0=>by simp [iota,fs]
 | k+1=>by
  obtain⟨b,h2⟩:=Zb a p k;rw [Acp,Qxa,QkQ,QkQ,b,h2,Ags];simp only [Qze,List.map_nil,Qjw,Qq8];unfold cls
  by_cases hp:pre (a.drop k) p=true
  ·rw [if_pos hp,if_pos hp];simp;omega
  ·rw [if_neg hp,if_neg hp]
   by_cases hl:Op.bytesLess (a.drop k) p=true
   ·rw [if_pos hl,if_pos hl];simp;omega
   ·rw [if_neg hl,if_neg hl];simp
theorem found(a p:List UInt8){i:Nat}(hi:i<a.length):pre (a.drop ((DF a).getD i Qq2).toNat) p=decide ((fs a p a.length).1<=i/\i<(fs a p a.length).1+(fs a p a.length).2):=by
 have hlen:i<((DF a).map fun x=>cls p (a.drop x.toNat)).length:=by rw [Qzk,ML];exact hi
 have hasc:((DF a).map fun x=>cls p (a.drop x.toNat)).Pairwise (·<=·):=by
  rw [Qkx];exact(R5 a).imp fun h=>Za h
 have hperm:=(MY a).map fun x=>cls p (a.drop x.toNat);obtain⟨c1,c2⟩:=Zb a p a.length;have a1:=Rf _ 1 i hasc hlen;have a2:=Rf _ 2 i hasc hlen;rw [hperm.countP_eq,c1] at a1;rw [hperm.countP_eq,c2] at a2
 have hg:((DF a).map fun x=>cls p (a.drop x.toNat)).getD i 0=cls p (a.drop ((DF a).getD i Qq2).toNat):=by
  rw [Qq9,Qzj hlen,Qq9,Qzj (by rw [ML];exact hi)];simp
 rw [hg] at a1 a2;rw [Qxz,decide_eq_true_eq]
 have hc:pre (a.drop ((DF a).getD i Qq2).toNat) p=true↔¬ cls p (a.drop ((DF a).getD i Qq2).toNat)<1/\cls p (a.drop ((DF a).getD i Qq2).toNat)<2:=by
  generalize a.drop ((DF a).getD i Qq2).toNat=l;unfold cls
  by_cases hp:pre l p=true
  ·rw [if_pos hp];simp [hp]
  ·rw [if_neg hp]
   split <;> simp [hp]
 rw [hc,a1,a2];omega
def rmx(a:List UInt8)(i:Nat):Nat->Nat
 | 0=>0
 | k+1=>max (rmx a i k) (lcp (a.drop i) (a.drop (i+1+k)))
def tw(a:List UInt8):Nat->Nat×Nat
 | 0=>(0,0)
 | k+1=>if(tw a k).2<rmx a k (a.length - (k+1)) then(k,rmx a k (a.length - (k+1))) else tw a k
theorem V8(x y:UInt8)(l m:List UInt8):Lib.compareBytes (x::l) (y::m)<0↔x.toNat<y.toNat\/x.toNat=y.toNat/\Lib.compareBytes l m<0:=by
 show(if x<y then(-1:Int) else if y<x then 1 else Lib.compareBytes l m)<0↔_
 by_cases a:x<y
 ·rw [if_pos a];have:=Qxf.1 a;exact⟨fun _=>.inl this,fun _=>by decide⟩
 ·rw [if_neg a];have h1' : ¬ x.toNat<y.toNat:=fun h=>a (Qxf.2 h)
  by_cases h2:y<x
  ·rw [if_pos h2];have:=Qxf.1 h2;exact⟨fun h=>absurd h Qqc,fun h=>by omega⟩
  ·rw [if_neg h2];have h2' : ¬ y.toNat<x.toNat:=fun h=>h2 (Qxf.2 h);exact⟨fun h=>.inr ⟨by omega,h⟩,fun h=>by rcases h with h | h;exact absurd h h1';exact h.2⟩
def lt(a:List UInt8)(x y:Nat):Bool:=decide (Lib.compareBytes (a.drop x) (a.drop y)<0)
theorem XX(a:List UInt8)(x:Nat):lt a x x=false:=by
 unfold lt;rw [Vs];decide
theorem Aem{a:List UInt8}{x y:Nat}(h:lt a x y=true):lt a y x=false:=by
 unfold lt at *;have:=of_decide_eq_true h;have:=KI (a.drop x) (a.drop y);exact decide_eq_false U
def op(a:List UInt8):List Nat:=a.length::(DF a).map Int.toNat
theorem Fa(a:List UInt8):(op a).length=a.length+1:=by simp [op,ML]
theorem SB(a:List UInt8):(op a).Perm (Qzv (a.length+1)):=by
 have h:=(MY a).map Int.toNat
 have e:(iota a.length).map Int.toNat=Qzv a.length:=by
  unfold iota;rw [Qx0]
  conv=>rhs;rw [<- List.map_id (Qzv a.length)]
  rfl
 rw [e] at h;unfold op;rw [QxB];exact(h.cons a.length).trans (List.perm_append_comm (l₁:=[a.length]))
theorem Ts(a:List UInt8):(op a).Pairwise fun x y=>lt a x y=true:=by
 unfold op;refine Qz1.2 ⟨fun y hy=>?_,?_⟩
 ·obtain⟨z,hz,rfl⟩:=QzJ.1 hy;have hz:=(V6 a).1 hz;unfold lt;rw [List.drop_length]
  cases hd:a.drop z.toNat with
  | nil=>have:=congrArg Qxy hd;rw [QzA] at this;simp at this;omega
  | cons b l=>rfl
 ·rw [Qkx];exact(R5 a).imp fun h=>decide_eq_true h
theorem V9{α:Type}(f:α->α->Bool)(irr:∀ x,f x x=false)(asy:∀ x y,f x y=true->f y x=false):∀ (l:List α),l.Pairwise (fun x y=>f x y=true)->∀ r (h:r<l.length),l.countP (fun x=>f x l[r])=r
 | x::l,hp,0,_=>by
  have hx:=(Qz1.1 hp).1;simp only [List.getElem_cons_zero,Qx2,irr];rw [QkD.2 (fun y hy=>by rw [asy _ _ (hx y hy)];decide)]
  rfl
 | x::l,hp,r+1,h=>by
  have h':r<l.length:=by simpa using h
  have hx:=(Qz1.1 hp).1;have ih:=V9 f irr asy l (Qz1.1 hp).2 r h';simp only [List.getElem_cons_succ,Qx2,ih,hx l[r] (Qz9 h')]
  rfl
theorem Agt(a:List UInt8){r:Nat}(h:r<(op a).length):(op a).countP (fun x=>lt a x (op a)[r])=r:=V9 (lt a) (XX a) (fun _ _=>Aem) _ (Ts a) r h
theorem WZ(a:List UInt8){r:Nat}(h:r<(op a).length):(op a)[r]<=a.length:=by
 have:=(SB a).mem_iff.1 (Qz9 h);have:=QzX.1 this;omega
theorem Abs{a:List UInt8}{p:Nat}(h:p<=a.length):∃ r,∃ hr:r<(op a).length,(op a)[r]=p:=by
 have hm:p∈op a:=(SB a).mem_iff.2 (QzX.2 U);obtain⟨r,hr,e⟩:=List.getElem_of_mem hm;exact⟨r,hr,e⟩
theorem Aen(a:List UInt8){k r:Nat}(hk:k<(op a).length)(hr:r<(op a).length):lt a (op a)[k] (op a)[r]=true↔k<r:=by
 have hp:=Qjc.1 (Ts a)
 rcases Nat.lt_trichotomy k r with h | h | h
 ·exact⟨fun _=>h,fun _=>hp k r hk hr h⟩
 ·subst h;rw [XX];exact⟨fun h=>(by cases h),fun h=>by omega⟩
 ·rw [Aem (hp r k hr hk h)];exact⟨fun h=>(by cases h),fun h=>by omega⟩
theorem Aeo{a:List UInt8}{k r:Nat}(hk:k<(op a).length)(hr:r<(op a).length)(h:(op a)[k]=(op a)[r]):k=r:=by
 have b:=Aen a hk hr;have h2:=Aen a hr hk;rw [h,XX] at b;rw [h,XX] at h2;simp only [Qxq,false_iff] at b h2;omega
def I4(a:List UInt8)(q:Nat):Int:=if q=0 then -1 else((a.getD (q - 1) Qq2).toNat:Int)
def sym(a:List UInt8):List Int:=(op a).map (I4 a)
theorem ER(a:List UInt8):(sym a).length=a.length+1:=by rw [sym,Qzk,Fa]
theorem MM(a:List UInt8){r:Nat}(h:r<(op a).length):(sym a).getD r Qq2=I4 a (op a)[r]:=by
 unfold sym;rw [Qq9,Qz6,Qzj h];rfl
theorem N1(a:List UInt8)(q:Nat):0<=I4 a q↔1<=q:=by unfold I4;split <;> omega
theorem Aep(a:List UInt8)(q:Nat):I4 a q<256:=by
 unfold I4;split
 ·omega
 ·have:=(a.getD (q - 1) Qq2).toNat_lt;omega
theorem Lj{a:List UInt8}{q:Nat}(b:1<=q)(h:q<=a.length):a.drop (q - 1)=a.getD (q - 1) Qq2::a.drop q:=by
 rw [Qkf (by omega:q - 1<a.length),Qq9,Qzj (by omega:q - 1<a.length),show q - 1+1=q by omega];rfl
def Zc(s:List Int)(r:Nat):Nat:=1+(Qzv s.length).countP fun k=>decide (0<=s.getD k Qq2/\(s.getD k Qq2<s.getD r Qq2\/s.getD k Qq2=s.getD r Qq2/\k<r))
def QF(s:List Int):List Int:=(Qzv s.length).map fun r=>if s.getD r Qq2<0 then 0 else(Zc s r:Int)
theorem Zd(s:List Int):(QF s).length=s.length:=by simp [QF]
theorem VA(s:List Int){r:Nat}(h:r<s.length):(QF s).getD r Qq2=if s.getD r Qq2<0 then 0 else(Zc s r:Int):=by
 unfold QF;rw [Qq9,Qz6,QkA h];rfl
theorem Acq{α β:Type}[Inhabited β](l:List α)(d:α)(f:α->Bool):(Qzv l.length).countP (fun k=>f (l.getD k d))=l.countP f:=by
 have e:l=(Qzv l.length).map fun k=>l.getD k d:=by
  apply List.ext_getElem
  ·simp
  ·intro k a h2;rw [List.getElem_map,List.getElem_range,Qq9,Qzj a];rfl
 conv=>rhs;rw [e,List.countP_map]
 rfl
theorem Xa(a:List UInt8)(g:Nat->Bool):(Qzv (sym a).length).countP (fun k=>g ((op a).getD k 0))=(Qzv (a.length+1)).countP g:=by
 have h:=Acq (β:=Nat) (op a) 0 g;rw [Fa] at h;rw [ER,h,(SB a).countP_eq]
theorem SC(n:Nat)(g:Nat->Bool)(a:g 0=false):(Qzv (n+1)).countP g=(Qzv n).countP fun q=>g (q+1):=by
 rw [List.range_succ_eq_map,Qx2,List.countP_map,a];rfl
theorem opD{a:List UInt8}{k:Nat}(h:k<(op a).length):(op a).getD k 0=(op a)[k]:=by rw [Qq9,Qzj h];rfl
theorem Agu{a:List UInt8}{r r':Nat}(hr:r<(op a).length)(hr':r'<(op a).length)(hp:(op a)[r]=(op a)[r']+1):Zc (sym a) r=r':=by
 have hle:=WZ a hr;generalize hq':(op a)[r']=p' at *;have d:(op a).countP (fun x=>lt a x p')=r':=by have:=Agt a hr';rw [hq'] at this;exact this
 rw [(SB a).countP_eq,QxB,QkQ,Qjw] at d
 have hend:lt a a.length p'=true:=by
  unfold lt;rw [List.drop_length]
  cases hd:a.drop p' with
  | nil=>have:=congrArg Qxy hd;rw [QzA] at this;simp at this;omega
  | cons b l=>rfl
 rw [hend,if_pos Z] at d
 have e:(Qzv (sym a).length).countP (fun k=>decide (0<=(sym a).getD k Qq2/\((sym a).getD k Qq2<(sym a).getD r Qq2\/(sym a).getD k Qq2=(sym a).getD r Qq2/\k<r)))=(Qzv (sym a).length).countP (fun k=>(fun q=>decide (1<=q)&&lt a (q - 1) p') ((op a).getD k 0)):=by
  apply Qk3;intro k hk;have hk:k<(op a).length:=by have:=QzX.1 hk;rw [ER] at this;rw [Fa];exact this
  have hkl:=WZ a hk;rw [MM a hk,MM a hr,opD hk,hp];have hlt:=Aen a hk hr;rw [hp] at hlt;generalize (op a)[k]=q at *;simp only [decide_eq_true_eq,Qzb];rw [N1,<- hlt];rw [hp] at hle
  constructor
  ·rintro⟨c,h2⟩;refine⟨c,?_⟩;have hd:=Lj c hkl;have hd':=Lj (q:=p'+1) U hle;rw [Qkz] at hd';unfold lt;rw [hd,hd'];refine decide_eq_true ((V8 _ _ _ _).2 ?_);unfold I4 at h2;rw [if_neg U,if_neg U,Qkz] at h2
   rcases h2 with h2 | ⟨h2,h3⟩
   ·exact .inl U
   ·exact .inr ⟨by omega,of_decide_eq_true h3⟩
  ·rintro⟨c,h2⟩;refine⟨c,?_⟩;have hd:=Lj c hkl;have hd':=Lj (q:=p'+1) U hle;rw [Qkz] at hd';unfold lt at h2;rw [hd,hd'] at h2;unfold I4;rw [if_neg U,if_neg U,Qkz]
   rcases(V8 _ _ _ _).1 (of_decide_eq_true h2) with h | ⟨h,h'⟩
   ·exact .inl U
   ·exact .inr ⟨by omega,decide_eq_true h'⟩
 unfold Zc;rw [e,Xa a (fun q=>decide (1<=q)&&lt a (q - 1) p'),SC _ _ Qqd]
 have f:(Qzv a.length).countP (fun q=>decide (1<=q+1)&&lt a (q+1 - 1) p')=(Qzv a.length).countP (fun x=>lt a x p'):=by
  apply Qk3;intro k _;simp
 rw [f];omega
end Go.L
end
noncomputable section
namespace Go.L
open Go
def Xb(s:List Int)(c:Int)(k r:Nat):Bool:=decide (0<=s.getD r Qq2/\(s.getD r Qq2<c\/s.getD r Qq2=c/\r<k))
def LB(s:List Int)(c:Int)(k:Nat):List Int:=(Qzv s.length).map fun r=>if Xb s c k r then(Zc s r:Int) else 0
def NX(s:List Int)(c:Int)(k:Nat):Nat:=1+(Qzv s.length).countP (Xb s c k)
theorem Pb(s:List Int)(c:Int)(k:Nat):(LB s c k).length=s.length:=by simp [LB]
theorem AiL(s:List Int)(c:Int)(k:Nat):NX s c k<=1+s.length:=by
 unfold NX;have:=Qjv (p:=Xb s c k) (l:=Qzv s.length);rw [QxQ] at this;omega
theorem Aib{s:List Int}{k:Nat}:NX s (s.getD k Qq2) k=Zc s k:=Z
theorem Ze(s:List Int){c:Int}(hc:0<=c)(k r:Nat):Xb s c (k+1) r=(Xb s c k r||decide (r=k/\s.getD k Qq2=c)):=by
 unfold Xb;rw [Qxz];simp only [Qz8,decide_eq_true_eq]
 constructor
 ·rintro⟨a,h2 | ⟨h2,h3⟩⟩
  ·exact .inl ⟨a,.inl h2⟩
  ·by_cases h:r=k
   ·subst h;exact .inr ⟨Z,h2⟩
   ·exact .inl ⟨a,.inr ⟨h2,by omega⟩⟩
 ·rintro(⟨a,h2 | ⟨h2,h3⟩⟩ | ⟨rfl,h⟩)
  ·exact⟨a,.inl h2⟩
  ·exact⟨a,.inr ⟨h2,by omega⟩⟩
  ·exact⟨by omega,.inr ⟨h,by omega⟩⟩
theorem Abt{s:List Int}{c:Int}(hc:0<=c){k:Nat}(hk:k<s.length):LB s c (k+1)=if s.getD k Qq2=c then(LB s c k).set k (NX s c k) else LB s c k:=by
 apply Qkc;intro r
 by_cases hr:r<s.length
 ·have b:(LB s c (k+1))[r]? = some (if Xb s c (k+1) r then(Zc s r:Int) else 0):=by simp [LB,hr]
  have a:(LB s c k)[r]? = some (if Xb s c k r then(Zc s r:Int) else 0):=by simp [LB,hr]
  rw [b,Ze s hc]
  by_cases h:s.getD k Qq2=c
  ·rw [if_pos h,Qjk,Pb,a]
   by_cases hkr:k=r
   ·subst hkr;rw [if_pos Z,if_pos hk];have:(Xb s c k k||decide (k=k/\s.getD k Qq2=c))=true:=by rw [decide_eq_true (⟨Z,h⟩:k=k/\s.getD k Qq2=c),Bool.or_true]
    rw [this,if_pos Z,<- Aib,h]
   ·rw [if_neg hkr];have:decide (r=k/\s.getD k Qq2=c)=false:=decide_eq_false (fun e=>hkr e.1.symm);rw [this,Qjx]
  ·rw [if_neg h,a];have:decide (r=k/\s.getD k Qq2=c)=false:=decide_eq_false (fun e=>h e.2);rw [this,Qjx]
 ·rw [Qxe (by rw [Pb];omega)]
  split
  ·rw [Qxe (by rw [QkK,Pb];omega)]
  ·rw [Qxe (by rw [Pb];omega)]
theorem Abu{s:List Int}{c:Int}(hc:0<=c){k:Nat}(hk:k<s.length):NX s c (k+1)=if s.getD k Qq2=c then NX s c k+1 else NX s c k:=by
 unfold NX
 have e:(Qzv s.length).countP (Xb s c (k+1))=(Qzv s.length).countP (Xb s c k)+(Qzv s.length).countP (fun r=>decide (r=k/\s.getD k Qq2=c)):=by
  generalize Qzv s.length=l
  induction l with
  | nil=>rfl
  | cons r l ih=>
   rw [Qx2,Qx2,Qx2,ih,Ze s hc]
   by_cases h:r=k/\s.getD k Qq2=c
   ·have h2:Xb s c k r=false:=by
     unfold Xb;rw [h.1,h.2];exact decide_eq_false U
    rw [h2,decide_eq_true h];simp only [Bool.or_true,if_true,Qxq,if_false];omega
   ·rw [decide_eq_false h,Qjx];simp only [Qxq,if_false];omega
 rw [e]
 by_cases h:s.getD k Qq2=c
 ·rw [if_pos h]
  have:(Qzv s.length).countP (fun r=>decide (r=k/\s.getD k Qq2=c))=1:=by
   have a:(Qzv s.length).countP (fun r=>decide (r=k/\s.getD k Qq2=c))=(Qzv s.length).count k:=by
    unfold List.count;apply Qk3;intro r _;rw [decide_eq_true_eq,beq_iff_eq];exact⟨fun e=>e.1,fun e=>⟨e,h⟩⟩
   rw [a,List.nodup_range.count,if_pos (QzX.2 hk)]
  omega
 ·rw [if_neg h];have:(Qzv s.length).countP (fun r=>decide (r=k/\s.getD k Qq2=c))=0:=QkD.2 (fun r _=>by rw [decide_eq_false (fun e:r=k/\s.getD k Qq2=c=>h e.2)];decide);omega
theorem Zf(s:List Int)(c:Int){r:Nat}(hr:r<s.length):Xb s c s.length r=Xb s (c+1) 0 r:=by
 unfold Xb;rw [Qxz];simp only [decide_eq_true_eq];omega
theorem Agv(s:List Int)(c:Int):LB s c s.length=LB s (c+1) 0:=by
 unfold LB;apply Qx9;intro r hr;rw [Zf s c (QzX.1 hr)]
theorem Agw(s:List Int)(c:Int):NX s c s.length=NX s (c+1) 0:=by
 unfold NX;rw [Qk3 fun r hr=>by rw [Zf s c (QzX.1 hr)]]
theorem Agx(s:List Int):LB s 0 0=Qzz s.length 0:=by
 unfold LB
 rw [Qx9 (g:=fun _=>(0:Int)) (fun r _=>by
  have:Xb s 0 0 r=false:=decide_eq_false U;rw [this];rfl)]
 rw [List.map_const',QxQ]
theorem Agy(s:List Int):NX s 0 0=1:=by
 unfold NX
 rw [QkD.2 (fun r _=>by
  have:Xb s 0 0 r=false:=decide_eq_false U;rw [this];decide)]
theorem Aic{s:List Int}(h:∀ r,r<s.length->s.getD r Qq2<256):LB s 256 0=QF s:=by
 unfold LB QF;apply Qx9;intro r hr;have:=h r (QzX.1 hr)
 by_cases a:s.getD r Qq2<0
 ·have e:Xb s 256 0 r=false:=decide_eq_false U;rw [e,if_pos a];rfl
 ·have e:Xb s 256 0 r=true:=decide_eq_true U;rw [e,if_neg a];rfl
def wlk(s B:List Int):Nat->List Int->Nat->(List Int×List Int×List Int)×Bool
 | 0,A,r=>((s,B,A.set r 0),decide (s.getD r Qq2 = -1))
 | i+1,A,r=>if s.getD r Qq2 = -1 then(([],[],[]),false) else wlk s B i (A.set r ((i+1:Nat):Int)) (B.getD r Qq2).toNat
end Go.L
namespace Go.Proofs.YtekmbcbgknmhiaaGreatDoor
open Go Go.L
theorem Aaq{s:List Int}{c:Nat}(hl:s.length<=2049)(hc:c<256):
  Hq s (c:Int) (LB s c 0,(NX s c 0:Int),0)=some (.inl (LB s ((c+1:Nat):Int) 0,(NX s ((c+1:Nat):Int) 0:Int),((c+1:Nat):Int))):=by
 have a:(0:Int)<=(c:Int):=by omega
 refine DJ (b:=Dg s (c:Int)) (fun k=>(LB s c k,(NX s c k:Int),(k:Int))) s.length (fun k hk=>?_) ?_ 0
 ·unfold Dg;simp only;have:=AiL s c k;rw [if_pos U,Ad U,Qq8]
  by_cases h:s.getD k Qq2=(c:Int)
  ·rw [if_pos h,Ad (by rw [Pb];omega),Ad (by constructor <;> omega),Ad (by constructor <;> omega),Abt a hk,if_pos h,Abu a hk,if_pos h]
   rfl
  ·rw [if_neg h,Ad (by constructor <;> omega),Abt a hk,if_neg h,Abu a hk,if_neg h]
   rfl
 ·unfold Dg;simp only;rw [if_neg U];unfold F1;rw [Ad (by constructor <;> omega),Agv,Agw]
  rfl
theorem Xc{s B:List Int}(hl:s.length<=2049)(hB:B.length=s.length)(hr:∀ r,r<s.length->0<=B.getD r Qq2/\B.getD r Qq2<s.length):∀ (i:Nat) (A:List Int) (r:Nat),i<=s.length->A.length=s.length->r<s.length->
  F4 s s B (A,(r:Int),(i:Int))=some (wlk s B i A r)
 | 0,A,r,_,hA,h=>by
  refine AP (b:=C2 s s B) (m:=some _) ?_;unfold C2;simp only;rw [if_neg U];unfold F3 F2;rw [Ad U,Ad U,Qq8]
  rfl
 | i+1,A,r,hi,hA,h=>by
  have hb:C2 s s B (A,(r:Int),((i+1:Nat):Int))=if s.getD r Qq2 = -1 then some (.inr (([],[],[]),false)) else some (.inl (A.set r ((i+1:Nat):Int),(((B.getD r Qq2).toNat:Nat):Int),(i:Int))):=by
   unfold C2;simp only;rw [if_pos U,Ad U,Ad U,Qq8]
   split
   ·rfl
   ·rw [Ad U,Ad (by constructor <;> omega),Int.toNat_of_nonneg (hr r h).1,show((i+1:Nat):Int) - 1=(i:Int) by omega]
  unfold F4 wlk
  by_cases a:s.getD r Qq2 = -1
  ·rw [if_pos a] at hb ⊢;exact AP (m:=some _) hb
  ·rw [if_neg a] at hb ⊢;rw [Bg hb];have:=hr r h;exact Xc hl hB hr i _ _ U (by rw [QkK];exact hA) U
theorem Aeq{s:List Int}(a:0<s.length)(hl:s.length<=2049)(hs:∀ r,r<s.length->s.getD r Qq2<256)(hr:∀ r,r<s.length->(QF s).getD r Qq2<s.length):
  Ex s=some (wlk s (QF s) (s.length - 1) (Qzz s.length 0) 0):=by
 have e:((s.length:Int) - 1+1).toNat=s.length:=by omega
 unfold Ex;rw [Ad (by constructor <;> omega),Ad (by constructor <;> omega),Ad (by constructor <;> omega),Ad U,Ad U,e];unfold F6;have hpos:∀ r,r<s.length->0<=(QF s).getD r Qq2/\(QF s).getD r Qq2<s.length:=fun r h=>⟨by rw [VA s h];split <;> omega,hr r h⟩
 have key:=DJ (b:=Dh s s (Qzz s.length 0)) (m:=some (wlk s (QF s) (s.length - 1) (Qzz s.length 0) 0)) (fun c=>(LB s c 0,(NX s c 0:Int),(c:Int))) 256 (fun c hc=>by
  unfold Dh;simp only;rw [if_pos U];exact Aaq hl hc) (by
  unfold Dh;simp only;rw [if_neg U];unfold F5;have:=Xc hl (Zd s) hpos (s.length - 1) (Qzz s.length 0) 0 U Qqd a;rw [show LB s ((256:Nat):Int) 0=QF s from Aic hs];rw [show(s.length:Int) - 1=((s.length - 1:Nat):Int) by omega];exact congrArg (Qq7 Sum.inr) this) 0 (hi:=(by omega))
 rw [show LB s ((0:Nat):Int) 0=Qzz s.length 0 from Agx s,show NX s ((0:Nat):Int) 0=1 from Agy s] at key;exact key
end Go.Proofs.YtekmbcbgknmhiaaGreatDoor
end
noncomputable section
namespace Go.L
open Go
theorem Zg{a:List UInt8}{r r':Nat}(hr:r<(op a).length)(hr':r'<(op a).length)(hp:(op a)[r]=(op a)[r']+1):(QF (sym a)).getD r Qq2=(r':Int):=by
 rw [VA _ (by rw [ER,<- Fa];exact hr),MM a hr];have h:0<=I4 a (op a)[r]:=(N1 a _).2 U;rw [if_neg U,Agu hr hr' hp]
theorem Agz{a:List UInt8}{r:Nat}(h:r<(sym a).length):(QF (sym a)).getD r Qq2<(sym a).length:=by
 have hr:r<(op a).length:=by rw [Fa,<- ER];exact h
 by_cases b:(op a)[r]=0
 ·rw [VA _ h,MM a hr,b];have:I4 a 0<0:=by unfold I4;rw [if_pos Z];decide
  rw [if_pos this];omega
 ·have hle:=WZ a hr;obtain⟨r',hr',e⟩:=Abs (a:=a) (p:=(op a)[r] - 1) U;rw [Zg hr hr' U];rw [Fa,<- ER] at hr';omega
theorem Aid{a:List UInt8}{r:Nat}(h:r<(sym a).length):(sym a).getD r Qq2<256:=by
 rw [MM a (by rw [Fa,<- ER];exact h)];exact Aep a _
def opI(a:List UInt8):List Int:=(op a).map fun x:Nat=>(x:Int)
theorem VB(a:List UInt8):(opI a).length=a.length+1:=by rw [opI,Qzk,Fa]
theorem Zh(a:List UInt8):∀ (p:Nat) (A:List Int) (r:Nat) (hr:r<(op a).length),(op a)[r]=p->A.length=a.length+1->(∀ k (hk:k<(op a).length),p<(op a)[k]->A[k]? = some (((op a)[k]:Nat):Int))->
  wlk (sym a) (QF (sym a)) p A r=((sym a,QF (sym a),opI a),true)
 | 0,A,r,hr,hp,hA,hk=>by
  have d:A.set r 0=opI a:=by
   apply Qkc;intro k
   by_cases hkl:k<(op a).length
   ·have e:(opI a)[k]? = some (((op a)[k]:Nat):Int):=by simp [opI,hkl]
    rw [Qjk,e]
    by_cases h:r=k
    ·subst h;rw [if_pos Z,if_pos (by rw [hA,<- Fa];exact hr),hp];rfl
    ·rw [if_neg h];refine hk k hkl (Nat.pos_of_ne_zero fun f=>h (Aeo hr hkl (by rw [hp,f])))
   ·rw [Qxe (by rw [QkK,hA,<- Fa];omega),Qxe (by rw [VB,<- Fa];omega)]
  unfold wlk;rw [d,MM a hr,hp]
  rfl
 | p+1,A,r,hr,hp,hA,hk=>by
  have hle:=WZ a hr;obtain⟨r',hr',e⟩:=Abs (a:=a) (p:=p) U;have hn:0<=I4 a (p+1):=(N1 a _).2 U;unfold wlk;rw [MM a hr,hp,if_neg U,Zg hr hr' U,Qq8];refine Zh a p _ r' hr' e (by rw [QkK];exact hA) fun k b g=>?_;rw [Qjk]
  by_cases h:r=k
  ·subst h;rw [if_pos Z,if_pos (by rw [hA,<- Fa];exact hr),hp]
  ·rw [if_neg h];refine hk k b ?_
   rcases Qxx (p+1) (op a)[k] with c | c
   ·exact c
   ·exact absurd (Aeo hr b U) h
theorem Ag0(a:List UInt8):(op a)[0]'(by rw [Fa];omega)=a.length:=Z
def idx(a:List UInt8):List Int×List Int×List Int:=(sym a,QF (sym a),opI a)
end Go.L
namespace Go.Proofs.YtekmbcbgknmhiaaGreatDoor
open Go Go.L
theorem Acr{a:List UInt8}(h:a.length<=2048):Ex (sym a)=some (idx a,true):=by
 rw [Aeq (by rw [ER];omega) (by rw [ER];omega) (fun _=>Aid) (fun _=>Agz),ER,Qkz];rw [Zh a a.length _ 0 (by rw [Fa];omega) (Ag0 a) Qqd (fun k hk h=>by have:=WZ a hk;omega)]
 rfl
theorem Ag1{x:Int}{l:List Int}(h:l.length<=2048):E5 [[x],l]=some (x::l):=by
 have a:∀ s:Int×Int,Gy [[x],l] s=Go.L.run (BA [[x],l]) s:=fun _=>Z;have hn:(([[x],l]:List (List Int)).length:Int)=2:=Z;have b:∀ s:List Int×Int,ED [[x],l] s=Go.L.run (B9 [[x],l]) s:=fun _=>Z
 have a1:BA [[x],l] (0,0)=some (.inl (1,1)):=by
  unfold BA;rfl
 have a2:BA [[x],l] (1,1)=some (.inl (1+(l.length:Int),2)):=by
  unfold BA;simp only;have e:([[x],l]:List (List Int)).getD (1:Int).toNat Qq2=l:=Z;rw [hn,if_pos Qqc,Ad Qqc,e,Ad (by constructor <;> omega),if_neg U,Ad (by constructor <;> omega)]
  rfl
 have c:B9 [[x],l] ([],0)=some (.inl ([x],1)):=by
  unfold B9;rfl
 have d:B9 [[x],l] ([x],1)=some (.inl (x::l,2)):=by
  unfold B9;simp only;have e:([[x],l]:List (List Int)).getD (1:Int).toNat Qq2=l:=Z;rw [hn,if_pos Qqc,Ad Qqc,e,Ad (by simp only [QxD];constructor <;> omega),Ad Qqc]
  rfl
 have f:B9 [[x],l] (x::l,2)=(some (x::l)).map .inr:=by
  unfold B9;simp only;rw [hn,if_neg Qqc];rfl
 have a3:BA [[x],l] (1+(l.length:Int),2)=(some (x::l)).map .inr:=by
  unfold BA;simp only;rw [hn,if_neg Qqc];unfold EE Hc F7;rw [if_neg U,Ad Qqc,Ad (by constructor <;> omega),if_pos U,Ad U]
  show Qq7 Sum.inr (ED [[x],l] ([],0))=_
  rw [b,Bg c,Bg d,AP f]
 unfold E5;rw [a,Bg a1,Bg a2,AP a3]
theorem Aer(a:List UInt8):opI a=(a.length:Int)::DF a:=by
 unfold opI op;rw [Qze,Qx0]
 congr 1
 conv=>rhs;rw [<- List.map_id (DF a)]
 apply Qx9;intro x hx;have:=(V6 a).1 hx
 show((x.toNat:Nat):Int)=x
 omega
theorem Ag2(a:List UInt8){r:Nat}(h:r<(op a).length):(opI a).getD r Qq2=(((op a)[r]:Nat):Int):=by
 unfold opI;rw [Qq9,Qz6,Qzj h];rfl
theorem VC(a:List UInt8):J8 a=some (if a.length<=2048 then(idx a,(0,0)) else(([],[],[]),(3,-1))):=by
 unfold J8;rw [Aco]
 by_cases h:a.length<=2048
 ·rw [if_pos h,if_pos h];rw [Qq6,if_pos ⟨Z,Z⟩,Ad (by constructor <;> omega),Ad U,Ag1 (by rw [ML];exact h),Qq6,<- Aer];have hl:=VB a;have ho:=Fa a
  have key:=DJ (b:=F8 a (opI a)) (m:=some (idx a,((0:Int),(0:Int)))) (fun k=>((sym a).take k,(k:Int))) (a.length+1) (fun k hk=>by
   unfold F8;simp only;have hk':k<(op a).length:=by omega
   have hle:=WZ a hk';have htk:((sym a).take k).length=k:=by rw [QzK,ER];omega
   have hs:(sym a).take (k+1)=(sym a).take k++[I4 a (op a)[k]]:=by
    rw [QxJ];have:(sym a)[k]? = some (I4 a (op a)[k]):=by simp [sym,hk']
    rw [this];rfl
   rw [if_pos U,Ad U,Qq8,Ag2 a hk']
   by_cases c:(op a)[k]=0
   ·rw [c] at hs ⊢;rw [if_pos (show((0:Nat):Int)=0 from Z),Ad (by rw [htk];simp only [QxD];constructor <;> omega),Ad (by constructor <;> omega),hs]
    rfl
   ·rw [if_neg U,Ad (by constructor <;> omega),Ad U,Ad (by rw [htk];simp only [QxD];constructor <;> omega),Ad (by constructor <;> omega),hs];have d:(((op a)[k]:Int) - 1).toNat=(op a)[k] - 1:=by omega
    unfold I4;rw [if_neg c,d]
    rfl) (by
   unfold F8;simp only;rw [if_neg U,Qxj (by rw [ER];omega)];unfold IZ;rw [Acr h]
   rfl) 0 (hi:=(by omega))
  exact key
 ·rw [if_neg h,if_neg h];rfl
end Go.Proofs.YtekmbcbgknmhiaaGreatDoor
end
noncomputable section
namespace Go.Proofs.YtekmbcbgknmhiaaGreatDoor
open Go Go.L
theorem Aes{a:List UInt8}(hs:a.length<=2048):Jh a=some (Ws a,(0,0)):=by
 unfold Jh;rw [if_neg U,TL U]
 rfl
theorem Aar{a:List UInt8}(hs:2048<a.length):Jh a=some ([],(3,-1)):=by
 unfold Jh;rw [if_pos U]
 rfl
end Go.Proofs.YtekmbcbgknmhiaaGreatDoor
end
noncomputable section
namespace Go.L
open Go Go.Proofs.YtekmbcbgknmhiaaGreatDoor
abbrev Mm:=Int×Int
abbrev HM:=List (List UInt8×List Mm)
section
variable {κ β:Type} [DecidableEq κ]
theorem VD(d:β)(k k':κ)(y:β):∀ M:List (κ×β),BT d k' (FT k y M)=if k'=k then y else BT d k' M
 | []=>by
  unfold FT BT
  by_cases h:k'=k
  ·rw [if_pos h,if_pos h]
  ·rw [if_neg h,if_neg h];rfl
 | (a,z)::l=>by
  unfold FT
  by_cases h:k=a
  ·rw [if_pos h];subst h
   by_cases b:k'=k
   ·simp only [BT];rw [if_pos b,if_pos b]
   ·simp only [BT];rw [if_neg b,if_neg b,if_neg b]
  ·rw [if_neg h];simp only [BT];rw [VD d k k' y l]
   by_cases b:k'=a
   ·rw [if_pos b,if_pos b,if_neg (fun e=>h (e.symm.trans b))]
   ·rw [if_neg b,if_neg b]
theorem Tt(k:κ)(y:β):∀ M:List (κ×β),(FT k y M).map Qq5=if k∈M.map Qq5 then M.map Qq5 else M.map Qq5++[k]
 | []=>by simp [FT]
 | (a,z)::l=>by
  unfold FT
  by_cases h:k=a
  ·rw [if_pos h];simp [h]
  ·rw [if_neg h,Qze,Tt k y l,Qze]
   by_cases b:k∈l.map Qq5
   ·rw [if_pos b,if_pos (QzC _ b)]
   ·rw [if_neg b,if_neg (by simp only [Qzy,not_or];exact⟨h,b⟩)]
    rfl
theorem Tu(d:β)(k:κ):∀ M:List (κ×β),k∉M.map Qq5->BT d k M=d
 | [],_=>rfl
 | (a,z)::l,h=>by
  simp only [Qze,Qzy,not_or] at h;unfold BT;rw [if_neg h.1];exact Tu d k l h.2
end
def Nh(M:HM)(p:List UInt8×Mm):HM:=FT p.1 (BT [] p.1 M++[p.2]) M
def NR(P:List (List UInt8×Mm))(w:List UInt8):List Mm:=(P.filter fun p=>p.1=w).map Prod.snd
theorem add_get(w:List UInt8):∀ (P:List (List UInt8×Mm)) (M:HM),BT [] w (P.foldl Nh M)=BT [] w M++NR P w
 | [],M=>by simp [NR]
 | p::P,M=>by
  rw [List.foldl_cons,add_get w P];unfold Nh;rw [VD];unfold NR
  by_cases h:w=p.1
  ·subst h;simp
  ·rw [if_neg h];rw [List.filter_cons_of_neg (by simpa using fun e=>h e.symm)]
theorem VE:∀ (P:List (List UInt8×Mm)) (M:HM) (k:List UInt8),k∈(P.foldl Nh M).map Qq5↔k∈M.map Qq5\/k∈P.map Qq5
 | [],M,k=>by simp
 | p::P,M,k=>by
  rw [List.foldl_cons,VE P];unfold Nh;rw [Tt]
  by_cases h:p.1∈M.map Qq5
  ·rw [if_pos h,Qze,Qzy]
   constructor
   ·rintro(a | a)
    ·exact .inl a
    ·exact .inr (.inr a)
   ·rintro(a | a | a)
    ·exact .inl a
    ·exact .inl (a ▸ h)
    ·exact .inr a
  ·rw [if_neg h,Qze,Qzy,QzQ,QzB]
   constructor
   ·rintro((a | a) | a)
    ·exact .inl a
    ·exact .inr (.inl a)
    ·exact .inr (.inr a)
   ·rintro(a | a | a)
    ·exact .inl (.inl a)
    ·exact .inl (.inr a)
    ·exact .inr a
theorem Tv:∀ (P:List (List UInt8×Mm)) (M:HM),(M.map Qq5).Nodup->((P.foldl Nh M).map Qq5).Nodup
 | [],_,h=>h
 | p::P,M,h=>by
  rw [List.foldl_cons];refine Tv P _ ?_;unfold Nh;rw [Tt]
  by_cases c:p.1∈M.map Qq5
  ·rw [if_pos c];exact h
  ·rw [if_neg c];refine List.nodup_append.2 ⟨h,by simp,fun a ha b hb e=>?_⟩;rw [QzB] at hb;exact c (hb ▸ e ▸ ha)
theorem PD(P:List (List UInt8×Mm))(w:List UInt8):(NR P w).length<=P.length:=by
 unfold NR;rw [Qzk];exact Qkd _ _
def Ie(i:Int)(l:List W):List (List UInt8×Mm):=(l.zipIdx).map fun x=>(x.1.1,(i,((x.2:Nat):Int)))
theorem MZ(i:Int)(l:List W):(Ie i l).length=l.length:=by unfold Ie;rw [Qzk,List.length_zipIdx]
theorem TP(i:Int)(l:List W)(k:Nat)(hk:k<l.length):(Ie i l)[k]? = some ((l.getD k Qq2).1,(i,(k:Int))):=by
 unfold Ie;rw [Qz6,List.getElem?_zipIdx,Qzj hk,Qq9,Qzj hk];simp
theorem XY(i:Int)(l:List W)(k:Nat)(hk:k<l.length)(M:HM):((Ie i l).take (k+1)).foldl Nh M=Nh (((Ie i l).take k).foldl Nh M) ((l.getD k Qq2).1,(i,(k:Int))):=by
 rw [QxJ,TP i l k hk,List.foldl_append]
 rfl
def Gs:Nat->List (List UInt8)->List (List UInt8×Mm)
 | _,[]=>[]
 | i,t::r=>Ie (i:Int) (Ws t)++Gs (i+1) r
theorem Xd:∀ (i:Nat) (r:List (List UInt8)),(∀ t∈r,t.length<=2048)->(Gs i r).length<=r.length * 2049
 | _,[],_=>by simp [Gs]
 | i,t::r,h=>by
  unfold Gs;rw [Qzu,MZ,Qzw];have a:=XL t;have h2:=Xd (i+1) r (fun x hx=>h x (QzC _ hx));have h3:=h t (Qz0 ..);omega
end Go.L
namespace Go.L
def N2:Nat->List (List UInt8)->Option Nat
 | _,[]=>none
 | i,t::r=>if 2048<t.length then some i else N2 (i+1) r
end Go.L
namespace Go.Proofs.YtekmbcbgknmhiaaGreatDoor
open Go Go.L
theorem Aet(i:Nat)(l:List W)(M:HM)(hl:l.length<=3000)(hi:i<=100)(hM:∀ w,(BT [] w M).length<=1000000):
  Ka (i:Int) (l,(0,0)) (M,0)=some (.inl ((Ie (i:Int) l).foldl Nh M,((i+1:Nat):Int))):=by
 unfold Ka
 have key:=DJ (b:=GU (i:Int) (l,(0,0))) (m:=some (.inl ((Ie (i:Int) l).foldl Nh M,((i+1:Nat):Int)))) (fun k=>(((Ie (i:Int) l).take k).foldl Nh M,((k:Nat):Int))) l.length (fun k hk=>by
  unfold GU;simp only
  have a:(BT [] (l.getD k Qq2).1 (((Ie (i:Int) l).take k).foldl Nh M)).length<=1003000:=by
   rw [add_get,Qzu];have h2:=PD ((Ie (i:Int) l).take k) (l.getD k Qq2).1;rw [QzK,MZ] at h2;have h3:=hM (l.getD k Qq2).1;omega
  rw [if_pos U,Ad ⟨by omega,by omega⟩,Qq8,Ad (by constructor <;> omega),Ad (by constructor <;> omega),XY (i:Int) l k hk M]
  rfl) (by
  unfold GU JZ;simp only;rw [if_neg U,Ad (by constructor <;> omega),Qxj (by rw [MZ];exact Qzx _)]
  congr 3) 0 (hi:=(by omega))
 exact key
theorem Xe(items:List (List UInt8))(hn:items.length<=64):∀ (r:List (List UInt8)) (i:Nat) (M:HM),items.drop i=r->i<=items.length->(∀ w,(BT [] w M).length<=i * 3000)->
  run (EH items) (M,(i:Int))=match N2 i r with | some j=>some ((0,[]),(3,(j:Int))) | none=>HJ items ((Gs i r).foldl Nh M)
 | [],i,M,hd,hi,hM=>by
  have hlen:=congrArg Qxy hd;rw [QzA,Qzd] at hlen;unfold N2 Gs;refine AP ?_;unfold EH;simp only;rw [if_neg U]
  rfl
 | t::r,i,M,hd,hi,hM=>by
  have hlen:=congrArg Qxy hd;rw [QzA,Qzw] at hlen
  have hg:items.getD i Qq2=t:=by
   have:=congrArg (·[0]?) hd;simp only [Qxw,Qx7,Qxk] at this;rw [Qq9,this]
   rfl
  have hd':items.drop (i+1)=r:=by rw [<- Qkk,hd];rfl
  unfold N2
  by_cases h:2048<t.length
  ·rw [if_pos h];refine AP ?_;unfold EH;simp only;rw [if_pos U,Ad ⟨by omega,by omega⟩,Qq8,hg,Aar h,Qq6,if_neg Qqd]
   rfl
  ·rw [if_neg h];have hw:=XL t
   have hb:EH items (M,(i:Int))=some (.inl ((Ie (i:Int) (Ws t)).foldl Nh M,((i+1:Nat):Int))):=by
    unfold EH;simp only;rw [if_pos U,Ad ⟨by omega,by omega⟩,Qq8,hg,Aes U,Qq6,if_pos ⟨Z,Z⟩];exact Aet i (Ws t) M U U (fun w=>by have:=hM w;omega)
   rw [Bg hb,Xe items hn r (i+1) _ hd' U (fun w=>by
    rw [add_get,Qzu];have a:=PD (Ie (i:Int) (Ws t)) w;rw [MZ] at a;have h2:=hM w;omega)]
   have e:(Gs i (t::r)).foldl Nh M=(Gs (i+1) r).foldl Nh ((Ie (i:Int) (Ws t)).foldl Nh M):=by
    rw [Gs,List.foldl_append]
   rw [e]
theorem Acs(items:List (List UInt8)):Ji items=if 64<items.length then some ((0,[]),(2,-1)) else match N2 0 items with | some j=>some ((0,[]),(3,(j:Int))) | none=>HJ items ((Gs 0 items).foldl Nh []):=by
 unfold Ji
 by_cases h:64<items.length
 ·rw [if_pos U,if_pos h]
  rfl
 ·rw [if_neg U,if_neg h];exact Xe items U items 0 [] Z U (fun w=>by simp [BT])
end Go.Proofs.YtekmbcbgknmhiaaGreatDoor
end
noncomputable section
namespace Go.L
open Go Go.Proofs.YtekmbcbgknmhiaaGreatDoor
theorem VF{cur:List UInt8}{fr at' n:Nat}(h:cur.length<=n):∀ w∈fin cur fr at',w.1.length<=n:=by
 intro w hw;unfold fin at hw
 split at hw
 ·cases hw
 ·rw [QzB.1 hw];exact h
theorem VG{a:List UInt8}:∀ (f at':Nat) (cur:List UInt8) (fr:Nat),at'<=a.length->cur.length<=at'->∀ w∈V0 a f at' cur fr,w.1.length<=a.length
 | 0,at',cur,fr,h,hc=>VF U
 | f+1,at',cur,fr,h,hc=>by
  intro w hw;unfold V0 at hw
  split at hw
  ·rename_i b
   split at hw
   ·rcases QzQ.1 hw with hw | hw
    ·exact VF U w hw
    ·exact VG f (at'+1) [] (at'+1) U Qqd w hw
   ·exact VG f _ _ fr (QB b) (by rw [Qzu,XH b];omega) w hw
  ·exact VF U w hw
theorem Zi(a:List UInt8):∀ w∈Ws a,w.1.length<=a.length:=VG _ 0 [] 0 (Qz3 _) (Qzx _)
theorem VH:∀ (i:Nat) (r:List (List UInt8)),(∀ t∈r,t.length<=2048)->∀ k∈(Gs i r).map Qq5,k.length<=2048
 | _,[],_,k,hk=>by cases hk
 | i,t::r,h,k,hk=>by
  unfold Gs at hk;rw [Qxa] at hk
  rcases QzQ.1 hk with hk | hk
  ·obtain⟨x,hx,rfl⟩:=QzJ.1 hk;unfold Ie at hx;obtain⟨y,hy,rfl⟩:=QzJ.1 hx
   have a:y.1∈Ws t:=by
    have:=List.mem_zipIdx' hy;rw [this.2];exact Qz9 _
   exact Qz2 (Zi t y.1 a) (h t (Qz0 ..))
  ·exact VH (i+1) r (fun x hx=>h x (QzC _ hx)) k hk
def Rr(M:HM):HM:=((M.map Qq5).mergeSort leB).map fun k=>(k,BT [] k M)
theorem Zj(M:HM):(Rr M).length=M.length:=by unfold Rr;rw [Qzk,List.length_mergeSort,Qzk]
end Go.L
namespace Go.Proofs.YtekmbcbgknmhiaaGreatDoor
open Go Go.L
theorem Aas(n:Int)(M:HM)(hf:S2 M)(hm:M.length<=1000000):Lu n M=HI n (Rr M):=by
 unfold Lu M5;rw [Ad hf,Qq6];unfold LM;have hl:((M.map Qq5).mergeSort leB).length=M.length:=by rw [List.length_mergeSort,Qzk]
 have key:=DJ (b:=GS n M ((M.map Qq5).mergeSort leB)) (m:=HI n (Rr M)) (fun k=>((Rr M).take k,((k:Nat):Int))) M.length (fun k hk=>by
  unfold GS;simp only
  have a:(Rr M).take (k+1)=(Rr M).take k++[(((M.map Qq5).mergeSort leB).getD k Qq2,BT [] (((M.map Qq5).mergeSort leB).getD k Qq2) M)]:=by
   rw [QxJ]
   congr 1
   unfold Rr;rw [Qz6,Qq9,Qzj U]
   rfl
  have h2:((Rr M).take k).length<=1000000:=by rw [QzK];omega
  rw [if_pos U,Ad ⟨by omega,by omega⟩,Qq8,Ad (by rw [QxD];constructor <;> omega),Ad (by constructor <;> omega),a]
  rfl) (by
  unfold GS;simp only;rw [if_neg U,Qxj (by rw [Zj];exact Qzx _)]) 0 (hi:=(by omega))
 exact key
end Go.Proofs.YtekmbcbgknmhiaaGreatDoor
namespace Go.L
open Go
def QG(n:Nat):Nat:=if n=0 then 0 else n.log2+1
theorem XZ{n k:Nat}(h:n<2 ^ k):QG n<=k:=by
 unfold QG
 split
 ·omega
 ·rename_i a;have:=(Nat.log2_lt a).2 h;omega
theorem Zk{n k:Nat}(h:2 ^ k<=n):QG n=QG (n / 2 ^ k)+k:=by
 have hp:0<2 ^ k:=Nat.two_pow_pos k;have hn:n≠0:=by omega
 have hm:n / 2 ^ k≠0:=by
  have:=Nat.div_pos h hp;omega
 unfold QG;rw [if_neg hn,if_neg hm]
 have a:n.log2<=(n / 2 ^ k).log2+k:=by
  have h2:n / 2 ^ k<2 ^ ((n / 2 ^ k).log2+1):=Nat.lt_log2_self
  have h3:n<2 ^ ((n / 2 ^ k).log2+1+k):=by
   rw [Nat.pow_add];exact(Nat.div_lt_iff_lt_mul hp).1 h2
  have:=(Nat.log2_lt hn).2 h3;omega
 have h2:(n / 2 ^ k).log2+k<=n.log2:=by
  rw [Nat.le_log2 hn,Nat.pow_add];exact Qz2 (Qky _ (Nat.log2_self_le hm)) (Nat.div_mul_le_self n (2 ^ k))
 omega
end Go.L
namespace Go.Proofs.YtekmbcbgknmhiaaGreatDoor
open Go Go.L
theorem Ajr:∀ i:Fin 256,DY ((i.val:Nat):Int) 0=some ((QG i.val:Nat):Int):=by decide +kernel
theorem Aeu{s:Nat}(hs:s<256){c:Int}(b:0<=c)(d:c<=100):DY (s:Int) c=some (c+((QG s:Nat):Int)):=by
 have h:=Ajr ⟨s,hs⟩;have hb:QG s<=8:=XZ U;simp only at h;unfold DY at h ⊢;obtain⟨a,h⟩:=G2 h;obtain⟨_,h⟩:=G2 h;have hT:=Option.some.inj h;rw [Int.zero_add] at hT;rw [Ad a,hT,Ad (by constructor <;> omega)]
theorem Aev{n:Nat}(hn:n<16777216):Ik (n:Int)=some ((QG n:Nat):Int):=by
 unfold Ik Gh Gg;rw [if_neg U]
 by_cases a:65536<=n
 ·have e:(n:Int) / 65536=((n / 65536:Nat):Int):=by omega
  rw [if_pos U,Ad (by constructor <;> omega),e,if_neg U,Aeu U U U,Zk (n:=n) (k:=16) U]
  congr 1
  show 16+((QG (n / 65536):Nat):Int)=((QG (n / 65536)+16:Nat):Int)
  omega
 ·rw [if_neg U]
  by_cases h2:256<=n
  ·have e:(n:Int) / 256=((n / 256:Nat):Int):=by omega
   rw [if_pos U,Ad (by constructor <;> omega),e,Aeu U U U,Zk (n:=n) (k:=8) U]
   congr 1
   show 8+((QG (n / 256):Nat):Int)=((QG (n / 256)+8:Nat):Int)
   omega
  ·rw [if_neg U,Aeu U U U,Int.zero_add]
def gzw(n:Nat):Nat:=if n=0 then 0 else 2 * QG n - 1
theorem Aew{n:Nat}(hn:n<16777216):GB (n:Int)=some ((gzw n:Nat):Int):=by
 unfold GB gzw KG
 by_cases h:n=0
 ·rw [if_pos U,if_pos h];rfl
 ·have hb:QG n<=24:=XZ U;have hp:1<=QG n:=by unfold QG;rw [if_neg h];omega
  have hw:IntKind.u64.wrap (n:Int)=(n:Int):=by simp [IntKind.wrap,IntKind.signed,IntKind.bits];omega
  rw [if_neg U,if_neg h,hw,Aev hn,Qq6,Qq6,Ad (by constructor <;> omega),Ad (by constructor <;> omega)]
  congr 1
  omega
theorem Aie{n k:Nat}(h:n<2 ^ k)(_hk:1<=k):gzw n<=2 * k - 1:=by
 unfold gzw;have:=XZ h
 split <;> omega
end Go.Proofs.YtekmbcbgknmhiaaGreatDoor
end
noncomputable section
namespace Go.L
open Go Go.Proofs.YtekmbcbgknmhiaaGreatDoor
section
variable {σ ρ α:Type}
theorem M8{b:σ->Option (σ ⊕ ρ)}{s:σ}{m:Option α}{k:α->Option (σ ⊕ ρ)}{R:α->Option ρ}(h:b s=m.bind k)(hs:∀ x,b s=k x->run b s=R x):run b s=m.bind R:=by
 cases m with
 | none=>exact AP (m:=none) h
 | some x=>exact hs x h
theorem bcg{β:Type}{m:Option α}{f g:α->Option β}(h:∀ x,f x=g x):m.bind f=m.bind g:=congrArg _ (funext h)
def fm(f:Int->σ->Option σ):List Int->σ->Option σ
 | [],c=>some c
 | n::r,c=>(f n c).bind (fm f r)
theorem Aat(f:Int->σ->Option σ):∀ (l r:List Int) (c:σ),fm f (l++r) c=(fm f l c).bind (fm f r)
 | [],_,_=>rfl
 | n::l,r,c=>by
  show(f n c).bind (fm f (l++r))=((f n c).bind (fm f l)).bind (fm f r)
  rw [Qkj];refine bcg fun x=>Aat f l r x
end
def Pc:Mm->List Mm->List Int
 | _,[]=>[]
 | p,h::r=>(if h.1=p.1 then[1,h.2 - p.2] else[1+h.1 - p.1,h.2+1])++Pc h r
def TQ(b:UInt8):Int:=(b.toNat:Int)+1
def Ya(e:List UInt8×List Mm):List Int:=(e.1.length:Int)::(e.1.map TQ++((e.2.length:Int)::Pc (0,-1) e.2))
def R6(x:Int×HM):List Int:=(x.1+1)::((x.2.length:Int)+1)::x.2.flatMap Ya
def HB(h:Mm):Prop:=0<=h.1/\h.1<=1000000000/\-1<=h.2/\h.2<=1000000000
def EB(e:List UInt8×List Mm):Prop:=e.1.length<=1000000000/\e.2.length<=1000000000/\∀ h∈e.2,HB h
end Go.L
namespace Go.Proofs.YtekmbcbgknmhiaaGreatDoor
open Go Go.L
theorem Aex{a:Int×HM}{i:Nat}(hi:i<1000000000){H:List Mm}(hH:H.length<=1000000000)(he:(a.2.getD i Qq2).2=H):∀ (r:List Mm) (j:Nat) (p:Mm) (c:Int),H.drop j=r->j<=H.length->HB p->(∀ h∈r,HB h)->
  run (BQ a (i:Int)) (p.1,p.2,c,(j:Int))=(fm AZ (Pc p r) c).bind fun c=>some (.inl (c,((i+1:Nat):Int)))
 | [],j,p,c,hd,hj,hp,hr=>by
  have hlen:=congrArg Qxy hd;rw [QzA,Qzd] at hlen
  show _=some (Sum.inl (c,((i+1:Nat):Int)))
  refine AP ?_;unfold BQ Fv;simp only;rw [Qq8,he,if_neg U,Ad (by constructor <;> omega)]
  congr 3
 | h::r,j,p,c,hd,hj,hp,hr=>by
  have hlen:=congrArg Qxy hd;rw [QzA,Qzw] at hlen
  have hg:H.getD j Qq2=h:=by
   have:=congrArg (·[0]?) hd;simp only [Qxw,Qx7,Qxk] at this;rw [Qq9,this]
   rfl
  have hd':H.drop (j+1)=r:=by rw [<- Qkk,hd];rfl
  obtain⟨b,h2,h3,d⟩:=hr h (Qz0 ..);obtain⟨e,f,g,k⟩:=hp;have ej:((j:Nat):Int)+1=((j+1:Nat):Int):=by omega
  have ih:=fun c=>Aex hi hH he r (j+1) h c hd' U ⟨b,h2,h3,d⟩ (fun x hx=>hr x (QzC _ hx));unfold Pc;rw [Aat,Qkj]
  by_cases hs:h.1=p.1
  ·rw [if_pos hs]
   show _=Qq4 (Qq4 (AZ 1 c) (fun x=>Qq4 (AZ (h.2 - p.2) x) some)) _
   rw [Qkj]
   have hb:BQ a (i:Int) (p.1,p.2,c,(j:Int))=Qq4 (AZ 1 c) (fun x=>Qq4 (AZ (h.2 - p.2) x) (fun y=>some (.inl (h.1,h.2,y,((j+1:Nat):Int))))):=by
    unfold BQ;simp only;rw [Qq8,he,if_pos U,Ad ⟨by omega,by omega⟩,Qq8,hg,if_pos hs,ej];refine bcg fun x=>?_;rw [Ad (by constructor <;> omega)];refine bcg fun y=>?_;rw [Ad (by constructor <;> omega)]
   refine M8 hb fun x hx=>?_;rw [Qkj];refine M8 hx fun y hy=>?_;rw [Bg hy];exact ih y
  ·rw [if_neg hs]
   show _=Qq4 (Qq4 (AZ (1+h.1 - p.1) c) (fun x=>Qq4 (AZ (h.2+1) x) some)) _
   rw [Qkj]
   have hb:BQ a (i:Int) (p.1,p.2,c,(j:Int))=Qq4 (AZ (1+h.1 - p.1) c) (fun x=>Qq4 (AZ (h.2+1) x) (fun y=>some (.inl (h.1,h.2,y,((j+1:Nat):Int))))):=by
    unfold BQ;simp only;rw [Qq8,he,if_pos U,Ad ⟨by omega,by omega⟩,Qq8,hg,if_neg hs,Ad (by constructor <;> omega),Ad (by constructor <;> omega),ej];refine bcg fun x=>?_;rw [Ad (by constructor <;> omega)];refine bcg fun y=>?_;rw [Ad (by constructor <;> omega)]
   refine M8 hb fun x hx=>?_;rw [Qkj];refine M8 hx fun y hy=>?_;rw [Bg hy];exact ih y
theorem Aey{a:Int×HM}{i:Nat}(hi:i<1000000000){w:List UInt8}{H:List Mm}(hw:w.length<=1000000000)(hH:H.length<=1000000000)(he:a.2.getD i Qq2=(w,H))(hb:∀ h∈H,HB h):∀ (r:List UInt8) (j:Nat) (c:Int),w.drop j=r->j<=w.length->
  run (C0 a (i:Int)) (c,(j:Int))=(fm AZ (r.map TQ++((H.length:Int)::Pc (0,-1) H)) c).bind fun c=>some (.inl (c,((i+1:Nat):Int)))
 | [],j,c,hd,hj=>by
  have hlen:=congrArg Qxy hd;rw [QzA,Qzd] at hlen;refine AP ?_;have d:(a.2.getD i Qq2).1=w:=by rw [he]
  have e:(a.2.getD i Qq2).2=H:=by rw [he]
  unfold C0 Fw Hk;simp only;rw [Qq8,d,e,if_neg U]
  congr 1
  show _=Qq4 (Qq4 (AZ (H.length:Int) c) (fm AZ (Pc (0,-1) H))) _
  rw [Qkj];refine bcg fun x=>Aex hi hH e H 0 (0,-1) x Z (Qz3 _) ⟨by decide,by decide,by decide,by decide⟩ hb
 | b::r,j,c,hd,hj=>by
  have hlen:=congrArg Qxy hd;rw [QzA,Qzw] at hlen
  have hg:w.getD j Qq2=b:=by
   have:=congrArg (·[0]?) hd;simp only [Qxw,Qx7,Qxk] at this;rw [Qq9,this]
   rfl
  have hd':w.drop (j+1)=r:=by rw [<- Qkk,hd];rfl
  have ej:((j:Nat):Int)+1=((j+1:Nat):Int):=by omega
  have d:(a.2.getD i Qq2).1=w:=by rw [he]
  have f:=b.toNat_lt
  show _=Qq4 (Qq4 (AZ (TQ b) c) (fm AZ (r.map TQ++((H.length:Int)::Pc (0,-1) H)))) _
  rw [Qkj]
  have hbody:C0 a (i:Int) (c,(j:Int))=Qq4 (AZ (TQ b) c) (fun x=>some (.inl (x,((j+1:Nat):Int)))):=by
   unfold C0;simp only;rw [Qq8,d,if_pos U,Ad ⟨by omega,by omega⟩,Qq8,hg,Ad (by constructor <;> omega),ej];refine bcg fun x=>?_;rw [Ad (by constructor <;> omega)]
  refine M8 hbody fun x hx=>?_;rw [Bg hx];exact Aey hi hw hH he hb r (j+1) x hd' U
theorem Aez{a:Int×HM}(hn:a.2.length<1000000000):∀ (r:HM) (i:Nat) (c:Int),a.2.drop i=r->i<=a.2.length->(∀ e∈r,EB e)->
  run (C1 a) (c,(i:Int))=fm AZ (r.flatMap Ya) c
 | [],i,c,hd,hi,_=>by
  have hlen:=congrArg Qxy hd;rw [QzA,Qzd] at hlen;refine AP (m:=some c) ?_;unfold C1;simp only;rw [if_neg U]
 | e::r,i,c,hd,hi,hE=>by
  have hlen:=congrArg Qxy hd;rw [QzA,Qzw] at hlen
  have hg:a.2.getD i Qq2=e:=by
   have:=congrArg (·[0]?) hd;simp only [Qxw,Qx7,Qxk] at this;rw [Qq9,this]
   rfl
  have hd':a.2.drop (i+1)=r:=by rw [<- Qkk,hd];rfl
  obtain⟨w,H⟩:=e;obtain⟨hw,hH,hB⟩:=hE _ (Qz0 ..);simp only at hw hH hB;rw [Qxd,Aat]
  show _=Qq4 (Qq4 (AZ (w.length:Int) c) (fm AZ (w.map TQ++((H.length:Int)::Pc (0,-1) H)))) _
  rw [Qkj]
  have hbody:C1 a (c,(i:Int))=Qq4 (AZ (w.length:Int) c) (fun x=>(fm AZ (w.map TQ++((H.length:Int)::Pc (0,-1) H)) x).bind fun c=>some (.inl (c,((i+1:Nat):Int)))):=by
   have b:(a.2.getD i Qq2).1=w:=by rw [hg]
   unfold C1 Hl;simp only;rw [Qq8,b,if_pos U,Ad ⟨by omega,by omega⟩];refine bcg fun x=>?_;rw [Ad U];exact Aey U hw hH hg hB w 0 x Z (Qz3 _)
  refine M8 hbody fun x hx=>M8 hx fun y hy=>?_;rw [Bg hy];exact Aez hn r (i+1) y hd' U (fun z hz=>hE z (QzC _ hz))
theorem Aif{a:Int×HM}(b:0<=a.1/\a.1<=1000000000)(hn:a.2.length<1000000000)(hE:∀ e∈a.2,EB e)(c:Int):FJ a c=fm AZ (R6 a) c:=by
 unfold FJ;rw [Ad (by constructor <;> omega)]
 show _=Qq4 (AZ (a.1+1) c) (fun x=>Qq4 (AZ ((a.2.length:Int)+1) x) (fm AZ (a.2.flatMap Ya)))
 refine bcg fun x=>?_;rw [Ad (by constructor <;> omega)];refine bcg fun y=>?_;unfold Hm;exact Aez hn a.2 0 y Z (Qz3 _) hE
end Go.Proofs.YtekmbcbgknmhiaaGreatDoor
end
noncomputable section
namespace Go.L
open Go Go.Proofs.YtekmbcbgknmhiaaGreatDoor
theorem Abv:∀ x y:List UInt8,Op.bytesLess x y=decide (x<y)
 | [],[]=>by simp [Op.bytesLess]
 | _::_,[]=>by simp [Op.bytesLess]
 | [],_::_=>by simp [Op.bytesLess]
 | a::x,b::y=>by
  rw [Op.bytesLess,Abv x y];simp only [List.cons_lt_cons_iff]
  by_cases c:a<b <;> by_cases h2:a=b <;> by_cases h3:x<y <;> simp [c,h2,h3]
theorem Xf{a b:UInt8}(c : ¬ a<b)(h2 : ¬ b<a):a=b:=by
 apply UInt8.toNat.inj;rw [Qxf] at c h2;omega
theorem Aau:∀ l m:List UInt8,Lib.compareBytes l m<0↔l<m
 | [],[]=>by simp [Lib.compareBytes]
 | [],_::_=>by simp [Lib.compareBytes]
 | _::_,[]=>by simp [Lib.compareBytes]
 | a::l,b::m=>by
  have ih:=Aau l m;unfold Lib.compareBytes;rw [List.cons_lt_cons_iff]
  by_cases c:a<b
  ·rw [if_pos c];simp [c]
  ·rw [if_neg c]
   by_cases h2:b<a
   ·have hne:a≠b:=fun e=>by subst e;exact c h2
    rw [if_pos h2];simp [c,hne]
   ·have e:a=b:=Xf c h2;rw [if_neg h2,ih];simp [e]
theorem Tw:∀ l m:List UInt8,Lib.compareBytes l m=0↔l=m
 | [],[]=>by simp [Lib.compareBytes]
 | [],_::_=>by simp [Lib.compareBytes]
 | _::_,[]=>by simp [Lib.compareBytes]
 | a::l,b::m=>by
  have ih:=Tw l m;unfold Lib.compareBytes
  by_cases c:a<b
  ·have hne:a≠b:=fun e=>by subst e;rw [Qxf] at c;omega
   rw [if_pos c];simp [hne]
  ·rw [if_neg c]
   by_cases h2:b<a
   ·have hne:a≠b:=fun e=>by subst e;exact c h2
    rw [if_pos h2];simp [hne]
   ·have e:a=b:=Xf c h2;rw [if_neg h2,ih];simp [e]
theorem Lk(l:List UInt8): ¬ l<l:=by
 rw [<- decide_eq_false_iff_not,<- Abv]
 induction l with
 | nil=>rfl
 | cons a l ih=>unfold Op.bytesLess;simp [ih]
abbrev Inc(l:List (List UInt8)):Prop:=l.Pairwise (· < ·)
theorem Inc.nodup{l:List (List UInt8)}(h:Inc l):l.Nodup:=by
 refine List.Pairwise.imp ?_ h;intro a b hab e;subst e;exact Lk a hab
theorem Ae0{l:List (List UInt8)}(h:l.Nodup):Inc (l.mergeSort leB):=by
 have tr:∀ a b c:List UInt8,leB a b=true->leB b c=true->leB a c=true:=fun a b c d h2=>by simp only [leB,decide_eq_true_eq] at *;exact List.le_trans d h2
 have to:∀ a b:List UInt8,(leB a b||leB b a)=true:=fun a b=>by simp only [leB,Qz8,decide_eq_true_eq];exact List.le_total a b
 have d:(l.mergeSort leB).Pairwise fun a b=>leB a b=true:=Qk1 tr to l;have h2:(l.mergeSort leB).Nodup:=(Qkq l leB).nodup_iff.2 h;refine(d.and h2).imp fun {a b} hab=>?_;have h3:=of_decide_eq_true hab.1
 rcases List.le_iff_lt_or_eq.1 h3 with h | h
 ·exact h
 ·exact absurd h hab.2
theorem Abw{w:List UInt8}{hs:List Mm}:∀ (es:HM) (i:Nat),es[i]? = some (w,hs)->(∀ k,k<i->(es.getD k Qq2).1≠w)->BT [] w es=hs
 | [],i,h,_=>by simp at h
 | e::es,0,h,_=>by
  simp only [Qx7,Option.some.injEq] at h;subst h
  show(if w=w then hs else _)=hs
  rw [if_pos Z]
 | e::es,i+1,h,hk=>by
  have a:e.1≠w:=hk 0 U
  show(if w=e.1 then e.2 else BT [] w es)=hs
  rw [if_neg (fun x=>a x.symm)];exact Abw es i (by simpa using h) (fun k hk'=>by have:=hk (k+1) U;simpa using this)
theorem Zl(w:List UInt8)(f:List UInt8->List Mm):∀ K:List (List UInt8),BT [] w (K.map fun k=>(k,f k))=if w∈K then f w else[]
 | []=>by simp [BT]
 | k::K=>by
  show(if w=k then f k else BT [] w (K.map fun k=>(k,f k)))=_
  rw [Zl w f K]
  by_cases h:w=k
  ·subst h;simp
  ·rw [if_neg h];simp [h]
theorem Ae1(M:HM)(w:List UInt8):BT [] w (Rr M)=BT [] w M:=by
 unfold Rr;rw [Zl]
 by_cases h:w∈(M.map Qq5).mergeSort leB
 ·rw [if_pos h]
 ·rw [if_neg h,Tu];exact fun h'=>h ((Qkq _ _).mem_iff.2 h')
theorem Acu(M:HM):(Rr M).map Qq5=(M.map Qq5).mergeSort leB:=by
 unfold Rr;rw [Qx0];exact List.map_id' _
end Go.L
namespace Go.Proofs.YtekmbcbgknmhiaaGreatDoor
open Go Go.L
theorem Zm(e:List UInt8×List Mm)(w:List UInt8):Gn e w=some (Lib.compareBytes e.1 w):=Z
theorem Aig{i j:Nat}(hi:i<=1000000000)(hj:j<=1000000000):IntKind.i64.wrap (IntKind.u64.wrap ((i:Int)+(j:Int)) / 2)=(((i+j) / 2:Nat):Int):=by
 have a:IntKind.u64.wrap ((i:Int)+(j:Int))=((i+j:Nat):Int):=by simp [IntKind.wrap,IntKind.signed,IntKind.bits];omega
 rw [a];simp [IntKind.wrap,IntKind.signed,IntKind.bits];omega
theorem Acv{es:HM}(hn:es.length<=1000000000)(w:List UInt8)(hs:Inc (es.map Qq5)):
  Bj es w=some ((((es.map Qq5).countP fun k=>decide (k<w):Nat):Int),decide (w∈es.map Qq5)):=by
 have hk:∀ k,k<es.length->(es.map Qq5)[k]? = some (es.getD k Qq2).1:=fun k h=>by
  rw [Qz6,Qzj h,Qq9,Qzj h];rfl
 have mono:∀ a b,a<b->b<es.length->(es.getD a Qq2).1<(es.getD b Qq2).1:=fun a b hab hb=>by
  have:=Qjc.1 hs a b (by rw [Qzk];omega) (by rw [Qzk];omega) hab;have m:=Qzj (l:=es.map Qq5) (i:=a) (by rw [Qzk];omega);have n:=Qzj (l:=es.map Qq5) (i:=b) (by rw [Qzk];omega);rw [hk a U] at m;rw [hk b hb] at n;rw [Option.some.inj m,Option.some.inj n];exact this
 -- how many keys are less, once the place is known
 have cnt:∀ i,i<=es.length->(∀ k,k<i->(es.getD k Qq2).1<w)->(∀ k,i<=k->k<es.length->¬ (es.getD k Qq2).1<w)->(es.map Qq5).countP (fun k=>decide (k<w))=i:=fun i hi f h2=>by
  have e:es.map Qq5=(es.map Qq5).take i++(es.map Qq5).drop i:=(List.take_append_drop _ _).symm;rw [e,QkQ,List.countP_eq_length.2,QkD.2,QzK,Qzk]
  ·omega
  ·intro x hx;obtain⟨k,c⟩:=Qju.1 hx;rw [Qxw] at c
   have hlt:i+k<es.length:=by
    have:=(QzD.1 c).1;rw [Qzk] at this;exact this
   rw [hk _ hlt] at c;rw [<- Option.some.inj c]
   simpa using h2 (i+k) U hlt
  ·intro x hx;obtain⟨k,c⟩:=Qju.1 hx
   have hlt:k<i:=by
    have:=(QzD.1 c).1;rw [QzK] at this;omega
   rw [Qjd hlt,hk _ U] at c;rw [<- Option.some.inj c]
   simpa using f k hlt
 unfold Bj BB;refine AaL (fun s=>∃ i j:Nat,s=((i:Int),(j:Int))/\i<=j/\j<=es.length/\(∀ k,k<i->(es.getD k Qq2).1<w)/\(∀ k,j<=k->k<es.length->¬ (es.getD k Qq2).1<w)) (fun s=>(s.2 - s.1).toNat) ?_ (s:=((0:Int),(es.length:Int))) ⟨0,es.length,Z,Qz3 _,Qzx _,fun k h=>by omega,fun k f h2=>by omega⟩;rintro _ ⟨i,j,rfl,hij,hj,f,h2⟩;unfold Bs;simp only
 by_cases h:i<j
 ·left
  rw [if_pos U,Ad (by constructor <;> omega),Aig U U,Ad ⟨by omega,by omega⟩,Qq8,Zm,Qq6];have hm:(i+j) / 2<es.length:=by omega
  by_cases hc:(es.getD ((i+j) / 2) Qq2).1<w
  ·rw [if_pos ((Aau _ _).2 hc),Ad (by constructor <;> omega)];refine⟨_,Z,⟨(i+j) / 2+1,j,by congr 1,by omega,hj,fun k hk'=>?_,h2⟩,by simp only;omega⟩
   rcases Qxx k ((i+j) / 2) with hlt | hge
   ·exact List.lt_trans (mono _ _ hlt hm) hc
   ·obtain rfl:k=(i+j) / 2:=by omega
    exact hc
  ·rw [if_neg (fun x=>hc ((Aau _ _).1 x))];refine⟨_,Z,⟨i,(i+j) / 2,Z,by omega,by omega,f,fun k c d hl=>?_⟩,by simp only;omega⟩
   rcases Qxx ((i+j) / 2) k with hlt | hge
   ·exact hc (List.lt_trans (mono _ _ hlt d) hl)
   ·obtain rfl:k=(i+j) / 2:=by omega
    exact hc hl
 ·right
  obtain rfl:i=j:=by omega
  rw [if_neg U,cnt i hj f h2]
  congr 1
  unfold Bv
  by_cases h3:i<es.length
  ·rw [if_pos U,Ad ⟨by omega,by omega⟩,Qq8,Zm,Qq6]
   congr 2
   by_cases g:(es.getD i Qq2).1=w
   ·rw [decide_eq_true ((Tw _ _).2 g),decide_eq_true];rw [<- g];exact Qju.2 ⟨i,hk i h3⟩
   ·rw [decide_eq_false (fun x=>g ((Tw _ _).1 x)),decide_eq_false];intro hmem;obtain⟨k,c⟩:=Qju.1 hmem
    have hkl:k<es.length:=by
     have:=(QzD.1 c).1;rw [Qzk] at this;exact this
    rw [hk k hkl] at c;have d:=Option.some.inj c
    rcases Nat.lt_trichotomy k i with hlt | he | hgt
    ·exact Lk w (by have:=f k hlt;rw [d] at this;exact this)
    ·subst he;exact g d
    ·have o:=mono i k hgt hkl;rw [d] at o;exact h2 i (Qzx _) h3 o
  ·rw [if_neg U]
   congr 2
   rw [eq_comm,decide_eq_false_iff_not];intro hmem;obtain⟨k,c⟩:=Qju.1 hmem
   have hkl:k<es.length:=by
    have:=(QzD.1 c).1;rw [Qzk] at this;exact this
   rw [hk k hkl] at c;have:=f k U;rw [Option.some.inj c] at this;exact Lk w this
theorem PE{n:Int}{es:HM}(hn:es.length<=1000000000)(w:List UInt8)(hs:Inc (es.map Qq5)):D9 (n,es) w=some (BT [] w es):=by
 unfold D9;simp only;rw [Acv hn w hs,Qq6];simp only
 by_cases h:w∈es.map Qq5
 ·rw [decide_eq_true h,if_neg Qqc]
  have hc:(es.map Qq5).countP (fun k=>decide (k<w))<es.length:=by
   rcases Qxx ((es.map Qq5).countP (fun k=>decide (k<w))) (es.map Qq5).length with a | a
   ·rw [Qzk] at a;exact a
   ·have h2:=Nat.le_antisymm Qjv a;exact absurd (of_decide_eq_true (List.countP_eq_length.1 h2 w h)) (Lk w)
  rw [Ad ⟨by omega,by omega⟩,Qq8]
  congr 1
  -- the place of w
  obtain⟨l,r,hlr⟩:=List.append_of_mem h;have hinc:=hs;rw [hlr] at hinc;have hl:∀ x∈l,x<w:=fun x hx=>(Qjy.1 hinc).2.2 x hx w (Qz0 ..);have hr:∀ x∈r,¬ x<w:=fun x hx hxw=>Lk w (List.lt_trans ((Qz1.1 (Qjy.1 hinc).2.1).1 x hx) hxw)
  have hcnt:(es.map Qq5).countP (fun k=>decide (k<w))=l.length:=by
   rw [hlr,QkQ,Qx2,List.countP_eq_length.2 (fun x hx=>decide_eq_true (hl x hx)),QkD.2 (fun x hx=>by simpa using hr x hx),if_neg (by simp [Lk w])]
   rfl
  rw [hcnt] at hc ⊢;have hget:(es.map Qq5)[l.length]? = some w:=by rw [hlr];simp
  rw [Qz6,Qzj hc] at hget;refine(Abw es l.length (hs:=(es.getD l.length Qq2).2) ?_ (fun k hk=>?_)).symm
  ·rw [Qzj hc,Qq9,Qzj hc];simp only [Option.map_some,Option.some.injEq] at hget;rw [<- hget]
   rfl
  ·intro hw;have a:(es.map Qq5)[k]? = l[k]?:=by rw [hlr,QkZ hk]
   rw [Qz6,Qzj U,Qzj hk] at a;rw [Qq9,Qzj U] at hw;simp only [Option.map_some,Option.some.injEq] at a;have h2:=hl l[k] (Qz9 _);rw [<- a] at h2;simp only [Option.getD_some] at hw;rw [hw] at h2;exact Lk w h2
 ·rw [decide_eq_false h,if_pos Qqc,Tu [] w es h]
/- Lists that are equal. -/
end Go.Proofs.YtekmbcbgknmhiaaGreatDoor
end
noncomputable section
namespace Go.L
open Go
theorem Ae2{l r:List UInt8}{k:Nat}(h:k<l.length):bt (l++r) k=bt l k:=by
 unfold bt;rw [Qq9,Qq9,QkZ h]
def Ch(x:List UInt8):Prop:=x≠[]/\x.map Jq=x/\∀ r,MI (x++r)=x.length
theorem Abx:∀ c:Fin 256,asc c.val=true->asc (Jq (QzE c.val)).toNat=true/\Jq (Jq (QzE c.val))=Jq (QzE c.val):=by decide +kernel
theorem Ag3{l r:List UInt8}(h:PO l≠0):PO (l.take (PO l)++r)=PO l:=by
 have hc:∀ k,cont l k=true->k<l.length:=fun k h=>(of_decide_eq_true h).1
 have key:∀ n,PO l=n->1<n->n<=l.length->(∀ k,k<n->bt (l.take n++r) k=bt l k)/\(∀ k,k<n->cont (l.take n++r) k=cont l k):=by
  intro n _ _ hn;have hl:(l.take n).length=n:=by rw [QzK];omega
  have hb:∀ k,k<n->bt (l.take n++r) k=bt l k:=fun k hk=>by
   rw [Ae2 U];unfold bt;rw [Qq9,Qq9,Qjd hk]
  refine⟨hb,fun k hk=>?_⟩;unfold cont;rw [hb k hk,Qzu,hl]
  congr 1
  apply propext
  constructor <;> (rintro⟨_,h2⟩;exact⟨by omega,h2⟩)
 have h':=h;unfold PO at h'
 split at h'
 ·rename_i hA
  split at h'
  ·rename_i a;have e:PO l=2:=by unfold PO;rw [if_pos hA,if_pos a]
   obtain⟨hb,hk⟩:=key 2 e Qqc (hc 1 a);rw [e];unfold PO;rw [hb 0 Qqc,hk 1 Qqc,if_pos hA,if_pos a]
  ·exact absurd Z h'
 ·rename_i hA
  split at h'
  ·rename_i hB
   split at h'
   ·rename_i a;have e:PO l=3:=by unfold PO;rw [if_neg hA,if_pos hB,if_pos a]
    obtain⟨hb,hk⟩:=key 3 e Qqc (hc 2 a.2.1);rw [e];unfold pt3 at a;unfold PO pt3;rw [hb 0 Qqc,hb 1 Qqc,hb 2 Qqc,hk 1 Qqc,hk 2 Qqc,if_neg hA,if_pos hB,if_pos a]
   ·exact absurd Z h'
  ·rename_i hB
   split at h'
   ·rename_i hC
    split at h'
    ·rename_i a;have e:PO l=4:=by unfold PO;rw [if_neg hA,if_neg hB,if_pos hC,if_pos a]
     obtain⟨hb,hk⟩:=key 4 e Qqc (hc 3 a.2.2.1);rw [e];unfold pt4 at a;unfold PO pt4;rw [hb 0 Qqc,hb 1 Qqc,hb 2 Qqc,hb 3 Qqc,hk 1 Qqc,hk 2 Qqc,hk 3 Qqc,if_neg hA,if_neg hB,if_pos hC,if_pos a]
    ·exact absurd Z h'
   ·exact absurd Z h'
theorem Aih{l:List UInt8}(hne:l≠[])(h:MI l≠0):Ch ((l.take (MI l)).map Jq):=by
 have hl:=Aah l hne;have hlen:((l.take (MI l)).map Jq).length=MI l:=by rw [Qzk,QzK];omega
 refine⟨fun e=>by rw [e] at hlen;exact h hlen.symm,?_,fun r=>?_⟩
 all_goals
  by_cases ha:asc (bt l 0)=true
 ·obtain⟨c,m,rfl⟩:=Qk2 hne;have e:MI (c::m)=1:=by unfold MI;rw [if_pos ha]
  have:=(Abx ⟨c.toNat,c.toNat_lt⟩ ha).2;rw [e];simp only [Qk8] at this;simp [this]
 ·have e:MI l=PO l:=by unfold MI;rw [if_neg ha]
  rw [e] at h ⊢;rw [Uz h,Uz h]
 ·obtain⟨c,m,rfl⟩:=Qk2 hne;have e:MI (c::m)=1:=by unfold MI;rw [if_pos ha]
  have:=(Abx ⟨c.toNat,c.toNat_lt⟩ ha).1;simp only [Qk8] at this;rw [hlen,e]
  show MI (Jq c::r)=1
  unfold MI;rw [if_pos (show asc (bt (Jq c::r) 0)=true from this)]
 ·have e:MI l=PO l:=by unfold MI;rw [if_neg ha]
  rw [hlen];rw [e] at h hl ⊢;rw [Uz h]
  have a:bt (l.take (PO l)++r) 0=bt l 0:=by
   rw [Ae2 (by rw [QzK];omega)];unfold bt;rw [Qq9,Qq9,Qjd U]
  unfold MI;rw [a,if_neg ha];exact Ag3 h
def Lw(t:List UInt8):Prop:=∃ cs:List (List UInt8),t=cs.flatten/\∀ x∈cs,Ch x
theorem Lw.nil:Lw []:=⟨[],Z,by simp⟩
theorem Lw.snoc{t x:List UInt8}(h:Lw t)(hx:Ch x):Lw (t++x):=by
 obtain⟨cs,rfl,hc⟩:=h;refine⟨cs++[x],by simp,fun y hy=>?_⟩
 rcases QzQ.1 hy with hy | hy
 ·exact hc y hy
 ·rw [QzB.1 hy];exact hx
def Wok(n:Nat)(w:W):Prop:=Lw w.1/\w.1≠[]/\0<=w.2.1/\w.2.1<w.2.2/\w.2.2<=(n:Int)
theorem Aav{n:Nat}{cur:List UInt8}{fr at':Nat}(hc:Lw cur)(h:cur=[]\/fr<at')(hn:at'<=n):∀ w∈fin cur fr at',Wok n w:=by
 intro w hw;unfold fin at hw
 split at hw
 ·cases hw
 ·rename_i hne;rw [QzB.1 hw];have:=h.resolve_left hne;exact⟨hc,hne,by show(0:Int)<=(fr:Int);omega,by show(fr:Int)<(at':Int);omega,by show(at':Int)<=(n:Int);omega⟩
theorem Aaw{a:List UInt8}:∀ (f at':Nat) (cur:List UInt8) (fr:Nat),at'<=a.length->Lw cur->(cur=[]\/fr<at')->fr<=at'->∀ w∈V0 a f at' cur fr,Wok a.length w
 | 0,at',cur,fr,h,hc,hf,_=>Aav hc hf h
 | f+1,at',cur,fr,h,hc,hf,hle=>by
  intro w hw;unfold V0 at hw
  split at hw
  ·rename_i b
   split at hw
   ·rcases QzQ.1 hw with hw | hw
    ·exact Aav hc hf h w hw
    ·exact Aaw f (at'+1) [] (at'+1) U Lw.nil (.inl Z) (Qzx _) w hw
   ·rename_i h2;exact Aaw f _ _ fr (QB b) (hc.snoc (Aih (U0 b) h2)) (.inr U) U w hw
  ·exact Aav hc hf h w hw
theorem Aii(a:List UInt8):∀ w∈Ws a,Wok a.length w:=Aaw _ 0 [] 0 (Qz3 _) Lw.nil (.inl Z) (Qzx _)
end Go.L
end
noncomputable section
namespace Go.L
open Go Go.Proofs.YtekmbcbgknmhiaaGreatDoor
theorem M9{α:Type}[Inhabited α]{l:List α}{i:Nat}{x:α}{r:List α}(h:l.drop i=x::r):l.getD i Qq2=x/\l.drop (i+1)=r/\i<l.length:=by
 have hlen:=congrArg Qxy h;rw [QzA,Qzw] at hlen;refine⟨?_,by rw [<- Qkk,h];rfl,by omega⟩;have:=congrArg (·[0]?) h;simp only [Qxw,Qx7,Qxk] at this;rw [Qq9,this]
 rfl
theorem NS{α:Type}{l:List α}{i:Nat}(h:l.drop i=[]):l.length<=i:=by
 have hlen:=congrArg Qxy h;rw [QzA,Qzd] at hlen;omega
def E(items:List (List UInt8)):HM:=Rr ((Gs 0 items).foldl Nh [])
theorem Ae3(items:List (List UInt8)):(E items).map Qq5=(((Gs 0 items).foldl Nh []).map Qq5).mergeSort leB:=Acu _
theorem AiM(items:List (List UInt8)):Inc ((E items).map Qq5):=by
 rw [Ae3];exact Ae0 (Tv _ [] List.nodup_nil)
theorem AiN(items:List (List UInt8))(k:List UInt8):k∈(E items).map Qq5↔k∈(Gs 0 items).map Qq5:=by
 rw [Ae3,(Qkq _ _).mem_iff,VE];simp
theorem VI(items:List (List UInt8))(w:List UInt8):BT [] w (E items)=NR (Gs 0 items) w:=by
 unfold E;rw [Ae1,add_get]
 rfl
theorem Ae4{items:List (List UInt8)}{e:List UInt8×List Mm}(h:e∈E items):e.2=NR (Gs 0 items) e.1:=by
 unfold E Rr at h;obtain⟨k,_,rfl⟩:=QzJ.1 h;simp only;rw [add_get]
 rfl
theorem Zn(k:List UInt8)(y:List Mm):∀ M:HM,(FT k y M).length<=M.length+1
 | []=>by simp [FT]
 | (a,z)::l=>by
  unfold FT
  split
  ·simp
  ·have:=Zn k y l;simp only [Qzw];omega
theorem Yb:∀ (P:List (List UInt8×Mm)) (M:HM),(P.foldl Nh M).length<=M.length+P.length
 | [],M=>by simp
 | p::P,M=>by
  rw [List.foldl_cons,Qzw];have a:=Yb P (Nh M p);have h2:(Nh M p).length<=M.length+1:=Zn _ _ M;omega
theorem Ae5(items:List (List UInt8)):(E items).length<=(Gs 0 items).length:=by
 unfold E;rw [Zj];have:=Yb (Gs 0 items) [];rw [Qzd] at this;omega
theorem R7(i:Int)(l:List W):Ie i l=(Qzv l.length).map fun k=>((l.getD k Qq2).1,(i,((k:Nat):Int))):=by
 apply Qkc;intro k
 by_cases h:k<l.length
 ·rw [TP i l k h,Qz6,QkA h];rfl
 ·rw [Qxe (by rw [MZ];omega),Qxe (by rw [Qzk,QxQ];omega)]
theorem Ot{i:Int}{l:List W}{p:List UInt8×Mm}(h:p∈Ie i l):p.2.1=i/\0<=p.2.2/\p.2.2<(l.length:Int)/\∃ w∈l,w.1=p.1:=by
 rw [R7] at h;obtain⟨k,hk,rfl⟩:=QzJ.1 h;rw [QzX] at hk;refine⟨Z,by simp only;omega,by simp only;omega,l.getD k Qq2,?_,Z⟩;rw [Qq9,Qzj hk];exact Qz9 _
theorem I5:∀ (i:Nat) (r:List (List UInt8)) (m:Nat),(∀ t∈r,t.length<=m)->∀ p∈Gs i r,(i:Int)<=p.2.1/\p.2.1<((i+r.length:Nat):Int)/\0<=p.2.2/\p.2.2<=(m:Int)/\p.1≠[]/\p.1.length<=m
 | _,[],_,_,p,hp=>by cases hp
 | i,t::r,m,h,p,hp=>by
  unfold Gs at hp
  rcases QzQ.1 hp with hp | hp
  ·obtain⟨d,h2,h3,w,a,b⟩:=Ot hp;have c:=Aii t w a;have e:=Zi t w a;have f:=XL t;have g:=h t (Qz0 ..);rw [Qzw];exact⟨by omega,by omega,h2,by omega,b ▸ c.2.1,b ▸ U⟩
  ·have:=I5 (i+1) r m (fun x hx=>h x (QzC _ hx)) p hp;rw [Qzw];exact⟨by omega,by omega,this.2.2⟩
theorem Ll{P:List (List UInt8×Mm)}{w:List UInt8}{h:Mm}:h∈NR P w↔(w,h)∈P:=by
 unfold NR;rw [QzJ]
 constructor
 ·rintro⟨p,hp,rfl⟩;rw [Qx3] at hp;obtain⟨a,h2⟩:=hp;have h2:=of_decide_eq_true h2;rw [<- h2];exact a
 ·intro a;exact⟨(w,h),Qx3.2 ⟨a,decide_eq_true Z⟩,Z⟩
theorem Ajt{items:List (List UInt8)}(hn:items.length<=64){m:Nat}(ht:∀ t∈items,t.length<=m){e:List UInt8×List Mm}(h:e∈E items):
  e.1≠[]/\e.1.length<=m/\e.2.length<=(Gs 0 items).length/\∀ x∈e.2,0<=x.1/\x.1<=63/\0<=x.2/\x.2<=(m:Int):=by
 have hk:e.1∈(Gs 0 items).map Qq5:=(AiN items e.1).1 (List.mem_map_of_mem h);obtain⟨p,hp,hpe⟩:=QzJ.1 hk;have a:=I5 0 items m ht p hp;rw [hpe] at a;refine⟨a.2.2.2.2.1,a.2.2.2.2.2,?_,fun x hx=>?_⟩
 ·rw [Ae4 h];exact PD _ _
 ·rw [Ae4 h,Ll] at hx;have h2:=I5 0 items m ht _ hx;simp only at h2;exact⟨by omega,by omega,h2.2.2.1,h2.2.2.2.1⟩
def gs(l:List Int):Nat:=(l.map fun n=>gzw n.toNat).sum
theorem Aby(n:Int)(l:List Int):gs (n::l)=gzw n.toNat+gs l:=by simp [gs]
theorem Ahy{b:Nat}:∀ {l:List Int},(∀ n∈l,gzw n.toNat<=b)->gs l<=l.length * b
 | [],_=>by simp [gs]
 | n::l,h=>by
  rw [Aby,Qzw,Nat.succ_mul];have a:=h n (Qz0 ..);have h2:=Ahy (l:=l) (fun x hx=>h x (QzC _ hx));omega
theorem Zo{m:Int}(hm:0<=m):∀ (p:Mm) (l:List Mm),0<=p.1->-1<=p.2->(∀ x∈l,0<=x.1/\x.1<=63/\0<=x.2/\x.2<=m)->∀ n∈Pc p l,n<=m+64
 | _,[],_,_,_,n,hn=>by cases hn
 | p,h::r,a,h2,hl,n,hn=>by
  obtain⟨a1,a2,a3,a4⟩:=hl h (Qz0 ..);unfold Pc at hn
  rcases QzQ.1 hn with hn | hn
  ·split at hn
   ·simp only [Qzy,Qkw,or_false] at hn;omega
   ·simp only [Qzy,Qkw,or_false] at hn;omega
  ·exact Zo hm h r a1 U (fun x hx=>hl x (QzC _ hx)) n hn
theorem Xg:∀ (p:Mm) (l:List Mm),(Pc p l).length=2 * l.length
 | _,[]=>rfl
 | p,h::r=>by
  unfold Pc;rw [Qzu,Xg h r,Qzw]
  split <;> simp <;> omega
theorem Ae6{e:HM}{b:Nat}:(∀ x∈e,(Ya x).length<=b)->(e.flatMap Ya).length<=e.length * b:=by
 induction e with
 | nil=>intro _;simp
 | cons x e ih=>
  intro h;rw [Qxd,Qzu,Qzw,Nat.succ_mul];have a:=h x (Qz0 ..);have h2:=ih (fun y hy=>h y (QzC _ hy));omega
end Go.L
namespace Go.Proofs.YtekmbcbgknmhiaaGreatDoor
open Go Go.L
theorem Acw{n:Int}(hn:n<16777216):GB n=some ((gzw n.toNat:Nat):Int):=by
 by_cases h:0<=n
 ·obtain⟨k,rfl⟩:=Int.eq_ofNat_of_zero_le h;rw [Qq8];exact Aew U
 ·unfold GB;rw [if_pos U,Int.toNat_of_nonpos U]
  rfl
theorem Ae7{n:Int}(hn:n<16777216):gzw n.toNat<=47:=Aie (k:=24) U Qqc
theorem Acx{n:Int}(hn:n<16777216){c:Int}(a:0<=c)(b:c<=1000000000000000000):AZ n c=some (c+((gzw n.toNat:Nat):Int)):=by
 unfold AZ;have:=Ae7 hn;rw [Acw hn,Qq6,Ad (by constructor <;> omega)]
theorem Zp:∀ (l:List Int) (c:Int),(∀ n∈l,n<16777216)->0<=c->c+(gs l:Int)<=1000000000000000000->fm AZ l c=some (c+(gs l:Int))
 | [],c,_,_,_=>by
  show some c=_
  congr 1
  have:gs []=0:=Z;omega
 | n::l,c,h,a,b=>by
  rw [Aby] at b ⊢
  show(AZ n c).bind (fm AZ l)=_
  rw [Acx (h n (Qz0 ..)) a U,Qq6,Zp l _ (fun x hx=>h x (QzC _ hx)) U U]
  congr 1
  omega
theorem Tx{items:List (List UInt8)}(hn:items.length<=64)(ht:∀ t∈items,t.length<=2048):(Gs 0 items).length<=131136:=by
 have a:=Xd 0 items ht;omega
theorem Ae8{items:List (List UInt8)}(hn:items.length<=64)(ht:∀ t∈items,t.length<=2048):(∀ n∈R6 ((items.length:Int),E items),n<16777216)/\gs (R6 ((items.length:Int),E items))<=1000000000000000/\∀ e∈E items,EB e:=by
 have hp:=Tx hn ht;have he:=Ae5 items
 have a:∀ e∈E items,(∀ n∈Ya e,n<16777216)/\(Ya e).length<=300000/\EB e:=fun e h=>by
  obtain⟨_,a2,a3,a4⟩:=Ajt hn ht h;refine⟨fun n hn'=>?_,?_,?_⟩
  ·unfold Ya at hn'
   rcases Qzy.1 hn' with rfl | hn'
   ·omega
   rcases QzQ.1 hn' with hn' | hn'
   ·obtain⟨b,_,rfl⟩:=QzJ.1 hn';have:=b.toNat_lt;unfold TQ;omega
   rcases Qzy.1 hn' with rfl | hn'
   ·omega
   ·have:=Zo (m:=2048) Qqc (0,-1) e.2 Qqc Qqc a4 n hn';omega
  ·unfold Ya;rw [Qzw,Qzu,Qzk,Qzw,Xg];omega
  ·exact⟨by omega,by omega,fun x hx=>by have:=a4 x hx;exact⟨by omega,by omega,by omega,by omega⟩⟩
 have h2:∀ n∈R6 ((items.length:Int),E items),n<16777216:=fun n hn'=>by
  unfold R6 at hn';simp only at hn'
  rcases Qzy.1 hn' with rfl | hn'
  ·omega
  rcases Qzy.1 hn' with rfl | hn'
  ·omega
  ·obtain⟨e,c,d⟩:=List.mem_flatMap.1 hn';exact(a e c).1 n d
 refine⟨h2,?_,fun e h=>(a e h).2.2⟩;have h3:=Ahy (b:=47) (fun n hn'=>Ae7 (h2 n hn'))
 have f:(R6 ((items.length:Int),E items)).length<=2+(E items).length * 300000:=by
  unfold R6;have:=Ae6 (e:=E items) (b:=300000) (fun x hx=>(a x hx).2.1);simp only [Qzw];omega
 omega
theorem Zq{items:List (List UInt8)}(hn:items.length<=64)(ht:∀ t∈items,t.length<=2048)(hl:N2 0 items=none):
  Ji items=if 131072<gs (R6 ((items.length:Int),E items)) then some ((0,[]),(14,-1)) else some (((items.length:Int),E items),(0,0)):=by
 have hp:=Tx hn ht;obtain⟨b,h2,h3⟩:=Ae8 hn ht;have he:=Ae5 items;have hm:=Yb (Gs 0 items) [];rw [Qzd] at hm;rw [Acs,if_neg U,hl];simp only;unfold HJ;rw [Aas _ _ ⟨Tv _ [] List.nodup_nil,fun x hx=>?_,by omega⟩ U]
 ·unfold HI;have c:Rr ((Gs 0 items).foldl Nh [])=E items:=Z;rw [c,Aif (a:=((items.length:Int),E items)) ⟨by simp only;omega,by simp only;omega⟩ (by simp only;omega) h3,Zp _ _ b U U,Qq6,Int.zero_add]
  by_cases h:131072<gs (R6 ((items.length:Int),E items))
  ·rw [if_pos U,if_pos h];rfl
  ·rw [if_neg U,if_neg h];rfl
 ·rw [VE] at hx;have:=VH 0 items ht x (hx.resolve_left Qqd);unfold maxLen;omega
def total(items:List (List UInt8)):Nat:=(items.map Qxy).sum
theorem Xh{t:List UInt8}:∀ {items:List (List UInt8)},t∈items->t.length<=total items
 | [],h=>by cases h
 | x::r,h=>by
  have e:total (x::r)=x.length+total r:=by simp [total]
  rcases Qzy.1 h with rfl | h
  ·omega
  ·have:=Xh h;omega
end Go.Proofs.YtekmbcbgknmhiaaGreatDoor
end
noncomputable section
namespace Go.L
def zz(a:Int):Nat:=if 0<=a then(2 * a).toNat else(-2 * a - 1).toNat
theorem AiO{a:Int}(h:Bz a):zz a<18446744073709551616:=by unfold zz;unfold Bz at h;split <;> omega
def VJ:Nat->Nat->List UInt8
 | 0,_=>[]
 | n+1,u=>if 128<=u then QzE (u % 128+128)::VJ n (u / 128) else[QzE u]
def Pd(u:Nat):List UInt8:=VJ 10 u
theorem Xi:∀ n u,(VJ n u).length<=n
 | 0,_=>by simp [VJ]
 | n+1,u=>by
  unfold VJ
  split
  ·have:=Xi n (u / 128);simp only [Qzw];omega
  ·simp
theorem GF(u:Nat):(Pd u).length<=10:=Xi 10 u
set_option maxRecDepth 20000 in
theorem AiP(u:Nat):u8 (u:Int) ||| 128=QzE (u % 128+128):=by
 have h:∀ b:Fin 256,(QzE b.val ||| 128)=QzE (b.val % 128+128):=by decide
 have:=h ⟨u % 256,Nat.mod_lt _ Qqc⟩;dsimp only at this;unfold u8;rw [show((u:Int) % 256).toNat=u % 256 by omega,this]
 congr 2
 omega
theorem Ae9{u:Nat}:u8 (u:Int)=QzE u:=by
 unfold u8;rw [show((u:Int) % 256).toNat=u % 256 by omega];apply UInt8.toNat.inj;simp
end Go.L
namespace Go.Proofs.YtekmbcbgknmhiaaGreatDoor
open Go Go.L
theorem Zs:∀ (n u:Nat) (L:List UInt8),u<128 ^ n->L.length+n<=1000->n<=10->1<=n->Go.L.run FO (L,(u:Int))=some (L++VJ n u)
 | 0,_,_,_,_,_,h=>absurd h U
 | n+1,u,L,hu,hL,hn,_=>by
  unfold VJ
  by_cases h:128<=u
  ·have b:1<=n:=by
    rcases Nat.eq_zero_or_pos n with a | a
    ·subst a;simp at hu;omega
    ·exact a
   have e:FO (L,(u:Int))=some (.inl (L++[QzE (u % 128+128)],((u / 128:Nat):Int))):=by
    unfold FO;dsimp only;rw [if_pos U,Ad (by unfold Go.E.H7;simp;omega),AiP]
    rfl
   rw [Bg e,Zs n (u / 128) _ (Nat.div_lt_of_lt_mul (by rw [Nat.pow_succ,Nat.mul_comm] at hu;exact hu)) (by simp;omega) U b,if_pos h];simp
  ·rw [if_neg h];refine AP (m:=some (L++[QzE u])) ?_;unfold FO JS;dsimp only;rw [if_neg U,Ad (by unfold Go.E.H7;simp;omega),Ae9]
theorem Aij{x:Int}:IntKind.u64.wrap x=x % 18446744073709551616:=by
 simp only [IntKind.wrap];simp [IntKind.bits,IntKind.signed]
theorem Ag4{k:Nat}(h:k<2 ^ 64):k ^^^ 18446744073709551615=18446744073709551615 - k:=by
 have h2:(BitVec.ofNat 64 k ^^^ BitVec.allOnes 64).toNat=(~~~ (BitVec.ofNat 64 k)).toNat:=by rw [BitVec.xor_allOnes]
 rw [BitVec.toNat_xor,BitVec.toNat_not,BitVec.toNat_ofNat,BitVec.toNat_allOnes,Nat.mod_eq_of_lt h] at h2;exact h2
theorem Jd{a:Int}(h:Bz a):Ea a=some (Pd (zz a)):=by
 have hz:=AiO h;unfold Bz at h;unfold Ea;simp only [Aij];rw [Ad U];unfold LH Pd
 have key:((((a % 18446744073709551616 * 2 % 18446744073709551616).toNat ^^^ (a / 9223372036854775808 % 18446744073709551616).toNat:Nat)):Int)=((zz a:Nat):Int):=by
  unfold zz
  by_cases b:0<=a
  ·rw [if_pos b,show a / 9223372036854775808 % 18446744073709551616=0 by omega];simp only [Int.toNat_zero,Nat.xor_zero];omega
  ·rw [if_neg b,show(a / 9223372036854775808 % 18446744073709551616).toNat=18446744073709551615 by omega,Ag4 U];omega
 rw [key,Zs 10 (zz a) [] (Nat.lt_trans hz Qqc) Qqc Qqc Qqc]
 rfl
end Go.Proofs.YtekmbcbgknmhiaaGreatDoor
end
noncomputable section
namespace Go.L
structure Ty (v:Pv):Prop where
 kind:v.f.1=1\/v.f.1=2\/v.f.1=3\/v.f.1=4
 num:v.f.1=1\/v.f.2.1=0
 bytes:v.f.1=2\/v.f.2.2.1=[]
 names:v.f.1=4\/v.f.2.2.2.1=[]
 parts:v.f.1=3\/v.f.1=4\/v.f.2.2.2.2=[]
 same:v.f.1=4->v.f.2.2.2.1.length=v.f.2.2.2.2.length
 many:v.f.2.2.2.2.length<=600
 S5:∀ x∈v.f.2.2.2.1,S5 x=true
 nd:v.f.2.2.2.1.Nodup
def Vd:Nat->Pv->Prop
 | 0,_=>False
 | d+1,v=>Ty v/\∀ p∈v.f.2.2.2.2,Vd d p
def Sm(B:Nat):Nat->Pv->Prop
 | 0,_=>True
 | d+1,v=>v.f.2.2.1.length<=B/\v.f.2.2.2.1.length<=B/\v.f.2.2.2.2.length<=B/\(∀ x∈v.f.2.2.2.1,x.length<=B)/\Bz v.f.1/\Bz v.f.2.1/\∀ p∈v.f.2.2.2.2,Sm B d p
def nodes:Nat->Pv->Nat
 | 0,_=>0
 | d+1,v=>1+(v.f.2.2.2.2.map (nodes d)).sum
end Go.L
namespace Go.Proofs.YtekmbcbgknmhiaaGreatDoor
open Go Go.L
theorem AeA{l:List Int}(hl:l.length<=1000)(a:Int):BC l a=some (decide (a∈l)):=by
 have key:∀ (d i:Nat),i+d=l.length->∃ r,Go.L.run (Bc l a) (i:Int)=some r/\(0<=r↔a∈l.drop i):=by
  intro d
  induction d with
  | zero=>
   intro i hi;refine⟨-1,AP (m:=some (-1)) ?_,by rw [Qz5 U];simp⟩;unfold Bc Da;rw [if_neg U]
  | succ d ih=>
   intro i hi;have hil:i<l.length:=by omega
   rw [drop_cons hil]
   have hb:Bc l a (i:Int)=if a=l.getD i Qq2 then some (.inr (i:Int)) else some (.inl ((i+1:Nat):Int)):=by
    unfold Bc;rw [if_pos U,Ad U,Qq8,Ad (by unfold Bz;omega)]
    rfl
   by_cases h:a=l.getD i Qq2
   ·rw [if_pos h] at hb;exact⟨_,AP (m:=some (i:Int)) hb,by rw [h];simp⟩
   ·rw [if_neg h] at hb;obtain⟨r,b,h2⟩:=ih (i+1) U;refine⟨r,by rw [Bg hb,b],h2.trans ?_⟩;rw [Qzy];exact⟨.inr,fun hh=>hh.resolve_left h⟩
 unfold BC DW DK;obtain⟨r,b,h2⟩:=key l.length 0 U;rw [show((0:Int))=((0:Nat):Int) from Z,b,Qq6];rw [QxE] at h2
 congr 1
 rw [Qxz,decide_eq_true_eq,decide_eq_true_eq];exact h2
theorem AeB{l:List (List UInt8)}(hl:l.length<=1000000000000)(a:List UInt8):Cz l a=some (decide (a∈l)):=by
 have key:∀ (d i:Nat),i+d=l.length->∃ r,Go.L.run (BK l a) (i:Int)=some r/\(0<=r↔a∈l.drop i):=by
  intro d
  induction d with
  | zero=>
   intro i hi;refine⟨-1,AP (m:=some (-1)) ?_,by rw [Qz5 U];simp⟩;unfold BK Ds;rw [if_neg U]
  | succ d ih=>
   intro i hi;have hil:i<l.length:=by omega
   rw [drop_cons hil]
   have hb:BK l a (i:Int)=if a=l.getD i Qq2 then some (.inr (i:Int)) else some (.inl ((i+1:Nat):Int)):=by
    unfold BK;rw [if_pos U,Ad U,Qq8,Ad (by unfold Bz;omega)]
    rfl
   by_cases h:a=l.getD i Qq2
   ·rw [if_pos h] at hb;exact⟨_,AP (m:=some (i:Int)) hb,by rw [h];simp⟩
   ·rw [if_neg h] at hb;obtain⟨r,b,h2⟩:=ih (i+1) U;refine⟨r,by rw [Bg hb,b],h2.trans ?_⟩;rw [Qzy];exact⟨.inr,fun hh=>hh.resolve_left h⟩
 unfold Cz DX Ez;obtain⟨r,b,h2⟩:=key l.length 0 U;rw [show((0:Int))=((0:Nat):Int) from Z,b,Qq6];rw [QxE] at h2
 congr 1
 rw [Qxz,decide_eq_true_eq,decide_eq_true_eq];exact h2
theorem Aik{l:List (List UInt8)}(hl:l.length<=1000000000000):Hz l=some (l.any fun x=>!S5 x):=by
 have key:∀ (d i:Nat),i+d=l.length->∃ r,Go.L.run (Dq l) (i:Int)=some r/\(0<=r↔(l.drop i).any (fun x=>!S5 x)=true):=by
  intro d
  induction d with
  | zero=>
   intro i hi;refine⟨-1,AP (m:=some (-1)) ?_,by rw [Qz5 U];simp⟩;unfold Dq GW;rw [if_neg U]
  | succ d ih=>
   intro i hi;have hil:i<l.length:=by omega
   rw [drop_cons hil]
   have hb:Dq l (i:Int)=if(!S5 (l.getD i Qq2))=true then some (.inr (i:Int)) else some (.inl ((i+1:Nat):Int)):=by
    unfold Dq Iv;rw [if_pos U,Ad U,Qq8,Abo,Ad (by unfold Bz;omega)]
    rfl
   by_cases h:(!S5 (l.getD i Qq2))=true
   ·rw [if_pos h] at hb;exact⟨_,AP (m:=some (i:Int)) hb,by rw [Qjq,h];simp⟩
   ·rw [if_neg h] at hb;obtain⟨r,a,h2⟩:=ih (i+1) U;refine⟨r,by rw [Bg hb,a],h2.trans ?_⟩;have hf:(!S5 (l.getD i Qq2))=false:=by simpa using h
    rw [Qjq,hf,Qjz]
 unfold Hz IT IH;obtain⟨r,a,h2⟩:=key l.length 0 U;rw [show((0:Int))=((0:Nat):Int) from Z,a,Qq6];rw [QxE] at h2
 congr 1
 rw [Qxz,decide_eq_true_eq];exact h2
theorem Abz{l:List (List UInt8)}(hl:l.length<=1000000000000):∀ (d i:Nat),i+d=l.length->(l.take i).Nodup->∃ c,Go.L.run (DA l) (i:Int)=some c/\(c=0->l.Nodup)
 | 0,i,hi,hn=>by
  refine⟨0,AP (m:=some 0) ?_,fun _=>?_⟩
  ·unfold DA HG;rw [if_neg U]
  ·rwa [Qxj U] at hn
 | d+1,i,hi,hn=>by
  have hil:i<l.length:=by omega
  have hb:DA l (i:Int)=if l.getD i Qq2∈l.take i then some (.inr 8) else some (.inl ((i+1:Nat):Int)):=by
   unfold DA;rw [if_pos U,Ad U,Ad U,Qq8,AeB (by rw [QzK];omega),Qq6,Ad (by unfold Bz;omega)]
   by_cases h:l.getD i Qq2∈l.take i <;> simp [h]
  by_cases h:l.getD i Qq2∈l.take i
  ·rw [if_pos h] at hb;exact⟨8,AP (m:=some 8) hb,fun hc=>by cases hc⟩
  ·rw [if_neg h] at hb
   obtain⟨c,f,h2⟩:=Abz hl d (i+1) U (by
    rw [QxJ,Qzj hil];have e:l[i]=l.getD i Qq2:=by rw [Qq9,Qzj hil];rfl
    rw [e];exact List.nodup_append.2 ⟨hn,QkJ _ _,fun a ha b hb e=>by rw [Qja,QzB] at hb;subst hb;subst e;exact h ha⟩)
   exact⟨c,by rw [Bg hb,f],h2⟩
theorem AiQ(a b:Int)(c:List UInt8){ns:List (List UInt8)}(hn:ns.length<=1000000000000)(ps:List Pv)(fl:Bool):∃ r,BO a b c ns ps fl=some r/\(r=0->fl=false/\ps.length<=600/\(∀ x∈ns,S5 x=true)/\ns.Nodup):=by
 unfold BO
 cases fl with
 | true=>exact⟨6,Z,fun h=>by cases h⟩
 | false=>
  rw [if_neg Qqc]
  by_cases d:(600:Int)<(ps.length:Int)
  ·rw [if_pos d];exact⟨14,Z,fun h=>by cases h⟩
  ·rw [if_neg d,Aik hn,Qq6]
   by_cases h2:(ns.any fun x=>!S5 x)=true
   ·rw [if_pos h2];exact⟨7,Z,fun h=>by cases h⟩
   ·rw [if_neg h2];obtain⟨r,h3,e⟩:=Abz hn ns.length 0 U Qqd;refine⟨r,h3,fun h=>⟨Z,by omega,fun x hx=>?_,e h⟩⟩
    cases hk:S5 x with
    | true=>rfl
    | false=>exact absurd (List.any_eq_true.2 ⟨x,hx,by simp [hk]⟩) h2
theorem vc1(l:List Int)(hl:l.length<=1000)(v:Pv):Ct l v=some (decide (v.f.1∈l),v):=by
 unfold Ct;rw [AeA hl]
 rfl
set_option maxHeartbeats 4000000 in
theorem Yc(v:Pv)(hn:v.f.2.2.2.1.length<=1000000000000):∃ c,GQ v=some c/\(c=0->Ty v):=by
 have fin:∀ fl:Bool,(fl=false->(v.f.1=1\/v.f.1=2\/v.f.1=3\/v.f.1=4)/\(v.f.1=1\/v.f.2.1=0)/\(v.f.1=2\/v.f.2.2.1=[])/\(v.f.1=4\/v.f.2.2.2.1=[])/\(v.f.1=3\/v.f.1=4\/v.f.2.2.2.2=[])/\(v.f.1=4->v.f.2.2.2.1.length=v.f.2.2.2.2.length))->
   ∃ c,BO v.f.1 v.f.2.1 v.f.2.2.1 v.f.2.2.2.1 v.f.2.2.2.2 fl=some c/\(c=0->Ty v):=by
  intro fl hfl;obtain⟨r,d,h2⟩:=AiQ v.f.1 v.f.2.1 v.f.2.2.1 hn v.f.2.2.2.2 fl;refine⟨r,d,fun hr=>?_⟩;obtain⟨e,g,i,j⟩:=h2 hr;obtain⟨m,o,p,q,s,t⟩:=hfl e;exact⟨m,o,p,q,s,t,g,i,j⟩
 have a:=vc1 [1,2,3,4] Qqc v;have u:=vc1 [1] Qqc v;have w:=vc1 [2] Qqc v;have x:=vc1 [3,4] Qqc v;have y:=vc1 [4] Qqc v
 by_cases hk:v.f.1=1\/v.f.1=2\/v.f.1=3\/v.f.1=4
 ·have ev:Pv.mk v.f.1 v.f.2.1 v.f.2.2.1 v.f.2.2.2.1 v.f.2.2.2.2=v:=by cases v;rfl
  unfold GQ Gk Gj Gi;simp only [a,u,w,x,y,ev,Qq6];generalize v.f.1=k at *;generalize v.f.2.1=n at *;generalize v.f.2.2.1=b at *;generalize v.f.2.2.2.1=ns at *;generalize v.f.2.2.2.2=ps at *
  have hb:b=[]\/(0:Int)<(b.length:Int):=by cases b with
   | nil=>exact .inl Z
   | cons _ _=>exact .inr (by simp only [Qzw];omega)
  have hm:ns=[]\/(0:Int)<(ns.length:Int):=by cases ns with
   | nil=>exact .inl Z
   | cons _ _=>exact .inr (by simp only [Qzw];omega)
  have hp:ps=[]\/(0:Int)<(ps.length:Int):=by cases ps with
   | nil=>exact .inl Z
   | cons _ _=>exact .inr (by simp only [Qzw];omega)
  rcases hk with rfl | rfl | rfl | rfl <;> by_cases hz:n=0 <;> rcases hb with rfl | hb <;> rcases hm with rfl | hm <;> rcases hp with rfl | hp <;>
   simp +decide only [*,if_true,if_false,Qzd,Bool.not_true,Qka,Qxq,decide_true,decide_false,Int.lt_irrefl,Int.natCast_zero] <;>
   (refine fin _ fun hfl=>?_) <;> simp_all <;> omega
 ·refine⟨5,?_,fun h=>by cases h⟩;unfold GQ;rw [a,Qq6];rw [if_pos (by simp [hk])]
end Go.Proofs.YtekmbcbgknmhiaaGreatDoor
end
noncomputable section
namespace Go.Proofs.YtekmbcbgknmhiaaGreatDoor
open Go Go.L
abbrev En:Type:=Lf×List Int
end Go.Proofs.YtekmbcbgknmhiaaGreatDoor
end
noncomputable section
namespace Go.L
def VK{α:Type}(f:List α->Bool):List α->Bool
 | []=>f []
 | y::q=>f (y::q)||VK f q
def fits:List (List UInt8)->List (List UInt8)->Bool
 | [],q=>decide (q.length=0)
 | x::p,q=>if x=[42,42] then VK (fun r=>fits p r) q else match q with
  | []=>false
  | y::q'=>(decide (x=[42])||decide (x=y))&&fits p q'
def kp(l:List (List UInt8))(j:Nat):Bool:=decide (j=0\/¬ (l.getD j Qq2=[42,42]/\l.getD (j - 1) Qq2=[42,42]))
def kept(l:List (List UInt8))(m:Nat):List (List UInt8):=((Qzv m).filter (kp l)).map fun j=>l.getD j Qq2
theorem Tz(l:List (List UInt8))(m:Nat):kept l (m+1)=kept l m++if kp l m then[l.getD m Qq2] else[]:=by
 unfold kept;rw [QxB,Qjj,Qxa]
 congr 1
 by_cases h:kp l m=true <;> simp [h]
theorem AeC(l:List (List UInt8))(m:Nat):(kept l m).length<=m:=by
 unfold kept;rw [Qzk];exact Qz2 (Qkd _ _) Qqd
theorem VL{l:List (List UInt8)}{m:Nat}(hm:m<=l.length)(h:∀ j,j<m->kp l j=true):kept l m=l.take m:=by
 induction m with
 | zero=>rfl
 | succ m ih=>
  rw [Tz,ih U (fun j hj=>h j U),h m U,if_pos Z,QxJ,Qzj (by omega:m<l.length)];simp [Qq9,Qzj (by omega:m<l.length)]
end Go.L
namespace Go.Proofs.YtekmbcbgknmhiaaGreatDoor
open Go Go.L
theorem Ag5{self:List (List UInt8)->List (List UInt8)->Option Bool}{p q:List (List UInt8)}{x:List UInt8}(hq:q.length<=1000000000000)(hs:∀ r:List (List UInt8),r.length<=q.length->self p r=some (fits p r)):
  ∀ (d i:Nat),i+d=q.length->Go.L.run (Cw (x::p) q self) (i:Int)=some (VK (fun r=>fits p r) (q.drop i)):=by
 have hend:Go.L.run (Cw (x::p) q self) ((q.length+1:Nat):Int)=some false:=by
  refine AP (m:=some false) ?_;unfold Cw G8;rw [if_neg U]
 have hb:∀ i:Nat,i<=q.length->Cw (x::p) q self (i:Int)=if fits p (q.drop i) then some (.inr true) else some (.inl ((i+1:Nat):Int)):=by
  intro i hi;unfold Cw;have a:((x::p).drop (1:Int).toNat)=p:=Z;rw [if_pos U,Ad (by simp only [Qzw];omega),Ad U,a,Qq8,hs _ Qqd,Qq6,Ad (by unfold Bz;omega)]
  rfl
 intro d
 induction d with
 | zero=>
  intro i hi;obtain rfl:i=q.length:=by omega
  have h:=hb q.length (Qzx _);rw [Qz5 (Qzx _)] at h ⊢;unfold VK
  by_cases hf:fits p []=true
  ·rw [if_pos hf] at h;rw [AP (m:=some true) h,hf]
  ·rw [if_neg hf] at h;rw [Bg h,hend]
   simpa using hf
 | succ d ih=>
  intro i hi;have h:=hb i U;rw [drop_cons (by omega:i<q.length)] at h ⊢;unfold VK
  by_cases hf:fits p (q.getD i Qq2::q.drop (i+1))=true
  ·rw [if_pos hf] at h;rw [AP (m:=some true) h,hf]
   rfl
  ·rw [if_neg hf] at h;rw [Bg h,ih (i+1) U];have:fits p (q.getD i Qq2::q.drop (i+1))=false:=by simpa using hf
   rw [this,Qjz]
theorem Ab0:∀ (p:List (List UInt8)) (n:Nat) (q:List (List UInt8)),p.length<n->q.length<=1000000000000->E8 n p q=some (fits p q)
 | [],0,_,h,_=>by simp at h
 | _::_,0,_,h,_=>by simp at h
 | [],n+1,q,_,hq=>by
  show DI (E8 n) [] q=_
  unfold DI fits;rw [if_pos (show((([]:List (List UInt8)).length:Nat):Int)=0 from Z)]
  congr 1
  rw [decide_eq_decide];omega
 | x::p,n+1,q,hp,hq=>by
  show DI (E8 n) (x::p) q=_
  have ih:∀ r:List (List UInt8),r.length<=q.length->E8 n p r=some (fits p r):=fun r hr=>Ab0 p n r (by simp at hp;omega) U;unfold DI fits;have hg:(x::p).getD ((0:Int).toNat) Qq2=x:=Z;rw [if_neg (by simp only [Qzw];omega),Ad (by simp only [Qzw];omega),hg]
  by_cases hx:x=[42,42]
  ·rw [if_pos hx,if_pos hx,Ad (by unfold Bz;omega)];exact Ag5 (x:=x) hq ih q.length 0 U
  ·rw [if_neg hx,if_neg hx];unfold G9
   cases q with
   | nil=>rfl
   | cons y q'=>
    have b:(0:Int)<((y::q').length:Int):=by simp only [Qzw];omega
    have h2:(0:Int)<=0/\(0:Int)<((x::p).length:Int):=by simp only [Qzw];omega
    have h3:(0:Int)<=1/\(1:Int)<=((x::p).length:Int):=by simp only [Qzw];omega
    have c:(0:Int)<=1/\(1:Int)<=((y::q').length:Int):=by simp only [Qzw];omega
    have d:(0:Int)<=0/\(0:Int)<((y::q').length:Int):=by simp only [Qzw];omega
    have e:(x::p).drop (1:Int).toNat=p:=Z;have f:(y::q').drop (1:Int).toNat=q':=Z;have g:(y::q').getD ((0:Int).toNat) Qq2=y:=Z;rw [if_pos b];simp only [Ad h2,Ad h3,Ad c,Ad d,hg,e,f,g,ih q' Qqd,Qq6]
    by_cases a:x=[42]
    ·rw [if_pos a];simp [a]
    ·rw [if_neg a]
     by_cases i:x=y <;> simp [a,i]
theorem Ab1(a b:List UInt8):Gf a b=some (decide (a=[42,42]/\b=[42,42])):=by
 unfold Gf
 by_cases h:a=[42,42] <;> simp [h]
def col(l:List (List UInt8)):List (List UInt8):=kept l l.length
theorem Ag6(l:List (List UInt8)):(col l).length<=l.length:=AeC l l.length
theorem AiS{l:List (List UInt8)}(hl:l.length<=1000000000000){a:Nat}(e:1<=a)(hk:a<l.length)(hall:∀ j,j<a->kp l j=true)(hno:kp l a=false):
  Cn (a:Int) (l,(a:Int),(1:Int))=some (.inr (col l)):=by
 unfold Cn;refine AaL (fun s=>∃ (m:List (List UInt8)) (k b:Nat),s=(m,(k:Int),(b:Int))/\m.length=l.length/\m.drop (a+b - 1)=l.drop (a+b - 1)/\m.take k=kept l (a+b)/\k=(kept l (a+b)).length/\k<=a+b - 1/\1<=b/\a+b<=l.length) (fun s=>l.length - s.2.2.toNat) ?_ ?_
 ·rintro _ ⟨m,k,b,rfl,hm,hd,ht,hkl,hkk,h2,hle⟩;have hdl:(m.drop a).length=l.length - a:=by rw [QzA,hm]
  by_cases hc:a+b<l.length
  ·left
   have c:(m.drop a).getD b Qq2=l.getD (a+b) Qq2:=by
    have:(m.drop (a+b - 1))[1]? = (l.drop (a+b - 1))[1]?:=by rw [hd]
    rw [Qxw,Qxw,show a+b - 1+1=a+b by omega] at this;rw [Qq9,Qq9,Qxw,this]
   have d:(m.drop a).getD (b - 1) Qq2=l.getD (a+b - 1) Qq2:=by
    have:(m.drop (a+b - 1))[0]? = (l.drop (a+b - 1))[0]?:=by rw [hd]
    rw [Qxw,Qxw,Qxk] at this;rw [Qq9,Qq9,Qxw,show a+(b - 1)=a+b - 1 by omega,this]
   have hks:=Tz l (a+b)
   by_cases hp:kp l (a+b)=true
   ·refine⟨(m.set k (l.getD (a+b) Qq2),((k+1:Nat):Int),((b+1:Nat):Int)),?_,⟨_,k+1,b+1,Z,by rw [QkK,hm],?_,?_,?_,by omega,by omega,by omega⟩,by simp only [Qq8];omega⟩
    ·unfold BD;dsimp only;rw [Qq8,if_pos U,Ad U,Ad (by unfold Bz;omega),Ad U,Qq8,show((b:Int) - 1).toNat=b - 1 by omega,c,d,Ab1,Qq6]
     have hx:decide (l.getD (a+b) Qq2=[42,42]/\l.getD (a+b - 1) Qq2=[42,42])=false:=by
      unfold kp at hp;rw [decide_eq_true_eq] at hp;rw [decide_eq_false_iff_not]
      rcases hp with hp | hp
      ·omega
      ·exact hp
     rw [hx,if_pos Qqc,Ad U,Ad U,Ad (by unfold Bz;omega),Ad (by unfold Bz;omega),Qq8]
     rfl
    ·rw [show a+(b+1) - 1=a+b by omega,List.drop_set_of_lt U];have:(m.drop (a+b - 1)).drop 1=(l.drop (a+b - 1)).drop 1:=by rw [hd]
     rwa [Qkk,Qkk,show a+b - 1+1=a+b by omega] at this
    ·rw [show a+(b+1)=a+b+1 by omega,hks,if_pos hp,QxJ,List.take_set_of_le (Qzx _),ht,List.getElem?_set_self U]
     rfl
    ·rw [show a+(b+1)=a+b+1 by omega,hks,if_pos hp,Qzu,<- hkl];rfl
   ·have hp':kp l (a+b)=false:=by simpa using hp
    refine⟨(m,(k:Int),((b+1:Nat):Int)),?_,⟨m,k,b+1,Z,hm,?_,?_,?_,by omega,by omega,by omega⟩,by simp only [Qq8];omega⟩
    ·unfold BD;dsimp only;rw [Qq8,if_pos U,Ad U,Ad (by unfold Bz;omega),Ad U,Qq8,show((b:Int) - 1).toNat=b - 1 by omega,c,d,Ab1,Qq6]
     have hx:decide (l.getD (a+b) Qq2=[42,42]/\l.getD (a+b - 1) Qq2=[42,42])=true:=by
      unfold kp at hp';rw [decide_eq_false_iff_not] at hp';rw [decide_eq_true_eq];exact Decidable.not_not.1 (fun hh=>hp' (.inr hh))
     rw [hx,if_neg Qqc,Ad (by unfold Bz;omega)]
     rfl
    ·rw [show a+(b+1) - 1=a+b by omega];have:(m.drop (a+b - 1)).drop 1=(l.drop (a+b - 1)).drop 1:=by rw [hd]
     rwa [Qkk,Qkk,show a+b - 1+1=a+b by omega] at this
    ·rw [show a+(b+1)=a+b+1 by omega,hks,hp']
     simpa using ht
    ·rw [show a+(b+1)=a+b+1 by omega,hks,hp']
     simpa using hkl
  ·right
   have he:a+b=l.length:=by omega
   unfold BD Cm;dsimp only;rw [Qq8,if_neg U,Qq8,Ad U,Ad (by simp;omega)]
   congr 1
   have htl:(m.take k).length=k:=by rw [QzK];omega
   rw [show(m.take k++Qzz (m.length - k) ([]:List UInt8)).take k=m.take k by rw [List.take_append_of_le_length U,Qxj U],ht,he]
   rfl
 ·have hks:=Tz l a;have hka:=VL (l:=l) (m:=a) U hall;refine⟨l,a,1,Z,Z,Z,?_,?_,by omega,by omega,by omega⟩
  ·rw [hks,hno,hka];simp
  ·rw [hks,hno,hka];simp;omega
theorem Ail{l:List (List UInt8)}(hl:l.length<=1000000000000):∀ (d k:Nat),k+d=l.length->1<=k->(∀ j,j<k->kp l j=true)->Go.L.run Bo (l,(k:Int))=some (col l):=by
 intro d
 induction d with
 | zero=>
  intro k hk a hall;refine AP (m:=some (col l)) ?_;unfold Bo Cp;dsimp only;rw [if_neg U];unfold col;rw [VL (Qzx _) (fun j hj=>hall j U),Qx4]
 | succ d ih=>
  intro k hk a hall
  by_cases hp:kp l k=true
  ·have hb:Bo (l,(k:Int))=some (.inl (l,((k+1:Nat):Int))):=by
    unfold Bo;dsimp only;rw [if_pos U,Ad U,Ad (by unfold Bz;omega),Ad U,Qq8,show((k:Int) - 1).toNat=k - 1 by omega,Ab1,Qq6]
    have hx:decide (l.getD k Qq2=[42,42]/\l.getD (k - 1) Qq2=[42,42])=false:=by
     unfold kp at hp;rw [decide_eq_true_eq] at hp;rw [decide_eq_false_iff_not]
     rcases hp with hp | hp
     ·omega
     ·exact hp
    rw [hx,if_neg Qqc];unfold Co;rw [Ad (by unfold Bz;omega)]
    rfl
   rw [Bg hb];refine ih (k+1) U U (fun j hj=>?_)
   rcases Nat.lt_succ_iff_lt_or_eq.1 hj with h | rfl
   ·exact hall j h
   ·exact hp
  ·have hp':kp l k=false:=by simpa using hp
   refine AP (m:=some (col l)) ?_;unfold Bo;dsimp only;rw [if_pos U,Ad U,Ad (by unfold Bz;omega),Ad U,Qq8,show((k:Int) - 1).toNat=k - 1 by omega,Ab1,Qq6]
   have hx:decide (l.getD k Qq2=[42,42]/\l.getD (k - 1) Qq2=[42,42])=true:=by
    unfold kp at hp';rw [decide_eq_false_iff_not] at hp';rw [decide_eq_true_eq];exact Decidable.not_not.1 (fun hh=>hp' (.inr hh))
   rw [hx,if_pos Z,Ad U,AiS hl a U hall hp']
   rfl
theorem AeD{l:List (List UInt8)}(hl:l.length<=1000000000000):BZ l=some (col l):=by
 unfold BZ
 have a:∀ j,j<1->kp l j=true:=fun j hj=>by
  have:j=0:=by omega
  subst this;unfold kp;simp
 by_cases h:(l.length:Int)<2
 ·rw [if_pos h];unfold col;rw [VL (Qzx _) (fun j hj=>a j U),Qx4]
 ·rw [if_neg h];exact Ail hl (l.length - 1) 1 U (Qzx _) a
theorem RS{a b:List UInt8}(ha:a.length<900)(hb:b.length<4294967281):DU a b=some (fits (col (sl a)) (sl b)):=by
 unfold DU;have hla:=AdW a;have hlb:=AdW b;have:=Ag6 (sl a);rw [V3 U,Qq6,AeD U,Qq6,V3 U,Qq6];have hf:LD (col (sl a)) (sl b)=some (fits (col (sl a)) (sl b)):=Ab0 (col (sl a)) 1000 (sl b) U U;rw [hf]
 rfl
theorem Yd(a:List UInt8):(pf a).1=0->pf a=(0,0)/\a.length<=64:=by
 unfold pf
 split
 ·intro h;simp at h
 ·split
  ·intro h;simp at h
  ·intro _;exact⟨Z,by omega⟩
end Go.Proofs.YtekmbcbgknmhiaaGreatDoor
end
noncomputable section
namespace Go.L
def VM(s:List UInt8):List UInt8:=Pd (zz (s.length:Int))++s
def Aax(l:List Int):List UInt8:=Pd (zz (l.length:Int))++l.flatMap fun i=>Pd (zz i)
end Go.L
namespace Go.Proofs.YtekmbcbgknmhiaaGreatDoor
open Go Go.L
def SD(e:En):List UInt8:=[VM e.1.1,Pd (zz e.1.2.1),Pd (zz e.1.2.2.1),VM e.1.2.2.2,Aax e.2].flatten
def Ab2(n:Int)(es:List En):List UInt8:=Pd (zz n)++(Pd (zz (es.length:Int))++es.flatMap SD)
def EnS(e:En):Prop:=e.1.1.length<=2000000/\Bz e.1.2.1/\Bz e.1.2.2.1/\e.1.2.2.2.length<=2000000/\(∀ z∈e.2,Bz z)/\e.2.length<=1000000
theorem Pe(l:List Int):(l.flatMap fun i=>Pd (zz i)).length<=10 * l.length:=by
 induction l with
 | nil=>simp
 | cons a l ih=>rw [Qxd,Qzu,Qzw];have:=GF (zz a);omega
theorem Ou{α β:Type}[Inhabited α](f:α->List β){l:List α}{i:Nat}(h:i<l.length):(l.take (i+1)).flatMap f=(l.take i).flatMap f++f (l.getD i Qq2):=by
 rw [QxJ,Qzj h,Qja,List.flatMap_append];simp [Qq9,Qzj h]
theorem Ag7{l:List Int}(h:∀ z∈l,Bz z)(hl:l.length<=1000000):J6 l=some (Aax l):=by
 unfold J6;rw [Jd (by unfold Bz;omega),Qq6];unfold Km;have b:=GF (zz (l.length:Int));refine DJ (fun i=>(Pd (zz (l.length:Int))++(l.take i).flatMap (fun i=>Pd (zz i)),((i:Nat):Int))) l.length (fun i hi=>?_) ?_ 0 |> fun hh=>by simpa using hh
 ·unfold GH;dsimp only;have a:=Pe (l.take i);have h2:=GF (zz (l.getD i Qq2));rw [QzK] at a;rw [if_pos U,Ad U,Qq8,Jd (h _ (Et hi)),Qq6,Ad (by unfold Go.E.H7;simp only [Qzu];omega),Ad (by unfold Bz;omega),Ou _ hi,QxX]
  rfl
 ·unfold GH IV;dsimp only;rw [if_neg U,Qx4]
  rfl
theorem R8{α:Type}:∀ (L:List (List α)) (i:Nat),(L.take i).flatten.length<=L.flatten.length
 | [],i=>by simp
 | x::L,0=>by simp
 | x::L,i+1=>by have:=R8 L i;simp only [List.take_succ_cons,List.flatten_cons,Qzu];omega
theorem Md{α:Type}{L:List (List α)}{i:Nat}(h:i<L.length):(L.take (i+1)).flatten=(L.take i).flatten++L.getD i Qq2:=by
 rw [QxJ,Qzj h,Qja,List.flatten_append];simp [Qq9,Qzj h]
theorem Ag8{n:Int}(h:0<=n/\n<=1000000000000):E1 [] n=some []:=by
 unfold E1 EC;rw [if_neg U,Ad (by unfold Bz;omega),Ad (by unfold Bz;omega)]
 split
 ·rw [Ad U]
 ·rfl
theorem Acz{L:List (List UInt8)}(hL:L.length<=1000)(ht:L.flatten.length<=1000000000000):DL L=some L.flatten:=by
 have hx:∀ i,i<L.length->(L.take i).flatten.length+(L.getD i Qq2).length<=1000000000000:=fun i hi=>by
  have a:=R8 L (i+1);rw [Md hi,Qzu] at a;omega
 have b:Dc L (L.flatten.length:Int)=some L.flatten:=by
  unfold Dc;rw [Ag8 U,Qq6];unfold Fo;refine DJ (fun i=>((L.take i).flatten,((i:Nat):Int))) L.length (fun i hi=>?_) ?_ 0
  ·unfold CP;dsimp only;have:=hx i hi;rw [if_pos U,Ad U,Qq8,Ad (by unfold Go.E.H7;omega),Ad (by unfold Bz;omega),Md hi]
   rfl
  ·unfold CP Ec;dsimp only;rw [if_neg U,Qx4]
 unfold DL Fp;refine DJ (fun i=>(((L.take i).flatten.length:Int),((i:Nat):Int))) L.length (fun i hi=>?_) ?_ 0
 ·unfold CQ;dsimp only;have:=hx i hi;rw [if_pos U,Ad U,Qq8,Ad (by unfold Bz;omega),if_neg U,Ad (by unfold Bz;omega),Md hi,Qzu]
  rfl
 ·unfold CQ;dsimp only;rw [if_neg U,Qx4,b]
theorem Rg{e:En}(h:EnS e):(SD e).length<=20000000:=by
 obtain⟨a,_,_,b,_,c⟩:=h;unfold SD VM Aax;simp only [List.flatten_cons,List.flatten_nil,Qzu,Qzd];have:=Pe e.2;have:=GF (zz (e.1.1.length:Int));have:=GF (zz e.1.2.1);have:=GF (zz e.1.2.2.1);have:=GF (zz (e.1.2.2.2.length:Int));have:=GF (zz (e.2.length:Int));omega
theorem Zt{s:List UInt8}(h:s.length<=2000000):HH s=some (VM s):=by
 unfold HH VM;have:=GF (zz (s.length:Int));rw [Jd (by unfold Bz;omega),Qq6,Ad (by unfold Go.E.H7;omega)]
theorem Ag9{e:En}(h:EnS e):JW e=some (SD e):=by
 have hl:=Rg h;obtain⟨a,h2,h3,b,c,d⟩:=h;unfold JW;rw [Ad U,Zt a,Qq6,Jd h2,Qq6,Jd h3,Qq6,Ad U,Zt b,Qq6,Ag7 c d,Qq6,Acz Qqd (by unfold SD at hl;omega)]
 rfl
theorem NT{α β:Type}(f:α->List β)(B:Nat):∀ {l:List α},(∀ x∈l,(f x).length<=B)->(l.flatMap f).length<=l.length * B
 | [],_=>by simp
 | x::l,h=>by
  rw [Qxd,Qzu,Qzw,Nat.add_mul];have:=h x (.head _);have:=NT f B fun y hy=>h y (.tail _ hy);omega
theorem AeE{n:Int}{es:List En}(hn:Bz n)(hl:es.length<=1000000)(h:∀ e∈es,EnS e):Gl (n,es)=some (Ab2 n es):=by
 have ht:=NT SD 20000000 (l:=es) fun x hx=>Rg (h x hx);have b:=GF (zz (es.length:Int));have c:=GF (zz n)
 have hw:Lt es=some (Pd (zz (es.length:Int))++es.flatMap SD):=by
  unfold Lt;rw [Jd (by unfold Bz;omega),Qq6];unfold LL;refine DJ (fun i=>(Pd (zz (es.length:Int))++(es.take i).flatMap SD,((i:Nat):Int))) es.length (fun i hi=>?_) ?_ 0 |> fun hh=>by simpa using hh
  ·unfold Il;dsimp only;have a:=NT SD 20000000 (l:=es.take i) fun x hx=>Rg (h x (List.mem_of_mem_take hx));rw [QzK] at a;have d:=Rg (h _ (Et hi));have f:min i es.length * 20000000<=1000000 * 20000000:=Qky _ U;rw [if_pos U,Ad U,Qq8]
   show(JW (es.getD i Qq2)).bind _=_
   rw [Ag9 (h _ (Et hi)),Qq6,Ad (by unfold Go.E.H7;simp only [Qzu];omega),Ad (by unfold Bz;omega),Ou _ hi,QxX]
   rfl
  ·unfold Il JX;dsimp only;rw [if_neg U,Qx4]
 unfold Gl;dsimp only;have g:es.length * 20000000<=1000000 * 20000000:=Qky _ hl;rw [Jd hn,Qq6,hw,Qq6,Ad (by unfold Go.E.H7;simp only [Qzu];omega)]
 rfl
structure EV (n:Int) (e:En):Prop where
 path:e.1.1.length<=330/\¬ 0<=wr false 0 (sl e.1.1)
 kind:1<=e.1.2.1/\e.1.2.1<=4
 num:e.1.2.2.1=0\/e.1.2.1=1
 text:e.1.2.2.2=[]\/e.1.2.1=2
 ne:e.2≠[]
 items:∀ z∈e.2,0<=z/\z<n
 inc:e.2.Pairwise (fun a b=>a<b)
end Go.Proofs.YtekmbcbgknmhiaaGreatDoor
end
noncomputable section
namespace Go.L
def Ap{α:Type}(m m':Option α):Prop:=∀ r,m=some r->m'=some r
theorem apR{α:Type}(m:Option α):Ap m m:=fun _ h=>h
theorem apB{α β:Type}{m m':Option α}{f f':α->Option β}(h:Ap m m')(k:∀ x,Ap (f x) (f' x)):Ap (Qq4 m f) (Qq4 m' f'):=fun r e=>by
 obtain⟨x,a,h2⟩:=bind_some e;rw [h x a,Qq6];exact k x r h2
theorem apC{α:Type}{p:Prop}[Decidable p]{m m':Option α}(h:Ap m m'):Ap (Go.L.AN p m) (Go.L.AN p m'):=fun r e=>by
 obtain⟨a,h2⟩:=G2 e;rw [Ad a];exact h r h2
theorem apI{α:Type}{p:Prop}[Decidable p]{a b a' b':Option α}(h:Ap a a')(k:Ap b b'):Ap (if p then a else b) (if p then a' else b'):=fun r e=>by
 by_cases hp:p
 ·rw [if_pos hp] at e ⊢;exact h r e
 ·rw [if_neg hp] at e ⊢;exact k r e
theorem apM{α β:Type}{f:α->β}{m m':Option α}(h:Ap m m'):Ap (Qq7 f m) (Qq7 f m'):=fun r e=>by
 cases m with
 | none=>cases e
 | some x=>rw [h x Z];exact e
theorem apO{α β:Type}{x:Option α}{ex ex':Option β}{k k':α->Option β}(h:Ap ex ex')(hk:∀ y,Ap (k y) (k' y)):Ap (Go.L.ZE x ex k) (Go.L.ZE x ex' k'):=by
 cases x with
 | none=>exact h
 | some y=>exact hk y
theorem Ap.H8{σ ρ:Type}{b b':σ->Option (σ ⊕ ρ)}(h:∀ s,Ap (b s) (b' s)):∀ (n:Nat) (s:σ),Ap (H8 b n s) (H8 b' n s)
 | 0,_=>fun _ e=>by cases e
 | n+1,s=>fun r e=>by
  obtain⟨m,x,hm,a,h2⟩:=AY e;obtain rfl:n=m:=by omega
  rw [Go.L.H8,h s x a]
  cases x with
  | inl s'=>exact Ap.H8 h n s' r h2
  | inr y=>exact congrArg some h2
theorem Ap.run{σ ρ:Type}{b b':σ->Option (σ ⊕ ρ)}(h:∀ s,Ap (b s) (b' s))(n:Nat)(s:σ):Ap (Go.L.H8 b n s) (Go.L.run b' s):=fun r e=>Xu (Ap.H8 h n s r e)
class Mi {α:Type} (m:Option α) where
 c:Option α
 h:Ap c m
noncomputable instance {α:Type} (x:α):Mi (some x):=⟨some x,apR _⟩
noncomputable instance {α:Type}:Mi (none:Option α):=⟨none,apR _⟩
noncomputable instance iB {α β:Type} (m:Option α) (f:α->Option β) [i:Mi m] [j:∀ x,Mi (f x)]:Mi (Qq4 m f):=⟨Qq4 i.c fun x=>(j x).c,apB i.h fun x=>(j x).h⟩
noncomputable instance iC {α:Type} (p:Prop) [Decidable p] (m:Option α) [i:Mi m]:Mi (Go.L.AN p m):=⟨Go.L.AN p i.c,apC i.h⟩
noncomputable instance iI {α:Type} (p:Prop) [Decidable p] (a b:Option α) [i:Mi a] [j:Mi b]:Mi (if p then a else b):=⟨if p then i.c else j.c,apI i.h j.h⟩
noncomputable instance {α β:Type} (f:α->β) (m:Option α) [i:Mi m]:Mi (Qq7 f m):=⟨Qq7 f i.c,apM i.h⟩
noncomputable instance {α β:Type} (x:Option α) (ex:Option β) (k:α->Option β) [i:Mi ex] [j:∀ y,Mi (k y)]:Mi (Go.L.ZE x ex k):=⟨Go.L.ZE x i.c fun y=>(j y).c,apO i.h fun y=>(j y).h⟩
noncomputable instance {σ ρ:Type} (b:σ->Option (σ ⊕ ρ)) (s:σ) [i:∀ s,Mi (b s)]:Mi (Go.L.run b s):=⟨Go.L.H8 (fun s=>(i s).c) 300 s,Ap.run (fun s=>(i s).h) 300 s⟩
end Go.L
namespace Go.L
def Ac0{α:Type}(le:α->α->Bool)(a:α):List α->List α
 | []=>[a]
 | b::l=>if le a b then a::b::l else b::Ac0 le a l
def isB{α:Type}(le:α->α->Bool):List α->List α
 | []=>[]
 | a::l=>Ac0 le a (isB le l)
section
variable {α:Type} {le:α->α->Bool}
theorem T0(a:α):∀ l:List α,(Ac0 le a l).Perm (a::l)
 | []=>.refl _
 | b::l=>by
  unfold Ac0
  split
  ·exact .refl _
  ·exact((T0 a l).cons b).trans (.swap a b l)
theorem Zu:∀ l:List α,(isB le l).Perm l
 | []=>.refl _
 | a::l=>(T0 a _).trans ((Zu l).cons a)
theorem TR(htr:∀ a b c,le a b=true->le b c=true->le a c=true)(hto:∀ a b,le a b=true\/le b a=true)(a:α):∀ l:List α,l.Pairwise (fun x y=>le x y=true)->(Ac0 le a l).Pairwise fun x y=>le x y=true
 | [],_=>QkJ _ _
 | b::l,h=>by
  unfold Ac0
  split
  ·rename_i d;refine .cons (fun x hx=>?_) h
   rcases Qzy.1 hx with rfl | hx
   ·exact d
   ·exact htr _ _ _ d ((Qz1.1 h).1 x hx)
  ·rename_i d;have h2:le b a=true:=by rcases hto a b with h | h;exact absurd h d;exact h
   refine .cons (fun x hx=>?_) (TR htr hto a l (Qz1.1 h).2)
   rcases Qzy.1 ((T0 a l).mem_iff.1 hx) with rfl | hx
   ·exact h2
   ·exact(Qz1.1 h).1 x hx
theorem RT(htr:∀ a b c,le a b=true->le b c=true->le a c=true)(hto:∀ a b,le a b=true\/le b a=true):∀ l:List α,(isB le l).Pairwise fun x y=>le x y=true
 | []=>.nil
 | a::l=>TR htr hto a _ (RT htr hto l)
theorem Xj(has:∀ a b,le a b=true->le b a=true->a=b):∀ {l m:List α},l.Perm m->l.Pairwise (fun x y=>le x y=true)->m.Pairwise (fun x y=>le x y=true)->l=m
 | [],m,hp,_,_=>hp.nil_eq
 | a::l,m,hp,hl,hm=>by
  cases m with
  | nil=>exact absurd hp.symm.nil_eq Qqd
  | cons b m=>
   obtain⟨d,e⟩:=Qz1.1 hl;obtain⟨f,g⟩:=Qz1.1 hm
   have hab:a=b:=by
    rcases Qzy.1 (hp.mem_iff.1 (.head _)) with c | c
    ·exact c
    ·rcases Qzy.1 (hp.mem_iff.2 (.head _)) with h2 | h2
     ·exact h2.symm
     ·exact has a b (d b h2) (f a c)
   subst hab;rw [Xj has hp.cons_inv e g]
theorem Ye(htr:∀ a b c,le a b=true->le b c=true->le a c=true)(hto:∀ a b,le a b=true\/le b a=true)(has:∀ a b,le a b=true->le b a=true->a=b)(l:List α):isB le l=l.mergeSort le:=
 Xj has ((Zu l).trans (Qkq l _).symm) (RT htr hto l) (Qk1 htr (fun a b=>by simpa using hto a b) l)
end
def isS(l:List (List UInt8)):List (List UInt8):=isB (fun x y=>decide (x<=y)) l
def isI(l:List Int):List Int:=isB (fun x y=>decide (x<=y)) l
def isL(l:List Lf):List Lf:=isB (fun x y=>!(Go.Proofs.ltOf MW) y x) l
theorem VN(l:List Int):isI l=Go.E.M0 l:=Ye (fun a b c d h2=>by simp only [decide_eq_true_eq] at *;omega) (fun a b=>by simp only [decide_eq_true_eq];omega) (fun a b d h2=>by simp only [decide_eq_true_eq] at *;omega) l
theorem VO(l:List (List UInt8)):isS l=Go.E.Ajo l:=Ye (fun a b c d h2=>by simp only [decide_eq_true_eq] at *;exact List.le_trans d h2) (fun a b=>by simp only [decide_eq_true_eq];exact List.le_total a b) (fun a b d h2=>by simp only [decide_eq_true_eq] at *;exact List.le_antisymm d h2) l
theorem AeF(l:List Lf):isL l=M1 l:=by
 have hlt:∀ a b,(!(Go.Proofs.ltOf MW) b a)=true↔¬ MW b a<0:=fun a b=>by simp [Go.Proofs.ltOf]
 refine Ye (fun a b c e h2=>?_) (fun a b=>?_) (fun a b e h2=>?_) l
 ·rw [hlt] at *;intro h3;have s1:=Oj.swap a b
  rcases Qke (MW a b) 0 with d | d | d
  ·exact h2 (Oj.trans c a b h3 d)
  ·rw [Oj.zero a b d] at h3;exact h2 h3
  ·omega
 ·rw [hlt,hlt];have s1:=Oj.swap a b;omega
 ·exact Oj.parts a b (by simpa using h2) (by simpa using e)
end Go.L
namespace Go.Proofs.YtekmbcbgknmhiaaGreatDoor
open Go Go.E Go.L
def VP(l:List (Lf×List Int)):Option (List Lf):=Go.L.AN (Go.E.H7 48 l.length) (some (isL (l.map Qq5)))
theorem Zv(l:List (Lf×List Int)):VP l=Ra l:=by unfold VP Ra;rw [AeF]
noncomputable instance (l:List (Lf×List Int)):Mi (Ra l):=⟨VP l,by rw [Zv];exact apR _⟩
end Go.Proofs.YtekmbcbgknmhiaaGreatDoor
end
noncomputable section
namespace Go.L
section
variable {α:Type} {le:α->α->Prop}
theorem Pf[Inhabited α][DecidableEq α](hre:∀ a,le a a)(htr:∀ a b c,le a b->le b c->le a c)(has:∀ a b,le a b->le b a->a=b)(d:Array α)(hs:∀ i j,i<j->j<d.size->le d[i]! d[j]!):∀ m,m<=d.size->
  (Lib.compactUpTo d m).Pairwise (fun a b=>le a b/\a≠b)/\(∀ x,x∈Lib.compactUpTo d m↔∃ j,j<m/\x=d[j]!)
 | 0,_=>⟨by simp [Lib.compactUpTo],fun x=>by simp [Lib.compactUpTo]⟩
 | m+1,hm=>by
  obtain⟨f,h2⟩:=Pf hre htr has d hs m U;rw [Lib.compactUpTo_succ]
  by_cases hk:Lib.keeps d m=true
  ·rw [if_pos hk];refine⟨Qjy.2 ⟨f,QkJ _ _,fun a ha b hb=>?_⟩,fun x=>?_⟩
   ·rw [QzB] at hb;subst hb;obtain⟨j,hj,rfl⟩:=(h2 a).1 ha;refine⟨hs j m hj U,fun e=>?_⟩;unfold Lib.keeps at hk;rw [decide_eq_true_eq] at hk
    rcases hk with hk | hk
    ·omega
    ·refine hk (has _ _ ?_ ?_)
     ·by_cases hjm:j=m - 1
      ·rw [<- e,hjm];exact hre _
      ·rw [<- e];exact hs j (m - 1) U U
     ·exact hs (m - 1) m U U
   ·rw [QzQ,h2,QzB]
    constructor
    ·rintro(⟨j,hj,rfl⟩ | rfl)
     ·exact⟨j,by omega,Z⟩
     ·exact⟨m,by omega,Z⟩
    ·rintro⟨j,hj,rfl⟩
     by_cases hjm:j=m
     ·subst hjm;exact .inr Z
     ·exact .inl ⟨j,by omega,Z⟩
  ·have hk' : ¬ (m=0\/d[m]!≠d[m - 1]!):=by
    unfold Lib.keeps at hk
    simpa using hk
   rw [if_neg hk,QzZ];refine⟨f,fun x=>(h2 x).trans ?_⟩
   constructor
   ·rintro⟨j,hj,rfl⟩;exact⟨j,by omega,Z⟩
   ·rintro⟨j,hj,rfl⟩
    by_cases hjm:j=m
    ·subst hjm;have e:d[j]! = d[j - 1]!:=Decidable.not_not.1 fun h=>hk' (.inr h);have g:j≠0:=fun h=>hk' (.inl h);exact⟨j - 1,by omega,e⟩
    ·exact⟨j,by omega,Z⟩
theorem Yf[Inhabited α][DecidableEq α](hre:∀ a,le a a)(htr:∀ a b c,le a b->le b c->le a c)(has:∀ a b,le a b->le b a->a=b){l:List α}(hs:l.Pairwise le):(Lib.compact l).Pairwise (fun a b=>le a b/\a≠b)/\∀ x,x∈Lib.compact l↔x∈l:=by
 have hget:∀ i,i<l.length->l.toArray[i]! = l.getD i Qq2:=fun i hi=>by simp [hi]
 have:=Pf hre htr has l.toArray (fun i j hij hj=>by
  have hj':j<l.length:=by simpa using hj
  have hi':i<l.length:=by omega
  have:=Qjc.1 hs i j hi' hj' hij
  simpa [hi',hj'] using this) l.length Qqd
 refine⟨this.1,fun x=>(this.2 x).trans ?_⟩
 constructor
 ·rintro⟨j,hj,rfl⟩;simp [hj]
 ·intro hx;obtain⟨j,hj,rfl⟩:=List.getElem_of_mem hx;exact⟨j,hj,by simp [hj]⟩
end
theorem T1(l:List Int):(Go.E.M0 l).Perm l:=Qkq l _
theorem Zw(l:List Int):(Go.E.M0 l).Pairwise (fun x y=>x<=y):=by
 have:=Qk1 (le:=fun x y:Int=>decide (x<=y)) (fun a b c d h2=>by simp only [decide_eq_true_eq] at *;omega) (fun a b=>by simpa using Int.le_total a b) l;exact this.imp fun h=>by simpa using h
def Pg(l:List Int):List Int:=Lib.compact (Go.E.M0 l)
theorem MA(l:List Int):(Pg l).Pairwise (fun a b=>a<=b/\a≠b)/\∀ x,x∈Pg l↔x∈l:=by
 have:=Yf (le:=fun a b:Int=>a<=b) Int.le_refl (fun _ _ _=>Int.le_trans) (fun _ _=>Int.le_antisymm) (Zw l);exact⟨this.1,fun x=>(this.2 x).trans (T1 l).mem_iff⟩
end Go.L
end
noncomputable section
namespace Go.L
section
variable {κ β:Type} [DecidableEq κ]
theorem T2(d:β)(k k':κ)(y:β):∀ M:List (κ×β),BT d k' (FT k y M)=if k'=k then y else BT d k' M
 | []=>by simp only [FT,BT]
 | (a,z)::M=>by
  unfold FT
  by_cases h:k=a
  ·subst h;rw [if_pos Z];unfold BT
   by_cases h2:k'=k
   ·rw [if_pos h2,if_pos h2]
   ·rw [if_neg h2,if_neg h2];rw [if_neg h2]
  ·rw [if_neg h];unfold BT;rw [T2 d k k' y M]
   by_cases h2:k'=a
   ·rw [if_pos h2,if_neg (fun e=>h (e.symm.trans h2)),if_pos h2]
   ·rw [if_neg h2,if_neg h2]
theorem SE{k:κ}(y:β):∀ {M:List (κ×β)},k∈M.map Qq5->(FT k y M).map Qq5=M.map Qq5
 | [],h=>by cases h
 | (a,z)::M,h=>by
  unfold FT
  by_cases hk:k=a
  ·subst hk;rw [if_pos Z];rfl
  ·rw [if_neg hk];simp only [Qze,Qzy] at h ⊢;rw [SE y (h.resolve_left hk)]
theorem SF{k:κ}(y:β):∀ {M:List (κ×β)},k∉M.map Qq5->FT k y M=M++[(k,y)]
 | [],_=>rfl
 | (a,z)::M,h=>by
  unfold FT;simp only [Qze,Qzy,not_or] at h;rw [if_neg h.1,SF y h.2]
  rfl
end
def PF(k:Lf)(i:Int)(M:List (Lf×List Int)):List (Lf×List Int):=FT k (BT [] k M++[i]) M
end Go.L
namespace Go.Proofs.YtekmbcbgknmhiaaGreatDoor
open Go Go.L
structure GI (n:Int) (es:List En):Prop where
 n0:0<=n
 n64:n<=64
 ev:∀ e∈es,EV n e
 sz:∀ e∈es,EnS e
 len:es.length<=1000000
 inc:es.Pairwise (fun a b=>MW a.1 b.1<0)
def Od(M:List (Lf×List Int)):List En:=(M1 (M.map Qq5)).map fun k=>(k,Pg (BT [] k M))
def MS(M:List (Lf×List Int)):Prop:=M.length<=1000000/\∀ k∈M.map Qq5,k.1.length<=2000000/\Bz k.2.1/\Bz k.2.2.1/\k.2.2.2.length<=2000000/\(BT [] k M).length<=1000000/\∀ z∈BT [] k M,Bz z
theorem NU(l:List Lf):(M1 l).Perm l:=Qkq l _
theorem Zx(l:List Int):(Pg l).length<=l.length:=Qz2 (Go.E.Vr _) (Nat.le_of_eq (T1 l).length_eq)
theorem AeG{M:List (Lf×List Int)}(h:MS M):∀ e∈Od M,EnS e:=by
 intro e he;obtain⟨k,hk,rfl⟩:=QzJ.1 he;obtain⟨a,h2,h3,b,c,d⟩:=h.2 k ((NU _).mem_iff.1 hk);exact⟨a,h2,h3,b,fun z hz=>d z (((MA _).2 z).1 hz),Qz2 (Zx _) c⟩
theorem Zy(M:List (Lf×List Int)):(Od M).length=M.length:=by unfold Od;rw [Qzk,Q4,Qzk]
def Aay(n:Int)(M:List (Lf×List Int)):(Int×List En)×(Int×Int):=if 16384<(Ab2 n (Od M)).length then((0,[]),(14,-1)) else((n,Od M),(0,0))
theorem AeH{n:Int}{M:List (Lf×List Int)}(hn:Bz n)(h:MS M):Hj n M=some (Aay n M):=by
 unfold Hj Ra;have hM:=h.1;rw [Ad (by unfold Go.E.H7;omega),Qq6];unfold KS
 have a:GR n (Od M)=some (Aay n M):=by
  unfold GR DH Aay;rw [AeE hn (by rw [Zy];exact hM) (AeG h),Qq6]
  by_cases hc:16384<(Ab2 n (Od M)).length
  ·rw [if_pos U,if_pos hc];rfl
  ·rw [if_neg U,if_neg hc]
 have hkl:(M1 (M.map Qq5)).length=M.length:=by rw [Q4,Qzk]
 refine DJ (fun i=>(((M1 (M.map Qq5)).take i).map (fun k=>(k,Pg (BT [] k M))),((i:Nat):Int))) (M1 (M.map Qq5)).length (fun i hi=>?_) ?_ 0
 ·obtain⟨c,h2,h3,d,e,f⟩:=h.2 _ ((NU _).mem_iff.1 (Et hi))
  have ht:((M1 (M.map Qq5)).take (i+1)).map (fun k=>(k,Pg (BT [] k M)))=((M1 (M.map Qq5)).take i).map (fun k=>(k,Pg (BT [] k M)))++[((M1 (M.map Qq5)).getD i Qq2,Pg (BT [] ((M1 (M.map Qq5)).getD i Qq2) M))]:=by
   rw [QxJ,Qzj hi,Qja,Qxa];simp [Qq9,Qzj hi]
  rw [ht];unfold Gm ET;dsimp only;rw [if_pos U,Ad U,Qq8];generalize (M1 (M.map Qq5)).getD i Qq2=k at *;have b:((k.1,k.2.1,k.2.2.1,k.2.2.2):Lf)=k:=Z;simp only [b];rw [Ad (by unfold Go.E.H7;simp only [Qzd];show(0+(BT [] k M).length) * 8<=_/\_;omega),Qq6]
  show Go.L.AN (([]++BT [] k M).length<_) _=_
  rw [Qxv,Ad U,Ad (by rw [(T1 _).length_eq];omega),Ad (by unfold Go.E.H7;simp only [Qzk,QzK,Qzw,Qzd];omega),Ad (by unfold Bz;omega)]
  rfl
 ·unfold Gm;dsimp only;rw [if_neg U,Qx4];exact congrArg (Qq7 Sum.inr) a
def Bd(N:Nat)(M:List (Lf×List Int)):Prop:=∀ k,(BT [] k M).length<=N
end Go.Proofs.YtekmbcbgknmhiaaGreatDoor
end
noncomputable section
namespace Go.L
def jn:List (List UInt8)->List UInt8
 | []=>[]
 | x::l=>if l=[] then x else x++47::jn l
theorem VQ:∀ {l:List (List UInt8)},l≠[]->(jn l).length+1=TM l
 | x::l,_=>by
  unfold jn TM
  by_cases h:l=[]
  ·subst h;simp [TM]
  ·have:=VQ h;rw [if_neg h,Qzu,Qzw];omega
theorem Xk:∀ (x cur s:List UInt8),47∉x->R4 cur (x++47::s)=(cur++x)::R4 [] s
 | [],cur,s,_=>by simp [R4]
 | c::x,cur,s,h=>by
  have hc:c≠47:=fun e=>h (by rw [e];exact .head _);simp only [List.cons_append,R4,if_neg hc];rw [Xk x (cur++[c]) s (fun hh=>h (.tail _ hh))];simp
theorem Zz:∀ (x cur:List UInt8),47∉x->R4 cur x=[cur++x]
 | [],cur,_=>by simp [R4]
 | c::x,cur,h=>by
  have hc:c≠47:=fun e=>h (by rw [e];exact .head _);simp only [R4,if_neg hc];rw [Zz x (cur++[c]) (fun hh=>h (.tail _ hh))];simp
theorem AeI:∀ {l:List (List UInt8)},l≠[]->(∀ x∈l,47∉x)->R4 [] (jn l)=l
 | x::l,_,h=>by
  unfold jn
  by_cases hl:l=[]
  ·subst hl;rw [if_pos Z,Zz x [] (h x (.head _))];simp
  ·rw [if_neg hl,Xk x [] _ (h x (.head _)),AeI hl (fun y hy=>h y (.tail _ hy))];simp
theorem AiU{l:List (List UInt8)}(hne:∀ x∈l,x≠[])(h:∀ x∈l,47∉x):sl (jn l)=l:=by
 unfold sl
 cases l with
 | nil=>simp [jn]
 | cons x l=>
  have:jn (x::l)≠[]:=by
   unfold jn;have:=hne x (.head _)
   split
   ·exact this
   ·simp
  rw [if_neg this,AeI Qqd h]
def stp(x:List UInt8):Bool:=S5 x||decide (x=[35])
theorem Aaz{x:List UInt8}(h:stp x=true):x≠[]/\47∉x/\x≠[42]/\x≠[42,42]:=by
 unfold stp at h;rw [Qz8,decide_eq_true_eq] at h
 rcases h with h | rfl
 ·unfold S5 at h;rw [Qzb,decide_eq_true_eq] at h;obtain⟨a,h2⟩:=h;have hall:=List.all_eq_true.1 h2;refine⟨fun e=>by subst e;simp at a,fun hh=>?_,fun e=>by subst e;simp at a,fun e=>by subst e;simp at a⟩;have:=hall 47 hh
  revert this;decide
 ·decide
theorem AiV{w:Bool}{l:List (List UInt8)}:∀ {a:Int},(∀ x∈l,(stp x||(w&&(decide (x=[42])||decide (x=[42,42]))))=true)->wr w a l = -1:=by
 induction l with
 | nil=>intro a _;rfl
 | cons y l ih=>
  intro a h;unfold wr;have:=h y (.head _);unfold stp at this;rw [if_pos this];exact ih (fun x hx=>h x (.tail _ hx))
end Go.L
end
