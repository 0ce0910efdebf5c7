/- Texts of a claim, merged. -/
import Derived.Test.YtekmbcbgknmhiaaGreatDoorLp5
import Derived.KernelRfl
open _root_.Go.Proofs.Tryz renaming underlying5→AcI,underlying23→Afr,underlying24→Aj6,underlying86→AjF,underlying82→AjH,underlying28→Aji,underlying26→Ajm
open Option renaming bind->Qq4,bind_some->Qq6,map->Qq7
open List renaming getD_eq_getElem?_getD->Qq9,getElem?_eq_getElem->Qzw,length_map->Qzk,length_cons->Qzj,length_append->Qzu,range->Qzv,mem_cons_of_mem->QzB,mem_cons->Qzy,drop_eq_nil_of_le->Qz5,mem_cons_self->QzA,mem_append->Qze,length_nil->Qzf,map_cons->Qzd,take_of_length_le->Qxz,length_drop->QzJ,getElem?_eq_none->Qxe,getElem_mem->Qxx,getElem?_map->Qxv,flatMap_cons->Qxc,length_range->QxB,drop_eq_getElem_cons->Qkd,ext_getElem?->Qkb,getElem?_range->QkD
open Int renaming toNat_natCast->Qq8,reduceEq->QxK
open Bool renaming and_eq_true->Qzb,false_eq_true->Qz1,eq_iff_iff->QzD,or_eq_true->Qz9
open UInt8 renaming ofNat->QzE,toNat_lt->Qx1
open ByteArray renaming size->Qxb
set_option linter.unusedVariables false
set_option linter.unusedSimpArgs false
set_option linter.unusedSectionVars false
noncomputable section
namespace Go.Proofs.YtekmbcbgknmhiaaGreatDoor
open Go Go.E Go.RowKit Go.L
set_option maxHeartbeats 1000000
set_option maxRecDepth 10000
open _root_.Go.Proofs.Tryz
def LZ(a0:Qv):Option Int:=
 Qq4 (LG a0.f.2.2.1) (fun a=>if a.1=0 then(if a0.f.1=3 then if((!decide (1<=a0.f.2.2.2.2.1/\a0.f.2.2.2.2.1<=2048))||((decide (a0.f.1=6))&&(decide (a0.f.2.2.2.2.2.1<a0.f.2.2.2.2.1)))) then some (4) else(if((decide (a0.f.1=4))&&(decide ((a0.f.2.2.2.1.length:Int)=0))) then some (10) else(if 64<(a0.f.2.2.2.1.length:Int) then some (3) else some (0))) else if((decide (a0.f.1=6))&&(decide (a0.f.2.2.2.2.2.1<a0.f.2.2.2.2.1))) then some (4) else(if((decide (a0.f.1=4))&&(decide ((a0.f.2.2.2.1.length:Int)=0))) then some (10) else(if 64<(a0.f.2.2.2.1.length:Int) then some (3) else some (0)))) else some (a.1))
def Jw(a0:Qv):Int->Option ((Int) ⊕ (Int)):=fun a=>
 if a<(a0.f.2.1.length:Int) then AO (0<=a/\a<(a0.f.2.1.length:Int)) (Qq4 (NR (a0.f.2.1.getD a.toNat Qq2)) (fun b=>if b.1=0 then AO (Bw (a+1)) (some (Sum.inl (a+1))) else Qq7 Sum.inr (some (b.1)))) else Qq7 Sum.inr ((LZ a0))
def Ol(a0:Qv)(s:Int):Option Int:=Go.L.run (Jw a0) s
def FK(a0:Qv):Option Int:=
 (Ol a0) (0:Int)
def HU(a0:Qv):Int->Option ((Int) ⊕ (Int)):=fun a=>
 if((decide (a<(a0.f.2.2.2.2.2.2.length:Int)))&&(decide (a0.f.1<10))) then AO (0<=a/\a<(a0.f.2.2.2.2.2.2.length:Int)) (if(a0.f.2.2.2.2.2.2.getD a.toNat Qq2).f.1=a0.f.1 then Qq7 Sum.inr (some (6)) else AO (Bw (a+1)) (some (Sum.inl (a+1)))) else Qq7 Sum.inr ((FK a0))
def Om(a0:Qv)(s:Int):Option Int:=Go.L.run (HU a0) s
def Ma(a0:Qv):Option Int:=
 (Om a0) (0:Int)
def NT(a0:Qv):Option Int:=
 if 1<=a0.f.1/\a0.f.1<=10 then AO (0<=a0.f.1/\a0.f.1<11) (AO (0<=a0.f.1/\a0.f.1<11) (if(((!decide ((([0,1,2,2,0,0,0,0,0,0,0]:List Int).getD a0.f.1.toNat Qq2)<=(a0.f.2.1.length:Int)/\(a0.f.2.1.length:Int)<=(([0,1,16,2,0,0,0,0,0,0,0]:List Int).getD a0.f.1.toNat Qq2)))||((!decide (5<=a0.f.1/\a0.f.1<=7))&&(!decide (a0.f.2.2.1=([]:Ac3)))))||(((!decide (a0.f.1=4))&&(!decide (a0.f.1=7)))&&(decide (0<(a0.f.2.2.2.1.length:Int))))) then some (6) else(if((((!decide (a0.f.1=3))&&(!decide (a0.f.1=6)))&&(!decide (a0.f.2.2.2.2.1=0)))||((!decide (a0.f.1=6))&&(!decide (a0.f.2.2.2.2.2.1=0)))) then some (6) else(if(((decide (a0.f.1<8))&&(decide (0<(a0.f.2.2.2.2.2.2.length:Int))))||((decide (a0.f.1=10))&&(!decide ((a0.f.2.2.2.2.2.2.length:Int)=1)))) then some (6) else if((decide (8<=a0.f.1/\a0.f.1<=9))&&(decide ((a0.f.2.2.2.2.2.2.length:Int)<2))) then some (6) else(Ma a0))))) else some (5)
def P9(a:Int):Option AjP:=
 some (a,(0,0))
def Jf(a0:Qv)(a2:Int)(self:Qv->Int->Int->Option AjP):Int×Int->Option ((Int×Int) ⊕ AjP):=fun⟨b,a⟩=>
 if a<(a0.f.2.2.2.2.2.2.length:Int) then AO (0<=a/\a<(a0.f.2.2.2.2.2.2.length:Int)) (AO (Bw (a2+1)) (Qq4 (self (a0.f.2.2.2.2.2.2.getD a.toNat Qq2) b (a2+1)) (fun c=>if c.2.1=0 then AO (Bw (a+1)) (some (Sum.inl (c.1,(a+1)))) else Qq7 Sum.inr (some (0,(c.2.1,c.2.2)))))) else Qq7 Sum.inr (P9 b)
def PA(a0:Qv)(a2:Int)(self:Qv->Int->Int->Option AjP)(s:Int×Int):Option AjP:=Go.L.run (Jf a0 a2 self) s
def K6(self:Qv->Int->Int->Option AjP)(a0:Qv)(a1 a2:Int):Option AjP:=
 if(40<=a1)\/(8<a2) then Qq4 (LF (2:Int) a1) (fun b=>some (0,(b.1,b.2))) else Qq4 (NT a0) (fun c=>if c=0 then AO (Bw (a1+1)) ((PA a0 a2 self) ((a1+1),0)) else Qq4 (LF c a1) (fun a=>some (0,(a.1,a.2))))
def Kz:Nat->Qv->Int->Int->Option AjP
 | 0=>fun _ _ _=>none
 | n+1=>K6 (Kz n)
def Lb(c:Ac3)(a b:Int):Option ((Ac3×Int) ⊕ (Ac3)):=
 AO (Bw (48+b)) (AO (Go.E.Io 1 (([(Go.L.u8 (48+b))]).length+c.length)) (AO (-9223372036854775808<=a/\a<=9223372036854775807/\0<(10:Int)) (some (Sum.inl (([(Go.L.u8 (48+b))]++c),(Int.tdiv a (10:Int)))))))
def PT(a0:Int)(a:Ac3):Option Ac3:=
 if a0<0 then AO (Go.E.Io 1 (([(45:UInt8)]).length+a.length)) (some (([(45:UInt8)]++a))) else some a
def HE(a0:Int):Ac3×Int->Option ((Ac3×Int) ⊕ (Ac3)):=fun⟨b,a⟩=>
 if a=0 then Qq7 Sum.inr ((PT a0) b) else AO (-9223372036854775808<=a/\a<=9223372036854775807/\0<(10:Int)) (if(Int.tmod a (10:Int))<0 then AO (Bw (-(Int.tmod a (10:Int)))) ((Lb b a) (-(Int.tmod a (10:Int)))) else(Lb b a) (Int.tmod a (10:Int)))
def PU(a0:Int)(s:Ac3×Int):Option Ac3:=Go.L.run (HE a0) s
def Mb(a0:Int):Option Ac3:=
 if a0=0 then some (([48]:Ac3)) else(PU a0) (([]:Ac3),a0)
def Kj(a0:Ac3)(b:Ac3)(a:Int)(c:Bool):Option ((Ac3×Int) ⊕ (Ac3)):=
 if c then AO (0<=a/\a<(a0.length:Int)) (AO (Go.E.Io 1 (b.length+([a0.getD a.toNat Qq2]).length)) (AO (Bw (a+1)) (some (Sum.inl ((b++[a0.getD a.toNat Qq2]),(a+1)))))) else AO (0<=a/\a<(a0.length:Int)) (AO (0<=((a0.getD a.toNat Qq2).toNat:Int)/\((a0.getD a.toNat Qq2).toNat:Int)<=9223372036854775807/\0<(16:Int)) (Qq4 (KJ (((a0.getD a.toNat Qq2).toNat:Int) / (16:Int))) (fun d=>AO (0<=a/\a<(a0.length:Int)) (AO (0<=((a0.getD a.toNat Qq2).toNat:Int)/\((a0.getD a.toNat Qq2).toNat:Int)<=9223372036854775807/\0<(16:Int)) (Qq4 (KJ (((a0.getD a.toNat Qq2).toNat:Int) % (16:Int))) (fun e=>AO (Go.E.Io 1 (b.length+([(92:UInt8),d,e]).length)) (AO (Bw (a+1)) (some (Sum.inl ((b++[(92:UInt8),d,e]),(a+1)))))))))))
def QE(a:Ac3):Option Ac3:=
 AO (Go.E.Io 1 (a.length+([(39:UInt8)]).length)) (some ((a++[(39:UInt8)])))
def J9(a0:Ac3):Ac3×Int->Option ((Ac3×Int) ⊕ (Ac3)):=fun⟨b,a⟩=>
 if a<(a0.length:Int) then AO (0<=a/\a<(a0.length:Int)) (if 32<=((a0.getD a.toNat Qq2).toNat:Int)/\((a0.getD a.toNat Qq2).toNat:Int)<=126 then AO (0<=a/\a<(a0.length:Int)) (if((a0.getD a.toNat Qq2).toNat:Int)=39 then(Kj a0 b a) false else AO (0<=a/\a<(a0.length:Int)) ((Kj a0 b a) (!decide (((a0.getD a.toNat Qq2).toNat:Int)=92)))) else(Kj a0 b a) false) else Qq7 Sum.inr (QE b)
def QF(a0:Ac3)(s:Ac3×Int):Option Ac3:=Go.L.run (J9 a0) s
def On(a0:Ac3):Option Ac3:=
 (QF a0) ([(39:UInt8)],0)
def Hy:Option Bool:=
 some true
def GU(a0:Qv)(a1:Qv)(self:Qv->Qv->Option Bool):Int->Option ((Int) ⊕ (Bool)):=fun a=>
 if a<(a0.f.2.2.2.2.2.2.length:Int) then AO (0<=a/\a<(a0.f.2.2.2.2.2.2.length:Int)) (AO (0<=a/\a<(a1.f.2.2.2.2.2.2.length:Int)) (Qq4 (self (a0.f.2.2.2.2.2.2.getD a.toNat Qq2) (a1.f.2.2.2.2.2.2.getD a.toNat Qq2)) (fun b=>if !b then none else AO (Bw (a+1)) (some (Sum.inl (a+1)))))) else Qq7 Sum.inr Hy
def Jx(a0:Qv)(a1:Qv)(self:Qv->Qv->Option Bool)(s:Int):Option Bool:=Go.L.run (GU a0 a1 self) s
def Hz(a0:Qv)(a1:Qv)(self:Qv->Qv->Option Bool):Option Bool:=
 (Jx a0 a1 self) (0:Int)
def Hk(self:Qv->Qv->Option Bool)(a0:Qv)(a1:Qv):Option Bool:=
 if((((!decide (a0.f.1=a1.f.1))||(!decide (a0.f.2.2.1=a1.f.2.2.1)))||(!decide (a0.f.2.2.2.2.1=a1.f.2.2.2.2.1)))||(!decide (a0.f.2.2.2.2.2.1=a1.f.2.2.2.2.2.1))) then none else Qq4 (JQ a0.f.2.2.2.1 a1.f.2.2.2.1) (fun a=>if !a then none else Qq4 (Py a0.f.2.1 a1.f.2.1) (fun b=>if((!b)||(!decide ((a0.f.2.2.2.2.2.2.length:Int)=(a1.f.2.2.2.2.2.2.length:Int)))) then none else(Hz a0 a1 self)))
def Jg(self:Qv->Qv->Option Bool):Prop:=∀ (w:World) (H:PH) (hH:Le H (hp w)) {a0:Qv} {a1:Qv} {a:Value} {b:Value} {c:Value} {d:Value} {e:Value} {g:Value} (i:AH .st H a (a0.f.2.1)) (j:AH .byte H b (a0.f.2.2.2.1)) (k:AH .B1 H c (a0.f.2.2.2.2.2.2)) (l:AH .st H d (a1.f.2.1)) (m:AH .byte H e (a1.f.2.2.2.1)) (n:AH .B1 H g (a1.f.2.2.2.2.2.2)) {r:Bool} (h:self a0 a1=some r),Ok prog 17 [.agg #[No a0.f.1,a,Ab5 a0.f.2.2.1,b,No a0.f.2.2.2.2.1,No a0.f.2.2.2.2.2.1,c],.agg #[No a1.f.1,d,Ab5 a1.f.2.2.1,e,No a1.f.2.2.2.2.1,No a1.f.2.2.2.2.2.1,g]] w (fun v w'=>Ext w w'/\v=.bool r)
def HF:Nat->Qv->Qv->Option Bool
 | 0=>fun _ _=>none
 | n+1=>Hk (HF n)
def Mc:Qv->Qv->Option Bool:=HF 1000
theorem PB(self:Qv->Qv->Option Bool)(hself:Jg self):Jg (Hk self):=by
 intro w H hH a0 a1 m o p u v x a2 a3 aa a4 a5 ag r h;unfold Jg at hself;refine A1 76 [(0,.agg #[No a0.f.1,m,Ab5 a0.f.2.2.1,o,No a0.f.2.2.2.2.1,No a0.f.2.2.2.2.2.1,p]),(1,.agg #[No a1.f.1,u,Ab5 a1.f.2.2.1,v,No a1.f.2.2.2.2.1,No a1.f.2.2.2.2.2.1,x])] func17 Z fun hL=>Ak<|CB (t:=26) Z Z hL fun w1 b1 bc bh _=>CB (t:=26) Z Z bc fun w2 b2 k bi _=>A7 1 Z<|Bt Unit (fun(_:Unit)=>[(2,(AaD b1)),(3,(AaD b2))]) (fun(_:Unit) wr=>Bb w [.box b2 [No a1.f.1,u,Ab5 a1.f.2.2.1,v,No a1.f.2.2.2.2.1,No a1.f.2.2.2.2.2.1,x] 26,.box b1 [No a0.f.1,m,Ab5 a0.f.2.2.1,o,No a0.f.2.2.2.2.1,No a0.f.2.2.2.2.2.1,p] 26] wr/\(Hz a0 a1 self)=some r) ?_ ?_
 ·refine Ak<|Aj (Ae Z Ajm Z CO.e)<|Aj (Af 1 Z k Z)<|Aj (Ae Z Ajm Z CO.e)<|Aj (Af 0 Z k Z)<|Aq 2 Z<|OL 6 17 (.bool ((!decide (a0.f.1=a1.f.1))||(!decide (a0.f.2.2.1=a1.f.2.2.1)))) (fun aj=>?_) ?_
  ·refine IL (s:=11) Z (fun c=>?_) (fun c=>?_)
   ·iterate 5 refine An c ?_
    refine Aj (AB c Z)<|aj.to 5 (Wg c) Z Z
   refine Ab c<|Aj (Ae Z Ajm Z HJ.e)<|Ab c<|Aj (Af 1 Z k Z)<|Ab c<|Aj (Ae Z Ajm Z HJ.e)<|Ab c<|Aj (Af 0 Z k Z)<|Ab c<|Aj (Sg Z Z)<|Aj (AM c Z)<|aj.to 5 (Wh c) Z Z
  refine Aq 1 Z<|OL 6 24 (.bool (((!decide (a0.f.1=a1.f.1))||(!decide (a0.f.2.2.1=a1.f.2.2.1)))||(!decide (a0.f.2.2.2.2.1=a1.f.2.2.2.2.1)))) (fun ak=>?_) ?_
  ·refine IL (s:=18) Z (fun d=>?_) (fun d=>?_)
   ·iterate 5 refine An d ?_
    refine Aj (AB d Z)<|ak.to 5 (Wg d) Z Z
   refine Ab d<|Aj (Ae Z Ajm Z CO.e)<|Ab d<|Aj (Af 1 Z k Z)<|Ab d<|Aj (Ae Z Ajm Z CO.e)<|Ab d<|Aj (Af 0 Z k Z)<|Ab d<|Aj (Ai Z)<|Aj (AM d Z)<|ak.to 5 (Wh d) Z Z
  refine Aq 1 Z<|OL 6 31 (.bool ((((!decide (a0.f.1=a1.f.1))||(!decide (a0.f.2.2.1=a1.f.2.2.1)))||(!decide (a0.f.2.2.2.2.1=a1.f.2.2.2.2.1)))||(!decide (a0.f.2.2.2.2.2.1=a1.f.2.2.2.2.2.1)))) (fun al=>?_) ?_
  ·refine IL (s:=25) Z (fun e=>?_) (fun e=>?_)
   ·iterate 5 refine An e ?_
    refine Aj (AB e Z)<|al.to 5 (Wg e) Z Z
   refine Ab e<|Aj (Ae Z Ajm Z CO.e)<|Ab e<|Aj (Af 1 Z k Z)<|Ab e<|Aj (Ae Z Ajm Z CO.e)<|Ab e<|Aj (Af 0 Z k Z)<|Ab e<|Aj (Ai Z)<|Aj (AM e Z)<|al.to 5 (Wh e) Z Z
  refine Aq 1 Z<|ED 32 h ?_ ?_<;>intro i h
  ·iterate 6 refine An i ?_
   refine Aj (AB i Z)<|Aq 1 Z ?_
   iterate 6 refine An Z ?_
   refine Aj (AB Z Z)<|Aq 1 Z ?_
   iterate 7 refine An Z ?_
   refine Aj (AB Z Z)<|Ac<|EO ?_
   cases h
  refine Ab i<|Aj (Ae Z Ajm Z IK.e)<|Ab i<|Aj (Af 1 Z k Z)<|Ab i<|Aj (Ae Z Ajm Z IK.e)<|Ab i<|Aj (Af 0 Z k Z)<|Ab i<|Ax h fun bs a6 h=>AF k (Of _ _ (Ao k) (a3.mono  Ah) (a5.mono  Ah) a6) fun bt bj y be=>Ab i<|Aj (Ai Z)<|Aj (AM i Z)<|Aq 1 Z<|ED 40 h ?_ ?_<;>intro j h
  ·iterate 6 refine An j ?_
   refine Aj (AB j Z)<|Aq 1 Z ?_
   iterate 7 refine An Z ?_
   refine Aj (AB Z Z)<|Ac<|EO ?_
   cases h
  refine Ab j<|Aj (Ae Z Ajm Z Nd.e)<|Ab j<|Aj (Af 1 Z y Z)<|Ab j<|Aj (Ae Z Ajm Z Nd.e)<|Ab j<|Aj (Af 0 Z y Z)<|Ab j<|Ax h fun bd a7 h=>AF y (Wn _ _ (Ao y) (a2.mono  Ah) (a4.mono  Ah) a7) fun bu bk ab bf=>Ab j<|Aj (Ai Z)<|Aj (AM j Z)<|Aq 1 Z<|OL 8 56 (.bool ((!bd)||(!decide ((a0.f.2.2.2.2.2.2.length:Int)=(a1.f.2.2.2.2.2.2.length:Int))))) (fun am=>?_) ?_
  ·refine IL (s:=48) Z (fun b=>?_) (fun b=>?_)
   ·iterate 7 refine An b ?_
    refine Aj (AB b Z)<|am.to 7 (Wg b) Z Z
   refine Ab b<|Aj (Ae Z Ajm Z Mm.e)<|Ab b<|Aj (Af 1 Z ab Z)<|Ab b<|Aj (Bc aa)<|Ab b<|Aj (Ae Z Ajm Z Mm.e)<|Ab b<|Aj (Af 0 Z ab Z)<|Ab b<|Aj (Bc ag)<|Ab b<|Aj (Ai Z)<|Aj (AM b Z)<|am.to 7 (Wh b) Z Z
  refine Ac<|B3 h ?_ ?_<;>intro a8 h
  ·cases h
  refine Aw<|A8 () ⟨ab,h⟩
 rintro _ bl ⟨a9,h⟩;refine Bt Unit (fun(_:Unit)=>[]) (fun(_:Unit) wr=>Bb w [.box b2 [No a1.f.1,u,Ab5 a1.f.2.2.1,v,No a1.f.2.2.2.2.1,No a1.f.2.2.2.2.2.1,x] 26,.box b1 [No a0.f.1,m,Ab5 a0.f.2.2.1,o,No a0.f.2.2.2.2.1,No a0.f.2.2.2.2.2.1,p] 26] wr/\Hy=some r) ?_ ?_
 ·refine AJ 1 Z<|A3 ?_;obtain⟨ac,h⟩:=Ba h;refine B6 (Int×Nat) (fun⟨g,n⟩=>[(2,(AaD b1)),(3,(AaD b2)),(5,No g)]) (fun⟨g,n⟩ wr=>Bb w [.box b2 [No a1.f.1,u,Ab5 a1.f.2.2.1,v,No a1.f.2.2.2.2.1,No a1.f.2.2.2.2.2.1,x] 26,.box b1 [No a0.f.1,m,Ab5 a0.f.2.2.1,o,No a0.f.2.2.2.2.1,No a0.f.2.2.2.2.2.1,p] 26] wr/\HG (GU a0 a1 self) n g=some r) (fun⟨g,n⟩=>n) (0,ac) Z ⟨a9,h⟩ ?_;rintro⟨g,nn100⟩ bg ⟨z,h⟩;obtain⟨ac,bm,rfl,h,ad⟩:=AY h;refine AD<|Bu 1 Z<|Aj (Ae Z Ajm Z Mm.e)<|Aj (Af 1 Z z Z)<|Aj (Bc aa)<|A7 1 Z<|AP h ?_ ?_<;>intro ap h
  ·refine Aw<|As<|AD<|A3<|Eu (Qqz 0 12 (.tail 12)) mixed Qqb (fun ba aq=>?_);have a:=z.call aq;refine CF Z (Ae Z Ajm Z Mm.e) Z<|CF Z (Af 1 Z a Z) Z<|D4 1 Z<|Az h fun ae h=>HX Z Z Z Aj6 aa g.toNat (Gy ae) (AW ae) Z ?_;rintro bn _ e106t0 ar;obtain⟨_,_,rfl,rfl,⟨_,_,rfl,⟨e106v1,rfl,e106h1⟩,⟨_,_,rfl,rfl,⟨_,_,rfl,⟨e106v3,rfl,e106h3⟩,⟨_,_,rfl,rfl,⟨_,_,rfl,rfl,⟨e106v6,rfl,e106h6⟩⟩⟩⟩⟩⟩⟩:=Go.E.Rp.HL e106t0;refine CF Z (Cx ar (hH.trans a.arg)) Z<|CF Z (Ae Z Ajm Z Mm.e) Z<|CF Z (Af 0 Z a Z) Z<|D4 1 Z<|Az h fun af h=>HX Z Z Z Aj6 ag g.toNat (Gy af) (AW af) Z ?_;rintro bo _ e108t0 au;obtain⟨_,_,rfl,rfl,⟨_,_,rfl,⟨e108v1,rfl,e108h1⟩,⟨_,_,rfl,rfl,⟨_,_,rfl,⟨e108v3,rfl,e108h3⟩,⟨_,_,rfl,rfl,⟨_,_,rfl,rfl,⟨e108v6,rfl,e108h6⟩⟩⟩⟩⟩⟩⟩:=Go.E.Rp.HL e108t0;refine CF Z (Cx au (hH.trans a.arg)) Z<|Ax h fun bp av h=>?_
   have an:=(fun(ao:World) (l:Ext ba ao)=>hself ao _ (Le.refl _) ((e106h1.mono (hH.trans a.arg)).mono l.le) ((e106h3.mono (hH.trans a.arg)).mono l.le) ((e106h6.mono (hH.trans a.arg)).mono l.le) ((e108h1.mono (hH.trans a.arg)).mono l.le) ((e108h3.mono (hH.trans a.arg)).mono l.le) ((e108h6.mono (hH.trans a.arg)).mono l.le) av);refine JN Z Z Z an<|D4 1 Z<|BU (fun bq aw=>?_);have ax:=a.call aw;refine Ac<|B3 h ?_ ?_<;>intro ay h
   ·cases h
   refine Aw<|A2<|As<|Au<|Aq 1 Z<|Az h fun az h=>Aj (A5 az)<|Aq 1 Z<|AL ?_;have h:=Cg.again h ad;refine AN (_,_) Z ⟨ax,h⟩
  refine B4<|AE<|A6 ?_;have h:=Cg.out h ad;refine Bi<|A8 () ⟨z,h⟩
 rintro _ br ⟨bb,h⟩;refine AJ 1 Z<|Ay ?_
 cases h
 refine Am Z ⟨bb.ext,Z⟩
theorem Rv(n:Nat):Jg (HF n):=by
 induction n with
 | zero=>unfold Jg;intros;rename_i h;cases h
 | succ n ih=>exact PB (HF n) ih
section
variable(w:World)(H:PH)(hH:Le H (hp w)) include hH
theorem S9{a0 a1:Qv}{a b c d e g:Value}(i:AH .st H a (a0.f.2.1))(j:AH .byte H b (a0.f.2.2.2.1))(k:AH .B1 H c (a0.f.2.2.2.2.2.2))(l:AH .st H d (a1.f.2.1))(m:AH .byte H e (a1.f.2.2.2.1))(n:AH .B1 H g (a1.f.2.2.2.2.2.2)){r:Bool}(h:Mc a0 a1=some r):Ok prog 17 [.agg #[No a0.f.1,a,Ab5 a0.f.2.2.1,b,No a0.f.2.2.2.2.1,No a0.f.2.2.2.2.2.1,c],.agg #[No a1.f.1,d,Ab5 a1.f.2.2.1,e,No a1.f.2.2.2.2.1,No a1.f.2.2.2.2.2.1,g]] w (fun v w'=>Ext w w'/\v=.bool r):=Rv 1000 w H hH i j k l m n h
end
def Md(a:Ac3):Option Ac3:=
 AO (([(34:UInt8)]).length+a.length<=9223372036854775807) (AO (([(34:UInt8)]++a).length+([(34:UInt8)]).length<=9223372036854775807) (some ((([(34:UInt8)]++a)++[(34:UInt8)]))))
def Fi(a0:Qv):Ac3×Int->Option ((Ac3×Int) ⊕ (Ac3)):=fun⟨b,a⟩=>
 if a<(a0.f.2.1.length:Int) then AO (b.length+([32]:Ac3).length<=9223372036854775807) (AO (0<=a/\a<(a0.f.2.1.length:Int)) (AO ((b++([32]:Ac3)).length+(a0.f.2.1.getD a.toNat Qq2).length<=9223372036854775807) (AO (Bw (a+1)) (some (Sum.inl (((b++([32]:Ac3))++a0.f.2.1.getD a.toNat Qq2),(a+1))))))) else Qq7 Sum.inr (Md b)
def Jy(a0:Qv)(s:Ac3×Int):Option Ac3:=Go.L.run (Fi a0) s
def Me(a0:Qv)(self2:(List Qv)->Ac3->Int->Int->Option Ac3):Option Ac3:=
 Qq4 (self2 a0.f.2.2.2.2.2.2 ([]:Ac3) (8:Int) (9:Int)) (fun a=>AO (([33]:Ac3).length+a.length<=9223372036854775807) (some ((([33]:Ac3)++a))))
def K7(_self1:Qv->Option Ac3)(self2:(List Qv)->Ac3->Int->Int->Option Ac3)(a0:Qv):Option Ac3:=
 if a0.f.1=1 then AO (0<=(0:Int)/\(0:Int)<(a0.f.2.1.length:Int)) (some (a0.f.2.1.getD ((0:Int).toNat) Qq2)) else(if a0.f.1=2 then AO (0<=(0:Int)/\(0:Int)<(a0.f.2.1.length:Int)) ((Jy a0) (a0.f.2.1.getD ((0:Int).toNat) Qq2,1)) else(if a0.f.1=3 then AO (0<=(0:Int)/\(0:Int)<(a0.f.2.1.length:Int)) (AO ((a0.f.2.1.getD ((0:Int).toNat) Qq2).length+([126]:Ac3).length<=9223372036854775807) (Qq4 (Mb a0.f.2.2.2.2.1) (fun a=>AO ((a0.f.2.1.getD ((0:Int).toNat) Qq2++([126]:Ac3)).length+a.length<=9223372036854775807) (AO (((a0.f.2.1.getD ((0:Int).toNat) Qq2++([126]:Ac3))++a).length+([126]:Ac3).length<=9223372036854775807) (AO (0<=(1:Int)/\(1:Int)<(a0.f.2.1.length:Int)) (AO ((((a0.f.2.1.getD ((0:Int).toNat) Qq2++([126]:Ac3))++a)++([126]:Ac3)).length+(a0.f.2.1.getD ((1:Int).toNat) Qq2).length<=9223372036854775807) (some (((((a0.f.2.1.getD ((0:Int).toNat) Qq2++([126]:Ac3))++a)++([126]:Ac3))++a0.f.2.1.getD ((1:Int).toNat) Qq2))))))))) else(if a0.f.1=4 then Qq4 (On a0.f.2.2.2.1) (fun e=>some e) else(if a0.f.1=5 then AO (([47]:Ac3).length+a0.f.2.2.1.length<=9223372036854775807) (some ((([47]:Ac3)++a0.f.2.2.1))) else(if a0.f.1=6 then AO (([47]:Ac3).length+a0.f.2.2.1.length<=9223372036854775807) (AO ((([47]:Ac3)++a0.f.2.2.1).length+([61]:Ac3).length<=9223372036854775807) (Qq4 (Mb a0.f.2.2.2.2.1) (fun b=>AO (((([47]:Ac3)++a0.f.2.2.1)++([61]:Ac3)).length+b.length<=9223372036854775807) (AO ((((([47]:Ac3)++a0.f.2.2.1)++([61]:Ac3))++b).length+([46,46]:Ac3).length<=9223372036854775807) (Qq4 (Mb a0.f.2.2.2.2.2.1) (fun c=>AO (((((([47]:Ac3)++a0.f.2.2.1)++([61]:Ac3))++b)++([46,46]:Ac3)).length+c.length<=9223372036854775807) (some ((((((([47]:Ac3)++a0.f.2.2.1)++([61]:Ac3))++b)++([46,46]:Ac3))++c))))))))) else(if a0.f.1=7 then AO (([47]:Ac3).length+a0.f.2.2.1.length<=9223372036854775807) (AO ((([47]:Ac3)++a0.f.2.2.1).length+([61]:Ac3).length<=9223372036854775807) (Qq4 (On a0.f.2.2.2.1) (fun d=>AO (((([47]:Ac3)++a0.f.2.2.1)++([61]:Ac3)).length+d.length<=9223372036854775807) (some ((((([47]:Ac3)++a0.f.2.2.1)++([61]:Ac3))++d)))))) else(if a0.f.1=8 then Qq4 (self2 a0.f.2.2.2.2.2.2 ([38]:Ac3) (9:Int) (0:Int)) (fun g=>some g) else(if a0.f.1=9 then Qq4 (self2 a0.f.2.2.2.2.2.2 ([124]:Ac3) (0:Int) (0:Int)) (fun h=>some h) else(Me a0 self2)))))))))
def I7(a0:List Qv)(a:Int)(b:Ac3)(self1:Qv->Option Ac3)(d:Bool):Option ((Ac3×Int) ⊕ (Ac3)):=
 if d then AO (b.length+([40]:Ac3).length<=9223372036854775807) (AO (0<=a/\a<(a0.length:Int)) (Qq4 (self1 (a0.getD a.toNat Qq2)) (fun c=>AO ((b++([40]:Ac3)).length+c.length<=9223372036854775807) (AO (((b++([40]:Ac3))++c).length+([41]:Ac3).length<=9223372036854775807) (AO (Bw (a+1)) (some (Sum.inl ((((b++([40]:Ac3))++c)++([41]:Ac3)),(a+1))))))))) else AO (0<=a/\a<(a0.length:Int)) (Qq4 (self1 (a0.getD a.toNat Qq2)) (fun e=>AO (b.length+e.length<=9223372036854775807) (AO (Bw (a+1)) (some (Sum.inl ((b++e),(a+1)))))))
def I8(a0:List Qv)(a2 a3 a:Int)(self1:Qv->Option Ac3)(b:Ac3):Option ((Ac3×Int) ⊕ (Ac3)):=
 AO (0<=a/\a<(a0.length:Int)) (if(a0.getD a.toNat Qq2).f.1=a2 then(I7 a0 a b self1) true else AO (0<=a/\a<(a0.length:Int)) ((I7 a0 a b self1) (decide ((a0.getD a.toNat Qq2).f.1=a3))))
def Kk(a:Ac3):Option Ac3:=
 some a
def CY(a0:List Qv)(a1:Ac3)(a2 a3:Int)(self1:Qv->Option Ac3):Ac3×Int->Option ((Ac3×Int) ⊕ (Ac3)):=fun⟨b,a⟩=>
 if a<(a0.length:Int) then(if 0<a then AO (b.length+a1.length<=9223372036854775807) ((I8 a0 a2 a3 a self1) (b++a1)) else(I8 a0 a2 a3 a self1) b) else Qq7 Sum.inr (Kk b)
def MX(a0:List Qv)(a1:Ac3)(a2 a3:Int)(self1:Qv->Option Ac3)(s:Ac3×Int):Option Ac3:=Go.L.run (CY a0 a1 a2 a3 self1) s
def Mf(self1:Qv->Option Ac3)(_self2:(List Qv)->Ac3->Int->Int->Option Ac3)(a0:List Qv)(a1:Ac3)(a2 a3:Int):Option Ac3:=
 (MX a0 a1 a2 a3 self1) (([]:Ac3),0)
def D3:Nat->(Qv->Option Ac3)×((List Qv)->Ac3->Int->Int->Option Ac3)
 | 0=>(fun _=>none,fun _ _ _ _=>none)
 | n+1=>(K7 ((D3 n).1) ((D3 n).2),Mf ((D3 n).1) ((D3 n).2))
end Go.Proofs.YtekmbcbgknmhiaaGreatDoor
end
noncomputable section
namespace Go.L
open Go
def Smq(B:Nat):Nat->Qv->Prop
 | 0,_=>True
 | d+1,q=>q.f.2.1.length<=B/\q.f.2.2.1.length<=B/\q.f.2.2.2.1.length<=B/\q.f.2.2.2.2.2.2.length<=B/\(∀ x∈q.f.2.1,x.length<=B)/\Bw q.f.2.2.2.2.1/\Bw q.f.2.2.2.2.2.1/\∀ p∈q.f.2.2.2.2.2.2,Smq B d p
end Go.L
namespace Go.Proofs.YtekmbcbgknmhiaaGreatDoor
open Go Go.L
def ZH:List (List UInt8)->Int
 | []=>0
 | w::l=>if(wf w).1=0 then ZH l else(wf w).1
theorem AiI{w:List UInt8}(h:(wf w).1=0):wf w=(0,0):=by
 unfold wf at h ⊢
 split at h
 ·cases h
 ·rename_i a;rw [if_neg a]
  split at h
  ·rename_i b;rw [if_pos b]
  ·cases h
theorem AiJ{w:List UInt8}(h:(pf w).1=0):pf w=(0,0):=by
 unfold pf at h ⊢
 split at h
 ·cases h
 ·rename_i a;rw [if_neg a]
  split at h
  ·cases h
  ·rename_i b;rw [if_neg b]
theorem Qf(k:Int)(ws:List (List UInt8))(p d:List UInt8)(l h:Int)(ss:List Qv):(Qv.mk k ws p d l h ss).f=(k,ws,p,d,l,h,ss):=Z
theorem WU{ws:List (List UInt8)}(hl:ws.length<=1000000000){b:Int->Option (Int ⊕ Int)}{m:Option Int}
  (a:∀ i:Nat,i<ws.length->b (i:Int)=if(wf (ws.getD i Qq2)).1=0 then some (.inl ((i:Int)+1)) else some (.inr (wf (ws.getD i Qq2)).1)) (h2:b (ws.length:Int)=m.map Sum.inr):Go.L.run b 0=if ZH ws=0 then m else some (ZH ws):=by
 have key:∀ (d i:Nat),i+d=ws.length->Go.L.run b (i:Int)=if ZH (ws.drop i)=0 then m else some (ZH (ws.drop i)):=by
  intro d
  induction d with
  | zero=>
   intro i hi;rw [Qz5 U,if_pos (by rfl),show i=ws.length by omega];exact AQ h2
  | succ d ih=>
   intro i hi;have hb:=a i U;rw [Qkd U,ZH];have hg:ws.getD i Qq2=ws[i]:=by rw [Qq9,Qzw U];rfl
   rw [hg] at hb
   by_cases hw:(wf ws[i]).1=0
   ·rw [if_pos hw] at hb ⊢;rw [Bg hb];exact ih (i+1) U
   ·rw [if_neg hw] at hb ⊢;rw [if_neg hw];exact AQ (m:=some _) hb
 exact key ws.length 0 U
def OC(q:Qv):Bool:=q.f.2.2.2.2.2.2.any fun s=>decide (s.f.1=q.f.1)
theorem Aeh{l:List Qv}{k:Int}(hl:l.length<=1000000000){σ ρ:Type}{b:σ->Option (σ ⊕ ρ)}{st:Nat->σ}{m y:Option ρ}
  (a:∀ i:Nat,i<l.length->b (st i)=if(l.getD i Qq2).f.1=k then y.map Sum.inr else some (.inl (st (i+1)))) (h2:b (st l.length)=m.map Sum.inr):Go.L.run b (st 0)=if(l.any fun s=>decide (s.f.1=k)) then y else m:=by
 have key:∀ (d i:Nat),i+d=l.length->Go.L.run b (st i)=if((l.drop i).any fun s=>decide (s.f.1=k)) then y else m:=by
  intro d
  induction d with
  | zero=>
   intro i hi;rw [Qz5 U,if_neg Qqd,show i=l.length by omega];exact AQ h2
  | succ d ih=>
   intro i hi;have hb:=a i U;have hg:l.getD i Qq2=l[i]:=by rw [Qq9,Qzw U];rfl
   rw [hg] at hb;rw [Qkd U,List.any_cons]
   by_cases hw:l[i].f.1=k
   ·rw [if_pos hw] at hb;rw [decide_eq_true hw,Bool.true_or,if_pos Z];exact AQ hb
   ·rw [if_neg hw] at hb;rw [Bg hb,decide_eq_false hw,Bool.false_or];exact ih (i+1) U
 exact key l.length 0 U
end Go.Proofs.YtekmbcbgknmhiaaGreatDoor
namespace Go.Proofs.YtekmbcbgknmhiaaGreatDoor
open Go Go.L
theorem Agp{q:Qv}(hl:q.f.2.2.2.2.2.2.length<=1000000000):∃ u,AV q.f.2.2.2.2.2.2 q=some (OC q,u):=by
 unfold AV Ci C9;obtain⟨k,ws,pat,data,low,high,subs⟩:=q;simp only [Qf] at hl ⊢
 have key:∃ r,Go.L.run (Bj subs) (k,ws,pat,data,low,high,subs,0)=some r/\decide (0<=r.1)=OC (.mk k ws pat data low high subs):=by
  have:∀ (d i:Nat),i+d=subs.length->∃ r,Go.L.run (Bj subs) (k,ws,pat,data,low,high,subs,(i:Int))=some r/\decide (0<=r.1)=(subs.drop i).any fun s=>decide (s.f.1=k):=by
   intro d
   induction d with
   | zero=>
    intro i hi;refine⟨(-1,.mk k ws pat data low high subs),AQ (m:=some _) ?_,?_⟩
    ·unfold Bj;simp only;rw [if_neg U]
     rfl
    ·rw [Qz5 U]
     rfl
   | succ d ih=>
    intro i hi;have hg:subs.getD i Qq2=subs[i]:=by rw [Qq9,Qzw U];rfl
    rw [Qkd U,List.any_cons]
    have hb:Bj subs (k,ws,pat,data,low,high,subs,(i:Int))=if subs[i].f.1=k then some (.inr ((i:Int),.mk k ws pat data low high subs)) else some (.inl (k,ws,pat,data,low,high,subs,((i+1:Nat):Int))):=by
     unfold Bj;simp only;rw [if_pos U,Ad ⟨by omega,by omega⟩,Qq8,hg];unfold J5;simp only [Qq6,Qf]
     by_cases hk:subs[i].f.1=k
     ·simp [hk]
     ·simp only [hk,decide_false,Qz1,if_false];rw [Ad (by constructor <;> omega)]
      rfl
    by_cases hk:subs[i].f.1=k
    ·rw [if_pos hk] at hb;refine⟨_,AQ (m:=some _) hb,?_⟩;rw [decide_eq_true hk,Bool.true_or];exact decide_eq_true U
    ·rw [if_neg hk] at hb;rw [Bg hb,decide_eq_false hk,Bool.false_or];exact ih (i+1) U
  exact this subs.length 0 U
 obtain⟨r,a,h2⟩:=key;rw [a,Qq6,h2];exact⟨_,Z⟩
def Frm(q:Qv):Bool:=
 let k:=q.f.1
 let n:=q.f.2.1.length
 let m:=q.f.2.2.2.2.2.2.length
 (if k=1 then decide (n=1) else if k=2 then decide (2<=n/\n<=16) else if k=3 then decide (n=2) else decide (n=0)) &&
 (decide (k=5\/k=6\/k=7)||decide (q.f.2.2.1=[]))&&(decide (k=4\/k=7)||decide (q.f.2.2.2.1=[])) &&
 (decide (k=3\/k=6)||decide (q.f.2.2.2.2.1=0))&&(decide (k=6)||decide (q.f.2.2.2.2.2.1=0)) &&
 (if k=8\/k=9 then decide (2<=m)&&!OC q else if k=10 then decide (m=1) else decide (m=0))
theorem Aco{q:Qv}(hl:q.f.2.2.2.2.2.2.length<=1000000000)(hk:1<=q.f.1/\q.f.1<=10):JC q=some (Frm q):=by
 obtain⟨u,hc⟩:=Agp hl;unfold JC Cs;rw [hc];clear hc;unfold Frm;clear hl;generalize OC q=B;generalize q.f.1=k at hk ⊢;generalize q.f.2.1.length=n;have hd:∀ l:List UInt8,l=[]↔l.length=0:=fun l=>List.length_eq_zero_iff.symm;have hd':([]=q.f.2.2.1)↔q.f.2.2.1.length=0:=by rw [eq_comm,hd]
 generalize q.f.2.2.2.2.1=low;generalize q.f.2.2.2.1=data;generalize q.f.2.2.2.2.2.1=high;generalize q.f.2.2.2.2.2.2.length=m;obtain rfl | rfl | rfl | rfl | rfl | rfl | rfl | rfl | rfl | rfl:k=1\/k=2\/k=3\/k=4\/k=5\/k=6\/k=7\/k=8\/k=9\/k=10:=by omega
 all_goals simp only [QxK,if_true,if_false,hd',decide_true,decide_false,Bool.or_false,Bool.or_true,Bool.false_or,Bool.true_or,Bool.not_true,Bool.not_false,Qz1,Qq6,Qzf,cond_true,cond_false,or_false,or_true,false_or,true_or,hd,List.nil_eq]
 all_goals (repeat' split)
 all_goals (refine congrArg some (QzD.2 ?_))
 all_goals clear hd hd'
 all_goals (simp only [Qzb,decide_eq_true_eq,Qz9,Qz1,Bool.not_eq_true',Bool.not_eq_true,true_iff,false_iff,iff_true,iff_false,Bool.true_eq_false,Int.natCast_eq_zero,and_true,true_and] at *)
 all_goals first | omega | exact⟨fun h=>⟨by omega,by omega,h⟩,fun h=>h.2.2⟩
theorem Rh{q:Qv}(h:Frm q=true):q.f.2.1.length<=16:=by
 unfold Frm at h;simp only [Qzb] at h;have:=h.1.1.1.1.1
 split at this
 ·simp at this;omega
 ·split at this
  ·simp at this;omega
  ·split at this
   ·simp at this;omega
   ·simp at this;simp [this]
def nt(q:Qv):Int:=if(q.f.1=3/\(q.f.2.2.2.2.1<1\/2048<q.f.2.2.2.2.1))\/(q.f.1=6/\q.f.2.2.2.2.2.1<q.f.2.2.2.2.1) then 4 else if q.f.1=4/\q.f.2.2.2.1.length=0 then 10 else if 64<q.f.2.2.2.1.length then 3 else 0
def nf(q:Qv):Int:=if 1<=q.f.1/\q.f.1<=10 then(if Frm q=true then(if ZH q.f.2.1=0 then(if(pf q.f.2.2.1).1=0 then nt q else(pf q.f.2.2.1).1) else ZH q.f.2.1) else 6) else 5
theorem XS{q:Qv}(hl:q.f.2.2.2.2.2.2.length<=1000000000):HD q=some (nf q):=by
 unfold HD nf
 by_cases hk:1<=q.f.1/\q.f.1<=10
 ·rw [if_neg (by simp;omega),if_pos hk,Aco hl hk,Qq6]
  cases hF:Frm q with
  | false=>rfl
  | true=>
   rw [if_neg Qqc,if_pos Z];have hw:=Rh hF;unfold IN;rw [WU (ws:=q.f.2.1) (b:=Ee q) (m:=FQ q) U ?A ?B]
   ·by_cases c:ZH q.f.2.1=0
    ·rw [if_pos c,if_pos c];unfold FQ;rw [Rg,Qq6]
     by_cases a:(pf q.f.2.2.1).1=0
     ·rw [if_pos (by rw [AiJ a];exact⟨Z,Z⟩),if_pos a];unfold FP nt;clear hl hw hF c a;generalize q.f.1=k at hk ⊢;generalize q.f.2.2.2.1.length=n;generalize q.f.2.2.2.2.1=low;generalize q.f.2.2.2.2.2.1=high;simp only [Qzb,decide_eq_true_eq,Qz9]
      repeat' split
      all_goals first | rfl | (exfalso;omega)
     ·rw [if_neg (fun h=>a h.1),if_neg a]
    ·rw [if_neg c,if_neg c]
   ·intro i hi;unfold Ee;rw [if_pos U,Ad ⟨by omega,by omega⟩,Qq8,NS,Qq6]
    by_cases a:(wf (q.f.2.1.getD i Qq2)).1=0
    ·rw [if_pos (by rw [AiI a];exact⟨Z,Z⟩),if_pos a,Ad (by constructor <;> omega)]
    ·rw [if_neg (fun h=>a h.1),if_neg a]
     rfl
   ·unfold Ee;rw [if_neg U]
 ·rw [if_pos (by simp;omega),if_neg hk]
theorem XT{q:Qv}(hl:q.f.2.2.2.2.2.2.length<=1000000000):NT q=some (nf q):=by
 have e:q.f.2.1.length<=16->FK q=some (if ZH q.f.2.1=0 then(if(pf q.f.2.2.1).1=0 then nt q else(pf q.f.2.2.1).1) else ZH q.f.2.1):=fun hw=>by
  unfold FK Ol;rw [WU (ws:=q.f.2.1) (b:=Jw q) (m:=LZ q) U ?A ?B]
  ·by_cases d:ZH q.f.2.1=0
   ·rw [if_pos d,if_pos d];unfold LZ;rw [Acm,Qq6]
    by_cases c:(pf q.f.2.2.1).1=0
    ·rw [if_pos c,if_pos c];unfold nt;clear hl hw d c;generalize q.f.1=k;generalize q.f.2.2.2.1.length=n;generalize q.f.2.2.2.2.1=low;generalize q.f.2.2.2.2.2.1=high;simp only [Qzb,decide_eq_true_eq,Qz9,Bool.not_eq_true',decide_eq_false_iff_not]
     repeat' split
     all_goals first | rfl | (exfalso;omega)
    ·rw [if_neg c,if_neg c]
   ·rw [if_neg d,if_neg d]
  ·intro i hi;unfold Jw;rw [if_pos U,Ad ⟨by omega,by omega⟩,Qq8,XM,Qq6]
   by_cases c:(wf (q.f.2.1.getD i Qq2)).1=0
   ·rw [if_pos c,if_pos c,Ad (by constructor <;> omega)]
   ·rw [if_neg c,if_neg c]
    rfl
  ·unfold Jw;rw [if_neg U]
 have g:Ma q=if OC q=true/\q.f.1<10 then some 6 else FK q:=by
  unfold Ma Om
  by_cases j:q.f.1<10
  ·have:=Aeh (k:=q.f.1) hl (b:=HU q) (st:=fun i=>(i:Int)) (m:=FK q) (y:=some 6) (fun i hi=>?_) ?_
   ·unfold OC;simp only [j,and_true];exact this
   ·unfold HU;rw [if_pos (by simp;omega),Ad ⟨by omega,by omega⟩,Qq8,Ad (by constructor <;> omega)]
    rfl
   ·unfold HU;rw [if_neg Qqd]
  ·rw [if_neg (fun h=>j h.2)];refine AQ ?_;unfold HU;rw [if_neg (by simp;omega)]
 unfold NT nf
 by_cases hk:1<=q.f.1/\q.f.1<=10
 ·rw [if_pos hk,if_pos hk,Ad ⟨by omega,by omega⟩,Ad ⟨by omega,by omega⟩,g];have hX:Frm q=true->FK q=_:=fun h=>e (Rh h);clear g e hl
  revert hX
  generalize (if ZH q.f.2.1=0 then(if(pf q.f.2.2.1).1=0 then nt q else(pf q.f.2.2.1).1) else ZH q.f.2.1)=r;generalize FK q=X;have hd:∀ l:List UInt8,l=[]↔l.length=0:=fun l=>List.length_eq_zero_iff.symm;unfold Frm
  have hB:OC q=true->0<q.f.2.2.2.2.2.2.length:=fun h=>by
   unfold OC at h
   cases hs:q.f.2.2.2.2.2.2 with
   | nil=>rw [hs] at h;cases h
   | cons a l=>simp
  revert hB
  generalize OC q=B;generalize q.f.1=k at hk ⊢;generalize q.f.2.1.length=n;simp only [hd];generalize q.f.2.2.1.length=pn;generalize q.f.2.2.2.2.1=low;generalize q.f.2.2.2.1.length=dn;generalize q.f.2.2.2.2.2.1=high;generalize q.f.2.2.2.2.2.2.length=m;intro hB hX;obtain rfl | rfl | rfl | rfl | rfl | rfl | rfl | rfl | rfl | rfl:k=1\/k=2\/k=3\/k=4\/k=5\/k=6\/k=7\/k=8\/k=9\/k=10:=by omega
  all_goals (cases B <;> simp at hX hB ⊢ <;> (repeat' split) <;> first | rfl | (exfalso;omega) | (intros;exfalso;omega) | (rw [hX] <;> omega))
 ·rw [if_neg hk,if_neg hk]
end Go.Proofs.YtekmbcbgknmhiaaGreatDoor
end
noncomputable section
namespace Go.Proofs.YtekmbcbgknmhiaaGreatDoor
open Go Go.L
def Sq(q:Qv):Prop:=∀ d,Smq 1048576 d q
theorem Sq.open{q:Qv}(h:Sq q):q.f.2.1.length<=1048576/\q.f.2.2.1.length<=1048576/\q.f.2.2.2.1.length<=1048576/\q.f.2.2.2.2.2.2.length<=1048576/\(∀ x∈q.f.2.1,x.length<=1048576)/\Bw q.f.2.2.2.2.1/\Bw q.f.2.2.2.2.2.1:=
 ⟨(h 1).1,(h 1).2.1,(h 1).2.2.1,(h 1).2.2.2.1,(h 1).2.2.2.2.1,(h 1).2.2.2.2.2.1,(h 1).2.2.2.2.2.2.1⟩
theorem Sq.sub{q:Qv}(h:Sq q){p:Qv}(hp:p∈q.f.2.2.2.2.2.2):Sq p:=fun d=>(h (d+1)).2.2.2.2.2.2.2 p hp
theorem Sq.len{q:Qv}(h:Sq q):q.f.2.2.2.2.2.2.length<=1000000000:=by have:=h.open.2.2.2.1;omega
def cks(f:Qv->Int->Int->Int×(Int×Int))(lev:Int):List Qv->Int->Int×(Int×Int)
 | [],num=>(num,(0,0))
 | s::l,num=>if(f s num lev).2.1=0 then cks f lev l (f s num lev).1 else(0,(f s num lev).2)
def ck:Nat->Qv->Int->Int->Int×(Int×Int)
 | 0,_,_,_=>(0,(0,0))
 | n+1,q,num,lev=>if 40<=num\/8<lev then(0,(2,num)) else if nf q=0 then cks (ck n) (lev+1) q.f.2.2.2.2.2.2 (num+1) else(0,(nf q,num))
def CkP(r:Int×(Int×Int)):Prop:=0<=r.1/\(r.2.1=0->r.2=(0,0))
theorem Ahr{f:Qv->Int->Int->Int×(Int×Int)}{lev:Int}:∀ (l:List Qv) (num:Int),0<=num->(∀ s∈l,∀ num,0<=num->CkP (f s num lev))->CkP (cks f lev l num)
 | [],num,h,_=>⟨h,fun _=>Z⟩
 | s::l,num,h,hf=>by
  have a:=hf s (QzA ..) num h;unfold cks
  split
  ·exact Ahr l _ a.1 (fun s hs=>hf s (QzB _ hs))
  ·exact⟨Int.le_refl _,fun e=>absurd e (by assumption)⟩
theorem Abp{l:List Qv}(hl:l.length<=1000000000){f:Qv->Int->Int->Int×(Int×Int)}{lev:Int}{b:Int×Int->Option ((Int×Int) ⊕ (Int×(Int×Int)))}
  (hp:∀ s∈l,∀ num,0<=num->CkP (f s num lev))
  (a:∀ (i:Nat) (num:Int),0<=num->i<l.length->b (num,(i:Int))=if(f (l.getD i Qq2) num lev).2.1=0 then some (.inl ((f (l.getD i Qq2) num lev).1,(i:Int)+1)) else some (.inr (0,(f (l.getD i Qq2) num lev).2)))
  (h2:∀ num,b (num,(l.length:Int))=some (.inr (num,(0,0)))) (num:Int) (hn:0<=num):Go.L.run b (num,0)=some (cks f lev l num):=by
 have key:∀ (d i:Nat) (num:Int),0<=num->i+d=l.length->Go.L.run b (num,(i:Int))=some (cks f lev (l.drop i) num):=by
  intro d
  induction d with
  | zero=>
   intro i num hn hi;rw [Qz5 U,show i=l.length by omega];exact AQ (m:=some _) (h2 num)
  | succ d ih=>
   intro i num hn hi;have hb:=a i num hn U;have hg:l.getD i Qq2=l[i]:=by rw [Qq9,Qzw U];rfl
   rw [hg] at hb;rw [Qkd U,cks]
   by_cases hw:(f l[i] num lev).2.1=0
   ·rw [if_pos hw] at hb ⊢;rw [Bg hb];exact ih (i+1) _ (hp _ (Qxx _) num hn).1 U
   ·rw [if_neg hw] at hb ⊢;exact AQ (m:=some _) hb
 exact key l.length 0 num hn U
theorem Tu{l:List Qv}{i:Nat}(h:i<l.length):l.getD i Qq2∈l:=by
 rw [Qq9,Qzw h];exact Qxx _
theorem Ahs:∀ (n:Nat) (q:Qv) (num lev:Int),Sq q->0<=num->1<=lev->lev<=9->10<=lev+n->
  F5 n q num lev=some (ck n q num lev)/\Kz n q num lev=some (ck n q num lev)/\CkP (ck n q num lev)
 | 0,q,num,lev,_,_,_,a,h2=>by omega
 | n+1,q,num,lev,hq,hn,g,j,k=>by
  show F4 (F5 n) q num lev=_/\K6 (Kz n) q num lev=_/\_
  unfold F4 K6 ck
  by_cases b:40<=num\/8<lev
  ·rw [if_pos b,if_pos b,if_pos b];exact⟨Z,Z,by show(0:Int)<=0;omega,fun e=>by cases e⟩
  ·rw [if_neg b,if_neg b,if_neg b,XS hq.len,XT hq.len,Qq6,Qq6]
   by_cases a:nf q=0
   ·rw [if_pos a,if_pos a,if_pos a,Ad (by constructor <;> omega),Ad (by constructor <;> omega)]
    have ih:∀ s∈q.f.2.2.2.2.2.2,∀ num,0<=num->F5 n s num (lev+1)=some (ck n s num (lev+1))/\Kz n s num (lev+1)=some (ck n s num (lev+1))/\CkP (ck n s num (lev+1)):=
     fun s hs num hn=>Ahs n s num (lev+1) (hq.sub hs) hn U U U
    have hp:∀ s∈q.f.2.2.2.2.2.2,∀ num,0<=num->CkP (ck n s num (lev+1)):=fun s hs num hn=>(ih s hs num hn).2.2;refine⟨?_,?_,Ahr _ _ U hp⟩
    ·refine Abp hq.len hp (fun i num hn hi=>?_) (fun num=>?_) _ U
     ·unfold E7;simp only;obtain⟨c,_,d⟩:=ih _ (Tu hi) num hn;rw [if_pos U,Ad ⟨by omega,by omega⟩,Qq8,Ad (by constructor <;> omega),c,Qq6]
      by_cases h2:(ck n (q.f.2.2.2.2.2.2.getD i Qq2) num (lev+1)).2.1=0
      ·rw [if_pos (by rw [d.2 h2];exact⟨Z,Z⟩),if_pos h2,Ad (by have:=hq.len;constructor <;> omega)]
      ·rw [if_neg (fun h=>h2 h.1),if_neg h2]
       rfl
     ·unfold E7;simp only;rw [if_neg U]
      rfl
    ·refine Abp hq.len hp (fun i num hn hi=>?_) (fun num=>?_) _ U
     ·unfold Jf;simp only;obtain⟨_,c,d⟩:=ih _ (Tu hi) num hn;rw [if_pos U,Ad ⟨by omega,by omega⟩,Qq8,Ad (by constructor <;> omega),c,Qq6]
      by_cases h2:(ck n (q.f.2.2.2.2.2.2.getD i Qq2) num (lev+1)).2.1=0
      ·rw [if_pos h2,if_pos h2,Ad (by have:=hq.len;constructor <;> omega)]
      ·rw [if_neg h2,if_neg h2]
       rfl
     ·unfold Jf;simp only;rw [if_neg U]
      rfl
   ·rw [if_neg a,if_neg a,if_neg a];exact⟨Z,Z,by show(0:Int)<=0;omega,fun e=>absurd e a⟩
def Vq:Nat->Qv->Prop
 | 0,_=>False
 | n+1,q=>nf q=0/\∀ s∈q.f.2.2.2.2.2.2,Vq n s
def nq:Nat->Qv->Nat
 | 0,_=>0
 | n+1,q=>1+(q.f.2.2.2.2.2.2.map (nq n)).sum
theorem Aej{f:Qv->Int->Int->Int×(Int×Int)}{lev:Int}{g:Qv->Nat}{V:Qv->Prop}:∀ (l:List Qv) (num:Int),(∀ s∈l,∀ num,(f s num lev).2.1=0->(f s num lev).1=num+g s/\(f s num lev).1<=40/\V s)->num<=40->(cks f lev l num).2.1=0->
  (cks f lev l num).1=num+(l.map g).sum/\(cks f lev l num).1<=40/\∀ s∈l,V s
 | [],num,_,h,_=>⟨by simp [cks],h,by simp⟩
 | s::l,num,hf,h,he=>by
  unfold cks at he ⊢;have hs:=hf s (QzA ..) num
  split at he
  ·rename_i a;rw [if_pos a];obtain⟨b,c,d⟩:=hs a;obtain⟨e,i,j⟩:=Aej l _ (fun s hs=>hf s (QzB _ hs)) c he;refine⟨by rw [e,b];simp;omega,i,fun x hx=>?_⟩
   rcases Qzy.1 hx with rfl | hx
   ·exact d
   ·exact j x hx
  ·rename_i a;exact absurd he a
theorem Aht:∀ (n:Nat) (q:Qv) (num lev:Int),10<=lev+n->lev<=9->∀ m:Nat,lev+m=9->(ck n q num lev).2.1=0->(ck n q num lev).1=num+nq m q/\(ck n q num lev).1<=40/\Vq m q
 | 0,q,num,lev,h,h',_,_=>by omega
 | n+1,q,num,lev,h,h',m,hm=>by
  unfold ck
  by_cases b:40<=num\/8<lev
  ·rw [if_pos b];intro e
   cases e
  ·rw [if_neg b]
   by_cases a:nf q=0
   ·rw [if_pos a];intro he;obtain⟨m,rfl⟩:∃ k,m=k+1:=⟨m - 1,by omega⟩;obtain⟨c,d,f⟩:=Aej (g:=nq m) (V:=Vq m) _ (num+1) (fun s hs num he=>Aht n s num (lev+1) U U m U he) U he;exact⟨by rw [c];unfold nq;omega,d,a,f⟩
   ·rw [if_neg a];intro e;exact absurd e a
end Go.Proofs.YtekmbcbgknmhiaaGreatDoor
end
noncomputable section
namespace Go.L
open Go
def hxd(n:Nat):UInt8:=([48,49,50,51,52,53,54,55,56,57,97,98,99,100,101,102]:List UInt8).getD n 0
def qub(c:UInt8):List UInt8:=if(32<=c.toNat/\c.toNat<=126)/\c.toNat≠39/\c.toNat≠92 then[c] else[92,hxd (c.toNat / 16),hxd (c.toNat % 16)]
def quo(l:List UInt8):List UInt8:=39::l.flatMap qub++[39]
theorem XU(c:UInt8):1<=(qub c).length/\(qub c).length<=3:=by
 unfold qub
 split <;> simp
theorem V4:∀ l:List UInt8,(l.flatMap qub).length<=3 * l.length
 | []=>by simp
 | c::l=>by
  have a:=V4 l;have h2:=(XU c).2;rw [Qxc,Qzu,Qzj];omega
end Go.L
namespace Go.Proofs.YtekmbcbgknmhiaaGreatDoor
open Go Go.L
theorem TP{n:Nat}(h:n<16):KJ (n:Int)=some (hxd n):=by
 have:∀ k:Fin 16,KJ ((k.val:Nat):Int)=some (hxd k.val):=by
  intro k;unfold KJ
  split
  ·rw [Ad (by have:=k.isLt;constructor <;> omega)]
   revert k
   decide
  ·rw [Ad (by have:=k.isLt;constructor <;> omega),Ad (by have:=k.isLt;constructor <;> omega)]
   revert k
   decide
 exact this ⟨n,h⟩
theorem WV{l:List UInt8}(hl:l.length<=1000000000):On l=some (quo l):=by
 unfold On QF
 have key:∀ (d i:Nat) (o:List UInt8),o.length<=3 * i+1->i+d=l.length->Go.L.run (J9 l) (o,(i:Int))=some (o++(l.drop i).flatMap qub++[39]):=by
  intro d
  induction d with
  | zero=>
   intro i o ho hi;rw [Qz5 U];refine AQ (m:=some _) ?_;unfold J9 QE;simp only;rw [if_neg U,Ad (by constructor <;> simp <;> omega)];simp
  | succ d ih=>
   intro i o ho hi;have hg:l.getD i Qq2=l[i]:=by rw [Qq9,Qzw U];rfl
   have hb:J9 l (o,(i:Int))=some (.inl (o++qub l[i],((i+1:Nat):Int))):=by
    have a:∀ b:Bool,(b=true↔((32<=l[i].toNat/\l[i].toNat<=126)/\l[i].toNat≠39/\l[i].toNat≠92))->Kj l o (i:Int) b=some (.inl (o++qub l[i],((i+1:Nat):Int))):=fun b hb=>by
     have hc:l[i].toNat<256:=Qx1 _;unfold Kj qub;rw [Qq8,hg]
     by_cases h:b=true
     ·rw [if_pos h,if_pos (hb.1 h),Ad ⟨by omega,by omega⟩,Ad (by constructor <;> simp <;> omega),Ad (by constructor <;> omega)]
      rfl
     ·rw [if_neg h,if_neg (fun e=>h (hb.2 e)),Ad ⟨by omega,by omega⟩,Ad ⟨by omega,by omega,by omega⟩];rw [show((l[i].toNat:Nat):Int) / 16=((l[i].toNat / 16:Nat):Int) by omega,TP U,Qq6,Ad ⟨by omega,by omega⟩,Ad ⟨by omega,by omega,by omega⟩];rw [show((l[i].toNat:Nat):Int) % 16=((l[i].toNat % 16:Nat):Int) by omega,TP U,Qq6,Ad (by constructor <;> simp <;> omega),Ad (by constructor <;> omega)]
      rfl
    unfold J9;simp only;rw [if_pos U,Ad ⟨by omega,by omega⟩,Ad ⟨by omega,by omega⟩,Ad ⟨by omega,by omega⟩,Qq8,hg]
    by_cases c:(32:Int)<=(l[i].toNat:Int)/\(l[i].toNat:Int)<=126
    ·rw [if_pos c]
     by_cases h2:(l[i].toNat:Int)=39
     ·rw [if_pos h2,a false (by simp;omega)]
     ·rw [if_neg h2,a _ (by simp;omega)]
    ·rw [if_neg c,a false (by simp;omega)]
   have:=(XU l[i]).2;rw [Bg hb,ih (i+1) _ (by rw [Qzu];omega) U,Qkd (by omega:i<l.length),Qxc];simp
 exact key l.length 0 [39] Qqd U
theorem WW{l:List UInt8}(hl:l.length<=1000000000):IH l=some (quo l):=by
 unfold IH Ku
 have key:∀ (d i:Nat) (o:List UInt8),o.length<=3 * i+1->i+d=l.length->Go.L.run (E1 l) (o,(i:Int))=some (o++(l.drop i).flatMap qub++[39]):=by
  intro d
  induction d with
  | zero=>
   intro i o ho hi;rw [Qz5 U];refine AQ (m:=some _) ?_;unfold E1 Jb;simp only;rw [if_neg U,Ad (by constructor <;> simp <;> omega)];simp
  | succ d ih=>
   intro i o ho hi;have hg:l.getD i Qq2=l[i]:=by rw [Qq9,Qzw U];rfl
   have hb:E1 l (o,(i:Int))=some (.inl (o++qub l[i],((i+1:Nat):Int))):=by
    have hc:l[i].toNat<256:=Qx1 _
    have b:(l[i] >>> (4:UInt8)).toNat=l[i].toNat / 16:=by
     have:∀ n:Fin 256,(QzE n.val >>> (4:UInt8)).toNat=n.val / 16:=by decide +kernel
     have h:=this ⟨l[i].toNat,hc⟩
     rwa [UInt8.ofNat_toNat] at h
    have c:(l[i] &&& (15:UInt8)).toNat=l[i].toNat % 16:=by
     have:∀ n:Fin 256,(QzE n.val &&& (15:UInt8)).toNat=n.val % 16:=by decide +kernel
     have h:=this ⟨l[i].toNat,hc⟩
     rwa [UInt8.ofNat_toNat] at h
    unfold E1 qub;simp only;rw [if_pos U,Ad ⟨by omega,by omega⟩,Qq8,hg,b,c]
    by_cases a:(32<=l[i].toNat/\l[i].toNat<=126)/\l[i].toNat≠39/\l[i].toNat≠92
    ·rw [if_neg U,if_pos a,Ad (by constructor <;> simp <;> omega),Ad (by constructor <;> omega)]
     rfl
    ·rw [if_pos U,if_neg a,Ad ⟨by omega,by simp;omega⟩,Ad ⟨by omega,by simp;omega⟩,Ad (by constructor <;> simp <;> omega),Ad (by constructor <;> omega)]
     rfl
   have:=(XU l[i]).2;rw [Bg hb,ih (i+1) _ (by rw [Qzu];omega) U,Qkd (by omega:i<l.length),Qxc];simp
 exact key l.length 0 [39] Qqd U
end Go.Proofs.YtekmbcbgknmhiaaGreatDoor
namespace Go.Proofs.YtekmbcbgknmhiaaGreatDoor
open Go Go.L
theorem RU{n:Int}(hn:Bw n):Mb n=some (Lib.itoa n):=by
 unfold Mb
 by_cases a:n=0
 ·subst a;rw [if_pos Z];exact congrArg some (by rw [Lib.itoa,if_neg U,Lib.decDigits,dif_pos Qqc];rfl)
 rw [if_neg a];unfold PU
 have fin:∀ l:List UInt8,l.length<=30->Go.L.run (HE n) (l,0)=some ((if n<0 then[45] else[])++l):=fun l hl=>by
  refine AQ (m:=some _) ?_;unfold HE PT;simp only;rw [if_pos trivial]
  by_cases hn:n<0
  ·rw [if_pos hn,if_pos hn,Ad (by constructor <;> simp <;> omega)]
  ·rw [if_neg hn,if_neg hn]
   rfl
 have key:∀ (k:Nat) (s:Int) (l:List UInt8),s.natAbs<10 ^ k->l.length+k<=30->Bw s->(s=0->l≠[])->Go.L.run (HE n) (l,s)=some ((if n<0 then[45] else[])++((if s=0 then[] else Lib.decDigits s.natAbs)++l)):=by
  intro k
  induction k with
  | zero=>
   intro s l hs hl hi _;obtain rfl:s=0:=by omega
   rw [fin l U,if_pos Z]
   rfl
  | succ k ih=>
   intro s l hs hl hi _
   by_cases hz:s=0
   ·subst hz;rw [fin l U,if_pos Z]
    rfl
   ·have hb:HE n (l,s)=some (.inl ([QzE (48+s.natAbs % 10)]++l,Int.tdiv s 10)):=by
     have b:∀ d:Int,d=((s.natAbs % 10:Nat):Int)->Lb l s d=some (.inl ([QzE (48+s.natAbs % 10)]++l,Int.tdiv s 10)):=fun d hd=>by
      unfold Lb;rw [Ad (by constructor <;> omega),Ad (by constructor <;> simp <;> omega),Ad ⟨hi.1,hi.2,by decide⟩]
      have:u8 (48+d)=QzE (48+s.natAbs % 10):=by
       unfold u8
       congr 1
       omega
      rw [this]
     unfold HE;simp only;rw [if_neg hz,Ad ⟨hi.1,hi.2,by decide⟩]
     have hm:Int.tmod s 10=if 0<=s then((s.natAbs % 10:Nat):Int) else -((s.natAbs % 10:Nat):Int):=by
      split
      ·rw [Int.tmod_eq_emod_of_nonneg (by assumption)];omega
      ·rw [show s = -(-s) by omega,Int.neg_tmod,Int.tmod_eq_emod_of_nonneg U];omega
     rw [hm]
     split
     ·split
      ·omega
      ·exact b _ Z
     ·split
      ·rw [Ad (by constructor <;> omega)];exact b _ U
      ·exact b _ U
    have hd:(Int.tdiv s 10).natAbs=s.natAbs / 10:=by rw [Int.natAbs_tdiv];rfl
    have hp:10 ^ (k+1)=10 * 10 ^ k:=by rw [Nat.pow_succ,Nat.mul_comm]
    have e:=hi;rw [Bg hb,ih _ _ (by rw [hd];omega) (by simp;omega) (by constructor <;> omega) Qqd,if_neg hz]
    congr 2
    have hdd:Lib.decDigits s.natAbs=if h:s.natAbs<10 then[QzE (48+s.natAbs)] else Lib.decDigits (s.natAbs / 10)++[QzE (48+s.natAbs % 10)]:=by rw [Lib.decDigits]
    rw [hdd]
    by_cases c:s.natAbs<10
    ·rw [dif_pos c,if_pos U,Nat.mod_eq_of_lt c]
     rfl
    ·rw [dif_neg c,if_neg U,hd];simp
 rw [key 19 n [] (by have:=hn.1;have:=hn.2;omega) Qqd hn (fun h=>absurd h a),if_neg a,List.append_nil];unfold Lib.itoa
 split
 ·rfl
 ·rw [show n.natAbs=n.toNat by omega];rfl
theorem SA{n:Int}(hn:Bw n):(Lib.itoa n).length<=30:=by
 have key:∀ (k u:Nat),u<10 ^ (k+1)->(Lib.decDigits u).length<=k+1:=by
  intro k
  induction k with
  | zero=>intro u h;rw [Lib.decDigits,dif_pos (by simpa using h)];simp
  | succ k ih=>
   intro u h;rw [Lib.decDigits]
   split
   ·simp
   ·have:10 ^ (k+1+1)=10 * 10 ^ (k+1):=by rw [Nat.pow_succ,Nat.mul_comm]
    have:=ih (u / 10) U;simp;omega
 unfold Lib.itoa;have a:=hn.1;have h2:=hn.2
 split
 ·have:=key 18 n.natAbs U;simp;omega
 ·have:=key 18 n.toNat U;omega
end Go.Proofs.YtekmbcbgknmhiaaGreatDoor
end
noncomputable section
namespace Go.L
open Go
def par(f:Qv->List UInt8)(ks:List Int)(s:Qv):List UInt8:=if s.f.1∈ks then([40]++f s)++[41] else f s
def tb(f:Qv->List UInt8)(q:Qv):List UInt8:=
 if q.f.1=1 then q.f.2.1.getD 0 Qq2 else if q.f.1=2 then([34]++Lib.join q.f.2.1 [32])++[34]
 else if q.f.1=3 then(((q.f.2.1.getD 0 Qq2++[126])++Lib.itoa q.f.2.2.2.2.1)++[126])++q.f.2.1.getD 1 Qq2
 else if q.f.1=4 then quo q.f.2.2.2.1 else if q.f.1=5 then[47]++q.f.2.2.1
 else if q.f.1=6 then(((([47]++q.f.2.2.1)++[61])++Lib.itoa q.f.2.2.2.2.1)++[46,46])++Lib.itoa q.f.2.2.2.2.2.1
 else if q.f.1=7 then(([47]++q.f.2.2.1)++[61])++quo q.f.2.2.2.1
 else if q.f.1=8 then Lib.join (q.f.2.2.2.2.2.2.map (par f [9])) [38] else if q.f.1=9 then Lib.join (q.f.2.2.2.2.2.2.map (par f [])) [124]
 else[33]++Lib.join (q.f.2.2.2.2.2.2.map (par f [8,9])) []
def tx:Nat->Qv->List UInt8
 | 0,_=>[]
 | n+1,q=>tb (tx n) q
theorem Abq(sep:List UInt8)(x:List UInt8)(r:List (List UInt8)):Lib.joinTail sep (x::r)=sep++x++Lib.joinTail sep r:=by
 simp [Lib.joinTail]
theorem WX(x:List UInt8)(r:List (List UInt8)):Lib.lens (x::r)=x.length+Lib.lens r:=by simp [Lib.lens]
theorem join_le(l:List (List UInt8))(sep:List UInt8):(Lib.join l sep).length<=sep.length * l.length+Lib.lens l:=by
 cases l with
 | nil=>simp [Lib.join_nil]
 | cons x r=>
  rw [Lib.join_length];have:=Nat.mul_le_mul_left sep.length (Nat.le_succ r.length);simp only [Qzj,Nat.succ_eq_add_one] at this ⊢;omega
theorem Agq(f:Qv->List UInt8)(ks:List Int)(s:Qv):(par f ks s).length<=(f s).length+2:=by
 unfold par
 split <;> simp
end Go.L
namespace Go.Proofs.YtekmbcbgknmhiaaGreatDoor
open Go Go.L
theorem Aek:∀ {ws:List (List UInt8)},ZH ws=0->∀ w∈ws,wf w=(0,0)
 | [],_=>by simp
 | w::l,h=>by
  unfold ZH at h
  split at h
  ·rename_i a;intro x hx
   rcases Qzy.1 hx with rfl | hx
   ·exact AiI a
   ·exact Aek h x hx
  ·rename_i a;exact absurd h a
theorem Ael{w:List UInt8}(h:wf w=(0,0)):w.length<=64:=by
 unfold wf at h
 split at h
 ·cases h
 ·omega
theorem Aem{w:List UInt8}(h:pf w=(0,0)):w.length<=64:=by
 unfold pf at h
 split at h
 ·cases h
 ·omega
theorem Ri{q:Qv}(h:nf q=0):(1<=q.f.1/\q.f.1<=10)/\Frm q=true/\(∀ w∈q.f.2.1,wf w=(0,0))/\pf q.f.2.2.1=(0,0)/\nt q=0:=by
 unfold nf at h
 split at h
 ·rename_i b
  split at h
  ·rename_i h2
   split at h
   ·rename_i h3
    split at h
    ·rename_i a;exact⟨b,h2,Aek h3,AiJ a,h⟩
    ·rename_i a;exact absurd h a
   ·rename_i h3;exact absurd h h3
  ·cases h
 ·cases h
theorem XV{q:Qv}(h:nt q=0):q.f.2.2.2.1.length<=64:=by
 unfold nt at h
 split at h
 ·cases h
 ·split at h
  ·cases h
  ·split at h
   ·cases h
   ·omega
theorem OX{q:Qv}(h:Frm q=true):(q.f.1=1->q.f.2.1.length=1)/\(q.f.1=2->2<=q.f.2.1.length)/\(q.f.1=3->q.f.2.1.length=2)/\(q.f.1=10->q.f.2.2.2.2.2.2.length=1)/\(q.f.1=8\/q.f.1=9->2<=q.f.2.2.2.2.2.2.length):=by
 unfold Frm at h;simp only [Qzb] at h;obtain⟨⟨⟨⟨⟨a,_⟩,_⟩,_⟩,_⟩,b⟩:=h;refine⟨fun e=>?_,fun e=>?_,fun e=>?_,fun e=>?_,fun e=>?_⟩
 ·rw [e] at a;simpa using a
 ·rw [e] at a;simp at a;omega
 ·rw [e] at a;simpa using a
 ·rw [e] at b;simpa using b
 ·rw [if_pos e] at b;simp at b;exact b.1
theorem XW{l:List Qv}{g:Qv->Nat}{f:Qv->List UInt8}(h:∀ s∈l,(f s).length+1<=3000 * g s):Lib.lens (l.map f)+l.length<=3000 * (l.map g).sum:=by
 induction l with
 | nil=>simp [Lib.lens]
 | cons a l ih=>
  have b:=h a (QzA ..);have:=ih fun s hs=>h s (QzB _ hs);simp only [Qzj,Qzd,List.sum_cons,WX];omega
theorem Aen{l:List (List UInt8)}(h:∀ w∈l,w.length<=64):Lib.lens l<=64 * l.length:=by
 induction l with
 | nil=>simp [Lib.lens]
 | cons a l ih=>
  have b:=h a (QzA ..);have:=ih fun s hs=>h s (QzB _ hs);simp only [Qzj,WX];omega
theorem Tv{l:List (List UInt8)}(h:∀ w∈l,w.length<=64)(i:Nat):(l.getD i Qq2).length<=64:=by
 rw [Qq9]
 cases e:l[i]? with
 | none=>decide
 | some w=>exact h w (List.mem_of_getElem? e)
theorem Aal:∀ (d:Nat) (q:Qv),Sq q->Vq d q->(tx d q).length+3<=3000 * nq d q
 | 0,_,_,h=>h.elim
 | d+1,q,hq,hv=>by
  obtain⟨hk,hF,hw,hp,ht⟩:=Ri hv.1;have hw':∀ w∈q.f.2.1,w.length<=64:=fun w h=>Ael (hw w h);have hd:=XV ht;have hp:=Aem hp;have hwn:=Rh hF
  have hs:∀ ks,∀ s∈q.f.2.2.2.2.2.2,(par (tx d) ks s).length+1<=3000 * nq d s:=fun ks s hs=>by
   have l:=Aal d s (hq.sub hs) (hv.2 s hs);have h2:=Agq (tx d) ks s;omega
  have e:=SA hq.open.2.2.2.2.2.1;have g:=SA hq.open.2.2.2.2.2.2
  have hqu:(quo q.f.2.2.2.1).length<=3 * q.f.2.2.2.1.length+2:=by
   have:=V4 q.f.2.2.2.1;simp [quo]
   simpa using this
  have i:=Tv hw' 0;have j:=Tv hw' 1;have hwl:=Aen hw';unfold tx tb nq;have b:=join_le (q.f.2.2.2.2.2.2.map (par (tx d) [9])) [38];have c:=join_le (q.f.2.2.2.2.2.2.map (par (tx d) [])) [124];have a:=join_le (q.f.2.2.2.2.2.2.map (par (tx d) [8,9])) [];have m:=XW (hs [9]);have n:=XW (hs []);have k:=XW (hs [8,9]);have j2:=join_le q.f.2.1 [32];simp only [Qzk,Qzj,Qzf] at b c a j2
  repeat' split
  all_goals first | omega | (simp only [Qzu,Qzj,Qzf];omega)
end Go.Proofs.YtekmbcbgknmhiaaGreatDoor
end
noncomputable section
namespace Go.Proofs.YtekmbcbgknmhiaaGreatDoor
open Go Go.L
theorem AhV{l:List Int}(hl:l.length<=1000)(a:Int):BD l a=some (decide (a∈l)):=by
 have key:∀ (d i:Nat),i+d=l.length->∃ r,Go.L.run (Be l a) (i:Int)=some r/\(0<=r↔a∈l.drop i):=by
  intro d
  induction d with
  | zero=>
   intro i hi;refine⟨-1,AQ (m:=some (-1)) ?_,by rw [Qz5 U];simp⟩;unfold Be Dc;rw [if_neg U]
  | succ d ih=>
   intro i hi;have hil:i<l.length:=by omega
   rw [drop_cons hil]
   have hb:Be l a (i:Int)=if a=l.getD i Qq2 then some (.inr (i:Int)) else some (.inl ((i+1:Nat):Int)):=by
    unfold Be;rw [if_pos U,Ad U,Qq8,Ad (by constructor <;> omega)]
    rfl
   by_cases h:a=l.getD i Qq2
   ·rw [if_pos h] at hb;exact⟨_,AQ (m:=some (i:Int)) hb,by rw [h];simp⟩
   ·rw [if_neg h] at hb;obtain⟨r,b,h2⟩:=ih (i+1) U;refine⟨r,by rw [Bg hb,b],h2.trans ?_⟩;rw [Qzy];exact⟨.inr,fun hh=>hh.resolve_left h⟩
 unfold BD DV DK;obtain⟨r,b,h2⟩:=key l.length 0 U;rw [show((0:Nat):Int)=0 from Z] at b;rw [b,Qq6]
 congr 1
 simpa using h2
theorem Aeo{l:List Qv}(hl:l.length<=2000000){f:Qv->Option (List UInt8)}{f2:List Qv->List UInt8->List Int->Option (List UInt8)}{g:Qv->List UInt8}{sep:List UInt8}{ks:List Int}(hk:ks.length<=1000)
  (hf:∀ s∈l,f s=some (g s)) (hg:∀ s∈l,(g s).length<=1000000) (hj:(Lib.join (l.map (par g ks)) sep).length<=1000000):F6 f f2 l sep ks=some (Lib.join (l.map (par g ks)) sep):=by
 unfold F6 I5
 have key:∀ (d i:Nat) (o:List (List UInt8)),o.length=i->i+d=l.length->Go.L.run (CX l sep ks f) (o,(i:Int))=Sv (o++(l.drop i).map (par g ks)) sep:=by
  intro d
  induction d with
  | zero=>
   intro i o ho hi;rw [Qz5 U];refine AQ ?_;unfold CX GJ;simp only;rw [if_neg U];simp
  | succ d ih=>
   intro i o ho hi;have hil:i<l.length:=by omega
   have hm:=Tu hil;have hgl:=hg _ hm
   have hb:CX l sep ks f (o,(i:Int))=some (.inl (o++[par g ks (l.getD i Qq2)],((i+1:Nat):Int))):=by
    unfold CX Fg par;simp only;rw [if_pos U,Ad ⟨by omega,by omega⟩,Qq8,hf _ hm,Qq6,AhV hk,Qq6]
    by_cases h:(l.getD i Qq2).f.1∈ks
    ·rw [decide_eq_true h,if_pos Z,if_pos h,Ad (by simp [-Qq9];omega),Ad (by simp [-Qq9];omega),Ad (by constructor <;> simp [-Qq9] <;> omega),Ad (by constructor <;> omega)]
     rfl
    ·rw [decide_eq_false h,if_neg Qqc,if_neg h,Ad (by constructor <;> simp [-Qq9] <;> omega),Ad (by constructor <;> omega)]
     rfl
   rw [Bg hb,ih (i+1) _ (by simp [ho]) U,drop_cons hil];simp
 have:=key l.length 0 [] Z U;rw [show((0:Nat):Int)=0 from Z] at this;rw [this];unfold Sv;rw [List.nil_append,List.drop_zero,Ad ⟨by rw [Qzk];omega,by omega⟩]
theorem Aam{l:List Qv}(hl:l.length<=2000000){f:Qv->Option (List UInt8)}{f2:List Qv->List UInt8->Int->Int->Option (List UInt8)}{g:Qv->List UInt8}{sep:List UInt8}{ks:List Int}{c j:Int}(hk:∀ s∈l,(s.f.1=c\/s.f.1=j)↔s.f.1∈ks)
  (hf:∀ s∈l,f s=some (g s)) (hg:∀ s∈l,(g s).length<=1000000) (hsep:sep.length<=10) (hj:(Lib.join (l.map (par g ks)) sep).length<=1000000):Mf f f2 l sep c j=some (Lib.join (l.map (par g ks)) sep):=by
 unfold Mf MX
 have k:∀ (i:Nat) (o:List UInt8),i<l.length->o.length<=10000000->I8 l c j (i:Int) f o=some (.inl (o++par g ks (l.getD i Qq2),((i+1:Nat):Int))):=fun i o hil ho=>by
  have hm:=Tu hil;have hgl:=hg _ hm
  have n:∀ b:Bool,(b=true↔(l.getD i Qq2).f.1∈ks)->I7 l (i:Int) o f b=some (.inl (o++par g ks (l.getD i Qq2),((i+1:Nat):Int))):=fun b hb=>by
   unfold I7 par;rw [Qq8,hf _ hm]
   by_cases h:b=true
   ·rw [if_pos h,if_pos (hb.1 h),Ad (by simp [-Qq9];omega),Ad ⟨by omega,by omega⟩,Qq6,Ad (by simp [-Qq9];omega),Ad (by simp [-Qq9];omega),Ad (by constructor <;> omega)];simp
   ·rw [if_neg h,if_neg (fun e=>h (hb.2 e)),Ad ⟨by omega,by omega⟩,Qq6,Ad U,Ad (by constructor <;> omega)]
    rfl
  unfold I8;rw [Ad ⟨by omega,by omega⟩,Ad ⟨by omega,by omega⟩,Qq8]
  by_cases h:(l.getD i Qq2).f.1=c
  ·rw [if_pos h,n true (by simpa using (hk _ hm).1 (.inl h))]
  ·rw [if_neg h,n _ (by rw [decide_eq_true_eq,<- hk _ hm];exact⟨.inr,fun e=>e.resolve_left h⟩)]
 have key:∀ (d i:Nat) (o:List UInt8),1<=i->i+d=l.length->o.length+(Lib.joinTail sep ((l.drop i).map (par g ks))).length<=1000000->Go.L.run (CY l sep c j f) (o,(i:Int))=some (o++Lib.joinTail sep ((l.drop i).map (par g ks))):=by
  intro d
  induction d with
  | zero=>
   intro i o ho hi _;rw [Qz5 U];refine AQ (m:=some _) ?_;unfold CY Kk;simp only;rw [if_neg U];simp [Lib.joinTail]
  | succ d ih=>
   intro i o ho hi hlen;have hil:i<l.length:=by omega
   rw [drop_cons hil,Qzd,Abq] at hlen ⊢;rw [Qzu,Qzu] at hlen
   have hb:CY l sep c j f (o,(i:Int))=some (.inl ((o++sep)++par g ks (l.getD i Qq2),((i+1:Nat):Int))):=by
    unfold CY;simp only;rw [if_pos U,if_pos U,Ad U,k i _ hil (by simp [-Qq9];omega)]
   rw [Bg hb,ih (i+1) _ U U (by simp;simp at hlen;omega)];simp
 cases l with
 | nil=>
  refine AQ (m:=some _) ?_;unfold CY Kk;simp only;rw [if_neg Qqd]
  rfl
 | cons a r=>
  have hb:CY (a::r) sep c j f ([],0)=some (.inl (par g ks a,1)):=by
   unfold CY;simp only;rw [if_pos Qqd,if_neg U];exact k 0 [] Qqd Qqd
  rw [Qzd,Lib.join_cons] at hj ⊢;rw [Qzu] at hj;rw [Bg hb];exact key r.length 1 _ U (by simp [-Qq9];omega) (by simpa using hj)
theorem Aan{q:Qv}(hw:∀ w∈q.f.2.1,w.length<=64)(hl:q.f.2.1.length<=16)(a:1<=q.f.2.1.length):Jy q (q.f.2.1.getD 0 Qq2,1)=some (([34]++Lib.join q.f.2.1 [32])++[34]):=by
 unfold Jy
 have key:∀ (d i:Nat) (o:List UInt8),i+d=q.f.2.1.length->o.length<=65 * i->Go.L.run (Fi q) (o,(i:Int))=some (([34]++(o++Lib.joinTail [32] (q.f.2.1.drop i)))++[34]):=by
  intro d
  induction d with
  | zero=>
   intro i o hi ho;rw [Qz5 U];refine AQ (m:=some _) ?_;unfold Fi Md;simp only;rw [if_neg U,Ad (by simp [-Qq9];omega),Ad (by simp [-Qq9];omega)];simp [Lib.joinTail]
  | succ d ih=>
   intro i o hi ho;have hil:i<q.f.2.1.length:=by omega
   have hwl:=Tv hw i;rw [drop_cons hil,Abq]
   have hb:Fi q (o,(i:Int))=some (.inl ((o++[32])++q.f.2.1.getD i Qq2,((i+1:Nat):Int))):=by
    unfold Fi;simp only;rw [if_pos U,Ad (by simp [-Qq9];omega),Ad ⟨by omega,by omega⟩,Qq8,Ad (by simp [-Qq9];omega),Ad (by constructor <;> omega)]
    rfl
   rw [Bg hb,ih (i+1) _ U (by simp [-Qq9];omega)];simp
 obtain⟨w,r,hwr⟩:=List.exists_cons_of_ne_nil (List.ne_nil_of_length_pos a);have hwl:=Tv hw 0;have:=key (q.f.2.1.length - 1) 1 (q.f.2.1.getD 0 Qq2) U U;rw [show((1:Nat):Int)=1 from Z] at this;rw [this,hwr,Lib.join_cons]
 rfl
theorem Agr{q:Qv}{f:Qv->List UInt8}(hq:Sq q)(hn:nf q=0)(ht:(tb f q).length<=1000000){s1:Qv->Option (List UInt8)}{b:List Qv->List UInt8->List Int->Option (List UInt8)}{r1:Qv->Option (List UInt8)}{r2:List Qv->List UInt8->Int->Int->Option (List UInt8)}
  (g:q.f.1=8->b q.f.2.2.2.2.2.2 [38] [9]=some (tb f q)/\r2 q.f.2.2.2.2.2.2 [38] 9 0=some (tb f q)) (i:q.f.1=9->b q.f.2.2.2.2.2.2 [124] []=some (tb f q)/\r2 q.f.2.2.2.2.2.2 [124] 0 0=some (tb f q))
  (d:q.f.1=10->b q.f.2.2.2.2.2.2 [] [8,9]=some (Lib.join (q.f.2.2.2.2.2.2.map (par f [8,9])) [])/\r2 q.f.2.2.2.2.2.2 [] 8 9=some (Lib.join (q.f.2.2.2.2.2.2.map (par f [8,9])) [])) :
  Gv s1 b q=some (tb f q)/\K7 r1 r2 q=some (tb f q):=by
 obtain⟨hk,hF,hw,hp,hnt⟩:=Ri hn;have hw':∀ w∈q.f.2.1,w.length<=64:=fun w h=>Ael (hw w h);have hd:=XV hnt;have hp:=Aem hp;have hwn:=Rh hF;obtain⟨f1,f2,f3,_⟩:=OX hF;have a:=hq.open.2.2.2.2.2.1;have c:=hq.open.2.2.2.2.2.2;have l:=SA a;have m:=SA c;have n:=Tv hw' 0;have o:=Tv hw' 1;have hwl:=Aen hw';have j2:=join_le q.f.2.1 [32];simp only [Qzj,Qzf] at j2;have j:Su q.f.2.2.2.2.1=some (Lib.itoa q.f.2.2.2.2.1):=by unfold Su;rw [Ad ⟨a.1,a.2⟩]
 have k:Su q.f.2.2.2.2.2.1=some (Lib.itoa q.f.2.2.2.2.2.1):=by unfold Su;rw [Ad ⟨c.1,c.2⟩]
 have hqu:(quo q.f.2.2.2.1).length<=3 * q.f.2.2.2.1.length+2:=by
  have:=V4 q.f.2.2.2.1;simp [quo]
  simpa using this
 unfold Gv K7 Me;obtain e | e | e | e | e | e | e | e | e | e:q.f.1=1\/q.f.1=2\/q.f.1=3\/q.f.1=4\/q.f.1=5\/q.f.1=6\/q.f.1=7\/q.f.1=8\/q.f.1=9\/q.f.1=10:=by omega
 ·have:=f1 e;simp only [tb,e,if_true];rw [Ad ⟨by omega,by omega⟩];exact⟨Z,Z⟩
 ·have:=f2 e;simp only [tb,e,QxK,if_true,if_false]
  constructor
  ·unfold Sv;rw [Ad ⟨by omega,by omega⟩,Qq6,Ad (by simp [-Qq9];omega),Ad (by simp [-Qq9];omega)]
  ·rw [Ad ⟨by omega,by omega⟩];exact Aan hw' hwn U
 ·have:=f3 e;simp only [tb,e,QxK,if_true,if_false];rw [j,RU a];simp only [Qq6]
  constructor
  all_goals (rw [Ad ⟨by omega,by omega⟩,Ad (by simp [-Qq9];omega),Ad (by simp [-Qq9];omega),Ad (by simp [-Qq9];omega),Ad ⟨by omega,by omega⟩,Ad (by simp [-Qq9];omega)];rfl)
 ·simp only [tb,e,QxK,if_true,if_false];rw [WW U,WV U];exact⟨Z,Z⟩
 ·simp only [tb,e,QxK,if_true,if_false];rw [Ad (by simp [-Qq9];omega)];exact⟨Z,Z⟩
 ·simp only [tb,e,QxK,if_true,if_false];rw [j,k,RU a,RU c];simp only [Qq6]
  constructor
  all_goals (rw [Ad (by simp [-Qq9];omega),Ad (by simp [-Qq9];omega),Ad (by simp [-Qq9];omega),Ad (by simp [-Qq9];omega),Ad (by simp [-Qq9];omega)])
 ·simp only [tb,e,QxK,if_true,if_false];rw [WW U,WV U];simp only [Qq6]
  constructor
  all_goals (rw [Ad (by simp [-Qq9];omega),Ad (by simp [-Qq9];omega),Ad (by simp [-Qq9];omega)])
 ·simp only [e,QxK,if_true,if_false];rw [(g e).1,(g e).2];exact⟨Z,Z⟩
 ·simp only [e,QxK,if_true,if_false];rw [(i e).1,(i e).2];exact⟨Z,Z⟩
 ·simp only [tb,e,QxK,if_true,if_false,Qzu] at ht ⊢;rw [(d e).1,(d e).2];simp only [Qq6];rw [Ad U];exact⟨Z,Z⟩
theorem Ags{l:List Qv}{g:Qv->Nat}{s:Qv}(h:s∈l):g s<=(l.map g).sum:=by
 induction l with
 | nil=>cases h
 | cons a l ih=>
  rw [Qzd,List.sum_cons]
  rcases Qzy.1 h with rfl | h
  ·omega
  ·have:=ih h;omega
theorem Ahu:∀ (d:Nat) (q:Qv),Sq q->Vq d q->nq d q<=200->∀ n,2 * d<=n->(BL n).1 q=some (tx d q)/\(D3 n).1 q=some (tx d q)
 | 0,_,_,h,_,_,_=>h.elim
 | d+1,q,hq,hv,hc,n,hn=>by
  obtain⟨n,rfl⟩:∃ m,n=m+2:=⟨n - 2,by omega⟩;have hlen:=Aal (d+1) q hq hv;have hsl:=hq.open.2.2.2.1
  have hsum:∀ s∈q.f.2.2.2.2.2.2,nq d s<=200:=fun s hs=>by
   have:nq d s<=(q.f.2.2.2.2.2.2.map (nq d)).sum:=Ags hs;unfold nq at hc;omega
  have ih:∀ s∈q.f.2.2.2.2.2.2,(BL n).1 s=some (tx d s)/\(D3 n).1 s=some (tx d s):=fun s hs=>Ahu d s (hq.sub hs) (hv.2 s hs) (hsum s hs) n U
  have hgl:∀ s∈q.f.2.2.2.2.2.2,(tx d s).length<=1000000:=fun s hs=>by
   have:=Aal d s (hq.sub hs) (hv.2 s hs);have:=hsum s hs;omega
  have a:∀ s∈q.f.2.2.2.2.2.2,1<=s.f.1:=fun s hs=>by
   have:=hv.2 s hs
   cases d with
   | zero=>exact this.elim
   | succ d=>exact(Ri this.1).1.1
  have ht:(tb (tx d) q).length<=1000000:=by
   show(tx (d+1) q).length<=_
   omega
  have hT:∀ sep ks,ks.length<=1000->(Lib.join (q.f.2.2.2.2.2.2.map (par (tx d) ks)) sep).length<=1000000->(BL (n+1)).2 q.f.2.2.2.2.2.2 sep ks=some (Lib.join (q.f.2.2.2.2.2.2.map (par (tx d) ks)) sep):=fun sep ks hk hj=>Aeo (f2:=(BL n).2) U hk (fun s hs=>(ih s hs).1) hgl hj
  have hB:∀ sep ks b c,(∀ s∈q.f.2.2.2.2.2.2,(s.f.1=b\/s.f.1=c)↔s.f.1∈ks)->sep.length<=10->(Lib.join (q.f.2.2.2.2.2.2.map (par (tx d) ks)) sep).length<=1000000->(D3 (n+1)).2 q.f.2.2.2.2.2.2 sep b c=some (Lib.join (q.f.2.2.2.2.2.2.map (par (tx d) ks)) sep):=
   fun sep ks b c hk hs hj=>Aam (f2:=(D3 n).2) U hk (fun s hs=>(ih s hs).2) hgl hs hj
  refine Agr (s1:=(BL (n+1)).1) (r1:=(D3 (n+1)).1) hq hv.1 ht (fun e=>?_) (fun e=>?_) (fun e=>?_)
  ·simp only [tb,e,QxK,if_true,if_false] at ht ⊢;exact⟨hT _ _ Qqd ht,hB _ [9] _ _ (fun s hs=>by have:=a s hs;simp;omega) Qqd ht⟩
  ·simp only [tb,e,QxK,if_true,if_false] at ht ⊢;exact⟨hT _ _ Qqd ht,hB _ [] _ _ (fun s hs=>by have:=a s hs;simp;omega) Qqd ht⟩
  ·simp only [tb,e,QxK,if_true,if_false,Qzu] at ht;exact⟨hT _ _ Qqd U,hB _ [8,9] _ _ (fun s hs=>by simp) Qqd U⟩
def qfl(q:Qv):Int×Int:=if(ck 1000 q 0 1).2.1=0 then(if 200<(tx 8 q).length then(14,-1) else(0,0)) else(ck 1000 q 0 1).2
theorem Aao{q:Qv}(h:(ck 1000 q 0 1).2.1=0):Vq 8 q/\nq 8 q<=40:=by
 obtain⟨a,h2,h3⟩:=Aht 1000 q 0 1 U U 8 U h;exact⟨h3,by omega⟩
theorem Aep{q:Qv}(hq:Sq q):Hu q=some (if(qfl q).1=0 then tx 8 q else[],qfl q):=by
 unfold Hu LR qfl;obtain⟨a,_,h3⟩:=Ahs 1000 q 0 1 hq U U U U;rw [a,Qq6]
 by_cases h:(ck 1000 q 0 1).2.1=0
 ·obtain⟨hv,hc⟩:=Aao h;rw [if_pos (by rw [h3.2 h];exact⟨Z,Z⟩),if_pos h];unfold Oi;rw [(Ahu 8 q hq hv U 1000 U).1,Qq6]
  by_cases hl:200<(tx 8 q).length
  ·rw [if_pos U,if_pos hl]
   rfl
  ·rw [if_neg U,if_neg hl]
   rfl
 ·rw [if_neg (fun e=>h e.1),if_neg h,if_neg h]
theorem YZ{q:Qv}(hq:Sq q):FW q=some (qfl q):=by
 unfold FW;rw [Aep hq]
 rfl
theorem Aeq{q:Qv}(h:(qfl q).1=0):Vq 8 q/\nq 8 q<=40/\(tx 8 q).length<=200/\qfl q=(0,0):=by
 unfold qfl at h ⊢
 by_cases a:(ck 1000 q 0 1).2.1=0
 ·rw [if_pos a] at h ⊢
  by_cases h2:200<(tx 8 q).length
  ·rw [if_pos h2] at h
   cases h
  ·rw [if_neg h2];exact⟨(Aao a).1,(Aao a).2,by omega,Z⟩
 ·rw [if_neg a] at h;exact absurd h a
end Go.Proofs.YtekmbcbgknmhiaaGreatDoor
end
noncomputable section
namespace Go.L
open Go
def I9(f:Qv->Nat->Bool):Nat->Qv->Nat->Bool
 | 0,_,_=>false
 | d+1,q,i=>if q.f.1<8 then f q i else if q.f.1=10 then !I9 f d (q.f.2.2.2.2.2.2.getD 0 Qq2) i else if q.f.1=8 then q.f.2.2.2.2.2.2.all fun s=>I9 f d s i else q.f.2.2.2.2.2.2.any fun s=>I9 f d s i
theorem Aer(f:Qv->Nat->Bool)(d:Nat)(q:Qv)(i:Nat):I9 f (d+1) q i=if q.f.1<8 then f q i else if q.f.1=10 then !I9 f d (q.f.2.2.2.2.2.2.getD 0 Qq2) i else if q.f.1=8 then q.f.2.2.2.2.2.2.all fun s=>I9 f d s i else q.f.2.2.2.2.2.2.any fun s=>I9 f d s i:=Z
def L4(n:Nat)(f:Nat->Bool):List Bool:=(Qzv n).map f
theorem N3(n:Nat)(f:Nat->Bool):(L4 n f).length=n:=by simp [L4]
theorem U2{n:Nat}{f:Nat->Bool}{i:Nat}(h:i<n):(L4 n f).getD i Qq2=f i:=by
 unfold L4;rw [Qq9,Qxv,QkD h]
 rfl
theorem Mg{n:Nat}{f g:Nat->Bool}(h:∀ i,i<n->f i=g i):L4 n f=L4 n g:=List.map_congr_left fun i hi=>h i (List.mem_range.1 hi)
theorem XX{n:Nat}{f:Nat->Bool}{i:Nat}{b:Bool}:(L4 n f).set i b=L4 n fun j=>if j=i then b else f j:=by
 unfold L4;apply Qkb;intro j;rw [List.getElem?_set,Qxv,Qxv,Qzk,QxB]
 by_cases hj:j<n
 ·rw [QkD hj]
  by_cases h:i=j
  ·subst h;simp [hj]
  ·simp [h,Ne.symm h]
 ·rw [Qxe (by simpa using hj)]
  by_cases h:i=j
  ·subst h;simp [hj]
  ·simp [h]
end Go.L
namespace Go.Proofs.YtekmbcbgknmhiaaGreatDoor
open Go Go.L
abbrev LIB:Type:=(Int×(List ((List UInt8)×(List (Int×Int)))))×(Int×(List (((List UInt8)×Int×Int×(List UInt8))×(List Int))))×(List (((List Int))×(List Int)×(List Int)))
def Fnd(L:LIB)(f:Qv->Nat->Bool):Prop:=∀ d q,Sq q->Vq (d+1) q->q.f.1<8->∃ items,CZ L q=some items/\items.length<=100000000/\(∀ x∈items,0<=x/\x<(L.2.2.length:Int))/\∀ i,i<L.2.2.length->f q i=decide ((i:Int)∈items)
theorem Aes{f:Qv->Nat->Bool}:∀ (d:Nat) (q:Qv) (i:Nat),Vq d q->I9 f (d+1) q i=I9 f d q i
 | 0,_,_,h=>h.elim
 | d+1,q,i,h=>by
  have ih:∀ s∈q.f.2.2.2.2.2.2,I9 f (d+1) s i=I9 f d s i:=fun s hs=>Aes d s i (h.2 s hs);rw [Aer f (d+1) q i,Aer f d q i]
  by_cases b:q.f.1<8
  ·rw [if_pos b,if_pos b]
  ·rw [if_neg b,if_neg b]
   by_cases a:q.f.1=10
   ·rw [if_pos a,if_pos a]
    have hpos:0<q.f.2.2.2.2.2.2.length:=by
     have:=(OX (Ri h.1).2.1).2.2.2.1 a;omega
    rw [ih _ (Tu hpos)]
   ·rw [if_neg a,if_neg a]
    by_cases h8':q.f.1=8
    ·rw [if_pos h8',if_pos h8',QzD,List.all_eq_true,List.all_eq_true];exact⟨fun h s hs=>by rw [<- ih s hs];exact h s hs,fun h s hs=>by rw [ih s hs];exact h s hs⟩
    ·rw [if_neg h8',if_neg h8',QzD,List.any_eq_true,List.any_eq_true];exact⟨fun⟨s,hs,h⟩=>⟨s,hs,by rw [<- ih s hs];exact h⟩,fun⟨s,hs,h⟩=>⟨s,hs,by rw [ih s hs];exact h⟩⟩
theorem AhW{L:LIB}{items:List Int}(hn:L.2.2.length<=64)(hl:items.length<=100000000)(hi:∀ x∈items,0<=x/\x<(L.2.2.length:Int)):EY L items=some (L4 L.2.2.length fun i=>decide ((i:Int)∈items)):=by
 unfold EY BO;simp only [Qq6];rw [Ad U,Qq8]
 have a:List.replicate L.2.2.length false=L4 L.2.2.length fun i=>decide ((i:Int)∈items.take 0):=by
  unfold L4;apply Qkb;intro j;rw [List.getElem?_replicate,Qxv]
  by_cases hj:j<L.2.2.length
  ·rw [if_pos hj,QkD hj];simp
  ·rw [if_neg hj,Qxe (by simpa using hj)];rfl
 have key:∀ (d k:Nat),k+d=items.length->Gf items (L4 L.2.2.length (fun i=>decide ((i:Int)∈items.take k)),(k:Int))=some (L4 L.2.2.length fun i=>decide ((i:Int)∈items)):=by
  intro d
  induction d with
  | zero=>
   intro k hk;refine AQ (m:=some _) ?_;unfold D1 Ge;simp only;rw [if_neg U,Qxz U]
  | succ d ih=>
   intro k hk;have hkl:k<items.length:=by omega
   have hg:items.getD ((k:Int)).toNat Qq2=items[k]:=by rw [Qq8,Qq9,Qzw hkl];rfl
   have hb:=hi _ (Qxx hkl)
   have e:D1 items (L4 L.2.2.length (fun i=>decide ((i:Int)∈items.take k)),(k:Int))=some (.inl (L4 L.2.2.length (fun i=>decide ((i:Int)∈items.take (k+1))),((k+1:Nat):Int))):=by
    unfold D1;simp only;rw [if_pos U,Ad U,hg,Ad (by rw [N3];exact hb),Ad (by unfold Bw;omega),XX]
    have:(L4 L.2.2.length fun j=>if j=items[k].toNat then true else decide ((j:Int)∈items.take k))=L4 L.2.2.length fun i=>decide ((i:Int)∈items.take (k+1)):=Mg fun j hj=>by
     rw [<- List.take_append_getElem hkl]
     by_cases h:j=items[k].toNat
     ·rw [if_pos h];have:(j:Int)=items[k]:=by omega
      refine(decide_eq_true (Qze.2 (.inr ?_))).symm;rw [this];exact List.mem_singleton_self _
     ·rw [if_neg h];have : ¬ (j:Int)=items[k]:=by omega
      rw [decide_eq_decide,Qze,List.mem_singleton];exact⟨.inl,fun h=>h.resolve_right this⟩
    rw [this]
    rfl
   unfold Gf at ih ⊢;rw [Bg e,ih (k+1) U]
 have:=key items.length 0 U;rw [a];exact this
theorem WY{L:LIB}{f:Qv->Nat->Bool}(hn:L.2.2.length<=64)(hf:Fnd L f):∀ (d:Nat) (q:Qv),Sq q->Vq d q->∀ m,d<=m->Bq m L q=some (L4 L.2.2.length (I9 f d q))
 | 0,_,_,h,_,_=>h.elim
 | d+1,q,hq,hv,m,hm=>by
  obtain⟨m,rfl⟩:∃ k,m=k+1:=⟨m - 1,by omega⟩;obtain⟨hk,hF,_⟩:=Ri hv.1;have ih:∀ s∈q.f.2.2.2.2.2.2,Bq m L s=some (L4 L.2.2.length (I9 f d s)):=fun s hs=>WY hn hf d s (hq.sub hs) (hv.2 s hs) m U
  show CA (Bq m) L q=_
  unfold CA IG;rw [Qq6]
  by_cases t:q.f.1<8
  ·obtain⟨items,l,h2,h3,x⟩:=hf d q hq hv t
   have e:L4 L.2.2.length (I9 f (d+1) q)=L4 L.2.2.length fun i=>decide ((i:Int)∈items):=Mg fun i hi=>by
    rw [I9,if_pos t,x i hi]
   have hs:=AhW hn h2 h3;rw [decide_eq_true U,if_pos Z]
   show Qq4 (CZ L q) (fun y=>Qq4 (EY L y) fun u=>some u)=_
   rw [l,Qq6,hs,e]
   rfl
  ·rw [decide_eq_false U,if_neg Bool.false_ne_true];have hlen:q.f.2.2.2.2.2.2.length<=1048576:=hq.open.2.2.2.1
   have hpos:0<q.f.2.2.2.2.2.2.length:=by
    obtain⟨_,_,_,z,k5⟩:=OX hF
    by_cases c:q.f.1=10
    ·rw [z c];omega
    ·have:=k5 U;omega
   have v:q.f.2.2.2.2.2.2.getD 0 Qq2∈q.f.2.2.2.2.2.2:=Tu hpos;rw [Ad U]
   show Qq4 (Bq m L (q.f.2.2.2.2.2.2.getD 0 Qq2)) _=_
   rw [ih _ v,Qq6]
   by_cases c:q.f.1=10
   ·rw [if_pos c];have l:=(OX hF).2.2.2.1 c
    have key:∀ (k i:Nat),i+k=L.2.2.length->D9 L q (Bq m) (L4 L.2.2.length (I9 f d (q.f.2.2.2.2.2.2.getD 0 Qq2))) (L4 L.2.2.length (fun j=>if j<i then !I9 f d (q.f.2.2.2.2.2.2.getD 0 Qq2) j else I9 f d (q.f.2.2.2.2.2.2.getD 0 Qq2) j),(i:Int))=some (L4 L.2.2.length (I9 f (d+1) q)):=by
     intro k
     induction k with
     | zero=>
      intro i hi;refine AQ (m:=some _) ?_;unfold BZ;simp only;rw [N3,if_neg U];unfold Cf;rw [Ad U];unfold CE
      have:Go.L.run (BH L q (Bq m)) (L4 L.2.2.length (fun j=>if j<i then !I9 f d (q.f.2.2.2.2.2.2.getD 0 Qq2) j else I9 f d (q.f.2.2.2.2.2.2.getD 0 Qq2) j),0)=some (L4 L.2.2.length (I9 f (d+1) q)):=by
       refine AQ (m:=some _) ?_;unfold BH CC;simp only;rw [if_neg (by rw [QzJ];show ¬ (0:Int)<((q.f.2.2.2.2.2.2.length - 1:Nat):Int);omega)]
       have e:L4 L.2.2.length (fun j=>if j<i then !I9 f d (q.f.2.2.2.2.2.2.getD 0 Qq2) j else I9 f d (q.f.2.2.2.2.2.2.getD 0 Qq2) j)=L4 L.2.2.length (I9 f (d+1) q):=Mg fun j hj=>by
        rw [if_pos U,I9,if_neg t,if_pos c]
       rw [e]
      rw [this]
     | succ k ihk=>
      intro i hi
      have e:BZ L q (Bq m) (L4 L.2.2.length (I9 f d (q.f.2.2.2.2.2.2.getD 0 Qq2))) (L4 L.2.2.length (fun j=>if j<i then !I9 f d (q.f.2.2.2.2.2.2.getD 0 Qq2) j else I9 f d (q.f.2.2.2.2.2.2.getD 0 Qq2) j),(i:Int))=some (.inl (L4 L.2.2.length (fun j=>if j<i+1 then !I9 f d (q.f.2.2.2.2.2.2.getD 0 Qq2) j else I9 f d (q.f.2.2.2.2.2.2.getD 0 Qq2) j),((i+1:Nat):Int))):=by
       unfold BZ;simp only;rw [N3,N3,if_pos U,Ad U,Ad U,Ad (by unfold Bw;omega),Qq8,U2 U,if_neg U,XX]
       have:(L4 L.2.2.length fun j=>if j=i then !I9 f d (q.f.2.2.2.2.2.2.getD 0 Qq2) i else if j<i then !I9 f d (q.f.2.2.2.2.2.2.getD 0 Qq2) j else I9 f d (q.f.2.2.2.2.2.2.getD 0 Qq2) j)=L4 L.2.2.length fun j=>if j<i+1 then !I9 f d (q.f.2.2.2.2.2.2.getD 0 Qq2) j else I9 f d (q.f.2.2.2.2.2.2.getD 0 Qq2) j:=Mg fun j hj=>by
        by_cases h:j=i
        ·subst h;rw [if_pos (show j=j from Z),if_pos (show j<j+1 by omega)]
        ·rw [if_neg h]
         by_cases h2:j<i
         ·rw [if_pos h2,if_pos (show j<i+1 by omega)]
         ·rw [if_neg h2,if_neg (show ¬ j<i+1 by omega)]
       rw [this]
       rfl
      unfold D9 at ihk ⊢;rw [Bg e,ihk (i+1) U]
    have:=key L.2.2.length 0 U;have o:L4 L.2.2.length (fun j=>if j<0 then !I9 f d (q.f.2.2.2.2.2.2.getD 0 Qq2) j else I9 f d (q.f.2.2.2.2.2.2.getD 0 Qq2) j)=L4 L.2.2.length (I9 f d (q.f.2.2.2.2.2.2.getD 0 Qq2)):=Mg fun j hj=>by rw [if_neg U]
    rw [o] at this;exact this
   ·rw [if_neg c];unfold Cf;rw [Ad U]
    -- what has been joined so far
    have one:∀ (s:Qv) (g:Nat->Bool) (k:Int),∀ (n i:Nat),i+n=L.2.2.length->D8 q k (L4 L.2.2.length (I9 f d s)) (L4 L.2.2.length (fun j=>if j<i then(if q.f.1=8 then g j&&I9 f d s j else g j||I9 f d s j) else g j),(i:Int)) =
      CD k (L4 L.2.2.length fun j=>if q.f.1=8 then g j&&I9 f d s j else g j||I9 f d s j):=by
     intro s g k n
     induction n with
     | zero=>
      intro i hi;refine AQ ?_;unfold BY;simp only;rw [N3,if_neg U];have e:L4 L.2.2.length (fun j=>if j<i then(if q.f.1=8 then g j&&I9 f d s j else g j||I9 f d s j) else g j)=L4 L.2.2.length fun j=>if q.f.1=8 then g j&&I9 f d s j else g j||I9 f d s j:=Mg fun j hj=>by rw [if_pos U]
      rw [e]
     | succ n ihn=>
      intro i hi
      have e:BY q k (L4 L.2.2.length (I9 f d s)) (L4 L.2.2.length (fun j=>if j<i then(if q.f.1=8 then g j&&I9 f d s j else g j||I9 f d s j) else g j),(i:Int))=some (.inl (L4 L.2.2.length (fun j=>if j<i+1 then(if q.f.1=8 then g j&&I9 f d s j else g j||I9 f d s j) else g j),((i+1:Nat):Int))):=by
       have st:∀ b:Bool,b=(if q.f.1=8 then g i&&I9 f d s i else g i||I9 f d s i)->(L4 L.2.2.length (fun j=>if j<i then(if q.f.1=8 then g j&&I9 f d s j else g j||I9 f d s j) else g j)).set i b=L4 L.2.2.length (fun j=>if j<i+1 then(if q.f.1=8 then g j&&I9 f d s j else g j||I9 f d s j) else g j):=fun b hb=>by
        rw [XX];refine Mg fun j hj=>?_
        by_cases h:j=i
        ·subst h;rw [if_pos (show j=j from Z),if_pos (show j<j+1 by omega),hb]
        ·rw [if_neg h]
         by_cases h2:j<i
         ·rw [if_pos h2,if_pos (show j<i+1 by omega)]
         ·rw [if_neg h2,if_neg (show ¬ j<i+1 by omega)]
       unfold BY;simp only;rw [N3,N3,if_pos U,Ad U,Qq8,U2 U,U2 U,if_neg (Nat.lt_irrefl i)]
       by_cases h8':q.f.1=8
       ·rw [if_pos h8',Ad U,Ad U,Ad (by unfold Bw;omega),st _ (by rw [if_pos h8'];cases g i <;> rfl)]
        rfl
       ·rw [if_neg h8',Ad U,Ad U,Ad (by unfold Bw;omega),st _ (by rw [if_neg h8'];cases g i <;> rfl)]
        rfl
      unfold D8 at ihn ⊢;rw [Bg e,ihn (i+1) U]
    have all:∀ (n k:Nat),k+n=(q.f.2.2.2.2.2.2.drop 1).length->CE L q (Bq m) (L4 L.2.2.length (fun j=>if q.f.1=8 then(q.f.2.2.2.2.2.2.take (k+1)).all fun s=>I9 f d s j else(q.f.2.2.2.2.2.2.take (k+1)).any fun s=>I9 f d s j),(k:Int))=some (L4 L.2.2.length (I9 f (d+1) q)):=by
     intro n
     induction n with
     | zero=>
      intro k hk;refine AQ (m:=some _) ?_;unfold BH CC;simp only;rw [if_neg (by show ¬ (k:Int)<((q.f.2.2.2.2.2.2.drop 1).length:Int);omega)];rw [QzJ] at hk
      have e:L4 L.2.2.length (fun j=>if q.f.1=8 then(q.f.2.2.2.2.2.2.take (k+1)).all fun s=>I9 f d s j else(q.f.2.2.2.2.2.2.take (k+1)).any fun s=>I9 f d s j)=L4 L.2.2.length (I9 f (d+1) q):=Mg fun j hj=>by
       rw [I9,if_neg t,if_neg c,Qxz U]
      rw [e]
     | succ n ihn=>
      intro k hk;have w:k<(q.f.2.2.2.2.2.2.drop 1).length:=by omega
      have p:k+1<q.f.2.2.2.2.2.2.length:=by rw [QzJ] at w;omega
      have hgs:(q.f.2.2.2.2.2.2.drop (1:Int).toNat).getD ((k:Int)).toNat Qq2=q.f.2.2.2.2.2.2[k+1]:=by
       show(q.f.2.2.2.2.2.2.drop 1).getD ((k:Int)).toNat Qq2=_
       rw [Qq8,Qq9,List.getElem?_drop,Nat.add_comm 1 k,Qzw p]
       rfl
      have e:BH L q (Bq m) (L4 L.2.2.length (fun j=>if q.f.1=8 then(q.f.2.2.2.2.2.2.take (k+1)).all fun s=>I9 f d s j else(q.f.2.2.2.2.2.2.take (k+1)).any fun s=>I9 f d s j),(k:Int))=some (.inl (L4 L.2.2.length (fun j=>if q.f.1=8 then(q.f.2.2.2.2.2.2.take (k+1+1)).all fun s=>I9 f d s j else(q.f.2.2.2.2.2.2.take (k+1+1)).any fun s=>I9 f d s j),((k+1:Nat):Int))):=by
       unfold BH;simp only;rw [if_pos (by show(k:Int)<((q.f.2.2.2.2.2.2.drop 1).length:Int);omega),Ad (by show 0<=(k:Int)/\(k:Int)<((q.f.2.2.2.2.2.2.drop 1).length:Int);omega),hgs]
       show Qq4 (Bq m L q.f.2.2.2.2.2.2[k+1]) _=_
       rw [ih _ (Qxx p),Qq6];have l:=one q.f.2.2.2.2.2.2[k+1] (fun j=>if q.f.1=8 then(q.f.2.2.2.2.2.2.take (k+1)).all fun s=>I9 f d s j else(q.f.2.2.2.2.2.2.take (k+1)).any fun s=>I9 f d s j) (k:Int) L.2.2.length 0 U;have o:∀ (g h:Nat->Bool),L4 L.2.2.length (fun j=>if j<0 then h j else g j)=L4 L.2.2.length g:=fun g h=>Mg fun j hj=>by rw [if_neg U]
       rw [o] at l;refine Eq.trans l ?_;unfold CD;rw [Ad (by unfold Bw;omega)]
       have:(L4 L.2.2.length fun j=>if q.f.1=8 then(if q.f.1=8 then(q.f.2.2.2.2.2.2.take (k+1)).all fun s=>I9 f d s j else(q.f.2.2.2.2.2.2.take (k+1)).any fun s=>I9 f d s j)&&I9 f d q.f.2.2.2.2.2.2[k+1] j else(if q.f.1=8 then(q.f.2.2.2.2.2.2.take (k+1)).all fun s=>I9 f d s j else(q.f.2.2.2.2.2.2.take (k+1)).any fun s=>I9 f d s j)||I9 f d q.f.2.2.2.2.2.2[k+1] j) =
         L4 L.2.2.length (fun j=>if q.f.1=8 then(q.f.2.2.2.2.2.2.take (k+1+1)).all fun s=>I9 f d s j else(q.f.2.2.2.2.2.2.take (k+1+1)).any fun s=>I9 f d s j):=Mg fun j hj=>by
        rw [<- List.take_append_getElem p]
        by_cases h8':q.f.1=8
        ·rw [if_pos h8',if_pos h8',if_pos h8',List.all_append,List.all_cons,List.all_nil,Bool.and_true]
        ·rw [if_neg h8',if_neg h8',if_neg h8',List.any_append,List.any_cons,List.any_nil,Bool.or_false]
       rw [this]
       rfl
      unfold CE at ihn ⊢;rw [Bg e,ihn (k+1) U]
    have:=all (q.f.2.2.2.2.2.2.drop 1).length 0 U
    have o:L4 L.2.2.length (fun j=>if q.f.1=8 then(q.f.2.2.2.2.2.2.take (0+1)).all fun s=>I9 f d s j else(q.f.2.2.2.2.2.2.take (0+1)).any fun s=>I9 f d s j)=L4 L.2.2.length (I9 f d (q.f.2.2.2.2.2.2.getD 0 Qq2)):=Mg fun j hj=>by
     have ht:q.f.2.2.2.2.2.2.take (0+1)=[q.f.2.2.2.2.2.2.getD 0 Qq2]:=by
      cases hl:q.f.2.2.2.2.2.2 with
      | nil=>rw [hl] at hpos;simp at hpos
      | cons a r=>rfl
     rw [ht]
     by_cases h8':q.f.1=8
     ·simp [h8']
     ·simp [h8']
    rw [o] at this;exact this
end Go.Proofs.YtekmbcbgknmhiaaGreatDoor
end
noncomputable section
namespace Go.L
open Go
def SS(n:Nat)(f g:Nat->Bool):List Int:=((Qzv n).filter fun i=>f i&&g i).map fun i:Nat=>(i:Int)
theorem XY(n:Nat)(f g:Nat->Bool):(SS n f g).length<=n:=by
 unfold SS;have:=List.length_filter_le (fun j=>f j&&g j) (Qzv n);rw [QxB] at this;rw [Qzk];omega
theorem Acp{n:Nat}{f f' g:Nat->Bool}(h:∀ i,f i=f' i):SS n f g=SS n f' g:=by rw [funext h]
end Go.L
namespace Go.Proofs.YtekmbcbgknmhiaaGreatDoor
open Go Go.L
theorem Za{n:Nat}{f:Nat->Bool}{vis:List Bool}(hn:n<=64)(hv:vis.length=n):∀ (k i:Nat),i+k=n->Gh vis (L4 n f) (((Qzv i).filter fun j=>f j&&vis.getD j Qq2).map (fun j:Nat=>(j:Int)),(i:Int))=some (SS n f fun j=>vis.getD j Qq2,(0,0))
 | 0,i,h=>by
  obtain rfl:i=n:=by omega
  refine AQ (m:=some _) ?_;unfold D2 Gg;simp only;rw [N3,if_neg U]
  rfl
 | k+1,i,h=>by
  have hr:(Qzv (i+1)).filter (fun j=>f j&&vis.getD j Qq2)=(Qzv i).filter (fun j=>f j&&vis.getD j Qq2)++(if f i&&vis.getD i Qq2 then[i] else[]):=by
   rw [List.range_succ,List.filter_append,List.filter_cons,List.filter_nil]
  have hlen:((Qzv i).filter fun j=>f j&&vis.getD j Qq2).length<=64:=by
   have:=List.length_filter_le (fun j=>f j&&vis.getD j Qq2) (Qzv i);rw [QxB] at this;omega
  have e:D2 vis (L4 n f) (((Qzv i).filter fun j=>f j&&vis.getD j Qq2).map (fun j:Nat=>(j:Int)),(i:Int))=some (.inl (((Qzv (i+1)).filter fun j=>f j&&vis.getD j Qq2).map (fun j:Nat=>(j:Int)),((i+1:Nat):Int))):=by
   unfold D2;simp only;rw [N3,if_pos U,Ad U,Qq8,U2 U,hr]
   by_cases a:f i=true
   ·rw [if_pos a,Ad U]
    by_cases h2:vis.getD i Qq2=true
    ·rw [if_pos h2,Ad (by unfold Go.E.Io;simp only [Qzk,Qzj,Qzf];omega),Ad (by unfold Bw;omega),a,h2];simp
    ·rw [if_neg h2,Ad (by unfold Bw;omega),a];rw [Bool.not_eq_true] at h2;rw [h2];simp
   ·rw [if_neg a,Ad (by unfold Bw;omega)];rw [Bool.not_eq_true] at a;rw [a];simp
  have ih:=Za (f:=f) hn hv k (i+1) U;unfold Gh at ih ⊢;rw [Bg e,ih]
def Wt(n:Nat)(f:Qv->Nat->Bool)(vis:List Bool)(q:Qv):List Int×(Int×Int):=
 if(qfl q).1=0 then(if vis.length=n then(SS n (I9 f 8 q) fun j=>vis.getD j Qq2,(0,0)) else([],(9,-2))) else([],qfl q)
theorem Abr{n:Nat}{f:Qv->Nat->Bool}{vis:List Bool}{q:Qv}:((Wt n f vis q).2.1≠0->(Wt n f vis q).1=[])/\(vis.length≠n->(Wt n f vis q).1=[])/\((Wt n f vis q).2.1=0->(qfl q).1=0/\Wt n f vis q=(SS n (I9 f 8 q) fun j=>vis.getD j Qq2,(0,0))/\vis.length=n):=by
 unfold Wt
 by_cases h:(qfl q).1=0
 ·rw [if_pos h]
  by_cases h2:vis.length=n
  ·rw [if_pos h2];exact⟨fun h=>absurd Z h,fun h=>absurd h2 h,fun _=>⟨h,Z,h2⟩⟩
  ·rw [if_neg h2];refine⟨fun _=>Z,fun _=>Z,fun h=>?_⟩
   cases h
 ·rw [if_neg h];exact⟨fun _=>Z,fun _=>Z,fun h'=>absurd h' h⟩
theorem Abs{L:LIB}{f:Qv->Nat->Bool}(hn:L.2.2.length<=64)(hf:Fnd L f){q:Qv}(hq:Sq q){vis:List Bool}:Cw L q vis=some (Wt L.2.2.length f vis q):=by
 unfold Cw Wt;rw [YZ hq,Qq6]
 by_cases h:(qfl q).1=0
 ·obtain⟨hv,_,_,a⟩:=Aeq h;rw [if_pos (by rw [a];exact⟨Z,Z⟩),if_pos h];unfold BO Cz;simp only [Qq6]
  by_cases hl:vis.length=L.2.2.length
  ·rw [if_pos U,if_pos hl];have hm:Fh L q=some (L4 L.2.2.length (I9 f 8 q)):=WY hn hf 8 q hq hv 1000 U
   show Qq4 (Fh L q) _=_
   rw [hm,Qq6];exact Za hn hl L.2.2.length 0 U
  ·rw [if_neg U,if_neg hl]
 ·rw [if_neg (fun e=>h e.1),if_neg h]
end Go.Proofs.YtekmbcbgknmhiaaGreatDoor
end
noncomputable section
namespace Go.Proofs.YtekmbcbgknmhiaaGreatDoor
open Go Go.L
theorem Sq.mk{k:Int}{ss:List Qv}(hl:ss.length<=1048576)(h:∀ s∈ss,Sq s):Sq (.mk k [] [] [] 0 0 ss):=fun d=>by
 cases d with
 | zero=>exact trivial
 | succ d=>exact⟨by simp [Qf],by simp [Qf],by simp [Qf],hl,by simp [Qf],(show Bw 0 from⟨by decide,by decide⟩),(show Bw 0 from⟨by decide,by decide⟩),fun s hs=>h s hs d⟩
end Go.Proofs.YtekmbcbgknmhiaaGreatDoor
end
noncomputable section
namespace Go.Proofs.YtekmbcbgknmhiaaGreatDoor
open Go Go.E Go.RowKit Go.L
set_option maxHeartbeats 1000000
set_option maxRecDepth 10000
open _root_.Go.Proofs.Tryz
def Hl(a0:Ac3)(a:Int):Option Int:=
 Qq4 (Ez a0 a) (fun b=>some b)
def IP:Option Int:=
 some ((-1))
def IA(a0:Ac3)(a1:Ac3):Nat->Option ((Nat) ⊕ (Int)):=fun a=>
 if a<a0.length then Qq4 (Ez a1 ((Th a0 a).1:Int)) (fun b=>if 0<=b then Qq7 Sum.inr (some ((a:Int))) else some (Sum.inl (a+(Th a0 a).2))) else Qq7 Sum.inr IP
def K8(a0:Ac3)(a1:Ac3)(s:Nat):Option Int:=Go.L.run (IA a0 a1) s
def IQ(a0:Ac3)(a1:Ac3):Option Int:=
 (K8 a0 a1) (0:Nat)
def strings_IndexAny(a0:Ac3)(a1:Ac3):Option Int:=
 if a1=([]:Ac3) then some ((-1)) else(if(a1.length:Int)=1 then AO (0<=(0:Int)/\(0:Int)<(a1.length:Int)) (if 128<=(IntKind.i32.wrap ((a1.getD (0:Int).toNat Qq2).toNat:Int)) then(Hl a0) (65533:Int) else(Hl a0) (IntKind.i32.wrap ((a1.getD (0:Int).toNat Qq2).toNat:Int))) else(if 8<(a0.length:Int) then none else(IQ a0 a1)))
section
variable(w:World)(H:PH)(hH:Le H (hp w)) include hH
theorem Rw{a0 a1:Ac3}{r:Int}(h:strings_IndexAny a0 a1=some r):
  Qqv 167 [Ab5 a0,Ab5 a1] w (fun v w'=>v=No r):=by
 refine A1 55 [(0,(Ab5 a0)),(1,(Ab5 a1))] func167 Z fun hL=>AJ 1 Z<|AD<|Bu 1 Z<|Aj (Nk Z Z)<|Ac<|AP h ?_ ?_<;>intro ad h
 ·refine AJ 1 Z<|Ay<|Ar ?_
  cases h
  refine Am Z ⟨hL.ext,Z⟩
 refine Aw<|As<|AD<|Bu 1 Z<|Aj (IU Z)<|A7 1 Z<|AP h ?_ ?_<;>intro ae h
 ·refine Bu 1 Z<|Az h fun af h=>Aj (NH af)<|Aj (Ld Z)<|A7 1 Z<|Bt Int (fun b=>[(0,(Ab5 a0)),(5,.int .i32 b)]) (fun b wr=>Bb w [] wr/\(Hl a0) b=some r) ?_ ?_
  ·refine AJ 2 Z<|AP h ?_ ?_<;>intro o h
   ·refine Au<|Aq 1 Z<|AL<|A8 _ ⟨hL,h⟩
   refine Aw<|A8 _ ⟨hL,h⟩
  rintro b al ⟨e,h⟩;refine Bu 2 Z<|Ax h fun au q h=>AF e (JT _ _ (Ao e) q) fun av am s ag=>A7 1 Z<|Ay<|Ar ?_
  cases h
  refine Am Z ⟨s.ext,Z⟩
 refine Aw<|As<|Bt Unit (fun(_:Unit)=>[(0,(Ab5 a0)),(1,(Ab5 a1))]) (fun(_:Unit) wr=>Bb w [] wr/\(IQ a0 a1)=some r) ?_ ?_
 ·refine Bu 1 Z<|Aj (IU Z)<|AF hL (AdM _ _ (Ao hL)) fun aw an t ah=>Ac<|AP h ?_ ?_<;>intro u h
  ·refine Ak ?_
   cases h
  refine Aw<|A8 () ⟨t,h⟩
 rintro _ ao ⟨x,h⟩;refine Bt Unit (fun(_:Unit)=>[]) (fun(_:Unit) wr=>Bb w [] wr/\IP=some r) ?_ ?_
 ·refine Bu 1 Z<|YG Z x fun ax m y ai=>Ac<|A3 ?_;obtain⟨f,h⟩:=Ba h;refine B6 (Nat×Nat) (fun⟨a,n⟩=>[(1,(Ab5 a1)),(45,(AaD m))]) (fun⟨a,n⟩ wr=>Bb w [.obj m (.stringIter ⟨(a0).toArray⟩ a)] wr/\HG (IA a0 a1) n a=some r) (fun⟨a,n⟩=>n) ((0:Nat),f) Z ⟨y,h⟩ ?_;rintro⟨a,nn67⟩ ap ⟨g,h⟩;obtain⟨f,ay,rfl,h,c⟩:=AY h;refine Ak<|Abc (l:=a0) (p:=a) 0 Z g Z (fun d=>?_) (fun d=>?_)
  ·have h:=OE d h;intro az j aj;refine A7 1 Z<|AD<|EO<|Aw<|As<|A3<|AJ 4 Z<|Bu 2 Z<|Ax h fun a2 z h=>AF j (JT _ _ (Ao j) z) fun a3 aq k ak=>A7 1 Z<|AP h ?_ ?_<;>intro aa h
   ·refine AJ 2 Z<|Ay<|Av<|BG ?_;have h:=Cg.out h c;refine Av<|Bh ?_
    cases h
    refine Am Z ⟨k.ext,Z⟩
   refine Aw<|A2 ?_;have h:=Cg.again h c;refine AN (_,_) Z ⟨k,h⟩
  have h:=OF d h;refine A7 1 Z<|AD<|Gx<|B4<|AE<|A6 ?_;have h:=Cg.out h c;refine Bi ?_;have ab:=g.AS (i:=0) Z;refine A8 () ⟨ab,h⟩
 rintro _ ar ⟨ac,h⟩;refine AJ 1 Z<|Ay ?_
 cases h
 refine Am Z ⟨ac.ext,Z⟩
def Eo(a0:Ac3)(a1:Ac3):Option Bool:=
 if(a1.length:Int)<=(a0.length:Int) then AO (0<=(a1.length:Int)/\(a1.length:Int)<=(a0.length:Int)) (some (decide ((a0.take (a1.length:Int).toNat)=a1))) else some false
theorem L5{a0 a1:Ac3}{r:Bool}(h:Eo a0 a1=some r):
  Qqv 262 [Ab5 a0,Ab5 a1] w (fun v w'=>v=.bool r):=by
 refine A1 18 [(0,(Ab5 a0)),(1,(Ab5 a1))] func262 Z fun hL=>AJ 1 Z<|Bu 1 Z<|Aj (IU Z)<|Aq 1 Z<|Aj (IU Z)<|Aq 2 Z<|BT 10 h ?_ ?_<;>intro a h
 ·refine Ab a<|Aj (Ai Z)<|Ab a<|Aj (Ai Z)<|Ab a<|Aj (IU Z)<|Ab a<|Az h fun b h=>Aj (Ad4 b)<|Ab a<|Aj (Ai Z)<|Ab a<|Aj (Nk Z Z)<|Aj (AB a Z)<|A7 1 Z<|Ay ?_
  cases h
  refine Am Z ⟨hL.ext,Z⟩
 iterate 6 refine An a ?_
 refine Aj (AM a Z)<|A7 1 Z<|Ay ?_
 cases h
 refine Am Z ⟨hL.ext,Z⟩
def Ep(a0:Ac3)(a1:Ac3):Option (Ac3×Bool):=
 Qq4 (Eo a0 a1) (fun a=>if !a then some (a0,false) else AO (0<=(a1.length:Int)/\(a1.length:Int)<=(a0.length:Int)) (some ((a0.drop (a1.length:Int).toNat),true)))
theorem L6{a0 a1:Ac3}{r:Ac3×Bool}(h:Ep a0 a1=some r):
  Qqv 215 [Ab5 a0,Ab5 a1] w (fun v w'=>v=.tuple #[Ab5 r.1,.bool r.2]):=by
 refine A1 15 [(0,(Ab5 a0)),(1,(Ab5 a1))] func215 Z fun hL=>AJ 2 Z<|AD<|Bu 2 Z<|Ax h fun g b h=>AF hL (L5 _ _ (Ao hL) b) fun i f a e=>A7 1 Z<|B3 h ?_ ?_<;>intro c h
 ·refine AJ 3 Z<|Ay<|Ar ?_
  cases h
  refine Am Z ⟨a.ext,Z⟩
 refine Aw<|As<|Bu 2 Z<|Aj (IU Z)<|Az h fun d h=>Aj (ZT d)<|A7 2 Z<|Ay ?_
 cases h
 refine Am Z ⟨a.ext,Z⟩
def JI(a0:Ac3)(a1:Ac3):Option (Ac3×Bool):=
 Qq4 (Ep a0 a1) (fun a=>some (a.1,a.2))
theorem QG{a0 a1:Ac3}{r:Ac3×Bool}(h:JI a0 a1=some r):
  Qqv 165 [Ab5 a0,Ab5 a1] w (fun v w'=>v=.tuple #[Ab5 r.1,.bool r.2]):=by
 refine A1 11 [(0,(Ab5 a0)),(1,(Ab5 a1))] func165 Z fun hL=>AJ 2 Z<|Bu 2 Z<|Ax h fun e a h=>AF hL (L6 _ _ (Ao hL) a) fun f d b c=>A7 4 Z<|Ay ?_
 cases h
 refine Am Z ⟨b.ext,Z⟩
end
end Go.Proofs.YtekmbcbgknmhiaaGreatDoor
end
noncomputable section
namespace Go.Proofs.YtekmbcbgknmhiaaGreatDoor
open Go Go.E Go.RowKit Go.Shelf
def SB(s c:List UInt8):Option Int:=if 8<s.length\/c.length=1 then Go.L.AO (s.length<4294967281/\1<=c.length/\c.length<4294967281/\∀ b∈c,b.toNat<128) (some (Lib.indexAny s c)) else strings_IndexAny s c
section
variable(w:World)(H:PH)(hH:Le H (hp w)) include hH
theorem Acq{a0 a1:List UInt8}{r:Int}(h:SB a0 a1=some r):Ok Tryz.prog 167 [.string ⟨a0.toArray⟩,.string ⟨a1.toArray⟩] w (fun v w'=>Ext w w'/\v=.int .i64 r):=by
 unfold SB at h;have hs:(ByteArray.mk a0.toArray).size=a0.length:=by simp [Qxb]
 have hc:(ByteArray.mk a1.toArray).size=a1.length:=by simp [Qxb]
 split at h
 ·rename_i hor;obtain⟨⟨c,k,d,f⟩,h⟩:=Go.L.G6 h;obtain rfl:=Option.some.inj h
  have hac:∀ (j:Nat) b,(ByteArray.mk a1.toArray).data.toList[j]? = some b->b.toNat<128:=fun j b hj=>f b (by
   have:=List.mem_of_getElem? hj
   simpa using this)
  refine⟨⟨Tryz.f167,_,Tryz.func167,Z,Z⟩,?_⟩
  by_cases g:a1.length=1
  ·refine(Any.strings_IndexAny_one (P:=Tryz.prog) Tryz.AcO ⟨a0.toArray⟩ ⟨a1.toArray⟩ w (by rw [hc];exact g) hac).mono fun e w' he=>?_;obtain⟨rfl,rfl⟩:=he;exact⟨_,Z,Ext.refl _,by simp⟩
  ·have a:(Tryz.prog.info? (Tryz.SU.t 116)).map (fun i=>(i.zero,i.size))=some (some (.agg (Array.replicate 256 (.bool false))),256):=by kernel_rfl
   refine(Any.strings_IndexAny_long (P:=Tryz.prog) Tryz.AcO (zero_of_info a).1 (zero_of_info a).2 ⟨a0.toArray⟩ ⟨a1.toArray⟩ w (by rw [hc];omega) (by rw [hs];omega) (by rw [hs];exact c) (by rw [hc];exact d) hac).mono fun e w' he=>?_;obtain⟨rfl,rfl⟩:=he;exact⟨_,Z,(Dx _ _).trans (Dx _ _),by simp⟩
 ·exact Rw w H hH h
end
end Go.Proofs.YtekmbcbgknmhiaaGreatDoor
end
noncomputable section
namespace Go.Proofs.YtekmbcbgknmhiaaGreatDoor
open Go Go.E Go.RowKit Go.L
set_option maxHeartbeats 1000000
set_option maxRecDepth 10000
open _root_.Go.Proofs.Tryz
def BP(a0:Ac3×Int)(a1:Ac3):Option (Bool×(Ac3×Int)):=
 Qq4 (JI a0.1 a1) (fun a=>if a.2 then some (a.2,(a.1,a0.2)) else some (a.2,(a0.1,a0.2)))
theorem Cd{c w:World}{H:PH}(hH:Le H (hp c))(O:List BS)(a0:Ac3×Int)(a1:Ac3){ba0:Nat}(hL:Bb c (Ha [.box ba0 [Ab5 a0.1,No a0.2] 86] O) w){r:Bool×(Ac3×Int)}(h:BP a0 a1=some r):
  Ok prog 111 [AaD ba0,Ab5 a1] w (fun v w'=>v=.bool r.1/\Bb c (Ha [.box ba0 [Ab5 r.2.1,No r.2.2] 86] O) w'/\Le (fz w (Ha [.box ba0 [Ab5 a0.1,No a0.2] 86] O)) (fz w' (Ha [.box ba0 [Ab5 r.2.1,No r.2.2] 86] O))):=by
 refine Dq (n:=22) [(0,(AaD ba0)),(1,(Ab5 a1))] func111 Z Z Z Z ?_;have hT:=Le.refl (fz w (Ha [.box ba0 [Ab5 a0.1,No a0.2] 86] O));refine AJ 1 Z<|Bu 1 Z<|Aj (MQ Z)<|Aj (Ae Z AjF Z HJ.e)<|Aj (Af 0 Z hL Z)<|Aq 1 Z<|Ax h fun j e h=>AF hL (QG _ _ (Ao hL) e) fun k i b a=>A7 5 Z<|AD<|AJ 1 Z<|B3 h ?_ ?_<;>intro f h
 ·refine Au<|Aq 2 Z<|Aj (MQ Z)<|Aj (Ae Z AjF Z HJ.e)<|B9 0 Z Z b Z Z fun l g d=>AL<|As<|AJ 2 Z<|Ay ?_
  cases h
  refine Am Z ?_;have hT:=hT.trans (a.trans d);exact⟨Z,g,hT⟩
 refine Aw<|As<|AJ 2 Z<|Ay ?_
 cases h
 refine Am Z ?_;have hT:=hT.trans a;exact⟨Z,b,hT⟩
def FL(a1:Int)(y8:Qv×(Ac3×Int))(a:List Qv)(b:Ac3)(c:Int):Option (Option (Qv×(Ac3×Int))):=
 if(a.length:Int)=1 then some (some (y8.1,(b,c))) else some (some ((Qv.mk a1 ([]) ([]:Ac3) ([]) (0:Int) (0:Int) a),(b,c)))
def Fm(a1:Int)(a2:Ac3)(self:(Ac3×Int)->Option (Option (Qv×(Ac3×Int))))(y8:Qv×(Ac3×Int)):(List Qv)×Ac3×Int->Option (((List Qv)×Ac3×Int) ⊕ (Option (Qv×(Ac3×Int)))):=fun⟨b,c,d⟩=>
 Qq4 (BP (c,d) a2) (fun a=>if a.1 then Qq4 (self (a.2.1,a.2.2)) (fun e=>ZG e (Qq7 Sum.inr (some none)) (fun y86=>AO (Go.E.Io 112 (b.length+([y86.1]).length)) (some (Sum.inl ((b++[y86.1]),y86.2.1,y86.2.2))))) else Qq7 Sum.inr ((FL a1 y8) b a.2.1 a.2.2))
def HV(a1:Int)(a2:Ac3)(self:(Ac3×Int)->Option (Option (Qv×(Ac3×Int))))(y8:Qv×(Ac3×Int))(s:(List Qv)×Ac3×Int):Option (Option (Qv×(Ac3×Int))):=Go.L.run (Fm a1 a2 self y8) s
def GV(self:(Ac3×Int)->Option (Option (Qv×(Ac3×Int))))(a0:Ac3×Int)(a1:Int)(a2:Ac3):Option (Option (Qv×(Ac3×Int))):=
 Qq4 (self (a0.1,a0.2)) (fun a=>ZG a (some none) (fun y8=>(HV a1 a2 self y8) ([y8.1],y8.2.1,y8.2.2)))
theorem NU{self:(Ac3×Int)->Option (Option (Qv×(Ac3×Int)))}(hself:∀ {a w:World} {H:PH} (hH:Le H (hp a)) (hU:Gj H) {O:List BS} {a0:Ac3×Int} {ba0:Nat} (hL:Bb a (Ha [.box ba0 [Ab5 a0.1,No a0.2] 86] O) w) {r:Option (Qv×(Ac3×Int))} (h:self a0=some r),W8 prog 70 [AaD ba0] w (.iface 82 (.agg #[])) (fun v w'=>Y9 r v (fun r v=>∃ (u1:Value) (u3:Value) (u6:Value),v=.agg #[No r.1.f.1,u1,Ab5 r.1.f.2.2.1,u3,No r.1.f.2.2.2.2.1,No r.1.f.2.2.2.2.2.1,u6]/\Bb a (Ha [.box ba0 [Ab5 r.2.1,No r.2.2] 86] O) w'/\Le (fz w (Ha [.box ba0 [Ab5 a0.1,No a0.2] 86] O)) (fz w' (Ha [.box ba0 [Ab5 r.2.1,No r.2.2] 86] O))/\AH .st (gz H a w' (Ha [.box ba0 [Ab5 r.2.1,No r.2.2] 86] O)) u1 (r.1.f.2.1)/\AH .byte (gz H a w' (Ha [.box ba0 [Ab5 r.2.1,No r.2.2] 86] O)) u3 (r.1.f.2.2.2.1)/\AH .B1 (gz H a w' (Ha [.box ba0 [Ab5 r.2.1,No r.2.2] 86] O)) u6 (r.1.f.2.2.2.2.2.2)) (Bb a O w'/\Le (fz w (Ha [.box ba0 [Ab5 a0.1,No a0.2] 86] O)) (fz w' O)))){a w:World}{H:PH}(hH:Le H (hp a))(hU:Gj H){O:List BS}{a0:Ac3×Int}{a1:Int}{a2:Ac3}{ba0:Nat}(hL:Bb a (Ha [.box ba0 [Ab5 a0.1,No a0.2] 86] O) w){r:Option (Qv×(Ac3×Int))}(h:GV self a0 a1 a2=some r):
  W8 prog 69 [AaD ba0,No a1,Ab5 a2,.func (.func 70) #[AaD ba0] #[]] w (.iface 82 (.agg #[])) (fun v w'=>Y9 r v (fun r v=>∃ (u1:Value) (u3:Value) (u6:Value),v=.agg #[No r.1.f.1,u1,Ab5 r.1.f.2.2.1,u3,No r.1.f.2.2.2.2.1,No r.1.f.2.2.2.2.2.1,u6]/\Bb a (Ha [.box ba0 [Ab5 r.2.1,No r.2.2] 86] O) w'/\Le (fz w (Ha [.box ba0 [Ab5 a0.1,No a0.2] 86] O)) (fz w' (Ha [.box ba0 [Ab5 r.2.1,No r.2.2] 86] O))/\AH .st (gz H a w' (Ha [.box ba0 [Ab5 r.2.1,No r.2.2] 86] O)) u1 (r.1.f.2.1)/\AH .byte (gz H a w' (Ha [.box ba0 [Ab5 r.2.1,No r.2.2] 86] O)) u3 (r.1.f.2.2.2.1)/\AH .B1 (gz H a w' (Ha [.box ba0 [Ab5 r.2.1,No r.2.2] 86] O)) u6 (r.1.f.2.2.2.2.2.2)) (Bb a O w'/\Le (fz w (Ha [.box ba0 [Ab5 a0.1,No a0.2] 86] O)) (fz w' O))):=by
 refine N7 30 [(0,(AaD ba0)),(1,No a1),(2,(Ab5 a2)),(3,.func (.func 70) #[AaD ba0] #[])] func69 Z Z Z Z Z ?_;have hT:=Le.refl (fz w (Ha [.box ba0 [Ab5 a0.1,No a0.2] 86] O));refine Ak<|AA B8.e Z hL fun w1 b1 bz aw _=>Ac<|Bu 1 Z ?_;have b0:Bb a (Ha [.box ba0 [Ab5 a0.1,No a0.2] 86,.box b1 AcE 26] O) w1:=bz.C0 [1] Z;have ax:=B2 [1] bz b0 Z;refine Ax h fun x3 cn h=>Sl [AaD ba0] [] Z Z (hself (a0:=(a0.1,a0.2)) (O:=(Ha [.box b1 AcE 26] O)) hH hU b0 cn) ?_ ?_
 ·rintro rfl w5 ⟨co,b3⟩;have h:=KD h;refine Fq ?_
  cases h
  refine Nu ?_;have cp:=co.AS (i:=0) Z;have hT:=hT.trans (aw.trans (ax.trans (b3.trans (Al (i:=0) Z))));exact LA ⟨cp,hT⟩
 rintro y8 rfl _ w4 ⟨g,j,k,rfl,cq,bh,s,t,u⟩;have h:=KE h;refine AA B8.e Z cq fun w9 b9 cr ac _=>Ag 0 Z cr Z (a:=(Br Z (Br s.one (Br Z (Br t.one (Br Z (Br Z (Br u.one K9)))))))) fun c2 ay x=>Ac ?_;have p:=ay.rG H;refine Ak<|Aj (A4 0 Z B8.e ay Z) ?_;have s:=s.mono (Aa (ac.trans x));have t:=t.mono (Aa (ac.trans x));have u:=u.mono (Aa (ac.trans x));refine Ow [y8.1] (r:=.B1) (fun _=>Nx _ _ _ _ _ _ _ _) (BJ 1) hH ay (.c7 (Go.E.Rp.H4 ⟨_,_,Z,Z,⟨_,_,Z,⟨_,Z,(s.mono p)⟩,⟨_,_,Z,Z,⟨_,_,Z,⟨_,Z,(t.mono p)⟩,⟨_,_,Z,Z,⟨_,_,Z,Z,⟨_,Z,(u.mono p)⟩⟩⟩⟩⟩⟩⟩) .nil) fun cs c3 b4 b5 ai b6=>A7 1 Z ?_
 refine Bt ((List Qv)×Ac3×Int×Value×(List Value)) (fun⟨am,a6,a7,ad,aa⟩=>[(1,No a1),(8,(AaD b1)),(9,(AaD b9)),(10,ad)]) (fun⟨am,a6,a7,ad,aa⟩ wr=>Fl a (Ha [.row ad 26 7 (am).length aa,.box b9 [No y8.1.f.1,g,Ab5 y8.1.f.2.2.1,j,No y8.1.f.2.2.2.2.1,No y8.1.f.2.2.2.2.2.1,k] 26,.box ba0 [Ab5 a6,No a7] 86,.box b1 AcE 26] O) wr fun Oz=>AI .B1 (gz H a wr Oz) am aa/\AH .st (gz H a wr Oz) g (y8.1.f.2.1)/\AH .byte (gz H a wr Oz) j (y8.1.f.2.2.2.1)/\AH .B1 (gz H a wr Oz) k (y8.1.f.2.2.2.2.2.2)/\Le (fz w (Ha [.box ba0 [Ab5 a0.1,No a0.2] 86] O)) (fz wr Oz)/\(FL a1 y8) am a6 a7=some r) ?_ ?_
 ·refine A3 ?_;obtain⟨bi,h⟩:=Ba h;have hT:=hT.trans (aw.trans (ax.trans (bh.trans (ac.trans (x.trans ai)))));have p:=p.trans (Aa ai)
  refine B6 ((List Qv)×Ac3×Int×Value×(List Value)×Nat) (fun⟨e,ae,af,o,c,n⟩=>[(0,(AaD ba0)),(1,No a1),(2,(Ab5 a2)),(3,.func (.func 70) #[AaD ba0] #[]),(8,(AaD b1)),(9,(AaD b9)),(10,o)]) (fun⟨e,ae,af,o,c,n⟩ wr=>Fl a (Ha [.row o 26 7 (e).length c,.box b9 [No y8.1.f.1,g,Ab5 y8.1.f.2.2.1,j,No y8.1.f.2.2.2.2.1,No y8.1.f.2.2.2.2.2.1,k] 26,.box ba0 [Ab5 ae,No af] 86,.box b1 AcE 26] O) wr fun Oz=>AI .B1 (gz H a wr Oz) e c/\AH .st (gz H a wr Oz) g (y8.1.f.2.1)/\AH .byte (gz H a wr Oz) j (y8.1.f.2.2.2.1)/\AH .B1 (gz H a wr Oz) k (y8.1.f.2.2.2.2.2.2)/\Le (fz w (Ha [.box ba0 [Ab5 a0.1,No a0.2] 86] O)) (fz wr Oz)/\HG (Fm a1 a2 self y8) n (e,ae,af)=some r) (fun⟨e,ae,af,o,c,n⟩=>n) ([y8.1],y8.2.1,y8.2.2,cs,b4,bi) Z ⟨b5,b6,(s.mono p),(t.mono p),(u.mono p),hT,h⟩ ?_;rintro⟨e,ae,af,o,c,nn71⟩ b7 ⟨az,a8,an,ao,ap,hT,h⟩
  obtain⟨bi,c4,rfl,h,a3⟩:=AY h;refine AD ?_;have b:=az.rG H;refine Bu 2 Z ?_;have bj:Bb a (Ha [.box ba0 [Ab5 ae,No af] 86,.row o 26 7 (e).length c,.box b9 [No y8.1.f.1,g,Ab5 y8.1.f.2.2.1,j,No y8.1.f.2.2.2.2.1,No y8.1.f.2.2.2.2.2.1,k] 26,.box b1 AcE 26] O) b7:=az.C0 [2] Z;have y:=B2 [2] az bj Z;refine Ax h fun ag b8 h=>EP (Cd hH ((Ha [.row o 26 7 (e).length c,.box b9 [No y8.1.f.1,g,Ab5 y8.1.f.2.2.1,j,No y8.1.f.2.2.2.2.1,No y8.1.f.2.2.2.2.2.1,k] 26,.box b1 AcE 26] O)) (ae,af) a2 bj b8) ?_;rintro _ ct ⟨rfl,a4,z⟩;refine Ac<|B3 h ?_ ?_<;>intro ca h
  ·refine Aw<|As<|A3<|Au<|Aq 2 Z<|Ax h fun c5 cb h=>Sl [AaD ba0] [] Z Z (hself (a0:=(ag.2.1,ag.2.2)) (O:=(Ha [.row o 26 7 (e).length c,.box b9 [No y8.1.f.1,g,Ab5 y8.1.f.2.2.1,j,No y8.1.f.2.2.2.2.1,No y8.1.f.2.2.2.2.2.1,k] 26,.box b1 AcE 26] O)) hH hU a4 cb) ?_ ?_
   ·rintro rfl c6 ⟨cc,bs⟩;have h:=KD h;refine HH<|R0 ?_;have h:=Cg.out h a3;refine HH<|Po ?_
    cases h
    refine Nu ?_;have cd:=cc.AS (i:=0) Z;have ce:=cd.AS (i:=0) Z;have cf:=ce.AS (i:=0) Z;have hT:=hT.trans (y.trans (z.trans (bs.trans ((Al (i:=0) Z).trans ((Al (i:=0) Z).trans (Al (i:=0) Z))))));exact LA ⟨cf,hT⟩
   rintro y86 rfl _ c8 ⟨cv,cw,cx,rfl,cg,a9,bk,bl,bm⟩;have h:=KE h;refine B7 [y86.1] (r:=.B1) (fun _=>Nx _ _ _ _ _ _ _ _) cg (.c7 (Go.E.Rp.H4 ⟨_,_,Z,Z,⟨_,_,Z,⟨_,Z,bk⟩,⟨_,_,Z,Z,⟨_,_,Z,⟨_,Z,bl⟩,⟨_,_,Z,Z,⟨_,_,Z,Z,⟨_,Z,bm⟩⟩⟩⟩⟩⟩⟩) .nil) fun c9 da cz ch ba ci=>Az h fun cj h=>?_;have b:=b.trans (Aa (y.trans (z.trans (a9.trans ba))));refine By (r:=.B1) 1 e [y86.1] Z Aj6 ch Z (a8.mono b) ci cj fun b2 cu bn bo bb a5=>Aq 1 Z<|AL<|A2 ?_;have bp:Bb a (Ha [.row b2 26 7 ((e++[y86.1])).length bn,.box b9 [No y8.1.f.1,g,Ab5 y8.1.f.2.2.1,j,No y8.1.f.2.2.2.2.1,No y8.1.f.2.2.2.2.2.1,k] 26,.box ba0 [Ab5 y86.2.1,No y86.2.2] 86,.box b1 AcE 26] O) cu:=bo.C0 [2,2] Z;have aj:=B2 [2,2] bo bp Z;have h:=Cg.again h a3;have hT:=hT.trans (y.trans (z.trans (a9.trans (ba.trans (bb.trans aj)))))
   have b:=b.trans (Aa (bb.trans aj));have a5:=a5.mono (Aa aj);refine AN ((e++[y86.1]),y86.2.1,y86.2.2,b2,bn,bi) Z ⟨bp,a5,(an.mono b),(ao.mono b),(ap.mono b),hT,h⟩
  refine B4<|AE<|A6 ?_;have h:=Cg.out h a3;refine Bi ?_;have bq:Bb a (Ha [.row o 26 7 (e).length c,.box b9 [No y8.1.f.1,g,Ab5 y8.1.f.2.2.1,j,No y8.1.f.2.2.2.2.1,No y8.1.f.2.2.2.2.2.1,k] 26,.box ba0 [Ab5 ag.2.1,No ag.2.2] 86,.box b1 AcE 26] O) ct:=a4.C0 [2,2] Z;have bc:=B2 [2,2] a4 bq Z;have b:=b.trans (Aa (y.trans (z.trans bc)));have hT:=hT.trans (y.trans (z.trans bc));refine A8 (_,_,_,_,_) ⟨bq,(a8.mono b),(an.mono b),(ao.mono b),(ap.mono b),hT,h⟩
 have hT:=hT.trans (aw.trans (ax.trans (bh.trans (ac.trans (x.trans ai)))));rintro⟨am,a6,a7,ad,aa⟩ c0 ⟨q,bt,aq,ar,au,hT,h⟩;refine AD ?_;have d:=q.rG H;refine Bu 1 Z<|Aj (Qo 0 Z q Z)<|A7 1 Z<|AP h ?_ ?_<;>intro ck h
 ·refine Ak<|Aj (A4 1 Z B8.e q Z)<|Ag 3 Z q Z (a:=(Br Z (Br (aq.mono d).one (Br Z (Br (ar.mono d).one (Br Z (Br Z (Br (au.mono d).one K9)))))))) fun db br bd=>Ac<|Ay<|Ar ?_
  cases h
  refine Nt<|Dy (.cell Z Ajm Z B8.e (AK (i:=3) br Z)) ?_;have cl:=br.AS (i:=0) Z;have cm:=cl.AS (i:=0) Z;have bu:=cm.AS (i:=1) Z;have d:=d.trans (Aa (bd.trans ((Al (i:=0) Z).trans ((Al (i:=0) Z).trans (Al (i:=1) Z)))));have hT:=hT.trans (bd.trans ((Al (i:=0) Z).trans ((Al (i:=0) Z).trans (Al (i:=1) Z))));exact KF ⟨g,j,k,Z,bu,hT,(aq.mono d),(ar.mono d),(au.mono d)⟩
 refine Aw<|As<|Bu 2 Z<|Aj (AT (fun _=>N8 _ _ (row_one (q.at (i:=0) Z)) _))<|Ag 3 Z q Z (a:=(Br Z (Br Z (Br Z (Br Z (Br Z (Br Z (Br (row_one (q.at (i:=0) Z)) K9)))))))) fun c1 ak av=>Ac<|Ay ?_
 cases h
 refine Nt<|Dy (.cell Z Ajm Z B8.e (AK (i:=3) ak Z)) ?_;have d:=d.trans (Aa av);have al:=ak.Dz hH (i:=0) Z (bt.mono d);have bv:=ak.AS (i:=0) Z;have bw:=bv.AS (i:=0) Z;have bx:=bw.AS (i:=1) Z;have hT:=hT.trans (av.trans ((Al (i:=0) Z).trans ((Al (i:=0) Z).trans (Al (i:=1) Z))));have al:=al.mono (Aa ((Al (i:=0) Z).trans (Al (i:=1) Z)));exact KF ⟨Aa4,Aa4,ad,Z,bx,hT,(AH.nil _ _),(AH.nil _ _),al⟩
def Gi(self:(Ac3×Int)->Option (Option (Qv×(Ac3×Int))))(a0_0:Ac3×Int):Option (Option (Qv×(Ac3×Int))):=
 Qq4 (GV self (a0_0.1,a0_0.2) (8:Int) ([38]:Ac3)) (fun a=>ZG a (some none) (fun y9=>some (some (y9.1,(y9.2.1,y9.2.2)))))
theorem KS{self:(Ac3×Int)->Option (Option (Qv×(Ac3×Int)))}(hself:∀ {a w:World} {H:PH} (hH:Le H (hp a)) (hU:Gj H) {O:List BS} {a0:Ac3×Int} {ba0:Nat} (hL:Bb a (Ha [.box ba0 [Ab5 a0.1,No a0.2] 86] O) w) {r:Option (Qv×(Ac3×Int))} (h:self a0=some r),W8 prog 70 [AaD ba0] w (.iface 82 (.agg #[])) (fun v w'=>Y9 r v (fun r v=>∃ (j:Value) (k:Value) (l:Value),v=.agg #[No r.1.f.1,j,Ab5 r.1.f.2.2.1,k,No r.1.f.2.2.2.2.1,No r.1.f.2.2.2.2.2.1,l]/\Bb a (Ha [.box ba0 [Ab5 r.2.1,No r.2.2] 86] O) w'/\Le (fz w (Ha [.box ba0 [Ab5 a0.1,No a0.2] 86] O)) (fz w' (Ha [.box ba0 [Ab5 r.2.1,No r.2.2] 86] O))/\AH .st (gz H a w' (Ha [.box ba0 [Ab5 r.2.1,No r.2.2] 86] O)) j (r.1.f.2.1)/\AH .byte (gz H a w' (Ha [.box ba0 [Ab5 r.2.1,No r.2.2] 86] O)) k (r.1.f.2.2.2.1)/\AH .B1 (gz H a w' (Ha [.box ba0 [Ab5 r.2.1,No r.2.2] 86] O)) l (r.1.f.2.2.2.2.2.2)) (Bb a O w'/\Le (fz w (Ha [.box ba0 [Ab5 a0.1,No a0.2] 86] O)) (fz w' O)))){a w:World}{H:PH}(hH:Le H (hp a))(hU:Gj H){O:List BS}{a0_0:Ac3×Int}{ba0 ba0_0:Nat}(hL:Bb a (Ha [.box ba0 [AaD ba0_0] 84,.box ba0_0 [Ab5 a0_0.1,No a0_0.2] 86] O) w){r:Option (Qv×(Ac3×Int))}(h:Gi self a0_0=some r):
  W8 prog 68 [AaD ba0] w (.iface 82 (.agg #[])) (fun v w'=>Y9 r v (fun r v=>∃ (j:Value) (k:Value) (l:Value),v=.agg #[No r.1.f.1,j,Ab5 r.1.f.2.2.1,k,No r.1.f.2.2.2.2.1,No r.1.f.2.2.2.2.2.1,l]/\Bb a (Ha [.box ba0 [AaD ba0_0] 84,.box ba0_0 [Ab5 r.2.1,No r.2.2] 86] O) w'/\Le (fz w (Ha [.box ba0 [AaD ba0_0] 84,.box ba0_0 [Ab5 a0_0.1,No a0_0.2] 86] O)) (fz w' (Ha [.box ba0 [AaD ba0_0] 84,.box ba0_0 [Ab5 r.2.1,No r.2.2] 86] O))/\AH .st (gz H a w' (Ha [.box ba0 [AaD ba0_0] 84,.box ba0_0 [Ab5 r.2.1,No r.2.2] 86] O)) j (r.1.f.2.1)/\AH .byte (gz H a w' (Ha [.box ba0 [AaD ba0_0] 84,.box ba0_0 [Ab5 r.2.1,No r.2.2] 86] O)) k (r.1.f.2.2.2.1)/\AH .B1 (gz H a w' (Ha [.box ba0 [AaD ba0_0] 84,.box ba0_0 [Ab5 r.2.1,No r.2.2] 86] O)) l (r.1.f.2.2.2.2.2.2)) (Bb a O w'/\Le (fz w (Ha [.box ba0 [AaD ba0_0] 84,.box ba0_0 [Ab5 a0_0.1,No a0_0.2] 86] O)) (fz w' O))):=by
 refine N7 6 [(0,(AaD ba0))] func68 Z Z Z Z Z ?_;have hT:=Le.refl (fz w (Ha [.box ba0 [AaD ba0_0] 84,.box ba0_0 [Ab5 a0_0.1,No a0_0.2] 86] O));refine Ak<|AA B8.e Z hL fun w1 b1 m o _=>Ac<|Ak ?_
 iterate 2 refine Aj (Af 1 Z m Z) ?_
 refine Aq 1 Z ?_;have u:Bb a (Ha [.box ba0_0 [Ab5 a0_0.1,No a0_0.2] 86,.box b1 AcE 26,.box ba0 [AaD ba0_0] 84] O) w1:=m.C0 [2] Z;have p:=B2 [2] m u Z;refine Ax h fun x3 ad h=>OG (NU (hself:=hself) (a0:=(a0_0.1,a0_0.2)) (a1:=8) (a2:=([38]:Ac3)) (O:=(Ha [.box b1 AcE 26,.box ba0 [AaD ba0_0] 84] O)) hH hU u ad) ?_ ?_
 ·rintro rfl w5 ⟨ae,x⟩;have h:=KD h;refine Fq ?_
  cases h
  refine Nu ?_;have af:=ae.AS (i:=0) Z;have ag:=af.AS (i:=0) Z;have hT:=hT.trans (o.trans (p.trans (x.trans ((Al (i:=0) Z).trans (Al (i:=0) Z)))));exact LA ⟨ag,hT⟩
 rintro y9 rfl _ w4 ⟨y,z,aa,rfl,ah,ab,b,c,d⟩;have h:=KE h;refine Ag 1 Z ah Z (a:=(Br Z (Br b.one (Br Z (Br c.one (Br Z (Br Z (Br d.one K9)))))))) fun ai q e=>Ac<|Ay ?_
 cases h
 refine Nt<|Dy (.cell Z Ajm Z B8.e (AK (i:=1) q Z)) ?_;have s:=q.AS (i:=1) Z;have t:Bb a (Ha [.box ba0 [AaD ba0_0] 84,.box ba0_0 [Ab5 y9.2.1,No y9.2.2] 86] O) ai:=s.C0 [1] Z;have g:=B2 [1] s t Z;have hT:=hT.trans (o.trans (p.trans (ab.trans (e.trans ((Al (i:=1) Z).trans g)))));have b:=b.mono (Aa (e.trans ((Al (i:=1) Z).trans g)));have c:=c.mono (Aa (e.trans ((Al (i:=1) Z).trans g)));have d:=d.mono (Aa (e.trans ((Al (i:=1) Z).trans g)));exact KF ⟨y,z,aa,Z,t,hT,b,c,d⟩
def GW(a1:Int)(y8:Qv×(Ac3×Int))(a:List Qv)(b:Ac3)(c:Int):Option (Option (Qv×(Ac3×Int))):=
 if(a.length:Int)=1 then some (some (y8.1,(b,c))) else some (some ((Qv.mk a1 ([]) ([]:Ac3) ([]) (0:Int) (0:Int) a),(b,c)))
def G4(a1:Int)(a2:Ac3)(self:(Ac3×Int)->Option (Option (Qv×(Ac3×Int))))(y8:Qv×(Ac3×Int)):(List Qv)×Ac3×Int->Option (((List Qv)×Ac3×Int) ⊕ (Option (Qv×(Ac3×Int)))):=fun⟨b,c,d⟩=>
 Qq4 (BP (c,d) a2) (fun a=>if a.1 then Qq4 (Gi self (a.2.1,a.2.2)) (fun e=>ZG e (Qq7 Sum.inr (some none)) (fun y90=>AO (Go.E.Io 112 (b.length+([y90.1]).length)) (some (Sum.inl ((b++[y90.1]),y90.2.1,y90.2.2))))) else Qq7 Sum.inr ((GW a1 y8) b a.2.1 a.2.2))
def Jh(a1:Int)(a2:Ac3)(self:(Ac3×Int)->Option (Option (Qv×(Ac3×Int))))(y8:Qv×(Ac3×Int))(s:(List Qv)×Ac3×Int):Option (Option (Qv×(Ac3×Int))):=Go.L.run (G4 a1 a2 self y8) s
def IB(self:(Ac3×Int)->Option (Option (Qv×(Ac3×Int))))(a0:Ac3×Int)(a1:Int)(a2:Ac3):Option (Option (Qv×(Ac3×Int))):=
 Qq4 (Gi self (a0.1,a0.2)) (fun a=>ZG a (some none) (fun y8=>(Jh a1 a2 self y8) ([y8.1],y8.2.1,y8.2.2)))
theorem OY{self:(Ac3×Int)->Option (Option (Qv×(Ac3×Int)))}(hself:∀ {a w:World} {H:PH} (hH:Le H (hp a)) (hU:Gj H) {O:List BS} {a0:Ac3×Int} {ba0:Nat} (hL:Bb a (Ha [.box ba0 [Ab5 a0.1,No a0.2] 86] O) w) {r:Option (Qv×(Ac3×Int))} (h:self a0=some r),W8 prog 70 [AaD ba0] w (.iface 82 (.agg #[])) (fun v w'=>Y9 r v (fun r v=>∃ (u1:Value) (u3:Value) (u6:Value),v=.agg #[No r.1.f.1,u1,Ab5 r.1.f.2.2.1,u3,No r.1.f.2.2.2.2.1,No r.1.f.2.2.2.2.2.1,u6]/\Bb a (Ha [.box ba0 [Ab5 r.2.1,No r.2.2] 86] O) w'/\Le (fz w (Ha [.box ba0 [Ab5 a0.1,No a0.2] 86] O)) (fz w' (Ha [.box ba0 [Ab5 r.2.1,No r.2.2] 86] O))/\AH .st (gz H a w' (Ha [.box ba0 [Ab5 r.2.1,No r.2.2] 86] O)) u1 (r.1.f.2.1)/\AH .byte (gz H a w' (Ha [.box ba0 [Ab5 r.2.1,No r.2.2] 86] O)) u3 (r.1.f.2.2.2.1)/\AH .B1 (gz H a w' (Ha [.box ba0 [Ab5 r.2.1,No r.2.2] 86] O)) u6 (r.1.f.2.2.2.2.2.2)) (Bb a O w'/\Le (fz w (Ha [.box ba0 [Ab5 a0.1,No a0.2] 86] O)) (fz w' O)))){a w:World}{H:PH}(hH:Le H (hp a))(hU:Gj H){O:List BS}{a0:Ac3×Int}{a1:Int}{a2:Ac3}{ba0 ba3_c0:Nat}(hL:Bb a (Ha [.box ba0 [Ab5 a0.1,No a0.2] 86,.box ba3_c0 [AaD ba0] 84] O) w){r:Option (Qv×(Ac3×Int))}(h:IB self a0 a1 a2=some r):
  W8 prog 69 [AaD ba0,No a1,Ab5 a2,.func (.func 68) #[] #[AaD ba3_c0]] w (.iface 82 (.agg #[])) (fun v w'=>Y9 r v (fun r v=>∃ (u1:Value) (u3:Value) (u6:Value),v=.agg #[No r.1.f.1,u1,Ab5 r.1.f.2.2.1,u3,No r.1.f.2.2.2.2.1,No r.1.f.2.2.2.2.2.1,u6]/\Bb a (Ha [.box ba0 [Ab5 r.2.1,No r.2.2] 86,.box ba3_c0 [AaD ba0] 84] O) w'/\Le (fz w (Ha [.box ba0 [Ab5 a0.1,No a0.2] 86,.box ba3_c0 [AaD ba0] 84] O)) (fz w' (Ha [.box ba0 [Ab5 r.2.1,No r.2.2] 86,.box ba3_c0 [AaD ba0] 84] O))/\AH .st (gz H a w' (Ha [.box ba0 [Ab5 r.2.1,No r.2.2] 86,.box ba3_c0 [AaD ba0] 84] O)) u1 (r.1.f.2.1)/\AH .byte (gz H a w' (Ha [.box ba0 [Ab5 r.2.1,No r.2.2] 86,.box ba3_c0 [AaD ba0] 84] O)) u3 (r.1.f.2.2.2.1)/\AH .B1 (gz H a w' (Ha [.box ba0 [Ab5 r.2.1,No r.2.2] 86,.box ba3_c0 [AaD ba0] 84] O)) u6 (r.1.f.2.2.2.2.2.2)) (Bb a O w'/\Le (fz w (Ha [.box ba0 [Ab5 a0.1,No a0.2] 86,.box ba3_c0 [AaD ba0] 84] O)) (fz w' O))):=by
 refine N7 30 [(0,(AaD ba0)),(1,No a1),(2,(Ab5 a2)),(3,.func (.func 68) #[] #[AaD ba3_c0])] func69 Z Z Z Z Z ?_;have hT:=Le.refl (fz w (Ha [.box ba0 [Ab5 a0.1,No a0.2] 86,.box ba3_c0 [AaD ba0] 84] O));refine Ak<|AA B8.e Z hL fun w1 b1 cd a6 _=>Ac<|Bu 1 Z ?_;have ce:Bb a (Ha [.box ba3_c0 [AaD ba0] 84,.box ba0 [Ab5 a0.1,No a0.2] 86,.box b1 AcE 26] O) w1:=cd.C0 [1,2] Z;have a7:=B2 [1,2] cd ce Z;refine Ax h fun x3 cy h=>Sl [] [AaD ba3_c0] Z Z (KS (hself:=hself) (a0_0:=(a0.1,a0.2)) (O:=(Ha [.box b1 AcE 26] O)) hH hU ce cy) ?_ ?_
 ·rintro rfl w5 ⟨cz,cg⟩;have h:=KD h;refine Fq ?_
  cases h
  refine Nu ?_;have c0:=cz.AS (i:=0) Z;have hT:=hT.trans (a6.trans (a7.trans (cg.trans (Al (i:=0) Z))));exact LA ⟨c0,hT⟩
 rintro y8 rfl _ w4 ⟨d,e,g,rfl,c1,br,t,u,x⟩;have h:=KE h;refine AA B8.e Z c1 fun w9 b9 c2 ae _=>Ag 0 Z c2 Z (a:=(Br Z (Br t.one (Br Z (Br u.one (Br Z (Br Z (Br x.one K9)))))))) fun dc a8 y=>Ac ?_;have p:=a8.rG H;refine Ak<|Aj (A4 0 Z B8.e a8 Z) ?_;have t:=t.mono (Aa (ae.trans y));have u:=u.mono (Aa (ae.trans y));have x:=x.mono (Aa (ae.trans y));refine Ow [y8.1] (r:=.B1) (fun _=>Nx _ _ _ _ _ _ _ _) (BJ 1) hH a8 (.c7 (Go.E.Rp.H4 ⟨_,_,Z,Z,⟨_,_,Z,⟨_,Z,(t.mono p)⟩,⟨_,_,Z,Z,⟨_,_,Z,⟨_,Z,(u.mono p)⟩,⟨_,_,Z,Z,⟨_,_,Z,Z,⟨_,Z,(x.mono p)⟩⟩⟩⟩⟩⟩⟩) .nil) fun c3 dd ch ci ak cj=>A7 1 Z ?_
 refine Bt ((List Qv)×Ac3×Int×Value×(List Value)) (fun⟨aq,ai,aj,af,ac⟩=>[(1,No a1),(8,(AaD b1)),(9,(AaD b9)),(10,af)]) (fun⟨aq,ai,aj,af,ac⟩ wr=>Fl a (Ha [.row af 26 7 (aq).length ac,.box b9 [No y8.1.f.1,d,Ab5 y8.1.f.2.2.1,e,No y8.1.f.2.2.2.2.1,No y8.1.f.2.2.2.2.2.1,g] 26,.box ba3_c0 [AaD ba0] 84,.box ba0 [Ab5 ai,No aj] 86,.box b1 AcE 26] O) wr fun Oz=>AI .B1 (gz H a wr Oz) aq ac/\AH .st (gz H a wr Oz) d (y8.1.f.2.1)/\AH .byte (gz H a wr Oz) e (y8.1.f.2.2.2.1)/\AH .B1 (gz H a wr Oz) g (y8.1.f.2.2.2.2.2.2)/\Le (fz w (Ha [.box ba0 [Ab5 a0.1,No a0.2] 86,.box ba3_c0 [AaD ba0] 84] O)) (fz wr Oz)/\(GW a1 y8) aq ai aj=some r) ?_ ?_
 ·refine A3 ?_;obtain⟨bs,h⟩:=Ba h;have hT:=hT.trans (a6.trans (a7.trans (br.trans (ae.trans (y.trans ak)))));have p:=p.trans (Aa ak)
  refine B6 ((List Qv)×Ac3×Int×Value×(List Value)×Nat) (fun⟨k,ag,ah,j,b,n⟩=>[(0,(AaD ba0)),(1,No a1),(2,(Ab5 a2)),(3,.func (.func 68) #[] #[AaD ba3_c0]),(8,(AaD b1)),(9,(AaD b9)),(10,j)]) (fun⟨k,ag,ah,j,b,n⟩ wr=>Fl a (Ha [.row j 26 7 (k).length b,.box b9 [No y8.1.f.1,d,Ab5 y8.1.f.2.2.1,e,No y8.1.f.2.2.2.2.1,No y8.1.f.2.2.2.2.2.1,g] 26,.box ba3_c0 [AaD ba0] 84,.box ba0 [Ab5 ag,No ah] 86,.box b1 AcE 26] O) wr fun Oz=>AI .B1 (gz H a wr Oz) k b/\AH .st (gz H a wr Oz) d (y8.1.f.2.1)/\AH .byte (gz H a wr Oz) e (y8.1.f.2.2.2.1)/\AH .B1 (gz H a wr Oz) g (y8.1.f.2.2.2.2.2.2)/\Le (fz w (Ha [.box ba0 [Ab5 a0.1,No a0.2] 86,.box ba3_c0 [AaD ba0] 84] O)) (fz wr Oz)/\HG (G4 a1 a2 self y8) n (k,ag,ah)=some r) (fun⟨k,ag,ah,j,b,n⟩=>n) ([y8.1],y8.2.1,y8.2.2,c3,ch,bs) Z ⟨ci,cj,(t.mono p),(u.mono p),(x.mono p),hT,h⟩ ?_
  rintro⟨k,ag,ah,j,b,nn74⟩ ck ⟨a9,bd,ar,au,av,hT,h⟩;obtain⟨bs,de,rfl,h,ba⟩:=AY h;refine AD ?_;have c:=a9.rG H;refine Bu 2 Z ?_;have bt:Bb a (Ha [.box ba0 [Ab5 ag,No ah] 86,.row j 26 7 (k).length b,.box b9 [No y8.1.f.1,d,Ab5 y8.1.f.2.2.1,e,No y8.1.f.2.2.2.2.1,No y8.1.f.2.2.2.2.2.1,g] 26,.box ba3_c0 [AaD ba0] 84,.box b1 AcE 26] O) ck:=a9.C0 [3] Z;have z:=B2 [3] a9 bt Z;refine Ax h fun q cl h=>EP (Cd hH ((Ha [.row j 26 7 (k).length b,.box b9 [No y8.1.f.1,d,Ab5 y8.1.f.2.2.1,e,No y8.1.f.2.2.2.2.1,No y8.1.f.2.2.2.2.2.1,g] 26,.box ba3_c0 [AaD ba0] 84,.box b1 AcE 26] O)) (ag,ah) a2 bt cl) ?_;rintro _ bu ⟨rfl,al,aa⟩;refine Ac<|B3 h ?_ ?_<;>intro cm h
  ·refine Aw<|As<|A3<|Au<|Aq 2 Z ?_;have bv:Bb a (Ha [.box ba3_c0 [AaD ba0] 84,.box ba0 [Ab5 q.2.1,No q.2.2] 86,.row j 26 7 (k).length b,.box b9 [No y8.1.f.1,d,Ab5 y8.1.f.2.2.1,e,No y8.1.f.2.2.2.2.1,No y8.1.f.2.2.2.2.2.1,g] 26,.box b1 AcE 26] O) bu:=al.C0 [3] Z;have am:=B2 [3] al bv Z;refine Ax h fun df cn h=>Sl [] [AaD ba3_c0] Z Z (KS (hself:=hself) (a0_0:=(q.2.1,q.2.2)) (O:=(Ha [.row j 26 7 (k).length b,.box b9 [No y8.1.f.1,d,Ab5 y8.1.f.2.2.1,e,No y8.1.f.2.2.2.2.1,No y8.1.f.2.2.2.2.2.1,g] 26,.box b1 AcE 26] O)) hH hU bv cn) ?_ ?_
   ·rintro rfl dg ⟨co,b5⟩;have h:=KD h;refine HH<|R0 ?_;have h:=Cg.out h ba;refine HH<|Po ?_
    cases h
    refine Nu ?_;have cp:=co.AS (i:=0) Z;have cq:=cp.AS (i:=0) Z;have cr:=cq.AS (i:=0) Z;have hT:=hT.trans (z.trans (aa.trans (am.trans (b5.trans ((Al (i:=0) Z).trans ((Al (i:=0) Z).trans (Al (i:=0) Z)))))));exact LA ⟨cr,hT⟩
   rintro y90 rfl _ dh ⟨c5,c6,c8,rfl,cs,be,bw,bx,bz⟩;have h:=KE h;refine B7 [y90.1] (r:=.B1) (fun _=>Nx _ _ _ _ _ _ _ _) cs (.c7 (Go.E.Rp.H4 ⟨_,_,Z,Z,⟨_,_,Z,⟨_,Z,bw⟩,⟨_,_,Z,Z,⟨_,_,Z,⟨_,Z,bx⟩,⟨_,_,Z,Z,⟨_,_,Z,Z,⟨_,Z,bz⟩⟩⟩⟩⟩⟩⟩) .nil) fun di dj da ct bf cu=>Az h fun cv h=>?_;have c:=c.trans (Aa (z.trans (aa.trans (am.trans (be.trans bf)))));refine By (r:=.B1) 2 k [y90.1] Z Aj6 ct Z (bd.mono c) cu cv fun cf c4 b0 b2 bg bb=>Aq 1 Z<|AL<|A2 ?_;have b3:Bb a (Ha [.row cf 26 7 ((k++[y90.1])).length b0,.box b9 [No y8.1.f.1,d,Ab5 y8.1.f.2.2.1,e,No y8.1.f.2.2.2.2.1,No y8.1.f.2.2.2.2.2.1,g] 26,.box ba3_c0 [AaD ba0] 84,.box ba0 [Ab5 y90.2.1,No y90.2.2] 86,.box b1 AcE 26] O) c4:=b2.C0 [3,3] Z;have an:=B2 [3,3] b2 b3 Z;have h:=Cg.again h ba
   have hT:=hT.trans (z.trans (aa.trans (am.trans (be.trans (bf.trans (bg.trans an))))));have c:=c.trans (Aa (bg.trans an));have bb:=bb.mono (Aa an);refine AN ((k++[y90.1]),y90.2.1,y90.2.2,cf,b0,bs) Z ⟨b3,bb,(ar.mono c),(au.mono c),(av.mono c),hT,h⟩
  refine B4<|AE<|A6 ?_;have h:=Cg.out h ba;refine Bi ?_;have bc:Bb a (Ha [.box b9 [No y8.1.f.1,d,Ab5 y8.1.f.2.2.1,e,No y8.1.f.2.2.2.2.1,No y8.1.f.2.2.2.2.2.1,g] 26,.box ba3_c0 [AaD ba0] 84,.box ba0 [Ab5 q.2.1,No q.2.2] 86,.row j 26 7 (k).length b,.box b1 AcE 26] O) bu:=al.C0 [3,3] Z;have bh:=B2 [3,3] al bc Z;have b4:Bb a (Ha [.row j 26 7 (k).length b,.box b9 [No y8.1.f.1,d,Ab5 y8.1.f.2.2.1,e,No y8.1.f.2.2.2.2.1,No y8.1.f.2.2.2.2.2.1,g] 26,.box ba3_c0 [AaD ba0] 84,.box ba0 [Ab5 q.2.1,No q.2.2] 86,.box b1 AcE 26] O) bu:=bc.C0 [3] Z;have bi:=B2 [3] bc b4 Z;have c:=c.trans (Aa (z.trans (aa.trans (bh.trans bi))));have hT:=hT.trans (z.trans (aa.trans (bh.trans bi)))
  refine A8 (_,_,_,_,_) ⟨b4,(bd.mono c),(ar.mono c),(au.mono c),(av.mono c),hT,h⟩
 have hT:=hT.trans (a6.trans (a7.trans (br.trans (ae.trans (y.trans ak)))));rintro⟨aq,ai,aj,af,ac⟩ db ⟨s,b6,aw,ax,ay,hT,h⟩;refine AD ?_;have o:=s.rG H;refine Bu 1 Z<|Aj (Qo 0 Z s Z)<|A7 1 Z<|AP h ?_ ?_<;>intro b7 h
 ·refine Ak<|Aj (A4 1 Z B8.e s Z)<|Ag 4 Z s Z (a:=(Br Z (Br (aw.mono o).one (Br Z (Br (ax.mono o).one (Br Z (Br Z (Br (ay.mono o).one K9)))))))) fun cw bj az=>Ac<|Ay<|Ar ?_
  cases h
  refine Nt<|Dy (.cell Z Ajm Z B8.e (AK (i:=4) bj Z)) ?_;have b8:=bj.AS (i:=0) Z;have ca:=b8.AS (i:=0) Z;have bk:=ca.AS (i:=2) Z;have bl:Bb a (Ha [.box ba0 [Ab5 ai,No aj] 86,.box ba3_c0 [AaD ba0] 84] O) cw:=bk.C0 [1] Z;have a3:=B2 [1] bk bl Z;have o:=o.trans (Aa (az.trans ((Al (i:=0) Z).trans ((Al (i:=0) Z).trans ((Al (i:=2) Z).trans a3)))));have hT:=hT.trans (az.trans ((Al (i:=0) Z).trans ((Al (i:=0) Z).trans ((Al (i:=2) Z).trans a3))));exact KF ⟨d,e,g,Z,bl,hT,(aw.mono o),(ax.mono o),(ay.mono o)⟩
 refine Aw<|As<|Bu 2 Z<|Aj (AT (fun _=>N8 _ _ (row_one (s.at (i:=0) Z)) _))<|Ag 4 Z s Z (a:=(Br Z (Br Z (Br Z (Br Z (Br Z (Br Z (Br (row_one (s.at (i:=0) Z)) K9)))))))) fun cx ao a4=>Ac<|Ay ?_
 cases h
 refine Nt<|Dy (.cell Z Ajm Z B8.e (AK (i:=4) ao Z)) ?_;have o:=o.trans (Aa a4);have ap:=ao.Dz hH (i:=0) Z (b6.mono o);have cb:=ao.AS (i:=0) Z;have cc:=cb.AS (i:=0) Z;have bm:=cc.AS (i:=2) Z;have bn:Bb a (Ha [.box ba0 [Ab5 ai,No aj] 86,.box ba3_c0 [AaD ba0] 84] O) cx:=bm.C0 [1] Z;have a5:=B2 [1] bm bn Z;have hT:=hT.trans (a4.trans ((Al (i:=0) Z).trans ((Al (i:=0) Z).trans ((Al (i:=2) Z).trans a5))));have ap:=ap.mono (Aa ((Al (i:=0) Z).trans ((Al (i:=2) Z).trans a5)));exact KF ⟨Aa4,Aa4,af,Z,bn,hT,(AH.nil _ _),(AH.nil _ _),ap⟩
def Hm(self:(Ac3×Int)->Option (Option (Qv×(Ac3×Int))))(a0:Ac3×Int):Option (Option (Qv×(Ac3×Int))):=
 Qq4 (IB self (a0.1,a0.2) (9:Int) ([124]:Ac3)) (fun a=>ZG a (some none) (fun y9=>some (some (y9.1,(y9.2.1,y9.2.2)))))
theorem Mh{self:(Ac3×Int)->Option (Option (Qv×(Ac3×Int)))}(hself:∀ {a w:World} {H:PH} (hH:Le H (hp a)) (hU:Gj H) {O:List BS} {a0:Ac3×Int} {ba0:Nat} (hL:Bb a (Ha [.box ba0 [Ab5 a0.1,No a0.2] 86] O) w) {r:Option (Qv×(Ac3×Int))} (h:self a0=some r),W8 prog 70 [AaD ba0] w (.iface 82 (.agg #[])) (fun v w'=>Y9 r v (fun r v=>∃ (g:Value) (j:Value) (k:Value),v=.agg #[No r.1.f.1,g,Ab5 r.1.f.2.2.1,j,No r.1.f.2.2.2.2.1,No r.1.f.2.2.2.2.2.1,k]/\Bb a (Ha [.box ba0 [Ab5 r.2.1,No r.2.2] 86] O) w'/\Le (fz w (Ha [.box ba0 [Ab5 a0.1,No a0.2] 86] O)) (fz w' (Ha [.box ba0 [Ab5 r.2.1,No r.2.2] 86] O))/\AH .st (gz H a w' (Ha [.box ba0 [Ab5 r.2.1,No r.2.2] 86] O)) g (r.1.f.2.1)/\AH .byte (gz H a w' (Ha [.box ba0 [Ab5 r.2.1,No r.2.2] 86] O)) j (r.1.f.2.2.2.1)/\AH .B1 (gz H a w' (Ha [.box ba0 [Ab5 r.2.1,No r.2.2] 86] O)) k (r.1.f.2.2.2.2.2.2)) (Bb a O w'/\Le (fz w (Ha [.box ba0 [Ab5 a0.1,No a0.2] 86] O)) (fz w' O)))){a w:World}{H:PH}(hH:Le H (hp a))(hU:Gj H){O:List BS}{a0:Ac3×Int}{ba0:Nat}(hL:Bb a (Ha [.box ba0 [Ab5 a0.1,No a0.2] 86] O) w){r:Option (Qv×(Ac3×Int))}(h:Hm self a0=some r):
  W8 prog 39 [AaD ba0] w (.iface 82 (.agg #[])) (fun v w'=>Y9 r v (fun r v=>∃ (g:Value) (j:Value) (k:Value),v=.agg #[No r.1.f.1,g,Ab5 r.1.f.2.2.1,j,No r.1.f.2.2.2.2.1,No r.1.f.2.2.2.2.2.1,k]/\Bb a (Ha [.box ba0 [Ab5 r.2.1,No r.2.2] 86] O) w'/\Le (fz w (Ha [.box ba0 [Ab5 a0.1,No a0.2] 86] O)) (fz w' (Ha [.box ba0 [Ab5 r.2.1,No r.2.2] 86] O))/\AH .st (gz H a w' (Ha [.box ba0 [Ab5 r.2.1,No r.2.2] 86] O)) g (r.1.f.2.1)/\AH .byte (gz H a w' (Ha [.box ba0 [Ab5 r.2.1,No r.2.2] 86] O)) j (r.1.f.2.2.2.1)/\AH .B1 (gz H a w' (Ha [.box ba0 [Ab5 r.2.1,No r.2.2] 86] O)) k (r.1.f.2.2.2.2.2.2)) (Bb a O w'/\Le (fz w (Ha [.box ba0 [Ab5 a0.1,No a0.2] 86] O)) (fz w' O))):=by
 refine N7 8 [(0,(AaD ba0))] func39 Z Z Z Z Z ?_;have hT:=Le.refl (fz w (Ha [.box ba0 [Ab5 a0.1,No a0.2] 86] O));refine Ak<|Qs (t:=84) Z Z hL fun w1 b1 ad l _=>AA B8.e Z ad fun w2 b2 m o _=>Ac<|AJ 2 Z<|Ak<|Aj (Af 1 Z m Z)<|Aq 1 Z ?_;have s:Bb a (Ha [.box ba0 [Ab5 a0.1,No a0.2] 86,.box b1 [AaD ba0] 84,.box b2 AcE 26] O) w2:=m.C0 [1,2] Z;have p:=B2 [1,2] m s Z;refine Ax h fun x4 af h=>OG (OY (hself:=hself) (a0:=(a0.1,a0.2)) (a1:=9) (a2:=([124]:Ac3)) (O:=(Ha [.box b2 AcE 26] O)) hH hU s af) ?_ ?_
 ·rintro rfl w6 ⟨ag,u⟩;have h:=KD h;refine Fq ?_
  cases h
  refine Nu ?_;have ah:=ag.AS (i:=0) Z;have hT:=hT.trans (l.trans (o.trans (p.trans (u.trans (Al (i:=0) Z)))));exact LA ⟨ah,hT⟩
 rintro y9 rfl _ w5 ⟨x,y,z,rfl,ai,aa,b,c,d⟩;have h:=KE h;refine Ag 2 Z ai Z (a:=(Br Z (Br b.one (Br Z (Br c.one (Br Z (Br Z (Br d.one K9)))))))) fun al q e=>Ac<|Ay ?_
 cases h
 refine Nt<|Dy (.cell Z Ajm Z B8.e (AK (i:=2) q Z)) ?_;have ab:=q.AS (i:=1) Z;have ac:=ab.AS (i:=1) Z;have hT:=hT.trans (l.trans (o.trans (p.trans (aa.trans (e.trans ((Al (i:=1) Z).trans (Al (i:=1) Z)))))));have b:=b.mono (Aa (e.trans ((Al (i:=1) Z).trans (Al (i:=1) Z))));have c:=c.mono (Aa (e.trans ((Al (i:=1) Z).trans (Al (i:=1) Z))));have d:=d.mono (Aa (e.trans ((Al (i:=1) Z).trans (Al (i:=1) Z))));exact KF ⟨x,y,z,Z,ac,hT,b,c,d⟩
def IC(a0:Ac3×Int)(a1:Ac3):Option (Option ((Ac3×Int))):=
 Qq4 (BP (a0.1,a0.2) a1) (fun a=>if !a.1 then none else some (some ((a.2.1,a.2.2))))
theorem OZ{a w:World}{H:PH}(hH:Le H (hp a)){O:List BS}{a0:Ac3×Int}{a1:Ac3}{ba0:Nat}(hL:Bb a (Ha [.box ba0 [Ab5 a0.1,No a0.2] 86] O) w){r:Option ((Ac3×Int))}(h:IC a0 a1=some r):
  W8 prog 112 [AaD ba0,Ab5 a1] w (.iface 82 (.agg #[])) (fun v w'=>Y9 r v (fun r v=>v=.tuple #[]/\Bb a (Ha [.box ba0 [Ab5 r.1,No r.2] 86] O) w'/\Le (fz w (Ha [.box ba0 [Ab5 a0.1,No a0.2] 86] O)) (fz w' (Ha [.box ba0 [Ab5 r.1,No r.2] 86] O))) (Bb a O w'/\Le (fz w (Ha [.box ba0 [Ab5 a0.1,No a0.2] 86] O)) (fz w' O))):=by
 refine N7 10 [(0,(AaD ba0)),(1,(Ab5 a1))] func112 Z Z Z Z Z ?_;have hT:=Le.refl (fz w (Ha [.box ba0 [Ab5 a0.1,No a0.2] 86] O));refine Bu 2 Z<|Ax h fun f c h=>EP (Cd hH (Ha [] O) (a0.1,a0.2) a1 hL c) ?_;rintro _ g ⟨rfl,d,b⟩;refine A7 1 Z<|B3 h ?_ ?_<;>intro e h
 ·cases h
 refine Aw ?_
 cases h
 refine AfF<|L8 ?_;have hT:=hT.trans b;exact KF ⟨Z,d,hT⟩
def FM(a0:Ac3×Int)(a:Int):Option (Ac3×(Ac3×Int)):=
 AO (0<=a/\a<=(a0.1.length:Int)) (AO (0<=a/\a<=(a0.1.length:Int)) (some ((a0.1.take a.toNat),((a0.1.drop a.toNat),a0.2))))
def IS(a0:Ac3×Int)(a1:Ac3):Option (Ac3×(Ac3×Int)):=
 Qq4 (SB a0.1 a1) (fun a=>if a<0 then(FM a0) (a0.1.length:Int) else(FM a0) a)
theorem PC{e w:World}{H:PH}(hH:Le H (hp e)){O:List BS}{a0:Ac3×Int}{a1:Ac3}{ba0:Nat}(hL:Bb e (Ha [.box ba0 [Ab5 a0.1,No a0.2] 86] O) w){r:Ac3×(Ac3×Int)}(h:IS a0 a1=some r):
  Ok prog 114 [AaD ba0,Ab5 a1] w (fun v w'=>v=(Ab5 r.1)/\Bb e (Ha [.box ba0 [Ab5 r.2.1,No r.2.2] 86] O) w'/\Le (fz w (Ha [.box ba0 [Ab5 a0.1,No a0.2] 86] O)) (fz w' (Ha [.box ba0 [Ab5 r.2.1,No r.2.2] 86] O))):=by
 refine Dq (n:=36) [(0,(AaD ba0)),(1,(Ab5 a1))] func114 Z Z Z Z ?_;have hT:=Le.refl (fz w (Ha [.box ba0 [Ab5 a0.1,No a0.2] 86] O));refine AJ 1 Z<|Bu 1 Z<|Aj (MQ Z)<|Aj (Ae Z AjF Z HJ.e)<|Aj (Af 0 Z hL Z)<|Aq 1 Z<|Ax h fun m l h=>AF hL (Acq _ _ (Ao hL) l) fun s o c b=>A7 1 Z<|Bt Int (fun a=>[(0,(AaD ba0)),(5,No a)]) (fun a wr=>Fl e (Ha [.box ba0 [Ab5 a0.1,No a0.2] 86] O) wr fun Oz=>Le (fz w (Ha [.box ba0 [Ab5 a0.1,No a0.2] 86] O)) (fz wr Oz)/\(FM a0) a=some r) ?_ ?_
 ·refine AJ 2 Z<|AP h ?_ ?_<;>intro g h
  ·refine Au<|Aq 1 Z<|Aj (MQ Z)<|Aj (Ae Z AjF Z HJ.e)<|Aj (Af 0 Z c Z)<|Aj (IU Z)<|Aq 1 Z<|AL ?_;have hT:=hT.trans b;refine A8 _ ⟨c,hT,h⟩
  refine Aw ?_;have hT:=hT.trans b;refine A8 _ ⟨c,hT,h⟩
 have hT:=hT.trans b;rintro a p ⟨d,hT,h⟩;refine Bu 1 Z<|Aj (MQ Z)<|Aj (Ae Z AjF Z HJ.e)<|Aj (Af 0 Z d Z)<|Aq 1 Z<|Az h fun i h=>Aj (Ad4 i)<|A7 1 Z<|Bu 2 Z<|Aj (MQ Z)<|Aj (Ae Z AjF Z HJ.e)<|Aj (Af 0 Z d Z)<|Aq 1 Z<|Az h fun j h=>Aj (ZT j)<|Aj (MQ Z)<|Aj (Ae Z AjF Z HJ.e)<|B9 0 Z Z d Z Z fun q k f=>Ac<|AJ 2 Z<|Ay ?_
 cases h
 refine Am Z ?_;have hT:=hT.trans f;exact⟨Z,k,hT⟩
def FN(self:(Ac3×Int)->Option (Option (Qv×(Ac3×Int))))(a0:Ac3×Int):Option (Option (Qv×(Ac3×Int))):=
 Qq4 (BP (a0.1,a0.2) ([33]:Ac3)) (fun b=>if b.1 then Qq4 (self (b.2.1,b.2.2)) (fun j=>ZG j (some none) (fun y12=>some (some ((Qv.mk (10:Int) ([]) ([]:Ac3) ([]) (0:Int) (0:Int) ([y12.1])),(y12.2.1,y12.2.2))))) else Qq4 (BP (b.2.1,b.2.2) ([40]:Ac3)) (fun a=>if a.1 then Qq4 (Hm self (a.2.1,a.2.2)) (fun h=>ZG h (some none) (fun y26=>Qq4 (IC (y26.2.1,y26.2.2) ([41]:Ac3)) (fun i=>ZG i (some none) (fun y37=>some (some (y26.1,(y37.1,y37.2))))))) else Qq4 (BP (a.2.1,a.2.2) ([34]:Ac3)) (fun c=>if c.1 then none else Qq4 (BP (c.2.1,c.2.2) ([39]:Ac3)) (fun d=>if d.1 then none else Qq4 (BP (d.2.1,d.2.2) ([47]:Ac3)) (fun e=>if e.1 then none else Qq4 (IS (e.2.1,e.2.2) ([126,38,124,41]:Ac3)) (fun f=>Qq4 (BP (f.2.1,f.2.2) ([126]:Ac3)) (fun g=>if !g.1 then some (some ((Qv.mk (1:Int) ([f.1]) ([]:Ac3) ([]) (0:Int) (0:Int) ([])),(g.2.1,g.2.2))) else none)))))))
theorem Oe{self:(Ac3×Int)->Option (Option (Qv×(Ac3×Int)))}(hself:∀ {b w:World} {H:PH} (hH:Le H (hp b)) (hU:Gj H) {O:List BS} {a0:Ac3×Int} {ba0:Nat} (hL:Bb b (Ha [.box ba0 [Ab5 a0.1,No a0.2] 86] O) w) {r:Option (Qv×(Ac3×Int))} (h:self a0=some r),W8 prog 70 [AaD ba0] w (.iface 82 (.agg #[])) (fun v w'=>Y9 r v (fun r v=>∃ (u1:Value) (u3:Value) (u6:Value),v=.agg #[No r.1.f.1,u1,Ab5 r.1.f.2.2.1,u3,No r.1.f.2.2.2.2.1,No r.1.f.2.2.2.2.2.1,u6]/\Bb b (Ha [.box ba0 [Ab5 r.2.1,No r.2.2] 86] O) w'/\Le (fz w (Ha [.box ba0 [Ab5 a0.1,No a0.2] 86] O)) (fz w' (Ha [.box ba0 [Ab5 r.2.1,No r.2.2] 86] O))/\AH .st (gz H b w' (Ha [.box ba0 [Ab5 r.2.1,No r.2.2] 86] O)) u1 (r.1.f.2.1)/\AH .byte (gz H b w' (Ha [.box ba0 [Ab5 r.2.1,No r.2.2] 86] O)) u3 (r.1.f.2.2.2.1)/\AH .B1 (gz H b w' (Ha [.box ba0 [Ab5 r.2.1,No r.2.2] 86] O)) u6 (r.1.f.2.2.2.2.2.2)) (Bb b O w'/\Le (fz w (Ha [.box ba0 [Ab5 a0.1,No a0.2] 86] O)) (fz w' O)))){b w:World}{H:PH}(hH:Le H (hp b))(hU:Gj H){O:List BS}{a0:Ac3×Int}{ba0:Nat}(hL:Bb b (Ha [.box ba0 [Ab5 a0.1,No a0.2] 86] O) w){r:Option (Qv×(Ac3×Int))}(h:FN self a0=some r):
  W8 prog 70 [AaD ba0] w (.iface 82 (.agg #[])) (fun v w'=>Y9 r v (fun r v=>∃ (u1:Value) (u3:Value) (u6:Value),v=.agg #[No r.1.f.1,u1,Ab5 r.1.f.2.2.1,u3,No r.1.f.2.2.2.2.1,No r.1.f.2.2.2.2.2.1,u6]/\Bb b (Ha [.box ba0 [Ab5 r.2.1,No r.2.2] 86] O) w'/\Le (fz w (Ha [.box ba0 [Ab5 a0.1,No a0.2] 86] O)) (fz w' (Ha [.box ba0 [Ab5 r.2.1,No r.2.2] 86] O))/\AH .st (gz H b w' (Ha [.box ba0 [Ab5 r.2.1,No r.2.2] 86] O)) u1 (r.1.f.2.1)/\AH .byte (gz H b w' (Ha [.box ba0 [Ab5 r.2.1,No r.2.2] 86] O)) u3 (r.1.f.2.2.2.1)/\AH .B1 (gz H b w' (Ha [.box ba0 [Ab5 r.2.1,No r.2.2] 86] O)) u6 (r.1.f.2.2.2.2.2.2)) (Bb b O w'/\Le (fz w (Ha [.box ba0 [Ab5 a0.1,No a0.2] 86] O)) (fz w' O))):=by
 refine N7 62 [(0,(AaD ba0))] func70 Z Z Z Z Z ?_;have hT:=Le.refl (fz w (Ha [.box ba0 [Ab5 a0.1,No a0.2] 86] O));refine Ak<|AA B8.e Z hL fun w1 p a8 k _=>Ac<|AD<|A3<|Bu 1 Z ?_;have a9:Bb b (Ha [.box ba0 [Ab5 a0.1,No a0.2] 86,.box p AcE 26] O) w1:=a8.C0 [1] Z;have m:=B2 [1] a8 a9 Z;refine Ax h fun x3 cf h=>EP (Cd hH (Ha [.box p AcE 26] O) (a0.1,a0.2) ([33]:Ac3) a9 cf) ?_;rintro _ w4 ⟨rfl,ba,o⟩;refine A7 1 Z<|B3 h ?_ ?_<;>intro cg h
 ·refine Bu 1 Z<|Ax h fun x7 ch h=>OG (hself (a0:=(x3.2.1,x3.2.2)) (O:=(Ha [.box p AcE 26] O)) hH hU ba ch) ?_ ?_
  ·rintro rfl w9 ⟨ci,bf⟩;have h:=KD h;refine Fq<|HH<|Fq ?_
   cases h
   refine Nu ?_;have bg:=ci.AS (i:=0) Z;have hT:=hT.trans (k.trans (m.trans (o.trans (bf.trans (Al (i:=0) Z)))));exact LA ⟨bg,hT⟩
  rintro y12 rfl _ w8 ⟨co,cp,cq,rfl,cj,bh,au,av,aw⟩;have h:=KE h;refine B7 [y12.1] (r:=.B1) (fun _=>Nx _ _ _ _ _ _ _ _) cj (.c7 (Go.E.Rp.H4 ⟨_,_,Z,Z,⟨_,_,Z,⟨_,Z,au⟩,⟨_,_,Z,Z,⟨_,_,Z,⟨_,Z,av⟩,⟨_,_,Z,Z,⟨_,_,Z,Z,⟨_,Z,aw⟩⟩⟩⟩⟩⟩⟩) .nil) fun ck ct cr bi ax s=>Aj (AT (fun _=>N8 _ _ s.one _))<|Ag 1 Z bi Z (a:=(Br Z (Br Z (Br Z (Br Z (Br Z (Br Z (Br s.one K9)))))))) fun cu ak ab=>Ac<|Ay<|Av<|Ar ?_
  cases h
  refine Nt<|Dy (.cell Z Ajm Z B8.e (AK (i:=1) ak Z)) ?_;have bj:=ak.AS (i:=1) Z;have hT:=hT.trans (k.trans (m.trans (o.trans (bh.trans (ax.trans (ab.trans (Al (i:=1) Z)))))));have s:=s.mono (Aa (ab.trans (Al (i:=1) Z)));exact KF ⟨Aa4,Aa4,ck,Z,bj,hT,(AH.nil _ _),(AH.nil _ _),s⟩
 refine Bu 1 Z<|Ax h fun ac bk h=>EP (Cd hH (Ha [.box p AcE 26] O) (x3.2.1,x3.2.2) ([40]:Ac3) ba bk) ?_;rintro _ cv ⟨rfl,al,q⟩;refine A7 1 Z<|B3 h ?_ ?_<;>intro bl h
 ·refine Bu 1 Z<|Ax h fun cw bm h=>OG (Mh (hself:=hself) (a0:=(ac.2.1,ac.2.2)) (O:=(Ha [.box p AcE 26] O)) hH hU al bm) ?_ ?_
  ·rintro rfl cx ⟨bn,ay⟩;have h:=KD h;refine Fq<|HH<|Fq ?_
   cases h
   refine Nu ?_;have bo:=bn.AS (i:=0) Z;have hT:=hT.trans (k.trans (m.trans (o.trans (q.trans (ay.trans (Al (i:=0) Z))))));exact LA ⟨bo,hT⟩
  rintro y26 rfl _ cy ⟨u,x,y,rfl,bp,ad,c,d,e⟩;have h:=KE h;refine AA B8.e Z bp fun cz bb bq g _=>Ag 0 Z bq Z (a:=(Br Z (Br c.one (Br Z (Br d.one (Br Z (Br Z (Br e.one K9)))))))) fun cl aa j=>Ac ?_;have a:=aa.rG H;refine Bu 1 Z ?_;have am:Bb b (Ha [.box ba0 [Ab5 y26.2.1,No y26.2.2] 86,.box bb [No y26.1.f.1,u,Ab5 y26.1.f.2.2.1,x,No y26.1.f.2.2.2.2.1,No y26.1.f.2.2.2.2.2.1,y] 26,.box p AcE 26] O) cl:=aa.C0 [1] Z;have z:=B2 [1] aa am Z;refine Ax h fun c0 br h=>OG (OZ (a0:=(y26.2.1,y26.2.2)) (a1:=([41]:Ac3)) (O:=(Ha [.box bb [No y26.1.f.1,u,Ab5 y26.1.f.2.2.1,x,No y26.1.f.2.2.2.2.1,No y26.1.f.2.2.2.2.2.1,y] 26,.box p AcE 26] O)) hH am br) ?_ ?_
  ·rintro rfl c2 ⟨bs,az⟩;have h:=KD h;refine Fq<|HH<|Fq ?_
   cases h
   refine Nu ?_;have bt:=bs.AS (i:=0) Z;have bu:=bt.AS (i:=0) Z;have hT:=hT.trans (k.trans (m.trans (o.trans (q.trans (ad.trans (g.trans (j.trans (z.trans (az.trans ((Al (i:=0) Z).trans (Al (i:=0) Z)))))))))));exact LA ⟨bu,hT⟩
  rintro y37 rfl _ c3 ⟨rfl,an,ae⟩;have h:=KE h;refine Ac<|Ak<|Aj (A4 1 Z B8.e an Z) ?_;have c:=c.mono (Aa (g.trans j));have d:=d.mono (Aa (g.trans j));have e:=e.mono (Aa (g.trans j));have a:=a.trans (Aa (z.trans ae));refine Ag 2 Z an Z (a:=(Br Z (Br (c.mono a).one (Br Z (Br (d.mono a).one (Br Z (Br Z (Br (e.mono a).one K9)))))))) fun c4 ao af=>Ac<|Ay<|Av<|Ar ?_
  cases h
  refine Nt<|Dy (.cell Z Ajm Z B8.e (AK (i:=2) ao Z)) ?_;have bv:=ao.AS (i:=1) Z;have bw:=bv.AS (i:=1) Z;have hT:=hT.trans (k.trans (m.trans (o.trans (q.trans (ad.trans (g.trans (j.trans (z.trans (ae.trans (af.trans ((Al (i:=1) Z).trans (Al (i:=1) Z))))))))))));have a:=a.trans (Aa (af.trans ((Al (i:=1) Z).trans (Al (i:=1) Z))));exact KF ⟨u,x,y,Z,bw,hT,(c.mono a),(d.mono a),(e.mono a)⟩
 refine Bu 1 Z<|Ax h fun bc bx h=>EP (Cd hH (Ha [.box p AcE 26] O) (ac.2.1,ac.2.2) ([34]:Ac3) al bx) ?_;rintro _ c5 ⟨rfl,bz,a2⟩;refine A7 1 Z<|B3 h ?_ ?_<;>intro b0 h
 ·cases h
 refine Bu 1 Z<|Ax h fun bd b2 h=>EP (Cd hH (Ha [.box p AcE 26] O) (bc.2.1,bc.2.2) ([39]:Ac3) bz b2) ?_;rintro _ c6 ⟨rfl,b3,a3⟩;refine A7 1 Z<|B3 h ?_ ?_<;>intro b4 h
 ·cases h
 refine Bu 1 Z<|Ax h fun be b5 h=>EP (Cd hH (Ha [.box p AcE 26] O) (bd.2.1,bd.2.2) ([47]:Ac3) b3 b5) ?_;rintro _ c8 ⟨rfl,b6,a4⟩;refine A7 1 Z<|B3 h ?_ ?_<;>intro b7 h
 ·cases h
 refine Aw<|A2<|As<|Bu 1 Z<|Ax h fun ap b8 h=>EP (PC (a0:=(be.2.1,be.2.2)) (a1:=([126,38,124,41]:Ac3)) (O:=(Ha [.box p AcE 26] O)) hH b6 b8) ?_;rintro _ c9 ⟨rfl,b9,a5⟩;refine A7 1 Z<|AD<|Bu 1 Z<|Ax h fun da ca h=>EP (Cd hH (Ha [.box p AcE 26] O) (ap.2.1,ap.2.2) ([126]:Ac3) b9 ca) ?_;rintro _ db ⟨rfl,cb,a6⟩;refine A7 1 Z<|B3 h ?_ ?_<;>intro cc h
 ·refine Bu 1 Z<|B7 [ap.1] (r:=.st) (fun _=>Sp _ Z _) cb (.c1 Z .nil) fun cm dc cs cd a7 t=>Aj (AT (fun _=>WJ _ _ t.one _))<|Ag 1 Z cd Z (a:=(Br Z (Br t.one (AU Z)))) fun dd aq ag=>Ac<|Ay<|Ar ?_
  cases h
  refine Nt<|Dy (.cell Z Ajm Z B8.e (AK (i:=1) aq Z)) ?_;have ce:=aq.AS (i:=1) Z;have hT:=hT.trans (k.trans (m.trans (o.trans (q.trans (a2.trans (a3.trans (a4.trans (a5.trans (a6.trans (a7.trans (ag.trans (Al (i:=1) Z))))))))))));have t:=t.mono (Aa (ag.trans (Al (i:=1) Z)));exact KF ⟨cm,Aa4,Aa4,Z,ce,hT,t,(AH.nil _ _),(AH.nil _ _)⟩
 refine Aw<|As ?_
 cases h
def FR:Nat->(Ac3×Int)->Option (Option (Qv×(Ac3×Int)))
 | 0=>fun _=>none
 | n+1=>FN (FR n)
def JJ:(Ac3×Int)->Option (Option (Qv×(Ac3×Int))):=FR 1000
theorem PD(n:Nat):∀ {a w:World} {H:PH} (hH:Le H (hp a)) (hU:Gj H) {O:List BS} {a0:Ac3×Int} {ba0:Nat} (hL:Bb a (Ha [.box ba0 [Ab5 a0.1,No a0.2] 86] O) w) {r:Option (Qv×(Ac3×Int))} (h:FR n a0=some r),W8 prog 70 [AaD ba0] w (.iface 82 (.agg #[])) (fun v w'=>Y9 r v (fun r v=>∃ (b:Value) (c:Value) (d:Value),v=.agg #[No r.1.f.1,b,Ab5 r.1.f.2.2.1,c,No r.1.f.2.2.2.2.1,No r.1.f.2.2.2.2.2.1,d]/\Bb a (Ha [.box ba0 [Ab5 r.2.1,No r.2.2] 86] O) w'/\Le (fz w (Ha [.box ba0 [Ab5 a0.1,No a0.2] 86] O)) (fz w' (Ha [.box ba0 [Ab5 r.2.1,No r.2.2] 86] O))/\AH .st (gz H a w' (Ha [.box ba0 [Ab5 r.2.1,No r.2.2] 86] O)) b (r.1.f.2.1)/\AH .byte (gz H a w' (Ha [.box ba0 [Ab5 r.2.1,No r.2.2] 86] O)) c (r.1.f.2.2.2.1)/\AH .B1 (gz H a w' (Ha [.box ba0 [Ab5 r.2.1,No r.2.2] 86] O)) d (r.1.f.2.2.2.2.2.2)) (Bb a O w'/\Le (fz w (Ha [.box ba0 [Ab5 a0.1,No a0.2] 86] O)) (fz w' O))):=by
 induction n with
 | zero=>intros;rename_i h;cases h
 | succ n ih=>exact @Oe (FR n) ih
theorem QH:∀ {a w:World} {H:PH} (hH:Le H (hp a)) (hU:Gj H) {O:List BS} {a0:Ac3×Int} {ba0:Nat} (hL:Bb a (Ha [.box ba0 [Ab5 a0.1,No a0.2] 86] O) w) {r:Option (Qv×(Ac3×Int))} (h:JJ a0=some r),W8 prog 70 [AaD ba0] w (.iface 82 (.agg #[])) (fun v w'=>Y9 r v (fun r v=>∃ (b:Value) (c:Value) (d:Value),v=.agg #[No r.1.f.1,b,Ab5 r.1.f.2.2.1,c,No r.1.f.2.2.2.2.1,No r.1.f.2.2.2.2.2.1,d]/\Bb a (Ha [.box ba0 [Ab5 r.2.1,No r.2.2] 86] O) w'/\Le (fz w (Ha [.box ba0 [Ab5 a0.1,No a0.2] 86] O)) (fz w' (Ha [.box ba0 [Ab5 r.2.1,No r.2.2] 86] O))/\AH .st (gz H a w' (Ha [.box ba0 [Ab5 r.2.1,No r.2.2] 86] O)) b (r.1.f.2.1)/\AH .byte (gz H a w' (Ha [.box ba0 [Ab5 r.2.1,No r.2.2] 86] O)) c (r.1.f.2.2.2.1)/\AH .B1 (gz H a w' (Ha [.box ba0 [Ab5 r.2.1,No r.2.2] 86] O)) d (r.1.f.2.2.2.2.2.2)) (Bb a O w'/\Le (fz w (Ha [.box ba0 [Ab5 a0.1,No a0.2] 86] O)) (fz w' O))):=PD 1000
def Jz(_a0:Qv)(_a1:Int×Int):Option (Qv×(Int×Int)):=
 Qq4 (Cz (1:Int) (-1:Int)) (fun a=>some ((Qv.mk (0:Int) ([]) ([]:Ac3) ([]) (0:Int) (0:Int) ([])),(a.1,a.2)))
theorem Qe{a w:World}{H:PH}(hH:Le H (hp a)){O:List BS}{a0:Qv}{a1:Int×Int}{ba0:Nat}{va0_1:Value}{xsa0_1:List Value}{va0_3:Value}{xsa0_3:List Value}{va0_6:Value}{xsa0_6:List Value}{ba1:Nat}(hL:Bb a (Ha [.box ba0 [No a0.f.1,va0_1,Ab5 a0.f.2.2.1,va0_3,No a0.f.2.2.2.2.1,No a0.f.2.2.2.2.2.1,va0_6] 26,.row va0_1 9 1 (a0.f.2.1).length xsa0_1,.row va0_3 5 1 (a0.f.2.2.2.1).length xsa0_3,.row va0_6 26 7 (a0.f.2.2.2.2.2.2).length xsa0_6,.box ba1 [No a1.1,No a1.2] 28] O) w)(_hea0_1:AI .st (gz H a w (Ha [.box ba0 [No a0.f.1,va0_1,Ab5 a0.f.2.2.1,va0_3,No a0.f.2.2.2.2.1,No a0.f.2.2.2.2.2.1,va0_6] 26,.row va0_1 9 1 (a0.f.2.1).length xsa0_1,.row va0_3 5 1 (a0.f.2.2.2.1).length xsa0_3,.row va0_6 26 7 (a0.f.2.2.2.2.2.2).length xsa0_6,.box ba1 [No a1.1,No a1.2] 28] O)) (a0.f.2.1) xsa0_1)(_hea0_3:AI .byte (gz H a w (Ha [.box ba0 [No a0.f.1,va0_1,Ab5 a0.f.2.2.1,va0_3,No a0.f.2.2.2.2.1,No a0.f.2.2.2.2.2.1,va0_6] 26,.row va0_1 9 1 (a0.f.2.1).length xsa0_1,.row va0_3 5 1 (a0.f.2.2.2.1).length xsa0_3,.row va0_6 26 7 (a0.f.2.2.2.2.2.2).length xsa0_6,.box ba1 [No a1.1,No a1.2] 28] O)) (a0.f.2.2.2.1) xsa0_3)(_hea0_6:AI .B1 (gz H a w (Ha [.box ba0 [No a0.f.1,va0_1,Ab5 a0.f.2.2.1,va0_3,No a0.f.2.2.2.2.1,No a0.f.2.2.2.2.2.1,va0_6] 26,.row va0_1 9 1 (a0.f.2.1).length xsa0_1,.row va0_3 5 1 (a0.f.2.2.2.1).length xsa0_3,.row va0_6 26 7 (a0.f.2.2.2.2.2.2).length xsa0_6,.box ba1 [No a1.1,No a1.2] 28] O)) (a0.f.2.2.2.2.2.2) xsa0_6){r:Qv×(Int×Int)}(h:Jz a0 a1=some r):
  OkF prog 38 [AaD ba0,AaD ba1] (.panicking (pch (.iface 82 (.agg #[])))) (.panicking (AbP (.iface 82 (.agg #[])))) w (fun w'=>∃ (b:Value) (c:Value) (d:Value),Bb a (Ha [.box ba0 [No r.1.f.1,b,Ab5 r.1.f.2.2.1,c,No r.1.f.2.2.2.2.1,No r.1.f.2.2.2.2.2.1,d] 26,.box ba1 [No r.2.1,No r.2.2] 28] O) w'/\Le (fz w (Ha [.box ba0 [No a0.f.1,va0_1,Ab5 a0.f.2.2.1,va0_3,No a0.f.2.2.2.2.1,No a0.f.2.2.2.2.2.1,va0_6] 26,.row va0_1 9 1 (a0.f.2.1).length xsa0_1,.row va0_3 5 1 (a0.f.2.2.2.1).length xsa0_3,.row va0_6 26 7 (a0.f.2.2.2.2.2.2).length xsa0_6,.box ba1 [No a1.1,No a1.2] 28] O)) (fz w' (Ha [.box ba0 [No r.1.f.1,b,Ab5 r.1.f.2.2.1,c,No r.1.f.2.2.2.2.1,No r.1.f.2.2.2.2.2.1,d] 26,.box ba1 [No r.2.1,No r.2.2] 28] O))/\AH .st (gz H a w' (Ha [.box ba0 [No r.1.f.1,b,Ab5 r.1.f.2.2.1,c,No r.1.f.2.2.2.2.1,No r.1.f.2.2.2.2.2.1,d] 26,.box ba1 [No r.2.1,No r.2.2] 28] O)) b (r.1.f.2.1)/\AH .byte (gz H a w' (Ha [.box ba0 [No r.1.f.1,b,Ab5 r.1.f.2.2.1,c,No r.1.f.2.2.2.2.1,No r.1.f.2.2.2.2.2.1,d] 26,.box ba1 [No r.2.1,No r.2.2] 28] O)) c (r.1.f.2.2.2.1)/\AH .B1 (gz H a w' (Ha [.box ba0 [No r.1.f.1,b,Ab5 r.1.f.2.2.1,c,No r.1.f.2.2.2.2.1,No r.1.f.2.2.2.2.2.1,d] 26,.box ba1 [No r.2.1,No r.2.2] 28] O)) d (r.1.f.2.2.2.2.2.2)):=by
 refine Td (pv:=.iface 82 (.agg #[])) (k:=16) [(0,(AaD ba0)),(1,(AaD ba1))] func38 Z Z Z Z Z Z Z .yes (Ai Z) ?_;have hT:=Le.refl (fz w (Ha [.box ba0 [No a0.f.1,va0_1,Ab5 a0.f.2.2.1,va0_3,No a0.f.2.2.2.2.1,No a0.f.2.2.2.2.2.1,va0_6] 26,.row va0_1 9 1 (a0.f.2.1).length xsa0_1,.row va0_3 5 1 (a0.f.2.2.2.1).length xsa0_3,.row va0_6 26 7 (a0.f.2.2.2.2.2.2).length xsa0_6,.box ba1 [No a1.1,No a1.2] 28] O));refine Bu 1 Z<|Aj Ahh<|Ac<|EO<|Bu 1 Z<|Aj (AdA Z)<|Aq 3 Z<|AA AfP.e Z hL fun w2 b2 q g _=>Ag 0 Z q Z (a:=K9) fun w3 e j=>A7 1 Z<|AJ 1 Z<|EO<|Au<|Aj (AT (fun _=>X7 _))<|Ax h fun x4 s h=>AF e (Da _ _ (Ao e) s) fun w5 z t l=>Ag 1 Z t Z fun w6 u m=>Ag 5 Z u Z fun w7 v n=>AL ?_
 cases h
 refine L8 ?_;have x:=v.AS (i:=0) Z;have y:=x.AS (i:=1) Z;have o:=y.AS (i:=1) Z;have p:=o.AS (i:=1) Z;have hT:=hT.trans (g.trans (j.trans (l.trans (m.trans (n.trans ((Al (i:=0) Z).trans ((Al (i:=1) Z).trans ((Al (i:=1) Z).trans (Al (i:=1) Z)))))))));exact⟨Aa4,Aa4,Aa4,p,hT,(AH.nil _ _),(AH.nil _ _),(AH.nil _ _)⟩
def Il(_a0:Qv)(_a1:Int×Int):Option (Qv×(Int×Int)):=
 Qq4 (Cz (1:Int) (-1:Int)) (fun a=>some ((Qv.mk (0:Int) ([]) ([]:Ac3) ([]) (0:Int) (0:Int) ([])),(a.1,a.2)))
theorem O8{a w:World}{H:PH}(hH:Le H (hp a)){O:List BS}{a0:Qv}{a1:Int×Int}{ba0:Nat}{va0_1 va0_3 va0_6:Value}{ba1:Nat}(hL:Bb a (Ha [.box ba0 [No a0.f.1,va0_1,Ab5 a0.f.2.2.1,va0_3,No a0.f.2.2.2.2.1,No a0.f.2.2.2.2.2.1,va0_6] 26,.box ba1 [No a1.1,No a1.2] 28] O) w)(_ha0_1:AH .st (gz H a w (Ha [.box ba0 [No a0.f.1,va0_1,Ab5 a0.f.2.2.1,va0_3,No a0.f.2.2.2.2.1,No a0.f.2.2.2.2.2.1,va0_6] 26,.box ba1 [No a1.1,No a1.2] 28] O)) va0_1 (a0.f.2.1))(_ha0_3:AH .byte (gz H a w (Ha [.box ba0 [No a0.f.1,va0_1,Ab5 a0.f.2.2.1,va0_3,No a0.f.2.2.2.2.1,No a0.f.2.2.2.2.2.1,va0_6] 26,.box ba1 [No a1.1,No a1.2] 28] O)) va0_3 (a0.f.2.2.2.1))(_ha0_6:AH .B1 (gz H a w (Ha [.box ba0 [No a0.f.1,va0_1,Ab5 a0.f.2.2.1,va0_3,No a0.f.2.2.2.2.1,No a0.f.2.2.2.2.2.1,va0_6] 26,.box ba1 [No a1.1,No a1.2] 28] O)) va0_6 (a0.f.2.2.2.2.2.2)){r:Qv×(Int×Int)}(h:Il a0 a1=some r):
  OkF prog 38 [AaD ba0,AaD ba1] (.panicking (pch (.iface 82 (.agg #[])))) (.panicking (AbP (.iface 82 (.agg #[])))) w (fun w'=>∃ (b:Value) (c:Value) (d:Value),Bb a (Ha [.box ba0 [No r.1.f.1,b,Ab5 r.1.f.2.2.1,c,No r.1.f.2.2.2.2.1,No r.1.f.2.2.2.2.2.1,d] 26,.box ba1 [No r.2.1,No r.2.2] 28] O) w'/\Le (fz w (Ha [.box ba0 [No a0.f.1,va0_1,Ab5 a0.f.2.2.1,va0_3,No a0.f.2.2.2.2.1,No a0.f.2.2.2.2.2.1,va0_6] 26,.box ba1 [No a1.1,No a1.2] 28] O)) (fz w' (Ha [.box ba0 [No r.1.f.1,b,Ab5 r.1.f.2.2.1,c,No r.1.f.2.2.2.2.1,No r.1.f.2.2.2.2.2.1,d] 26,.box ba1 [No r.2.1,No r.2.2] 28] O))/\AH .st (gz H a w' (Ha [.box ba0 [No r.1.f.1,b,Ab5 r.1.f.2.2.1,c,No r.1.f.2.2.2.2.1,No r.1.f.2.2.2.2.2.1,d] 26,.box ba1 [No r.2.1,No r.2.2] 28] O)) b (r.1.f.2.1)/\AH .byte (gz H a w' (Ha [.box ba0 [No r.1.f.1,b,Ab5 r.1.f.2.2.1,c,No r.1.f.2.2.2.2.1,No r.1.f.2.2.2.2.2.1,d] 26,.box ba1 [No r.2.1,No r.2.2] 28] O)) c (r.1.f.2.2.2.1)/\AH .B1 (gz H a w' (Ha [.box ba0 [No r.1.f.1,b,Ab5 r.1.f.2.2.1,c,No r.1.f.2.2.2.2.1,No r.1.f.2.2.2.2.2.1,d] 26,.box ba1 [No r.2.1,No r.2.2] 28] O)) d (r.1.f.2.2.2.2.2.2)):=by
 refine Td (pv:=.iface 82 (.agg #[])) (k:=16) [(0,(AaD ba0)),(1,(AaD ba1))] func38 Z Z Z Z Z Z Z .yes (Ai Z) ?_;have hT:=Le.refl (fz w (Ha [.box ba0 [No a0.f.1,va0_1,Ab5 a0.f.2.2.1,va0_3,No a0.f.2.2.2.2.1,No a0.f.2.2.2.2.2.1,va0_6] 26,.box ba1 [No a1.1,No a1.2] 28] O));refine Bu 1 Z<|Aj Ahh<|Ac<|EO<|Bu 1 Z<|Aj (AdA Z)<|Aq 3 Z<|AA AfP.e Z hL fun x y o g _=>Ag 0 Z o Z (a:=K9) fun z e j=>A7 1 Z<|AJ 1 Z<|EO<|Au<|Aj (AT (fun _=>X7 _))<|Ax h fun x4 p h=>AF e (Da _ _ (Ao e) p) fun w5 v q l=>Ag 1 Z q Z fun w6 s m=>Ag 2 Z s Z fun w7 t n=>AL ?_
 cases h
 refine L8 ?_;have u:=t.AS (i:=0) Z;have hT:=hT.trans (g.trans (j.trans (l.trans (m.trans (n.trans (Al (i:=0) Z))))));exact⟨Aa4,Aa4,Aa4,u,hT,(AH.nil _ _),(AH.nil _ _),(AH.nil _ _)⟩
def JK(a0:Qv)(a1:Int×Int):Option (Qv×(Int×Int)):=
 some (a0,(a1.1,a1.2))
theorem QI{a w:World}{H:PH}(_hH:Le H (hp a)){O:List BS}{a0:Qv}{a1:Int×Int}{ba0:Nat}{va0_1 va0_3 va0_6:Value}{ba1:Nat}(hL:Bb a (Ha [.box ba0 [No a0.f.1,va0_1,Ab5 a0.f.2.2.1,va0_3,No a0.f.2.2.2.2.1,No a0.f.2.2.2.2.2.1,va0_6] 26,.box ba1 [No a1.1,No a1.2] 28] O) w)(g:AH .st (gz H a w (Ha [.box ba0 [No a0.f.1,va0_1,Ab5 a0.f.2.2.1,va0_3,No a0.f.2.2.2.2.1,No a0.f.2.2.2.2.2.1,va0_6] 26,.box ba1 [No a1.1,No a1.2] 28] O)) va0_1 (a0.f.2.1))(i:AH .byte (gz H a w (Ha [.box ba0 [No a0.f.1,va0_1,Ab5 a0.f.2.2.1,va0_3,No a0.f.2.2.2.2.1,No a0.f.2.2.2.2.2.1,va0_6] 26,.box ba1 [No a1.1,No a1.2] 28] O)) va0_3 (a0.f.2.2.2.1))(j:AH .B1 (gz H a w (Ha [.box ba0 [No a0.f.1,va0_1,Ab5 a0.f.2.2.1,va0_3,No a0.f.2.2.2.2.1,No a0.f.2.2.2.2.2.1,va0_6] 26,.box ba1 [No a1.1,No a1.2] 28] O)) va0_6 (a0.f.2.2.2.2.2.2)){r:Qv×(Int×Int)}(h:JK a0 a1=some r):
  OkF prog 38 [AaD ba0,AaD ba1] .returning .returning w (fun w'=>∃ (b:Value) (c:Value) (d:Value),Bb a (Ha [.box ba0 [No r.1.f.1,b,Ab5 r.1.f.2.2.1,c,No r.1.f.2.2.2.2.1,No r.1.f.2.2.2.2.2.1,d] 26,.box ba1 [No r.2.1,No r.2.2] 28] O) w'/\Le (fz w (Ha [.box ba0 [No a0.f.1,va0_1,Ab5 a0.f.2.2.1,va0_3,No a0.f.2.2.2.2.1,No a0.f.2.2.2.2.2.1,va0_6] 26,.box ba1 [No a1.1,No a1.2] 28] O)) (fz w' (Ha [.box ba0 [No r.1.f.1,b,Ab5 r.1.f.2.2.1,c,No r.1.f.2.2.2.2.1,No r.1.f.2.2.2.2.2.1,d] 26,.box ba1 [No r.2.1,No r.2.2] 28] O))/\AH .st (gz H a w' (Ha [.box ba0 [No r.1.f.1,b,Ab5 r.1.f.2.2.1,c,No r.1.f.2.2.2.2.1,No r.1.f.2.2.2.2.2.1,d] 26,.box ba1 [No r.2.1,No r.2.2] 28] O)) b (r.1.f.2.1)/\AH .byte (gz H a w' (Ha [.box ba0 [No r.1.f.1,b,Ab5 r.1.f.2.2.1,c,No r.1.f.2.2.2.2.1,No r.1.f.2.2.2.2.2.1,d] 26,.box ba1 [No r.2.1,No r.2.2] 28] O)) c (r.1.f.2.2.2.1)/\AH .B1 (gz H a w' (Ha [.box ba0 [No r.1.f.1,b,Ab5 r.1.f.2.2.1,c,No r.1.f.2.2.2.2.1,No r.1.f.2.2.2.2.2.1,d] 26,.box ba1 [No r.2.1,No r.2.2] 28] O)) d (r.1.f.2.2.2.2.2.2)):=by
 refine Td (pv:=.iface 82 (.agg #[])) (k:=16) [(0,(AaD ba0)),(1,(AaD ba1))] func38 Z Z Z Z Z Z Z .no (Ai Z) ?_;have hT:=Le.refl (fz w (Ha [.box ba0 [No a0.f.1,va0_1,Ab5 a0.f.2.2.1,va0_3,No a0.f.2.2.2.2.1,No a0.f.2.2.2.2.2.1,va0_6] 26,.box ba1 [No a1.1,No a1.2] 28] O));have e:=hL.rG H;refine Bu 1 Z<|Aj Ai4<|Ac<|Gx<|Aw ?_
 cases h
 refine L8 ⟨va0_1,va0_3,va0_6,hL,hT,(g.mono e),(i.mono e),(j.mono e)⟩
def Lc(y22:Qv×(Ac3×Int)):Option (Qv×(Int×Int)):=
 Qq4 (JK y22.1 (0,0)) (fun a=>some (a.1,(a.2.1,a.2.2)))
def Mj(a0:Ac3):Option (Qv×(Int×Int)):=
 if 200<(a0.length:Int) then Qq4 (Cz (3:Int) (-1:Int)) (fun d=>some ((Qv.mk (0:Int) ([]) ([]:Ac3) ([]) (0:Int) (0:Int) ([])),(d.1,d.2))) else Qq4 (Hm JJ (a0,0)) (fun e=>ZG e (Qq4 (Jz (Qv.mk (0:Int) ([]:List Ac3) ([]:Ac3) ([]:Ac3) (0:Int) (0:Int) ([]:List Qv)) (0,0)) (fun a=>some (a.1,(a.2.1,a.2.2)))) (fun y22=>Qq4 (Hu y22.1) (fun b=>if(((!decide (b.2.1=0/\b.2.2=0))||(!decide (y22.2.1=([]:Ac3))))||(!decide (b.1=a0))) then Qq4 (Il y22.1 (0,0)) (fun c=>some (c.1,(c.2.1,c.2.2))) else(Lc y22))))
section
variable(w:World)(H:PH)(hH:Le H (hp w)) include hH
theorem PV(hU:Gj H){a0:Ac3}{r:Qv×(Int×Int)}(h:Mj a0=some r):
  Qqv 15 [Ab5 a0] w (fun v w'=>∃ u0 u1 u2,v=.tuple #[.agg #[No r.1.f.1,u0,Ab5 r.1.f.2.2.1,u1,No r.1.f.2.2.2.2.1,No r.1.f.2.2.2.2.2.1,u2],.agg #[No r.2.1,No r.2.2]]/\AH .st (un H (nw w w')) u0 (r.1.f.2.1)/\AH .byte (un H (nw w w')) u1 (r.1.f.2.2.2.1)/\AH .B1 (un H (nw w w')) u2 (r.1.f.2.2.2.2.2.2)):=by
 refine AbQ (n:=42) [(0,(Ab5 a0))] func15 Z Z Z Z ?_;have hL:=Bb.start w;refine Ak<|AA B8.e Z hL fun w1 b1 b6 ct _=>AA AG.e Z b6 fun w2 b2 ar cu _=>Ac<|AD<|Bu 1 Z<|Aj (IU Z)<|A7 1 Z<|AP h ?_ ?_<;>intro b7 h
 ·refine Ak<|Aj (AT (fun _=>X7 _))<|Ax h fun x5 b8 h=>AF ar (Da _ _ (Ao ar) b8) fun w6 c0 b9 cv=>Ag 1 Z b9 Z fun w7 ca cw=>Ag 0 Z ca Z fun w8 au cx=>Ac<|Ay<|Ar ?_
  cases h
  refine Adk<|Bv (.cell Z Ajm Z B8.e (AK (i:=1) au Z)) (.cell Z Aji Z AG.e (AK (i:=0) au Z)) ⟨au.ext,_,_,_,Z,(AH.nil _ _),(AH.nil _ _),(AH.nil _ _)⟩
 refine Aw<|As<|Bu 1 Z<|AfG Z<|Ac<|Bu 1 Z<|Aj (AT (fun _=>AfU _ Z _))<|CB (t:=86) Z Z ar fun c1 z bl cd _=>A7 1 Z<|Bu 1 Z<|Ax h fun c2 bm h=>OG (Mh (hself:=QH) (a0:=(a0,0)) (O:=[.box b2 [No 0,No 0] 28,.box b1 AcE 26]) hH hU bl bm) ?_ ?_
 ·rintro rfl bj ⟨bn,ce⟩;have h:=KD h;refine Fq ?_;obtain⟨bo,cf,af⟩:=DS .st H 9 bn;obtain⟨bp,be,ag⟩:=DS .byte H 5 bo;obtain⟨av,an,ah⟩:=DS .B1 H 26 bp;have ai:Bb w [.row Aa4 9 1 (([]:List Ac3)).length ([]),.row Aa4 5 1 (([]:Ac3)).length ([]),.row Aa4 26 7 (([]:List Qv)).length ([]),.box b2 [No 0,No 0] 28,.box b1 AcE 26] bj:=av.C0 [1,2] Z;have q:=B2 [1,2] av ai Z;have aw:Bb w [.box b1 AcE 26,.row Aa4 9 1 (([]:List Ac3)).length ([]),.row Aa4 5 1 (([]:Ac3)).length ([]),.row Aa4 26 7 (([]:List Qv)).length ([]),.box b2 [No 0,No 0] 28] bj:=ai.C0 [4] Z;have u:=B2 [4] ai aw Z;refine Ax h fun c3 bq h=>?_;have af:=af.mono (Aa (be.trans (an.trans (q.trans u))));have ag:=ag.mono (Aa (an.trans (q.trans u)))
  have ah:=ah.mono (Aa (q.trans u));refine AaV (Qe (a0:=(Qv.mk (0:Int) ([]:List Ac3) ([]:Ac3) ([]:Ac3) (0:Int) (0:Int) ([]:List Qv))) (a1:=(0,0)) (O:=[]) hH aw af ag ah bq) ?_;rintro c4 ⟨cg,ch,ci,aj,cj,ax,ay,a2⟩ az frz
  cases h
  exact⟨_,UT Z (.cell Z Ajm Z B8.e (AK (i:=0) aj Z)) (.cell Z Aji Z AG.e (AK (i:=1) aj Z)) frz,aj.ext,_,_,_,Z,(ax.mono  EC),(ay.mono  EC),(a2.mono  EC)⟩
 rintro y22 rfl _ c5 ⟨l,m,o,rfl,br,ck,c,d,e⟩;have h:=KE h;refine Ag 2 Z br Z (a:=(Br Z (Br c.one (Br Z (Br d.one (Br Z (Br Z (Br e.one K9)))))))) fun c6 x y=>Ac<|Bt Unit (fun(_:Unit)=>[(2,(AaD b1)),(3,(AaD b2))]) (fun(_:Unit) wr=>Fl w [.box z [Ab5 y22.2.1,No y22.2.2] 86,.box b2 [No 0,No 0] 28,.box b1 [No y22.1.f.1,l,Ab5 y22.1.f.2.2.1,m,No y22.1.f.2.2.2.2.1,No y22.1.f.2.2.2.2.2.1,o] 26] wr fun Oz=>AH .st (gz H w wr Oz) l (y22.1.f.2.1)/\AH .byte (gz H w wr Oz) m (y22.1.f.2.2.2.1)/\AH .B1 (gz H w wr Oz) o (y22.1.f.2.2.2.2.2.2)/\(Lc y22)=some r) ?_ ?_
 ·have a:=x.rG H;refine Ak<|Aj (A4 2 Z B8.e x Z)<|Ax h fun k bs h=>?_;have c:=c.mono (Aa y);have d:=d.mono (Aa y);have e:=e.mono (Aa y);refine AF x (KZ _ _ (Ao x) (hU.mono  Ah) y22.1 (c.mono a) (d.mono a) (e.mono a) bs) fun c7 cy bt ao=>Aq 3 Z<|AA AG.e Z bt fun c8 bk bu ap _=>Aq 1 Z<|Ag 0 Z bu Z fun cb p aq=>Ac<|Ak<|Aj (A4 0 Z AG.e p Z)<|Aj (AT (fun _=>BM _))<|Aj (JO J2 (Nf _ _ _ _))<|Aq 1 Z<|OL 6 32 (.bool ((!decide (k.2.1=0/\k.2.2=0))||(!decide (y22.2.1=([]:Ac3))))) (fun a3=>?_) ?_
  ·refine IL (s:=26) Z (fun b=>?_) (fun b=>?_)
   ·iterate 5 refine An b ?_
    refine Aj (AB b Z)<|a3.to 5 (Wg b) Z Z
   refine Ab b<|Aj (Ai Z)<|Ab b<|Aj (MQ Z)<|Ab b<|Aj (Ae Z AjF Z HJ.e)<|Ab b<|Aj (Af 1 Z p Z)<|Ab b<|Aj (Sg Z Z)<|Aj (AM b Z)<|a3.to 5 (Wh b) Z Z
  refine Aq 1 Z<|OL 4 37 (.bool (((!decide (k.2.1=0/\k.2.2=0))||(!decide (y22.2.1=([]:Ac3))))||(!decide (k.1=a0)))) (fun a4=>?_) ?_
  ·refine IL (s:=33) Z (fun g=>?_) (fun g=>?_)
   ·iterate 3 refine An g ?_
    refine Aj (AB g Z)<|a4.to 3 (Wg g) Z Z
   refine Ab g<|Aj (Ai Z)<|Ab g<|Aj (Ai Z)<|Ab g<|Aj (Sg Z Z)<|Aj (AM g Z)<|a4.to 3 (Wh g) Z Z
  refine Ac<|B3 h ?_ ?_<;>intro bv h
  ·refine Au<|Aj (AT (fun _=>AfT _))<|Aj (Ai3 Z AjH Z)<|AfD<|Po ?_;have a5:Bb w [.box b1 [No y22.1.f.1,l,Ab5 y22.1.f.2.2.1,m,No y22.1.f.2.2.2.2.1,No y22.1.f.2.2.2.2.2.1,o] 26,.box b2 [No 0,No 0] 28,.box bk [No k.2.1,No k.2.2] 28,.box z [Ab5 y22.2.1,No y22.2.2] 86] cb:=p.C0 [2,3] Z;have bf:=B2 [2,3] p a5 Z;refine Ax h fun c9 bw h=>?_;have a:=a.trans (Aa (ao.trans (ap.trans (aq.trans bf))));refine AaV (O8 (a0:=y22.1) (a1:=(0,0)) (O:=[.box bk [No k.2.1,No k.2.2] 28,.box z [Ab5 y22.2.1,No y22.2.2] 86]) hH a5 (c.mono a) (d.mono a) (e.mono a) bw) ?_;rintro da ⟨cl,cm,cn,ak,co,a6,a7,a8⟩ az frz
   cases h
   exact⟨_,UT Z (.cell Z Ajm Z B8.e (AK (i:=0) ak Z)) (.cell Z Aji Z AG.e (AK (i:=1) ak Z)) frz,ak.ext,_,_,_,Z,(a6.mono  EC),(a7.mono  EC),(a8.mono  EC)⟩
  refine Aw ?_;have bx:=p.AS (i:=0) Z;have a:=a.trans (Aa (ao.trans (ap.trans (aq.trans (Al (i:=0) Z)))));refine A8 () ⟨bx,(c.mono a),(d.mono a),(e.mono a),h⟩
 rintro _ cz ⟨al,aa,ab,ac,h⟩;have j:=al.rG H;refine Ak<|Aj (A4 2 Z B8.e al Z)<|Aj (AT (fun _=>BM _))<|Ag 2 Z al Z (a:=(Br Z (Br (aa.mono j).one (Br Z (Br (ab.mono j).one (Br Z (Br Z (Br (ac.mono j).one K9)))))))) fun db bz bg=>Ag 1 Z bz Z fun cc a9 bh=>Ac<|Ay ?_;have ba:Bb w [.box b1 [No y22.1.f.1,l,Ab5 y22.1.f.2.2.1,m,No y22.1.f.2.2.2.2.1,No y22.1.f.2.2.2.2.2.1,o] 26,.box b2 [No 0,No 0] 28,.box z [Ab5 y22.2.1,No y22.2.2] 86] cc:=a9.C0 [1,2] Z;have bi:=B2 [1,2] a9 ba Z;refine Ax h fun dc b0 h=>?_;have j:=j.trans (Aa (bg.trans (bh.trans bi)));refine AfH (QI (a0:=y22.1) (a1:=(0,0)) (O:=[.box z [Ab5 y22.2.1,No y22.2.2] 86]) hH ba (aa.mono j) (ab.mono j) (ac.mono j) b0) ?_;rintro dd ⟨cp,cq,cr,am,cs,bb,bc,bd⟩ az frz
 cases h
 exact⟨_,UT Z (.cell Z Ajm Z B8.e (AK (i:=0) am Z)) (.cell Z Aji Z AG.e (AK (i:=1) am Z)) frz,am.ext,_,_,_,Z,(bb.mono  EC),(bc.mono  EC),(bd.mono  EC)⟩
def G5(a:Bool):Option Bool:=
 some a
def L2:Option Bool:=
 Qq4 (Rb ([111,120]:Ac3)) (fun c=>Qq4 (Hu (Qv.mk (10:Int) ([]) ([]:Ac3) ([]) (0:Int) (0:Int) ([c]))) (fun o=>Qq4 (Mj ([33,111,120]:Ac3)) (fun d=>AO ([(111:UInt8),(120:UInt8)]≠[]) (Qq4 (MT (1:Int)) (fun p=>AO ([(99:UInt8),(111:UInt8),(119:UInt8)]≠[]) (Qq4 (MT (2:Int)) (fun q=>Qq4 (Jt ([([(111:UInt8),(120:UInt8)],p),([(99:UInt8),(111:UInt8),(119:UInt8)],q)])) (fun a=>Qq4 (Cw ((a.1.1.1,a.1.1.2),(a.1.2.1.1,a.1.2.1.2),a.1.2.2) (Qv.mk (10:Int) ([]) ([]:Ac3) ([]) (0:Int) (0:Int) ([c])) ([true,true])) (fun e=>Qq4 (Cw ((a.1.1.1,a.1.1.2),(a.1.2.1.1,a.1.2.1.2),a.1.2.2) (Qv.mk (10:Int) ([]) ([]:Ac3) ([]) (0:Int) (0:Int) ([c])) ([true,false])) (fun f=>Qq4 (Hj ((a.1.1.1,a.1.1.2),(a.1.2.1.1,a.1.2.1.2),a.1.2.2) (1:Int) (0:Int) (2:Int) ([false,true])) (fun g=>Qq4 (Hj ((a.1.1.1,a.1.1.2),(a.1.2.1.1,a.1.2.1.2),a.1.2.2) (1:Int) (0:Int) (2:Int) ([true,false])) (fun h=>Qq4 (Mj ([33,40,97,124,33,98,41]:Ac3)) (fun i=>Qq4 (MI i.1) (fun j=>Qq4 (Hu j.1) (fun k=>if o.2.1=0 then if d.2.1=0 then if a.2.1=0 then if e.2.1=0 then if f.2.1=0 then if g.2.1=0 then if i.2.1=0 then if j.2.1=0 then if k.2.1=0 then(if o.1=([33,111,120]:Ac3) then Qq4 (Mc d.1 (Qv.mk (10:Int) ([]) ([]:Ac3) ([]) (0:Int) (0:Int) ([c]))) (fun l=>if l then Qq4 (Ra e.1 ([1])) (fun m=>if m then if(f.1.length:Int)=0 then AO ([(99:UInt8),(111:UInt8)]≠[]) (Qq4 (JQ g.1 ([(99:UInt8),(111:UInt8)])) (fun n=>if n then Qq4 (LF (20:Int) (-1:Int)) (fun b=>if h.2.1=b.1/\h.2.2=b.2 then G5 (decide (k.1=([33,97,38,98]:Ac3))) else G5 false) else G5 false)) else G5 false else G5 false) else G5 false) else G5 false) else none else none else none else none else none else none else none else none else none)))))))))))))))
theorem PE(hU:Gj H){r:Bool}(h:L2=some r):
  Qqv 13 [] w (fun v w'=>v=.bool r):=by
 refine A1 162 [] func13 Z fun hL=>AJ 1 Z<|Ak<|Ax h fun x1 h0 h=>Bk hL (XD _ _ (Ao hL) h0) ?_;rintro _ w2 ⟨iu,iv,iw,rfl,e8,e9,fa⟩ dv h1 ix;have fb:=e8.mono (Er hL dv);have fc:=e9.Dz hH hL dv;have fd:=fa.Dz hH hL dv;refine B7 [x1] (r:=.B1) (fun _=>Nx _ _ _ _ _ _ _ _) h1 (.c7 (Go.E.Rp.H4 ⟨_,_,Z,Z,⟨_,_,Z,⟨_,Z,fb⟩,⟨_,_,Z,Z,⟨_,_,Z,⟨_,Z,fc⟩,⟨_,_,Z,Z,⟨_,_,Z,Z,⟨_,Z,fd⟩⟩⟩⟩⟩⟩⟩) .nil) fun v3 w3 jn h2 iy aw=>Aj (AT (fun _=>N8 _ _ aw.one _))<|AA B8.e Z h2 fun w4 b4 h3 fx _=>Ag 0 Z h3 Z (a:=(Br Z (Br Z (Br Z (Br Z (Br Z (Br Z (Br aw.one K9)))))))) fun w5 dw fy=>Ac<|Ak<|Aj (A4 0 Z B8.e dw Z)<|Ax h fun x6 h4 h=>?_;have aw:=aw.mono (Aa (fx.trans fy));refine AF dw (KZ _ _ (Ao dw) (hU.mono  Ah) ((Qv.mk (10:Int) ([]) ([]:Ac3) ([]) (0:Int) (0:Int) ([x1]))) (AH.nil _ _) (AH.nil _ _) aw h4) fun w7 jo h5 fz=>Aq 3 Z<|AA AG.e Z h5 fun w8 b8 h6 f1 _=>Aq 1 Z ?_
 refine Ag 0 Z h6 Z fun w9 cy f2=>Ac<|Ak<|Ax h fun an f3 h=>Bk cy (PV _ _ (Ao cy) (hU.mono  Ah) f3) ?_;rintro _ jp ⟨bq,br,bs,rfl,dx,dy,dz⟩ c0 f4 ff;have ad:=dx.mono (Er cy c0);have ae:=dy.mono (Er cy c0);have af:=dz.mono (Er cy c0);refine Aq 3 Z<|AA B8.e Z f4 fun jq d0 f5 az _=>AA AG.e Z f5 fun jr d1 f6 a2 _=>Ag 1 Z f6 Z (a:=(Br Z (Br ad.one (Br Z (Br ae.one (Br Z (Br Z (Br af.one K9)))))))) fun js f7 a3=>Ag 0 Z f7 Z fun jt d2 a4=>Ac ?_;have j:=d2.rG H;refine Ak<|Ow [(111:UInt8),(120:UInt8)] (r:=.byte) (fun _=>Abg _ _ _) (BJ 2) hH d2 (.c1 Z (.c1 Z .nil)) fun ju jv iz f8 fg f9=>Az h fun ga h=>Adh 0 Z Afr AcI hH f8 Z f9 ga fun jw cb fh cq=>Ax h fun h7 gb h=>Bk cb (Q0 _ _ (Ao cb) gb) ?_;rintro _ jx ⟨ia,ib,ic,rfl,d3,d4,d5⟩ c2 gc de;have cc:=d3.Dz hH cb c2;have cd:=d4.Dz hH cb c2
 have ce:=d5.Dz hH cb c2;refine Aj (AT (fun _=>WK _ cq.one _ _ _ _ _ _))<|Ow [(99:UInt8),(111:UInt8),(119:UInt8)] (r:=.byte) (fun _=>Abh _ _ _ _) (BJ 3) hH gc (.c1 Z (.c1 Z (.c1 Z .nil))) fun jy jz i0 gd bf ge=>Az h fun gf h=>Adh 0 Z Afr AcI hH gd Z ge gf fun j0 cf bg cr=>Ax h fun h8 gg h=>Bk cf (Q0 _ _ (Ao cf) gg) ?_;rintro _ j1 ⟨ie,ig,ih,rfl,d6,d7,d8⟩ c3 gh a5;have d9:=d6.Dz hH cf c3;have ea:=d7.Dz hH cf c3;have eb:=d8.Dz hH cf c3;refine Aj (AT (fun _=>WK _ cr.one _ _ _ _ _ _)) ?_;have cq:=cq.mono (Aa (de.trans (bf.trans (bg.trans a5))));have cc:=cc.mono (Aa (bf.trans (bg.trans a5)));have cd:=cd.mono (Aa (bf.trans (bg.trans a5)));have ce:=ce.mono (Aa (bf.trans (bg.trans a5)));have cr:=cr.mono (Aa a5)
 refine B7 ([([(111:UInt8),(120:UInt8)],h7),([(99:UInt8),(111:UInt8),(119:UInt8)],h8)]) (r:=(.pair (.vec .byte) .tree)) (fun _=>AfY _ _ _ _ _ _ _ _ _ _ _ _ _) (hlen:=(BJ 2)) gh (.c6 ⟨_,_,Z,⟨_,Z,cq⟩,(Go.E.Rp.ES ⟨_,_,Z,Z,⟨_,_,Z,Z,⟨_,_,Z,⟨_,Z,cc⟩,⟨_,_,Z,⟨_,Z,cd⟩,⟨_,Z,ce⟩⟩⟩⟩⟩)⟩ (.c6 ⟨_,_,Z,⟨_,Z,cr⟩,(Go.E.Rp.ES ⟨_,_,Z,Z,⟨_,_,Z,Z,⟨_,_,Z,⟨_,Z,d9⟩,⟨_,_,Z,⟨_,Z,ea⟩,⟨_,Z,eb⟩⟩⟩⟩⟩)⟩ .nil)) fun j2 j3 i1 cg fi gi=>Ax h fun k gj h=>Bk cg (PQ _ _ (Ao cg) (hU.mono  Ah) gi gj) ?_;rintro _ j4 ⟨bt,bu,bv,rfl,ec,ed,ee⟩ c4 gk fj;have y:=ec.mono (Er cg c4);have aa:=ed.mono (Er cg c4);have ab:=ee.Dz hH cg c4;refine Aq 3 Z<|AA KH.e Z gk fun j5 ef gl bw _=>AA AG.e Z gl fun j6 eg gm bx _=>Ag 1 Z gm Z (a:=(Br Z (Br y.one (Br Z (Br aa.one (Br ab.one K9)))))) fun j7 gn bz=>Ag 0 Z gn Z fun j8 cs b0=>Ac ?_;have e:=cs.rG H;refine Ak<|Aj (A4 1 Z KH.e cs Z) ?_
 refine Aj (A4 5 Z B8.e cs Z)<|B7 [true,true] (r:=.bool) (fun _=>Ux _ _ _) (hlen:=(BJ 2)) cs (.c1 Z (.c1 Z .nil)) fun j9 ka i2 c5 fk go=>Ax h fun cm gp h=>?_;have aw:=aw.mono (Aa (fz.trans (f1.trans (f2.trans (ff.trans (az.trans (a2.trans (a3.trans a4))))))));have j:=j.trans (Aa (fg.trans (fh.trans (de.trans (bf.trans (bg.trans (a5.trans (fi.trans (fj.trans (bw.trans (bx.trans (bz.trans b0))))))))))));have y:=y.mono (Aa (bw.trans (bx.trans (bz.trans b0))));have aa:=aa.mono (Aa (bw.trans (bx.trans (bz.trans b0))));have ab:=ab.mono (Aa (bw.trans (bx.trans (bz.trans b0))));have e:=e.trans (Aa fk);refine Bk c5 (Ij _ _ (Ao c5) (hU.mono  Ah) (((k.1.1.1,k.1.1.2),(k.1.2.1.1,k.1.2.1.2),k.1.2.2)) ((Qv.mk (10:Int) ([]) ([]:Ac3) ([]) (0:Int) (0:Int) ([x1]))) (y.mono e) (aa.mono e) (ab.mono e) (AH.nil _ _) (AH.nil _ _) ((aw.mono j).mono e) go gp) ?_;rintro _ kb ⟨ii,rfl,eh⟩ gq gr fl;have ch:=eh.Dz hH c5 gq;refine Aq 3 Z<|AA AG.e Z gr fun kc ei gs df _=>Aq 1 Z ?_
 refine Ag 0 Z gs Z fun kd c8 dg=>Ac<|Ak<|Aj (A4 2 Z KH.e c8 Z)<|Aj (A4 6 Z B8.e c8 Z)<|B7 [true,false] (r:=.bool) (fun _=>Ux _ _ _) (hlen:=(BJ 2)) c8 (.c1 Z (.c1 Z .nil)) fun ke kf i3 c9 dh gt=>Ax h fun cn gu h=>?_;have e:=e.trans (Aa (fl.trans (df.trans (dg.trans dh))));refine Bk c9 (Ij _ _ (Ao c9) (hU.mono  Ah) (((k.1.1.1,k.1.1.2),(k.1.2.1.1,k.1.2.1.2),k.1.2.2)) ((Qv.mk (10:Int) ([]) ([]:Ac3) ([]) (0:Int) (0:Int) ([x1]))) (y.mono e) (aa.mono e) (ab.mono e) (AH.nil _ _) (AH.nil _ _) ((aw.mono j).mono e) gt gu) ?_;rintro _ kg ⟨ij,rfl,ej⟩ gv gw di;have ci:=ej.Dz hH c9 gv;refine Aq 3 Z<|AA AG.e Z gw fun kh ek gx ct _=>Aq 1 Z<|Ag 0 Z gx Z fun ki el cu=>Ac<|Ak<|Aj (A4 3 Z KH.e el Z)<|B7 [false,true] (r:=.bool) (fun _=>Ux _ _ _) (hlen:=(BJ 2)) el (.c1 Z (.c1 Z .nil)) fun kj kk i4 da cv gy=>Ax h fun co g0 h=>?_
 have e:=e.trans (Aa (di.trans (ct.trans (cu.trans cv))));refine Bk da (LV (a0:=((k.1.1.1,k.1.1.2),(k.1.2.1.1,k.1.2.1.2),k.1.2.2)) _ _ (Ao da) (y.mono e) (aa.mono e) (ab.mono e) gy g0) ?_;rintro _ kl ⟨ik,rfl,em⟩ g1 g2 cw;have cj:=em.mono (Er da g1);refine Aq 3 Z<|AA AG.e Z g2 fun km en g3 b1 _=>Aq 1 Z<|Ag 0 Z g3 Z fun kn db b2=>Ac ?_;have g:=db.rG H;refine Ak<|Aj (A4 4 Z KH.e db Z)<|B7 [true,false] (r:=.bool) (fun _=>Ux _ _ _) (hlen:=(BJ 2)) db (.c1 Z (.c1 Z .nil)) fun ko kp i5 eo fm g4=>Ax h fun cp g5 h=>?_;have e:=e.trans (Aa (cw.trans (b1.trans b2)));have g:=g.trans (Aa fm);refine Bk eo (LV (a0:=((k.1.1.1,k.1.1.2),(k.1.2.1.1,k.1.2.1.2),k.1.2.2)) _ _ (Ao eo) ((y.mono e).mono g) ((aa.mono e).mono g) ((ab.mono e).mono g) g4 g5) ?_;rintro _ kq ⟨il,rfl,h9⟩ i6 g6 dj;refine Aq 3 Z<|AA AG.e Z g6 fun kr ep g7 dk _=>Aq 1 Z<|Ag 0 Z g7 Z ?_
 intro ks ck dl;refine Ac<|Ak<|Ax h fun ao g8 h=>Bk ck (PV _ _ (Ao ck) (hU.mono  Ah) g8) ?_;rintro _ kt ⟨b3,b5,b6,rfl,eq,er,es⟩ dc g9 dm;have ag:=eq.mono (Er ck dc);have ah:=er.mono (Er ck dc);have ai:=es.mono (Er ck dc);refine Aq 3 Z<|AA B8.e Z g9 fun ku et ha bh _=>AA AG.e Z ha fun kv eu hb bi _=>Ag 1 Z hb Z (a:=(Br Z (Br ag.one (Br Z (Br ah.one (Br Z (Br Z (Br ai.one K9)))))))) fun kw hc bj=>Ag 0 Z hc Z fun kx a6 bk=>Ac ?_;have d:=a6.rG H;refine Ak<|Aj (A4 1 Z B8.e a6 Z)<|Ax h fun ap hd h=>?_;have ag:=ag.mono (Aa (bh.trans (bi.trans (bj.trans bk))));have ah:=ah.mono (Aa (bh.trans (bi.trans (bj.trans bk))));have ai:=ai.mono (Aa (bh.trans (bi.trans (bj.trans bk))));refine Bk a6 (Tp (a0:=ao.1) _ _ (Ao a6) (hU.mono  Ah) (ag.mono d) (ah.mono d) (ai.mono d) hd) ?_;rintro _ ky ⟨b7,b9,ca,rfl,ev,ew,ex⟩ dd he dn
 have aj:=ev.mono (Er a6 dd);have ak:=ew.mono (Er a6 dd);have al:=ex.mono (Er a6 dd);refine Aq 3 Z<|AA B8.e Z he fun kz ey hf bl _=>AA AG.e Z hf fun k0 ez hg bm _=>Ag 1 Z hg Z (a:=(Br Z (Br aj.one (Br Z (Br ak.one (Br Z (Br Z (Br al.one K9)))))))) fun k1 hh bn=>Ag 0 Z hh Z fun k2 cx bo=>Ac ?_;have c:=cx.rG H;refine Ak<|Aj (A4 1 Z B8.e cx Z)<|Ax h fun cl hi h=>?_;have aj:=aj.mono (Aa (bl.trans (bm.trans (bn.trans bo))));have ak:=ak.mono (Aa (bl.trans (bm.trans (bn.trans bo))));have al:=al.mono (Aa (bl.trans (bm.trans (bn.trans bo))));refine AF cx (KZ _ _ (Ao cx) (hU.mono  Ah) ap.1 (aj.mono c) (ak.mono c) (al.mono c) hi) fun k3 i7 hj dp=>Aq 3 Z<|AA AG.e Z hj fun k4 e0 hk dq _=>Aq 1 Z<|Ag 0 Z hk Z fun k5 ay dr=>Ac<|AD<|Ak<|Aj (Ae Z Aji Z CO.e) ?_
 refine Aj (Af 13 Z ay Z)<|Aq 2 Z<|Iw 90 h ?_ ?_<;>intro a7 h
 ·iterate 3 refine An a7 ?_
  refine Aj (AB a7 Z)<|Aq 1 Z ?_
  iterate 3 refine An Z ?_
  refine Aj (AB Z Z)<|Aq 1 Z ?_
  iterate 3 refine An Z ?_
  refine Aj (AB Z Z)<|Aq 1 Z ?_
  iterate 3 refine An Z ?_
  refine Aj (AB Z Z)<|Aq 1 Z ?_
  iterate 3 refine An Z ?_
  refine Aj (AB Z Z)<|Aq 1 Z ?_
  iterate 3 refine An Z ?_
  refine Aj (AB Z Z)<|Aq 1 Z ?_
  iterate 3 refine An Z ?_
  refine Aj (AB Z Z)<|Aq 1 Z ?_
  iterate 3 refine An Z ?_
  refine Aj (AB Z Z)<|Ac<|EO ?_
  cases h
 refine Ab a7<|Aj (Ae Z Aji Z CO.e)<|Ab a7<|Aj (Af 11 Z ay Z)<|Ab a7<|Aj (Ai Z)<|Aj (AM a7 Z)<|Aq 1 Z<|Iw 95 h ?_ ?_<;>intro a8 h
 ·iterate 3 refine An a8 ?_
  refine Aj (AB a8 Z)<|Aq 1 Z ?_
  iterate 3 refine An Z ?_
  refine Aj (AB Z Z)<|Aq 1 Z ?_
  iterate 3 refine An Z ?_
  refine Aj (AB Z Z)<|Aq 1 Z ?_
  iterate 3 refine An Z ?_
  refine Aj (AB Z Z)<|Aq 1 Z ?_
  iterate 3 refine An Z ?_
  refine Aj (AB Z Z)<|Aq 1 Z ?_
  iterate 3 refine An Z ?_
  refine Aj (AB Z Z)<|Aq 1 Z ?_
  iterate 3 refine An Z ?_
  refine Aj (AB Z Z)<|Ac<|EO ?_
  cases h
 refine Ab a8<|Aj (Ae Z Aji Z CO.e)<|Ab a8<|Aj (Af 9 Z ay Z)<|Ab a8<|Aj (Ai Z)<|Aj (AM a8 Z)<|Aq 1 Z<|Iw 100 h ?_ ?_<;>intro a9 h
 ·iterate 3 refine An a9 ?_
  refine Aj (AB a9 Z)<|Aq 1 Z ?_
  iterate 3 refine An Z ?_
  refine Aj (AB Z Z)<|Aq 1 Z ?_
  iterate 3 refine An Z ?_
  refine Aj (AB Z Z)<|Aq 1 Z ?_
  iterate 3 refine An Z ?_
  refine Aj (AB Z Z)<|Aq 1 Z ?_
  iterate 3 refine An Z ?_
  refine Aj (AB Z Z)<|Aq 1 Z ?_
  iterate 3 refine An Z ?_
  refine Aj (AB Z Z)<|Ac<|EO ?_
  cases h
 refine Ab a9<|Aj (Ae Z Aji Z CO.e)<|Ab a9<|Aj (Af 8 Z ay Z)<|Ab a9<|Aj (Ai Z)<|Aj (AM a9 Z)<|Aq 1 Z<|Iw 105 h ?_ ?_<;>intro ba h
 ·iterate 3 refine An ba ?_
  refine Aj (AB ba Z)<|Aq 1 Z ?_
  iterate 3 refine An Z ?_
  refine Aj (AB Z Z)<|Aq 1 Z ?_
  iterate 3 refine An Z ?_
  refine Aj (AB Z Z)<|Aq 1 Z ?_
  iterate 3 refine An Z ?_
  refine Aj (AB Z Z)<|Aq 1 Z ?_
  iterate 3 refine An Z ?_
  refine Aj (AB Z Z)<|Ac<|EO ?_
  cases h
 refine Ab ba<|Aj (Ae Z Aji Z CO.e)<|Ab ba<|Aj (Af 7 Z ay Z)<|Ab ba<|Aj (Ai Z)<|Aj (AM ba Z)<|Aq 1 Z<|Iw 110 h ?_ ?_<;>intro bb h
 ·iterate 3 refine An bb ?_
  refine Aj (AB bb Z)<|Aq 1 Z ?_
  iterate 3 refine An Z ?_
  refine Aj (AB Z Z)<|Aq 1 Z ?_
  iterate 3 refine An Z ?_
  refine Aj (AB Z Z)<|Aq 1 Z ?_
  iterate 3 refine An Z ?_
  refine Aj (AB Z Z)<|Ac<|EO ?_
  cases h
 refine Ab bb<|Aj (Ae Z Aji Z CO.e)<|Ab bb<|Aj (Af 6 Z ay Z)<|Ab bb<|Aj (Ai Z)<|Aj (AM bb Z)<|Aq 1 Z<|Iw 115 h ?_ ?_<;>intro bc h
 ·iterate 3 refine An bc ?_
  refine Aj (AB bc Z)<|Aq 1 Z ?_
  iterate 3 refine An Z ?_
  refine Aj (AB Z Z)<|Aq 1 Z ?_
  iterate 3 refine An Z ?_
  refine Aj (AB Z Z)<|Ac<|EO ?_
  cases h
 refine Ab bc<|Aj (Ae Z Aji Z CO.e)<|Ab bc<|Aj (Af 3 Z ay Z)<|Ab bc<|Aj (Ai Z)<|Aj (AM bc Z)<|Aq 1 Z<|Iw 120 h ?_ ?_<;>intro bd h
 ·iterate 3 refine An bd ?_
  refine Aj (AB bd Z)<|Aq 1 Z ?_
  iterate 3 refine An Z ?_
  refine Aj (AB Z Z)<|Ac<|EO ?_
  cases h
 refine Ab bd<|Aj (Ae Z Aji Z CO.e)<|Ab bd<|Aj (Af 1 Z ay Z)<|Ab bd<|Aj (Ai Z)<|Aj (AM bd Z)<|Aq 1 Z<|Iw 125 h ?_ ?_<;>intro be h
 ·iterate 3 refine An be ?_
  refine Aj (AB be Z)<|Ac<|EO ?_
  cases h
 refine Ab be<|Aj (Ae Z Aji Z CO.e)<|Ab be<|Aj (Af 0 Z ay Z)<|Ab be<|Aj (Ai Z)<|Aj (AM be Z)<|Ac<|CP h ?_ ?_<;>intro hl h
 ·cases h
 refine Aw<|As ?_
 refine Bt Bool (fun bp=>[(0,.bool bp)]) (fun bp wr=>Fl w [.box e0 [No cl.2.1,No cl.2.2] 28,.box ez [No ap.2.1,No ap.2.2] 28,.box ey [No ap.1.f.1,b7,Ab5 ap.1.f.2.2.1,b9,No ap.1.f.2.2.2.2.1,No ap.1.f.2.2.2.2.2.1,ca] 26,.box eu [No ao.2.1,No ao.2.2] 28,.box et [No ao.1.f.1,b3,Ab5 ao.1.f.2.2.1,b5,No ao.1.f.2.2.2.2.1,No ao.1.f.2.2.2.2.2.1,b6] 26,.box ep [No cp.2.1,No cp.2.2] 28,.box en [No co.2.1,No co.2.2] 28,.box ek [No cn.2.1,No cn.2.2] 28,.box ei [No cm.2.1,No cm.2.2] 28,.box eg [No k.2.1,No k.2.2] 28,.box ef [No k.1.1.1,bt,No k.1.2.1.1,bu,bv] 52,.box d1 [No an.2.1,No an.2.2] 28,.box d0 [No an.1.f.1,bq,Ab5 an.1.f.2.2.1,br,No an.1.f.2.2.2.2.1,No an.1.f.2.2.2.2.2.1,bs] 26,.box b8 [No x6.2.1,No x6.2.2] 28,.box b4 [No 10,Aa4,(Ab5 []),Aa4,No 0,No 0,v3] 26] wr fun Oz=>AH .st (gz H w wr Oz) b7 (ap.1.f.2.1)/\AH .byte (gz H w wr Oz) b9 (ap.1.f.2.2.2.1)/\AH .B1 (gz H w wr Oz) ca (ap.1.f.2.2.2.2.2.2)/\AH .st (gz H w wr Oz) b3 (ao.1.f.2.1)/\AH .byte (gz H w wr Oz) b5 (ao.1.f.2.2.2.1)/\AH .B1 (gz H w wr Oz) b6 (ao.1.f.2.2.2.2.2.2)/\AH (.pair .st (.vec AjW)) (gz H w wr Oz) bt (k.1.1.2)/\AH AjU (gz H w wr Oz) bu (k.1.2.1.2)/\AH AjV (gz H w wr Oz) bv (k.1.2.2)/\AH .st (gz H w wr Oz) bq (an.1.f.2.1)/\AH .byte (gz H w wr Oz) br (an.1.f.2.2.2.1)/\AH .B1 (gz H w wr Oz) bs (an.1.f.2.2.2.2.2.2)/\AH .B1 (gz H w wr Oz) v3 ([x1])/\G5 bp=some r) ?_ ?_
 ·refine Ko (Ox Ns) (fun z0 z=>Le (gz H w z0 [.box e0 [No cl.2.1,No cl.2.2] 28,.box ez [No ap.2.1,No ap.2.2] 28,.box ey [No ap.1.f.1,b7,Ab5 ap.1.f.2.2.1,b9,No ap.1.f.2.2.2.2.1,No ap.1.f.2.2.2.2.2.1,ca] 26,.box eu [No ao.2.1,No ao.2.2] 28,.box et [No ao.1.f.1,b3,Ab5 ao.1.f.2.2.1,b5,No ao.1.f.2.2.2.2.1,No ao.1.f.2.2.2.2.2.1,b6] 26,.box ep [No cp.2.1,No cp.2.2] 28,.box en [No co.2.1,No co.2.2] 28,.box ek [No cn.2.1,No cn.2.2] 28,.box ei [No cm.2.1,No cm.2.2] 28,.box eg [No k.2.1,No k.2.2] 28,.box ef [No k.1.1.1,bt,No k.1.2.1.1,bu,bv] 52,.box d1 [No an.2.1,No an.2.2] 28,.box d0 [No an.1.f.1,bq,Ab5 an.1.f.2.2.1,br,No an.1.f.2.2.2.2.1,No an.1.f.2.2.2.2.2.1,bs] 26,.box b8 [No x6.2.1,No x6.2.2] 28,.box b4 [No 10,Aa4,(Ab5 []),Aa4,No 0,No 0,v3] 26]) (hp z)/\z.heap[e0]? = some (.cells [No cl.2.1,No cl.2.2].toArray 28 (0,0))/\z.heap[ez]? = some (.cells [No ap.2.1,No ap.2.2].toArray 28 (0,0))/\z.heap[ey]? = some (.cells [No ap.1.f.1,b7,Ab5 ap.1.f.2.2.1,b9,No ap.1.f.2.2.2.2.1,No ap.1.f.2.2.2.2.2.1,ca].toArray 26 (0,0))/\z.heap[eu]? = some (.cells [No ao.2.1,No ao.2.2].toArray 28 (0,0))/\z.heap[et]? = some (.cells [No ao.1.f.1,b3,Ab5 ao.1.f.2.2.1,b5,No ao.1.f.2.2.2.2.1,No ao.1.f.2.2.2.2.2.1,b6].toArray 26 (0,0))/\z.heap[ep]? = some (.cells [No cp.2.1,No cp.2.2].toArray 28 (0,0))/\z.heap[en]? = some (.cells [No co.2.1,No co.2.2].toArray 28 (0,0))/\z.heap[ek]? = some (.cells [No cn.2.1,No cn.2.2].toArray 28 (0,0))/\z.heap[ei]? = some (.cells [No cm.2.1,No cm.2.2].toArray 28 (0,0))/\z.heap[eg]? = some (.cells [No k.2.1,No k.2.2].toArray 28 (0,0))/\z.heap[ef]? = some (.cells [No k.1.1.1,bt,No k.1.2.1.1,bu,bv].toArray 52 (0,0))/\z.heap[d1]? = some (.cells [No an.2.1,No an.2.2].toArray 28 (0,0))/\z.heap[d0]? = some (.cells [No an.1.f.1,bq,Ab5 an.1.f.2.2.1,br,No an.1.f.2.2.2.2.1,No an.1.f.2.2.2.2.2.1,bs].toArray 26 (0,0))/\z.heap[b8]? = some (.cells [No x6.2.1,No x6.2.2].toArray 28 (0,0))/\z.heap[b4]? = some (.cells [No 10,Aa4,(Ab5 []),Aa4,No 0,No 0,v3].toArray 26 (0,0))) mixed Z (fun a i9 ds=>?_)
  have m:=ay.call ds;have cz:=AR ay ds;have b:=m.rG H;refine Nv ⟨b.trans (Ao m),m.at (i:=0) Z,m.at (i:=1) Z,m.at (i:=2) Z,m.at (i:=3) Z,m.at (i:=4) Z,m.at (i:=5) Z,m.at (i:=6) Z,m.at (i:=7) Z,m.at (i:=8) Z,m.at (i:=9) Z,m.at (i:=10) Z,m.at (i:=11) Z,m.at (i:=12) Z,m.at (i:=13) Z,m.at (i:=14) Z⟩ fun kI149=>A9 0 a kI149 Z (fun _ _=>Ai Z) Z<|A9 1 a kI149 Z (fun _ _=>Nk Z Z) Z<|A9 2 a kI149 Z (fun _ _=>Ai Z) Z<|OI 132 Z (fun aq=>?_) (fun aq=>?_)
  ·have h:=OE (of_decide_eq_true aq) h;refine IV 3 a kI149 Z Z Z Z aq (fun _ hI=>MR hI.2.2.2.2.2.2.2.2.2.2.2.2.2.1) Z<|IV 4 a kI149 Z Z Z Z aq (fun _ hI=>MR hI.2.2.2.2.2.2.2.2.2.2.2.2.2.2.2) Z<|FX 5 Z<|Ab aq<|Ax h fun ja fn h=>?_;have ad:=ad.mono (Aa (az.trans (a2.trans (a3.trans a4))));have ae:=ae.mono (Aa (az.trans (a2.trans (a3.trans a4))));have af:=af.mono (Aa (az.trans (a2.trans (a3.trans a4))));have g:=g.trans (Aa (dj.trans (dk.trans (dl.trans (dm.trans (bh.trans (bi.trans (bj.trans bk))))))));have d:=d.trans (Aa (dn.trans (bl.trans (bm.trans (bn.trans bo)))));have c:=c.trans (Aa (dp.trans (dq.trans (dr.trans cz))))
   refine AF m (S9 (a0:=an.1) (a1:=(Qv.mk (10:Int) ([]) ([]:Ac3) ([]) (0:Int) (0:Int) ([x1]))) _ _ (Ao m) ((((((ad.mono j).mono e).mono g).mono d).mono c).mono b) ((((((ae.mono j).mono e).mono g).mono d).mono c).mono b) ((((((af.mono j).mono e).mono g).mono d).mono c).mono b) (AH.nil _ _) (AH.nil _ _) ((((((aw.mono j).mono e).mono g).mono d).mono c).mono b) fn) ?_;intro jb im q e1;have b:=b.trans (Aa e1);refine AX ⟨b.trans (Ao q),q.at (i:=0) Z,q.at (i:=1) Z,q.at (i:=2) Z,q.at (i:=3) Z,q.at (i:=4) Z,q.at (i:=5) Z,q.at (i:=6) Z,q.at (i:=7) Z,q.at (i:=8) Z,q.at (i:=9) Z,q.at (i:=10) Z,q.at (i:=11) Z,q.at (i:=12) Z,q.at (i:=13) Z,q.at (i:=14) Z⟩ fun kI154=>A9 6 a kI154 Z (fun _ _=>AB aq Z) Z<|A9 7 a kI154 Z (fun _ _=>Ai Z) Z<|OI 137 Z (fun ar=>?_) (fun ar=>?_)
   ·have h:=Y4 ar h;refine IV 8 a kI154 Z Z Z Z ar (fun _ _=>Ai Z) Z<|FX 9 Z<|Ab ar<|B7 [1] (r:=(.int .i64)) (fun _=>Jp _ _) q (.c1 Z .nil) ?_;intro jc jd io t e2 fo;have b:=b.trans (Aa e2);refine AX ⟨b.trans (Ao t),t.at (i:=0) Z,t.at (i:=1) Z,t.at (i:=2) Z,t.at (i:=3) Z,t.at (i:=4) Z,t.at (i:=5) Z,t.at (i:=6) Z,t.at (i:=7) Z,t.at (i:=8) Z,t.at (i:=9) Z,t.at (i:=10) Z,t.at (i:=11) Z,t.at (i:=12) Z,t.at (i:=13) Z,t.at (i:=14) Z⟩ fun kI158=>FX 10 Z<|Ab ar<|Ax h fun je fp h=>?_;have ch:=ch.mono (Aa (df.trans (dg.trans (dh.trans (di.trans (ct.trans (cu.trans (cv.trans (cw.trans (b1.trans b2))))))))));refine AF t (XC _ _ (Ao t) ((((ch.mono g).mono d).mono c).mono b) fo fp) ?_;intro jf ip o e3;have b:=b.trans (Aa e3)
    refine AX ⟨b.trans (Ao o),o.at (i:=0) Z,o.at (i:=1) Z,o.at (i:=2) Z,o.at (i:=3) Z,o.at (i:=4) Z,o.at (i:=5) Z,o.at (i:=6) Z,o.at (i:=7) Z,o.at (i:=8) Z,o.at (i:=9) Z,o.at (i:=10) Z,o.at (i:=11) Z,o.at (i:=12) Z,o.at (i:=13) Z,o.at (i:=14) Z⟩ fun kI161=>A9 11 a kI161 Z (fun _ _=>AB ar Z) Z<|A9 12 a kI161 Z (fun _ _=>Ai Z) Z<|OI 142 Z (fun au=>?_) (fun au=>?_)
    ·have h:=Y4 au h;refine IV 13 a kI161 Z Z Z Z au (fun _ _=>Ai Z) Z ?_;have ci:=ci.mono (Aa (ct.trans (cu.trans (cv.trans (cw.trans (b1.trans b2))))));refine IV 14 a kI161 Z Z Z Z au (fun _ _=>Bc ((((ci.mono g).mono d).mono c).mono b)) Z<|IV 15 a kI161 Z Z Z Z au (fun _ _=>Ai Z) Z<|A9 16 a kI161 Z (fun _ _=>AB au Z) Z<|A9 17 a kI161 Z (fun _ _=>Ai Z) Z<|OI 147 Z (fun am=>?_) (fun am=>?_)
     ·have h:=OE (of_decide_eq_true am) h;refine IV 18 a kI161 Z Z Z Z am (fun _ _=>Ai Z) Z<|FX 19 Z<|Ab am<|Ow [(99:UInt8),(111:UInt8)] (r:=.byte) (fun _=>Abg _ _ _) (BJ 2) hH o (.c1 Z (.c1 Z .nil)) ?_;intro jg jh iq ac e4 fq;have b:=b.trans (Aa e4);refine AX ⟨b.trans (Ao ac),ac.at (i:=1) Z,ac.at (i:=2) Z,ac.at (i:=3) Z,ac.at (i:=4) Z,ac.at (i:=5) Z,ac.at (i:=6) Z,ac.at (i:=7) Z,ac.at (i:=8) Z,ac.at (i:=9) Z,ac.at (i:=10) Z,ac.at (i:=11) Z,ac.at (i:=12) Z,ac.at (i:=13) Z,ac.at (i:=14) Z,ac.at (i:=15) Z⟩ fun kI167=>FX 20 Z<|Ab am<|Az h fun fr h=>Adh 0 Z Afr AcI hH ac Z fq fr ?_;intro ji u e5 fs;have b:=b.trans (Aa e5)
      refine AX ⟨b.trans (Ao u),u.at (i:=0) Z,u.at (i:=1) Z,u.at (i:=2) Z,u.at (i:=3) Z,u.at (i:=4) Z,u.at (i:=5) Z,u.at (i:=6) Z,u.at (i:=7) Z,u.at (i:=8) Z,u.at (i:=9) Z,u.at (i:=10) Z,u.at (i:=11) Z,u.at (i:=12) Z,u.at (i:=13) Z,u.at (i:=14) Z⟩ fun kI170=>FX 21 Z<|Ab am<|Ax h fun jj ft h=>?_;have cj:=cj.mono (Aa (b1.trans b2));refine AF u (Of _ _ (Ao u) ((((cj.mono g).mono d).mono c).mono b) fs ft) ?_;intro jk ir p e6;have b:=b.trans (Aa e6);refine AX ⟨b.trans (Ao p),p.at (i:=0) Z,p.at (i:=1) Z,p.at (i:=2) Z,p.at (i:=3) Z,p.at (i:=4) Z,p.at (i:=5) Z,p.at (i:=6) Z,p.at (i:=7) Z,p.at (i:=8) Z,p.at (i:=9) Z,p.at (i:=10) Z,p.at (i:=11) Z,p.at (i:=12) Z,p.at (i:=13) Z,p.at (i:=14) Z⟩ fun kI173=>A9 22 a kI173 Z (fun _ _=>AB am Z) Z<|A9 23 a kI173 Z (fun _ _=>Ai Z) Z<|OI 153 Z (fun av=>?_) (fun av=>?_)
      ·have h:=Y4 av h;refine IV 24 a kI173 Z Z Z Z av (fun _ hI=>MR hI.2.2.2.2.2.2.1) Z<|FX 25 Z<|Ab av<|Ax h fun jl fu h=>AF p (Aab _ _ (Ao p) fu) ?_;intro jm is x e7;have b:=b.trans (Aa e7);refine AX ⟨b.trans (Ao x),x.at (i:=0) Z,x.at (i:=1) Z,x.at (i:=2) Z,x.at (i:=3) Z,x.at (i:=4) Z,x.at (i:=5) Z,x.at (i:=6) Z,x.at (i:=7) Z,x.at (i:=8) Z,x.at (i:=9) Z,x.at (i:=10) Z,x.at (i:=11) Z,x.at (i:=12) Z,x.at (i:=13) Z,x.at (i:=14) Z⟩ fun kI178=>IV 26 a kI178 Z Z Z Z av (fun _ _=>Ada J2 (Nf _ _ _ _)) Z<|A9 27 a kI178 Z (fun _ _=>AB av Z) Z<|A9 28 a kI178 Z (fun _ _=>Ai Z) Z<|OI 158 Z (fun ax=>?_) (fun ax=>?_)
       ·have h:=OE (of_decide_eq_true ax) h;refine IV 29 a kI178 Z Z Z Z ax (fun _ _=>Ai Z) Z<|IV 30 a kI178 Z Z Z Z ax (fun _ _=>Nk Z Z) Z<|A9 31 a kI178 Z (fun _ _=>AB ax Z) Z<|A9 32 a kI178 Z (fun _ _=>Ai Z) Z<|ER<|A8 _ ⟨x,((aj.mono c).mono b),((ak.mono c).mono b),((al.mono c).mono b),(((ag.mono d).mono c).mono b),(((ah.mono d).mono c).mono b),(((ai.mono d).mono c).mono b),(((((y.mono e).mono g).mono d).mono c).mono b),(((((aa.mono e).mono g).mono d).mono c).mono b),(((((ab.mono e).mono g).mono d).mono c).mono b),((((((ad.mono j).mono e).mono g).mono d).mono c).mono b),((((((ae.mono j).mono e).mono g).mono d).mono c).mono b),((((((af.mono j).mono e).mono g).mono d).mono c).mono b),((((((aw.mono j).mono e).mono g).mono d).mono c).mono b),h⟩
       have h:=OF (of_decide_eq_false ax) h;refine C7 29 a kI178 Z Z Z Z ax Z<|C7 30 a kI178 Z Z Z Z ax Z<|A9 31 a kI178 Z (fun _ _=>AM ax Z) Z<|A9 32 a kI178 Z (fun _ _=>Ai Z) Z<|ER<|A8 _ ⟨x,((aj.mono c).mono b),((ak.mono c).mono b),((al.mono c).mono b),(((ag.mono d).mono c).mono b),(((ah.mono d).mono c).mono b),(((ai.mono d).mono c).mono b),(((((y.mono e).mono g).mono d).mono c).mono b),(((((aa.mono e).mono g).mono d).mono c).mono b),(((((ab.mono e).mono g).mono d).mono c).mono b),((((((ad.mono j).mono e).mono g).mono d).mono c).mono b),((((((ae.mono j).mono e).mono g).mono d).mono c).mono b),((((((af.mono j).mono e).mono g).mono d).mono c).mono b),((((((aw.mono j).mono e).mono g).mono d).mono c).mono b),h⟩
      have h:=Y5 av h;refine C7 24 a kI173 Z Z Z Z av Z<|C7 25 a kI173 Z Z Z Z av Z<|C7 26 a kI173 Z Z Z Z av Z<|A9 27 a kI173 Z (fun _ _=>AM av Z) Z<|A9 28 a kI173 Z (fun _ _=>Ai Z) Z<|C7 29 a kI173 Z Z Z Z Z Z<|C7 30 a kI173 Z Z Z Z Z Z<|A9 31 a kI173 Z (fun _ _=>AM Z Z) Z<|A9 32 a kI173 Z (fun _ _=>Ai Z) Z<|ER ?_
      refine A8 _ ⟨p,((aj.mono c).mono b),((ak.mono c).mono b),((al.mono c).mono b),(((ag.mono d).mono c).mono b),(((ah.mono d).mono c).mono b),(((ai.mono d).mono c).mono b),(((((y.mono e).mono g).mono d).mono c).mono b),(((((aa.mono e).mono g).mono d).mono c).mono b),(((((ab.mono e).mono g).mono d).mono c).mono b),((((((ad.mono j).mono e).mono g).mono d).mono c).mono b),((((((ae.mono j).mono e).mono g).mono d).mono c).mono b),((((((af.mono j).mono e).mono g).mono d).mono c).mono b),((((((aw.mono j).mono e).mono g).mono d).mono c).mono b),h⟩
     have h:=OF (of_decide_eq_false am) h;refine C7 18 a kI161 Z Z Z Z am Z<|C7 19 a kI161 Z Z Z Z am Z<|C7 20 a kI161 Z Z Z Z am Z<|C7 21 a kI161 Z Z Z Z am Z<|A9 22 a kI161 Z (fun _ _=>AM am Z) Z<|A9 23 a kI161 Z (fun _ _=>Ai Z) Z<|C7 24 a kI161 Z Z Z Z Z Z<|C7 25 a kI161 Z Z Z Z Z Z<|C7 26 a kI161 Z Z Z Z Z Z<|A9 27 a kI161 Z (fun _ _=>AM Z Z) Z<|A9 28 a kI161 Z (fun _ _=>Ai Z) Z<|C7 29 a kI161 Z Z Z Z Z Z<|C7 30 a kI161 Z Z Z Z Z Z<|A9 31 a kI161 Z (fun _ _=>AM Z Z) Z<|A9 32 a kI161 Z (fun _ _=>Ai Z) Z<|ER ?_
     refine A8 _ ⟨o,((aj.mono c).mono b),((ak.mono c).mono b),((al.mono c).mono b),(((ag.mono d).mono c).mono b),(((ah.mono d).mono c).mono b),(((ai.mono d).mono c).mono b),(((((y.mono e).mono g).mono d).mono c).mono b),(((((aa.mono e).mono g).mono d).mono c).mono b),(((((ab.mono e).mono g).mono d).mono c).mono b),((((((ad.mono j).mono e).mono g).mono d).mono c).mono b),((((((ae.mono j).mono e).mono g).mono d).mono c).mono b),((((((af.mono j).mono e).mono g).mono d).mono c).mono b),((((((aw.mono j).mono e).mono g).mono d).mono c).mono b),h⟩
    have h:=Y5 au h;refine C7 13 a kI161 Z Z Z Z au Z<|C7 14 a kI161 Z Z Z Z au Z<|C7 15 a kI161 Z Z Z Z au Z<|A9 16 a kI161 Z (fun _ _=>AM au Z) Z<|A9 17 a kI161 Z (fun _ _=>Ai Z) Z<|C7 18 a kI161 Z Z Z Z Z Z<|C7 19 a kI161 Z Z Z Z Z Z<|C7 20 a kI161 Z Z Z Z Z Z<|C7 21 a kI161 Z Z Z Z Z Z<|A9 22 a kI161 Z (fun _ _=>AM Z Z) Z<|A9 23 a kI161 Z (fun _ _=>Ai Z) Z<|C7 24 a kI161 Z Z Z Z Z Z<|C7 25 a kI161 Z Z Z Z Z Z<|C7 26 a kI161 Z Z Z Z Z Z<|A9 27 a kI161 Z (fun _ _=>AM Z Z) Z<|A9 28 a kI161 Z (fun _ _=>Ai Z) Z<|C7 29 a kI161 Z Z Z Z Z Z<|C7 30 a kI161 Z Z Z Z Z Z ?_
    refine A9 31 a kI161 Z (fun _ _=>AM Z Z) Z<|A9 32 a kI161 Z (fun _ _=>Ai Z) Z<|ER<|A8 _ ⟨o,((aj.mono c).mono b),((ak.mono c).mono b),((al.mono c).mono b),(((ag.mono d).mono c).mono b),(((ah.mono d).mono c).mono b),(((ai.mono d).mono c).mono b),(((((y.mono e).mono g).mono d).mono c).mono b),(((((aa.mono e).mono g).mono d).mono c).mono b),(((((ab.mono e).mono g).mono d).mono c).mono b),((((((ad.mono j).mono e).mono g).mono d).mono c).mono b),((((((ae.mono j).mono e).mono g).mono d).mono c).mono b),((((((af.mono j).mono e).mono g).mono d).mono c).mono b),((((((aw.mono j).mono e).mono g).mono d).mono c).mono b),h⟩
   have h:=Y5 ar h;refine C7 8 a kI154 Z Z Z Z ar Z<|C7 9 a kI154 Z Z Z Z ar Z<|C7 10 a kI154 Z Z Z Z ar Z<|A9 11 a kI154 Z (fun _ _=>AM ar Z) Z<|A9 12 a kI154 Z (fun _ _=>Ai Z) Z<|C7 13 a kI154 Z Z Z Z Z Z<|C7 14 a kI154 Z Z Z Z Z Z<|C7 15 a kI154 Z Z Z Z Z Z<|A9 16 a kI154 Z (fun _ _=>AM Z Z) Z<|A9 17 a kI154 Z (fun _ _=>Ai Z) Z<|C7 18 a kI154 Z Z Z Z Z Z<|C7 19 a kI154 Z Z Z Z Z Z<|C7 20 a kI154 Z Z Z Z Z Z<|C7 21 a kI154 Z Z Z Z Z Z<|A9 22 a kI154 Z (fun _ _=>AM Z Z) Z<|A9 23 a kI154 Z (fun _ _=>Ai Z) Z<|C7 24 a kI154 Z Z Z Z Z Z<|C7 25 a kI154 Z Z Z Z Z Z<|C7 26 a kI154 Z Z Z Z Z Z ?_
   refine A9 27 a kI154 Z (fun _ _=>AM Z Z) Z<|A9 28 a kI154 Z (fun _ _=>Ai Z) Z<|C7 29 a kI154 Z Z Z Z Z Z<|C7 30 a kI154 Z Z Z Z Z Z<|A9 31 a kI154 Z (fun _ _=>AM Z Z) Z<|A9 32 a kI154 Z (fun _ _=>Ai Z) Z<|ER<|A8 _ ⟨q,((aj.mono c).mono b),((ak.mono c).mono b),((al.mono c).mono b),(((ag.mono d).mono c).mono b),(((ah.mono d).mono c).mono b),(((ai.mono d).mono c).mono b),(((((y.mono e).mono g).mono d).mono c).mono b),(((((aa.mono e).mono g).mono d).mono c).mono b),(((((ab.mono e).mono g).mono d).mono c).mono b),((((((ad.mono j).mono e).mono g).mono d).mono c).mono b),((((((ae.mono j).mono e).mono g).mono d).mono c).mono b),((((((af.mono j).mono e).mono g).mono d).mono c).mono b),((((((aw.mono j).mono e).mono g).mono d).mono c).mono b),h⟩
  have h:=OF (of_decide_eq_false aq) h;refine C7 3 a kI149 Z Z Z Z aq Z<|C7 4 a kI149 Z Z Z Z aq Z<|C7 5 a kI149 Z Z Z Z aq Z<|A9 6 a kI149 Z (fun _ _=>AM aq Z) Z<|A9 7 a kI149 Z (fun _ _=>Ai Z) Z<|C7 8 a kI149 Z Z Z Z Z Z<|C7 9 a kI149 Z Z Z Z Z Z<|C7 10 a kI149 Z Z Z Z Z Z<|A9 11 a kI149 Z (fun _ _=>AM Z Z) Z<|A9 12 a kI149 Z (fun _ _=>Ai Z) Z<|C7 13 a kI149 Z Z Z Z Z Z<|C7 14 a kI149 Z Z Z Z Z Z<|C7 15 a kI149 Z Z Z Z Z Z<|A9 16 a kI149 Z (fun _ _=>AM Z Z) Z<|A9 17 a kI149 Z (fun _ _=>Ai Z) Z<|C7 18 a kI149 Z Z Z Z Z Z<|C7 19 a kI149 Z Z Z Z Z Z<|C7 20 a kI149 Z Z Z Z Z Z ?_
  refine C7 21 a kI149 Z Z Z Z Z Z<|A9 22 a kI149 Z (fun _ _=>AM Z Z) Z<|A9 23 a kI149 Z (fun _ _=>Ai Z) Z<|C7 24 a kI149 Z Z Z Z Z Z<|C7 25 a kI149 Z Z Z Z Z Z<|C7 26 a kI149 Z Z Z Z Z Z<|A9 27 a kI149 Z (fun _ _=>AM Z Z) Z<|A9 28 a kI149 Z (fun _ _=>Ai Z) Z<|C7 29 a kI149 Z Z Z Z Z Z<|C7 30 a kI149 Z Z Z Z Z Z<|A9 31 a kI149 Z (fun _ _=>AM Z Z) Z<|A9 32 a kI149 Z (fun _ _=>Ai Z) Z<|ER ?_;have ad:=ad.mono (Aa (az.trans (a2.trans (a3.trans a4))));have ae:=ae.mono (Aa (az.trans (a2.trans (a3.trans a4))));have af:=af.mono (Aa (az.trans (a2.trans (a3.trans a4))));have g:=g.trans (Aa (dj.trans (dk.trans (dl.trans (dm.trans (bh.trans (bi.trans (bj.trans bk))))))))
  have d:=d.trans (Aa (dn.trans (bl.trans (bm.trans (bn.trans bo)))));have c:=c.trans (Aa (dp.trans (dq.trans (dr.trans cz))));refine A8 _ ⟨m,((aj.mono c).mono b),((ak.mono c).mono b),((al.mono c).mono b),(((ag.mono d).mono c).mono b),(((ah.mono d).mono c).mono b),(((ai.mono d).mono c).mono b),(((((y.mono e).mono g).mono d).mono c).mono b),(((((aa.mono e).mono g).mono d).mono c).mono b),(((((ab.mono e).mono g).mono d).mono c).mono b),((((((ad.mono j).mono e).mono g).mono d).mono c).mono b),((((((ae.mono j).mono e).mono g).mono d).mono c).mono b),((((((af.mono j).mono e).mono g).mono d).mono c).mono b),((((((aw.mono j).mono e).mono g).mono d).mono c).mono b),h⟩
 rintro bp it ⟨fv,hq,hr,hs,ht,hu,hv,hw,hx,hy,hz,hm,hn,ho,h⟩;refine Ay ?_
 cases h
 refine Am Z ⟨fv.ext,Z⟩
end
end Go.Proofs.YtekmbcbgknmhiaaGreatDoor
end
