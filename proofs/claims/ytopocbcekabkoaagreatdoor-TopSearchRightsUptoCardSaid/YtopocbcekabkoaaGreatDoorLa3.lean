/- Texts of a claim, merged. -/
import Derived.Test.YtopocbcekabkoaaGreatDoorLa2
import Derived.KernelRfl
import Derived.Shelf.Sort.Plain
import Derived.Shelf.Slices.In.SortNone
import Derived.Shelf.Slices.CompactI
import Derived.Shelf.Slices.CompactS
import Derived.Shelf.SlSortCmp.NoneTotal
import Derived.Maps.RangeRun
open _root_.Go.Proofs.Tryz renaming underlying33→Aco,underlying125→Ads,underlying27→Ae1,underlying35→Ae3,underlying5→Ae4,underlying26→Ae5,underlying90→Ae7,underlying9→Aev,underlying51→Ahe,underlying66→Ahg,underlying101→Ahh,underlying69→Ahi,underlying71→Ahm,underlying22→Ahp,underlying24→Ahv,underlying32→Ahw,underlying177→AiB
open Option renaming bind_some->Qzq,bind->Qq9,map->Qzx
open List renaming getD_eq_getElem?_getD->Qzj,getElem?_eq_getElem->Qzy,length_cons->Qzc,replicate->Qzv,length_map->Qza,length_append->Qzd,range->Qzb,mem_singleton->QzD,getElem?_eq_some_iff->Qz6,mem_cons->Qze,eq_nil_of_length_eq_zero->Qxd,mem_append->QzK,length_singleton->Qxv,map_cons->QzA,mem_range->QzE,getElem?_eq_none->QxJ,pairwise_cons->Qxx,flatMap_cons->QxX,map_append->Qxc,ext_getElem?->Qky,mergeSort_perm->QkZ,append->Qkz,pairwise_singleton->QkC,pairwise_mergeSort->Qjz,getElem?_take->Qjc
open Int renaming toNat_natCast->Qzk
open Prod renaming fst->Qzz
open Nat renaming le_refl->Qzu,blt->Qzw,zero_add->QzJ,mul_one->Qz9,le_trans->Qxy,mul_le_mul_right->QkA
open HAppend renaming hAppend->Qzf
open UInt8 renaming lt_iff_toNat_lt->Qx2
open ByteArray renaming size->Qx6
open Array renaming getElem?_append_left->Qja
set_option linter.unusedVariables false
set_option linter.unusedSimpArgs false
set_option linter.unusedSectionVars false
noncomputable section
namespace Go.Proofs.YtopocbcekabkoaaGreatDoor
open Go Go.E Go.RowKit Go.L
set_option maxHeartbeats 1000000
set_option maxRecDepth 10000
open _root_.Go.Proofs.Tryz
def DE(b:List Abv)(a:Int):Option (((List Abv)×Int)⊕((List Abv))):=
 AU (0<=a/\a<=(b.length:Int)) (AU (0<=a/\a<=((b.take a.toNat++Qzv (b.length - a.toNat) ([]:Abv)).length:Int)) (Qzx Sum.inr (some (((b.take a.toNat++Qzv (b.length - a.toNat) ([]:Abv)).take a.toNat)))))
def BY(b:Int):(List Abv)×Int×Int->Option (((List Abv)×Int×Int)⊕(((List Abv)×Int)⊕((List Abv)))):=fun⟨c,d,a⟩=>
 if a<((c.drop b.toNat).length:Int)then AU (0<=a/\a<((c.drop b.toNat).length:Int)) (AU (Bq (a - 1)) (AU (0<=(a - 1)/\(a - 1)<((c.drop b.toNat).length:Int)) (Qq9 (H6 ((c.drop b.toNat).getD a.toNat Qq2) ((c.drop b.toNat).getD ((a - 1).toNat) Qq2)) (fun e=>if !e then AU (0<=a/\a<((c.drop b.toNat).length:Int)) (AU (0<=d/\d<(c.length:Int)) (AU (Bq (d+1)) (AU (Bq (a+1)) (some (Sum.inl ((c.set d.toNat ((c.drop b.toNat).getD a.toNat Qq2)),(d+1),(a+1)))))))else AU (Bq (a+1)) (some (Sum.inl (c,d,(a+1))))))))else Qzx Sum.inr (DE c d)
def DF(a:Int)(s:(List Abv)×Int×Int):Option (((List Abv)×Int)⊕((List Abv))):=Go.L.run (BY a) s
def DG(b:List Abv)(a:Int):Option (((List Abv)×Int)⊕((List Abv))):=
 AU (Bq (a+1)) (some (Sum.inl (b,(a+1))))
def DH(a:List Abv):Option ((List Abv)):=
 some a
def B6:(List Abv)×Int->Option (((List Abv)×Int)⊕((List Abv))):=fun⟨b,a⟩=>
 if a<(b.length:Int)then AU (0<=a/\a<(b.length:Int)) (AU (Bq (a - 1)) (AU (0<=(a - 1)/\(a - 1)<(b.length:Int)) (Qq9 (H6 (b.getD a.toNat Qq2) (b.getD ((a - 1).toNat) Qq2)) (fun c=>if c then AU (0<=a/\a<=(b.length:Int)) ((DF a) (b,a,1))else(DG b) a))))else Qzx Sum.inr (DH b)
def Kp(s:(List Abv)×Int):Option ((List Abv)):=Go.L.run B6 s
def CQ(a0:List Abv):Option ((List Abv)):=
 if(a0.length:Int)<2 then some a0 else Kp (a0,1)
theorem Kq{w0 w:World}{H:PH}(hH:Le H (hp w0)){O:List BV}{a0:List Abv}{va0:Value}{xsa0:Qq6}(hL:Bk w0 (Ha [.row va0 9 1 (a0).length xsa0] O) w)(ba:AK .st (gz H w0 w (Ha [.row va0 9 1 (a0).length xsa0] O)) a0 xsa0){r:(List Abv)}(h:CQ a0=some r):
  Ok prog 244 [va0,.func (.func 245) #[] #[]] w (fun v w'=>∃(u0:Value) (y0:Qq6),v=u0/\Bk w0 (Ha [.row u0 9 1 (r).length y0] O) w'/\Le (fz w (Ha [.row va0 9 1 (a0).length xsa0] O)) (fz w' (Ha [.row u0 9 1 (r).length y0] O))/\AK .st (gz H w0 w' (Ha [.row u0 9 1 (r).length y0] O)) r y0):=by
 refine Cj (n:=66) [(0,va0),(1,.func (.func 245) #[] #[])] func244 Z Z Z Z ?_;have hT:=Le.refl (fz w (Ha [.row va0 9 1 (a0).length xsa0] O));refine A7 1 Z<|A6<|Bo 1 Z<|Ag (Tc 0 Z hL Z)<|AA 1 Z<|AL h ?_ ?_<;>intro cg h
 ·refine A7 2 Z<|Aw<|Am ?_
  cases h
  refine Ah Z ⟨va0,xsa0,Z,hL,hT,ba⟩
 refine Au<|Aq<|Bb ((List Abv)×Value×Qq6) (fun⟨am,ab,s⟩=>[(0,ab)]) (fun⟨am,ab,s⟩ wr=>C5 w0 (Ha [.row ab 9 1 (am).length s] O) wr fun Oz=>AK .st (gz H w0 wr Oz) am s/\Le (fz w (Ha [.row va0 9 1 (a0).length xsa0] O)) (fz wr Oz)/\DH am=some r) ?_ ?_
 ·refine A7 1 Z<|A2 ?_;obtain⟨av,h⟩:=AR h;refine Bj ((List Abv)×Int×Value×Qq6×Nat) (fun⟨k,c,f,g,n⟩=>[(0,f),(1,.func (.func 245) #[] #[]),(5,No c)]) (fun⟨k,c,f,g,n⟩ wr=>C5 w0 (Ha [.row f 9 1 (k).length g] O) wr fun Oz=>AK .st (gz H w0 wr Oz) k g/\Le (fz w (Ha [.row va0 9 1 (a0).length xsa0] O)) (fz wr Oz)/\DR B6 n (k,c)=some r) (fun⟨k,c,f,g,n⟩=>n) (a0,1,va0,xsa0,av) Z ⟨hL,ba,hT,h⟩ ?_;rintro⟨k,c,f,g,nn270⟩ ch ⟨ag,a,hT,h⟩;obtain⟨av,aw,rfl,h,ao⟩:=AQ h;refine A6<|Bo 2 Z<|Ag (Tc 0 Z ag Z)<|AA 1 Z<|AL h ?_ ?_<;>intro bh h
  ·refine Au<|Aq<|Bb Int (fun t=>[(0,f),(1,.func (.func 245) #[] #[]),(5,No t)]) (fun t wr=>C5 w0 (Ha [.row f 9 1 (k).length g] O) wr fun Oz=>AK .st (gz H w0 wr Oz) k g/\Le (fz w (Ha [.row va0 9 1 (a0).length xsa0] O)) (fz wr Oz)/\(DG k) t=some aw) ?_ ?_
   ·refine A2<|BZ (Qqz 0 10 (.tail 10)) mixed Qqb (fun cp ax=>?_);have ah:=ag.call ax;have ac:=AH ag ax;refine B9 3 Z<|Ax h fun ay h=>?_;have a:=a.mono (Ab ac);refine CP Z Z Z Ae5 (ah.MZ hH (i:=0) Z a) c.toNat (Cx ay) (AM ay) Z ?_;rintro cq _ rfl bi;refine B2 Z (AT bi (Le.refl _)) Z<|B9 2 Z<|Ax h fun bj h=>B2 Z (Ay bj) Z<|Ax h fun az h=>CP Z Z Z Ae5 (ah.MZ hH (i:=0) Z a) ((c - 1).toNat) (Cx az) (AM az) Z ?_;rintro cr _ rfl bk;refine B2 Z (AT bk (Le.refl _)) Z<|Bt (fun cs a1=>?_);have a2:=ah.call a1;have u:=AH ah a1;refine A1 h fun ct bl h=>P1 a2 (Nv _ _ (Av a2) bl) ?_;rintro _ cu rfl ci ap x;refine Ad<|Bi h ?_ ?_<;>intro bm h
    ·refine Bo 2 Z<|Ax h fun bn h=>Afq 0 Z Ae5 ap Z bn fun ce ai=>AA 1 Z<|Bb ((List Abv)×Int×Qq6) (fun⟨y,p,ad⟩=>[(0,f),(5,No p)]) (fun⟨y,p,ad⟩ wr=>C5 w0 (Ha [.row f 9 1 (y).length ad] O) wr fun Oz=>AK .st (gz H w0 wr Oz) y ad/\Le (fz w (Ha [.row va0 9 1 (a0).length xsa0] O)) (fz wr Oz)/\DE y p=some aw) ?_ ?_
     ·refine A7 1 Z<|A2 ?_;obtain⟨aq,h⟩:=AR h;have hT:=hT.trans (ac.trans (u.trans x));have a:=a.mono (Ab (u.trans x));refine Bj ((List Abv)×Int×Int×Qq6×Nat) (fun⟨m,e,d,o,n⟩=>[(0,f),(1,.func (.func 245) #[] #[]),(5,No e),(6,ce),(7,No d)]) (fun⟨m,e,d,o,n⟩ wr=>C5 w0 (Ha [.row f 9 1 (m).length o] O) wr fun Oz=>AK .st (gz H w0 wr Oz) m o/\Le (fz w (Ha [.row va0 9 1 (a0).length xsa0] O)) (fz wr Oz)/\DR (BY c) n (m,e,d)=some aw) (fun⟨m,e,d,o,n⟩=>n) (k,c,1,g,aq) Z ⟨ap,a,hT,h⟩ ?_;rintro⟨m,e,d,o,nn461⟩ cj ⟨aj,b,hT,h⟩;obtain⟨aq,cv,rfl,h,ar⟩:=AQ h;refine A6<|Bo 2 Z<|Ag (AZ (Aap.vec ai (aj.MZ hH (i:=0) Z b) Z))<|AA 1 Z<|AL h ?_ ?_<;>intro bo h
      ·refine Au<|Aq<|A6<|A2<|BZ (Qqz 0 10 (.tail 10)) mixed Qqb (fun cw a3=>?_);have ak:=aj.call a3;have an:=AH aj a3;refine B9 3 Z<|Ax h fun a4 h=>?_;have b:=b.mono (Ab an);refine CP Z Z Z Ae5 (Aap.vec ai (ak.MZ hH (i:=0) Z b) Z) d.toNat (Cx a4) (AM a4) Z ?_;rintro cx _ rfl bp;refine B2 Z (AT bp (Le.refl _)) Z<|B9 2 Z<|Ax h fun bq h=>B2 Z (Ay bq) Z<|Ax h fun a5 h=>CP Z Z Z Ae5 (Aap.vec ai (ak.MZ hH (i:=0) Z b) Z) ((d - 1).toNat) (Cx a5) (AM a5) Z ?_;rintro cy _ rfl br;refine B2 Z (AT br (Le.refl _)) Z<|Bt (fun cz a6=>?_);have a7:=ak.call a6;have ae:=AH ak a6;refine A1 h fun c0 bs h=>P1 a7 (Nv _ _ (Av a7) bs) ?_;rintro _ c1 rfl ck al af;refine AA 1 Z<|Bi h ?_ ?_<;>intro bt h
       ·refine Bo 4 Z<|Ax h fun a8 h=>?_;have b:=b.mono (Ab (ae.trans af));refine AW (Aap.vec ai (al.MZ hH (i:=0) Z b) Z) d.toNat (Cx a8) (AM a8) ?_;rintro c2 _ rfl bu;refine Ag (AT bu (Le.refl _))<|Ax h fun au h=>Ki 0 Z Ae5 Dl.e al Z e.toNat (Cx au) (AM au) fun c3 bv=>Kl 0 e.toNat ((m.drop c.toNat).getD d.toNat Qq2) Z Z hH al Z b bv (AM au) Z fun c4 bw bx bb bz=>Ad<|An<|As 1 Z<|Ax h fun b0 h=>Ag (Ay b0)<|As 1 Z<|AE<|Az<|Aq<|An<|As 1 Z<|Ax h fun b1 h=>Ag (Ay b1)<|As 1 Z<|AE ?_;have h:=Bw.again h ar;have hT:=hT.trans (an.trans (ae.trans (af.trans bb)));refine AD (_,_,_,_,_) Z ⟨bx,bz,hT,h⟩
       refine Au<|Az<|Aq<|An<|As 1 Z<|Ax h fun b2 h=>Ag (Ay b2)<|As 1 Z<|AE ?_;have h:=Bw.again h ar;have hT:=hT.trans (an.trans (ae.trans af));have b:=b.mono (Ab (ae.trans af));refine AD (_,_,_,_,_) Z ⟨al,b,hT,h⟩
      refine Bf<|A5<|A3 ?_;have h:=Bw.out h ar;refine AY<|A8 (_,_,_) ⟨aj,b,hT,h⟩
     have hT:=hT.trans (ac.trans (u.trans x));rintro⟨y,p,ad⟩ cl ⟨a9,bc,hT,h⟩;refine Bo 2 Z<|Ax h fun b3 h=>Afq 0 Z Ae5 a9 Z b3 fun c5 b4=>Afr (r:=.st) (l:=y) (z:=([]:Abv)) 0 b4 Ae5 hH a9 Z bc (fun _=>Z) fun c6 cm b5 bd b6=>Ad<|Bo 2 Z<|Ax h fun b7 h=>AjC (r:=.st) (l:=(y.take p.toNat++Qzv (y.length - p.toNat) ([]:Abv))) 0 Z Ae5 hH b5 Z b6 b7 fun cf b8 b9 be ca=>AA 1 Z<|Aw<|Al<|AN<|Bc ?_;have h:=Bw.out h ao;refine Al<|AN ?_
     cases h
     refine Ah Z ?_;have hT:=hT.trans (bd.trans be);exact⟨cf,b8,Z,b9,hT,ca⟩
    refine Au<|Az ?_;have hT:=hT.trans (ac.trans (u.trans x));have a:=a.mono (Ab (u.trans x));refine A8 _ ⟨ap,a,hT,h⟩
   rintro t cn ⟨cb,a,hT,h⟩;refine An<|As 1 Z<|Ax h fun cc h=>Ag (Ay cc)<|As 1 Z<|AE ?_;have h:=Bw.again h ao;refine AD (_,_,_,_,_) Z ⟨cb,a,hT,h⟩
  refine Bf<|A5<|A3 ?_;have h:=Bw.out h ao;refine AY<|A8 (_,_,_) ⟨ag,a,hT,h⟩
 rintro⟨am,ab,s⟩ co ⟨cd,bf,hT,h⟩;refine A7 2 Z<|Aw ?_
 cases h
 refine Ah Z ⟨ab,s,Z,cd,hT,bf⟩
def Ex(a0:Abv)(a1:Abv):Option Bool:=
 Qq9 (JL a0) (fun a=>Qq9 (CQ a) (fun b=>Qq9 (JL a1) (fun c=>Qq9 (Qi b c) (fun d=>some d))))
section
variable(w:World)(H:PH)(hH:Le H (hp w)) include hH
theorem Lq{a0 a1:Abv}{r:Bool}(h:Ex a0 a1=some r):
  Qqv 198 [Abu a0,Abu a1] w (fun v w'=>v=.bool r):=by
 refine A4 13 [(0,(Abu a0)),(1,(Abu a1))] func198 Z fun hL=>A7 1 Z<|Bo 1 Z<|A1 h fun x l h=>Br hL (Ng _ _ (Av hL) l) ?_;rintro y w2 ⟨_,rfl,d⟩ m g j;obtain⟨ad,g,j,o⟩:=d.take hH hL m;refine A1 h fun x3 p h=>Fh (Kq (a0:=x) (O:=[]) hH g o p) ?_;rintro z w4 ⟨_,y4_0,rfl,b,aa,a⟩;refine AA 1 Z<|Bo 2 Z<|A1 h fun x5 q h=>Br b (Ng _ _ (Av b) q) ?_;rintro ab w6 ⟨_,rfl,e⟩ s c k;have f:=e.Cu hH b s;refine A1 h fun x7 t h=>?_;have a:=a.mono (Ab k);refine A9 c (V5 _ _ (Le.refl _) (c.MZ hH (i:=0) Z a) (f.mono (Av c)) t) fun w8 ae u ac=>AA 1 Z<|Aw ?_
 cases h
 refine Ah Z ⟨u.ext,Z⟩
end
end Go.Proofs.YtopocbcekabkoaaGreatDoor
end
noncomputable section
namespace Go
abbrev AlA:=Go.E.Rp.pair (Go.E.Rp.int .i64) (Go.E.Rp.int .i64)
end Go
namespace Go
abbrev Alr:=List Qq7
end Go
namespace Go.Proofs.YtopocbcekabkoaaGreatDoor
open Go Go.E Go.RowKit Go.L
set_option maxHeartbeats 1000000
set_option maxRecDepth 10000
open _root_.Go.Proofs.Tryz
def DX(a0 a1:Int):Option Al5:=
 some ((a0,a1))
section
variable(w:World)(H:PH)(hH:Le H (hp w)) include hH
theorem CF{a0 a1:Int}{r:Al5}(h:DX a0 a1=some r):
  Qqv 45 [No a0,No a1] w (fun v w'=>v=.agg #[No r.1,No r.2]):=by
 refine A4 8 [(0,No a0),(1,No a1)] func45 Z fun hL=>Ao<|AO AI.e Z hL fun e f b c _=>Ad<|Bo 2 Z<|Ag (Ba (fun _=>JI _ _ _))<|Ak 0 Z b Z fun g a d=>Ad<|Aw ?_
 cases h
 refine BX (.cell Z Ae3 Z AI.e (AP (i:=0) a Z)) ⟨a.ext,Z⟩
def DY:Option Int:=
 some ((-1))
def Bs(a0:Qq5)(a1:Int):Int->Option ((Int)⊕(Int)):=fun a=>
 if a<(a0.length:Int)then AU (0<=a/\a<(a0.length:Int)) (if a1=a0.getD a.toNat Qq2 then Qzx Sum.inr (some a)else AU (Bq (a+1)) (some (Sum.inl (a+1))))else Qzx Sum.inr DY
def F2(a0:Qq5)(a1 s:Int):Option Int:=Go.L.run (Bs a0 a1) s
def Fp(a0:Qq5)(a1:Int):Option Int:=
 (F2 a0 a1) (0:Int)
theorem P6{a0:Qq5}{a1:Int}{b:Value}(e:AS (.int .i64) H b a0){r:Int}(h:Fp a0 a1=some r):
  Qqv 193 [b,No a1] w (fun v w'=>v=No r):=by
 refine A4 19 [(0,b),(1,No a1)] func193 Z fun hL=>A7 1 Z<|Bb Unit (fun(_:Unit)=>[]) (fun(_:Unit) wr=>Bk w [] wr/\DY=some r) ?_ ?_
 ·refine Bo 1 Z<|Ag (AZ e)<|AA 1 Z<|A2 ?_;obtain⟨f,h⟩:=AR h;refine Bj (Int×Nat) (fun⟨a,n⟩=>[(0,b),(1,No a1),(7,No (a0.length:Int)),(8,No a)]) (fun⟨a,n⟩ wr=>Bk w [] wr/\DR (Bs a0 a1) n a=some r) (fun⟨a,n⟩=>n) (0,f) Z ⟨hL,h⟩ ?_;rintro⟨a,nn36⟩ o ⟨c,h⟩;obtain⟨f,q,rfl,h,d⟩:=AQ h;refine A7 1 Z<|A6<|AL h ?_ ?_<;>intro i h
  ·refine Au<|Aq<|A6<|A2<|A7 2 Z<|Bo 3 Z<|Ax h fun g h=>AW e a.toNat (Cx g) (AM g) ?_;rintro s _ rfl j;refine Ag (AT j (hH.trans c.arg))<|AA 1 Z<|AL h ?_ ?_<;>intro k h
   ·refine A7 2 Z<|Aw<|Al<|Am<|Bc ?_;have h:=Bw.out h d;refine Al<|AN ?_
    cases h
    refine Ah Z ⟨c.ext,Z⟩
   refine Au<|Az<|Aq<|An<|Ax h fun l h=>Ag (Ay l)<|As 1 Z<|AE ?_;have h:=Bw.again h d;refine AD (_,_) Z ⟨c,h⟩
  refine Bf<|A5<|A3 ?_;have h:=Bw.out h d;refine AY<|A8 () ⟨c,h⟩
 rintro _ p ⟨m,h⟩;refine A7 1 Z<|Aw ?_
 cases h
 refine Ah Z ⟨m.ext,Z⟩
def BH(a0:Qq5)(a1:Int):Option Bool:=
 Qq9 (Fp a0 a1) (fun a=>some (decide (0<=a)))
theorem Gt{a0:Qq5}{a1:Int}{a:Value}(b:AS (.int .i64) H a a0){r:Bool}(h:BH a0 a1=some r):
  Qqv 149 [a,No a1] w (fun v w'=>v=.bool r):=by
 refine A4 9 [(0,a),(1,No a1)] func149 Z fun hL=>A7 1 Z<|Bo 2 Z<|A1 h fun g c h=>A9 hL (P6 _ _ (Av hL) (b.mono  Aj) c) fun i f d e=>AA 2 Z<|Aw ?_
 cases h
 refine Ah Z ⟨d.ext,Z⟩
def EC:Option Int:=
 some ((-1))
def BD(a0:Alr)(a1:Int×Int):Int->Option ((Int)⊕(Int)):=fun a=>
 if a<(a0.length:Int)then AU (0<=a/\a<(a0.length:Int)) (if a1.1=(a0.getD a.toNat Qq2).1/\a1.2=(a0.getD a.toNat Qq2).2 then Qzx Sum.inr (some a)else AU (Bq (a+1)) (some (Sum.inl (a+1))))else Qzx Sum.inr EC
def Ho(a0:Alr)(a1:Int×Int)(s:Int):Option Int:=Go.L.run (BD a0 a1) s
def FG(a0:Alr)(a1:Int×Int):Option Int:=
 (Ho a0 a1) (0:Int)
theorem LH{a0:Alr}{a1:Int×Int}{b:Value}(e:AS AlA H b a0){r:Int}(h:FG a0 a1=some r):
  Qqv 191 [b,.agg #[No a1.1,No a1.2]] w (fun v w'=>v=No r):=by
 refine A4 19 [(0,b),(1,.agg #[No a1.1,No a1.2])] func191 Z fun hL=>Ao<|BM (t:=120) Z Z hL fun w1 k y z _=>AA 1 Z<|Bb Unit (fun(_:Unit)=>[]) (fun(_:Unit) wr=>Bk w [.box k [No a1.1,No a1.2] 120] wr/\EC=some r) ?_ ?_
 ·refine Bo 1 Z<|Ag (AZ e)<|AA 1 Z<|A2 ?_;obtain⟨f,h⟩:=AR h;refine Bj (Int×Nat) (fun⟨a,n⟩=>[(0,b),(3,(Abo k)),(7,No (a0.length:Int)),(8,No a)]) (fun⟨a,n⟩ wr=>Bk w [.box k [No a1.1,No a1.2] 120] wr/\DR (BD a0 a1) n a=some r) (fun⟨a,n⟩=>n) (0,f) Z ⟨y,h⟩ ?_;rintro⟨a,nn49⟩ aa ⟨g,h⟩;obtain⟨f,ac,rfl,h,c⟩:=AQ h;refine A7 1 Z<|A6<|AL h ?_ ?_<;>intro l h
  ·refine Au<|Aq<|A6<|A2<|A7 2 Z<|BZ (Qqz 0 6 (.tail 6)) mixed Qqb (fun ad m=>?_);have d:=g.call m;refine B2 Z (AJ 0 Z Fk.e d Z) Z<|B9 2 Z<|Ax h fun i h=>CP Z Z Z Ae7 e a.toNat (Cx i) (AM i) Z ?_;rintro ae _ ⟨_,_,rfl,rfl,rfl⟩ o;refine B2 Z (BI o (hH.trans d.arg)) Z<|B2 Z (AeL AjH (AkA _ _ _ _)) Z<|Bt (fun af p=>?_);have j:=d.call p;refine Ad<|AL h ?_ ?_<;>intro s h
   ·refine A7 2 Z<|Aw<|Al<|Am<|Bc ?_;have h:=Bw.out h c;refine Al<|AN ?_
    cases h
    refine Ah Z ⟨j.ext,Z⟩
   refine Au<|Az<|Aq<|An<|Ax h fun u h=>Ag (Ay u)<|As 1 Z<|AE ?_;have h:=Bw.again h c;refine AD (_,_) Z ⟨j,h⟩
  refine Bf<|A5<|A3 ?_;have h:=Bw.out h c;refine AY<|A8 () ⟨g,h⟩
 rintro _ ab ⟨x,h⟩;refine A7 1 Z<|Aw ?_
 cases h
 refine Ah Z ⟨x.ext,Z⟩
def Dd(a0:Alr)(a1:Int×Int):Option Bool:=
 Qq9 (FG a0 (a1.1,a1.2)) (fun a=>some (decide (0<=a)))
theorem KO{a0:Alr}{a1:Int×Int}{a:Value}(c:AS AlA H a a0){r:Bool}(h:Dd a0 a1=some r):
  Qqv 146 [a,.agg #[No a1.1,No a1.2]] w (fun v w'=>v=.bool r):=by
 refine A4 9 [(0,a),(1,.agg #[No a1.1,No a1.2])] func146 Z fun hL=>Ao<|BM (t:=120) Z Z hL fun j k b f _=>AA 1 Z<|Bo 1 Z<|Ag (AJ 0 Z Fk.e b Z)<|A1 h fun l d h=>A9 b (LH (a1:=(a1.1,a1.2)) _ _ (Av b) (c.mono  Aj) d) fun m i e g=>AA 2 Z<|Aw ?_
 cases h
 refine Ah Z ⟨e.ext,Z⟩
def Fq:Option Int:=
 some ((-1))
def Cc(a0:List Abv)(a1:Abv):Int->Option ((Int)⊕(Int)):=fun a=>
 if a<(a0.length:Int)then AU (0<=a/\a<(a0.length:Int)) (if a1=a0.getD a.toNat Qq2 then Qzx Sum.inr (some a)else AU (Bq (a+1)) (some (Sum.inl (a+1))))else Qzx Sum.inr Fq
def HJ(a0:List Abv)(a1:Abv)(s:Int):Option Int:=Go.L.run (Cc a0 a1) s
def Gu(a0:List Abv)(a1:Abv):Option Int:=
 (HJ a0 a1) (0:Int)
theorem MG{a0:List Abv}{a1:Abv}{b:Value}(e:AS .st H b a0){r:Int}(h:Gu a0 a1=some r):
  Qqv 70 [b,Abu a1] w (fun v w'=>v=No r):=by
 refine A4 19 [(0,b),(1,(Abu a1))] func70 Z fun hL=>A7 1 Z<|Bb Unit (fun(_:Unit)=>[]) (fun(_:Unit) wr=>Bk w [] wr/\Fq=some r) ?_ ?_
 ·refine Bo 1 Z<|Ag (AZ e)<|AA 1 Z<|A2 ?_;obtain⟨f,h⟩:=AR h;refine Bj (Int×Nat) (fun⟨a,n⟩=>[(0,b),(1,(Abu a1)),(7,No (a0.length:Int)),(8,No a)]) (fun⟨a,n⟩ wr=>Bk w [] wr/\DR (Cc a0 a1) n a=some r) (fun⟨a,n⟩=>n) (0,f) Z ⟨hL,h⟩ ?_;rintro⟨a,nn36⟩ o ⟨c,h⟩;obtain⟨f,q,rfl,h,d⟩:=AQ h;refine A7 1 Z<|A6<|AL h ?_ ?_<;>intro i h
  ·refine Au<|Aq<|A6<|A2<|A7 2 Z<|Bo 3 Z<|Ax h fun g h=>AW e a.toNat (Cx g) (AM g) ?_;rintro s _ rfl j;refine Ag (AT j (hH.trans c.arg))<|Ag (Kj Z Z)<|Ad<|AL h ?_ ?_<;>intro k h
   ·refine A7 2 Z<|Aw<|Al<|Am<|Bc ?_;have h:=Bw.out h d;refine Al<|AN ?_
    cases h
    refine Ah Z ⟨c.ext,Z⟩
   refine Au<|Az<|Aq<|An<|Ax h fun l h=>Ag (Ay l)<|As 1 Z<|AE ?_;have h:=Bw.again h d;refine AD (_,_) Z ⟨c,h⟩
  refine Bf<|A5<|A3 ?_;have h:=Bw.out h d;refine AY<|A8 () ⟨c,h⟩
 rintro _ p ⟨m,h⟩;refine A7 1 Z<|Aw ?_
 cases h
 refine Ah Z ⟨m.ext,Z⟩
def C6(a0:List Abv)(a1:Abv):Option Bool:=
 Qq9 (Gu a0 a1) (fun a=>some (decide (0<=a)))
theorem GU{a0:List Abv}{a1:Abv}{a:Value}(b:AS .st H a a0){r:Bool}(h:C6 a0 a1=some r):
  Qqv 39 [a,Abu a1] w (fun v w'=>v=.bool r):=by
 refine A4 9 [(0,a),(1,(Abu a1))] func39 Z fun hL=>A7 1 Z<|Bo 2 Z<|A1 h fun g c h=>A9 hL (MG _ _ (Av hL) (b.mono  Aj) c) fun i f d e=>AA 2 Z<|Aw ?_
 cases h
 refine Ah Z ⟨d.ext,Z⟩
def FH(a0:Alr):Option (Alr):=
 AU (Go.E.Fz 16 (([]:Alr).length+a0.length)) (some ((([]:Alr)++a0)))
theorem LI{a0:Alr}{a:Value}(b:AS AlA H a a0){r:Alr}(h:FH a0=some r):
  Qqv 144 [a] w (fun v w'=>∃d,v=d/\Cd 120 AlA H w w' d r):=by
 refine A4 8 [(0,a)] func144 Z fun hL=>A7 1 Z<|A6<|Bo 1 Z ?_
 rcases Ab6 b with ⟨rfl,rfl⟩ | hnn
 ·refine Ag Ab7<|Ad<|DS<|A7 1 Z<|Aw ?_;obtain⟨_,h⟩:=Gp h;obtain rfl:=Option.some.inj h;refine Am<|Ah Z ⟨hL.ext,_,Z,Ab9 _ hL hH⟩
 refine Ag (Ab8 hnn)<|Ad<|Co<|Au<|Aq<|Ao<|Rl ([]:Alr) (r:=AlA) (fun _=>AhM _) (B4 0) hH hL .nil fun s t p e k f=>As 1 Z<|Ax h fun g h=>Bp (r:=AlA) 0 ([]:Alr) a0 Z Ae7 e Z f (b.mono  Aj) g fun u x q c o j=>AA 1 Z<|Aw ?_
 cases h
 refine Ah Z ⟨c.ext,_,Z,(c.FV hH (i:=0) Z j)⟩
def Ju(a0:Qq5):Option (Qq5):=
 AU (Go.E.Fz 8 (([]:Qq5).length+a0.length)) (some ((([]:Qq5)++a0)))
theorem P7{a0:Qq5}{a:Value}(b:AS (.int .i64) H a a0){r:Qq5}(h:Ju a0=some r):
  Qqv 89 [a] w (fun v w'=>∃d,v=d/\Cd 3 (.int .i64) H w w' d r):=by
 refine A4 8 [(0,a)] func89 Z fun hL=>A7 1 Z<|A6<|Bo 1 Z ?_
 rcases Ab6 b with ⟨rfl,rfl⟩ | hnn
 ·refine Ag Ab7<|Ad<|DS<|A7 1 Z<|Aw ?_;obtain⟨_,h⟩:=Gp h;obtain rfl:=Option.some.inj h;refine Am<|Ah Z ⟨hL.ext,_,Z,Ab9 _ hL hH⟩
 refine Ag (Ab8 hnn)<|Ad<|Co<|Au<|Aq<|Ao<|Rl ([]:Qq5) (r:=(.int .i64)) (fun _=>AhI _) (B4 0) hH hL .nil fun s t p e k f=>As 1 Z<|Ax h fun g h=>Bp (r:=(.int .i64)) 0 ([]:Qq5) a0 Z Aco e Z f (b.mono  Aj) g fun u x q c o j=>AA 1 Z<|Aw ?_
 cases h
 refine Ah Z ⟨c.ext,_,Z,(c.FV hH (i:=0) Z j)⟩
def Gv(a0:List Abv):Option ((List Abv)):=
 AU (Go.E.Fz 16 (([]:List Abv).length+a0.length)) (some ((([]:List Abv)++a0)))
theorem HK{a0:List Abv}{a:Value}(b:AS .st H a a0){r:(List Abv)}(h:Gv a0=some r):
  Qqv 86 [a] w (fun v w'=>∃d,v=d/\Cd 9 .st H w w' d r):=by
 refine A4 8 [(0,a)] func86 Z fun hL=>A7 1 Z<|A6<|Bo 1 Z ?_
 rcases Ab6 b with ⟨rfl,rfl⟩ | hnn
 ·refine Ag Ab7<|Ad<|DS<|A7 1 Z<|Aw ?_;obtain⟨_,h⟩:=Gp h;obtain rfl:=Option.some.inj h;refine Am<|Ah Z ⟨hL.ext,_,Z,Ab9 _ hL hH⟩
 refine Ag (Ab8 hnn)<|Ad<|Co<|Au<|Aq<|Ao<|Rl ([]:List Abv) (r:=.st) (fun _=>AhH _) (B4 0) hH hL .nil fun s t p e k f=>As 1 Z<|Ax h fun g h=>Bp (r:=.st) 0 ([]:List Abv) a0 Z Ae5 e Z f (b.mono  Aj) g fun u x q c o j=>AA 1 Z<|Aw ?_
 cases h
 refine Ah Z ⟨c.ext,_,Z,(c.FV hH (i:=0) Z j)⟩
def EM(a b:Int):Option Int:=
 AU (0<=((Go.L.u8 a).toNat:Int)/\((Go.L.u8 a).toNat:Int)<(([0,1,2,2,3,3,3,3,4,4,4,4,4,4,4,4,5,5,5,5,5,5,5,5,5,5,5,5,5,5,5,5,6,6,6,6,6,6,6,6,6,6,6,6,6,6,6,6,6,6,6,6,6,6,6,6,6,6,6,6,6,6,6,6,7,7,7,7,7,7,7,7,7,7,7,7,7,7,7,7,7,7,7,7,7,7,7,7,7,7,7,7,7,7,7,7,7,7,7,7,7,7,7,7,7,7,7,7,7,7,7,7,7,7,7,7,7,7,7,7,7,7,7,7,7,7,7,7,8,8,8,8,8,8,8,8,8,8,8,8,8,8,8,8,8,8,8,8,8,8,8,8,8,8,8,8,8,8,8,8,8,8,8,8,8,8,8,8,8,8,8,8,8,8,8,8,8,8,8,8,8,8,8,8,8,8,8,8,8,8,8,8,8,8,8,8,8,8,8,8,8,8,8,8,8,8,8,8,8,8,8,8,8,8,8,8,8,8,8,8,8,8,8,8,8,8,8,8,8,8,8,8,8,8,8,8,8,8,8,8,8,8,8,8,8,8,8,8,8,8,8,8,8,8,8,8]:Abv).length:Int)) (AU (Bq (b+((([0,1,2,2,3,3,3,3,4,4,4,4,4,4,4,4,5,5,5,5,5,5,5,5,5,5,5,5,5,5,5,5,6,6,6,6,6,6,6,6,6,6,6,6,6,6,6,6,6,6,6,6,6,6,6,6,6,6,6,6,6,6,6,6,7,7,7,7,7,7,7,7,7,7,7,7,7,7,7,7,7,7,7,7,7,7,7,7,7,7,7,7,7,7,7,7,7,7,7,7,7,7,7,7,7,7,7,7,7,7,7,7,7,7,7,7,7,7,7,7,7,7,7,7,7,7,7,7,8,8,8,8,8,8,8,8,8,8,8,8,8,8,8,8,8,8,8,8,8,8,8,8,8,8,8,8,8,8,8,8,8,8,8,8,8,8,8,8,8,8,8,8,8,8,8,8,8,8,8,8,8,8,8,8,8,8,8,8,8,8,8,8,8,8,8,8,8,8,8,8,8,8,8,8,8,8,8,8,8,8,8,8,8,8,8,8,8,8,8,8,8,8,8,8,8,8,8,8,8,8,8,8,8,8,8,8,8,8,8,8,8,8,8,8,8,8,8,8,8,8,8,8,8,8,8,8]:Abv).getD ((Go.L.u8 a).toNat:Int).toNat Qq2).toNat:Int))) (some ((b+((([0,1,2,2,3,3,3,3,4,4,4,4,4,4,4,4,5,5,5,5,5,5,5,5,5,5,5,5,5,5,5,5,6,6,6,6,6,6,6,6,6,6,6,6,6,6,6,6,6,6,6,6,6,6,6,6,6,6,6,6,6,6,6,6,7,7,7,7,7,7,7,7,7,7,7,7,7,7,7,7,7,7,7,7,7,7,7,7,7,7,7,7,7,7,7,7,7,7,7,7,7,7,7,7,7,7,7,7,7,7,7,7,7,7,7,7,7,7,7,7,7,7,7,7,7,7,7,7,8,8,8,8,8,8,8,8,8,8,8,8,8,8,8,8,8,8,8,8,8,8,8,8,8,8,8,8,8,8,8,8,8,8,8,8,8,8,8,8,8,8,8,8,8,8,8,8,8,8,8,8,8,8,8,8,8,8,8,8,8,8,8,8,8,8,8,8,8,8,8,8,8,8,8,8,8,8,8,8,8,8,8,8,8,8,8,8,8,8,8,8,8,8,8,8,8,8,8,8,8,8,8,8,8,8,8,8,8,8,8,8,8,8,8,8,8,8,8,8,8,8,8,8,8,8,8,8]:Abv).getD ((Go.L.u8 a).toNat:Int).toNat Qq2).toNat:Int)))))
def HS(a b:Int):Option Int:=
 if 256<=a then AU (Bq (b+8)) (EM (a / 256) (b+8))else EM a b
def HT(a b:Int):Option Int:=
 if 65536<=a then AU (Bq (b+16)) (HS (a / 65536) (b+16))else HS a b
def KB(a0:Int):Option Int:=
 if 4294967296<=a0 then HT (a0 / 4294967296) (32:Int)else HT a0 (0:Int)
theorem Tg{a0 r:Int}(h:KB a0=some r):
  Qqv 169 [.int .u64 a0] w (fun v w'=>v=No r):=by
 refine A4 25 [(0,.int .u64 a0)] func169 Z fun hL=>A7 1 Z<|Bb Qq7 (fun⟨d,e⟩=>[(0,.int .u64 d),(2,No e)]) (fun⟨d,e⟩ wr=>Bk w [] wr/\HT d e=some r) ?_ ?_
 ·refine A7 2 Z<|AL h ?_ ?_<;>intro u h
  ·refine Bo 1 Z<|Ag (Wq (c:=32) (m:=4294967296) Z Z Qqc)<|AA 1 Z<|An<|As 1 Z<|AE<|A8 (_,_) ⟨hL,h⟩
  refine Au<|A8 (_,_) ⟨hL,h⟩
 rintro⟨d,e⟩ z ⟨j,h⟩;refine Bb Qq7 (fun⟨a,b⟩=>[(0,.int .u64 a),(2,No b)]) (fun⟨a,b⟩ wr=>Bk w [] wr/\HS a b=some r) ?_ ?_
 ·refine A7 2 Z<|AL h ?_ ?_<;>intro k h
  ·refine Bo 1 Z<|Ag (Wq (c:=16) (m:=65536) Z Z Qqc)<|AA 1 Z<|An<|As 1 Z<|Ax h fun l h=>Ag (Ay l)<|As 1 Z<|AE<|A8 (_,_) ⟨j,h⟩
  refine Au<|A8 (_,_) ⟨j,h⟩
 rintro⟨a,b⟩ x ⟨i,h⟩;refine Bb Qq7 (fun⟨f,g⟩=>[(0,.int .u64 f),(2,No g)]) (fun⟨f,g⟩ wr=>Bk w [] wr/\EM f g=some r) ?_ ?_
 ·refine A7 2 Z<|AL h ?_ ?_<;>intro o h
  ·refine Bo 1 Z<|Ag (Wq (c:=8) (m:=256) Z Z Qqc)<|AA 1 Z<|An<|As 1 Z<|Ax h fun p h=>Ag (Ay p)<|As 1 Z<|AE<|A8 (_,_) ⟨i,h⟩
  refine Au<|A8 (_,_) ⟨i,h⟩
 rintro⟨f,g⟩ y ⟨q,h⟩;refine Bo 2 Z<|Ag (Gn (KK _))<|Ax h fun s h=>Ag (Na s)<|Ag (Gn (Hz _))<|Ax h fun t h=>Ag (Ay t)<|AA 1 Z<|Aw ?_
 cases h
 refine Ah Z ⟨q.ext,Z⟩
def OZ(a0:Int):Option Int:=
 Qq9 (KB a0) (fun a=>some a)
theorem U7{a0 r:Int}(h:OZ a0=some r):
  Qqv 128 [.int .u64 a0] w (fun v w'=>v=No r):=by
 refine A4 8 [(0,.int .u64 a0)] func128 Z fun hL=>A7 1 Z<|A6<|Co<|Au<|Aq<|Bo 1 Z<|A1 h fun e a h=>A9 hL (Tg _ _ (Av hL) a) fun f d b c=>AA 1 Z<|Aw ?_
 cases h
 refine Ah Z ⟨b.ext,Z⟩
def H7(a0:Int):Option Int:=
 if a0<1 then some (0)else Qq9 (OZ (IntKind.u64.wrap a0)) (fun a=>AU (Bq (2 * a)) (AU (Bq ((2 * a) - 1)) (some (((2 * a) - 1)))))
theorem TJ{a0 r:Int}(h:H7 a0=some r):
  Qqv 84 [No a0] w (fun v w'=>v=No r):=by
 refine A4 10 [(0,No a0)] func84 Z fun hL=>A7 1 Z<|A6<|A7 2 Z<|AL h ?_ ?_<;>intro a h
 ·refine A7 1 Z<|Aw<|Am ?_
  cases h
  refine Ah Z ⟨hL.ext,Z⟩
 refine Au<|Aq<|Bo 1 Z<|Ag (Gn Z)<|A1 h fun i b h=>A9 hL (U7 _ _ (Av hL) b) fun j g c f=>Ax h fun d h=>Ag (Ay d)<|Ax h fun e h=>Ag (Ay e)<|AA 1 Z<|Aw ?_
 cases h
 refine Ah Z ⟨c.ext,Z⟩
end
end Go.Proofs.YtopocbcekabkoaaGreatDoor
end
noncomputable section
namespace Go
abbrev Al2:=Int×Qq7
end Go
namespace Go.Proofs.YtopocbcekabkoaaGreatDoor
open Go Go.E Go.RowKit Go.L
set_option maxHeartbeats 1000000
set_option maxRecDepth 10000
open _root_.Go.Proofs.Tryz
def Cq(a0:Qq5)(a1:Pv):Option (Bool×Pv):=
 Qq9 (BH a0 a1.f.1) (fun a=>some (a,a1))
theorem De{a w:World}{H:PH}(hH:Le H (hp a))(O:List BV)(a0:Qq5)(a1:Pv){va0:Value}{ba1:Nat}{va1_2 va1_3 va1_4:Value}(hL:Bk a (Ha [.box ba1 [No a1.f.1,No a1.f.2.1,va1_2,va1_3,va1_4] 51] O) w)(l:AS (.int .i64) (gz H a w (Ha [.box ba1 [No a1.f.1,No a1.f.2.1,va1_2,va1_3,va1_4] 51] O)) va0 a0)(i:AS .byte (gz H a w (Ha [.box ba1 [No a1.f.1,No a1.f.2.1,va1_2,va1_3,va1_4] 51] O)) va1_2 (a1.f.2.2.1))(j:AS .st (gz H a w (Ha [.box ba1 [No a1.f.1,No a1.f.2.1,va1_2,va1_3,va1_4] 51] O)) va1_3 (a1.f.2.2.2.1))(k:AS .tree (gz H a w (Ha [.box ba1 [No a1.f.1,No a1.f.2.1,va1_2,va1_3,va1_4] 51] O)) va1_4 (a1.f.2.2.2.2)){r:Bool×Pv}(h:Cq a0 a1=some r):
  Ok prog 163 [va0,Abo ba1] w (fun v w'=>∃(c:Value) (d:Value) (e:Value),v=.bool r.1/\Bk a (Ha [.box ba1 [No r.2.f.1,No r.2.f.2.1,c,d,e] 51] O) w'/\Le (fz w (Ha [.box ba1 [No a1.f.1,No a1.f.2.1,va1_2,va1_3,va1_4] 51] O)) (fz w' (Ha [.box ba1 [No r.2.f.1,No r.2.f.2.1,c,d,e] 51] O))/\AS .byte (gz H a w' (Ha [.box ba1 [No r.2.f.1,No r.2.f.2.1,c,d,e] 51] O)) c (r.2.f.2.2.1)/\AS .st (gz H a w' (Ha [.box ba1 [No r.2.f.1,No r.2.f.2.1,c,d,e] 51] O)) d (r.2.f.2.2.2.1)/\AS .tree (gz H a w' (Ha [.box ba1 [No r.2.f.1,No r.2.f.2.1,c,d,e] 51] O)) e (r.2.f.2.2.2.2)):=by
 refine Cj (n:=8) [(0,va0),(1,(Abo ba1))] func163 Z Z Z Z ?_;have hT:=Le.refl (fz w (Ha [.box ba1 [No a1.f.1,No a1.f.2.1,va1_2,va1_3,va1_4] 51] O));have b:=hL.rG H;refine A7 1 Z<|Bo 1 Z<|Ag (Ae Z Ahe Z BB.e)<|Ag (Af 0 Z hL Z)<|A1 h fun q m h=>A9 hL (Gt _ _ (Av hL) (l.mono b) m) fun s p o g=>AA 1 Z<|Aw ?_
 cases h
 refine Ah Z ?_;have b:=b.trans (Ab g);have hT:=hT.trans g;exact⟨va1_2,va1_3,va1_4,Z,o,hT,(i.mono b),(j.mono b),(k.mono b)⟩
def HU:Option Int:=
 some (0)
def D1(b:List Abv):Int->Option ((Int)⊕(Int)):=fun a=>
 if a<(b.length:Int)then AU (0<=a/\a<(b.length:Int)) (AU (0<=a/\a<=(b.length:Int)) (Qq9 (C6 (b.take a.toNat) (b.getD a.toNat Qq2)) (fun c=>if c then Qzx Sum.inr (some (8))else AU (Bq (a+1)) (some (Sum.inl (a+1))))))else Qzx Sum.inr HU
def HV(a:List Abv)(s:Int):Option Int:=Go.L.run (D1 a) s
def BN(_c84 _c85:Int)(_c86:Abv)(b:List Abv)(d:List Pv)(a:Bool):Option Int:=
 if a then some (6)else(if 600<(d.length:Int)then some (14)else Qq9 (Gk b) (fun c=>if c then some (7)else(HV b) (0:Int)))
def Gw(g h:Int)(i:Abv)(j:List Abv)(e:List Pv)(d:Bool):Option Int:=
 if d then BN g h i j e d else(if 0<(e.length:Int)then Qq9 (Cq ([3,4]) (Pv.mk g h i j e)) (fun c=>if !c.1 then BN c.2.f.1 c.2.f.2.1 c.2.f.2.2.1 c.2.f.2.2.2.1 c.2.f.2.2.2.2 (!c.1)else Qq9 (Cq ([4]) c.2) (fun a=>if a.1 then BN a.2.f.1 a.2.f.2.1 a.2.f.2.2.1 a.2.f.2.2.2.1 a.2.f.2.2.2.2 (!decide ((a.2.f.2.2.2.1.length:Int)=(a.2.f.2.2.2.2.length:Int)))else BN a.2.f.1 a.2.f.2.1 a.2.f.2.2.1 a.2.f.2.2.2.1 a.2.f.2.2.2.2 false))else Qq9 (Cq ([4]) (Pv.mk g h i j e)) (fun b=>if b.1 then BN b.2.f.1 b.2.f.2.1 b.2.f.2.2.1 b.2.f.2.2.2.1 b.2.f.2.2.2.2 (!decide ((b.2.f.2.2.2.1.length:Int)=(b.2.f.2.2.2.2.length:Int)))else BN b.2.f.1 b.2.f.2.1 b.2.f.2.2.1 b.2.f.2.2.2.1 b.2.f.2.2.2.2 false))
def Gx(d e:Int)(g:Abv)(c:List Abv)(h:List Pv)(b:Bool):Option Int:=
 if b then BN d e g c h b else(if 0<(c.length:Int)then Qq9 (Cq ([4]) (Pv.mk d e g c h)) (fun a=>Gw a.2.f.1 a.2.f.2.1 a.2.f.2.2.1 a.2.f.2.2.2.1 a.2.f.2.2.2.2 (!a.1))else Gw d e g c h false)
def Gy(d e:Int)(c:Abv)(g:List Abv)(h:List Pv)(b:Bool):Option Int:=
 if b then BN d e c g h b else(if 0<(c.length:Int)then Qq9 (Cq ([2]) (Pv.mk d e c g h)) (fun a=>Gx a.2.f.1 a.2.f.2.1 a.2.f.2.2.1 a.2.f.2.2.2.1 a.2.f.2.2.2.2 (!a.1))else Gx d e c g h false)
def FI(a0:Pv):Option Int:=
 Qq9 (Cq ([1,2,3,4]) a0) (fun b=>if !b.1 then some (5)else(if b.2.f.2.1=0 then Gy b.2.f.1 b.2.f.2.1 b.2.f.2.2.1 b.2.f.2.2.2.1 b.2.f.2.2.2.2 false else Qq9 (Cq ([1]) b.2) (fun a=>Gy a.2.f.1 a.2.f.2.1 a.2.f.2.2.1 a.2.f.2.2.2.1 a.2.f.2.2.2.2 (!a.1))))
section
variable(w:World)(H:PH)(hH:Le H (hp w)) include hH
theorem Th{a0:Pv}{cm cn co:Value}(eu:AS .byte H cm (a0.f.2.2.1))(ev:AS .st H cn (a0.f.2.2.2.1))(ew:AS .tree H co (a0.f.2.2.2.2)){r:Int}(h:FI a0=some r):
  Qqv 119 [.agg #[No a0.f.1,No a0.f.2.1,cm,cn,co]] w (fun v w'=>v=No r):=by
 refine A4 88 [(0,.agg #[No a0.f.1,No a0.f.2.1,cm,cn,co])] func119 Z fun hL=>Ao<|BM (t:=51) Z Z hL fun w1 b1 e3 fs _=>AA 1 Z<|A7 2 Z<|A6<|A2<|Bo 1 Z<|Bx [1,2,3,4] (r:=(.int .i64)) (fun _=>AcZ _ _ _ _ _) (hlen:=(B4 4)) e3 (.c1 Z (.c1 Z (.c1 Z (.c1 Z .nil)))) fun v2 w2 gl e4 ft e5=>A1 h fun x3 e6 h=>D6 Z Z (De hH [] ([1,2,3,4]) a0 e4 e5 (eu.mono  Aj) (ev.mono  Aj) (ew.mono  Aj) e6) ?_;rintro _ w4 ⟨ex,ey,ez,rfl,bz,fu,cq,cr,cs⟩;refine AA 2 Z<|Bi h ?_ ?_<;>intro e7 h
 ·have gm:=bz.rG H;refine A7 1 Z<|Aw<|Al<|Am ?_
  cases h
  refine Ah Z ⟨bz.ext,Z⟩
 refine Bb (Int×Int×Abv×(List Abv)×(List Pv)×Bool×Value×Value×Value) (fun⟨b0,b2,b3,bp,b4,a7,ab,aa,ac⟩=>[(1,(Abo b1)),(12,.bool a7)]) (fun⟨b0,b2,b3,bp,b4,a7,ab,aa,ac⟩ wr=>C5 w [.box b1 [No b0,No b2,ab,aa,ac] 51] wr fun Oz=>AS .byte (gz H w wr Oz) ab b3/\AS .st (gz H w wr Oz) aa bp/\AS .tree (gz H w wr Oz) ac b4/\BN b0 b2 b3 bp b4 a7=some r) ?_ ?_
 ·refine Bb (Int×Int×Abv×(List Abv)×(List Pv)×Bool×Value×Value×Value) (fun⟨am,an,ao,ap,aq,x,ae,af,ag⟩=>[(1,(Abo b1)),(3,.func (.func 163) #[] #[Abo b1]),(12,.bool x)]) (fun⟨am,an,ao,ap,aq,x,ae,af,ag⟩ wr=>C5 w [.box b1 [No am,No an,ae,af,ag] 51] wr fun Oz=>AS .byte (gz H w wr Oz) ae ao/\AS .st (gz H w wr Oz) af ap/\AS .tree (gz H w wr Oz) ag aq/\Gy am an ao ap aq x=some r) ?_ ?_
  ·have m:=bz.rG H;refine An<|Ag (Ae Z Ahe Z BB.e)<|Ag (Af 0 Z bz Z)<|As 2 Z<|Et 16 h ?_ ?_<;>intro o h
   ·refine Aa o<|Ag (Ai Z)<|Aa o<|Bx [1] (r:=(.int .i64)) (fun _=>FX _ _) bz (.c1 Z .nil) fun fv fw fe ds c7 dt=>Aa o<|A1 h fun bi du h=>?_;have m:=m.trans (Ab c7);refine D6 Z Z (De hH [] ([1]) x3.2 ds dt (cq.mono m) (cr.mono m) (cs.mono m) du) ?_;rintro _ fx ⟨c8,c9,da,rfl,dv,e8,cx,cy,cz⟩;refine Aa o<|Ag (Ai Z)<|Ag (AF o Z)<|As 1 Z<|AE<|A8 (bi.2.f.1,bi.2.f.2.1,bi.2.f.2.2.1,bi.2.f.2.2.2.1,bi.2.f.2.2.2.2,!bi.1,c8,c9,da) ⟨dv,cx,cy,cz,h⟩
   iterate 4 refine Ar o ?_
   refine Ag (AG o Z)<|As 1 Z<|AE<|A8 (x3.2.f.1,x3.2.f.2.1,x3.2.f.2.2.1,x3.2.f.2.2.2.1,x3.2.f.2.2.2.2,false,ex,ey,ez) ⟨bz,(cq.mono m),(cr.mono m),(cs.mono m),h⟩
  rintro⟨am,an,ao,ap,aq,x,ae,af,ag⟩ ff ⟨a8,a9,bs,bt,h⟩;refine Bi h ?_ ?_<;>intro dw h
  ·refine Au<|A8 (am,an,ao,ap,aq,x,ae,af,ag) ⟨a8,a9,bs,bt,h⟩
  refine Bb (Int×Int×Abv×(List Abv)×(List Pv)×Bool×Value×Value×Value) (fun⟨ar,au,av,aw,ax,y,ah,ai,aj⟩=>[(1,(Abo b1)),(3,.func (.func 163) #[] #[Abo b1]),(12,.bool y)]) (fun⟨ar,au,av,aw,ax,y,ah,ai,aj⟩ wr=>C5 w [.box b1 [No ar,No au,ah,ai,aj] 51] wr fun Oz=>AS .byte (gz H w wr Oz) ah av/\AS .st (gz H w wr Oz) ai aw/\AS .tree (gz H w wr Oz) aj ax/\Gx ar au av aw ax y=some r) ?_ ?_
  ·have j:=a8.rG H;refine An<|Ag (Ae Z Ahe Z Fy.e)<|Ag (Af 0 Z a8 Z)<|Ag (AZ (a9.mono j))<|As 2 Z<|Bz 26 h ?_ ?_<;>intro p h
   ·refine Aa p<|Ag (Ai Z)<|Aa p<|Bx [2] (r:=(.int .i64)) (fun _=>FX _ _) a8 (.c1 Z .nil) fun fy fz fg dx db dy=>Aa p<|A1 h fun bj dz h=>?_;have j:=j.trans (Ab db);refine D6 Z Z (De hH [] ([2]) (Pv.mk am an ao ap aq) dx dy (a9.mono j) (bs.mono j) (bt.mono j) dz) ?_;rintro _ f0 ⟨dc,dd,de,rfl,d0,e9,c0,c2,c3⟩;refine Aa p<|Ag (Ai Z)<|Ag (AF p Z)<|As 1 Z<|AE<|A8 (bj.2.f.1,bj.2.f.2.1,bj.2.f.2.2.1,bj.2.f.2.2.2.1,bj.2.f.2.2.2.2,!bj.1,dc,dd,de) ⟨d0,c0,c2,c3,h⟩
   iterate 4 refine Ar p ?_
   refine Ag (AG p Z)<|As 1 Z<|AE<|A8 (am,an,ao,ap,aq,false,ae,af,ag) ⟨a8,(a9.mono j),(bs.mono j),(bt.mono j),h⟩
  rintro⟨ar,au,av,aw,ax,y,ah,ai,aj⟩ fh ⟨ba,bu,bb,bv,h⟩;refine Bi h ?_ ?_<;>intro d1 h
  ·refine Au<|A8 (ar,au,av,aw,ax,y,ah,ai,aj) ⟨ba,bu,bb,bv,h⟩
  refine Bb (Int×Int×Abv×(List Abv)×(List Pv)×Bool×Value×Value×Value) (fun⟨ay,az,a2,a3,a4,z,bc,bd,be⟩=>[(1,(Abo b1)),(3,.func (.func 163) #[] #[Abo b1]),(12,.bool z)]) (fun⟨ay,az,a2,a3,a4,z,bc,bd,be⟩ wr=>C5 w [.box b1 [No ay,No az,bc,bd,be] 51] wr fun Oz=>AS .byte (gz H w wr Oz) bc a2/\AS .st (gz H w wr Oz) bd a3/\AS .tree (gz H w wr Oz) be a4/\Gw ay az a2 a3 a4 z=some r) ?_ ?_
  ·have k:=ba.rG H;refine An<|Ag (Ae Z Ahe Z H3.e)<|Ag (Af 0 Z ba Z)<|Ag (AZ (bb.mono k))<|As 2 Z<|Bz 36 h ?_ ?_<;>intro q h
   ·refine Aa q<|Ag (Ai Z)<|Aa q<|Bx [4] (r:=(.int .i64)) (fun _=>FX _ _) ba (.c1 Z .nil) fun f1 f2 fi d2 df d3=>Aa q<|A1 h fun bk d4 h=>?_;have k:=k.trans (Ab df);refine D6 Z Z (De hH [] ([4]) (Pv.mk ar au av aw ax) d2 d3 (bu.mono k) (bb.mono k) (bv.mono k) d4) ?_;rintro _ f3 ⟨dg,dh,di,rfl,d5,fa,c4,c5,c6⟩;refine Aa q<|Ag (Ai Z)<|Ag (AF q Z)<|As 1 Z<|AE<|A8 (bk.2.f.1,bk.2.f.2.1,bk.2.f.2.2.1,bk.2.f.2.2.2.1,bk.2.f.2.2.2.2,!bk.1,dg,dh,di) ⟨d5,c4,c5,c6,h⟩
   iterate 4 refine Ar q ?_
   refine Ag (AG q Z)<|As 1 Z<|AE<|A8 (ar,au,av,aw,ax,false,ah,ai,aj) ⟨ba,(bu.mono k),(bb.mono k),(bv.mono k),h⟩
  rintro⟨ay,az,a2,a3,a4,z,bc,bd,be⟩ fj ⟨bf,bw,bx,bg,h⟩;refine Bi h ?_ ?_<;>intro d6 h
  ·refine Au<|A8 (ay,az,a2,a3,a4,z,bc,bd,be) ⟨bf,bw,bx,bg,h⟩
  have a:=bf.rG H;refine Ao<|Ag (Ae Z Ahe Z XJ.e)<|Ag (Af 0 Z bf Z)<|Ag (AZ (bg.mono a))<|As 2 Z<|Bz 46 h ?_ ?_<;>intro s h
  ·refine Aa s<|Ag (Ai Z)<|Aa s<|Bx [3,4] (r:=(.int .i64)) (fun _=>AcY _ _ _) (hlen:=(B4 2)) bf (.c1 Z (.c1 Z .nil)) fun f4 f5 fk d7 dj d8=>Aa s<|A1 h fun a5 d9 h=>?_;have a:=a.trans (Ab dj);refine D6 Z Z (De hH [] ([3,4]) (Pv.mk ay az a2 a3 a4) d7 d8 (bw.mono a) (bx.mono a) (bg.mono a) d9) ?_;rintro _ f6 ⟨dk,dl,dm,rfl,cc,fb,b5,b6,b7⟩;refine Aa s<|Ag (Ai Z)<|Ag (AF s Z)<|AA 1 Z<|Bi h ?_ ?_<;>intro ea h
   ·refine Au<|A8 (a5.2.f.1,a5.2.f.2.1,a5.2.f.2.2.1,a5.2.f.2.2.2.1,a5.2.f.2.2.2.2,!a5.1,dk,dl,dm) ⟨cc,b5,b6,b7,h⟩
   have bh:=cc.rG H;refine An<|As 1 Z<|Bx [4] (r:=(.int .i64)) (fun _=>FX _ _) cc (.c1 Z .nil) fun f7 f8 fl eb dn ec=>A1 h fun g ed h=>?_;have bh:=bh.trans (Ab dn);refine D6 Z Z (De hH [] ([4]) a5.2 eb ec (b5.mono bh) (b6.mono bh) (b7.mono bh) ed) ?_;rintro _ f9 ⟨cg,ch,ci,rfl,bq,fc,b8,bl,bm⟩;refine As 1 Z<|Cv 55 h ?_ ?_<;>intro b h
   ·refine Aa b<|Ag (Ae Z Ahe Z H3.e)<|Aa b<|Ag (Af 0 Z bq Z)<|Aa b<|Ag (AZ bl)<|Aa b<|Ag (Ae Z Ahe Z XJ.e)<|Aa b<|Ag (Af 0 Z bq Z)<|Aa b<|Ag (AZ bm)<|Aa b<|Ag (Ai Z)<|Ag (AF b Z)<|As 1 Z<|AE<|A8 (g.2.f.1,g.2.f.2.1,g.2.f.2.2.1,g.2.f.2.2.2.1,g.2.f.2.2.2.2,!decide ((g.2.f.2.2.2.1.length:Int)=(g.2.f.2.2.2.2.length:Int)),cg,ch,ci) ⟨bq,b8,bl,bm,h⟩
   iterate 7 refine Ar b ?_
   refine Ag (AG b Z)<|As 1 Z<|AE<|A8 (g.2.f.1,g.2.f.2.1,g.2.f.2.2.1,g.2.f.2.2.2.1,g.2.f.2.2.2.2,false,cg,ch,ci) ⟨bq,b8,bl,bm,h⟩
  iterate 4 refine Ar s ?_
  refine Ag (AG s Z)<|AA 1 Z<|Co<|An<|As 1 Z<|Bx [4] (r:=(.int .i64)) (fun _=>FX _ _) bf (.c1 Z .nil) fun ga gb fm ee dp ef=>A1 h fun i eg h=>?_;have a:=a.trans (Ab dp);refine D6 Z Z (De hH [] ([4]) (Pv.mk ay az a2 a3 a4) ee ef (bw.mono a) (bx.mono a) (bg.mono a) eg) ?_;rintro _ gc ⟨cj,ck,cl,rfl,br,fd,b9,bn,bo⟩;refine As 1 Z<|Cv 55 h ?_ ?_<;>intro c h
  ·refine Aa c<|Ag (Ae Z Ahe Z H3.e)<|Aa c<|Ag (Af 0 Z br Z)<|Aa c<|Ag (AZ bn)<|Aa c<|Ag (Ae Z Ahe Z XJ.e)<|Aa c<|Ag (Af 0 Z br Z)<|Aa c<|Ag (AZ bo)<|Aa c<|Ag (Ai Z)<|Ag (AF c Z)<|As 1 Z<|AE<|A8 (i.2.f.1,i.2.f.2.1,i.2.f.2.2.1,i.2.f.2.2.2.1,i.2.f.2.2.2.2,!decide ((i.2.f.2.2.2.1.length:Int)=(i.2.f.2.2.2.2.length:Int)),cj,ck,cl) ⟨br,b9,bn,bo,h⟩
  iterate 7 refine Ar c ?_
  refine Ag (AG c Z)<|As 1 Z<|AE<|A8 (i.2.f.1,i.2.f.2.1,i.2.f.2.2.1,i.2.f.2.2.2.1,i.2.f.2.2.2.2,false,cj,ck,cl) ⟨br,b9,bn,bo,h⟩
 rintro⟨b0,b2,b3,bp,b4,a7,ab,aa,ac⟩ gd ⟨ad,eh,cd,ct,h⟩;refine Bi h ?_ ?_<;>intro ei h
 ·have fn:=ad.rG H;refine A7 1 Z<|Aw<|Al<|Am ?_
  cases h
  refine Ah Z ⟨ad.ext,Z⟩
 have u:=ad.rG H;refine Ao<|Ag (Ae Z Ahe Z XJ.e)<|Ag (Af 0 Z ad Z)<|Ag (AZ (ct.mono u))<|AA 2 Z<|AL h ?_ ?_<;>intro ej h
 ·refine A7 1 Z<|Aw<|Al<|Am ?_
  cases h
  refine Ah Z ⟨ad.ext,Z⟩
 refine Ao<|Ag (Ae Z Ahe Z H3.e)<|Ag (Af 0 Z ad Z)<|A1 h fun ge ek h=>A9 ad (S0 _ _ (Av ad) (cd.mono u) ek) fun gf fo ce dq=>AA 1 Z<|Bi h ?_ ?_<;>intro el h
 ·refine A7 1 Z<|Aw<|Al<|Am ?_
  cases h
  refine Ah Z ⟨ce.ext,Z⟩
 refine Au<|Az<|Aq<|Bb Unit (fun(_:Unit)=>[]) (fun(_:Unit) wr=>C5 w [.box b1 [No b0,No b2,ab,aa,ac] 51] wr fun Oz=>AS .byte (gz H w wr Oz) ab b3/\AS .st (gz H w wr Oz) aa bp/\AS .tree (gz H w wr Oz) ac b4/\HU=some r) ?_ ?_
 ·refine Ao<|Ag (Ae Z Ahe Z H3.e)<|Ag (Af 0 Z ce Z) ?_;have u:=u.trans (Ab dq);refine Ag (AZ (cd.mono u))<|AA 1 Z<|A2 ?_;obtain⟨cp,h⟩:=AR h;refine Bj (Int×Nat) (fun⟨d,n⟩=>[(1,(Abo b1)),(74,aa),(75,No (bp.length:Int)),(76,No d)]) (fun⟨d,n⟩ wr=>C5 w [.box b1 [No b0,No b2,ab,aa,ac] 51] wr fun Oz=>AS .st (gz H w wr Oz) aa bp/\AS .byte (gz H w wr Oz) ab b3/\AS .tree (gz H w wr Oz) ac b4/\DR (D1 bp) n d=some r) (fun⟨d,n⟩=>n) (0,cp) Z ⟨ce,(cd.mono u),(eh.mono u),(ct.mono u),h⟩ ?_;rintro⟨d,nn258⟩ fp ⟨ak,al,ca,cb,h⟩;obtain⟨cp,gg,rfl,h,cf⟩:=AQ h;have e:=ak.rG H;refine A7 1 Z<|A6<|AL h ?_ ?_<;>intro em h
  ·refine Au<|Aq<|A6<|A2<|Bo 1 Z<|Ax h fun cu h=>AW (al.mono e) d.toNat (Cx cu) (AM cu) ?_;rintro gh _ rfl en;refine Ag (AT en (Av ak))<|AA 2 Z<|Ao<|Ag (Ae Z Ahe Z H3.e)<|Ag (Af 0 Z ak Z)<|As 1 Z<|Ax h fun eo h=>Wv (al.mono e) eo fun gi ep=>As 1 Z<|A1 h fun gj eq h=>A9 ak (GU _ _ (Av ak) ep eq) fun gk fq cv dr=>Ad<|Bi h ?_ ?_<;>intro er h
   ·refine A7 1 Z<|Aw<|Al<|Am<|Bc ?_;have h:=Bw.out h cf;refine Al<|AN ?_
    cases h
    refine Ah Z ⟨cv.ext,Z⟩
   refine Au<|Az<|Aq<|An<|Ax h fun es h=>Ag (Ay es)<|As 1 Z<|AE ?_;have h:=Bw.again h cf;have e:=e.trans (Ab dr);refine AD (_,_) Z ⟨cv,(al.mono e),(ca.mono e),(cb.mono e),h⟩
  refine Bf<|A5<|A3 ?_;have h:=Bw.out h cf;refine AY<|A8 () ⟨ak,(ca.mono e),(al.mono e),(cb.mono e),h⟩
 rintro _ fr ⟨et,e0,e1,e2,h⟩;refine A7 1 Z<|Aw ?_
 cases h
 refine Ah Z ⟨et.ext,Z⟩
end
def Hq(a:Int):Option Al2:=
 some (a,(0,0))
def C7(a0:Pv)(a2:Int)(self:Pv->Int->Int->Option Al2):Int×Int->Option (Qq7⊕Al2):=fun⟨c,a⟩=>
 if a<(a0.f.2.2.2.2.length:Int)then AU (0<=a/\a<(a0.f.2.2.2.2.length:Int)) (AU (Bq (a2+1)) (Qq9 (self (a0.f.2.2.2.2.getD a.toNat Qq2) c (a2+1)) (fun b=>if b.2.1=0/\b.2.2=0 then AU (Bq (a+1)) (some (Sum.inl (b.1,(a+1))))else Qzx Sum.inr (some (0,(b.2.1,b.2.2))))))else Qzx Sum.inr (Hq c)
def Ny(a0:Pv)(a2:Int)(self:Pv->Int->Int->Option Al2)(s:Int×Int):Option Al2:=Go.L.run (C7 a0 a2 self) s
def DZ(self:Pv->Int->Int->Option Al2)(a0:Pv)(a1 a2:Int):Option Al2:=
 if(600<=a1)\/(10<a2)then Qq9 (OI (2:Int) a1) (fun b=>some (0,(b.1,b.2)))else Qq9 (FI a0) (fun c=>if c=0 then AU (Bq (a1+1)) ((Ny a0 a2 self) ((a1+1),0))else Qq9 (OI c a1) (fun a=>some (0,(a.1,a.2))))
def Kr(self:Pv->Int->Int->Option Al2):Prop:=∀(w:World) (H:PH) (hH:Le H (hp w)) {a0:Pv}{a1:Int}{a2:Int}{a:Value}{b:Value}{c:Value} (d:AS .byte H a (a0.f.2.2.1)) (e:AS .st H b (a0.f.2.2.2.1)) (g:AS .tree H c (a0.f.2.2.2.2)) {r:Al2} (h:self a0 a1 a2=some r),Ok prog 75 [.agg #[No a0.f.1,No a0.f.2.1,a,b,c],No a1,No a2] w (fun v w'=>Ext w w'/\v=.tuple #[No r.1,.agg #[No r.2.1,No r.2.2]])
def Fc:Nat->Pv->Int->Int->Option Al2
 | 0=>fun _ _ _=>none
 | n+1=>DZ (Fc n)
def OJ:Pv->Int->Int->Option Al2:=Fc 1000
theorem S1(self:Pv->Int->Int->Option Al2)(hself:Kr self):Kr (DZ self):=by
 intro w H hH a0 a1 a2 l m d an ao o r h;unfold Kr at hself;refine A4 52 [(0,.agg #[No a0.f.1,No a0.f.2.1,l,m,d]),(1,No a1),(2,No a2)] func75 Z fun hL=>Ao<|BM (t:=51) Z Z hL fun w1 b1 a5 bl _=>As 1 Z<|AO AI.e Z a5 fun w2 b2 k bm _=>Ad<|A6<|Bo 3 Z<|Ab3 2 2 Z Z Z Z Z Z<|Ad<|AL h ?_ ?_<;>intro a6 h
 ·refine Bo 1 Z<|A1 h fun x5 a7 h=>A9 k (Ob _ _ (Av k) a7) fun w6 b4 a8 bn=>As 1 Z<|Ak 0 Z a8 Z fun w7 am bo=>Ad<|Aw<|Am ?_
  cases h
  refine Bv (.tmp Z) (.cell Z Ae3 Z AI.e (AP (i:=0) am Z)) ⟨am.ext,Z⟩
 refine Au<|Aq<|A6<|Ao<|Ag (AJ 1 Z EK.e k Z)<|A1 h fun x9 a9 h=>A9 k (Th (a0:=a0) _ _ (Av k) (an.mono  Aj) (ao.mono  Aj) (o.mono  Aj) a9) fun b5 bp e bf=>AA 1 Z<|A7 2 Z<|BG h ?_ ?_<;>intro ap h
 ·refine Bo 2 Z<|A1 h fun b6 aq h=>A9 e (Ob _ _ (Av e) aq) fun b7 bq ar bg=>As 1 Z<|Ak 0 Z ar Z fun b8 y bh=>Ad<|Aw<|Am ?_
  cases h
  refine Bv (.tmp Z) (.cell Z Ae3 Z AI.e (AP (i:=0) y Z)) ⟨y.ext,Z⟩
 refine Au<|Aq<|Bo 1 Z<|Ax h fun au h=>Ag (Ay au)<|AA 1 Z<|Bb Int (fun c=>[(7,(Abo b2)),(9,No c)]) (fun c wr=>Bk w [.box b2 [No 0,No 0] 35,.box b1 [No a0.f.1,No a0.f.2.1,l,m,d] 51] wr/\Hq c=some r) ?_ ?_
 ·refine Ao<|Ag (Ae Z Ahe Z XJ.e)<|Ag (Af 1 Z e Z)<|Ag (AZ o)<|AA 1 Z<|A2 ?_;obtain⟨z,h⟩:=AR h;refine Bj (Int×Int×Nat) (fun⟨b,a,n⟩=>[(2,No a2),(7,(Abo b2)),(9,No b),(31,d),(32,No (a0.f.2.2.2.2.length:Int)),(33,No a)]) (fun⟨b,a,n⟩ wr=>Bk w [.box b2 [No 0,No 0] 35,.box b1 [No a0.f.1,No a0.f.2.1,l,m,d] 51] wr/\DR (C7 a0 a2 self) n (b,a)=some r) (fun⟨b,a,n⟩=>n) ((a1+1),0,z) Z ⟨e,h⟩ ?_;rintro⟨b,a,nn92⟩ br ⟨p,h⟩;obtain⟨z,b9,rfl,h,s⟩:=AQ h;refine A7 1 Z<|A6<|AL h ?_ ?_<;>intro av h
  ·refine Au<|Aq<|A6<|A2<|Ao<|Ax h fun aa h=>AW o a.toNat (Cx aa) (AM aa) ?_;rintro ca _ e96t0 aw;obtain⟨_,_,rfl,rfl,⟨_,_,rfl,rfl,⟨_,_,rfl,⟨e96v2,rfl,e96h2⟩,⟨_,_,rfl,⟨e96v3,rfl,e96h3⟩,⟨e96v4,rfl,e96h4⟩⟩⟩⟩⟩:=Go.E.Rp.Mb e96t0;refine Ag (BI aw (hH.trans p.arg))<|AO EK.e Z p fun cb cc ax bi _=>Ak 0 Z ax Z (a:=(CB Z (CB Z (CB e96h2.one (CB e96h3.one (CB e96h4.one Ps)))))) fun cd ay bj=>Ad<|Ao<|AO AI.e Z ay fun bs bt g ba _=>Ad<|Ao<|Ag (AJ 1 Z EK.e g Z)<|As 2 Z<|Ax h fun ac h=>Ag (Ay ac)<|A1 h fun az ad h=>A9 g (hself _ _ (Av g) (e96h2.mono  Aj) (e96h3.mono  Aj) (e96h4.mono  Aj) ad) fun bu bk ae bb=>As 4 Z<|Ak 0 Z ae Z fun bv j bc=>Ad<|Ao<|Ag (AJ 0 Z AI.e j Z)<|Ag (Ba (fun _=>B8 _)) ?_
   refine Ag (IX I4 (Nc _ _ _ _))<|Ad<|BG h ?_ ?_<;>intro af h
   ·refine BZ (.q 0 (.q 1 (.tail 2))) mixed Qqb (fun bw ag=>?_);have u:=j.call ag;refine B2 Z (AJ 0 Z AI.e u Z) Z<|B9 1 Z<|Bt (fun bx ah=>?_);have ai:=u.call ah;refine Ak 2 Z ai Z fun bz v bd=>Ad<|Aw<|Al<|Am<|Bc ?_;have h:=Bw.out h s;refine Al<|AN ?_
    cases h
    refine Bv (.tmp Z) (.cell Z Ae3 Z AI.e (AP (i:=2) v Z)) ⟨v.ext,Z⟩
   refine Au<|Az<|Aq<|An<|Ax h fun aj h=>Ag (Ay aj)<|As 1 Z<|AE ?_;have ak:=j.Bl (i:=0) Z;have al:=ak.Bl (i:=0) Z;have h:=Bw.again h s;refine AD (_,_,_) Z ⟨al,h⟩
  refine Bf<|A5<|A3 ?_;have h:=Bw.out h s;refine AY<|A8 _ ⟨p,h⟩
 rintro c b0 ⟨a3,h⟩;refine Bo 1 Z<|Ag (Ba (fun _=>B8 _))<|As 1 Z<|Ak 0 Z a3 Z fun b3 x be=>Ad<|Aw ?_
 cases h
 refine Bv (.tmp Z) (.cell Z Ae3 Z AI.e (AP (i:=0) x Z)) ⟨x.ext,Z⟩
theorem U8(n:Nat):Kr (Fc n):=by
 induction n with
 | zero=>unfold Kr;intros;rename_i h;cases h
 | succ n ih=>exact S1 (Fc n) ih
section
variable(w:World)(H:PH)(hH:Le H (hp w)) include hH
theorem WJ{a0:Pv}{a1 a2:Int}{a b c:Value}(d:AS .byte H a (a0.f.2.2.1))(e:AS .st H b (a0.f.2.2.2.1))(g:AS .tree H c (a0.f.2.2.2.2)){r:Al2}(h:OJ a0 a1 a2=some r):Ok prog 75 [.agg #[No a0.f.1,No a0.f.2.1,a,b,c],No a1,No a2] w (fun v w'=>Ext w w'/\v=.tuple #[No r.1,.agg #[No r.2.1,No r.2.2]]):=U8 1000 w H hH d e g h
def Oc(b:Abv)(a:Int):Option Abv:=
 AU (Go.E.Fz 1 (b.length+([(Go.L.u8 a)]).length)) (some ((b++[(Go.L.u8 a)])))
def GO:Abv×Int->Option ((Abv×Int)⊕(Abv)):=fun⟨b,a⟩=>
 if 128<=a then AU (Go.E.Fz 1 (b.length+([((Go.L.u8 a) ||| (128:UInt8))]).length)) (some (Sum.inl ((b++[((Go.L.u8 a) ||| (128:UInt8))]),(a / 128))))else Qzx Sum.inr (Oc b a)
def R3(s:Abv×Int):Option Abv:=Go.L.run GO s
def Df(a0:Int):Option Abv:=
 AU ((0<=(IntKind.u64.wrap ((IntKind.u64.wrap a0) * 2))/\(IntKind.u64.wrap ((IntKind.u64.wrap a0) * 2))<2 ^ 64)/\(0<=(IntKind.u64.wrap (a0 / 9223372036854775808))/\(IntKind.u64.wrap (a0 / 9223372036854775808))<2 ^ 64)) (R3 (([]:Abv),(((IntKind.u64.wrap ((IntKind.u64.wrap a0) * 2)).toNat ^^^ (IntKind.u64.wrap (a0 / 9223372036854775808)).toNat:Nat):Int)))
theorem BT{a0:Int}{r:Abv}(h:Df a0=some r):
  Qqv 120 [No a0] w (fun v w'=>∃u0,v=u0/\Cd 5 .byte H w w' u0 r):=by
 refine A4 27 [(0,No a0)] func120 Z fun hL=>A7 1 Z<|Bo 1 Z<|Ag (Gn Z)<|Ag (Ak1 (c:=1) (m:=2) Z Z Qqc Z)<|As 1 Z<|Ag (Wq (c:=63) (m:=9223372036854775808) Z Z Qqc)<|Ag (Gn Z)<|Ax h fun an h=>Ag (Aj9 Z an)<|AA 1 Z<|Bo 1 Z ?_;obtain⟨ao,av,ap⟩:=Cp .byte H 5 hL;refine Ad<|Bb (Abv×Int×Value×Qq6) (fun⟨o,d,p,j⟩=>[(3,.int .u64 d),(4,p)]) (fun⟨o,d,p,j⟩ wr=>C5 w [.row p 5 1 (o).length j] wr fun Oz=>AK .byte (gz H w wr Oz) o j/\Oc o d=some r) ?_ ?_
 ·refine A2 ?_;obtain⟨s,h⟩:=AR h;refine Bj (Abv×Int×Value×Qq6×Nat) (fun⟨f,a,g,e,n⟩=>[(3,.int .u64 a),(4,g)]) (fun⟨f,a,g,e,n⟩ wr=>C5 w [.row g 5 1 (f).length e] wr fun Oz=>AK .byte (gz H w wr Oz) f e/\DR GO n (f,a)=some r) (fun⟨f,a,g,e,n⟩=>n) (([]:Abv),(((IntKind.u64.wrap ((IntKind.u64.wrap a0) * 2)).toNat ^^^ (IntKind.u64.wrap (a0 / 9223372036854775808)).toNat:Nat):Int),Aal,[],s) Z ⟨ao,ap,h⟩ ?_;rintro⟨f,a,g,e,nn33⟩ aw ⟨t,k,h⟩;obtain⟨s,a2,rfl,h,u⟩:=AQ h;refine A6<|A7 2 Z<|AL h ?_ ?_<;>intro aa h
  ·refine Au<|Aq<|A6<|A2<|An<|As 2 Z<|Ag (Gn (KK _))<|Ag (AeK (b:=128) Z Z Z)<|Bx [((Go.L.u8 a) ||| (128:UInt8))] (r:=.byte) (fun _=>JJ _ _) t (.c1 Z .nil) fun a3 a4 ax ab y ac=>Ax h fun ad h=>?_;have k:=k.mono (Ab y);refine Bp (r:=.byte) 0 f [((Go.L.u8 a) ||| (128:UInt8))] Z Ae1 ab Z k ac ad fun aq a5 ae af ar ag=>As 1 Z<|AE<|Az<|Aq<|An<|As 1 Z<|Ag (Wq (c:=7) (m:=128) Z Z Qqc)<|As 1 Z<|AE ?_;have h:=Bw.again h u;refine AD (_,_,_,_,_) Z ⟨af,ag,h⟩
  refine Bf<|A5<|A3 ?_;have h:=Bw.out h u;refine AY<|A8 (_,_,_,_) ⟨t,k,h⟩
 rintro⟨o,d,p,j⟩ ay ⟨ah,q,h⟩;refine Bo 2 Z<|Ag (Gn (KK _))<|Bx [(Go.L.u8 d)] (r:=.byte) (fun _=>JJ _ _) ah (.c1 Z .nil) fun a6 a7 az ai z aj=>Ax h fun ak h=>?_;have q:=q.mono (Ab z);refine Bp (r:=.byte) 0 o [(Go.L.u8 d)] Z Ae1 ai Z q aj ak fun a8 a9 a1 x au al=>AA 1 Z<|Aw ?_
 cases h
 refine Ah Z ⟨x.ext,_,Z,(x.FV hH (i:=0) Z al)⟩
def HW(a0:Abv):Option Abv:=
 Qq9 (Df (a0.length:Int)) (fun a=>AU (Go.E.Fz 1 (a.length+a0.length)) (some ((a++a0))))
theorem Ep{a0:Abv}{a:Value}(b:AS .byte H a a0){r:Abv}(h:HW a0=some r):
  Qqv 121 [a] w (fun v w'=>∃g,v=g/\Cd 5 .byte H w w' g r):=by
 refine A4 8 [(0,a)] func121 Z fun hL=>A7 1 Z<|Bo 1 Z<|Ag (AZ b)<|A1 h fun s j h=>Br hL (BT _ _ (Av hL) j) ?_;rintro t z ⟨_,rfl,c⟩ k d f;obtain⟨x,d,f,o⟩:=c.take hH hL k;refine As 1 Z<|Ax h fun p h=>Bp (r:=.byte) 0 s a0 Z Ae1 d Z o (b.mono  Aj) p fun v3 w3 y e u q=>AA 1 Z<|Aw ?_
 cases h
 refine Ah Z ⟨e.ext,_,Z,(e.FV hH (i:=0) Z q)⟩
end
def Fs(a0:Pv)(a:Int)(self:Pv->Option Abv)(b:Abv):Option ((Abv×Int)⊕(Abv)):=
 Qq9 (self (a0.f.2.2.2.2.getD a.toNat Qq2)) (fun c=>AU (Go.E.Fz 1 (b.length+c.length)) (AU (Bq (a+1)) (some (Sum.inl ((b++c),(a+1))))))
def Jv(a:Abv):Option Abv:=
 some a
def Cz(a0:Pv)(self:Pv->Option Abv):Abv×Int->Option ((Abv×Int)⊕(Abv)):=fun⟨b,a⟩=>
 if a<(a0.f.2.2.2.2.length:Int)then AU (0<=a/\a<(a0.f.2.2.2.2.length:Int)) (if a0.f.1=4 then AU (0<=a/\a<(a0.f.2.2.2.1.length:Int)) (AU ((a0.f.2.2.2.1.getD a.toNat Qq2).length<=9223372036854775807) (Qq9 (HW (a0.f.2.2.2.1.getD a.toNat Qq2)) (fun c=>AU (Go.E.Fz 1 (b.length+c.length)) ((Fs a0 a self) (b++c)))))else(Fs a0 a self) b)else Qzx Sum.inr (Jv b)
def R4(a0:Pv)(self:Pv->Option Abv)(s:Abv×Int):Option Abv:=Go.L.run (Cz a0 self) s
def F3(self:Pv->Option Abv)(a0:Pv):Option Abv:=
 Qq9 (Df a0.f.1) (fun a=>if a0.f.1=1 then Qq9 (Df a0.f.2.1) (fun d=>AU (Go.E.Fz 1 (a.length+d.length)) (some ((a++d))))else(if a0.f.1=2 then Qq9 (HW a0.f.2.2.1) (fun b=>AU (Go.E.Fz 1 (a.length+b.length)) (some ((a++b))))else Qq9 (Df (a0.f.2.2.2.2.length:Int)) (fun c=>AU (Go.E.Fz 1 (a.length+c.length)) ((R4 a0 self) ((a++c),0)))))
def Jw(self:Pv->Option Abv):Prop:=∀(w:World) (H:PH) (hH:Le H (hp w)) {a0:Pv}{a:Value}{b:Value}{c:Value} (e:AS .byte H a (a0.f.2.2.1)) (g:AS .st H b (a0.f.2.2.2.1)) (i:AS .tree H c (a0.f.2.2.2.2)) {r:Abv} (h:self a0=some r),Ok prog 76 [.agg #[No a0.f.1,No a0.f.2.1,a,b,c]] w (fun v w'=>Ext w w'/\∃d,v=d/\Cd 5 .byte H w w' d r)
def Ft:Nat->Pv->Option Abv
 | 0=>fun _=>none
 | n+1=>F3 (Ft n)
def N5:Pv->Option Abv:=Ft 1000
theorem R5(self:Pv->Option Abv)(hself:Jw self):Jw (F3 self):=by
 intro w H hH a0 ad ae s b9 ca an r h;unfold Jw at hself;refine A4 57 [(0,.agg #[No a0.f.1,No a0.f.2.1,ad,ae,s])] func76 Z fun hL=>Ao<|BM (t:=51) Z Z hL fun w1 b1 ap da _=>AA 1 Z<|Ao<|Ag (Ae Z Ahe Z BB.e)<|Ag (Af 0 Z ap Z)<|A1 h fun x2 ct h=>Br ap (BT _ _ (Av ap) ct) ?_;rintro db w3 ⟨_,rfl,bd⟩ cu d cb;obtain⟨dr,d,cb,k⟩:=bd.take hH ap cu;refine AA 1 Z<|A6<|Ao<|Ag (Ae Z Ahe Z BB.e)<|Ag (Af 1 Z d Z)<|Ad<|A2<|A7 2 Z<|AL h ?_ ?_<;>intro cv h
 ·refine Bo 1 Z<|Ag (Ae Z Ahe Z BB.e)<|Ag (Af 1 Z d Z)<|A1 h fun x6 cw h=>Br d (BT _ _ (Av d) cw) ?_;rintro dd w7 ⟨_,rfl,be⟩ cx cy cc;have af:=be.Cu hH d cx;have k:=k.mono (Ab cc);refine Ax h fun cz h=>Bp (r:=.byte) 0 x2 x6 Z Ae1 cy Z k af cz ?_;intro v8 w8 ds b7 cd c0;have af:=af.mono (Ab cd);refine AA 1 Z<|Aw<|Al<|Am ?_
  cases h
  refine Ah Z ⟨b7.ext,_,Z,(b7.FV hH (i:=0) Z c0)⟩
 refine A7 2 Z<|AL h ?_ ?_<;>intro ce h
 ·refine Bo 1 Z<|Ag (Ae Z Ahe Z Fy.e)<|Ag (Af 1 Z d Z)<|A1 h fun c1 cf h=>Br d (Ep _ _ (Av d) (b9.mono  Aj) cf) ?_;rintro c5 dt ⟨_,rfl,ay⟩ cg ch bf;have aa:=ay.Cu hH d cg;have k:=k.mono (Ab bf);refine Ax h fun ci h=>Bp (r:=.byte) 0 x2 c1 Z Ae1 ch Z k aa ci ?_;intro du dv de az bg cj;have aa:=aa.mono (Ab bg);refine AA 1 Z<|Aw<|Al<|Am ?_
  cases h
  refine Ah Z ⟨az.ext,_,Z,(az.FV hH (i:=0) Z cj)⟩
 refine Au<|Az<|Aq<|Bo 1 Z<|Ag (Ae Z Ahe Z XJ.e)<|Ag (Af 1 Z d Z)<|Ag (AZ an)<|A1 h fun b8 ck h=>Br d (BT _ _ (Av d) ck) ?_;rintro c6 dw ⟨_,rfl,a1⟩ cl cm bh;have ab:=a1.Cu hH d cl;have k:=k.mono (Ab bh);refine Ax h fun cn h=>Bp (r:=.byte) 0 x2 b8 Z Ae1 cm Z k ab cn ?_;intro c2 dx co a2 bi cp;have ab:=ab.mono (Ab bi);refine AA 1 Z<|Bb (Abv×Value×Qq6) (fun⟨ak,ag,x⟩=>[(3,ag)]) (fun⟨ak,ag,x⟩ wr=>C5 w [.row ag 5 1 (ak).length x,.box b1 [No a0.f.1,No a0.f.2.1,ad,ae,s] 51] wr fun Oz=>AK .byte (gz H w wr Oz) ak x/\Jv ak=some r) ?_ ?_
 ·refine Ao<|Ag (Ae Z Ahe Z XJ.e)<|Ag (Af 1 Z a2 Z)<|Ag (AZ an)<|AA 1 Z<|A2 ?_;obtain⟨ao,h⟩:=AR h;refine Bj (Abv×Int×Value×Qq6×Nat) (fun⟨e,a,g,c,n⟩=>[(1,(Abo b1)),(3,g),(32,s),(33,No (a0.f.2.2.2.2.length:Int)),(34,No a)]) (fun⟨e,a,g,c,n⟩ wr=>C5 w [.row g 5 1 (e).length c,.box b1 [No a0.f.1,No a0.f.2.1,ad,ae,s] 51] wr fun Oz=>AK .byte (gz H w wr Oz) e c/\DR (Cz a0 self) n (e,a)=some r) (fun⟨e,a,g,c,n⟩=>n) ((x2++b8),0,c2,co,ao) Z ⟨a2,cp,h⟩ ?_;rintro⟨e,a,g,c,nn108⟩ c7 ⟨ah,b,h⟩;obtain⟨ao,cq,rfl,h,aq⟩:=AQ h;refine A7 1 Z<|A6<|AL h ?_ ?_<;>intro bj h
  ·refine Au<|Aq<|A6<|A2<|Bo 1 Z<|Ax h fun ar h=>AW an a.toNat (Cx ar) (AM ar) ?_;rintro df _ e112t0 bk;obtain⟨_,_,rfl,rfl,⟨_,_,rfl,rfl,⟨_,_,rfl,⟨e112v2,rfl,e112h2⟩,⟨_,_,rfl,⟨e112v3,rfl,e112h3⟩,⟨e112v4,rfl,e112h4⟩⟩⟩⟩⟩:=Go.E.Rp.Mb e112t0;refine Ag (BI bk (hH.trans ah.arg))<|AO EK.e Z ah ?_;intro dg a3 bl a4 _;have b:=b.mono (Ab a4);refine As 1 Z<|Ak 0 Z bl Z (a:=(CB Z (CB Z (CB e112h2.one (CB e112h3.one (CB e112h4.one Ps)))))) ?_;intro dh o a5;have b:=b.mono (Ab a5);refine Ad ?_
   refine Bb (Abv×Value×Qq6) (fun⟨j,y,p⟩=>[(1,(Abo b1)),(3,y),(5,(Abo a3)),(32,s),(33,No (a0.f.2.2.2.2.length:Int)),(34,No a)]) (fun⟨j,y,p⟩ wr=>C5 w [.box a3 [No ((a0.f.2.2.2.2.getD a.toNat Qq2).f.1),No ((a0.f.2.2.2.2.getD a.toNat Qq2).f.2.1),e112v2,e112v3,e112v4] 51,.row y 5 1 (j).length p,.box b1 [No a0.f.1,No a0.f.2.1,ad,ae,s] 51] wr fun Oz=>AK .byte (gz H w wr Oz) j p/\(Fs a0 a self) j=some cq) ?_ ?_
   ·refine Ao<|Ag (Ae Z Ahe Z BB.e)<|Ag (Af 2 Z o Z)<|AA 1 Z<|AL h ?_ ?_<;>intro bm h
    ·refine An<|As 1 Z<|Ag (Ae Z Ahe Z H3.e)<|Ag (Af 2 Z o Z)<|As 1 Z<|Ax h fun au h=>AW ca a.toNat (Cx au) (AM au) ?_;rintro di _ rfl bn;refine Ag (AT bn (hH.trans o.arg))<|Ax h fun bo h=>AcL (H:=H) o bo ?_;intro dj dk c8 ai a6 q;have b:=b.mono (Ab a6);refine A1 h fun a7 bp h=>Br ai (Ep _ _ (Av ai) q bp) ?_;rintro c3 dl ⟨_,rfl,av⟩ bq br al;have u:=av.Cu hH ai bq;have b:=b.mono (Ab al);have q:=q.mono (Ab al);refine Ax h fun bs h=>Bp (r:=.byte) 1 e a7 Z Ae1 br Z b u bs ?_;intro cr dm bt bu am bv;have q:=q.mono (Ab am);have u:=u.mono (Ab am);refine As 1 Z<|AE<|A8 (_,_,_) ⟨bu,bv,h⟩
    refine Au<|A8 (_,_,_) ⟨o,b,h⟩
   rintro⟨j,y,p⟩ c9 ⟨z,ac,h⟩;refine An<|As 1 Z<|Ag (AJ 0 Z EK.e z Z)<|A1 h fun a8 bw h=>Br z (hself _ _ (Av z) (e112h2.mono  Aj) (e112h3.mono  Aj) (e112h4.mono  Aj) bw) ?_;rintro c4 dn ⟨_,rfl,aw⟩ bx bz a9;have v:=aw.Cu hH z bx;have ac:=ac.mono (Ab a9);refine Ax h fun b0 h=>Bp (r:=.byte) 1 j a8 Z Ae1 bz Z ac v b0 ?_;intro cs dp b2 b3 ba aj;have v:=v.mono (Ab ba);refine As 1 Z<|AE<|Az<|Aq<|An<|Ax h fun b4 h=>Ag (Ay b4)<|As 1 Z<|AE ?_;have b5:=b3.Bl (i:=0) Z;have aj:=aj.mono (Ab (AB (i:=0) Z));have h:=Bw.again h aq;refine AD (_,_,_,_,_) Z ⟨b5,aj,h⟩
  refine Bf<|A5<|A3 ?_;have h:=Bw.out h aq;refine AY<|A8 (_,_,_) ⟨ah,b,h⟩
 rintro⟨ak,ag,x⟩ dq ⟨bb,b6,h⟩;refine A7 2 Z<|Aw ?_
 cases h
 refine Ah Z ⟨bb.ext,_,Z,(bb.FV hH (i:=0) Z b6)⟩
theorem TK(n:Nat):Jw (Ft n):=by
 induction n with
 | zero=>unfold Jw;intros;rename_i h;cases h
 | succ n ih=>exact R5 (Ft n) ih
section
variable(w:World)(H:PH)(hH:Le H (hp w)) include hH
theorem V6{a0:Pv}{a b c:Value}(d:AS .byte H a (a0.f.2.2.1))(e:AS .st H b (a0.f.2.2.2.1))(g:AS .tree H c (a0.f.2.2.2.2)){r:Abv}(h:N5 a0=some r):Ok prog 76 [.agg #[No a0.f.1,No a0.f.2.1,a,b,c]] w (fun v w'=>Ext w w'/\∃i,v=i/\Cd 5 .byte H w w' i r):=TK 1000 w H hH d e g h
def N6(a0:Pv):Option (Abv×Qq7):=
 Qq9 (OJ a0 (0:Int) (1:Int)) (fun a=>if a.2.1=0/\a.2.2=0 then Qq9 (N5 a0) (fun b=>if 4000<(b.length:Int)then Qq9 (OI (14:Int) (-1:Int)) (fun c=>some ([],(c.1,c.2)))else some (b,(0,0)))else some ([],(a.2.1,a.2.2)))
theorem V7{a0:Pv}{c d e:Value}(k:AS .byte H c (a0.f.2.2.1))(l:AS .st H d (a0.f.2.2.2.1))(m:AS .tree H e (a0.f.2.2.2.2)){r:Abv×Qq7}(h:N6 a0=some r):
  Qqv 44 [.agg #[No a0.f.1,No a0.f.2.1,c,d,e]] w (fun v w'=>∃u0,v=.tuple #[u0,.agg #[No r.2.1,No r.2.2]]/\Cd 5 .byte H w w' u0 (r.1)):=by
 refine A4 24 [(0,.agg #[No a0.f.1,No a0.f.2.1,c,d,e])] func44 Z fun hL=>Ao<|BM (t:=51) Z Z hL fun w1 b1 ai au _=>As 1 Z<|AO AI.e Z ai fun w2 b2 o av _=>Ad<|A6<|Ao<|Ag (AJ 1 Z EK.e o Z)<|A1 h fun x3 aj h=>A9 o (WJ (a0:=a0) _ _ (Av o) (k.mono  Aj) (l.mono  Aj) (m.mono  Aj) aj) fun w4 a2 ak aw=>As 3 Z<|AO AI.e Z ak fun w5 b5 al ax _=>As 1 Z<|Ak 0 Z al Z fun w6 b ay=>Ad<|Ao<|Ag (AJ 0 Z AI.e b Z)<|Ag (Ba (fun _=>B8 _))<|Ag (IX I4 (Nc _ _ _ _))<|Ad<|BG h ?_ ?_<;>intro am h
 ·refine BZ (.q 0 (.q 1 (.tail 2))) mixed Qqb (fun w9 an=>?_);have p:=b.call an;refine B2 Z (AJ 0 Z AI.e p Z) Z<|B9 1 Z<|Bt (fun a3 aa=>?_);have ab:=p.call aa;refine Ak 1 Z ab Z fun a4 s ao=>Ad<|Aw<|Am ?_
  cases h
  refine Bv (.tmp Z) (.cell Z Ae3 Z AI.e (AP (i:=1) s Z)) ⟨s.ext,_,Z,Cd.nil⟩
 refine Au<|Aq<|Ao<|Ag (AJ 2 Z EK.e b Z)<|A1 h fun a5 ac h=>Br b (V6 (a0:=a0) _ _ (Av b) (k.mono  Aj) (l.mono  Aj) (m.mono  Aj) ac) ?_;rintro ap a6 ⟨_,rfl,u⟩ ad a y;obtain⟨az,a,y,g⟩:=u.take hH b ad;refine AA 1 Z<|A6<|Bo 1 Z<|Ag (Tc 0 Z a Z)<|AA 1 Z<|AL h ?_ ?_<;>intro ae h
 ·refine Ao<|A1 h fun a7 af h=>A9 a (Ob _ _ (Av a) af) fun a8 a1 ag aq=>As 1 Z<|Ak 2 Z ag Z fun a9 x ar=>Ad<|Aw<|Am ?_
  cases h
  refine Bv (.tmp Z) (.cell Z Ae3 Z AI.e (AP (i:=2) x Z)) ⟨x.ext,_,Z,Cd.nil⟩
 refine Au<|Aq<|Bo 1 Z<|Ag (Ba (fun _=>B8 _))<|As 1 Z<|Ak 2 Z a Z fun ba j z=>Ad<|Aw ?_
 cases h
 refine Bv (.tmp Z) (.cell Z Ae3 Z AI.e (AP (i:=2) j Z)) ?_;have g:=g.mono (Ab z);exact⟨j.ext,_,Z,(j.FV hH (i:=0) Z g)⟩
def CG(a0:Pv):Option Al5:=
 Qq9 (N6 a0) (fun a=>some ((a.2.1,a.2.2)))
theorem OK{a0:Pv}{a b c:Value}(j:AS .byte H a (a0.f.2.2.1))(k:AS .st H b (a0.f.2.2.2.1))(l:AS .tree H c (a0.f.2.2.2.2)){r:Al5}(h:CG a0=some r):
  Qqv 19 [.agg #[No a0.f.1,No a0.f.2.1,a,b,c]] w (fun v w'=>v=.agg #[No r.1,No r.2]):=by
 refine A4 11 [(0,.agg #[No a0.f.1,No a0.f.2.1,a,b,c])] func19 Z fun hL=>Ao<|BM (t:=51) Z Z hL fun w1 b1 m u _=>AO AI.e Z m fun w2 b2 d x _=>Ad<|Ao<|Ag (AJ 1 Z EK.e d Z)<|A1 h fun x3 o h=>Br d (V7 (a0:=a0) _ _ (Av d) (j.mono  Aj) (k.mono  Aj) (l.mono  Aj) o) ?_;rintro _ w4 ⟨y,rfl,s⟩ ad p z;refine As 3 Z<|AO AI.e Z p fun w5 b5 q aa _=>As 1 Z<|Ak 0 Z q Z fun w6 e ab=>Ad<|Ao<|Ag (AJ 0 Z AI.e e Z)<|Ak 1 Z e Z fun w7 g ac=>Ad<|Aw ?_
 cases h
 refine BX (.cell Z Ae3 Z AI.e (AP (i:=1) g Z)) ⟨g.ext,Z⟩
end
end Go.Proofs.YtopocbcekabkoaaGreatDoor
end
noncomputable section
namespace Go
abbrev AlG:=Go.E.Rp.pair Go.E.Rp.st (Go.E.Rp.int .i64)
end Go
namespace Go
abbrev AlE:=Go.E.Rp.pair Go.E.Rp.st (Go.E.Rp.pair (Go.E.Rp.int .i64) (Go.E.Rp.pair (Go.E.Rp.int .i64) (Go.E.Rp.pair (Go.E.Rp.int .i64) (Go.E.Rp.pair (Go.E.Rp.int .i64) (Go.E.Rp.pair (Go.E.Rp.bs 32) (Go.E.Rp.pair (Go.E.Rp.vec (Go.E.Rp.pair Go.E.Rp.st (Go.E.Rp.int .i64))) (Go.E.Rp.pair (Go.E.Rp.vec Go.E.Rp.st) (Go.E.Rp.pair (Go.E.Rp.int .i64) (Go.E.Rp.pair (Go.E.Rp.int .i64) (Go.E.Rp.pair (Go.E.Rp.int .i64) (Go.E.Rp.pair (Go.E.Rp.int .i64) (Go.E.Rp.pair (Go.E.Rp.bs 32) (Go.E.Rp.vec (Go.E.Rp.bs 32))))))))))))))
end Go
namespace Go
abbrev Al4:=List ((Abv×Int)×Int)
end Go
namespace Go
abbrev Alp:=Abv×Int×Int×Int×Int×(Nat->UInt8)×(List (Abv×Int))×(List Abv)×Int×Int×Int×(Int×(Nat->UInt8)×(List (Nat->UInt8)))
end Go
namespace Go
open Go.E Go.L
abbrev AlH(a:Alp)(b c d:Value):Qq6:=Qkz [Abu a.1,No a.2.1,No a.2.2.1,No a.2.2.2.1,No a.2.2.2.2.1] (Qkz (FU 32 a.2.2.2.2.2.1) (Qkz [b,c,No a.2.2.2.2.2.2.2.2.1,No a.2.2.2.2.2.2.2.2.2.1,No a.2.2.2.2.2.2.2.2.2.2.1,No a.2.2.2.2.2.2.2.2.2.2.2.1] (Qkz (FU 32 a.2.2.2.2.2.2.2.2.2.2.2.2.1) [d])))
end Go
namespace Go.Proofs.YtopocbcekabkoaaGreatDoor
open Go Go.E Go.RowKit Go.L
set_option maxHeartbeats 1000000
set_option maxRecDepth 10000
open _root_.Go.Proofs.Tryz
def CH(a0 a1:Int):Option Al5:=
 some ((a0,a1))
section
variable(w:World)(H:PH)(hH:Le H (hp w)) include hH
theorem EO{a0 a1:Int}{r:Al5}(h:CH a0 a1=some r):
  Qqv 33 [No a0,No a1] w (fun v w'=>v=.agg #[No r.1,No r.2]):=by
 refine A4 8 [(0,No a0),(1,No a1)] func33 Z fun hL=>Ao<|AO AI.e Z hL fun e f b c _=>Ad<|Bo 2 Z<|Ag (Ba (fun _=>JI _ _ _))<|Ak 0 Z b Z fun g a d=>Ad<|Aw ?_
 cases h
 refine BX (.cell Z Ae3 Z AI.e (AP (i:=0) a Z)) ⟨a.ext,Z⟩
def Dp(a0 a1 a2:Int):Option Bool:=
 some (decide ((a1<=a0)/\(a0<=a2)))
theorem E9{a0 a1 a2:Int}{r:Bool}(h:Dp a0 a1 a2=some r):
  Qqv 37 [No a0,No a1,No a2] w (fun v w'=>v=.bool r):=by
 refine A4 15 [(0,No a0),(1,No a1),(2,No a2)] func37 Z fun hL=>A7 1 Z<|Bo 4 Z<|Ns 3 3 Z Z Z Z Z Z<|AA 1 Z<|Aw ?_
 cases h
 refine Ah Z ⟨hL.ext,Z⟩
def ED:Option Int:=
 some ((-1))
def Cr(a0:List (Abv×Int))(a1:Abv×Int):Int->Option ((Int)⊕(Int)):=fun a=>
 if a<(a0.length:Int)then AU (0<=a/\a<(a0.length:Int)) (if a1.1=(a0.getD a.toNat Qq2).1/\a1.2=(a0.getD a.toNat Qq2).2 then Qzx Sum.inr (some a)else AU (Bq (a+1)) (some (Sum.inl (a+1))))else Qzx Sum.inr ED
def Hp(a0:List (Abv×Int))(a1:Abv×Int)(s:Int):Option Int:=Go.L.run (Cr a0 a1) s
def FJ(a0:List (Abv×Int))(a1:Abv×Int):Option Int:=
 (Hp a0 a1) (0:Int)
theorem LJ{a0:List (Abv×Int)}{a1:Abv×Int}{b:Value}(e:AS AlG H b a0){r:Int}(h:FJ a0 a1=some r):
  Qqv 160 [b,.agg #[Abu a1.1,No a1.2]] w (fun v w'=>v=No r):=by
 refine A4 19 [(0,b),(1,.agg #[Abu a1.1,No a1.2])] func160 Z fun hL=>Ao<|BM (t:=101) Z Z hL fun w1 k y z _=>AA 1 Z<|Bb Unit (fun(_:Unit)=>[]) (fun(_:Unit) wr=>Bk w [.box k [Abu a1.1,No a1.2] 101] wr/\ED=some r) ?_ ?_
 ·refine Bo 1 Z<|Ag (AZ e)<|AA 1 Z<|A2 ?_;obtain⟨f,h⟩:=AR h;refine Bj (Int×Nat) (fun⟨a,n⟩=>[(0,b),(3,(Abo k)),(7,No (a0.length:Int)),(8,No a)]) (fun⟨a,n⟩ wr=>Bk w [.box k [Abu a1.1,No a1.2] 101] wr/\DR (Cr a0 a1) n a=some r) (fun⟨a,n⟩=>n) (0,f) Z ⟨y,h⟩ ?_;rintro⟨a,nn49⟩ aa ⟨g,h⟩;obtain⟨f,ac,rfl,h,c⟩:=AQ h;refine A7 1 Z<|A6<|AL h ?_ ?_<;>intro l h
  ·refine Au<|Aq<|A6<|A2<|A7 2 Z<|BZ (Qqz 0 6 (.tail 6)) mixed Qqb (fun ad m=>?_);have d:=g.call m;refine B2 Z (AJ 0 Z LL.e d Z) Z<|B9 2 Z<|Ax h fun i h=>CP Z Z Z Ahg e a.toNat (Cx i) (AM i) Z ?_;rintro ae _ ⟨_,_,rfl,rfl,rfl⟩ o;refine B2 Z (BI o (hH.trans d.arg)) Z<|B2 Z (AeL AjI (Ajb _ _ _ _)) Z<|Bt (fun af p=>?_);have j:=d.call p;refine Ad<|AL h ?_ ?_<;>intro s h
   ·refine A7 2 Z<|Aw<|Al<|Am<|Bc ?_;have h:=Bw.out h c;refine Al<|AN ?_
    cases h
    refine Ah Z ⟨j.ext,Z⟩
   refine Au<|Az<|Aq<|An<|Ax h fun u h=>Ag (Ay u)<|As 1 Z<|AE ?_;have h:=Bw.again h c;refine AD (_,_) Z ⟨j,h⟩
  refine Bf<|A5<|A3 ?_;have h:=Bw.out h c;refine AY<|A8 () ⟨g,h⟩
 rintro _ ab ⟨x,h⟩;refine A7 1 Z<|Aw ?_
 cases h
 refine Ah Z ⟨x.ext,Z⟩
def Cw(a0:List (Abv×Int))(a1:Abv×Int):Option Bool:=
 Qq9 (FJ a0 a1) (fun a=>some (decide (0<=a)))
theorem KP{a0:List (Abv×Int)}{a1:Abv×Int}{a:Value}(c:AS AlG H a a0){r:Bool}(h:Cw a0 a1=some r):
  Qqv 113 [a,.agg #[Abu a1.1,No a1.2]] w (fun v w'=>v=.bool r):=by
 refine A4 9 [(0,a),(1,.agg #[Abu a1.1,No a1.2])] func113 Z fun hL=>Ao<|BM (t:=101) Z Z hL fun j k b f _=>AA 1 Z<|Bo 1 Z<|Ag (AJ 0 Z LL.e b Z)<|A1 h fun l d h=>A9 b (LJ (a1:=a1) _ _ (Av b) (c.mono  Aj) d) fun m i e g=>AA 2 Z<|Aw ?_
 cases h
 refine Ah Z ⟨e.ext,Z⟩
def GM:Option Int:=
 some (0)
def Dg(a0:List (Abv×Int)):Int->Option ((Int)⊕(Int)):=fun a=>
 if a<(a0.length:Int)then AU (0<=a/\a<(a0.length:Int)) (Qq9 (Jq ((a0.getD a.toNat Qq2).1)) (fun b=>if !b then Qzx Sum.inr (some (7))else Qq9 (Dp ((a0.getD a.toNat Qq2).2) (1:Int) (9999:Int)) (fun c=>if !c then Qzx Sum.inr (some (4))else AU (0<=a/\a<=(a0.length:Int)) (Qq9 (Cw (a0.take a.toNat) (a0.getD a.toNat Qq2)) (fun d=>if d then Qzx Sum.inr (some (8))else AU (Bq (a+1)) (some (Sum.inl (a+1))))))))else Qzx Sum.inr GM
def JY(a0:List (Abv×Int))(s:Int):Option Int:=Go.L.run (Dg a0) s
def FZ(a0:List (Abv×Int)):Option Int:=
 (JY a0) (0:Int)
theorem O6{a0:List (Abv×Int)}{c:Value}(g:AS AlG H c a0){r:Int}(h:FZ a0=some r):
  Qqv 65 [c] w (fun v w'=>v=No r):=by
 refine A4 29 [(0,c)] func65 Z fun hL=>A7 1 Z<|Bb Unit (fun(_:Unit)=>[]) (fun(_:Unit) wr=>Bk w [] wr/\GM=some r) ?_ ?_
 ·refine Bo 1 Z<|Ag (AZ g)<|AA 1 Z<|A2 ?_;obtain⟨o,h⟩:=AR h;refine Bj (Int×Nat) (fun⟨a,n⟩=>[(0,c),(5,c),(6,No (a0.length:Int)),(7,No a)]) (fun⟨a,n⟩ wr=>Bk w [] wr/\DR (Dg a0) n a=some r) (fun⟨a,n⟩=>n) (0,o) Z ⟨hL,h⟩ ?_;rintro⟨a,nn96⟩ av ⟨j,h⟩;obtain⟨o,a9,rfl,h,d⟩:=AQ h;refine A7 1 Z<|A6<|AL h ?_ ?_<;>intro ak h
  ·refine Au<|Aq<|A6<|A2<|Bo 1 Z<|Ax h fun k h=>AW g a.toNat (Cx k) (AM k) ?_;rintro aw _ ⟨_,_,rfl,rfl,rfl⟩ t;refine Ag (BI t (hH.trans j.arg))<|AO LL.e Z j fun ax ay u an _=>As 1 Z<|Ak 0 Z u Z fun az e ao=>Ad<|A2<|Ao<|Ag (Ae Z Ahh Z Dl.e)<|Ag (Af 0 Z e Z)<|A1 h fun a1 x h=>A9 e (Ko _ _ (Av e) x) fun a2 ar b ap=>AA 2 Z<|Bi h ?_ ?_<;>intro y h
   ·refine A7 1 Z<|Aw ?_
    iterate 2 refine Al ?_
    refine Am<|Bc ?_;have h:=Bw.out h d;refine Al<|AN ?_
    cases h
    refine Ah Z ⟨b.ext,Z⟩
   refine Ao<|Ag (Ae Z Ahh Z BB.e)<|Ag (Af 0 Z b Z)<|A1 h fun a3 z h=>A9 b (E9 _ _ (Av b) z) fun a4 au l aq=>AA 2 Z<|Bi h ?_ ?_<;>intro aa h
   ·refine A7 1 Z<|Aw ?_
    iterate 2 refine Al ?_
    refine Am<|Bc ?_;have h:=Bw.out h d;refine Al<|AN ?_
    cases h
    refine Ah Z ⟨l.ext,Z⟩
   refine BZ (Qqz 0 6 (.tail 6)) mixed Qqb (fun al ab=>?_);have f:=l.call ab;refine B9 2 Z<|Ax h fun ac h=>Aah Z Z Ahg g ac Z fun a5 ad=>B2 Z (AJ 0 Z LL.e f Z) Z<|A1 h fun a6 ae h=>?_;have p:=(fun(s:World) (af:Ext al s)=>KP s _ (Le.refl _) ((ad.mono (hH.trans f.arg)).mono af.le) ae);refine Er Z Z Z p<|B9 1 Z<|Bt (fun a7 ag=>?_);have m:=f.call ag;refine Ad<|Bi h ?_ ?_<;>intro ah h
   ·refine A7 1 Z<|Aw ?_
    iterate 2 refine Al ?_
    refine Am<|Bc ?_;have h:=Bw.out h d;refine Al<|AN ?_
    cases h
    refine Ah Z ⟨m.ext,Z⟩
   refine Au ?_
   iterate 2 refine Az ?_
   refine Aq<|An<|Ax h fun ai h=>Ag (Ay ai)<|As 1 Z<|AE ?_;have aj:=m.Bl (i:=0) Z;have h:=Bw.again h d;refine AD (_,_) Z ⟨aj,h⟩
  refine Bf<|A5<|A3 ?_;have h:=Bw.out h d;refine AY<|A8 () ⟨j,h⟩
 rintro _ a8 ⟨am,h⟩;refine A7 1 Z<|Aw ?_
 cases h
 refine Ah Z ⟨am.ext,Z⟩
def Hj:Option Int:=
 some (0)
def Dy(a0:List Abv):Int->Option ((Int)⊕(Int)):=fun a=>
 if a<(a0.length:Int)then AU (0<=a/\a<(a0.length:Int)) (Qq9 (Jq (a0.getD a.toNat Qq2)) (fun b=>if !b then Qzx Sum.inr (some (7))else(if 0<a then AU (Bq (a - 1)) (AU (0<=(a - 1)/\(a - 1)<(a0.length:Int)) (if(Op.bytesLess (a0.getD a.toNat Qq2) (a0.getD ((a - 1).toNat) Qq2)||decide (a0.getD a.toNat Qq2=a0.getD ((a - 1).toNat) Qq2))then Qzx Sum.inr (some (11))else AU (Bq (a+1)) (some (Sum.inl (a+1)))))else AU (Bq (a+1)) (some (Sum.inl (a+1))))))else Qzx Sum.inr Hj
def Ks(a0:List Abv)(s:Int):Option Int:=Go.L.run (Dy a0) s
def EF(a0:List Abv):Option Int:=
 (Ks a0) (0:Int)
theorem Kt{a0:List Abv}{c:Value}(g:AS .st H c a0){r:Int}(h:EF a0=some r):
  Qqv 36 [c] w (fun v w'=>v=No r):=by
 refine A4 29 [(0,c)] func36 Z fun hL=>A7 1 Z<|Bb Unit (fun(_:Unit)=>[]) (fun(_:Unit) wr=>Bk w [] wr/\Hj=some r) ?_ ?_
 ·refine Bo 1 Z<|Ag (AZ g)<|AA 1 Z<|A2 ?_;obtain⟨i,h⟩:=AR h;refine Bj (Int×Nat) (fun⟨a,n⟩=>[(0,c),(5,c),(6,No (a0.length:Int)),(7,No a)]) (fun⟨a,n⟩ wr=>Bk w [] wr/\DR (Dy a0) n a=some r) (fun⟨a,n⟩=>n) (0,i) Z ⟨hL,h⟩ ?_;rintro⟨a,nn72⟩ aa ⟨f,h⟩;obtain⟨i,ad,rfl,h,d⟩:=AQ h;refine A7 1 Z<|A6<|AL h ?_ ?_<;>intro l h
  ·refine Au<|Aq<|A6<|A2<|Bo 1 Z<|Ax h fun j h=>AW g a.toNat (Cx j) (AM j) ?_;rintro ae _ rfl m;refine Ag (AT m (hH.trans f.arg))<|AA 2 Z<|A2<|Bo 1 Z<|A1 h fun af o h=>A9 f (Ko _ _ (Av f) o) fun ag ab e z=>AA 2 Z<|Bi h ?_ ?_<;>intro p h
   ·refine A7 1 Z<|Aw ?_
    iterate 2 refine Al ?_
    refine Am<|Bc ?_;have h:=Bw.out h d;refine Al<|AN ?_
    cases h
    refine Ah Z ⟨e.ext,Z⟩
   refine Bo 3 Z<|Bz 19 h ?_ ?_<;>intro b h
   ·refine Aa b<|Ag (Ai Z)<|Aa b<|Ag (Ai Z)<|Aa b<|Ag (Ai Z)<|Aa b<|Ax h fun q h=>Ag (Ay q)<|Aa b<|Ax h fun k h=>AW g ((a - 1).toNat) (Cx k) (AM k) ?_;rintro ah _ rfl s;refine Aa b<|Ag (AT s (hH.trans e.arg))<|Aa b<|Ag (Ak3 Z Z)<|Ag (AF b Z)<|AA 1 Z<|Bi h ?_ ?_<;>intro t h
    ·refine A7 1 Z<|Aw ?_
     iterate 2 refine Al ?_
     refine Am<|Bc ?_;have h:=Bw.out h d;refine Al<|AN ?_
     cases h
     refine Ah Z ⟨e.ext,Z⟩
    refine Au ?_
    iterate 2 refine Az ?_
    refine Aq<|An<|Ax h fun u h=>Ag (Ay u)<|As 1 Z<|AE ?_;have h:=Bw.again h d;refine AD (_,_) Z ⟨e,h⟩
   iterate 7 refine Ar b ?_
   refine Ag (AG b Z)<|AA 1 Z<|Co<|Au ?_
   iterate 2 refine Az ?_
   refine Aq<|An<|Ax h fun x h=>Ag (Ay x)<|As 1 Z<|AE ?_;have h:=Bw.again h d;refine AD (_,_) Z ⟨e,h⟩
  refine Bf<|A5<|A3 ?_;have h:=Bw.out h d;refine AY<|A8 () ⟨f,h⟩
 rintro _ ac ⟨y,h⟩;refine A7 1 Z<|Aw ?_
 cases h
 refine Ah Z ⟨y.ext,Z⟩
def MH(a0 a1:Int):Option Al5:=
 some ((a0,a1))
theorem Od{a0 a1:Int}{r:Al5}(h:MH a0 a1=some r):
  Qqv 114 [No a0,No a1] w (fun v w'=>v=.agg #[No r.1,No r.2]):=by
 refine A4 8 [(0,No a0),(1,No a1)] func114 Z fun hL=>Ao<|AO AI.e Z hL fun e f b c _=>Ad<|Bo 2 Z<|Ag (Ba (fun _=>JI _ _ _))<|Ak 0 Z b Z fun g a d=>Ad<|Aw ?_
 cases h
 refine BX (.cell Z Ae3 Z AI.e (AP (i:=0) a Z)) ⟨a.ext,Z⟩
def MI(a0:Int×(Nat->UInt8)×(List (Nat->UInt8))):Option Al5:=
 if a0.1<0 then Qq9 (MH (4:Int) (-2:Int)) (fun c=>some c)else if 2048<a0.1 then Qq9 (MH (4:Int) (-2:Int)) (fun a=>some a)else(if 86<(a0.2.2.length:Int)then Qq9 (MH (2:Int) (-2:Int)) (fun b=>some b)else some ((0,0)))
theorem R6{a0:Int×(Nat->UInt8)×(List (Nat->UInt8))}{c:Value}(j:AS (.bs 32) H c (a0.2.2)){r:Al5}(h:MI a0=some r):
  Qqv 66 [.agg (Qkz [No a0.1] (Qkz (FU 32 a0.2.1) [c])).toArray] w (fun v w'=>v=.agg #[No r.1,No r.2]):=by
 refine A4 18 [(0,.agg (Qkz [No a0.1] (Qkz (FU 32 a0.2.1) [c])).toArray)] func66 Z fun hL=>Ao<|BM (t:=69) Z Z hL fun w1 b1 q ad _=>AO AI.e Z q fun w2 b2 a ae _=>Ad<|A6<|Ao<|Ag (Ae Z Ahi Z BB.e)<|Ag (Af 1 Z a Z)<|As 2 Z<|Bz 6 h ?_ ?_<;>intro b h
 ·iterate 3 refine Ar b ?_
  refine Ag (AF b Z)<|Ad<|DS<|Ao<|A1 h fun x5 s h=>A9 a (Od _ _ (Av a) s) fun w6 aj u af=>Ak 0 Z u Z fun w7 g ag=>Ad<|Aw<|Am ?_
  cases h
  refine BX (.cell Z Ae3 Z AI.e (AP (i:=0) g Z)) ⟨g.ext,Z⟩
 refine Aa b<|Ag (Ae Z Ahi Z BB.e)<|Aa b<|Ag (Af 1 Z a Z)<|Aa b<|Ag (Ai Z)<|Ag (AG b Z)<|Ad<|AL h ?_ ?_<;>intro x h
 ·refine Ao<|A1 h fun ak k h=>A9 a (Od _ _ (Av a) k) fun al ah l y=>Ak 0 Z l Z fun am d z=>Ad<|Aw<|Am ?_
  cases h
  refine BX (.cell Z Ae3 Z AI.e (AP (i:=0) d Z)) ⟨d.ext,Z⟩
 refine Au<|Aq<|A6<|Ao<|Ag (Ae Z Ahi Z Als.e)<|Ag (Af 1 Z a Z)<|Ag (AZ j)<|AA 1 Z<|AL h ?_ ?_<;>intro m h
 ·refine Ao<|A1 h fun an o h=>A9 a (Od _ _ (Av a) o) fun ao ai p aa=>Ak 0 Z p Z fun ap e ab=>Ad<|Aw<|Am ?_
  cases h
  refine BX (.cell Z Ae3 Z AI.e (AP (i:=0) e Z)) ⟨e.ext,Z⟩
 refine Au<|Aq<|Ao<|Ag (Ba (fun _=>B8 _))<|Ak 0 Z a Z fun aq f ac=>Ad<|Aw ?_
 cases h
 refine BX (.cell Z Ae3 Z AI.e (AP (i:=0) f Z)) ⟨f.ext,Z⟩
def Kb(a0:Alp):Option ((Abv×Int)):=
 some ((a0.1,a0.2.1))
theorem Qj{a0:Alp}{a b c:Value}(_h0_0:AS AlG H a (a0.2.2.2.2.2.2.1))(_h0_1:AS .st H b (a0.2.2.2.2.2.2.2.1))(_h0_2:AS (.bs 32) H c (a0.2.2.2.2.2.2.2.2.2.2.2.2.2)){r:(Abv×Int)}(h:Kb a0=some r):
  Qqv 69 [.agg (AlH a0 a b c).toArray] w (fun v w'=>v=.agg #[Abu r.1,No r.2]):=by
 refine A4 8 [(0,.agg (AlH a0 a b c).toArray)] func69 Z fun hL=>Ao<|BM (t:=71) Z Z hL fun l m f g _=>AO LL.e Z f fun o p d j _=>Ad<|Ao<|Ag (Ae Z Ahm Z Dl.e)<|Ag (Af 1 Z d Z)<|Ag (Ae Z Ahm Z BB.e)<|Ag (Af 1 Z d Z)<|Ag (Ba (fun _=>AbH _ Z _ _))<|Ak 0 Z d Z fun q e k=>Ad<|Aw ?_
 cases h
 refine BX (.cell Z Ahh Z LL.e (AP (i:=0) e Z)) ⟨e.ext,Z⟩
def HX(a:Al4):Option (Al4):=
 some a
def F4(a0:List Alp):Al4×Int->Option ((Al4×Int)⊕(Al4)):=fun⟨b,a⟩=>
 if a<(a0.length:Int)then AU (0<=a/\a<(a0.length:Int)) (Qq9 (Kb (a0.getD a.toNat Qq2)) (fun c=>AU (Bq (a+1)) (some (Sum.inl ((Dm c a b),(a+1))))))else Qzx Sum.inr (HX b)
def Lt(a0:List Alp)(s:Al4×Int):Option (Al4):=Go.L.run (F4 a0) s
def Hr(a0:List Alp):Option (Al4):=
 (Lt a0) (([]:Al4),0)
theorem Qk{a0:List Alp}{d:Value}(g:AS AlE H d a0){r:Al4}(h:Hr a0=some r):
  Qqv 35 [d] w (fun v w'=>∃u0,v=u0/\T9 P2 (Value.int .i64) (un H (nw w w')) u0 r):=by
 refine A4 20 [(0,d)] func35 Z fun hL=>A7 1 Z<|Ao<|U2 P2 Int hL fun w1 p ah an=>AA 1 Z<|Bb Al4 (fun c=>[(3,.map (some p))]) (fun c wr=>Bk w [QE P2 p c ((c).map fun(z:(Abv×Int)×Int)=>(Value.int .i64) z.2)] wr/\HX c=some r) ?_ ?_
 ·refine Bo 1 Z<|Ag (AZ g)<|AA 1 Z<|A2 ?_;obtain⟨j,h⟩:=AR h;refine Bj (Al4×Int×Nat) (fun⟨b,a,n⟩=>[(3,.map (some p)),(7,d),(8,No (a0.length:Int)),(9,No a)]) (fun⟨b,a,n⟩ wr=>Bk w [QE P2 p b ((b).map fun(z:(Abv×Int)×Int)=>(Value.int .i64) z.2)] wr/\DR (F4 a0) n (b,a)=some r) (fun⟨b,a,n⟩=>n) (([]:Al4),0,j) Z ⟨ah,h⟩ ?_;rintro⟨b,a,nn46⟩ ao ⟨e,h⟩;obtain⟨j,ar,rfl,h,m⟩:=AQ h;refine A7 1 Z<|A6<|AL h ?_ ?_<;>intro s h
  ·refine Au<|Aq<|A6<|A2<|Bo 1 Z<|Ax h fun o h=>AW g a.toNat (Cx o) (AM o) ?_;rintro au _ ⟨_,_,rfl,rfl,⟨_,_,rfl,rfl,⟨_,_,rfl,rfl,⟨_,_,rfl,rfl,⟨_,_,rfl,rfl,⟨_,_,rfl,rfl,⟨_,_,rfl,⟨e50v37,rfl,e50h37⟩,⟨_,_,rfl,⟨e50v38,rfl,e50h38⟩,⟨_,_,rfl,rfl,⟨_,_,rfl,rfl,⟨_,_,rfl,rfl,⟨_,_,rfl,rfl,⟨_,_,rfl,rfl,⟨e50v75,rfl,e50h75⟩⟩⟩⟩⟩⟩⟩⟩⟩⟩⟩⟩⟩⟩ t;refine Ag (BI t (hH.trans e.arg))<|AO O4.e Z e fun av aw u ai _=>As 1 Z<|Ak 0 Z u Z (a:=(onp 37 Z (CB e50h37.one (CB e50h38.one (onp 36 Z (CB e50h75.one Ps)))))) fun ax f aj=>Ad<|An<|As 1 Z<|Ag (AJ 0 Z O4.e f Z)<|A1 h fun q x h=>A9 f (Qj (a0:=(a0.getD a.toNat Qq2)) _ _ (Av f) (e50h37.mono  Aj) (e50h38.mono  Aj) (e50h75.mono  Aj) x) fun ay ap y ak=>As 1 Z<|Afd (l:=b) (k:=q) (z:=a) (ev':=(Value.int .i64)) (enc:=P2) 1 Z Z Af1 y Z fun az aa al=>AE<|Az<|Aq<|An ?_
   refine Ax h fun ab h=>Ag (Ay ab)<|As 1 Z<|AE ?_;have ac:=aa.Bl (i:=0) Z;have h:=Bw.again h m;refine AD (_,_,_) Z ⟨ac,h⟩
  refine Bf<|A5<|A3 ?_;have h:=Bw.out h m;refine AY<|A8 _ ⟨e,h⟩
 rintro c aq ⟨ad,h⟩;refine A7 2 Z<|Aw ?_;obtain⟨ae,am,af⟩:=Aft (H:=H) (l:=c) (enc:=P2) (ev':=(Value.int .i64)) 0 ad Z
 cases h
 refine Ah Z ⟨ae.ext,_,Z,(af.mono (OV hH))⟩
end
end Go.Proofs.YtopocbcekabkoaaGreatDoor
end
noncomputable section
namespace Go
abbrev Al6:=Qq5×Int
end Go
namespace Go
abbrev Al3:=Qq5×Qq7
end Go
namespace Go.Proofs.YtopocbcekabkoaaGreatDoor
open Go Go.E Go.RowKit Go.L
set_option maxHeartbeats 1000000
set_option maxRecDepth 10000
open _root_.Go.Proofs.Tryz
def HY(a0:Alp)(a1:Alp):Option Bool:=
 if a0.1=a1.1 then some (decide (a1.2.1<=a0.2.1))else some false
theorem O7{c w:World}{H:PH}(hH:Le H (hp c)){O:List BV}{a0 a1:Alp}{va0_37 va0_38 va0_75:Value}{ba1:Nat}{va1_37 va1_38 va1_75:Value}(hL:Bk c (Ha [.box ba1 (AlH a1 va1_37 va1_38 va1_75) 71] O) w)(_ha0_37:AS AlG (gz H c w (Ha [.box ba1 (AlH a1 va1_37 va1_38 va1_75) 71] O)) va0_37 (a0.2.2.2.2.2.2.1))(_ha0_38:AS .st (gz H c w (Ha [.box ba1 (AlH a1 va1_37 va1_38 va1_75) 71] O)) va0_38 (a0.2.2.2.2.2.2.2.1))(_ha0_75:AS (.bs 32) (gz H c w (Ha [.box ba1 (AlH a1 va1_37 va1_38 va1_75) 71] O)) va0_75 (a0.2.2.2.2.2.2.2.2.2.2.2.2.2))(_ha1_37:AS AlG (gz H c w (Ha [.box ba1 (AlH a1 va1_37 va1_38 va1_75) 71] O)) va1_37 (a1.2.2.2.2.2.2.1))(_ha1_38:AS .st (gz H c w (Ha [.box ba1 (AlH a1 va1_37 va1_38 va1_75) 71] O)) va1_38 (a1.2.2.2.2.2.2.2.1))(_ha1_75:AS (.bs 32) (gz H c w (Ha [.box ba1 (AlH a1 va1_37 va1_38 va1_75) 71] O)) va1_75 (a1.2.2.2.2.2.2.2.2.2.2.2.2.2)){r:Bool}(h:HY a0 a1=some r):
  Ok prog 68 [.agg (AlH a0 va0_37 va0_38 va0_75).toArray,Abo ba1] w (fun v w'=>v=.bool r/\Bk c (Ha [.box ba1 (AlH a1 va1_37 va1_38 va1_75) 71] O) w'/\Le (fz w (Ha [.box ba1 (AlH a1 va1_37 va1_38 va1_75) 71] O)) (fz w' (Ha [.box ba1 (AlH a1 va1_37 va1_38 va1_75) 71] O))):=by
 refine Cj (n:=16) [(0,.agg (AlH a0 va0_37 va0_38 va0_75).toArray),(1,(Abo ba1))] func68 Z Z Z Z ?_;have hT:=Le.refl (fz w (Ha [.box ba1 (AlH a1 va1_37 va1_38 va1_75) 71] O));refine Ao<|BM (t:=71) Z Z hL fun g j b d _=>AA 1 Z<|Ao<|Ag (Ae Z Ahm Z Dl.e)<|Ag (Af 0 Z b Z)<|Ag (Ae Z Ahm Z Dl.e)<|Ag (Af 1 Z b Z)<|Ag (Kj Z Z)<|As 1 Z<|Bz 9 h ?_ ?_<;>intro a h
 ·refine Aa a<|Ag (Ae Z Ahm Z BB.e)<|Aa a<|Ag (Af 0 Z b Z)<|Aa a<|Ag (Ae Z Ahm Z BB.e)<|Aa a<|Ag (Af 1 Z b Z)<|Aa a<|Ag (Ai Z)<|Ag (AF a Z)<|AA 1 Z<|Aw ?_
  cases h
  refine Ah Z ?_;have e:=b.Bl (i:=0) Z;have hT:=hT.trans (d.trans (AB (i:=0) Z));exact⟨Z,e,hT⟩
 iterate 5 refine Ar a ?_
 refine Ag (AG a Z)<|AA 1 Z<|Aw ?_
 cases h
 refine Ah Z ?_;have f:=b.Bl (i:=0) Z;have hT:=hT.trans (d.trans (AB (i:=0) Z));exact⟨Z,f,hT⟩
def CU:Option Int:=
 some ((-1))
def BL(a0:List Alp)(a1_c0:Alp):Int->Option ((Int)⊕(Int)):=fun a=>
 if a<(a0.length:Int)then AU (0<=a/\a<(a0.length:Int)) (Qq9 (HY (a0.getD a.toNat Qq2) a1_c0) (fun b=>if b then Qzx Sum.inr (some a)else AU (Bq (a+1)) (some (Sum.inl (a+1)))))else Qzx Sum.inr CU
def EY(a0:List Alp)(a1_c0:Alp)(s:Int):Option Int:=Go.L.run (BL a0 a1_c0) s
def D2(a0:List Alp)(a1_c0:Alp):Option Int:=
 (EY a0 a1_c0) (0:Int)
theorem Jj{c w:World}{H:PH}(hH:Le H (hp c)){O:List BV}{a0:List Alp}{a1_c0:Alp}{va0:Value}{ba1_c0:Nat}{va1_c0_37 va1_c0_38 va1_c0_75:Value}(hL:Bk c (Ha [.box ba1_c0 (AlH a1_c0 va1_c0_37 va1_c0_38 va1_c0_75) 71] O) w)(q:AS AlE (gz H c w (Ha [.box ba1_c0 (AlH a1_c0 va1_c0_37 va1_c0_38 va1_c0_75) 71] O)) va0 a0)(ha1_c0_37:AS AlG (gz H c w (Ha [.box ba1_c0 (AlH a1_c0 va1_c0_37 va1_c0_38 va1_c0_75) 71] O)) va1_c0_37 (a1_c0.2.2.2.2.2.2.1))(ha1_c0_38:AS .st (gz H c w (Ha [.box ba1_c0 (AlH a1_c0 va1_c0_37 va1_c0_38 va1_c0_75) 71] O)) va1_c0_38 (a1_c0.2.2.2.2.2.2.2.1))(ha1_c0_75:AS (.bs 32) (gz H c w (Ha [.box ba1_c0 (AlH a1_c0 va1_c0_37 va1_c0_38 va1_c0_75) 71] O)) va1_c0_75 (a1_c0.2.2.2.2.2.2.2.2.2.2.2.2.2)){r:Int}(h:D2 a0 a1_c0=some r):
  Ok prog 115 [va0,.func (.func 68) #[] #[Abo ba1_c0]] w (fun v w'=>v=No r/\Bk c (Ha [.box ba1_c0 (AlH a1_c0 va1_c0_37 va1_c0_38 va1_c0_75) 71] O) w'/\Le (fz w (Ha [.box ba1_c0 (AlH a1_c0 va1_c0_37 va1_c0_38 va1_c0_75) 71] O)) (fz w' (Ha [.box ba1_c0 (AlH a1_c0 va1_c0_37 va1_c0_38 va1_c0_75) 71] O))):=by
 refine Cj (n:=19) [(0,va0),(1,.func (.func 68) #[] #[Abo ba1_c0])] func115 Z Z Z Z ?_;have hT:=Le.refl (fz w (Ha [.box ba1_c0 (AlH a1_c0 va1_c0_37 va1_c0_38 va1_c0_75) 71] O));have j:=hL.rG H;refine A7 1 Z ?_
 refine Bb Unit (fun(_:Unit)=>[]) (fun(_:Unit) wr=>C5 c (Ha [.box ba1_c0 (AlH a1_c0 va1_c0_37 va1_c0_38 va1_c0_75) 71] O) wr fun Oz=>AS AlG (gz H c wr Oz) va1_c0_37 (a1_c0.2.2.2.2.2.2.1)/\AS .st (gz H c wr Oz) va1_c0_38 (a1_c0.2.2.2.2.2.2.2.1)/\AS (.bs 32) (gz H c wr Oz) va1_c0_75 (a1_c0.2.2.2.2.2.2.2.2.2.2.2.2.2)/\Le (fz w (Ha [.box ba1_c0 (AlH a1_c0 va1_c0_37 va1_c0_38 va1_c0_75) 71] O)) (fz wr Oz)/\CU=some r) ?_ ?_
 ·refine Bo 1 Z<|Ag (AZ (q.mono j))<|AA 1 Z<|A2 ?_;obtain⟨m,h⟩:=AR h
  refine Bj (Int×Nat) (fun⟨b,n⟩=>[(0,va0),(1,.func (.func 68) #[] #[Abo ba1_c0]),(7,No (a0.length:Int)),(8,No b)]) (fun⟨b,n⟩ wr=>C5 c (Ha [.box ba1_c0 (AlH a1_c0 va1_c0_37 va1_c0_38 va1_c0_75) 71] O) wr fun Oz=>AS AlE (gz H c wr Oz) va0 a0/\AS AlG (gz H c wr Oz) va1_c0_37 (a1_c0.2.2.2.2.2.2.1)/\AS .st (gz H c wr Oz) va1_c0_38 (a1_c0.2.2.2.2.2.2.2.1)/\AS (.bs 32) (gz H c wr Oz) va1_c0_75 (a1_c0.2.2.2.2.2.2.2.2.2.2.2.2.2)/\Le (fz w (Ha [.box ba1_c0 (AlH a1_c0 va1_c0_37 va1_c0_38 va1_c0_75) 71] O)) (fz wr Oz)/\DR (BL a0 a1_c0) n b=some r) (fun⟨b,n⟩=>n) (0,m) Z ⟨hL,(q.mono j),(ha1_c0_37.mono j),(ha1_c0_38.mono j),(ha1_c0_75.mono j),hT,h⟩ ?_
  rintro⟨b,nn44⟩ ad ⟨g,k,d,e,f,hT,h⟩;obtain⟨m,af,rfl,h,l⟩:=AQ h;have a:=g.rG H;refine A7 1 Z<|A6<|AL h ?_ ?_<;>intro s h
  ·refine Au<|Aq<|A6<|A2<|A7 2 Z<|Bo 3 Z<|Ax h fun o h=>AW (k.mono a) b.toNat (Cx o) (AM o) ?_;rintro ag _ ⟨_,_,rfl,rfl,⟨_,_,rfl,rfl,⟨_,_,rfl,rfl,⟨_,_,rfl,rfl,⟨_,_,rfl,rfl,⟨_,_,rfl,rfl,⟨_,_,rfl,⟨e49v37,rfl,e49h37⟩,⟨_,_,rfl,⟨e49v38,rfl,e49h38⟩,⟨_,_,rfl,rfl,⟨_,_,rfl,rfl,⟨_,_,rfl,rfl,⟨_,_,rfl,rfl,⟨_,_,rfl,rfl,⟨e49v75,rfl,e49h75⟩⟩⟩⟩⟩⟩⟩⟩⟩⟩⟩⟩⟩⟩ t;refine Ag (BI t (Av g))<|A1 h fun ah u h=>D6 Z Z (O7 (a0:=(a0.getD b.toNat Qq2)) (a1:=a1_c0) (O:=(Ha [] O)) hH g e49h37 e49h38 e49h75 (d.mono a) (e.mono a) (f.mono a) u) ?_;rintro _ ai ⟨rfl,p,i⟩;refine Ad<|Bi h ?_ ?_<;>intro x h
   ·refine A7 2 Z<|Aw<|Al<|Am<|Bc ?_;have h:=Bw.out h l;refine Al<|AN ?_
    cases h
    refine Ah Z ?_;have hT:=hT.trans i;exact⟨Z,p,hT⟩
   refine Au<|Az<|Aq<|An<|Ax h fun y h=>Ag (Ay y)<|As 1 Z<|AE ?_;have h:=Bw.again h l;have a:=a.trans (Ab i);have hT:=hT.trans i;refine AD (_,_) Z ⟨p,(k.mono a),(d.mono a),(e.mono a),(f.mono a),hT,h⟩
  refine Bf<|A5<|A3 ?_;have h:=Bw.out h l;refine AY<|A8 () ⟨g,(d.mono a),(e.mono a),(f.mono a),hT,h⟩
 rintro _ ae ⟨z,aa,ab,ac,hT,h⟩;refine A7 1 Z<|Aw ?_
 cases h
 refine Ah Z ⟨Z,z,hT⟩
def BP(a0:List Alp)(a1_c0:Alp):Option Bool:=
 Qq9 (D2 a0 a1_c0) (fun a=>some (decide (0<=a)))
theorem Ey{a w:World}{H:PH}(hH:Le H (hp a)){O:List BV}{a0:List Alp}{a1_c0:Alp}{va0:Value}{ba1_c0:Nat}{va1_c0_37 va1_c0_38 va1_c0_75:Value}(hL:Bk a (Ha [.box ba1_c0 (AlH a1_c0 va1_c0_37 va1_c0_38 va1_c0_75) 71] O) w)(d:AS AlE (gz H a w (Ha [.box ba1_c0 (AlH a1_c0 va1_c0_37 va1_c0_38 va1_c0_75) 71] O)) va0 a0)(ha1_c0_37:AS AlG (gz H a w (Ha [.box ba1_c0 (AlH a1_c0 va1_c0_37 va1_c0_38 va1_c0_75) 71] O)) va1_c0_37 (a1_c0.2.2.2.2.2.2.1))(ha1_c0_38:AS .st (gz H a w (Ha [.box ba1_c0 (AlH a1_c0 va1_c0_37 va1_c0_38 va1_c0_75) 71] O)) va1_c0_38 (a1_c0.2.2.2.2.2.2.2.1))(ha1_c0_75:AS (.bs 32) (gz H a w (Ha [.box ba1_c0 (AlH a1_c0 va1_c0_37 va1_c0_38 va1_c0_75) 71] O)) va1_c0_75 (a1_c0.2.2.2.2.2.2.2.2.2.2.2.2.2)){r:Bool}(h:BP a0 a1_c0=some r):
  Ok prog 67 [va0,.func (.func 68) #[] #[Abo ba1_c0]] w (fun v w'=>v=.bool r/\Bk a (Ha [.box ba1_c0 (AlH a1_c0 va1_c0_37 va1_c0_38 va1_c0_75) 71] O) w'/\Le (fz w (Ha [.box ba1_c0 (AlH a1_c0 va1_c0_37 va1_c0_38 va1_c0_75) 71] O)) (fz w' (Ha [.box ba1_c0 (AlH a1_c0 va1_c0_37 va1_c0_38 va1_c0_75) 71] O))):=by
 refine Cj (n:=9) [(0,va0),(1,.func (.func 68) #[] #[Abo ba1_c0])] func67 Z Z Z Z ?_;have hT:=Le.refl (fz w (Ha [.box ba1_c0 (AlH a1_c0 va1_c0_37 va1_c0_38 va1_c0_75) 71] O));have b:=hL.rG H;refine A7 1 Z<|Bo 2 Z<|A1 h fun g e h=>Fh (Jj (a0:=a0) (a1_c0:=a1_c0) (O:=(Ha [] O)) hH hL (d.mono b) (ha1_c0_37.mono b) (ha1_c0_38.mono b) (ha1_c0_75.mono b) e) ?_;rintro _ i ⟨rfl,f,c⟩;refine AA 2 Z<|Aw ?_
 cases h
 refine Ah Z ?_;have hT:=hT.trans c;exact⟨Z,f,hT⟩
def CX(a0:Alp)(a1:List Alp)(c:Bool):Option Int:=
 if c then some (6)else(if a0.2.2.1=7 then Qq9 (Dp a0.2.2.2.2.2.2.2.2.2.1 (1:Int) a0.2.2.2.2.2.2.2.2.2.2.1) (fun d=>if !d then some (4)else if 10<a0.2.2.2.2.2.2.2.2.2.2.1 then some (4)else Qq9 (MI a0.2.2.2.2.2.2.2.2.2.2.2) (fun a=>if a.1=0/\a.2=0 then Qq9 (BP a1 a0) (fun e=>if e then some (11)else some (0))else some (a.1)))else Qq9 (MI a0.2.2.2.2.2.2.2.2.2.2.2) (fun b=>if b.1=0/\b.2=0 then Qq9 (BP a1 a0) (fun f=>if f then some (11)else some (0))else some (b.1)))
def F5(a0:Alp)(a1:List Alp):Option Int:=
 Qq9 (FZ a0.2.2.2.2.2.2.1) (fun a=>if a=0 then Qq9 (EF a0.2.2.2.2.2.2.2.1) (fun b=>if b=0 then(if a0.2.2.1=7 then(CX a0 a1) false else if a0.2.2.2.2.2.2.2.2.2.1=0 then(CX a0 a1) (!decide (a0.2.2.2.2.2.2.2.2.2.2.1=0))else(CX a0 a1) true)else some b)else some a)
def GV(a0:Alp)(a1:List Alp):Option Int:=
 Qq9 (Jq a0.1) (fun a=>if !a then some (7)else Qq9 (Dp a0.2.1 (1:Int) (9999:Int)) (fun b=>if !b then some (4)else Qq9 (Dp a0.2.2.1 (0:Int) (7:Int)) (fun c=>if !c then some (5)else Qq9 (Dp a0.2.2.2.1 (1:Int) (3652059:Int)) (fun d=>if !d then some (4)else Qq9 (Dp a0.2.2.2.2.1 (0:Int) (1000:Int)) (fun e=>if !e then some (4)else Qq9 (Dp a0.2.2.2.2.2.2.2.2.1 (0:Int) (3652059:Int)) (fun f=>if !f then some (4)else(if 4<(a0.2.2.2.2.2.2.1.length:Int)then some (2)else if 4<(a0.2.2.2.2.2.2.2.1.length:Int)then some (2)else(F5 a0 a1))))))))
section
variable(w:World)(H:PH)(hH:Le H (hp w)) include hH
theorem P8{a0:Alp}{a1:List Alp}{k l m x:Value}(y:AS AlG H k (a0.2.2.2.2.2.2.1))(z:AS .st H l (a0.2.2.2.2.2.2.2.1))(aa:AS (.bs 32) H m (a0.2.2.2.2.2.2.2.2.2.2.2.2.2))(an:AS AlE H x a1){r:Int}(h:GV a0 a1=some r):
  Qqv 34 [.agg (AlH a0 k l m).toArray,x] w (fun v w'=>v=No r):=by
 refine A4 106 [(0,.agg (AlH a0 k l m).toArray),(1,x)] func34 Z fun hL=>Ao<|BM (t:=71) Z Z hL fun w1 b1 ao cg _=>AA 1 Z<|Bb Unit (fun(_:Unit)=>[(1,x),(2,(Abo b1))]) (fun(_:Unit) wr=>Bk w [.box b1 (AlH a0 k l m) 71] wr/\(F5 a0 a1)=some r) ?_ ?_
 ·refine A2<|Ao<|Ag (Ae Z Ahm Z Dl.e)<|Ag (Af 0 Z ao Z)<|A1 h fun c1 bc h=>A9 ao (Ko _ _ (Av ao) bc) fun c2 ch ab b5=>AA 2 Z<|Bi h ?_ ?_<;>intro bd h
  ·refine A7 1 Z<|Aw<|Al<|AN ?_
   cases h
   refine Ah Z ⟨ab.ext,Z⟩
  refine Ao<|Ag (Ae Z Ahm Z BB.e)<|Ag (Af 0 Z ab Z)<|A1 h fun c3 be h=>A9 ab (E9 _ _ (Av ab) be) fun c4 ci ac b6=>AA 2 Z<|Bi h ?_ ?_<;>intro bf h
  ·refine A7 1 Z<|Aw<|Al<|AN ?_
   cases h
   refine Ah Z ⟨ac.ext,Z⟩
  refine Ao<|Ag (Ae Z Ahm Z BB.e)<|Ag (Af 0 Z ac Z)<|A1 h fun c5 bg h=>A9 ac (E9 _ _ (Av ac) bg) fun c6 cj ad b7=>AA 2 Z<|Bi h ?_ ?_<;>intro bh h
  ·refine A7 1 Z<|Aw<|Al<|AN ?_
   cases h
   refine Ah Z ⟨ad.ext,Z⟩
  refine Ao<|Ag (Ae Z Ahm Z BB.e)<|Ag (Af 0 Z ad Z)<|A1 h fun c7 bi h=>A9 ad (E9 _ _ (Av ad) bi) fun c8 ck ae b8=>As 2 Z<|Cv 29 h ?_ ?_<;>intro e h
  ·iterate 4 refine Ar e ?_
   refine Ag (AF e Z)<|As 1 Z ?_
   iterate 4 refine Ar Z ?_
   refine Ag (AF Z Z)<|AA 1 Z<|DS<|A7 1 Z<|Aw<|Al<|AN ?_
   cases h
   refine Ah Z ⟨ae.ext,Z⟩
  refine Aa e<|Ag (Ae Z Ahm Z BB.e)<|Aa e<|Ag (Af 0 Z ae Z)<|Aa e<|A1 h fun c9 bj h=>A9 ae (E9 _ _ (Av ae) bj) fun da cl af b9=>Aa e<|Ag (Ai Z)<|Ag (AG e Z)<|As 1 Z<|Cv 35 h ?_ ?_<;>intro f h
  ·iterate 4 refine Ar f ?_
   refine Ag (AF f Z)<|AA 1 Z<|DS<|A7 1 Z<|Aw<|Al<|AN ?_
   cases h
   refine Ah Z ⟨af.ext,Z⟩
  refine Aa f<|Ag (Ae Z Ahm Z BB.e)<|Aa f<|Ag (Af 0 Z af Z)<|Aa f<|A1 h fun db bk h=>A9 af (E9 _ _ (Av af) bk) fun dc cm q ca=>Aa f<|Ag (Ai Z)<|Ag (AG f Z)<|AA 1 Z<|Bi h ?_ ?_<;>intro bl h
  ·refine A7 1 Z<|Aw<|Al<|AN ?_
   cases h
   refine Ah Z ⟨q.ext,Z⟩
  refine Ao<|Ag (Ae Z Ahm Z AjF.e)<|Ag (Af 0 Z q Z)<|Ag (AZ y)<|As 2 Z<|Bz 46 h ?_ ?_<;>intro g h
  ·iterate 4 refine Ar g ?_
   refine Ag (AF g Z)<|AA 1 Z<|DS<|A7 1 Z<|Aw<|Al<|AN ?_
   cases h
   refine Ah Z ⟨q.ext,Z⟩
  refine Aa g<|Ag (Ae Z Ahm Z H3.e)<|Aa g<|Ag (Af 0 Z q Z)<|Aa g<|Ag (AZ z)<|Aa g<|Ag (Ai Z)<|Ag (AG g Z)<|AA 1 Z<|AL h ?_ ?_<;>intro bm h
  ·refine A7 1 Z<|Aw<|Al<|AN ?_
   cases h
   refine Ah Z ⟨q.ext,Z⟩
  refine Au<|Az<|A8 () ⟨q,h⟩
 rintro _ cn ⟨aj,h⟩;refine A6<|Ao<|Ag (Ae Z Ahm Z AjF.e)<|Ag (Af 0 Z aj Z)<|A1 h fun dd bn h=>A9 aj (O6 _ _ (Av aj) (y.mono  Aj) bn) fun de co ag cb=>AA 1 Z<|A7 2 Z<|BG h ?_ ?_<;>intro bo h
 ·refine A7 2 Z<|Aw<|Am ?_
  cases h
  refine Ah Z ⟨ag.ext,Z⟩
 refine Au<|Aq<|A6<|Ao<|Ag (Ae Z Ahm Z H3.e)<|Ag (Af 0 Z ag Z)<|A1 h fun df bp h=>A9 ag (Kt _ _ (Av ag) (z.mono  Aj) bp) fun dg cp o cc=>AA 1 Z<|A7 2 Z<|BG h ?_ ?_<;>intro bq h
 ·refine A7 2 Z<|Aw<|Am ?_
  cases h
  refine Ah Z ⟨o.ext,Z⟩
 refine Au<|Aq<|Ao<|Ag (Ae Z Ahm Z BB.e)<|Ag (Af 0 Z o Z)<|AA 2 Z<|A6<|A2<|Bb Bool (fun p=>[(1,x),(2,(Abo b1)),(7,.bool (decide (a0.2.2.1=7))),(67,.bool p)]) (fun p wr=>Bk w [.box b1 (AlH a0 k l m) 71] wr/\(CX a0 a1) p=some r) ?_ ?_
 ·refine An<|As 3 Z<|Et 70 h ?_ ?_<;>intro b h
  ·refine Aa b<|Ag (Ae Z Ahm Z BB.e)<|Aa b<|Ag (Af 0 Z o Z)<|Aa b<|Ag (Ai Z)<|Aa b<|Ag (Ai Z)<|Et 74 h ?_ ?_<;>intro c h
   ·iterate 3 refine Ar c ?_
    refine Aa b<|Ag (AF c Z)<|Ag (AF b Z)<|As 1 Z<|AE<|A8 _ ⟨o,h⟩
   refine Aa c<|Ag (Ae Z Ahm Z BB.e)<|Aa c<|Ag (Af 0 Z o Z)<|Aa c<|Ag (Ai Z)<|Aa b<|Ag (AG c Z)<|Ag (AF b Z)<|As 1 Z<|AE<|A8 _ ⟨o,h⟩
  iterate 4 refine Ar b ?_
  iterate 3 refine BS ?_
  refine Ar b<|Ag (AG b Z)<|As 1 Z<|AE<|A8 _ ⟨o,h⟩
 rintro p cq ⟨i,h⟩;refine Bi h ?_ ?_<;>intro ar h
 ·refine A7 1 Z<|Aw<|Al<|Am ?_
  cases h
  refine Ah Z ⟨i.ext,Z⟩
 refine Bo 2 Z<|Bz 82 h ?_ ?_<;>intro a h
 ·refine Aa a<|Ag (Ae Z Ahm Z BB.e)<|Aa a<|Ag (Af 0 Z i Z)<|Aa a<|Ag (Ae Z Ahm Z BB.e)<|Aa a<|Ag (Af 0 Z i Z)<|Aa a<|A1 h fun cr au h=>A9 i (E9 _ _ (Av i) au) fun cs cd j bu=>Aa a<|Ag (Ai Z)<|Aa a<|Ag (Ai Z)<|Cv 89 h ?_ ?_<;>intro d h
  ·iterate 3 refine Ar d ?_
   refine Aa a<|Ag (AF d Z)<|Ag (AF a Z)<|AA 1 Z<|DS<|A7 1 Z<|Aw<|Al<|Am ?_
   cases h
   refine Ah Z ⟨j.ext,Z⟩
  refine Aa d<|Ag (Ae Z Ahm Z BB.e)<|Aa d<|Ag (Af 0 Z j Z)<|Aa d<|Ag (Ai Z)<|Aa a<|Ag (AG d Z)<|Ag (AF a Z)<|AA 1 Z<|AL h ?_ ?_<;>intro av h
  ·refine A7 1 Z<|Aw<|Al<|Am ?_
   cases h
   refine Ah Z ⟨j.ext,Z⟩
  refine Au<|Az<|Aq<|A6<|Ao<|Ag (Ae Z Ahm Z Ah9.e)<|Ag (GS 0 34 Z Ah9.e j Z Z)<|A1 h fun ah aw h=>A9 j (R6 (a0:=a0.2.2.2.2.2.2.2.2.2.2.2) _ _ (Av j) (aa.mono  Aj) aw) fun ct ce ax bv=>AO AI.e Z ax fun cu ap ay bw _=>Ak 0 Z ay Z fun br s bx=>Ad<|Ao<|Ag (AJ 0 Z AI.e s Z)<|Ag (Ba (fun _=>B8 _))<|Ag (IX I4 (Nc _ _ _ _))<|Ad<|BG h ?_ ?_<;>intro az h
  ·refine Ao<|Ag (Ae Z Ae3 Z BB.e)<|Ag (Af 0 Z s Z)<|AA 1 Z<|Aw<|Am ?_
   cases h
   refine Ah Z ⟨s.ext,Z⟩
  refine Au<|Aq<|A6<|Bo 2 Z ?_;have a2:Bk w [.box b1 (AlH a0 k l m) 71,.box ap [No ah.1,No ah.2] 35] br:=s.DC [1] Z;refine A1 h fun cv a3 h=>Fh (Ey (a0:=a1) (a1_c0:=a0) (O:=[.box ap [No ah.1,No ah.2] 35]) hH a2 (an.mono  Aj) (y.mono  Aj) (z.mono  Aj) (aa.mono  Aj) a3) ?_;rintro _ cw ⟨rfl,ak,bz⟩;refine Ad<|Bi h ?_ ?_<;>intro a4 h
  ·refine A7 1 Z<|Aw<|Am ?_
   cases h
   refine Ah Z ⟨ak.ext,Z⟩
  refine Au<|Aq<|A7 1 Z<|Aw ?_
  cases h
  refine Ah Z ⟨ak.ext,Z⟩
 iterate 7 refine Ar a ?_
 iterate 3 refine BS ?_
 refine Ar a<|Ag (AG a Z)<|AA 1 Z<|Co<|Au<|Az<|Aq<|A6<|Ao<|Ag (Ae Z Ahm Z Ah9.e)<|Ag (GS 0 34 Z Ah9.e i Z Z)<|A1 h fun ai a5 h=>A9 i (R6 (a0:=a0.2.2.2.2.2.2.2.2.2.2.2) _ _ (Av i) (aa.mono  Aj) a5) fun cx cf a6 b0=>AO AI.e Z a6 fun cy aq a7 b2 _=>Ak 0 Z a7 Z fun bt u b3=>Ad<|Ao<|Ag (AJ 0 Z AI.e u Z)<|Ag (Ba (fun _=>B8 _))<|Ag (IX I4 (Nc _ _ _ _))<|Ad<|BG h ?_ ?_<;>intro a8 h
 ·refine Ao<|Ag (Ae Z Ae3 Z BB.e)<|Ag (Af 0 Z u Z)<|AA 1 Z<|Aw<|Am ?_
  cases h
  refine Ah Z ⟨u.ext,Z⟩
 refine Au<|Aq<|A6<|Bo 2 Z ?_;have a9:Bk w [.box b1 (AlH a0 k l m) 71,.box aq [No ai.1,No ai.2] 35] bt:=u.DC [1] Z;refine A1 h fun cz ba h=>Fh (Ey (a0:=a1) (a1_c0:=a0) (O:=[.box aq [No ai.1,No ai.2] 35]) hH a9 (an.mono  Aj) (y.mono  Aj) (z.mono  Aj) (aa.mono  Aj) ba) ?_;rintro _ c0 ⟨rfl,al,b4⟩;refine Ad<|Bi h ?_ ?_<;>intro bb h
 ·refine A7 1 Z<|Aw<|Am ?_
  cases h
  refine Ah Z ⟨al.ext,Z⟩
 refine Au<|Aq<|A7 1 Z<|Aw ?_
 cases h
 refine Ah Z ⟨al.ext,Z⟩
def IJ:Option Al5:=
 some ((0,0))
def IK(a:Int):Option ((Int)⊕Al5):=
 AU (Bq (a+1)) (some (Sum.inl (a+1)))
def Ez(a0:(List Alp))(a:Int)(c:Al4):Int->Option ((Int)⊕((Int)⊕Al5)):=fun b=>
 if b<(((a0.getD a.toNat Qq2).2.2.2.2.2.2.1).length:Int)then AU (0<=b/\b<(((a0.getD a.toNat Qq2).2.2.2.2.2.2.1).length:Int)) (if(bif (AdK (((a0.getD a.toNat Qq2).2.2.2.2.2.2.1).getD b.toNat Qq2) c)then decide (a<=(BF (0:Int) (((a0.getD a.toNat Qq2).2.2.2.2.2.2.1).getD b.toNat Qq2) c))else false)then Qq9 (CH (22:Int) a) (fun d=>Qzx Sum.inr (Qzx Sum.inr (some d)))else AU (Bq (b+1)) (some (Sum.inl (b+1))))else Qzx Sum.inr ((IK a))
def LP(a0:(List Alp))(a:Int)(b:Al4)(s:Int):Option ((Int)⊕Al5):=Go.L.run (Ez a0 a b) s
def Ga(a0:(List Alp))(b:Al4):Int->Option ((Int)⊕Al5):=fun a=>
 if a<(a0.length:Int)then AU (0<=a/\a<(a0.length:Int)) ((LP a0 a b) (0:Int))else Qzx Sum.inr IJ
def IL(a0:(List Alp))(a:Al4)(s:Int):Option Al5:=Go.L.run (Ga a0 a) s
def IM(a0:(List Alp)):Option Al5:=
 Qq9 (Hr a0) (fun a=>(IL a0 a) (0:Int))
def Gb(a0:(List Alp)):Int->Option ((Int)⊕Al5):=fun a=>
 if a<(a0.length:Int)then AU (0<=a/\a<(a0.length:Int)) (AU (0<=a/\a<=(a0.length:Int)) (Qq9 (GV (a0.getD a.toNat Qq2) (a0.take a.toNat)) (fun b=>if b=0 then AU (Bq (a+1)) (some (Sum.inl (a+1)))else Qq9 (CH b a) (fun c=>Qzx Sum.inr (some c)))))else Qzx Sum.inr ((IM a0))
def LQ(a0:(List Alp))(s:Int):Option Al5:=Go.L.run (Gb a0) s
def HZ(a0:(List Alp)):Option Al5:=
 if 60<(a0.length:Int)then Qq9 (CH (2:Int) (-1:Int)) (fun a=>some a)else(LQ a0) (0:Int)
theorem QQ{a0:(List Alp)}{d:Value}(g:AS AlE H d a0){r:Al5}(h:HZ a0=some r):
  Qqv 14 [.agg #[d]] w (fun v w'=>v=.agg #[No r.1,No r.2]):=by
 refine A4 73 [(0,.agg #[d])] func14 Z fun hL=>Ao<|BM (t:=24) Z Z hL fun w1 b1 b5 co _=>AO AI.e Z b5 fun w2 o ac cp _=>Ad<|A6<|Ao<|Ag (Ae Z Ahv Z AbE.e)<|Ag (Af 1 Z ac Z)<|Ag (AZ g)<|AA 1 Z<|AL h ?_ ?_<;>intro b6 h
 ·refine Ao<|A1 h fun x5 b7 h=>A9 ac (EO _ _ (Av ac) b7) fun w6 da b8 cq=>Ak 0 Z b8 Z fun w7 bo cr=>Ad<|Aw<|Am ?_
  cases h
  refine BX (.cell Z Ae3 Z AI.e (AP (i:=0) bo Z)) ⟨bo.ext,Z⟩
 refine Au<|Aq<|Bb Unit (fun(_:Unit)=>[(1,(Abo b1)),(2,(Abo o))]) (fun(_:Unit) wr=>Bk w [.box o [No 0,No 0] 35,.box b1 [d] 24] wr/\(IM a0)=some r) ?_ ?_
 ·refine Ao<|Ag (Ae Z Ahv Z AbE.e)<|Ag (Af 1 Z ac Z)<|Ag (AZ g)<|AA 1 Z<|A2 ?_;obtain⟨au,h⟩:=AR h;refine Bj (Int×Nat) (fun⟨e,n⟩=>[(1,(Abo b1)),(2,(Abo o)),(19,d),(20,No (a0.length:Int)),(21,No e)]) (fun⟨e,n⟩ wr=>Bk w [.box o [No 0,No 0] 35,.box b1 [d] 24] wr/\DR (Gb a0) n e=some r) (fun⟨e,n⟩=>n) (0,au) Z ⟨ac,h⟩ ?_;rintro⟨e,nn83⟩ cs ⟨ad,h⟩;obtain⟨au,db,rfl,h,ae⟩:=AQ h;refine A7 1 Z<|A6<|AL h ?_ ?_<;>intro bq h
  ·refine Au<|Aq<|A6<|A2<|Bo 1 Z<|Ax h fun av h=>AW g e.toNat (Cx av) (AM av) ?_;rintro dc _ ⟨_,_,rfl,rfl,⟨_,_,rfl,rfl,⟨_,_,rfl,rfl,⟨_,_,rfl,rfl,⟨_,_,rfl,rfl,⟨_,_,rfl,rfl,⟨_,_,rfl,⟨e87v37,rfl,e87h37⟩,⟨_,_,rfl,⟨e87v38,rfl,e87h38⟩,⟨_,_,rfl,rfl,⟨_,_,rfl,rfl,⟨_,_,rfl,rfl,⟨_,_,rfl,rfl,⟨_,_,rfl,rfl,⟨e87v75,rfl,e87h75⟩⟩⟩⟩⟩⟩⟩⟩⟩⟩⟩⟩⟩⟩ br;refine Ag (BI br (hH.trans ad.arg))<|AO O4.e Z ad fun dd de bt cg _=>As 1 Z<|Ak 0 Z bt Z (a:=(onp 37 Z (CB e87h37.one (CB e87h38.one (onp 36 Z (CB e87h75.one Ps)))))) fun df bu ch=>Ad<|BZ (Qqz 0 7 (.tail 7)) mixed Qqb (fun b9 bv=>?_);have j:=bu.call bv;refine B2 Z (AJ 0 Z O4.e j Z) Z<|B2 Z (Ae Z Ahv Z AbE.e) Z<|B2 Z (Af 2 Z j Z) Z<|B9 1 Z<|Ax h fun bw h=>Aah Z Z Ahp g bw Z fun dg bx=>A1 h fun dh bz h=>?_
   have a2:=(fun(bp:World) (s:Ext b9 bp)=>P8 bp _ (Le.refl _) ((e87h37.mono (hH.trans j.arg)).mono s.le) ((e87h38.mono (hH.trans j.arg)).mono s.le) ((e87h75.mono (hH.trans j.arg)).mono s.le) ((bx.mono (hH.trans j.arg)).mono s.le) bz);refine Er Z Z Z a2<|B9 1 Z<|Bt (fun di b0=>?_);have af:=j.call b0;refine Ad<|A7 2 Z<|BG h ?_ ?_<;>intro b3 h
   ·refine Bo 2 Z<|A1 h fun ct a3 h=>A9 af (EO _ _ (Av af) a3) fun cu ci a4 ca=>Ak 1 Z a4 Z fun cv ai cb=>Ad<|Aw<|Al<|Am<|Bc ?_;have h:=Bw.out h ae;refine Al<|AN ?_
    cases h
    refine BX (.cell Z Ae3 Z AI.e (AP (i:=1) ai Z)) ⟨ai.ext,Z⟩
   refine Au<|Az<|Aq<|An<|Ax h fun a5 h=>Ag (Ay a5)<|As 1 Z<|AE ?_;have a6:=af.Bl (i:=0) Z;have h:=Bw.again h ae;refine AD (_,_) Z ⟨a6,h⟩
  refine Bf<|A5<|A3 ?_;have h:=Bw.out h ae;refine AY<|A8 () ⟨ad,h⟩
 rintro _ cw ⟨u,h⟩;refine Ao<|Ag (Ae Z Ahv Z AbE.e)<|Ag (Af 1 Z u Z)<|A1 h fun p a7 h=>Br u (Qk _ _ (Av u) (g.mono  Aj) a7) ?_;rintro f cx ⟨_,rfl,ap⟩ a8 aj cc;have aq:=ap.mono (Kk hH u a8);refine AA 1 Z<|Bb Unit (fun(_:Unit)=>[(2,(Abo o))]) (fun(_:Unit) wr=>Bk w [.box o [No 0,No 0] 35,.box b1 [d] 24] wr/\IJ=some r) ?_ ?_
 ·refine Ao<|Ag (Ae Z Ahv Z AbE.e)<|Ag (Af 1 Z aj Z)<|Ag (AZ g)<|AA 1 Z<|A2 ?_;obtain⟨ag,h⟩:=AR h;refine Bj (Int×Nat) (fun⟨a,n⟩=>[(2,(Abo o)),(6,f),(42,d),(43,No (a0.length:Int)),(44,No a)]) (fun⟨a,n⟩ wr=>C5 w [.box o [No 0,No 0] 35,.box b1 [d] 24] wr fun Oz=>T9 P2 (Value.int .i64) (gz H w wr Oz) f p/\DR (Ga a0 p) n a=some r) (fun⟨a,n⟩=>n) (0,ag) Z ⟨aj,aq,h⟩ ?_;rintro⟨a,nn239⟩ cj ⟨x,m,h⟩;obtain⟨ag,aw,rfl,h,y⟩:=AQ h;refine A7 1 Z<|A6<|AL h ?_ ?_<;>intro a9 h
  ·refine Au<|Aq<|Bb Unit (fun(_:Unit)=>[(2,(Abo o)),(6,f),(42,d),(43,No (a0.length:Int)),(44,No a)]) (fun(_:Unit) wr=>C5 w [.box o [No 0,No 0] 35,.box b1 [d] 24] wr fun Oz=>T9 P2 (Value.int .i64) (gz H w wr Oz) f p/\(IK a)=some aw) ?_ ?_
   ·refine A2<|Bo 1 Z<|Ax h fun ak h=>AW g a.toNat (Cx ak) (AM ak) ?_;rintro cy _ ⟨_,_,rfl,rfl,⟨_,_,rfl,rfl,⟨_,_,rfl,rfl,⟨_,_,rfl,rfl,⟨_,_,rfl,rfl,⟨_,_,rfl,rfl,⟨_,_,rfl,⟨e281v37,rfl,e281h37⟩,⟨_,_,rfl,⟨e281v38,rfl,e281h38⟩,⟨_,_,rfl,rfl,⟨_,_,rfl,rfl,⟨_,_,rfl,rfl,⟨_,_,rfl,rfl,⟨_,_,rfl,rfl,⟨e281v75,rfl,e281h75⟩⟩⟩⟩⟩⟩⟩⟩⟩⟩⟩⟩⟩⟩ ba;refine Ag (BI ba (hH.trans x.arg))<|AO O4.e Z x fun cz b4 bb ax _=>As 1 Z<|Ak 0 Z bb Z (a:=(onp 37 Z (CB e281h37.one (CB e281h38.one (onp 36 Z (CB e281h75.one Ps)))))) fun c0 al ay=>Ad<|Ao<|Ag (Ae Z Ahm Z AjF.e)<|Ag (Af 0 Z al Z)<|Ag (AZ e281h37)<|AA 1 Z<|A2 ?_;obtain⟨ah,h⟩:=AR h;have m:=m.mono (Ab (ax.trans ay))
    refine Bj (Int×Nat) (fun⟨c,n⟩=>[(2,(Abo o)),(6,f),(7,No a),(42,d),(43,No (a0.length:Int)),(44,No a),(50,e281v37),(51,No (((a0.getD a.toNat Qq2).2.2.2.2.2.2.1).length:Int)),(52,No c)]) (fun⟨c,n⟩ wr=>C5 w [.box b4 (Qkz [.string ⟨((a0.getD a.toNat Qq2).1).toArray⟩,No ((a0.getD a.toNat Qq2).2.1),No ((a0.getD a.toNat Qq2).2.2.1),No ((a0.getD a.toNat Qq2).2.2.2.1),No ((a0.getD a.toNat Qq2).2.2.2.2.1)] (Qkz (FU 32 ((a0.getD a.toNat Qq2).2.2.2.2.2.1)) (Qkz [e281v37,e281v38,No ((a0.getD a.toNat Qq2).2.2.2.2.2.2.2.2.1),No ((a0.getD a.toNat Qq2).2.2.2.2.2.2.2.2.2.1),No ((a0.getD a.toNat Qq2).2.2.2.2.2.2.2.2.2.2.1),No (((a0.getD a.toNat Qq2).2.2.2.2.2.2.2.2.2.2.2).1)] (Qkz (FU 32 (((a0.getD a.toNat Qq2).2.2.2.2.2.2.2.2.2.2.2).2.1)) [e281v75])))) 71,.box o [No 0,No 0] 35,.box b1 [d] 24] wr fun Oz=>T9 P2 (Value.int .i64) (gz H w wr Oz) f p/\DR (Ez a0 a p) n c=some aw) (fun⟨c,n⟩=>n) (0,ah) Z ⟨al,m,h⟩ ?_;rintro⟨c,nn301⟩ ck ⟨z,b,h⟩
    obtain⟨ah,c1,rfl,h,aa⟩:=AQ h;refine A7 1 Z<|A6<|AL h ?_ ?_<;>intro bc h
    ·refine Au<|Aq<|A6<|A2<|Ao<|Ax h fun am h=>AW e281h37 c.toNat (Cx am) (AM am) ?_;rintro c2 _ ⟨_,_,rfl,rfl,rfl⟩ bd;refine Ag (BI bd (hH.trans z.arg))<|AO LL.e Z z fun c3 c4 be az _=>Ak 0 Z be Z fun c5 l a1=>Ad<|Bo 1 Z<|Ag (AJ 0 Z LL.e l Z) ?_;have b:=b.mono (Ab (az.trans a1));refine Ag (Afu (k:=(((a0.getD a.toNat Qq2).2.2.2.2.2.2.1).getD c.toNat Qq2)) (0:Int) Af1 zeroValue3 b (Av l))<|AA 5 Z<|Bo 2 Z<|VP 3 1 Z Z Z Z Z Z Z<|Ad<|Bi h ?_ ?_<;>intro bf h
     ·refine Bo 1 Z<|A1 h fun c6 bg h=>A9 l (EO _ _ (Av l) bg) fun c7 cl bh cd=>Ak 2 Z bh Z fun c8 an ce=>Ad<|Aw<|Al<|Am<|Bc ?_;have h:=Bw.out h aa
      iterate 2 refine Al ?_
      refine AN<|Bc ?_;have h:=Bw.out h y;refine Al<|AN ?_
      cases h
      refine BX (.cell Z Ae3 Z AI.e (AP (i:=2) an Z)) ⟨an.ext,Z⟩
     refine Au<|Az<|Aq<|An<|Ax h fun bi h=>Ag (Ay bi)<|As 1 Z<|AE ?_;have bj:=l.Bl (i:=0) Z;have h:=Bw.again h aa;have b:=b.mono (Ab (AB (i:=0) Z));refine AD (_,_) Z ⟨bj,b,h⟩
    refine Bf<|A5<|A3 ?_;have h:=Bw.out h aa;refine AY<|Az ?_;have bk:=z.Bl (i:=0) Z;have b:=b.mono (Ab (AB (i:=0) Z));refine A8 () ⟨bk,b,h⟩
   rintro _ cm ⟨bl,ar,h⟩;refine An<|Ax h fun bm h=>Ag (Ay bm)<|As 1 Z<|AE ?_;have h:=Bw.again h y;refine AD (_,_) Z ⟨bl,ar,h⟩
  refine Bf<|A5<|A3 ?_;have h:=Bw.out h y;refine AY<|A8 () ⟨x,h⟩
 rintro _ cn ⟨bn,h⟩;refine Ao<|Ag (Ba (fun _=>B8 _))<|Ak 0 Z bn Z fun c9 ao cf=>Ad<|Aw ?_
 cases h
 refine BX (.cell Z Ae3 Z AI.e (AP (i:=0) ao Z)) ⟨ao.ext,Z⟩
def EG(a0:(List Abv)×Int):Option Al5:=
 if 4<(a0.1.length:Int)then Qq9 (CH (2:Int) (-2:Int)) (fun e=>some e)else Qq9 (EF a0.1) (fun a=>if a=0 then Qq9 (Dp a0.2 (1:Int) (3652059:Int)) (fun b=>if !b then Qq9 (CH (4:Int) (-2:Int)) (fun c=>some c)else some ((0,0)))else Qq9 (CH a (-2:Int)) (fun d=>some d))
theorem Pa{a0:(List Abv)×Int}{c:Value}(e:AS .st H c (a0.1)){r:Al5}(h:EG a0=some r):
  Qqv 15 [.agg #[c,No a0.2]] w (fun v w'=>v=.agg #[No r.1,No r.2]):=by
 refine A4 22 [(0,.agg #[c,No a0.2])] func15 Z fun hL=>Ao<|BM (t:=32) Z Z hL fun w1 b1 x aj _=>AO AI.e Z x fun w2 b2 b ak _=>Ad<|A6<|Ao<|Ag (Ae Z Ahw Z H3.e)<|Ag (Af 1 Z b Z)<|Ag (AZ e)<|AA 1 Z<|AL h ?_ ?_<;>intro y h
 ·refine Ao<|A1 h fun x5 z h=>A9 b (EO _ _ (Av b) z) fun w6 ar aa al=>Ak 0 Z aa Z fun w7 k am=>Ad<|Aw<|Am ?_
  cases h
  refine BX (.cell Z Ae3 Z AI.e (AP (i:=0) k Z)) ⟨k.ext,Z⟩
 refine Au<|Aq<|A6<|Ao<|Ag (Ae Z Ahw Z H3.e)<|Ag (Af 1 Z b Z)<|A1 h fun x9 ab h=>A9 b (Kt _ _ (Av b) (e.mono  Aj) ab) fun au an a ac=>AA 1 Z<|A7 2 Z<|BG h ?_ ?_<;>intro l h
 ·refine Bo 1 Z<|A1 h fun av m h=>A9 a (EO _ _ (Av a) m) fun aw ao o ad=>Ak 0 Z o Z fun ax f ae=>Ad<|Aw<|Am ?_
  cases h
  refine BX (.cell Z Ae3 Z AI.e (AP (i:=0) f Z)) ⟨f.ext,Z⟩
 refine Au<|Aq<|A6<|Ao<|Ag (Ae Z Ahw Z BB.e)<|Ag (Af 1 Z a Z)<|A1 h fun ay p h=>A9 a (E9 _ _ (Av a) p) fun az ap d af=>AA 1 Z<|Bi h ?_ ?_<;>intro q h
 ·refine Ao<|A1 h fun a1 s h=>A9 d (EO _ _ (Av d) s) fun a2 aq u ag=>Ak 0 Z u Z fun a3 g ah=>Ad<|Aw<|Am ?_
  cases h
  refine BX (.cell Z Ae3 Z AI.e (AP (i:=0) g Z)) ⟨g.ext,Z⟩
 refine Au<|Aq<|Ao<|Ag (Ba (fun _=>B8 _))<|Ak 0 Z d Z fun a4 j ai=>Ad<|Aw ?_
 cases h
 refine BX (.cell Z Ae3 Z AI.e (AP (i:=0) j Z)) ⟨j.ext,Z⟩
end
def KQ(a0:Abv)(a1:(List Abv)×Int):Option Bool:=
 Qq9 (C6 a1.1 a0) (fun a=>some a)
theorem QR{a w:World}{H:PH}(hH:Le H (hp a)){O:List BV}{a0:Abv}{a1:(List Abv)×Int}{ba1:Nat}{va1_0:Value}(hL:Bk a (Ha [.box ba1 [va1_0,No a1.2] 32] O) w)(b:AS .st (gz H a w (Ha [.box ba1 [va1_0,No a1.2] 32] O)) va1_0 (a1.1)){r:Bool}(h:KQ a0 a1=some r):
  Ok prog 38 [Abu a0,Abo ba1] w (fun v w'=>v=.bool r/\Bk a (Ha [.box ba1 [va1_0,No a1.2] 32] O) w'/\Le (fz w (Ha [.box ba1 [va1_0,No a1.2] 32] O)) (fz w' (Ha [.box ba1 [va1_0,No a1.2] 32] O))):=by
 refine Cj (n:=8) [(0,(Abu a0)),(1,(Abo ba1))] func38 Z Z Z Z ?_;have hT:=Le.refl (fz w (Ha [.box ba1 [va1_0,No a1.2] 32] O));refine A7 1 Z<|Ao<|Ag (Ae Z Ahw Z H3.e)<|Ag (Af 0 Z hL Z)<|As 1 Z<|A1 h fun g d h=>A9 hL (GU _ _ (Av hL) b d) fun i f e c=>AA 1 Z<|Aw ?_
 cases h
 refine Ah Z ?_;have hT:=hT.trans c;exact⟨Z,e,hT⟩
def Eo:Option Int:=
 some ((-1))
def Cf(a0:List Abv)(a1_c0:(List Abv)×Int):Int->Option ((Int)⊕(Int)):=fun a=>
 if a<(a0.length:Int)then AU (0<=a/\a<(a0.length:Int)) (Qq9 (KQ (a0.getD a.toNat Qq2) a1_c0) (fun b=>if b then Qzx Sum.inr (some a)else AU (Bq (a+1)) (some (Sum.inl (a+1)))))else Qzx Sum.inr Eo
def GL(a0:List Abv)(a1_c0:(List Abv)×Int)(s:Int):Option Int:=Go.L.run (Cf a0 a1_c0) s
def EP(a0:List Abv)(a1_c0:(List Abv)×Int):Option Int:=
 (GL a0 a1_c0) (0:Int)
theorem Lh{e w:World}{H:PH}(hH:Le H (hp e)){O:List BV}{a0:List Abv}{a1_c0:(List Abv)×Int}{va0:Value}{ba1_c0:Nat}{va1_c0_0:Value}(hL:Bk e (Ha [.box ba1_c0 [va1_c0_0,No a1_c0.2] 32] O) w)(l:AS .st (gz H e w (Ha [.box ba1_c0 [va1_c0_0,No a1_c0.2] 32] O)) va0 a0)(ha1_c0_0:AS .st (gz H e w (Ha [.box ba1_c0 [va1_c0_0,No a1_c0.2] 32] O)) va1_c0_0 (a1_c0.1)){r:Int}(h:EP a0 a1_c0=some r):
  Ok prog 71 [va0,.func (.func 38) #[] #[Abo ba1_c0]] w (fun v w'=>v=No r/\Bk e (Ha [.box ba1_c0 [va1_c0_0,No a1_c0.2] 32] O) w'/\Le (fz w (Ha [.box ba1_c0 [va1_c0_0,No a1_c0.2] 32] O)) (fz w' (Ha [.box ba1_c0 [va1_c0_0,No a1_c0.2] 32] O))):=by
 refine Cj (n:=19) [(0,va0),(1,.func (.func 38) #[] #[Abo ba1_c0])] func71 Z Z Z Z ?_;have hT:=Le.refl (fz w (Ha [.box ba1_c0 [va1_c0_0,No a1_c0.2] 32] O));refine A7 1 Z<|Bb Unit (fun(_:Unit)=>[]) (fun(_:Unit) wr=>C5 e (Ha [.box ba1_c0 [va1_c0_0,No a1_c0.2] 32] O) wr fun Oz=>AS .st (gz H e wr Oz) va1_c0_0 (a1_c0.1)/\Le (fz w (Ha [.box ba1_c0 [va1_c0_0,No a1_c0.2] 32] O)) (fz wr Oz)/\Eo=some r) ?_ ?_
 ·refine Bo 1 Z<|Ag (AZ l)<|AA 1 Z<|A2 ?_;obtain⟨i,h⟩:=AR h;refine Bj (Int×Nat) (fun⟨a,n⟩=>[(0,va0),(1,.func (.func 38) #[] #[Abo ba1_c0]),(7,No (a0.length:Int)),(8,No a)]) (fun⟨a,n⟩ wr=>C5 e (Ha [.box ba1_c0 [va1_c0_0,No a1_c0.2] 32] O) wr fun Oz=>AS .st (gz H e wr Oz) va0 a0/\AS .st (gz H e wr Oz) va1_c0_0 (a1_c0.1)/\Le (fz w (Ha [.box ba1_c0 [va1_c0_0,No a1_c0.2] 32] O)) (fz wr Oz)/\DR (Cf a0 a1_c0) n a=some r) (fun⟨a,n⟩=>n) (0,i) Z ⟨hL,l,ha1_c0_0,hT,h⟩ ?_;rintro⟨a,nn42⟩ x ⟨f,c,b,hT,h⟩;obtain⟨i,z,rfl,h,g⟩:=AQ h;refine A7 1 Z<|A6<|AL h ?_ ?_<;>intro m h
  ·refine Au<|Aq<|A6<|A2<|A7 2 Z<|Bo 3 Z<|Ax h fun j h=>AW c a.toNat (Cx j) (AM j) ?_;rintro aa _ rfl o;refine Ag (AT o (Av f))<|A1 h fun ab p h=>D6 Z Z (QR (a0:=(a0.getD a.toNat Qq2)) (a1:=a1_c0) (O:=(Ha [] O)) hH f b p) ?_;rintro _ ac ⟨rfl,k,d⟩;refine Ad<|Bi h ?_ ?_<;>intro q h
   ·refine A7 2 Z<|Aw<|Al<|Am<|Bc ?_;have h:=Bw.out h g;refine Al<|AN ?_
    cases h
    refine Ah Z ?_;have hT:=hT.trans d;exact⟨Z,k,hT⟩
   refine Au<|Az<|Aq<|An<|Ax h fun s h=>Ag (Ay s)<|As 1 Z<|AE ?_;have h:=Bw.again h g;have c:=c.mono (Ab d);have b:=b.mono (Ab d);have hT:=hT.trans d;refine AD (_,_) Z ⟨k,c,b,hT,h⟩
  refine Bf<|A5<|A3 ?_;have h:=Bw.out h g;refine AY<|A8 () ⟨f,b,hT,h⟩
 rintro _ y ⟨t,u,hT,h⟩;refine A7 1 Z<|Aw ?_
 cases h
 refine Ah Z ⟨Z,t,hT⟩
def CL(a0:List Abv)(a1_c0:(List Abv)×Int):Option Bool:=
 Qq9 (EP a0 a1_c0) (fun a=>some (decide (0<=a)))
theorem Kc{a w:World}{H:PH}(hH:Le H (hp a)){O:List BV}{a0:List Abv}{a1_c0:(List Abv)×Int}{va0:Value}{ba1_c0:Nat}{va1_c0_0:Value}(hL:Bk a (Ha [.box ba1_c0 [va1_c0_0,No a1_c0.2] 32] O) w)(c:AS .st (gz H a w (Ha [.box ba1_c0 [va1_c0_0,No a1_c0.2] 32] O)) va0 a0)(ha1_c0_0:AS .st (gz H a w (Ha [.box ba1_c0 [va1_c0_0,No a1_c0.2] 32] O)) va1_c0_0 (a1_c0.1)){r:Bool}(h:CL a0 a1_c0=some r):
  Ok prog 40 [va0,.func (.func 38) #[] #[Abo ba1_c0]] w (fun v w'=>v=.bool r/\Bk a (Ha [.box ba1_c0 [va1_c0_0,No a1_c0.2] 32] O) w'/\Le (fz w (Ha [.box ba1_c0 [va1_c0_0,No a1_c0.2] 32] O)) (fz w' (Ha [.box ba1_c0 [va1_c0_0,No a1_c0.2] 32] O))):=by
 refine Cj (n:=9) [(0,va0),(1,.func (.func 38) #[] #[Abo ba1_c0])] func40 Z Z Z Z ?_;have hT:=Le.refl (fz w (Ha [.box ba1_c0 [va1_c0_0,No a1_c0.2] 32] O));refine A7 1 Z<|Bo 2 Z<|A1 h fun f d h=>Fh (Lh (a0:=a0) (a1_c0:=a1_c0) (O:=(Ha [] O)) hH hL c ha1_c0_0 d) ?_;rintro _ g ⟨rfl,e,b⟩;refine AA 2 Z<|Aw ?_
 cases h
 refine Ah Z ?_;have hT:=hT.trans b;exact⟨Z,e,hT⟩
def JM(a0:Alp)(a1:(List Abv)×Int):Option Bool:=
 if a0.2.2.2.2.2.2.2.2.1<=a1.2 then if(a0.2.2.2.2.2.2.2.1.length:Int)=0 then some true else Qq9 (CL a0.2.2.2.2.2.2.2.1 a1) (fun a=>some a)else some false
section
variable(w:World)(H:PH)(hH:Le H (hp w)) include hH
theorem S2{a0:Alp}{a1:(List Abv)×Int}{d e f g:Value}(_h0_0:AS AlG H d (a0.2.2.2.2.2.2.1))(i:AS .st H e (a0.2.2.2.2.2.2.2.1))(_h0_2:AS (.bs 32) H f (a0.2.2.2.2.2.2.2.2.2.2.2.2.2))(j:AS .st H g (a1.1)){r:Bool}(h:JM a0 a1=some r):
  Qqv 16 [.agg (AlH a0 d e f).toArray,.agg #[g,No a1.2]] w (fun v w'=>v=.bool r):=by
 refine A4 24 [(0,.agg (AlH a0 d e f).toArray),(1,.agg #[g,No a1.2])] func16 Z fun hL=>Ao<|BM (t:=71) Z Z hL fun u o k p _=>BM (t:=32) Z Z k fun x y c q _=>AA 1 Z<|A7 2 Z<|Ao<|Ag (Ae Z Ahw Z BB.e)<|Ag (Af 0 Z c Z)<|Ag (Ae Z Ahm Z BB.e)<|Ag (Af 1 Z c Z)<|As 2 Z<|Bz 12 h ?_ ?_<;>intro a h
 ·refine Aa a<|Ag (Ae Z Ahm Z H3.e)<|Aa a<|Ag (Af 1 Z c Z)<|Aa a<|Ag (AZ i)<|Aa a<|Ag (Ai Z)<|Aa a<|Ag (Ai Z)<|Bz 17 h ?_ ?_<;>intro b h
  ·iterate 4 refine Ar b ?_
   refine Aa a<|Ag (AF b Z)<|Ag (AF a Z)<|AA 1 Z<|Aw ?_
   cases h
   refine Ah Z ⟨c.ext,Z⟩
  refine Aa b<|Ag (Ae Z Ahm Z H3.e)<|Aa b<|Ag (Af 1 Z c Z)<|Aa b<|Ag (Ai Z)<|Aa b<|A1 h fun z l h=>Fh (Kc (a0:=a0.2.2.2.2.2.2.2.1) (a1_c0:=a1) (O:=[.box o (AlH a0 d e f) 71]) hH c (i.mono  Aj) (j.mono  Aj) l) ?_;rintro _ w9 ⟨rfl,m,s⟩;refine Aa a<|Ag (AG b Z)<|Ag (AF a Z)<|AA 1 Z<|Aw ?_
  cases h
  refine Ah Z ⟨m.ext,Z⟩
 iterate 5 refine Ar a ?_
 iterate 4 refine BS ?_
 refine Ar a<|Ag (AG a Z)<|AA 1 Z<|Aw ?_
 cases h
 refine Ah Z ⟨c.ext,Z⟩
def Jx(a:Qq5):Option Al3:=
 some (a,(0,0))
def GA(a0:(List Alp))(a1:(List Abv)×Int):Qq5×Int->Option (Al6⊕Al3):=fun⟨b,a⟩=>
 if a<(a0.length:Int)then AU (0<=a/\a<(a0.length:Int)) (Qq9 (JM (a0.getD a.toNat Qq2) a1) (fun c=>if c then AU (Go.E.Fz 8 (b.length+([a]).length)) (AU (Bq (a+1)) (some (Sum.inl ((b++[a]),(a+1)))))else AU (Bq (a+1)) (some (Sum.inl (b,(a+1))))))else Qzx Sum.inr (Jx b)
def MJ(a0:(List Alp))(a1:(List Abv)×Int)(s:Al6):Option Al3:=Go.L.run (GA a0 a1) s
def CR(a0:(List Alp))(a1:(List Abv)×Int):Option Al3:=
 Qq9 (HZ a0) (fun b=>if b.1=0/\b.2=0 then Qq9 (EG a1) (fun a=>if a.1=0/\a.2=0 then(MJ a0 a1) (([]:Qq5),0)else some ([],a))else some ([],b))
theorem MK{a0:(List Alp)}{a1:(List Abv)×Int}{f j:Value}(aa:AS AlE H f a0)(aj:AS .st H j (a1.1)){r:Al3}(h:CR a0 a1=some r):
  Qqv 4 [.agg #[f],.agg #[j,No a1.2]] w (fun v w'=>∃u0,v=.tuple #[u0,.agg #[No r.2.1,No r.2.2]]/\Cd 3 (.int .i64) H w w' u0 (r.1)):=by
 refine A4 41 [(0,.agg #[f]),(1,.agg #[j,No a1.2])] func4 Z fun hL=>Ao<|BM (t:=24) Z Z hL fun w1 b1 bv cg _=>BM (t:=32) Z Z bv fun w2 b2 bw ch _=>As 1 Z<|AO AI.e Z bw fun w3 b3 ak ci _=>Ad<|A6<|Ao<|Ag (AJ 2 Z AjD.e ak Z)<|A1 h fun x4 bx h=>A9 ak (QQ (a0:=a0) _ _ (Av ak) (aa.mono  Aj) bx) fun w5 cu bz cj=>AO AI.e Z bz fun w6 b6 b4 ck _=>Ak 0 Z b4 Z fun w7 x cl=>Ad<|Ao<|Ag (AJ 0 Z AI.e x Z)<|Ag (Ba (fun _=>B8 _))<|Ag (IX I4 (Nc _ _ _ _))<|Ad<|BG h ?_ ?_<;>intro b5 h
 ·refine BZ (.q 0 (.q 1 (.tail 2))) mixed Qqb (fun cv bb=>?_);have al:=x.call bb;refine B2 Z (AJ 0 Z AI.e al Z) Z<|B9 1 Z<|Bt (fun cw bc=>?_);have bd:=al.call bc;refine Ak 1 Z bd Z fun cx am b8=>Ad<|Aw<|Am ?_
  cases h
  refine Bv (.tmp Z) (.cell Z Ae3 Z AI.e (AP (i:=1) am Z)) ⟨am.ext,_,Z,Cd.nil⟩
 refine Au<|Aq<|A6<|Ao<|Ag (AJ 2 Z AjE.e x Z)<|A1 h fun ae be h=>A9 x (Pa (a0:=a1) _ _ (Av x) (aj.mono  Aj) be) fun cy cm bf b9=>AO AI.e Z bf fun cz a9 bg ca _=>Ak 0 Z bg Z fun c0 ab cb=>Ad<|Ao<|Ag (AJ 0 Z AI.e ab Z)<|Ag (Ba (fun _=>B8 _))<|Ag (IX I4 (Nc _ _ _ _))<|Ad<|BG h ?_ ?_<;>intro bh h
 ·refine BZ (.q 0 (.q 1 (.tail 2))) mixed Qqb (fun c2 bi=>?_);have an:=ab.call bi;refine B2 Z (AJ 0 Z AI.e an Z) Z<|B9 1 Z<|Bt (fun c3 bj=>?_);have bk:=an.call bj;refine Ak 2 Z bk Z fun c4 ao cc=>Ad<|Aw<|Am ?_
  cases h
  refine Bv (.tmp Z) (.cell Z Ae3 Z AI.e (AP (i:=2) ao Z)) ⟨ao.ext,_,Z,Cd.nil⟩
 refine Au<|Aq<|Bo 1 Z ?_;obtain⟨ap,cd,bl⟩:=Cp (.int .i64) H 3 ab;refine Ad<|Bb (Qq5×Value×Qq6) (fun⟨y,k,g⟩=>[(5,(Abo b3)),(8,k)]) (fun⟨y,k,g⟩ wr=>C5 w [.row k 3 1 (y).length g,.box a9 [No ae.1,No ae.2] 35,.box b6 [No x4.1,No x4.2] 35,.box b3 [No 0,No 0] 35,.box b2 [j,No a1.2] 32,.box b1 [f] 24] wr fun Oz=>AK (.int .i64) (gz H w wr Oz) y g/\Jx y=some r) ?_ ?_
 ·refine Ao<|Ag (Ae Z Ahv Z AbE.e)<|Ag (Af 5 Z ap Z)<|Ag (AZ aa)<|AA 1 Z<|A2 ?_;obtain⟨af,h⟩:=AR h;refine Bj (Qq5×Int×Value×Qq6×Nat) (fun⟨d,a,e,b,n⟩=>[(3,(Abo b2)),(5,(Abo b3)),(8,e),(24,f),(25,No (a0.length:Int)),(26,No a)]) (fun⟨d,a,e,b,n⟩ wr=>C5 w [.row e 3 1 (d).length b,.box a9 [No ae.1,No ae.2] 35,.box b6 [No x4.1,No x4.2] 35,.box b3 [No 0,No 0] 35,.box b2 [j,No a1.2] 32,.box b1 [f] 24] wr fun Oz=>AK (.int .i64) (gz H w wr Oz) d b/\DR (GA a0 a1) n (d,a)=some r) (fun⟨d,a,e,b,n⟩=>n) (([]:Qq5),0,Aal,[],af) Z ⟨ap,bl,h⟩ ?_;rintro⟨d,a,e,b,nn91⟩ cn ⟨ac,c,h⟩;obtain⟨af,c5,rfl,h,ad⟩:=AQ h;refine A7 1 Z<|A6<|AL h ?_ ?_<;>intro bm h
  ·refine Au<|Aq<|A6<|A2<|Bo 1 Z<|Ax h fun aq h=>AW aa a.toNat (Cx aq) (AM aq) ?_;rintro c6 _ ⟨_,_,rfl,rfl,⟨_,_,rfl,rfl,⟨_,_,rfl,rfl,⟨_,_,rfl,rfl,⟨_,_,rfl,rfl,⟨_,_,rfl,rfl,⟨_,_,rfl,⟨e95v37,rfl,e95h37⟩,⟨_,_,rfl,⟨e95v38,rfl,e95h38⟩,⟨_,_,rfl,rfl,⟨_,_,rfl,rfl,⟨_,_,rfl,rfl,⟨_,_,rfl,rfl,⟨_,_,rfl,rfl,⟨e95v75,rfl,e95h75⟩⟩⟩⟩⟩⟩⟩⟩⟩⟩⟩⟩⟩⟩ bn;refine Ag (BI bn (hH.trans ac.arg))<|AO O4.e Z ac fun c7 c8 bo ag _=>As 1 Z<|Ak 0 Z bo Z (a:=(onp 37 Z (CB e95h37.one (CB e95h38.one (onp 36 Z (CB e95h75.one Ps)))))) fun c9 o ah=>Ad<|Ao<|Ag (AJ 0 Z O4.e o Z)<|Ag (AJ 5 Z AjE.e o Z)<|A1 h fun da bp h=>A9 o (S2 (a0:=(a0.getD a.toNat Qq2)) (a1:=a1) _ _ (Av o) (e95h37.mono  Aj) (e95h38.mono  Aj) (e95h75.mono  Aj) (aj.mono  Aj) bp) fun co ce ai z=>Ad<|Bi h ?_ ?_<;>intro ax h
   ·refine An<|As 2 Z<|Bx [a] (r:=(.int .i64)) (fun _=>FX _ _) ai (.c1 Z .nil) fun cp cq cf ay ar az=>Ax h fun a2 h=>?_;have c:=c.mono (Ab (ag.trans (ah.trans (z.trans ar))));refine Bp (r:=(.int .i64)) 1 d [a] Z Aco ay Z c az a2 fun bq cr a3 a4 b7 p=>As 1 Z<|AE<|Az<|Aq<|An<|Ax h fun a5 h=>Ag (Ay a5)<|As 1 Z<|AE ?_;have a6:=a4.Bl (i:=0) Z;have h:=Bw.again h ad;have p:=p.mono (Ab (AB (i:=0) Z));refine AD (_,_,_,_,_) Z ⟨a6,p,h⟩
   refine Au<|Az<|Aq<|An<|Ax h fun a7 h=>Ag (Ay a7)<|As 1 Z<|AE ?_;have a8:=ai.Bl (i:=0) Z;have h:=Bw.again h ad;have c:=c.mono (Ab (ag.trans (ah.trans (z.trans (AB (i:=0) Z)))));refine AD (_,_,_,_,_) Z ⟨a8,c,h⟩
  refine Bf<|A5<|A3 ?_;have h:=Bw.out h ad;refine AY<|A8 (_,_,_) ⟨ac,c,h⟩
 rintro⟨y,k,g⟩ cs ⟨br,s,h⟩;refine Bo 1 Z<|Ag (Ba (fun _=>B8 _))<|As 1 Z<|Ak 3 Z br Z fun ct u au=>Ad<|Aw ?_
 cases h
 refine Bv (.tmp Z) (.cell Z Ae3 Z AI.e (AP (i:=3) u Z)) ?_;have s:=s.mono (Ab au);exact⟨u.ext,_,Z,(u.FV hH (i:=0) Z s)⟩
end
end Go.Proofs.YtopocbcekabkoaaGreatDoor
end
noncomputable section
namespace Go.Proofs.YtopocbcekabkoaaGreatDoor
open Go Go.E Go.RowKit Go.Shelf
def HG(H:PH):Prop:=
 ((∀c,c<256->IW H ⟨Tryz.JE.g 2,c,none⟩=some (.int .u8 (Lib.firstT c)))/\
 (∀i,i<16->IW H ⟨Tryz.JE.g 3,2 * i,none⟩=some (.int .u8 (Lib.accLo i))/\IW H ⟨Tryz.JE.g 3,2 * i+1,none⟩=some (.int .u8 (Lib.accHi i))))/\
 (∀w, Le H (hp w) -> Lib.TabIs Tryz.prog w "internal/strconv.uint64pow10" .u64 Lib.pow10Tab)
theorem HG.mono{H H':PH}(h:HG H)(hs:Le H H'):HG H':=by
 obtain⟨a,h2⟩:=h;exact⟨⟨fun c hc=>KJ hs (a.1 c hc),fun i hi=>⟨KJ hs (a.2 i hi).1,KJ hs (a.2 i hi).2⟩⟩,fun w hw=>h2 w (hs.trans hw)⟩
theorem HG.Alw{w:World}(h:HG (hp w)):Lib.Utf8Tabs (Tryz.JE.g 2) (Tryz.JE.g 3) w:=⟨h.1.1,h.1.2⟩
def Af7(l:Qq4):Option Qq7:=Go.L.AU (l≠[]) (some (((Lib.decodeGo ⟨l.toArray⟩).1:Int),((Lib.decodeGo ⟨l.toArray⟩).2:Int)))
section
variable(w:World)(H:PH)(hH:Le H (hp w)) include hH
theorem Ajc(hU:HG H){u:Value}{l:Qq4}(ha:AS .byte H u l){r:Int×Int}(h:Af7 l=some r):
  Ok Tryz.prog 165 [u] w (fun v w'=>Ext w w'/\v=.tuple #[.int .i32 r.1,.int .i64 r.2]):=by
 obtain⟨hk,h⟩:=Go.L.Gp h;obtain rfl:=Option.some.inj h;have hs:(ByteArray.mk l.toArray).size=l.length:=by simp[Qx6]
 obtain⟨a,cap,rfl,h2,h3,f,g⟩:=ha.ex
 cases a with
 | none=>exact absurd (Qxd (by have:=f Z;omega)) hk
 | some A=>
  obtain⟨d,i⟩:=g A Z hk;obtain⟨b,off,sp⟩:=A;simp only at d;subst d
  have hc:=Any7.utf8_DecodeRune Tryz.Ae8 ⟨l.toArray⟩ b off cap w (hU.mono hH).Alw (fun j hj=>by
   rw[hs]at hj;obtain⟨c,hc,hcell⟩:=i j l[j] (Qzy hj);obtain rfl:c=[.int .u8 (l[j].toNat:Int)]:=hc;have:=cell_of hH (hcell 0 _ Z);rw[show(Rp.byte).sz=1 from Z,Qz9,Nat.add_zero,Addr.add_lit]at this;rw[this];have e:(ByteArray.mk l.toArray).get! j=l[j]:=by simp[ByteArray.get!,hj]
   rw[e])
  rw[hs]at hc;refine⟨⟨Tryz.f165,_,Tryz.func165,Z,Z⟩,hc.mono fun e w' he=>?_⟩;obtain⟨rfl,hb⟩:=he;exact⟨_,Z,Ext.off hb,Z⟩
end
theorem AbM(w:World)(k:Nat)(os:Array Obj):Below w.heap.size w (Go.Sort.grow (w.drewN k) os):=
 ⟨Z,Z,Z,by simp[Go.Sort.grow,World.drewN],fun j hj=>by
  simp only[Go.Sort.grow,World.drewN];rw[Qja hj]⟩
noncomputable def Vl(n:Int):Option Qq4:=Go.L.AU (-9223372036854775808<=n/\n<=9223372036854775807) (some (Lib.itoa n))
section
variable(w:World)(H:PH)(hH:Le H (hp w)) include hH
theorem Zh(hU:HG H){a0:Int}{r:Qq4}(h:Vl a0=some r):Ok Tryz.prog 140 [.int .i64 a0] w (fun v w'=>Ext w w'/\v=.string ⟨r.toArray⟩):=by
 obtain⟨hk,h⟩:=Go.L.Gp h;obtain rfl:=Option.some.inj h;refine⟨⟨Tryz.f140,_,Tryz.func140,Z,Z⟩,(Any.strconv_Itoa Tryz.Ahl a0 hk.1 hk.2 w (hU.2 w hH)).mono fun e w' he=>?_⟩;obtain⟨rfl,k,os,rfl⟩:=he;exact⟨_,Z,Ext.off (AbM _ _ _),Z⟩
end
end Go.Proofs.YtopocbcekabkoaaGreatDoor
end
noncomputable section
namespace Go.Proofs.YtopocbcekabkoaaGreatDoor
open Go Go.E Go.RowKit Go.L
set_option maxHeartbeats 1000000
set_option maxRecDepth 10000
open _root_.Go.Proofs.Tryz
def EH{σ:Type}(a0:Pv)(a1:List Abv)(a:Int)(self:Pv->(List Abv)->σ->Option σ)(b:Abv)(sJ72:σ):Option ((Int×σ)⊕(σ)):=
 Qq9 (Gv a1) (fun c=>AU (Go.E.Fz 16 (c.length+([b]).length)) (Qq9 (self (a0.f.2.2.2.2.getD a.toNat Qq2) (c++[b]) sJ72) (fun d=>AU (Bq (a+1)) (some (Sum.inl ((a+1),d))))))
def Dq{σ:Type}(a0:Pv)(a1:List Abv)(self:Pv->(List Abv)->σ->Option σ):Int×σ->Option ((Int×σ)⊕(σ)):=fun⟨a,sJ55⟩=>
 if a<(a0.f.2.2.2.2.length:Int)then AU (0<=a/\a<(a0.f.2.2.2.2.length:Int)) (if a0.f.1=4 then AU (0<=a/\a<(a0.f.2.2.2.1.length:Int)) ((EH a0 a1 a self) (a0.f.2.2.2.1.getD a.toNat Qq2) sJ55)else(EH a0 a1 a self) ([35]:Abv) sJ55)else Qzx Sum.inr (some sJ55)
def QS{σ:Type}(a0:Pv)(a1:List Abv)(self:Pv->(List Abv)->σ->Option σ)(s:Int×σ):Option (σ):=Go.L.run (Dq a0 a1 self) s
def Ia{σ:Type}(step:σ->Alu->Option σ)(self:Pv->(List Abv)->σ->Option σ)(a0:Pv)(a1:List Abv)(s:σ):Option (σ):=
 Qq9 (Vj a1 ([47]:Abv)) (fun b=>Qq9 (step s (b,a0.f.1,a0.f.2.1,a0.f.2.2.1)) (fun a=>(QS a0 a1 self) (0,a)))
def GP{σ:Type}(step:σ->Alu->Option σ):Nat->Pv->(List Abv)->σ->Option σ
 | 0=>fun _ _ _=>none
 | n+1=>Ia step (GP step n)
def M0{σ:Type}(step:σ->Alu->Option σ):Pv->(List Abv)->σ->Option σ:=GP step 1000
theorem R7{σ:Type}{d:World}{H:PH}(hH:Le H (hp d)){fc:FuncId}{cap:Qq6}{J:σ->List BV->PH->Prop}{step:σ->Alu->Option σ}(hcb:Cb prog d H fc cap J step){self:Pv->(List Abv)->σ->Option σ}(hself:∀{w:World}{O R:List BV}{s:σ}{a0:Pv}{a1:List Abv}{va0_2:Value}{va0_3:Value}{va0_4:Value}{va1:Value} (hL:Bk d (Ha O R) w) (ax:AS .byte (gz H d w (Ha O R)) va0_2 (a0.f.2.2.1)) (bs:AS .st (gz H d w (Ha O R)) va0_3 (a0.f.2.2.2.1)) (ay:AS .tree (gz H d w (Ha O R)) va0_4 (a0.f.2.2.2.2)) (bw:AS .st (gz H d w (Ha O R)) va1 a1) (hJ:J s R (gz H d w (Ha O R))) {r:σ} (h:self a0 a1 s=some r),Ok prog 49 [.agg #[No a0.f.1,No a0.f.2.1,va0_2,va0_3,va0_4],va1,.func (.func fc) #[] cap.toArray] w (fun v w'=>v=.tuple #[]/\∃R':List BV,Bk d (Ha O R') w'/\Le (fz w (Ha O R)) (fz w' (Ha O R'))/\J r R' (gz H d w' (Ha O R')))){w:World}{O R:List BV}{s:σ}{a0:Pv}{a1:List Abv}{va0_2 va0_3 va0_4 va1:Value}(hL:Bk d (Ha O R) w)(ax:AS .byte (gz H d w (Ha O R)) va0_2 (a0.f.2.2.1))(bs:AS .st (gz H d w (Ha O R)) va0_3 (a0.f.2.2.2.1))(ay:AS .tree (gz H d w (Ha O R)) va0_4 (a0.f.2.2.2.2))(bw:AS .st (gz H d w (Ha O R)) va1 a1)(hJ:J s R (gz H d w (Ha O R))){r:σ}(h:Ia step self a0 a1 s=some r):
  Ok prog 49 [.agg #[No a0.f.1,No a0.f.2.1,va0_2,va0_3,va0_4],va1,.func (.func fc) #[] cap.toArray] w (fun v w'=>v=.tuple #[]/\∃R':List BV,Bk d (Ha O R') w'/\Le (fz w (Ha O R)) (fz w' (Ha O R'))/\J r R' (gz H d w' (Ha O R'))):=by
 refine Cj (n:=46) [(0,.agg #[No a0.f.1,No a0.f.2.1,va0_2,va0_3,va0_4]),(1,va1),(2,.func (.func fc) #[] cap.toArray)] func49 Z Z Z Z ?_;have hT:=Le.refl (fz w (Ha O R));have aa:=hL.rG H;refine Ao<|BM (t:=51) Z Z hL ?_;intro w2 y cd bg _;have hJ:=hcb.mono (Ab bg) hJ;refine Ad<|BZ (Qqz 0 11 (.tail 11)) mixed Qqb (fun w3 ce=>?_);have ap:=cd.call ce;have bh:=AH cd ce;have hJ:=hcb.mono (Ab bh) hJ;refine B9 2 Z<|A1 h fun x5 cw h=>?_;have aa:=aa.trans (Ab (bg.trans bh));refine Er Z Z Z (fun w6 cx=>Zd _ _ (Le.refl _) (((bw.mono aa).mono (Av ap)).mono cx.le) cw)<|B2 Z (Ae Z Ahe Z BB.e) Z<|B2 Z (Af 0 Z ap Z) Z<|B2 Z (Ae Z Ahe Z BB.e) Z<|B2 Z (Af 0 Z ap Z) Z<|B2 Z (Ae Z Ahe Z Fy.e) Z<|B2 Z (Af 0 Z ap Z) Z<|B2 Z (NS (ax.mono aa) (Av ap)) Z<|B2 Z (Ba (fun _=>WC _ Z _ _ _ Z _)) Z<|Bt (fun w7 cf=>?_);have cy:=ap.call cf;have bi:=AH ap cf
 have hJ:=hcb.mono (Ab bi) hJ;refine A1 h fun cg ch h=>D6 (cap:=cap) Z Z (hcb.ok (O:=(Ha [.box y [No a0.f.1,No a0.f.2.1,va0_2,va0_3,va0_4] 51] O)) (R:=R) (x:=(x5,a0.f.1,a0.f.2.1,a0.f.2.2.1)) cy hJ ch) ?_;rintro _ w9 ⟨rfl,R9,bt,az,cz⟩;replace bt:Bk d (Ha [.box y [No a0.f.1,No a0.f.2.1,va0_2,va0_3,va0_4] 51] (Ha O R9)) w9:=bt;replace az:Le (fz w7 (Ha [.box y [No a0.f.1,No a0.f.2.1,va0_2,va0_3,va0_4] 51] (Ha O R))) (fz w9 (Ha [.box y [No a0.f.1,No a0.f.2.1,va0_2,va0_3,va0_4] 51] (Ha O R9))):=az;replace hJ:J cg R9 (gz H d w9 (Ha [.box y [No a0.f.1,No a0.f.2.1,va0_2,va0_3,va0_4] 51] (Ha O R9))):=cz;refine Ad<|Ao<|Ag (Ae Z Ahe Z XJ.e)<|Ag (Af 0 Z bt Z) ?_;have aa:=aa.trans (Ab (bi.trans az));refine Ag (AZ (ay.mono aa))<|AA 1 Z<|A2 ?_;obtain⟨bu,h⟩:=AR h;have hT:=hT.trans (bg.trans (bh.trans (bi.trans az)))
 refine Bj (Int×σ×(List BV)×Nat) (fun⟨a,sJ55,RJ55,n⟩=>[(1,va1),(2,.func (.func fc) #[] cap.toArray),(3,(Abo y)),(22,va0_4),(23,No (a0.f.2.2.2.2.length:Int)),(24,No a)]) (fun⟨a,sJ55,RJ55,n⟩ wr=>C5 d (Ha [.box y [No a0.f.1,No a0.f.2.1,va0_2,va0_3,va0_4] 51] (Ha O RJ55)) wr fun Oz=>AS .st (gz H d wr Oz) va1 a1/\AS .tree (gz H d wr Oz) va0_4 (a0.f.2.2.2.2)/\AS .byte (gz H d wr Oz) va0_2 (a0.f.2.2.1)/\AS .st (gz H d wr Oz) va0_3 (a0.f.2.2.2.1)/\Le (fz w (Ha O R)) (fz wr Oz)/\J sJ55 RJ55 (gz H d wr Oz)/\DR (Dq a0 a1 self) n (a,sJ55)=some r) (fun⟨a,sJ55,RJ55,n⟩=>n) (0,cg,R9,bu) Z ⟨bt,(bw.mono aa),(ay.mono aa),(ax.mono aa),(bs.mono aa),hT,hJ,h⟩ ?_;rintro⟨a,sJ55,RJ55,nn55⟩ c9 ⟨a2,a7,aq,a8,ar,hT,hJ,h⟩;obtain⟨bu,c0,rfl,h,bj⟩:=AQ h;have o:=a2.rG H;refine A7 1 Z<|A6<|AL h ?_ ?_<;>intro cj h
 ·refine Au<|Aq<|A6<|A2<|Bo 1 Z<|Ax h fun bx h=>AW (aq.mono o) a.toNat (Cx bx) (AM bx) ?_;rintro di _ e60t0 ck;obtain⟨_,_,rfl,rfl,⟨_,_,rfl,rfl,⟨_,_,rfl,⟨e60v2,rfl,e60h2⟩,⟨_,_,rfl,⟨e60v3,rfl,e60h3⟩,⟨e60v4,rfl,e60h4⟩⟩⟩⟩⟩:=Go.E.Rp.Mb e60t0;refine Ag (BI ck (Av a2))<|AO EK.e Z a2 ?_;intro dj p cl e _;have hJ:=hcb.mono (Ab e) hJ;refine As 1 Z<|Ak 0 Z cl Z (a:=(CB Z (CB Z (CB e60h2.one (CB e60h3.one (CB e60h4.one Ps)))))) ?_;intro dk aj g;have hJ:=hcb.mono (Ab g) hJ;refine Ad ?_;have k:=aj.rG H;refine A7 1 Z ?_
  refine Bb (Abv×σ×(List BV)) (fun⟨u,sJ72,RJ72⟩=>[(1,va1),(2,.func (.func fc) #[] cap.toArray),(3,(Abo y)),(7,(Abo p)),(8,(Abu u)),(22,va0_4),(23,No (a0.f.2.2.2.2.length:Int)),(24,No a)]) (fun⟨u,sJ72,RJ72⟩ wr=>C5 d (Ha [.box p [No ((a0.f.2.2.2.2.getD a.toNat Qq2).f.1),No ((a0.f.2.2.2.2.getD a.toNat Qq2).f.2.1),e60v2,e60v3,e60v4] 51,.box y [No a0.f.1,No a0.f.2.1,va0_2,va0_3,va0_4] 51] (Ha O RJ72)) wr fun Oz=>AS .st (gz H d wr Oz) va1 a1/\AS .tree (gz H d wr Oz) va0_4 (a0.f.2.2.2.2)/\AS .byte (gz H d wr Oz) e60v2 ((a0.f.2.2.2.2.getD a.toNat Qq2).f.2.2.1)/\AS .st (gz H d wr Oz) e60v3 ((a0.f.2.2.2.2.getD a.toNat Qq2).f.2.2.2.1)/\AS .tree (gz H d wr Oz) e60v4 ((a0.f.2.2.2.2.getD a.toNat Qq2).f.2.2.2.2)/\AS .byte (gz H d wr Oz) va0_2 (a0.f.2.2.1)/\AS .st (gz H d wr Oz) va0_3 (a0.f.2.2.2.1)/\Le (fz w (Ha O R)) (fz wr Oz)/\J sJ72 RJ72 (gz H d wr Oz)/\(EH a0 a1 a self) u sJ72=some c0) ?_ ?_
  ·refine Ao<|Ag (Ae Z Ahe Z BB.e)<|Ag (Af 1 Z aj Z)<|AA 1 Z<|AL h ?_ ?_<;>intro cm h
   ·refine An<|Ag (Ae Z Ahe Z H3.e)<|Ag (Af 1 Z aj Z)<|As 1 Z<|Ax h fun bz h=>?_;have o:=o.trans (Ab (e.trans g));refine AW ((ar.mono o).mono k) a.toNat (Cx bz) (AM bz) ?_;rintro dl _ rfl cn;refine Ag (AT cn (Av aj))<|As 1 Z<|AE ?_;have e60h2:=e60h2.mono (Ab (e.trans g));have e60h3:=e60h3.mono (Ab (e.trans g));have e60h4:=e60h4.mono (Ab (e.trans g));have hT:=hT.trans (e.trans g);refine A8 (_,_,_) ⟨aj,((a7.mono o).mono k),((aq.mono o).mono k),(e60h2.mono k),(e60h3.mono k),(e60h4.mono k),((a8.mono o).mono k),((ar.mono o).mono k),hT,hJ,h⟩
   refine Au ?_;have e60h2:=e60h2.mono (Ab (e.trans g));have e60h3:=e60h3.mono (Ab (e.trans g));have e60h4:=e60h4.mono (Ab (e.trans g));have o:=o.trans (Ab (e.trans g));have hT:=hT.trans (e.trans g);refine A8 (_,_,_) ⟨aj,((a7.mono o).mono k),((aq.mono o).mono k),(e60h2.mono k),(e60h3.mono k),(e60h4.mono k),((a8.mono o).mono k),((ar.mono o).mono k),hT,hJ,h⟩
  have hT:=hT.trans (e.trans g);rintro⟨u,sJ72,RJ72⟩ da ⟨bk,ae,a9,ba,bb,bc,bd,be,hT,hJ,h⟩;have c:=bk.rG H;refine KX (I3 (Ww (T1 (I3 OF)))) (fun z0 z=>Le (gz H d z0 (Ha [.box p [No ((a0.f.2.2.2.2.getD a.toNat Qq2).f.1),No ((a0.f.2.2.2.2.getD a.toNat Qq2).f.2.1),e60v2,e60v3,e60v4] 51,.box y [No a0.f.1,No a0.f.2.1,va0_2,va0_3,va0_4] 51] (Ha O RJ72))) (hp z)/\z.heap[p]? = some (.cells [No ((a0.f.2.2.2.2.getD a.toNat Qq2).f.1),No ((a0.f.2.2.2.2.getD a.toNat Qq2).f.2.1),e60v2,e60v3,e60v4].toArray 51 (0,0))/\z.heap[y]? = some (.cells [No a0.f.1,No a0.f.2.1,va0_2,va0_3,va0_4].toArray 51 (0,0))) mixed Z (fun a3 dm b0=>?_);have ab:=bk.call b0;have af:=AH bk b0;have hJ:=hcb.mono (Ab af) hJ;have b:=ab.rG H;refine OG ⟨b.trans (Av ab),ab.at (i:=0) Z,ab.at (i:=1) Z⟩ fun kI84=>Bn 0 a3 kI84 Z (fun _ hI=>Rr hI.2.1) Z<|Bn 1 a3 kI84 Z (fun _ _=>Ai Z) Z<|Bn 3 a3 kI84 Z (fun _ _=>Ai Z) Z<|Bn 6 a3 kI84 Z (fun _ _=>Ai Z) Z<|NI2 2 4 Z Z ?_ ?_
  ·refine A1 h fun b1 bl h=>?_;have c:=c.trans (Ab af);refine Br ab (HK _ _ (Av ab) ((ae.mono c).mono b) bl) ?_;rintro c4 dn ⟨_,rfl,b3⟩ co au am;obtain⟨dc,au,am,bm⟩:=b3.take hH ab co;have hJ:=hcb.mono (Ab am) hJ;have b:=b.trans (Ab am);refine Be ⟨b.trans (Av au),au.at (i:=1) Z,au.at (i:=2) Z⟩ fun kI87=>Fg 4 Z<|Bx [u] (r:=.st) (fun _=>Mw _ Z _) au (.c1 Z .nil) ?_;intro dp dq dd a4 an cp;have hJ:=hcb.mono (Ab an) hJ;have b:=b.trans (Ab an);refine Be ⟨b.trans (Av a4),a4.at (i:=1) Z,a4.at (i:=2) Z⟩ fun kI89=>Fg 5 Z<|Ax h fun bn h=>?_;have bm:=bm.mono (Ab an);refine Bp (r:=.st) 0 b1 [u] Z Ae5 a4 Z bm cp bn ?_;intro dr c2 de av a5 cq;have hJ:=hcb.mono (Ab a5) hJ;have b:=b.trans (Ab a5);refine Be ⟨b.trans (Av av),av.at (i:=1) Z,av.at (i:=2) Z⟩ fun kI92=>Fg 7 Z ?_;have cr:=av.Cu hH (i:=0) Z cq
   have cs:=av.Bl (i:=0) Z;have hJ:=hcb.mono (Ab (AB (i:=0) Z)) hJ;refine A1 h fun bf bo h=>?_;have b:=b.trans (Ab (AB (i:=0) Z));refine Fh (hself (O:=(Ha [.box p [No ((a0.f.2.2.2.2.getD a.toNat Qq2).f.1),No ((a0.f.2.2.2.2.getD a.toNat Qq2).f.2.1),e60v2,e60v3,e60v4] 51,.box y [No a0.f.1,No a0.f.2.1,va0_2,va0_3,va0_4] 51] O)) (R:=RJ72) cs ((ba.mono c).mono b) ((bb.mono c).mono b) ((bc.mono c).mono b) cr hJ bo) ?_;rintro _ b4 ⟨rfl,R94,ak,ao,ct⟩;replace ak:Bk d (Ha [.box p [No ((a0.f.2.2.2.2.getD a.toNat Qq2).f.1),No ((a0.f.2.2.2.2.getD a.toNat Qq2).f.2.1),e60v2,e60v3,e60v4] 51,.box y [No a0.f.1,No a0.f.2.1,va0_2,va0_3,va0_4] 51] (Ha O R94)) b4:=ak;replace ao:Le (fz c2 (Ha [.box p [No ((a0.f.2.2.2.2.getD a.toNat Qq2).f.1),No ((a0.f.2.2.2.2.getD a.toNat Qq2).f.2.1),e60v2,e60v3,e60v4] 51,.box y [No a0.f.1,No a0.f.2.1,va0_2,va0_3,va0_4] 51] (Ha O RJ72))) (fz b4 (Ha [.box p [No ((a0.f.2.2.2.2.getD a.toNat Qq2).f.1),No ((a0.f.2.2.2.2.getD a.toNat Qq2).f.2.1),e60v2,e60v3,e60v4] 51,.box y [No a0.f.1,No a0.f.2.1,va0_2,va0_3,va0_4] 51] (Ha O R94))):=ao
   replace hJ:J bf R94 (gz H d b4 (Ha [.box p [No ((a0.f.2.2.2.2.getD a.toNat Qq2).f.1),No ((a0.f.2.2.2.2.getD a.toNat Qq2).f.2.1),e60v2,e60v3,e60v4] 51,.box y [No a0.f.1,No a0.f.2.1,va0_2,va0_3,va0_4] 51] (Ha O R94))):=ct;have b:=b.trans (Ab ao);refine Be ⟨b.trans (Av ak),ak.at (i:=0) Z,ak.at (i:=1) Z⟩ fun kI96=>FW<|Az<|Aq<|An<|Ax h fun bp h=>Ag (Ay bp)<|As 1 Z<|AE ?_;have cu:=ak.Bl (i:=0) Z;have hJ:=hcb.mono (Ab (AB (i:=0) Z)) hJ;have h:=Bw.again h bj;have hT:=hT.trans (af.trans (am.trans (an.trans (a5.trans ((AB (i:=0) Z).trans (ao.trans (AB (i:=0) Z)))))));have b:=b.trans (Ab (AB (i:=0) Z));refine AD (_,_,_,_) Z ⟨cu,((ae.mono c).mono b),((a9.mono c).mono b),((bd.mono c).mono b),((be.mono c).mono b),hT,hJ,h⟩
  refine A1 h fun b1 bl h=>Ax h fun bn h=>A1 h fun bf bo h=>Ax h fun bp h=>Bx [u] (r:=.st) (fun _=>Mw _ Z _) ab (.c1 Z .nil) ?_;intro ds dt df al a6 bq;have hJ:=hcb.mono (Ab a6) hJ;have b:=b.trans (Ab a6);refine Be ⟨b.trans (Av al),al.at (i:=0) Z,al.at (i:=1) Z⟩ fun kI100=>Fg 2 Z ?_;have c:=c.trans (Ab af);refine Br al (HK _ _ (Av al) ((ae.mono c).mono b) bl) ?_;rintro c3 dg ⟨_,rfl,bv⟩ b5 ag ac;obtain⟨c5,ag,ac,b6⟩:=bv.take hH al b5;have hJ:=hcb.mono (Ab ac) hJ;have b:=b.trans (Ab ac);refine Be ⟨b.trans (Av ag),ag.at (i:=1) Z,ag.at (i:=2) Z⟩ fun kI102=>Fg 5 Z ?_;have bq:=bq.mono (Ab ac);refine Bp (r:=.st) 0 b1 [u] Z Ae5 ag Z b6 bq bn ?_;intro dh cv c6 ah aw b7;have hJ:=hcb.mono (Ab aw) hJ;have b:=b.trans (Ab aw);refine Be ⟨b.trans (Av ah),ah.at (i:=1) Z,ah.at (i:=2) Z⟩ fun kI104=>?_
  refine Fg 7 Z ?_;have b8:=ah.Cu hH (i:=0) Z b7;have b9:=ah.Bl (i:=0) Z;have hJ:=hcb.mono (Ab (AB (i:=0) Z)) hJ;have b:=b.trans (Ab (AB (i:=0) Z));refine Fh (hself (O:=(Ha [.box p [No ((a0.f.2.2.2.2.getD a.toNat Qq2).f.1),No ((a0.f.2.2.2.2.getD a.toNat Qq2).f.2.1),e60v2,e60v3,e60v4] 51,.box y [No a0.f.1,No a0.f.2.1,va0_2,va0_3,va0_4] 51] O)) (R:=RJ72) b9 ((ba.mono c).mono b) ((bb.mono c).mono b) ((bc.mono c).mono b) b8 hJ bo) ?_;rintro _ br ⟨rfl,R106,ad,ai,ca⟩;replace ad:Bk d (Ha [.box p [No ((a0.f.2.2.2.2.getD a.toNat Qq2).f.1),No ((a0.f.2.2.2.2.getD a.toNat Qq2).f.2.1),e60v2,e60v3,e60v4] 51,.box y [No a0.f.1,No a0.f.2.1,va0_2,va0_3,va0_4] 51] (Ha O R106)) br:=ad
  replace ai:Le (fz cv (Ha [.box p [No ((a0.f.2.2.2.2.getD a.toNat Qq2).f.1),No ((a0.f.2.2.2.2.getD a.toNat Qq2).f.2.1),e60v2,e60v3,e60v4] 51,.box y [No a0.f.1,No a0.f.2.1,va0_2,va0_3,va0_4] 51] (Ha O RJ72))) (fz br (Ha [.box p [No ((a0.f.2.2.2.2.getD a.toNat Qq2).f.1),No ((a0.f.2.2.2.2.getD a.toNat Qq2).f.2.1),e60v2,e60v3,e60v4] 51,.box y [No a0.f.1,No a0.f.2.1,va0_2,va0_3,va0_4] 51] (Ha O R106))):=ai;replace hJ:J bf R106 (gz H d br (Ha [.box p [No ((a0.f.2.2.2.2.getD a.toNat Qq2).f.1),No ((a0.f.2.2.2.2.getD a.toNat Qq2).f.2.1),e60v2,e60v3,e60v4] 51,.box y [No a0.f.1,No a0.f.2.1,va0_2,va0_3,va0_4] 51] (Ha O R106))):=ca;have b:=b.trans (Ab ai);refine Be ⟨b.trans (Av ad),ad.at (i:=0) Z,ad.at (i:=1) Z⟩ fun kI107=>FW<|Az<|Aq<|An<|Ag (Ay bp)<|As 1 Z<|AE ?_;have cb:=ad.Bl (i:=0) Z;have hJ:=hcb.mono (Ab (AB (i:=0) Z)) hJ;have h:=Bw.again h bj;have hT:=hT.trans (af.trans (a6.trans (ac.trans (aw.trans ((AB (i:=0) Z).trans (ai.trans (AB (i:=0) Z)))))));have b:=b.trans (Ab (AB (i:=0) Z))
  refine AD (_,_,_,_) Z ⟨cb,((ae.mono c).mono b),((a9.mono c).mono b),((bd.mono c).mono b),((be.mono c).mono b),hT,hJ,h⟩
 refine Bf<|A5<|A3 ?_;have h:=Bw.out h bj;refine AY ?_
 cases h
 refine Rk ?_;have cc:=a2.Bl (i:=0) Z;have hJ:=hcb.mono (Ab (AB (i:=0) Z)) hJ;have hT:=hT.trans (AB (i:=0) Z);exact⟨Z,RJ55,cc,hT,hJ⟩
theorem TL{σ:Type}{a:World}{H:PH}(hH:Le H (hp a)){fc:FuncId}{cap:Qq6}{J:σ->List BV->PH->Prop}{step:σ->Alu->Option σ}(hcb:Cb prog a H fc cap J step)(n:Nat):∀{w:World}{O R:List BV}{s:σ}{a0:Pv}{a1:List Abv}{va0_2:Value}{va0_3:Value}{va0_4:Value}{va1:Value} (hL:Bk a (Ha O R) w) (b:AS .byte (gz H a w (Ha O R)) va0_2 (a0.f.2.2.1)) (c:AS .st (gz H a w (Ha O R)) va0_3 (a0.f.2.2.2.1)) (d:AS .tree (gz H a w (Ha O R)) va0_4 (a0.f.2.2.2.2)) (e:AS .st (gz H a w (Ha O R)) va1 a1) (hJ:J s R (gz H a w (Ha O R))) {r:σ} (h:GP step n a0 a1 s=some r),Ok prog 49 [.agg #[No a0.f.1,No a0.f.2.1,va0_2,va0_3,va0_4],va1,.func (.func fc) #[] cap.toArray] w (fun v w'=>v=.tuple #[]/\∃R':List BV,Bk a (Ha O R') w'/\Le (fz w (Ha O R)) (fz w' (Ha O R'))/\J r R' (gz H a w' (Ha O R'))):=by
 induction n with
 | zero=>intros;rename_i h;cases h
 | succ n ih=>exact fun {_}{_}{_}{_}{_}{_}{_}{_}{_}{_} hL b c d e hJ {_} h=>R7 hH hcb (self:=GP step n) ih hL b c d e hJ h
theorem V8{σ:Type}{a:World}{H:PH}(hH:Le H (hp a)){fc:FuncId}{cap:Qq6}{J:σ->List BV->PH->Prop}{step:σ->Alu->Option σ}(hcb:Cb prog a H fc cap J step){w:World}{O R:List BV}{s:σ}{a0:Pv}{a1:List Abv}{va0_2 va0_3 va0_4 va1:Value}(hL:Bk a (Ha O R) w)(b:AS .byte (gz H a w (Ha O R)) va0_2 (a0.f.2.2.1))(c:AS .st (gz H a w (Ha O R)) va0_3 (a0.f.2.2.2.1))(d:AS .tree (gz H a w (Ha O R)) va0_4 (a0.f.2.2.2.2))(e:AS .st (gz H a w (Ha O R)) va1 a1)(hJ:J s R (gz H a w (Ha O R))){r:σ}(h:M0 step a0 a1 s=some r):Ok prog 49 [.agg #[No a0.f.1,No a0.f.2.1,va0_2,va0_3,va0_4],va1,.func (.func fc) #[] cap.toArray] w (fun v w'=>v=.tuple #[]/\∃R':List BV,Bk a (Ha O R') w'/\Le (fz w (Ha O R)) (fz w' (Ha O R'))/\J r R' (gz H a w' (Ha O R'))):=TL hH hcb 1000 hL b c d e hJ h
end Go.Proofs.YtopocbcekabkoaaGreatDoor
end
noncomputable section
namespace Go.E
open Go Go.RowKit Go.Sort Go.Proofs Go.Shelf
theorem Aa1[Dr]{w w':World}(hd:Dr.on=true)(h:Ext w w'):∃q os,w'=grow (w.drewN q) os:=by
 refine⟨w'.drawn - w.drawn,w'.heap.extract w.heap.size w'.heap.size,?_⟩;have hd:=h.drawn hd
 have hh:w.heap++w'.heap.extract w.heap.size w'.heap.size=w'.heap:=by
  apply Array.ext_getElem?;intro k
  rcases Nat.lt_or_ge k w.heap.size with hk | hk
  ·rw[Qja hk,h.block k hk]
  ·rw[Array.getElem?_append_right hk,Array.getElem?_extract];have:=h.size
   split
   ·congr 1;omega
   ·rw[Array.getElem?_eq_none U]
 obtain⟨heap,tape,drawn,os,output⟩:=w;obtain⟨heap',tape',drawn',os',output'⟩:=w';have a:=h.os;have h2:=h.tape;have h3:=h.output;simp only at a h2 h3 hd hh;subst a;subst h2;subst h3;simp only[grow,World.drewN,World.mk.injEq,and_true,true_and];exact⟨hh.symm,by omega⟩
section
variable {α:Type} [Inhabited α]
theorem Oe(enc:α->Value)(w:World)(g m:Nat)(d:Array α)(os:Array Obj)(k:Nat)(hk:k<w.heap.size):(sortWorld enc w g 0 m d os).heap[k]? = if k=g then(w.heap[k]?).map (onCells (putCells enc 0 d))else w.heap[k]?:=by
 unfold sortWorld grow putRow mapBlock Sort.ahead;simp only;rw[Qja (by simpa using hk),Array.getElem?_modify]
 by_cases h:g=k
 ·subst h;simp
 ·rw[if_neg h,if_neg (fun e=>h e.symm)]
theorem QH(enc:α->Value)(w:World)(g m:Nat)(d:Array α)(os:Array Obj):w.grownBy (sortWorld enc w g 0 m d os) (some g):=
 ⟨Z,Z,Z,by simp[sortWorld,grow,putRow,mapBlock,Sort.ahead],fun k hk hne=>by rw[Oe enc w g m d os k hk,if_neg (fun e=>hne (by rw[e]))]⟩
theorem XP(enc:α->Value)(d:Array α)(c:Array Value)(h:d.size<=c.size):(putCells enc 0 d c).toList.take d.size=d.toList.map enc:=by
 apply Qky;intro k;rw[Qjc]
 by_cases hk:k<d.size
 ·rw[if_pos hk];have hkc:k<c.size:=by omega
  simp[putCells,hk,hkc]
 ·rw[if_neg hk,QxJ (by simp;omega)]
theorem Adc{enc:α->Value}{w:World}{e:TypeId}{g cap n sz m:Nat}{xs:Qq6}{d:Array α}{os:Array Obj}(ho:w.ownsRow 0 e sz (.slice (some ⟨g,0,none⟩) n cap) n xs)(hl:d.size=xs.length):
  (sortWorld enc w g 0 m d os).ownsRow 0 e sz (.slice (some ⟨g,0,none⟩) n cap) n (d.toList.map enc):=by
 obtain⟨a,h2⟩:=ho;refine⟨by simp;omega,?_⟩
 rcases h2 with ⟨hc,_⟩ | ⟨g',cap',cur,hv,hb,hg,hnc,hcm,hcs,htake⟩
 ·cases hc
 ·cases hv
  have hgl:=EJ hg;have hle:n * sz<=cap * sz:=QkA _ hnc;refine .inr ⟨g,cap,putCells enc 0 d cur,Z,hb,?_,hnc,hcm,by simp[putCells,hcs],?_⟩
  ·rw[Oe enc w g m _ os g hgl,if_pos Z,hg]
   rfl
  ·have:=XP enc d cur U;rw[show n * sz=d.size by omega];exact this
theorem Sh(enc:α->Value){w:World}{e:TypeId}{g cap n sz:Nat}{xs:Qq6}(d:Array α)(ho:w.ownsRow 0 e sz (.slice (some ⟨g,0,none⟩) n cap) n xs)(hd:d.toList.map enc=xs):Holds enc w g 0 d/\g<w.heap.size:=by
 obtain⟨b,h2⟩:=ho;have hsz:d.size=xs.length:=by rw[<- hd];simp
 rcases h2 with ⟨hc,_⟩ | ⟨g',cap',cur,hv,hb,hg,hnc,hcm,hcs,htake⟩
 ·cases hc
 ·cases hv
  have hle:n * sz<=cap * sz:=QkA _ hnc;refine⟨fun j hj=>?_,EJ hg⟩
  constructor
  ·have a:xs[j]? = some (enc d[j]!):=by rw[<- hd];simp[hj]
   have:cur.toList[j]? = some (enc d[j]!):=by
    rw[<- htake,Qjc,if_pos U]at a;exact a
   simp only[World.cell?,hg,QzJ]
   simpa using this
  ·simp[World.frozen?,hg]
end
theorem AhO{w:World}{e:TypeId}{g cap n q:Nat}{xs:Qq6}(ho:w.ownsRow 0 e 1 (.slice (some ⟨g,0,none⟩) n cap) n xs)(hq:q<=n):w.ownsRow 0 e 1 (.slice (some ⟨g,0,none⟩) q cap) q (xs.take q):=by
 obtain⟨a,h2⟩:=ho
 rcases h2 with ⟨hc,_⟩ | ⟨g',cap',cur,hv,hb,hg,hnc,hcm,hcs,htake⟩
 ·cases hc
 ·cases hv
  refine⟨by rw[List.length_take,a];omega,.inr ⟨g,cap,cur,Z,hb,hg,by omega,hcm,hcs,?_⟩⟩;rw[<- htake,List.take_take,Qz9,Qz9,Nat.min_eq_left hq]
section
variable {P:Program}{n:Sz}{ops:Array Oper}{Q:Exit->Act->World->Prop}{L:Env}{w w0:World}{O:List BV}{rest:List Oper}{d:Nat}{ty:TypeId}{pos:String}{af:Array Edge}{v:Value}{e:TypeId}{H:PH}{α β:Type} [Inhabited β] {r:Rp α}
theorem WK[Dr]{f i sz:Nat}{at_:Array TypeId}{args:List Operand}{l l':List α}{xs ys:Qq6}{dd:Array β}{enc:β->Value}{fa:Qq6}(hc:Kh P f)(ha:Vc L args=some (v::fa))(hn:Qzw d n.n=true)(hL:Bk w0 O w)(hi:Dz O i=some (.row v e sz l.length xs))(hd:dd.toList.map enc=ys)(hl:l'.length=l.length)(hy:ys.length=xs.length)(hys:l.length=0->ys=xs)
  (hnil:v=.slice none 0 0->Calls P f (v::fa).toArray w fun e w'=>e=.returned (.tuple #[])/\w'=w)
  (hs:∀g cap,v=.slice (some ⟨g,0,none⟩) l.length cap->l.length<=cap->Calls P f (v::fa).toArray w fun e w'=>e=.returned (.tuple #[])/\∃m os,w'=sortWorld enc w g 0 m dd os)
  (h:∀w',Bk w0 (CE O i (.row v e sz l'.length ys)) w'->Le (fz w O) (fz w' (CE O i (.row v e sz l'.length ys)))->S P n ops Q rest ((d,.tuple #[])::L) w') :
  S P n ops Q (⟨some d,.call ⟨.value (.func f),args.toArray,at_⟩,ty,pos,af,none⟩::rest) L w:=by
 have hown:w.ownsRow 0 e sz v l.length xs:=hL.at hi;rw[hl]at h
 rcases hown.2 with ⟨hv,c⟩ | ⟨j,cap,cur,hv,k,o,hnc,_⟩
 ·refine XD Z fun a fr=>?_;unfold Oper.wp;rw[M8 hc ha _ fr.Yb];refine(hnil hv).mono fun en w' ⟨he,hw⟩=>?_;subst he;subst hw;have hyx:=hys c;subst hyx;exact h w' (hL.LY hi (Qzu _) (World.grownBy.refl _ _) (hL.at hi) (fun b e=>.inl e)) (Gj (r':=.row v e sz l.length ys) hL hi (World.grownBy.refl _ _) (fun b e=>.inl e)) _ (fr.put hn)
 ·refine XD Z fun a fr=>?_;unfold Oper.wp;rw[M8 hc ha _ fr.Yb];refine(hs j cap hv hnc).mono fun en w' ⟨he,m,os,hw⟩=>?_;subst he;have hgr:=QH enc w j m dd os;rw[<- hw]at hgr
  have hok:(BV.row v e sz l.length ys).ok w':=by
   rw[hw,hv,<- hd];refine Adc (by rw[<- hv];exact hown) ?_;have:dd.toList.length=ys.length:=by rw[<- hd];simp
   simpa[hy]using this
  have hdr:w.drawn<=w'.drawn:=by rw[hw];exact Nat.le_add_right _ _
  have hgr':w.grownBy w' (BV.row v e sz l.length xs).block:=by rw[hv];exact hgr
  exact h w' (hL.LY hi hdr hgr' hok (fun b e=>.inl e)) (Gj (r':=.row v e sz l.length ys) hL hi hgr' (fun b e=>.inl e)) _ (fr.put hn)
theorem AdR[Dr]{f i:Nat}{at_:Array TypeId}{args:List Operand}{l:List α}{l':List β}{z:β}{xs:Qq6}{enc:β->Value}(hc:Kh P f)(ha:Vc L args=some [v])(hn:Qzw d n.n=true)(hL:Bk w0 O w)(hi:Dz O i=some (.row v e 1 l.length xs))(hle:l'.length<=l.length)
  (hnil:v=.slice none 0 0->Calls P f #[v] w fun e w'=>e=.returned v/\w'=w)
  (hs:∀g cap,v=.slice (some ⟨g,0,none⟩) l.length cap->l.length<=cap->Calls P f #[v] w fun e w'=>e=.returned (.slice (some ⟨g,0,none⟩) l'.length cap)/\∃q,w'=putRow enc (Sort.ahead w q) g 0 (l'++Qzv (l.length - l'.length) z).toArray)
  (h:∀v' w',Bk w0 (CE O i (.row v' e 1 l'.length (l'.map enc))) w'->Le (fz w O) (fz w' (CE O i (.row v' e 1 l'.length (l'.map enc))))->S P n ops Q rest ((d,v')::L) w') :
  S P n ops Q (⟨some d,.call ⟨.value (.func f),args.toArray,at_⟩,ty,pos,af,none⟩::rest) L w:=by
 have hown:w.ownsRow 0 e 1 v l.length xs:=hL.at hi
 rcases hown.2 with ⟨hv,k⟩ | ⟨c,cap,cur,hv,t,u,hnc,_⟩
 ·have o:l'=[]:=Qxd U;subst o;refine XD Z fun a fr=>?_;unfold Oper.wp;rw[M8 hc ha _ fr.Yb];refine(hnil hv).mono fun en w' ⟨he,hw⟩=>?_;subst he;subst hw;have p:xs=[]:=Qxd (by rw[hown.1,k])
  have hok:(BV.row v e 1 ([]:List β).length (([]:List β).map enc)).ok w':=by
   have:=hL.at hi;rw[k,p]at this;exact this
  exact h v w' (hL.LY hi (Qzu _) (World.grownBy.refl _ _) hok (fun b e=>.inl e)) (Gj (r':=.row v e 1 ([]:List β).length (([]:List β).map enc)) hL hi (World.grownBy.refl _ _) (fun b e=>.inl e)) _ (fr.put hn)
 ·refine XD Z fun a fr=>?_;unfold Oper.wp;rw[M8 hc ha _ fr.Yb];refine(hs c cap hv hnc).mono fun en w' ⟨he,q,hw⟩=>?_;subst he;have j:w'=sortWorld enc w c 0 q (l'++Qzv (l.length - l'.length) z).toArray #[]:=by rw[hw];unfold sortWorld;rw[grow_empty]
  have hgr:=QH enc w c q (l'++Qzv (l.length - l'.length) z).toArray #[];rw[<- j]at hgr
  have hok:(BV.row (.slice (some ⟨c,0,none⟩) l'.length cap) e 1 l'.length (l'.map enc)).ok w':=by
   have s:w'.ownsRow 0 e 1 (.slice (some ⟨c,0,none⟩) l.length cap) l.length ((l'++Qzv (l.length - l'.length) z).map enc):=by
    have r:=Adc (enc:=enc) (m:=q) (d:=(l'++Qzv (l.length - l'.length) z).toArray) (os:=#[]) (by rw[<- hv];exact hown) (by have:=hown.1;simp;omega);rw[<- j]at r
    simpa using r
   have h2:=AhO s hle
   rwa [Qxc,List.take_left' Qqd]at h2
  have hdr:w.drawn<=w'.drawn:=by rw[j];exact Nat.le_add_right _ _
  have hgr':w.grownBy w' (BV.row v e 1 l.length xs).block:=by rw[hv];exact hgr
  have hb:∀b,(BV.row (.slice (some ⟨c,0,none⟩) l'.length cap) e 1 l'.length (l'.map enc)).block=some b->(BV.row v e 1 l.length xs).block=some b:=fun b e=>by rw[hv];exact e
  exact h _ w' (hL.LY hi hdr hgr' hok (fun b e=>.inl (hb b e))) (Gj (r':=.row (.slice (some ⟨c,0,none⟩) l'.length cap) e 1 l'.length (l'.map enc)) hL hi hgr' (fun b e=>.inl (hb b e))) _ (fr.put hn)
end
theorem WL{H:PH}{l:Qq5}{xs:Qq6}(h:AK (.int .i64) H l xs):l.map (Value.int .i64)=xs:=by
 induction h with
 | nil=>rfl
 | cons h _ ih=>cases h;rw[QzA,ih];rfl
theorem TM(H:PH):∀l:Qq5,AK (.int .i64) H l (l.map (Value.int .i64))
 | []=>.nil
 | _::l=>.cons (c:=[_]) Z (TM H l)
section
variable {P:Program}{n:Sz}{ops:Array Oper}{Q:Exit->Act->World->Prop}{L:Env}{w w0:World}{O:List BV}{rest:List Oper}{d:Nat}{ty:TypeId}{pos:String}{af:Array Edge}{v:Value}{e:TypeId}{H:PH}{ρr:Go.Shelf.Ren}{f i:Nat}{at_:Array TypeId}{args:List Operand}{xs:Qq6}
def ML(l:Qq5):Qq5:=l.mergeSort fun x y=>decide (x<=y)
theorem VT[Dr]{l:Qq5}(Ls:Lays.n189 P ρr)[hf:Qqq (ρr.f 189) f](hc:Kh P f)(ha:Vc L args=some [v])[hn:Qqq (Qzw d n.n) true](hH:Le H (hp w0))(hL:Bk w0 O w)(hi:Dz O i=some (.row v e 1 l.length xs))(he:AK (.int .i64) (gz H w0 w O) l xs)(hlen:l.length<4611686018427387904)
  (h:∀w' xs',Bk w0 (CE O i (.row v e 1 (ML l).length xs')) w'->Le (fz w O) (fz w' (CE O i (.row v e 1 (ML l).length xs')))->AK (.int .i64) (gz H w0 w' (CE O i (.row v e 1 (ML l).length xs'))) (ML l) xs'->S P n ops Q rest ((d,.tuple #[])::L) w') :
  S P n ops Q (⟨some d,.call ⟨.value (.func f),args.toArray,at_⟩,ty,pos,af,none⟩::rest) L w:=by
 have hf:=hf.e
 have hxs:=WL he;have hll:(ML l).length=l.length:=List.length_mergeSort _;subst hf;refine WK (l':=ML l) (enc:=Value.int .i64) (dd:=(ML l).toArray) (ys:=(ML l).map (Value.int .i64)) hc ha hn.e hL hi Qqd hll (by rw[<- hxs];simp[hll]) (fun a=>?_) (fun hv=>?_) (fun g cap hv hcap=>?_) (fun w' b h2=>h w' _ b h2 (TM _ _))
 ·have:l=[]:=Qxd a;subst this;rw[<- hxs,show ML []=[]from List.mergeSort_nil]
 ·subst hv;exact Any.slices_Sort_int_none Ls none 0 w
 ·have hown:w.ownsRow 0 e 1 v l.length xs:=hL.at hi;rw[hv]at hown;obtain⟨hH',hblk⟩:=Sh (Value.int .i64) l.toArray hown (by simpa using hxs);subst hv;exact Any.slices_Sort_int Ls g 0 cap l w hH' hblk hlen
theorem WM{α:Type}[Inhabited α][DecidableEq α](l:List α):(Lib.compact l).length<=l.length:=by
 unfold Lib.compact Lib.compactUpTo;rw[Qza];exact Qxy (List.length_filter_le _ _) Qqd
theorem VU[Dr]{l:Qq5}(Ls:Lays2.n20 P ρr)[hf:Qqq (ρr.f 20) f](hc:Kh P f)(ha:Vc L args=some [v])[hn:Qqq (Qzw d n.n) true](hH:Le H (hp w0))(hL:Bk w0 O w)(hi:Dz O i=some (.row v e 1 l.length xs))(he:AK (.int .i64) (gz H w0 w O) l xs)(hlen:l.length<=9223372036854775807)
  (h:∀v' w' xs',Bk w0 (CE O i (.row v' e 1 (Lib.compact l).length xs')) w'->Le (fz w O) (fz w' (CE O i (.row v' e 1 (Lib.compact l).length xs')))->AK (.int .i64) (gz H w0 w' (CE O i (.row v' e 1 (Lib.compact l).length xs'))) (Lib.compact l) xs'->S P n ops Q rest ((d,v')::L) w') :
  S P n ops Q (⟨some d,.call ⟨.value (.func f),args.toArray,at_⟩,ty,pos,af,none⟩::rest) L w:=by
 have hf:=hf.e
 have hxs:=WL he;subst hf;refine AdR (l':=Lib.compact l) (enc:=Value.int .i64) (z:=0) hc ha hn.e hL hi (WM l) (fun hv=>?_) (fun g cap hv hcap=>?_) (fun v' w' a h2=>h v' w' _ a h2 (TM _ _))
 ·subst hv;exact Any.slices_Compact_int_empty Ls none 0 w
 ·have hown:w.ownsRow 0 e 1 v l.length xs:=hL.at hi;rw[hv]at hown;obtain⟨hH',hblk⟩:=Sh (Value.int .i64) l.toArray hown (by simpa using hxs);subst hv;exact Any.slices_Compact_int Ls g 0 cap l w hH' hlen hcap
end
end Go.E
end
noncomputable section
namespace Go.L
theorem TN{a b:UInt8}(c : ¬a<b)(h2 : ¬b<a):a=b:=UInt8.toNat.inj (by rw[Qx2]at c h2;omega)
theorem MM:∀l m:Qq4,Lib.compareBytes l m = - Lib.compareBytes m l
 | [],[]=>rfl
 | [],_::_=>rfl
 | _::_,[]=>rfl
 | a::l,b::m=>by
  have ih:=MM l m;unfold Lib.compareBytes
  by_cases c:a<b
  ·have h2 : ¬b<a:=fun h=>by have:=Qx2.1 h;have:=Qx2.1 c;omega
   rw[if_pos c,if_neg h2,if_pos c]
  ·by_cases h2:b<a
   ·rw[if_neg c,if_pos h2,if_pos h2];rfl
   ·rw[if_neg c,if_neg h2,if_neg h2,if_neg c,ih]
theorem TO:∀l m:Qq4,Lib.compareBytes l m=0->l=m
 | [],[],_=>rfl
 | [],_::_,h=>by cases h
 | _::_,[],h=>by cases h
 | a::l,b::m,h=>by
  unfold Lib.compareBytes at h
  split at h
  ·cases h
  ·rename_i c
   split at h
   ·cases h
   ·rename_i h2;have e:a=b:=TN c h2;rw[e,TO l m h]
theorem WN:∀l:Qq4,Lib.compareBytes l l=0
 | []=>rfl
 | a::l=>by
  have h : ¬a<a:=fun h=>by have:=Qx2.1 h;omega
  unfold Lib.compareBytes;rw[if_neg h,if_neg h,WN l]
theorem P9:∀l m k:Qq4,Lib.compareBytes l m<0->Lib.compareBytes m k<0->Lib.compareBytes l k<0
 | [],[],_,h,_=>by simp[Lib.compareBytes]at h
 | [],_::_,[],_,h=>by simp[Lib.compareBytes]at h
 | [],_::_,_::_,_,_=>by simp[Lib.compareBytes]
 | _::_,[],_,h,_=>by simp[Lib.compareBytes]at h
 | _::_,_::_,[],_,h=>by simp[Lib.compareBytes]at h
 | a::l,b::m,c::k,d,h2=>by
  have ih:=P9 l m k;unfold Lib.compareBytes at d h2 ⊢
  by_cases hab:a<b
  ·by_cases hbc:b<c
   ·rw[if_pos (Qx2.2 (by have:=Qx2.1 hab;have:=Qx2.1 hbc;omega))];decide
   ·rw[if_neg hbc]at h2
    by_cases hcb:c<b
    ·rw[if_pos hcb]at h2;omega
    ·have e:b=c:=TN hbc hcb;subst e;rw[if_pos hab];decide
  ·rw[if_neg hab]at d
   by_cases hba:b<a
   ·rw[if_pos hba]at d;omega
   ·rw[if_neg hba]at d;have e:a=b:=TN hab hba;subst e
    by_cases hac:a<c
    ·rw[if_pos hac];decide
    ·rw[if_neg hac]at h2 ⊢
     by_cases hca:c<a
     ·rw[if_pos hca]at h2;omega
     ·rw[if_neg hca]at h2 ⊢;exact ih d h2
structure V9 {α:Type} (c:α->α->Int):Prop where
 swap:∀x y,c x y = - c y x
 zero:∀x y,c x y=0->x=y
 trans:∀x y z,c x y<0->c y z<0->c x z<0
theorem AkC:V9 Go.Lib.compareBytes:=⟨MM,TO,P9⟩
def Aa2(a b:Int):Int:=if a<b then -1 else if b<a then 1 else 0
theorem AkD:V9 Aa2:=by
 constructor
 ·intro x y;unfold Aa2;rcases Int.lt_trichotomy x y with h | h | h
  ·rw[if_pos h,if_neg U,if_pos h]
  ·subst h;rw[if_neg (Int.lt_irrefl _),if_neg (Int.lt_irrefl _)];rfl
  ·rw[if_neg U,if_pos h,if_pos h];rfl
 ·intro x y h;unfold Aa2 at h;split at h;cases h;split at h;cases h;omega
 ·intro x y z a h2;unfold Aa2 at *
  split at a
  ·split at h2
   ·rw[if_pos U];decide
   ·split at h2 <;> omega
  ·split at a <;> omega
def Aa3{α β:Type}(c:α->α->Int)(d:β->β->Int)(x y:α×β):Int:=if c x.1 y.1=0 then d x.2 y.2 else c x.1 y.1
theorem AbN{α β:Type}{c:α->α->Int}{d:β->β->Int}(hc:V9 c)(hd:V9 d):V9 (Aa3 c d):=by
 constructor
 ·intro x y;unfold Aa3;have:=hc.swap x.1 y.1
  by_cases h:c x.1 y.1=0
  ·rw[if_pos h,if_pos U];exact hd.swap _ _
  ·rw[if_neg h,if_neg U];exact this
 ·intro x y h;unfold Aa3 at h
  split at h
  ·rename_i a;exact Prod.ext (hc.zero _ _ a) (hd.zero _ _ h)
  ·rename_i a;exact absurd h a
 ·intro x y z a h2;unfold Aa3 at *
  by_cases e:c x.1 y.1=0
  ·rw[if_pos e]at a;have:=hc.zero _ _ e;rw[this]
   by_cases b:c y.1 z.1=0
   ·rw[if_pos b]at h2 ⊢;exact hd.trans _ _ _ a h2
   ·rw[if_neg b]at h2 ⊢;exact h2
  ·rw[if_neg e]at a
   by_cases b:c y.1 z.1=0
   ·have:=hc.zero _ _ b;rw[<- this,if_neg e];exact a
   ·rw[if_neg b]at h2;have:=hc.trans _ _ _ a h2;rw[if_neg U];exact this
theorem V9.swo{α:Type}{c:α->α->Int}(h:V9 c):Go.Sort.SWO (Go.Proofs.ltOf c):=by
 have hs:=fun x=>h.swap x x
 constructor
 ·intro x;have:=hs x;simp only[Go.Proofs.ltOf,decide_eq_false_iff_not];omega
 ·intro x y z b h2;simp only[Go.Proofs.ltOf,decide_eq_true_eq]at *;exact h.trans _ _ _ b h2
 ·intro x y z b h2;simp only[Go.Proofs.ltOf,decide_eq_false_iff_not]at *;intro h3;have s1:=h.swap x y;have d:=h.swap y z
  rcases Int.lt_trichotomy (c y x) 0 with a | a | a
  ·have:=h.trans _ _ _ a h3;omega
  ·rw[h.zero _ _ a]at h2;omega
  ·omega
theorem V9.parts{α:Type}{c:α->α->Int}(h:V9 c)(x y:α)(a:Go.Proofs.ltOf c x y=false)(h2:Go.Proofs.ltOf c y x=false):x=y:=by
 simp only[Go.Proofs.ltOf,decide_eq_false_iff_not]at a h2;have:=h.swap x y;exact h.zero _ _ U
abbrev Lf:Type:=Qq4×Int×Int×Qq4
def MN:Lf->Lf->Int:=Aa3 Go.Lib.compareBytes (Aa3 Aa2 (Aa3 Aa2 Go.Lib.compareBytes))
theorem OL:V9 MN:=AbN AkC (AbN AkD (AbN AkD AkC))
def LK(l:List Lf):List Lf:=l.mergeSort fun x y=>!(Go.Proofs.ltOf MN) y x
theorem R8(l:List Lf):(LK l).length=l.length:=List.length_mergeSort _
end Go.L
namespace Go.Proofs.YtopocbcekabkoaaGreatDoor
open Go Go.L Go.E
theorem AhP(a b:Int):I5 a b=some (Aa2 a b):=by
 unfold I5 cmp_isNaN_int Aa2;simp only[Qzq,decide_true,Bool.not_true,Bool.false_eq_true,if_false]
 split
 ·rfl
 ·split <;> rfl
theorem AhQ(a b:Qq4):strings_Compare a b=some (Lib.compareBytes a b):=Z
theorem AjO(a b c d:Int):Qd [a,b,c,d]=some (if a=0 then(if b=0 then(if c=0 then d else c)else b)else a):=by
 unfold Qd SF
 have step:∀(i:Nat) (x:Int),[a,b,c,d][i]? = some x->x=0->Fl [a,b,c,d] (i:Int)=some (.inl ((i+1:Nat):Int)):=fun i x hx e=>by
  have hi:i<4:=(Qz6.1 hx).1;unfold Fl;rw[if_pos (by simp;omega),Ac (by simp;omega),if_pos (by rw[Qzk,Qzj,hx];exact e),Ac (by unfold Bq;omega)]
  rfl
 have stop:∀(i:Nat) (x:Int),[a,b,c,d][i]? = some x->x≠0->Go.L.run (Fl [a,b,c,d]) (i:Int)=some x:=fun i x hx e=>by
  have hi:i<4:=(Qz6.1 hx).1;refine AV ?_;unfold Fl;have hg:[a,b,c,d].getD (i:Int).toNat Qq2=x:=by rw[Qzk,Qzj,hx];rfl
  rw[if_pos (by simp;omega),Ac (by simp;omega),hg,if_neg e]
 have last:Go.L.run (Fl [a,b,c,d]) ((4:Nat):Int)=some 0:=by
  refine AV ?_;unfold Fl;rw[if_neg Qqd]
  rfl
 show Go.L.run _ ((0:Nat):Int)=_
 by_cases ha:a=0
 ·rw[if_pos ha,Bh (step 0 a Z ha)]
  by_cases hb:b=0
  ·rw[if_pos hb,Bh (step 1 b Z hb)]
   by_cases hc:c=0
   ·rw[if_pos hc,Bh (step 2 c Z hc)]
    by_cases hd:d=0
    ·rw[Bh (step 3 d Z hd)];rw[hd]at last ⊢;exact last
    ·exact stop 3 d Z hd
   ·rw[if_neg hc];exact stop 2 c Z hc
  ·rw[if_neg hb];exact stop 1 b Z hb
 ·rw[if_neg ha];exact stop 0 a Z ha
theorem AbO(x y:Lf):JZ x y=some (MN x y):=by
 unfold JZ MN Aa3;simp only[AhQ,AhP,AjO,Qzq]
end Go.Proofs.YtopocbcekabkoaaGreatDoor
end
noncomputable section
namespace Go.E
open Go Go.RowKit
theorem Aa4{κ:Type}{enc:κ->Value}:∀(l:List κ) (vs:Qq6) (i:Nat),l.length=vs.length->(mE enc i l vs).map (·.born)=List.range' i l.length
 | [],[],_,_=>rfl
 | a::l,u::vs,i,h=>by
  simp only[mE,QzA,Qzc,List.range'_succ];rw[Aa4 l vs (i+1) (by simpa using h)]
theorem Af8{κ:Type}{enc:κ->Value}{l:List κ}{vs:Qq6}(h:l.length=vs.length){x:MapEntry}(hx:x∈mE enc 0 l vs):∃a,l[x.born]? = some a/\x=⟨enc a,vs.getD x.born Qq2,x.born⟩:=by
 obtain⟨j,hj⟩:=List.getElem?_of_mem hx;have hjl:j<l.length:=by have:=(Qz6.1 hj).1;rwa [U1 l vs 0 h]at this
 have:=U0 (enc:=enc) l vs 0 j l[j] h (Qzy hjl);rw[hj,QzJ]at this;obtain rfl:=Option.some.inj this;exact⟨l[j],Qzy hjl,Z⟩
section
variable {P:Program}{n:Sz}{ops:Array Oper}{Q:Exit->Act->World->Prop}{L:Env}{w w0:World}{O:List BV}{rest:List Oper}{d:Nat}{ty t kt et:TypeId}{pos:String}{af:Array Edge}{x:Operand}{κ:Type}{enc:κ->Value}{keys:List κ}{vs:Qq6}{m N:Nat}
theorem Af9[Dr][hx:Qqq (ev L x) (some (.map (some m)))][ht:Qqq (P.underlying t) (some (.map kt et))](hm:w.heap[m]? = some (.map (mE enc 0 keys vs).toArray N))[hn:Qqq (Qzw d n.n) true](hL:Bk w0 O w)
  (h:∀w' b,Bk w0 (.obj b (.mapIter (some m) N ([]:List Nat).toArray N)::O) w'->Le (fz w O) (fz w' (.obj b (.mapIter (some m) N ([]:List Nat).toArray N)::O))->S P n ops Q rest ((d,.pointer (some ⟨b,0,none⟩))::L) w'):S P n ops Q (⟨some d,.range t x,ty,pos,af,none⟩::rest) L w:=by
 have hb:∀b,(BV.obj w.heap.size (.mapIter (some m) N ([]:List Nat).toArray N)).block=some b->w.heap.size<=b:=fun b e=>by cases e;exact Qzu _
 refine Ei (v:=.pointer (some ⟨w.heap.size,0,none⟩)) (w':=w.alloc (.mapIter (some m) N ([]:List Nat).toArray N)) hn.e (fun ρ hρ=>?_) (h _ _ (hL.new (CW w _) (World.alloc_heap_new w _) hb) (SX hL (CW w _) hb));have:=run_range_map (P:=P) w t kt et m _ N ht.e hm;simp[execOp,hρ x _ hx.e,this]
theorem AhR[Dr](i:Nat){b:Nat}{seen:List Nat}(hx:ev L x=some (.pointer (some ⟨b,0,none⟩)))[hn:Qqq (Qzw d n.n) true](hL:Bk w0 O w)(hi:Dz O i=some (.obj b (.mapIter (some m) N seen.toArray N)))(hm:w.heap[m]? = some (.map (mE enc 0 keys vs).toArray N))(hk:keys.length=vs.length)(hN:keys.length=N)
  (r:∀j a,keys[j]? = some a->j∉seen->∀w',Bk w0 (CE O i (.obj b (.mapIter (some m) N (seen++[j]).toArray N))) w'->Le (fz w O) (fz w' (CE O i (.obj b (.mapIter (some m) N (seen++[j]).toArray N))))->w'.heap[m]? = some (.map (mE enc 0 keys vs).toArray N)->S P n ops Q rest ((d,.tuple #[.bool true,enc a,vs.getD j Qq2])::L) w')
  (h2:(∀j,j<N->j∈seen)->S P n ops Q rest ((d,.tuple #[.bool false])::L) w):S P n ops Q (⟨some d,.next x false,ty,pos,af,none⟩::rest) L w:=by
 have hb:w.heap[b]? = some (.mapIter (some m) N seen.toArray N):=hL.at hi
 have hold:∀x∈(mE enc 0 keys vs).toArray.toList,x.born<N:=fun x hx=>by
  obtain⟨a,ha,_⟩:=Af8 hk (by simpa using hx);have:=(Qz6.1 ha).1;omega
 rcases run_next_at (P:=P) w ty b m N N seen.toArray _ N hb hm hold (Qzu _)with ⟨s,hr⟩ | ⟨e,he,c,k,hr⟩
 ·refine Ei (v:=.tuple #[.bool false]) (w':=w) hn.e (fun ρ hρ=>by simp[execOp,hρ x _ hx,hr]) (h2 fun j hj=>?_);have hjk:j<keys.length:=by omega
  have hg:=U0 (enc:=enc) keys vs 0 j keys[j] hk (Qzy hjk);rw[QzJ]at hg;have hemp:leftOf (mE enc 0 keys vs).toArray seen.toArray = #[]:=Array.eq_empty_of_size_eq_zero s;unfold leftOf at hemp;rw[Array.filter_eq_empty_iff]at hemp;have:=hemp _ (by simpa using List.mem_of_getElem? hg)
  simpa using this
 ·have hmem:e∈mE enc 0 keys vs/\e.born∉seen:=by
   unfold leftOf at he
   simpa using he
  obtain⟨a,ha,hee⟩:=Af8 hk hmem.1
  have f:Ext w c:=by
   rcases k with rfl | rfl
   ·exact Ext.refl _
   ·exact MA
  have l:=hL.call f;have g:=AH hL f;have hput:=l.putAt (.mapIter (some m) N (seen++[e.born]).toArray N) hi;have hne:m≠b:=fun eq=>by rw[eq,hb]at hm;cases hm
  have o:c.heap[m]? = some (.map (mE enc 0 keys vs).toArray N):=by rw[f.block m (EJ hm)];exact hm
  have p:(c.putObj b (.mapIter (some m) N (seen++[e.born]).toArray N)).heap[m]? = some (.map (mE enc 0 keys vs).toArray N):=by rw[World.putObj_heap_other hne];exact o
  have hval:e.key=enc a/\e.val=vs.getD e.born Qq2:=by rw[hee];exact⟨Z,Z⟩
  rw[hval.1,hval.2]at hr
  have q:ChangeMaps.setBlock c b (.mapIter (some m) N (seen.toArray.push e.born) N)=c.putObj b (.mapIter (some m) N (seen++[e.born]).toArray N):=by
   rw[List.push_toArray];rfl
  rw[q]at hr;refine Ei (v:=_) (w':=_) hn.e (fun ρ hρ=>?_) (r e.born a ha hmem.2 _ hput.1 (g.trans hput.2) p);simp[execOp,hρ x _ hx,hr]
theorem AfA{b:Nat}{seen:List Nat}{j:Nat}{a:κ}(hx:ev L x=some (.pointer (some ⟨b,0,none⟩)))[hn:Qqq (Qzw d n.n) true](hb:w.heap[b]? = some (.mapIter (some m) N (seen++[j]).toArray N))(hm:w.heap[m]? = some (.map (mE enc 0 keys vs).toArray N))(hk:keys.length=vs.length)(ha:keys[j]? = some a)
  (h:S P n ops Q rest ((d,.tuple #[enc a,vs.getD j Qq2])::L) w):S P n ops Q (⟨some d,.entry x,ty,pos,af,none⟩::rest) L w:=by
 have hg:=U0 (enc:=enc) keys vs 0 j a hk ha;rw[QzJ]at hg;have hr:=run_entry_at (P:=P) w b m N seen.toArray (mE enc 0 keys vs).toArray N ⟨enc a,vs.getD j Qq2,j⟩ (by rw[hb,List.push_toArray]) hm (by simpa using List.mem_of_getElem? hg) (by rw[List.toList_toArray,Aa4 _ _ _ hk];exact List.nodup_range');refine Ei (v:=_) (w':=w) hn.e (fun ρ hρ=>?_) h;simp[execOp,hρ x _ hx,hr]
end
end Go.E
end
noncomputable section
namespace Go.L
theorem RA{α:Type}{c:α->α->Int}(h:V9 c):∀{l m:List α},l.Perm m->l.Pairwise (fun x y=>(!(Go.Proofs.ltOf c) y x)=true)->m.Pairwise (fun x y=>(!(Go.Proofs.ltOf c) y x)=true)->l=m
 | [],m,hp,_,_=>hp.nil_eq
 | a::l,m,hp,hl,hm=>by
  cases m with
  | nil=>exact absurd hp.symm.nil_eq Qqd
  | cons b m=>
   obtain⟨f,g⟩:=Qxx.1 hl;obtain⟨i,j⟩:=Qxx.1 hm
   have hab:a=b:=by
    by_cases e:a=b
    ·exact e
    ·have ha:a∈m:=by rcases Qze.1 (hp.mem_iff.1 (.head _))with d | d;exact absurd d e;exact d
     have hb:b∈l:=by rcases Qze.1 (hp.mem_iff.2 (.head _))with d | d;exact absurd d.symm e;exact d
     exact h.parts a b (by simpa using i a ha) (by simpa using f b hb)
   subst hab;rw[RA h hp.cons_inv g j]
theorem Ade:∀(N:Nat) (l:List Nat),l.Nodup->(∀j∈l,j<N)->l.length<=N
 | 0,l,_,h=>by
  cases l with
  | nil=>exact Qzu _
  | cons a l=>exact absurd (h a (.head _)) (Nat.not_lt_zero a)
 | N+1,l,hn,h=>by
  have b:=Ade N (l.erase N) (hn.erase N) (fun j hj=>by
   have h2:=(hn.mem_erase_iff).1 hj;have:=h j h2.2;omega)
  by_cases hm:N∈l
  ·rw[List.length_erase_of_mem hm]at b;omega
  ·rw[List.erase_of_not_mem hm]at b;omega
theorem AfB{α:Type}{c:α->α->Int}(h:V9 c){l m:List α}(hp:l.Perm m):(l.mergeSort fun x y=>!(Go.Proofs.ltOf c) y x)=m.mergeSort fun x y=>!(Go.Proofs.ltOf c) y x:=by
 have htr:∀a b c':α,(!(Go.Proofs.ltOf c) b a)=true->(!(Go.Proofs.ltOf c) c' b)=true->(!(Go.Proofs.ltOf c) c' a)=true:=by
  intro a b d f h2;simp only[Go.Proofs.ltOf,Bool.not_eq_true',decide_eq_false_iff_not]at *;intro h3;have s1:=h.swap a b;have g:=h.swap b d
  rcases Int.lt_trichotomy (c a b) 0 with e | e | e
  ·exact h2 (h.trans d a b h3 e)
  ·rw[h.zero a b e]at h3;exact h2 h3
  ·omega
 have hto:∀a b:α,((!(Go.Proofs.ltOf c) b a)||(!(Go.Proofs.ltOf c) a b))=true:=by
  intro a b;have s1:=h.swap a b;simp only[Go.Proofs.ltOf,Bool.or_eq_true,Bool.not_eq_true',decide_eq_false_iff_not];omega
 refine RA h (((QkZ l _).trans hp).trans (QkZ m _).symm) ?_ ?_
 ·exact Qjz htr hto l
 ·exact Qjz htr hto m
end Go.L
namespace Go.Proofs.YtopocbcekabkoaaGreatDoor
open Go Go.E Go.RowKit Go.Shelf Go.L Go.Sort
abbrev QT(x:Lf):Qq6:=[.string ⟨x.1.toArray⟩,.int .i64 x.2.1,.int .i64 x.2.2.1,.string ⟨x.2.2.2.toArray⟩]
abbrev VA:Rp Lf:=.pair .st (.pair (.int .i64) (.pair (.int .i64) .st))
theorem AbP(G:PH)(x:Lf)(c:Qq6):VA.rel G x c↔c=QT x:=by
 constructor
 ·rintro⟨_,_,rfl,rfl,_,_,rfl,rfl,_,_,rfl,rfl,rfl⟩
  rfl
 ·rintro rfl;exact⟨[_],[_,_,_],Z,Z,[_],[_,_],Z,Z,[_],[_],Z,Z,Z⟩
theorem AfC{G:PH}{l:List Lf}{xs:Qq6}(h:AK VA G l xs):l.flatMap QT=xs:=by
 induction h with
 | nil=>rfl
 | cons h _ ih=>rw[QxX,ih,(AbP _ _ _).1 h]
theorem Aa5(G:PH):∀l:List Lf,AK VA G l (l.flatMap QT)
 | []=>.nil
 | x::l=>by rw[QxX];exact .cons ((AbP _ _ _).2 Z) (Aa5 G l)
theorem AfD(l:List Lf):∀t,t<l.length * 4->(l.flatMap QT)[t]? = some ((QT (l.getD (t / 4) Qq2)).toArray[t % 4]!):=by
 induction l with
 | nil=>intro t h;simp at h
 | cons a l ih=>
  intro t h;rw[QxX]
  by_cases b:t<4
  ·rw[List.getElem?_append_left b,Nat.div_eq_of_lt b,Nat.mod_eq_of_lt b];have:t=0\/t=1\/t=2\/t=3:=by omega
   rcases this with rfl | rfl | rfl | rfl <;> rfl
  ·rw[List.getElem?_append_right (by simpa using b)];have:=ih (t - 4) (by simp only[Qzc]at h;omega);rw[show(QT a).length=4 from Z,this];obtain⟨s,rfl⟩:∃s,t=s+4:=⟨t - 4,by omega⟩;rw[Nat.add_sub_cancel,Nat.add_div_right _ Qqc,Nat.add_mod_right]
   rfl
theorem Yq(l:List Lf):(flatK QT 4 l.toArray).toList=l.flatMap QT:=by
 have hlen:(l.flatMap QT).length=l.length * 4:=by
  induction l with
  | nil=>rfl
  | cons a l ih=>rw[QxX,Qzd,ih];show 4+l.length * 4=(l.length+1) * 4;omega
 apply Qky;intro t
 by_cases h:t<l.length * 4
 ·rw[AfD l t h];have hs:t<(flatK QT 4 l.toArray).size:=by simpa using h
  have h2:=get_flatK QT 4 l.toArray t (by simpa using h);rw[getElem!_pos _ t hs]at h2;rw[Array.getElem?_toList,Array.getElem?_eq_getElem hs,h2];have hd:t / 4<l.length:=by omega
  have b:l.toArray[t / 4]! = l.getD (t / 4) Qq2:=by simp[hd]
  rw[b];simp
 ·rw[QxJ (by simpa using h),QxJ U]
theorem AhS{n:Sz}{ops:Array Oper}{Q:Exit->Act->World->Prop}{L:Env}{w b:World}{O:List BV}{rest:List Oper}{d:Nat}{ty:TypeId}{pos:String}{af:Array Edge}{v:Value}{H:PH}{i:Nat}{at_:Array TypeId}{args:List Operand}{xs:Qq6}{l:List Lf}
  (ha:Vc L args=some [v,.func (.func 88) #[] #[]]) (hn:Qzw d n.n=true) (_hH:Le H (hp b)) (hL:Bk b O w) (hi:Dz O i=some (.row v 125 4 l.length xs)) (he:AK VA (gz H b w O) l xs) (hlen:l.length<4611686018427387904)
  (h:∀w' xs',Bk b (CE O i (.row v 125 4 (LK l).length xs')) w'->Le (fz w O) (fz w' (CE O i (.row v 125 4 (LK l).length xs')))->AK VA (gz H b w' (CE O i (.row v 125 4 (LK l).length xs'))) (LK l) xs'->S Tryz.prog n ops Q rest ((d,.tuple #[])::L) w') :
  S Tryz.prog n ops Q (⟨some d,.call ⟨.value (.func 132),args.toArray,at_⟩,ty,pos,af,none⟩::rest) L w:=by
 have hxs:=AfC he;have hll:(LK l).length=l.length:=R8 l
 have hfl:∀l:List Lf,(l.flatMap QT).length=l.length * 4:=fun l=>by
  induction l with
  | nil=>rfl
  | cons a l ih=>rw[QxX,Qzd,ih];show 4+l.length * 4=(l.length+1) * 4;omega
 refine WK (l':=LK l) (enc:=(id:Value->Value)) (dd:=flatK QT 4 (LK l).toArray) (ys:=(LK l).flatMap QT) ⟨Tryz.f132,_,Tryz.func132,Z,Z⟩ ha hn hL hi (by rw[List.map_id];exact Yq _) hll (by rw[<- hxs,hfl,hfl,hll]) (fun c=>?_) (fun hv=>?_) (fun g cap hv hcap=>?_) (fun w' e h2=>h w' _ e h2 (Aa5 _ _))
 ·have:l=[]:=Qxd c;subst this;rw[<- hxs,show LK []=[]from List.mergeSort_nil]
 ·subst hv;exact AnyF.slices_SortFunc_none Tryz.AiL none 0 _ w
 ·have hown:w.ownsRow 0 125 4 v l.length xs:=hL.at hi;rw[hv]at hown;have hhk:HoldsK QT 4 w g 0 l.toArray/\g<w.heap.size:=Sh (id:Value->Value) (flatK QT 4 l.toArray) hown (by rw[List.map_id,Yq];exact hxs);subst hv;refine AnyQ.slices_SortFunc_total Tryz.AiL 4 (fun w=>by kernel_rfl) (fun w=>by kernel_rfl) QT (fun _=>Z) (fun x v hv=>?_) MN OL.swo 88 #[] g 0 cap l.toArray w (enters_of Tryz.func88 Qqb Z) ?_ hhk.1 hhk.2 (by simpa using hlen) OL.parts
  ·simp only[Qze,List.mem_nil_iff,or_false]at hv
   rcases hv with rfl | rfl | rfl | rfl <;> rfl
  ·intro m os dk hs x y;have hk:=@Qe ⟨true⟩ (sortWorldK QT 4 w g 0 m dk os) (hp _) (Le.refl _) x y _ (AbO x y);refine hk.2.mono fun en w' ⟨u,he,hx,hu⟩=>?_;subst he;subst hu;obtain⟨q,os',hw⟩:=@Aa1 ⟨true⟩ _ _ Z hx;exact⟨Z,q,os',hw⟩
noncomputable def Si(l:List (Lf×Qq5)):Option (List Lf):=Go.L.AU (Go.E.Fz 48 l.length) (some (LK (l.map Qzz)))
set_option maxRecDepth 10000 in
section
variable(w:World)(H:PH)(hH:Le H (hp w)) include hH
theorem AbQ{v0:Value}{a0:List (Lf×Qq5)}(h0:XH KU (.vec (.int .i64)) H v0 a0){r:List Lf}(h:Si a0=some r):
  Ok Tryz.prog 87 [v0,.func (.func 88) #[] #[]] w (fun v w'=>Ext w w'/\∃u0,v=u0/\Cd 125 VA H w w' u0 r):=by
 obtain⟨b,h⟩:=Go.L.Gp h;have hcap:∀j,j<=a0.length->Go.E.Fz 48 j:=fun j hj=>⟨Qxy (QkA _ hj) b.1,Qxy hj b.2⟩;clear b;obtain rfl:=Option.some.inj h;obtain⟨m,vs,rfl,hm,hl,_⟩:=h0;have hkl:(a0.map Qzz).length=vs.length:=by rw[Qza];exact hl
 have hkN:(a0.map Qzz).length=a0.length:=Qza _;generalize hK:a0.map Qzz=K at *;generalize hNN:a0.length=N at *;have hNlt:N<4611686018427387904:=by have:=hcap N (Qzu _);unfold Go.E.Fz at this;omega
 refine Cj (n:=21) [(0,.map (some m)),(1,.func (.func 88) #[] #[])] Tryz.func87 Z Z Z Z ?_;have hL:=Bk.start w;refine A7 1 Z<|A7 1 Z ?_;obtain⟨af,ar,ag⟩:=Cp VA H 125 hL;refine Bb (Value×Qq6×List Lf) (fun⟨v,_,_⟩=>[(1,.func (.func 88) #[] #[]),(5,v)]) (fun⟨v,xs,l⟩ wr=>Bk w [.row v 125 4 l.length xs] wr/\AK VA (gz H w wr [.row v 125 4 l.length xs]) l xs/\l.Perm K) ?_ ?_
 ·refine Bo 1 Z<|Af9 (enc:=KU) (keys:=K) (vs:=vs) (N:=N) (hH _ _ hm) af fun w2 g ah t=>Ad<|A2 ?_
  refine Bj (List Nat×Value×Qq6) (fun⟨_,v,_⟩=>[(1,.func (.func 88) #[] #[]),(5,v),(8,.pointer (some ⟨g,0,none⟩))])
   (fun⟨seen,v,xs⟩ wr=>Bk w [.obj g (.mapIter (some m) N seen.toArray N),.row v 125 4 (seen.map fun j=>K.getD j Qq2).length xs] wr/\AK VA (gz H w wr [.obj g (.mapIter (some m) N seen.toArray N),.row v 125 4 (seen.map fun j=>K.getD j Qq2).length xs]) (seen.map fun j=>K.getD j Qq2) xs/\seen.Nodup/\∀j∈seen,j<N)
   (fun⟨seen,_,_⟩=>N - seen.length) ([],.slice none 0 0,[]) Z ⟨ah,ag.mono (Ab t),List.nodup_nil,fun j hj=>by cases hj⟩ ?_
  rintro⟨seen,v,xs⟩ wr ⟨hLr,her,hnd,hlt⟩
  have hseen:seen.length<=N:=by
   exact Ade N seen hnd hlt
  refine Ao<|AhR (enc:=KU) (keys:=K) (vs:=vs) (m:=m) (N:=N) 0 Z hLr Z ((hH.trans hLr.arg) _ _ hm) hkl hkN ?_ ?_
  ·intro j a ha hj w3 p u ai;have hjN:j<N:=by have:=(Qz6.1 ha).1;omega
   refine AA 1 Z<|A6<|DS<|Au<|Aq<|A2<|Ao<|AfA (enc:=KU) Z (p.at (i:=0) Z) ai hkl ha<|As 1 Z<|AO Jl.e Z p fun w4 b4 aj z _=>Ux 0 Z Z Z Jl.e aj Z Z (CB Z (CB Z (CB Z (CB Z Ps)))) fun w5 s aa=>Ad<|An<|As 1 Z<|Ag (AJ 0 Z Jl.e s Z)<|Bx [a] (r:=VA) (fun _=>Af0 _ _ _ _ _) (hlen:=(show 1<=9223372036854775807 by decide)) s (.c4 ((AbP _ _ _).2 Z) .nil) ?_;intro v6 w6 aw ak ab al;have am:=(((her.mono (Ab u)).mono (Ab z)).mono (Ab aa)).mono (Ab ab);refine Bp (r:=VA) 2 (seen.map fun j=>K.getD j Qq2) [a] Z Tryz.underlying170 ak Z am al (hcap _ ?_) ?_
   ·have k:=Ade N (seen++[j]) (List.nodup_append.2 ⟨hnd,QkC _ j,fun x hx y hy=>by rw[QzD]at hy;subst hy;exact fun e=>hj (e ▸ hx)⟩) (fun q hq=>by rcases QzK.1 hq with h2 | h2;exact hlt q h2;rw[QzD]at h2;subst h2;exact hjN)
    simpa using k
   intro v7 w7 d ao au ap;refine As 1 Z<|AE<|Az ?_
   have hmap:(seen++[j]).map (fun j=>K.getD j Qq2)=(seen.map fun j=>K.getD j Qq2)++[a]:=by
    rw[Qxc,List.map_singleton];have:K.getD j Qq2=a:=by rw[Qzj,ha];rfl
    rw[this]
   have o:(seen++[j]).Nodup:=List.nodup_append.2 ⟨hnd,QkC _ j,fun x hx y hy=>by rw[QzD]at hy;subst hy;exact fun e=>hj (e ▸ hx)⟩;have c:=ao.Bl (i:=0) Z;have f:=ap.mono (Ab (AB (i:=0) Z));refine AD (seen++[j],v7,d) Z ?_ (hm:=?_)
   ·show Bk w [.obj g (.mapIter (some m) N (seen++[j]).toArray N),.row v7 125 4 ((seen++[j]).map fun j=>K.getD j Qq2).length d] w7/\AK VA (gz H w w7 [.obj g (.mapIter (some m) N (seen++[j]).toArray N),.row v7 125 4 ((seen++[j]).map fun j=>K.getD j Qq2).length d]) ((seen++[j]).map fun j=>K.getD j Qq2) d/\_
    rw[hmap];refine⟨c,f,o,fun q hq=>?_⟩
    rcases QzK.1 hq with h2 | h2
    ·exact hlt q h2
    ·rw[QzD]at h2;subst h2;exact hjN
   ·show N - (seen++[j]).length<N - seen.length
    have k:=Ade N (seen++[j]) o (fun q hq=>by rcases QzK.1 hq with h2 | h2;exact hlt q h2;rw[QzD]at h2;subst h2;exact hjN);rw[Qzd,Qxv]at k;rw[Qzd,Qxv];omega
  ·intro hall;refine AA 1 Z<|A6<|Co<|Bf<|A5<|A3<|AY ?_
   have hp:(seen.map fun j=>K.getD j Qq2).Perm K:=by
    have k:seen.Perm (Qzb N):=(List.perm_ext_iff_of_nodup hnd List.nodup_range).2 fun q=>⟨fun hq=>QzE.2 (hlt q hq),fun hq=>hall q (QzE.1 hq)⟩;have h2:=k.map (fun j=>K.getD j Qq2)
    have h3:(Qzb N).map (fun j=>K.getD j Qq2)=K:=by
     apply Qky;intro q;rw[List.getElem?_map]
     by_cases hq:q<N
     ·rw[List.getElem?_range hq,Qzy (by omega:q<K.length)];simp[Qzj,Qzy (by omega:q<K.length)]
     ·rw[QxJ (by simpa using hq),QxJ U];rfl
    rwa [h3]at h2
   exact A8 (_,_,_) ⟨hLr.Bl (i:=0) Z,her.mono (Ab (AB (i:=0) Z)),hp⟩
 ·rintro⟨v,xs,l⟩ wr ⟨hLr,her,hp⟩;have hlN:l.length=N:=by rw[hp.length_eq];omega
  refine Bo 2 Z<|AhS (i:=0) Z Z hH hLr Z her U fun w8 ax c av f=>Ad<|A7 2 Z<|Aw<|VN Z Z ?_;have e:LK l=LK K:=AfB OL hp;rw[e]at c f;exact⟨c.ext,_,Z,c.FV hH (i:=0) Z f⟩
end
end Go.Proofs.YtopocbcekabkoaaGreatDoor
end
noncomputable section
namespace Go.Proofs.YtopocbcekabkoaaGreatDoor
open Go Go.E Go.RowKit Go.L
abbrev H8(bm bi b:Nat)(i:Int)(l:List (Lf×Qq5))(vs:Qq6):List BV:=[.box bm [.map (some b)] 122,.box bi [.int .i64 i] 3,QE KU b l vs]
abbrev Jy(l:List (Lf×Qq5))(vs:Qq6):List BV:=mT cwI 3 1 l vs
def JBu(bm bi b:Nat)(i:Int)(l:List (Lf×Qq5))(R:List BV)(_:PH):Prop:=∃vs:Qq6,l.length=vs.length/\R=Qzf (H8 bm bi b i l vs) (Jy l vs)
noncomputable def Mh(i:Int)(l:List (Lf×Qq5))(x:Lf):Option (List (Lf×Qq5)):=Go.L.AU (Go.E.Fz 8 ((BF [] x l).length+1)) (some (Dm x (BF [] x l++[i]) l))
set_option maxRecDepth 10000 in
theorem AdS{f w:World}{H:PH}(hH:Le H (hp f)){O:List BV}{bm bi b:Nat}{i:Int}{l:List (Lf×Qq5)}{vs:Qq6}{x:Lf}(hL:Bk f (Qzf (Qzf (H8 bm bi b i l vs) O) (Jy l vs)) w)(hn:l.length=vs.length){r:List (Lf×Qq5)}(h:Mh i l x=some r):
  Ok Tryz.prog 50 [KU x,.pointer (some ⟨bm,0,none⟩),.pointer (some ⟨bi,0,none⟩)] w (fun u w'=>u=.tuple #[]/\∃vs':Qq6,r.length=vs'.length/\Bk f (Qzf (Qzf (H8 bm bi b i r vs') O) (Jy r vs')) w'/\Le (fz w (Qzf (Qzf (H8 bm bi b i l vs) O) (Jy l vs))) (fz w' (Qzf (Qzf (H8 bm bi b i r vs') O) (Jy r vs')))):=by
 obtain⟨hcap,h⟩:=Go.L.Gp h;obtain rfl:=Option.some.inj h;refine Cj (n:=12) [(0,KU x),(1,.pointer (some ⟨bm,0,none⟩)),(2,.pointer (some ⟨bi,0,none⟩))] Tryz.func50 Z Z Z Z<|Ao<|BM (t:=125) Z Z hL fun w1 g a j _=>Ad<|An<|Ag (Ri 1 Z a Z Z)<|Ag (AJ 0 Z Jl.e a Z)<|Ag (Ri 2 Z a Z Z)<|Bx [i] (r:=.int .i64) (fun _=>FX _ _) (hlen:=(show 1<=9223372036854775807 by decide)) a (.c1 Z .nil) fun v2 w2 af q m s=>AbD (A:=.box g [.string ⟨x.1.toArray⟩,.int .i64 x.2.1,.int .i64 x.2.2.1,.string ⟨x.2.2.2.toArray⟩] 125::Qzf (H8 bm bi b i l vs) O) (l:=l) (vs:=vs) (k:=x) (enc:=KU) 3 Z Af2 Tryz.zeroValue33 q Z hn fun c w3 v y d=>As 1 Z ?_;have aa:=s.mono (Ab d);refine Afg (A:=.box g [.string ⟨x.1.toArray⟩,.int .i64 x.2.1,.int .i64 x.2.2.1,.string ⟨x.2.2.2.toArray⟩] 125::Qzf (H8 bm bi b i (DT x l) c) O) (l:=DT x l) (vs:=c) (k:=x) (z:=i) (r:=.int .i64) (H:=H) AiX Z Tryz.underlying33 Qqc hH y v aa (by rw[WA];exact hcap) ?_;intro v4 w4 T4 e ab o;rw[WA]at e
 refine As 1 Z<|AjB (A:=.box g [.string ⟨x.1.toArray⟩,.int .i64 x.2.1,.int .i64 x.2.2.1,.string ⟨x.2.2.2.toArray⟩] 125::Qzf (H8 bm bi b i (DT x l) c) O) (T:=T4) (k:=x) (l:=l) (vs:=c) 3 e Z ab Z fun ac w5 ad ae p=>AE<|Rk ?_;refine⟨Z,ac,ad,ae.Bl (i:=0) Z,((((j.trans m).trans d).trans o).trans p).trans (AB (i:=0) Z)⟩
theorem Ib(bm bi b:Nat)(i:Int)(l:List (Lf×Qq5))(vs:Qq6)(O:List BV):(Qzf (Qzf (H8 bm bi b i l vs) O) (Jy l vs)).Perm (Qzf O (Qzf (H8 bm bi b i l vs) (Jy l vs))):=by
 rw[<- List.append_assoc O];exact List.perm_append_comm.append_right _
theorem AfE{a:World}{H:PH}(hH:Le H (hp a))(bm bi b:Nat)(i:Int):Cb Tryz.prog a H 50 [.pointer (some ⟨bm,0,none⟩),.pointer (some ⟨bi,0,none⟩)] (JBu bm bi b i) (Mh i):=by
 constructor
 ·exact fun _ h=>h
 ·rintro w O R l l' x hL ⟨vs,hn,rfl⟩ h;have hc:=AdS hH (O:=O) (hL.perm (Ib bm bi b i l vs O)) hn h;refine⟨hc.1,hc.2.mono fun e w' ⟨u,hu,c,vs',h2,h3,d⟩=>⟨u,hu,c,_,h3.perm (Ib bm bi b i l' vs' O).symm,?_,vs',h2,Z⟩⟩;rw[<- JF (Ib bm bi b i l vs O),<- JF (Ib bm bi b i l' vs' O)];exact d
theorem Zi{a w:World}{H:PH}(hH:Le H (hp a)){O:List BV}{bm bi b:Nat}{i:Int}{l:List (Lf×Qq5)}{vs:Qq6}{a0:Pv}{a1:Qq8}{va0_2 va0_3 va0_4 va1:Value}
  (hL:Bk a (Qzf (Qzf (H8 bm bi b i l vs) O) (Jy l vs)) w) (c:AS .byte (gz H a w (Qzf (Qzf (H8 bm bi b i l vs) O) (Jy l vs))) va0_2 a0.f.2.2.1) (d:AS .st (gz H a w (Qzf (Qzf (H8 bm bi b i l vs) O) (Jy l vs))) va0_3 a0.f.2.2.2.1) (g:AS .tree (gz H a w (Qzf (Qzf (H8 bm bi b i l vs) O) (Jy l vs))) va0_4 a0.f.2.2.2.2) (j:AS .st (gz H a w (Qzf (Qzf (H8 bm bi b i l vs) O) (Jy l vs))) va1 a1)
  (hn:l.length=vs.length) {r:List (Lf×Qq5)} (h:M0 (Mh i) a0 a1 l=some r) :
  Ok Tryz.prog 49 [.agg #[.int .i64 a0.f.1,.int .i64 a0.f.2.1,va0_2,va0_3,va0_4],va1,.func (.func 50) #[] #[.pointer (some ⟨bm,0,none⟩),.pointer (some ⟨bi,0,none⟩)]] w (fun u w'=>u=.tuple #[]/\∃vs':Qq6,r.length=vs'.length/\Bk a (Qzf (Qzf (H8 bm bi b i r vs') O) (Jy r vs')) w'/\Le (fz w (Qzf (Qzf (H8 bm bi b i l vs) O) (Jy l vs))) (fz w' (Qzf (Qzf (H8 bm bi b i r vs') O) (Jy r vs')))):=by
 have hz:Le (gz H a w (Qzf (Qzf (H8 bm bi b i l vs) O) (Jy l vs))) (gz H a w (Qzf O (Qzf (H8 bm bi b i l vs) (Jy l vs)))):=Ab (by rw[JF (Ib bm bi b i l vs O)];exact Le.refl _);have hc:=V8 hH (AfE hH bm bi b i) (O:=O) (hL.perm (Ib bm bi b i l vs O).symm) (c.mono hz) (d.mono hz) (g.mono hz) (j.mono hz) (s:=l) ⟨vs,hn,Z⟩ h;refine⟨hc.1,hc.2.mono fun e w' ⟨u,hu,k,R',h2,h3,vs',m,n⟩=>?_⟩;subst n;refine⟨u,hu,k,vs',m,h2.perm (Ib bm bi b i r vs' O),?_⟩;rw[JF (Ib bm bi b i l vs O),JF (Ib bm bi b i r vs' O)];exact h3
end Go.Proofs.YtopocbcekabkoaaGreatDoor
end
noncomputable section
namespace Go.Proofs.YtopocbcekabkoaaGreatDoor
open Go Go.E Go.RowKit Go.L
set_option maxHeartbeats 1000000
set_option maxRecDepth 10000
open _root_.Go.Proofs.Tryz
def Hk(a1:Int):Option Abv:=
 AU (Bq (0 - 0)) (AU (Bq (a1 - (0 - 0))) (if 0<(a1 - (0 - 0))then AU (0<(a1 - (0 - 0))/\(a1 - (0 - 0)) * 1<=281474976710656) (some (([]:Abv)))else some ([])))
def GB(_a0:Abv)(a1:Int):Option Abv:=
 if a1<0 then none else(Hk a1)
section
variable(w:World)(H:PH)(hH:Le H (hp w)) include hH
theorem Pb{a0:Abv}{a1:Int}(_:AS .byte H Aal a0){r:Abv}(h:GB a0 a1=some r):
  Qqv 239 [Aal,No a1] w (fun v w'=>∃x,v=x/\Cd 5 .byte H w w' x r):=by
 refine A4 27 [(0,Aal),(1,No a1)] func239 Z fun hL=>A7 1 Z<|Bb Unit (fun(_:Unit)=>[(0,Aal),(1,No a1)]) (fun(_:Unit) wr=>Bk w [] wr/\(Hk a1)=some r) ?_ ?_
 ·refine A7 2 Z<|AL h ?_ ?_<;>intro y h
  ·refine An ?_
   cases h
  refine Au<|A8 () ⟨hL,h⟩
 rintro _ ac ⟨d,h⟩;refine A6<|Bo 2 Z<|Ag (AcI Z)<|As 1 Z<|Ag (Wm Z)<|Ax h fun g h=>Ag (Ay g)<|Ax h fun j h=>Ag (Ay j)<|AA 1 Z<|A7 2 Z<|AL h ?_ ?_<;>intro l h
 ·refine An<|As 2 Z<|Ag (AcI Z)<|Ag Wx<|As 1 Z<|Ax h fun ab h=>?_;obtain⟨z,o⟩:=Int.eq_ofNat_of_zero_le (show 0<=(a1 - (0 - 0)) by omega);refine AcJ (k:=.i64) (m:=z) (by rw[<- o];rfl) Ae1 U U U fun f a c ad p q s t u=>As 1 Z<|Ag (Wm Z)<|Ag (AeR Z) ?_;obtain⟨b,aa⟩:=N3 (v:=.slice (some ⟨f,0,none⟩) 0 a) (e:=5) (sz:=1) (m:=0) (xs:=[]) d p ⟨Z,.inr ⟨f,a,c,Z,q,s,Nat.zero_le _,t,by rw[u,Qz9],Z⟩⟩;refine As 1 Z<|AE<|Aq<|A7 2 Z<|Aw ?_
  cases h
  refine Ah Z ⟨b.ext,_,Z,(b.FV hH (i:=0) Z .nil)⟩
 refine Au<|Aq<|A7 2 Z<|Aw ?_
 cases h
 refine Ah Z ⟨d.ext,_,Z,Cd.nil⟩
def Gz(a:Abv):Option Abv:=
 some a
def Ej(a0:List Abv):Abv×Int->Option ((Abv×Int)⊕(Abv)):=fun⟨b,a⟩=>
 if a<(a0.length:Int)then AU (0<=a/\a<(a0.length:Int)) (AU (Go.E.Fz 1 (b.length+(a0.getD a.toNat Qq2).length)) (AU (Bq (a+1)) (some (Sum.inl ((b++a0.getD a.toNat Qq2),(a+1))))))else Qzx Sum.inr (Gz b)
def Jz(a0:List Abv)(s:Abv×Int):Option Abv:=Go.L.run (Ej a0) s
def E0(a0:List Abv)(a:Int):Option Abv:=
 Qq9 (GB ([]) a) (fun b=>(Jz a0) (b,0))
def Ek(a0:List Abv):Int×Int->Option (Qq7⊕(Abv)):=fun⟨b,a⟩=>
 if a<(a0.length:Int)then AU (0<=a/\a<(a0.length:Int)) (AU (Bq (b+((a0.getD a.toNat Qq2).length:Int))) (if(b+((a0.getD a.toNat Qq2).length:Int))<0 then none else AU (Bq (a+1)) (some (Sum.inl ((b+((a0.getD a.toNat Qq2).length:Int)),(a+1))))))else Qzx Sum.inr ((E0 a0) b)
def J0(a0:List Abv)(s:Int×Int):Option Abv:=Go.L.run (Ek a0) s
def F6(a0:List Abv):Option Abv:=
 (J0 a0) (0,0)
theorem Dh{a0:List Abv}{e:Value}(o:AS (.vec .byte) H e a0){r:Abv}(h:F6 a0=some r):
  Qqv 184 [e] w (fun v w'=>∃u0,v=u0/\Cd 5 .byte H w w' u0 r):=by
 refine A4 36 [(0,e)] func184 Z fun hL=>A7 1 Z<|A7 1 Z<|Bb Int (fun j=>[(0,e),(3,No j)]) (fun j wr=>Bk w [] wr/\(E0 a0) j=some r) ?_ ?_
 ·refine Bo 1 Z<|Ag (AZ o)<|AA 1 Z<|A2 ?_;obtain⟨y,h⟩:=AR h;refine Bj (Int×Int×Nat) (fun⟨c,b,n⟩=>[(0,e),(3,No c),(9,e),(10,No (a0.length:Int)),(11,No b)]) (fun⟨c,b,n⟩ wr=>Bk w [] wr/\DR (Ek a0) n (c,b)=some r) (fun⟨c,b,n⟩=>n) (0,0,y) Z ⟨hL,h⟩ ?_;rintro⟨c,b,nn42⟩ a7 ⟨s,h⟩;obtain⟨y,bb,rfl,h,z⟩:=AQ h;refine A7 1 Z<|A6<|AL h ?_ ?_<;>intro al h
  ·refine Au<|Aq<|A6<|A2<|Ao<|Ax h fun aa h=>AW o b.toNat (Cx aa) (AM aa) ?_;rintro bc _ ⟨e46v0,rfl,e46h0⟩ am;refine Ag (AT am (hH.trans s.arg))<|AA 1 Z<|Bo 2 Z<|Ag (AZ e46h0)<|Ax h fun an h=>Ag (Ay an)<|AA 1 Z<|A7 2 Z<|AL h ?_ ?_<;>intro ao h
   ·refine An ?_
    cases h
   refine Au<|Az<|Aq<|An<|Ax h fun ap h=>Ag (Ay ap)<|As 1 Z<|AE ?_;have h:=Bw.again h z;refine AD (_,_,_) Z ⟨s,h⟩
  refine Bf<|A5<|A3 ?_;have h:=Bw.out h z;refine AY<|A8 _ ⟨s,h⟩
 rintro j a8 ⟨t,h⟩;refine Bo 1 Z<|A1 h fun a4 aq h=>Br t (Pb _ _ (Av t) (AS.nil _ _) aq) ?_;rintro ah bd ⟨_,rfl,ab⟩ ar ac ai;obtain⟨au,ac,ai,av⟩:=ab.take hH t ar;refine AA 1 Z<|Bb (Abv×Value×Qq6) (fun⟨q,p,k⟩=>[(6,p)]) (fun⟨q,p,k⟩ wr=>C5 w [.row p 5 1 (q).length k] wr fun Oz=>AK .byte (gz H w wr Oz) q k/\Gz q=some r) ?_ ?_
 ·refine Bo 1 Z<|Ag (AZ o)<|AA 1 Z<|A2 ?_;obtain⟨ad,h⟩:=AR h;refine Bj (Abv×Int×Value×Qq6×Nat) (fun⟨f,a,g,d,n⟩=>[(6,g),(25,e),(26,No (a0.length:Int)),(27,No a)]) (fun⟨f,a,g,d,n⟩ wr=>C5 w [.row g 5 1 (f).length d] wr fun Oz=>AK .byte (gz H w wr Oz) f d/\DR (Ej a0) n (f,a)=some r) (fun⟨f,a,g,d,n⟩=>n) (a4,0,ah,au,ad) Z ⟨ac,av,h⟩ ?_;rintro⟨f,a,g,d,nn92⟩ a9 ⟨u,x,h⟩;obtain⟨ad,be,rfl,h,ae⟩:=AQ h;refine A7 1 Z<|A6<|AL h ?_ ?_<;>intro aw h
  ·refine Au<|Aq<|A6<|A2<|Ao<|Ax h fun af h=>AW o a.toNat (Cx af) (AM af) ?_;rintro bf _ ⟨e96v0,rfl,e96h0⟩ ax;refine Ag (AT ax (hH.trans u.arg))<|AA 1 Z<|An<|As 2 Z<|Ax h fun ay h=>Bp (r:=.byte) 0 f (a0.getD a.toNat Qq2) Z Ae1 u Z x (e96h0.mono  Aj) ay fun a5 bg az a1 a6 a2=>As 1 Z<|AE<|Az<|Aq<|An<|Ax h fun aj h=>Ag (Ay aj)<|As 1 Z<|AE ?_;have h:=Bw.again h ae;refine AD (_,_,_,_,_) Z ⟨a1,a2,h⟩
  refine Bf<|A5<|A3 ?_;have h:=Bw.out h ae;refine AY<|A8 (_,_,_) ⟨u,x,h⟩
 rintro⟨q,p,k⟩ ba ⟨ag,ak,h⟩;refine A7 2 Z<|Aw ?_
 cases h
 refine Ah Z ⟨ag.ext,_,Z,(ag.FV hH (i:=0) Z ak)⟩
def Mj(a:Abv):Option Abv:=
 some a
def Ja(a0:Qq5):Abv×Int->Option ((Abv×Int)⊕(Abv)):=fun⟨b,a⟩=>
 if a<(a0.length:Int)then AU (0<=a/\a<(a0.length:Int)) (Qq9 (Df (a0.getD a.toNat Qq2)) (fun c=>AU (Go.E.Fz 1 (b.length+c.length)) (AU (Bq (a+1)) (some (Sum.inl ((b++c),(a+1)))))))else Qzx Sum.inr (Mj b)
def PA(a0:Qq5)(s:Abv×Int):Option Abv:=Go.L.run (Ja a0) s
def M1(a0:Qq5):Option Abv:=
 Qq9 (Df (a0.length:Int)) (fun a=>(PA a0) (a,0))
theorem H9{a0:Qq5}{j:Value}(p:AS (.int .i64) H j a0){r:Abv}(h:M1 a0=some r):
  Qqv 185 [j,.func (.func 120) #[] #[]] w (fun v w'=>∃u0,v=u0/\Cd 5 .byte H w w' u0 r):=by
 refine A4 24 [(0,j),(1,.func (.func 120) #[] #[])] func185 Z fun hL=>A7 1 Z<|Bo 1 Z<|Ag (AZ p)<|A1 h fun x1 ar h=>Br hL (BT _ _ (Av hL) ar) ?_;rintro ae w2 ⟨_,rfl,z⟩ au ac af;obtain⟨av,ac,af,aw⟩:=z.take hH hL au;refine AA 1 Z<|Bb (Abv×Value×Qq6) (fun⟨o,k,e⟩=>[(5,k)]) (fun⟨o,k,e⟩ wr=>C5 w [.row k 5 1 (o).length e] wr fun Oz=>AK .byte (gz H w wr Oz) o e/\Mj o=some r) ?_ ?_
 ·refine Bo 1 Z<|Ag (AZ p)<|AA 1 Z<|A2 ?_;obtain⟨q,h⟩:=AR h;refine Bj (Abv×Int×Value×Qq6×Nat) (fun⟨c,a,d,b,n⟩=>[(1,.func (.func 120) #[] #[]),(5,d),(11,j),(12,No (a0.length:Int)),(13,No a)]) (fun⟨c,a,d,b,n⟩ wr=>C5 w [.row d 5 1 (c).length b] wr fun Oz=>AK .byte (gz H w wr Oz) c b/\DR (Ja a0) n (c,a)=some r) (fun⟨c,a,d,b,n⟩=>n) (x1,0,ae,av,q) Z ⟨ac,aw,h⟩ ?_;rintro⟨c,a,d,b,nn44⟩ a2 ⟨g,f,h⟩;obtain⟨q,a4,rfl,h,s⟩:=AQ h;refine A7 1 Z<|A6<|AL h ?_ ?_<;>intro ag h
  ·refine Au<|Aq<|A6<|A2<|Ao<|Ax h fun t h=>AW p a.toNat (Cx t) (AM t) ?_;rintro a5 _ rfl ah;refine Ag (AT ah (hH.trans g.arg))<|AA 1 Z<|An<|As 3 Z<|A1 h fun ad ai h=>P1 g (BT _ _ (Av g) ai) ?_;rintro ay a6 ⟨_,rfl,u⟩ aj ak aa;have x:=u.Cu hH g aj;refine Ax h fun al h=>?_;have f:=f.mono (Ab aa);refine Bp (r:=.byte) 0 c ad Z Ae1 ak Z f x al fun ax a7 am an az ao=>As 1 Z<|AE<|Az<|Aq<|An<|Ax h fun ap h=>Ag (Ay ap)<|As 1 Z<|AE ?_;have h:=Bw.again h s;refine AD (_,_,_,_,_) Z ⟨an,ao,h⟩
  refine Bf<|A5<|A3 ?_;have h:=Bw.out h s;refine AY<|A8 (_,_,_) ⟨g,f,h⟩
 rintro⟨o,k,e⟩ a3 ⟨y,ab,h⟩;refine A7 2 Z<|Aw ?_
 cases h
 refine Ah Z ⟨y.ext,_,Z,(y.FV hH (i:=0) Z ab)⟩
end
end Go.Proofs.YtopocbcekabkoaaGreatDoor
end
noncomputable section
namespace Go
abbrev Al9:=Go.E.Rp.pair (Go.E.Rp.pair Go.E.Rp.st (Go.E.Rp.pair (Go.E.Rp.int .i64) (Go.E.Rp.pair (Go.E.Rp.int .i64) Go.E.Rp.st))) (Go.E.Rp.vec (Go.E.Rp.int .i64))
end Go
namespace Go
abbrev Alz:=List (Alu×Qq5)
end Go
namespace Go.Proofs.YtopocbcekabkoaaGreatDoor
open Go Go.E Go.RowKit Go.L
set_option maxHeartbeats 1000000
set_option maxRecDepth 10000
open _root_.Go.Proofs.Tryz
def RC(a:Abv):Option Abv:=
 some a
def MO(a0:Alu×Qq5):Option Abv:=
 AU (a0.1.1.length<=9223372036854775807) (Qq9 (HW a0.1.1) (fun a=>Qq9 (Df a0.1.2.1) (fun b=>Qq9 (Df a0.1.2.2.1) (fun c=>AU (a0.1.2.2.2.length<=9223372036854775807) (Qq9 (HW a0.1.2.2.2) (fun d=>Qq9 (M1 a0.2) (fun e=>Qq9 (F6 ([a,b,c,d,e])) (fun f=>RC f))))))))
section
variable(w:World)(H:PH)(hH:Le H (hp w)) include hH
theorem WO{a0:Alu×Qq5}{cx:Value}(b7:AS (.int .i64) H cx (a0.2)){r:Abv}(h:MO a0=some r):
  Qqv 138 [.agg #[Abu a0.1.1,No a0.1.2.1,No a0.1.2.2.1,Abu a0.1.2.2.2,cx]] w (fun v w'=>∃u0,v=u0/\Cd 5 .byte H w w' u0 r):=by
 refine A4 26 [(0,.agg #[Abu a0.1.1,No a0.1.2.1,No a0.1.2.2.1,Abu a0.1.2.2.2,cx])] func138 Z fun hL=>Ao<|BM (t:=177) Z Z hL fun w1 b1 iw j4 _=>AA 1 Z<|Bb (Abv×Value×Qq6) (fun⟨b8,a9,an⟩=>[(2,a9)]) (fun⟨b8,a9,an⟩ wr=>C5 w [.row a9 5 1 (b8).length an,.box b1 [Abu a0.1.1,No a0.1.2.1,No a0.1.2.2.1,Abu a0.1.2.2.2,cx] 177] wr fun Oz=>AK .byte (gz H w wr Oz) b8 an/\RC b8=some r) ?_ ?_
 ·refine LX (Qqz 0 3 (Qqz 5 3 (Qqz 9 3 (Qqz 13 3 (.q 18 (.q 19 (.h2 3 (.h2 4 (.h2 8 (.h2 12 (.h 16 (.h 17 (.h 20 (.h 21 (.h 22 (.q 23 (.tail 24))))))) 16 (.h 12 (.h 17 (.h 20 (.h 21 (.h 22 (.q 23 (.tail 24)))))))) 16 (.h 8 (.h 12 (.h 17 (.h 20 (.h 21 (.h 22 (.q 23 (.tail 24))))))))) 16 (.h 4 (.h 8 (.h 12 (.h 17 (.h 20 (.h 21 (.h 22 (.q 23 (.tail 24)))))))))) 16 (.h 3 (.h 4 (.h 8 (.h 12 (.h 17 (.h 20 (.h 21 (.h 22 (.q 23 (.tail 24))))))))))))))))) mixed Qqb (fun j5 ha=>?_);have j:=iw.call ha;refine B2 Z (Ae Z AiB Z Jl.e) Z<|B2 Z (Ae Z Ads Z Dl.e) Z<|B2 Z (Af 0 Z j Z) Z<|B2 Z (Ae Z AiB Z Jl.e) Z<|B2 Z (Ae Z Ads Z BB.e) Z<|B2 Z (Af 0 Z j Z) Z<|B2 Z (Ae Z AiB Z Jl.e) Z<|B2 Z (Ae Z Ads Z BB.e) Z<|B2 Z (Af 0 Z j Z) Z<|B2 Z (Ae Z AiB Z Jl.e) Z<|B2 Z (Ae Z Ads Z Dl.e) Z<|B2 Z (Af 0 Z j Z) Z<|B2 Z (Ae Z AiB Z V2.e) Z<|B2 Z (Af 0 Z j Z) Z<|V1 ?_ ?_
  ·refine Ax h fun cy h=>W8 (H:=H) Z Z Aev Ae1 Ae4 Z j cy fun j6 j7 jq ba ix bb=>V1 ?_ ?_
   ·refine A1 h fun am ao h=>BC Z Z Z (fun h0 bc=>Ep _ _ (Av (ba.call bc)) (bb.mono (Ab (AH ba bc))) ao) ?_;rintro h0 iy j8 bc fn ⟨_,rfl,fv⟩;have fo:=ba.call bc;have bd:=fo.call fn;have a:=fv.Cu hH fo fn;refine V1 ?_ ?_
    ·refine A1 h fun u k h=>BC Z Z Z (fun h1 be=>BT _ _ (Av (bd.call be)) k) ?_;rintro h1 iz j9 be cz ⟨_,rfl,fw⟩;have c0:=bd.call be;have fc:=AH bd be;have bf:=c0.call cz;have fd:=AH c0 cz;have b:=fw.Cu hH c0 cz;refine V1 ?_ ?_
     ·refine A1 h fun m c h=>BC Z Z Z (fun h3 bg=>BT _ _ (Av (bf.call bg)) c) ?_;rintro h3 i0 ka bg c2 ⟨_,rfl,fx⟩;have c3:=bf.call bg;have fe:=AH bf bg;have hb:=c3.call c2;have ff:=AH c3 c2;have x:=fx.Cu hH c3 c2;refine Ax h fun d h=>W8 (H:=H) Z Z Aev Ae1 Ae4 Z hb d fun kb kc jr bh b9 hc=>A1 h fun o e h=>BC Z Z Z (fun h4 ap=>Ep _ _ (Av (bh.call ap)) (hc.mono (Ab (AH bh ap))) e) ?_;rintro h4 i1 kd ap c4 ⟨_,rfl,fy⟩;have c5:=bh.call ap;have ca:=AH bh ap;have c6:=c5.call c4;have cb:=AH c5 c4;have y:=fy.Cu hH c5 c4;refine A1 h fun p f h=>BC Z Z Z (fun h5 bi=>H9 _ _ (Av (c6.call bi)) (b7.mono  Aj) f) ?_;rintro h5 i2 ke bi c7 ⟨_,rfl,fz⟩;have c8:=c6.call bi;have aq:=AH c6 bi;have hd:=c8.call c7;have ar:=AH c8 c7;have cs:=fz.Cu hH c8 c7
      have a:=a.mono (Ab (fc.trans (fd.trans (fe.trans (ff.trans (b9.trans (ca.trans (cb.trans (aq.trans ar)))))))));have b:=b.mono (Ab (fe.trans (ff.trans (b9.trans (ca.trans (cb.trans (aq.trans ar)))))));have x:=x.mono (Ab (b9.trans (ca.trans (cb.trans (aq.trans ar)))));have y:=y.mono (Ab (aq.trans ar));refine Rm [am,u,m,o,p] (r:=(.vec .byte)) Z Z (fun _=>TB _ a.one _ b.one _ x.one _ y.one _ cs.one _) Z (B4 5) hH hd (.c1 ⟨_,Z,a⟩ (.c1 ⟨_,Z,b⟩ (.c1 ⟨_,Z,x⟩ (.c1 ⟨_,Z,y⟩ (.c1 ⟨_,Z,cs⟩ .nil))))) fun kf kg js c9 i3 he=>A1 h fun s g h=>BC Z Z Z (fun h6 bj=>Dh _ _ (Av (c9.call bj)) (he.mono (Ab (AH c9 bj))) g) ?_;rintro h6 gm kh bj da ⟨_,rfl,f0⟩;have db:=c9.call bj;have dc:=db.call da;have gn:=AH db da;obtain⟨hf,dc,gn,dd⟩:=f0.take hH db da;refine B9 1 Z<|Bt (fun ki fp=>?_);have hg:=dc.call fp;have go:=AH dc fp;refine AE ?_;have dd:=dd.mono (Ab go)
      refine A8 (_,_,_) ⟨hg,dd,h⟩
     refine A1 h fun m c h=>Ax h fun d h=>A1 h fun o e h=>A1 h fun p f h=>A1 h fun s g h=>W8 (H:=H) Z Z Aev Ae1 Ae4 Z bf d fun kj kk jt de fg df=>BC Z Z Z (fun h7 bk=>BT _ _ (Av (de.call bk)) c) ?_;rintro h7 i4 kl bk dg ⟨_,rfl,f1⟩;have dh:=de.call bk;have cc:=AH de bk;have bl:=dh.call dg;have cd:=AH dh dg;have z:=f1.Cu hH dh dg;have df:=df.mono (Ab (cc.trans cd));refine BC Z Z Z (fun h8 au=>Ep _ _ (Av (bl.call au)) (df.mono (Ab (AH bl au))) e) ?_;rintro h8 i5 km au di ⟨_,rfl,f2⟩;have dj:=bl.call au;have ce:=AH bl au;have dk:=dj.call di;have cf:=AH dj di;have aa:=f2.Cu hH dj di;refine BC Z Z Z (fun h9 bm=>H9 _ _ (Av (dk.call bm)) (b7.mono  Aj) f) ?_;rintro h9 i6 kn bm dl ⟨_,rfl,f3⟩;have dm:=dk.call bm;have av:=AH dk bm;have hh:=dm.call dl;have aw:=AH dm dl;have ct:=f3.Cu hH dm dl
     have a:=a.mono (Ab (fc.trans (fd.trans (fg.trans (cc.trans (cd.trans (ce.trans (cf.trans (av.trans aw)))))))));have b:=b.mono (Ab (fg.trans (cc.trans (cd.trans (ce.trans (cf.trans (av.trans aw)))))));have z:=z.mono (Ab (ce.trans (cf.trans (av.trans aw))));have aa:=aa.mono (Ab (av.trans aw));refine Rm [am,u,m,o,p] (r:=(.vec .byte)) Z Z (fun _=>TB _ a.one _ b.one _ z.one _ aa.one _ ct.one _) Z (B4 5) hH hh (.c1 ⟨_,Z,a⟩ (.c1 ⟨_,Z,b⟩ (.c1 ⟨_,Z,z⟩ (.c1 ⟨_,Z,aa⟩ (.c1 ⟨_,Z,ct⟩ .nil))))) fun ko kp ju dn i7 hi=>BC Z Z Z (fun ia bn=>Dh _ _ (Av (dn.call bn)) (hi.mono (Ab (AH dn bn))) g) ?_;rintro ia gp kq bn dp ⟨_,rfl,f4⟩;have dq:=dn.call bn;have dr:=dq.call dp;have gq:=AH dq dp;obtain⟨hj,dr,gq,ds⟩:=f4.take hH dq dp;refine B9 1 Z<|Bt (fun kr fq=>?_);have hk:=dr.call fq;have gr:=AH dr fq;refine AE ?_;have ds:=ds.mono (Ab gr);refine A8 (_,_,_) ⟨hk,ds,h⟩
    refine A1 h fun u k h=>A1 h fun m c h=>Ax h fun d h=>A1 h fun o e h=>A1 h fun p f h=>A1 h fun s g h=>W8 (H:=H) Z Z Aev Ae1 Ae4 Z bd d fun ks kt jv dt gs du=>BC Z Z Z (fun ib bo=>BT _ _ (Av (dt.call bo)) k) ?_;rintro ib i8 ku bo dv ⟨_,rfl,f5⟩;have dw:=dt.call bo;have fh:=AH dt bo;have dx:=dw.call dv;have fi:=AH dw dv;have ab:=f5.Cu hH dw dv;refine BC Z Z Z (fun ic bp=>BT _ _ (Av (dx.call bp)) c) ?_;rintro ic i9 kv bp dy ⟨_,rfl,f6⟩;have dz:=dx.call bp;have cg:=AH dx bp;have bq:=dz.call dy;have ch:=AH dz dy;have ac:=f6.Cu hH dz dy;have du:=du.mono (Ab (fh.trans (fi.trans (cg.trans ch))));refine BC Z Z Z (fun ie ax=>Ep _ _ (Av (bq.call ax)) (du.mono (Ab (AH bq ax))) e) ?_;rintro ie ja kw ax d0 ⟨_,rfl,f7⟩;have d1:=bq.call ax;have ci:=AH bq ax;have d2:=d1.call d0;have cj:=AH d1 d0
    have ad:=f7.Cu hH d1 d0;refine BC Z Z Z (fun ig br=>H9 _ _ (Av (d2.call br)) (b7.mono  Aj) f) ?_;rintro ig jb kx br d3 ⟨_,rfl,f8⟩;have d4:=d2.call br;have ay:=AH d2 br;have hl:=d4.call d3;have az:=AH d4 d3;have cu:=f8.Cu hH d4 d3;have a:=a.mono (Ab (gs.trans (fh.trans (fi.trans (cg.trans (ch.trans (ci.trans (cj.trans (ay.trans az)))))))));have ab:=ab.mono (Ab (cg.trans (ch.trans (ci.trans (cj.trans (ay.trans az))))));have ac:=ac.mono (Ab (ci.trans (cj.trans (ay.trans az))));have ad:=ad.mono (Ab (ay.trans az));refine Rm [am,u,m,o,p] (r:=(.vec .byte)) Z Z (fun _=>TB _ a.one _ ab.one _ ac.one _ ad.one _ cu.one _) Z (B4 5) hH hl (.c1 ⟨_,Z,a⟩ (.c1 ⟨_,Z,ab⟩ (.c1 ⟨_,Z,ac⟩ (.c1 ⟨_,Z,ad⟩ (.c1 ⟨_,Z,cu⟩ .nil))))) fun ky kz jw d5 jc hm=>BC Z Z Z (fun ih bs=>Dh _ _ (Av (d5.call bs)) (hm.mono (Ab (AH d5 bs))) g) ?_;rintro ih gt k0 bs d6 ⟨_,rfl,f9⟩;have d7:=d5.call bs
    have d8:=d7.call d6;have gu:=AH d7 d6;obtain⟨hn,d8,gu,d9⟩:=f9.take hH d7 d6;refine B9 1 Z<|Bt (fun k1 fr=>?_);have ho:=d8.call fr;have gv:=AH d8 fr;refine AE ?_;have d9:=d9.mono (Ab gv);refine A8 (_,_,_) ⟨ho,d9,h⟩
   refine A1 h fun am ao h=>A1 h fun u k h=>A1 h fun m c h=>Ax h fun d h=>A1 h fun o e h=>A1 h fun p f h=>A1 h fun s g h=>W8 (H:=H) Z Z Aev Ae1 Ae4 Z ba d ?_;intro k2 k3 jx bt gw ea;have bb:=bb.mono (Ab gw);refine BC Z Z Z (fun ii a1=>Ep _ _ (Av (bt.call a1)) (bb.mono (Ab (AH bt a1))) ao) ?_;rintro ii jd k4 a1 eb ⟨_,rfl,ga⟩;have ec:=bt.call a1;have gx:=AH bt a1;have ed:=ec.call eb;have gy:=AH ec eb;have ae:=ga.Cu hH ec eb;refine BC Z Z Z (fun ij bu=>BT _ _ (Av (ed.call bu)) k) ?_;rintro ij je k5 bu ee ⟨_,rfl,gb⟩;have ef:=ed.call bu;have fj:=AH ed bu;have eg:=ef.call ee;have fk:=AH ef ee;have af:=gb.Cu hH ef ee;refine BC Z Z Z (fun ik bv=>BT _ _ (Av (eg.call bv)) c) ?_;rintro ik jf k6 bv eh ⟨_,rfl,gc⟩;have ei:=eg.call bv;have ck:=AH eg bv;have bw:=ei.call eh;have cl:=AH ei eh
   have ag:=gc.Cu hH ei eh;have ea:=ea.mono (Ab (gx.trans (gy.trans (fj.trans (fk.trans (ck.trans cl))))));refine BC Z Z Z (fun il a2=>Ep _ _ (Av (bw.call a2)) (ea.mono (Ab (AH bw a2))) e) ?_;rintro il jg k7 a2 ej ⟨_,rfl,gd⟩;have ek:=bw.call a2;have cm:=AH bw a2;have el:=ek.call ej;have cn:=AH ek ej;have ah:=gd.Cu hH ek ej;refine BC Z Z Z (fun im bx=>H9 _ _ (Av (el.call bx)) (b7.mono  Aj) f) ?_;rintro im jh k8 bx em ⟨_,rfl,ge⟩;have en:=el.call bx;have a3:=AH el bx;have hq:=en.call em;have a4:=AH en em;have cv:=ge.Cu hH en em;have ae:=ae.mono (Ab (fj.trans (fk.trans (ck.trans (cl.trans (cm.trans (cn.trans (a3.trans a4))))))));have af:=af.mono (Ab (ck.trans (cl.trans (cm.trans (cn.trans (a3.trans a4))))));have ag:=ag.mono (Ab (cm.trans (cn.trans (a3.trans a4))));have ah:=ah.mono (Ab (a3.trans a4))
   refine Rm [am,u,m,o,p] (r:=(.vec .byte)) Z Z (fun _=>TB _ ae.one _ af.one _ ag.one _ ah.one _ cv.one _) Z (B4 5) hH hq (.c1 ⟨_,Z,ae⟩ (.c1 ⟨_,Z,af⟩ (.c1 ⟨_,Z,ag⟩ (.c1 ⟨_,Z,ah⟩ (.c1 ⟨_,Z,cv⟩ .nil))))) fun k9 la jy eo ji hr=>BC Z Z Z (fun io bz=>Dh _ _ (Av (eo.call bz)) (hr.mono (Ab (AH eo bz))) g) ?_;rintro io g0 lb bz ep ⟨_,rfl,gf⟩;have eq:=eo.call bz;have er:=eq.call ep;have g1:=AH eq ep;obtain⟨hs,er,g1,es⟩:=gf.take hH eq ep;refine B9 1 Z<|Bt (fun lc fs=>?_);have ht:=er.call fs;have g2:=AH er fs;refine AE ?_;have es:=es.mono (Ab g2);refine A8 (_,_,_) ⟨ht,es,h⟩
  refine Ax h fun cy h=>A1 h fun am ao h=>A1 h fun u k h=>A1 h fun m c h=>Ax h fun d h=>A1 h fun o e h=>A1 h fun p f h=>A1 h fun s g h=>W8 (H:=H) Z Z Aev Ae1 Ae4 Z j d fun ld le jz hu jj et=>W8 (H:=H) Z Z Aev Ae1 Ae4 Z hu cy fun lf lg j0 b0 g3 hv=>BC Z Z Z (fun ip a5=>Ep _ _ (Av (b0.call a5)) (hv.mono (Ab (AH b0 a5))) ao) ?_;rintro ip jk lh a5 eu ⟨_,rfl,gg⟩;have ev:=b0.call a5;have g4:=AH b0 a5;have ew:=ev.call eu;have g5:=AH ev eu;have ai:=gg.Cu hH ev eu;refine BC Z Z Z (fun iq b2=>BT _ _ (Av (ew.call b2)) k) ?_;rintro iq jl li b2 ex ⟨_,rfl,gh⟩;have ey:=ew.call b2;have fl:=AH ew b2;have ez:=ey.call ex;have fm:=AH ey ex;have aj:=gh.Cu hH ey ex;refine BC Z Z Z (fun ir b3=>BT _ _ (Av (ez.call b3)) c) ?_;rintro ir jm lj b3 e0 ⟨_,rfl,gi⟩;have e1:=ez.call b3
  have co:=AH ez b3;have b4:=e1.call e0;have cp:=AH e1 e0;have ak:=gi.Cu hH e1 e0;have et:=et.mono (Ab (g3.trans (g4.trans (g5.trans (fl.trans (fm.trans (co.trans cp)))))));refine BC Z Z Z (fun is a6=>Ep _ _ (Av (b4.call a6)) (et.mono (Ab (AH b4 a6))) e) ?_;rintro is jn lk a6 e2 ⟨_,rfl,gj⟩;have e3:=b4.call a6;have cq:=AH b4 a6;have e4:=e3.call e2;have cr:=AH e3 e2;have al:=gj.Cu hH e3 e2;refine BC Z Z Z (fun it b5=>H9 _ _ (Av (e4.call b5)) (b7.mono  Aj) f) ?_;rintro it jo ll b5 e5 ⟨_,rfl,gk⟩;have e6:=e4.call b5;have a7:=AH e4 b5;have hw:=e6.call e5;have a8:=AH e6 e5;have cw:=gk.Cu hH e6 e5;have ai:=ai.mono (Ab (fl.trans (fm.trans (co.trans (cp.trans (cq.trans (cr.trans (a7.trans a8))))))));have aj:=aj.mono (Ab (co.trans (cp.trans (cq.trans (cr.trans (a7.trans a8))))));have ak:=ak.mono (Ab (cq.trans (cr.trans (a7.trans a8))));have al:=al.mono (Ab (a7.trans a8))
  refine Rm [am,u,m,o,p] (r:=(.vec .byte)) Z Z (fun _=>TB _ ai.one _ aj.one _ ak.one _ al.one _ cw.one _) Z (B4 5) hH hw (.c1 ⟨_,Z,ai⟩ (.c1 ⟨_,Z,aj⟩ (.c1 ⟨_,Z,ak⟩ (.c1 ⟨_,Z,al⟩ (.c1 ⟨_,Z,cw⟩ .nil))))) fun lm ln j1 e7 jp hx=>BC Z Z Z (fun iu b6=>Dh _ _ (Av (e7.call b6)) (hx.mono (Ab (AH e7 b6))) g) ?_;rintro iu g6 lo b6 e8 ⟨_,rfl,gl⟩;have e9:=e7.call b6;have fa:=e9.call e8;have g7:=AH e9 e8;obtain⟨hy,fa,g7,fb⟩:=gl.take hH e9 e8;refine B9 1 Z<|Bt (fun lp ft=>?_);have hz:=fa.call ft;have g8:=AH fa ft;refine AE ?_;have fb:=fb.mono (Ab g8);refine A8 (_,_,_) ⟨hz,fb,h⟩
 rintro⟨b8,a9,an⟩ j2 ⟨fu,g9,h⟩;refine Aw ?_
 cases h
 refine Ah Z ⟨fu.ext,_,Z,(fu.FV hH (i:=0) Z g9)⟩
def Of(a:Abv):Option Abv:=
 some a
def KC(a0:Alz):Abv×Int->Option ((Abv×Int)⊕(Abv)):=fun⟨b,a⟩=>
 if a<(a0.length:Int)then AU (0<=a/\a<(a0.length:Int)) (Qq9 (MO ((((a0.getD a.toNat Qq2).1).1,((a0.getD a.toNat Qq2).1).2.1,((a0.getD a.toNat Qq2).1).2.2.1,((a0.getD a.toNat Qq2).1).2.2.2),(a0.getD a.toNat Qq2).2)) (fun c=>AU (Go.E.Fz 1 (b.length+c.length)) (AU (Bq (a+1)) (some (Sum.inl ((b++c),(a+1)))))))else Qzx Sum.inr (Of b)
def RD(a0:Alz)(s:Abv×Int):Option Abv:=Go.L.run (KC a0) s
def OM(a0:Alz):Option Abv:=
 Qq9 (Df (a0.length:Int)) (fun a=>(RD a0) (a,0))
theorem WQ{a0:Alz}{g:Value}(p:AS Al9 H g a0){r:Abv}(h:OM a0=some r):
  Qqv 137 [g,.func (.func 138) #[] #[]] w (fun v w'=>∃u0,v=u0/\Cd 5 .byte H w w' u0 r):=by
 refine A4 24 [(0,g),(1,.func (.func 138) #[] #[])] func137 Z fun hL=>A7 1 Z<|Bo 1 Z<|Ag (AZ p)<|A1 h fun x1 ay h=>Br hL (BT _ _ (Av hL) ay) ?_;rintro ai w2 ⟨_,rfl,ab⟩ az ag aj;obtain⟨a1,ag,aj,a2⟩:=ab.take hH hL az;refine AA 1 Z<|Bb (Abv×Value×Qq6) (fun⟨o,j,e⟩=>[(5,j)]) (fun⟨o,j,e⟩ wr=>C5 w [.row j 5 1 (o).length e] wr fun Oz=>AK .byte (gz H w wr Oz) o e/\Of o=some r) ?_ ?_
 ·refine Bo 1 Z<|Ag (AZ p)<|AA 1 Z<|A2 ?_;obtain⟨t,h⟩:=AR h;refine Bj (Abv×Int×Value×Qq6×Nat) (fun⟨c,a,d,b,n⟩=>[(1,.func (.func 138) #[] #[]),(5,d),(11,g),(12,No (a0.length:Int)),(13,No a)]) (fun⟨c,a,d,b,n⟩ wr=>C5 w [.row d 5 1 (c).length b] wr fun Oz=>AK .byte (gz H w wr Oz) c b/\DR (KC a0) n (c,a)=some r) (fun⟨c,a,d,b,n⟩=>n) (x1,0,ai,a1,t) Z ⟨ag,a2,h⟩ ?_;rintro⟨c,a,d,b,nn50⟩ a7 ⟨q,f,h⟩;obtain⟨t,a9,rfl,h,u⟩:=AQ h;refine A7 1 Z<|A6<|AL h ?_ ?_<;>intro ak h
  ·refine Au<|Aq<|A6<|A2<|Ao<|Ax h fun x h=>AW p a.toNat (Cx x) (AM x) ?_;rintro ba _ ⟨_,_,rfl,⟨_,_,rfl,rfl,⟨_,_,rfl,rfl,⟨_,_,rfl,rfl,rfl⟩⟩⟩,⟨e54v4,rfl,e54h4⟩⟩ al;refine Ag (BI al (hH.trans q.arg))<|AO Kn.e Z q fun bb bc am ac _=>Ak 0 Z am Z (a:=(CB Z (CB Z (CB Z (CB Z (CB e54h4.one Ps)))))) fun bd k ad=>Ad<|An<|As 2 Z<|Ag (AJ 0 Z Kn.e k Z)<|A1 h fun ah an h=>P1 k (WO (a0:=((((a0.getD a.toNat Qq2).1).1,((a0.getD a.toNat Qq2).1).2.1,((a0.getD a.toNat Qq2).1).2.2.1,((a0.getD a.toNat Qq2).1).2.2.2),(a0.getD a.toNat Qq2).2)) _ _ (Av k) (e54h4.mono  Aj) an) ?_;rintro a4 be ⟨_,rfl,y⟩ ao ap ae;have z:=y.Cu hH k ao;refine Ax h fun aq h=>?_;have f:=f.mono (Ab (ac.trans (ad.trans ae)));refine Bp (r:=.byte) 1 c ah Z Ae1 ap Z f z aq fun a3 bf ar au a5 s=>As 1 Z<|AE<|Az ?_
   refine Aq<|An<|Ax h fun av h=>Ag (Ay av)<|As 1 Z<|AE ?_;have aw:=au.Bl (i:=0) Z;have h:=Bw.again h u;have s:=s.mono (Ab (AB (i:=0) Z));refine AD (_,_,_,_,_) Z ⟨aw,s,h⟩
  refine Bf<|A5<|A3 ?_;have h:=Bw.out h u;refine AY<|A8 (_,_,_) ⟨q,f,h⟩
 rintro⟨o,j,e⟩ a8 ⟨aa,af,h⟩;refine A7 2 Z<|Aw ?_
 cases h
 refine Ah Z ⟨aa.ext,_,Z,(aa.FV hH (i:=0) Z af)⟩
end
end Go.Proofs.YtopocbcekabkoaaGreatDoor
end
