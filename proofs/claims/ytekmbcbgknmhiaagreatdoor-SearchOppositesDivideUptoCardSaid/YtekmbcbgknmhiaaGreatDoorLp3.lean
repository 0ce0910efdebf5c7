/- Texts of a claim, merged. -/
import Derived.Test.YtekmbcbgknmhiaaGreatDoorLp2
import Derived.KernelRfl
import Derived.Shelf.Sort.Plain
import Derived.Shelf.Slices.In.SortNone
import Derived.Shelf.Slices.CompactI
import Derived.Shelf.Slices.CompactS
import Derived.Shelf.SlSortCmp.NoneTotal
import Derived.Maps.RangeRun
open _root_.Go.Proofs.Tryz renaming underlying5→AcI,underlying9→AcJ,underlying22→AcL,underlying23→Afr,underlying58→Ahy,underlying46→Aj3,underlying142→Ajd,underlying28→Aji,underlying64→Ajk,underlying109→Ajo,underlying203→Aju,underlying47→Ajv,underlying49→Ajx,underlying192→Ajz
open Option renaming bind->Qq4,bind_some->Qq6,map->Qq7
open List renaming getD_eq_getElem?_getD->Qq9,getElem?_eq_getElem->Qzw,replicate->Qzz,length_map->Qzk,length_cons->Qzj,length_append->Qzu,range->Qzv,getElem?_eq_some_iff->QzC,eq_nil_of_length_eq_zero->Qz8,mem_cons->Qzy,mem_singleton->QzX,mem_append->Qze,pairwise_cons->Qz0,map_cons->Qzd,getElem?_eq_none->Qxe,mem_range->Qz7,length_singleton->QxD,flatMap_cons->Qxc,map_append->Qxd,mergeSort_perm->Qkz,pairwise_singleton->QkZ,pairwise_mergeSort->QkC,ext_getElem?->Qkb,getElem?_take->QkA,nodup_append->Qk6
open Int renaming toNat_natCast->Qq8,lt_trichotomy->Qkc
open Prod renaming fst->Qq5
open Nat renaming le_refl->Qzx,blt->Qzq,zero_add->Qzc,le_trans->Qz2,mul_one->Qz3,mul_le_mul_right->Qky
open HAppend renaming hAppend->Qza
open UInt8 renaming lt_iff_toNat_lt->Qxf
open Array renaming getElem?_append_left->Qk3
set_option linter.unusedVariables false
set_option linter.unusedSimpArgs false
set_option linter.unusedSectionVars false
noncomputable section
namespace Go.Proofs.YtekmbcbgknmhiaaGreatDoor
open Go Go.E Go.RowKit Go.L
set_option maxHeartbeats 1000000
set_option maxRecDepth 10000
open _root_.Go.Proofs.Tryz
def Cn(b:List Ac3)(a:Int):Option (((List Ac3)×Int) ⊕ ((List Ac3))):=
 AO (0<=a/\a<=(b.length:Int)) (AO (0<=a/\a<=((b.take a.toNat++Qzz (b.length - a.toNat) ([]:Ac3)).length:Int)) (Qq7 Sum.inr (some (((b.take a.toNat++Qzz (b.length - a.toNat) ([]:Ac3)).take a.toNat)))))
def BF(b:Int):(List Ac3)×Int×Int->Option (((List Ac3)×Int×Int) ⊕ (((List Ac3)×Int) ⊕ ((List Ac3)))):=fun⟨c,d,a⟩=>
 if a<((c.drop b.toNat).length:Int) then AO (0<=a/\a<((c.drop b.toNat).length:Int)) (AO (Bw (a - 1)) (AO (0<=(a - 1)/\(a - 1)<((c.drop b.toNat).length:Int)) (Qq4 (Gk ((c.drop b.toNat).getD a.toNat Qq2) ((c.drop b.toNat).getD ((a - 1).toNat) Qq2)) (fun e=>if !e then AO (0<=a/\a<((c.drop b.toNat).length:Int)) (AO (0<=d/\d<(c.length:Int)) (AO (Bw (d+1)) (AO (Bw (a+1)) (some (Sum.inl ((c.set d.toNat ((c.drop b.toNat).getD a.toNat Qq2)),(d+1),(a+1))))))) else AO (Bw (a+1)) (some (Sum.inl (c,d,(a+1)))))))) else Qq7 Sum.inr (Cn c d)
def Co(a:Int)(s:(List Ac3)×Int×Int):Option (((List Ac3)×Int) ⊕ ((List Ac3))):=Go.L.run (BF a) s
def Cp(b:List Ac3)(a:Int):Option (((List Ac3)×Int) ⊕ ((List Ac3))):=
 AO (Bw (a+1)) (some (Sum.inl (b,(a+1))))
def Cq(a:List Ac3):Option ((List Ac3)):=
 some a
def Bo:(List Ac3)×Int->Option (((List Ac3)×Int) ⊕ ((List Ac3))):=fun⟨b,a⟩=>
 if a<(b.length:Int) then AO (0<=a/\a<(b.length:Int)) (AO (Bw (a - 1)) (AO (0<=(a - 1)/\(a - 1)<(b.length:Int)) (Qq4 (Gk (b.getD a.toNat Qq2) (b.getD ((a - 1).toNat) Qq2)) (fun c=>if c then AO (0<=a/\a<=(b.length:Int)) ((Co a) (b,a,1)) else(Cp b) a)))) else Qq7 Sum.inr (Cq b)
def EF(s:(List Ac3)×Int):Option ((List Ac3)):=Go.L.run Bo s
def Cc(a0:List Ac3):Option ((List Ac3)):=
 if(a0.length:Int)<2 then some a0 else EF (a0,1)
theorem KK{w0 w:World}{H:PH}(hH:Le H (hp w0)){O:List BS}{a0:List Ac3}{va0:Value}{xsa0:List Value}(hL:Bb w0 (Ha [.row va0 9 1 (a0).length xsa0] O) w)(ba:AI .st (gz H w0 w (Ha [.row va0 9 1 (a0).length xsa0] O)) a0 xsa0){r:(List Ac3)}(h:Cc a0=some r):
  Ok prog 311 [va0,.func (.func 312) #[] #[]] w (fun v w'=>∃ (u0:Value) (y0:List Value),v=u0/\Bb w0 (Ha [.row u0 9 1 (r).length y0] O) w'/\Le (fz w (Ha [.row va0 9 1 (a0).length xsa0] O)) (fz w' (Ha [.row u0 9 1 (r).length y0] O))/\AI .st (gz H w0 w' (Ha [.row u0 9 1 (r).length y0] O)) r y0):=by
 refine Dq (n:=66) [(0,va0),(1,.func (.func 312) #[] #[])] func311 Z Z Z Z ?_;have hT:=Le.refl (fz w (Ha [.row va0 9 1 (a0).length xsa0] O));refine AJ 1 Z<|AD<|Bu 1 Z<|Aj (Qo 0 Z hL Z)<|A7 1 Z<|AP h ?_ ?_<;>intro cg h
 ·refine AJ 2 Z<|Ay<|Ar ?_
  cases h
  refine Am Z ⟨va0,xsa0,Z,hL,hT,ba⟩
 refine Aw<|As<|Bt ((List Ac3)×Value×(List Value)) (fun⟨am,ab,s⟩=>[(0,ab)]) (fun⟨am,ab,s⟩ wr=>Fl w0 (Ha [.row ab 9 1 (am).length s] O) wr fun Oz=>AI .st (gz H w0 wr Oz) am s/\Le (fz w (Ha [.row va0 9 1 (a0).length xsa0] O)) (fz wr Oz)/\Cq am=some r) ?_ ?_
 ·refine AJ 1 Z<|A3 ?_;obtain⟨av,h⟩:=Ba h;refine B6 ((List Ac3)×Int×Value×(List Value)×Nat) (fun⟨k,c,f,g,n⟩=>[(0,f),(1,.func (.func 312) #[] #[]),(5,No c)]) (fun⟨k,c,f,g,n⟩ wr=>Fl w0 (Ha [.row f 9 1 (k).length g] O) wr fun Oz=>AI .st (gz H w0 wr Oz) k g/\Le (fz w (Ha [.row va0 9 1 (a0).length xsa0] O)) (fz wr Oz)/\HG Bo n (k,c)=some r) (fun⟨k,c,f,g,n⟩=>n) (a0,1,va0,xsa0,av) Z ⟨hL,ba,hT,h⟩ ?_;rintro⟨k,c,f,g,nn270⟩ ch ⟨ag,a,hT,h⟩;obtain⟨av,aw,rfl,h,ao⟩:=AY h;refine AD<|Bu 2 Z<|Aj (Qo 0 Z ag Z)<|A7 1 Z<|AP h ?_ ?_<;>intro bh h
  ·refine Aw<|As<|Bt Int (fun t=>[(0,f),(1,.func (.func 312) #[] #[]),(5,No t)]) (fun t wr=>Fl w0 (Ha [.row f 9 1 (k).length g] O) wr fun Oz=>AI .st (gz H w0 wr Oz) k g/\Le (fz w (Ha [.row va0 9 1 (a0).length xsa0] O)) (fz wr Oz)/\(Cp k) t=some aw) ?_ ?_
   ·refine A3<|Eu (Qqz 0 10 (.tail 10)) mixed Qqb (fun cp ax=>?_);have ah:=ag.call ax;have ac:=AR ag ax;refine D4 3 Z<|Az h fun ay h=>?_;have a:=a.mono (Aa ac);refine HX Z Z Z AcL (ah.RJ hH (i:=0) Z a) c.toNat (Gy ay) (AW ay) Z ?_;rintro cq _ rfl bi;refine CF Z (Bl bi (Le.refl _)) Z<|D4 2 Z<|Az h fun bj h=>CF Z (A5 bj) Z<|Az h fun az h=>HX Z Z Z AcL (ah.RJ hH (i:=0) Z a) ((c - 1).toNat) (Gy az) (AW az) Z ?_;rintro cr _ rfl bk;refine CF Z (Bl bk (Le.refl _)) Z<|BU (fun cs a1=>?_);have a2:=ah.call a1;have u:=AR ah a1;refine Ax h fun ct bl h=>OK a2 (Nn _ _ (Ao a2) bl) ?_;rintro _ cu rfl ci ap x;refine Ac<|B3 h ?_ ?_<;>intro bm h
    ·refine Bu 2 Z<|Az h fun bn h=>Ad7 0 Z AcL ap Z bn fun ce ai=>A7 1 Z<|Bt ((List Ac3)×Int×(List Value)) (fun⟨y,p,ad⟩=>[(0,f),(5,No p)]) (fun⟨y,p,ad⟩ wr=>Fl w0 (Ha [.row f 9 1 (y).length ad] O) wr fun Oz=>AI .st (gz H w0 wr Oz) y ad/\Le (fz w (Ha [.row va0 9 1 (a0).length xsa0] O)) (fz wr Oz)/\Cn y p=some aw) ?_ ?_
     ·refine AJ 1 Z<|A3 ?_;obtain⟨aq,h⟩:=Ba h;have hT:=hT.trans (ac.trans (u.trans x));have a:=a.mono (Aa (u.trans x));refine B6 ((List Ac3)×Int×Int×(List Value)×Nat) (fun⟨m,e,d,o,n⟩=>[(0,f),(1,.func (.func 312) #[] #[]),(5,No e),(6,ce),(7,No d)]) (fun⟨m,e,d,o,n⟩ wr=>Fl w0 (Ha [.row f 9 1 (m).length o] O) wr fun Oz=>AI .st (gz H w0 wr Oz) m o/\Le (fz w (Ha [.row va0 9 1 (a0).length xsa0] O)) (fz wr Oz)/\HG (BF c) n (m,e,d)=some aw) (fun⟨m,e,d,o,n⟩=>n) (k,c,1,g,aq) Z ⟨ap,a,hT,h⟩ ?_;rintro⟨m,e,d,o,nn461⟩ cj ⟨aj,b,hT,h⟩;obtain⟨aq,cv,rfl,h,ar⟩:=AY h;refine AD<|Bu 2 Z<|Aj (Bc (YI.vec ai (aj.RJ hH (i:=0) Z b) Z))<|A7 1 Z<|AP h ?_ ?_<;>intro bo h
      ·refine Aw<|As<|AD<|A3<|Eu (Qqz 0 10 (.tail 10)) mixed Qqb (fun cw a3=>?_);have ak:=aj.call a3;have an:=AR aj a3;refine D4 3 Z<|Az h fun a4 h=>?_;have b:=b.mono (Aa an);refine HX Z Z Z AcL (YI.vec ai (ak.RJ hH (i:=0) Z b) Z) d.toNat (Gy a4) (AW a4) Z ?_;rintro cx _ rfl bp;refine CF Z (Bl bp (Le.refl _)) Z<|D4 2 Z<|Az h fun bq h=>CF Z (A5 bq) Z<|Az h fun a5 h=>HX Z Z Z AcL (YI.vec ai (ak.RJ hH (i:=0) Z b) Z) ((d - 1).toNat) (Gy a5) (AW a5) Z ?_;rintro cy _ rfl br;refine CF Z (Bl br (Le.refl _)) Z<|BU (fun cz a6=>?_);have a7:=ak.call a6;have ae:=AR ak a6;refine Ax h fun c0 bs h=>OK a7 (Nn _ _ (Ao a7) bs) ?_;rintro _ c1 rfl ck al af;refine A7 1 Z<|B3 h ?_ ?_<;>intro bt h
       ·refine Bu 4 Z<|Az h fun a8 h=>?_;have b:=b.mono (Aa (ae.trans af));refine Bf (YI.vec ai (al.RJ hH (i:=0) Z b) Z) d.toNat (Gy a8) (AW a8) ?_;rintro c2 _ rfl bu;refine Aj (Bl bu (Le.refl _))<|Az h fun au h=>KA 0 Z AcL HJ.e al Z e.toNat (Gy au) (AW au) fun c3 bv=>KB 0 e.toNat ((m.drop c.toNat).getD d.toNat Qq2) Z Z hH al Z b bv (AW au) Z fun c4 bw bx bb bz=>Ac<|Au<|Aq 1 Z<|Az h fun b0 h=>Aj (A5 b0)<|Aq 1 Z<|AL<|A2<|As<|Au<|Aq 1 Z<|Az h fun b1 h=>Aj (A5 b1)<|Aq 1 Z<|AL ?_;have h:=Cg.again h ar;have hT:=hT.trans (an.trans (ae.trans (af.trans bb)));refine AN (_,_,_,_,_) Z ⟨bx,bz,hT,h⟩
       refine Aw<|A2<|As<|Au<|Aq 1 Z<|Az h fun b2 h=>Aj (A5 b2)<|Aq 1 Z<|AL ?_;have h:=Cg.again h ar;have hT:=hT.trans (an.trans (ae.trans af));have b:=b.mono (Aa (ae.trans af));refine AN (_,_,_,_,_) Z ⟨al,b,hT,h⟩
      refine B4<|AE<|A6 ?_;have h:=Cg.out h ar;refine Bi<|A8 (_,_,_) ⟨aj,b,hT,h⟩
     have hT:=hT.trans (ac.trans (u.trans x));rintro⟨y,p,ad⟩ cl ⟨a9,bc,hT,h⟩;refine Bu 2 Z<|Az h fun b3 h=>Ad7 0 Z AcL a9 Z b3 fun c5 b4=>Ad8 (r:=.st) (l:=y) (z:=([]:Ac3)) 0 b4 AcL hH a9 Z bc (fun _=>Z) fun c6 cm b5 bd b6=>Ac<|Bu 2 Z<|Az h fun b7 h=>AhM (r:=.st) (l:=(y.take p.toNat++Qzz (y.length - p.toNat) ([]:Ac3))) 0 Z AcL hH b5 Z b6 b7 fun cf b8 b9 be ca=>A7 1 Z<|Ay<|Av<|Bh<|BG ?_;have h:=Cg.out h ao;refine Av<|Bh ?_
     cases h
     refine Am Z ?_;have hT:=hT.trans (bd.trans be);exact⟨cf,b8,Z,b9,hT,ca⟩
    refine Aw<|A2 ?_;have hT:=hT.trans (ac.trans (u.trans x));have a:=a.mono (Aa (u.trans x));refine A8 _ ⟨ap,a,hT,h⟩
   rintro t cn ⟨cb,a,hT,h⟩;refine Au<|Aq 1 Z<|Az h fun cc h=>Aj (A5 cc)<|Aq 1 Z<|AL ?_;have h:=Cg.again h ao;refine AN (_,_,_,_,_) Z ⟨cb,a,hT,h⟩
  refine B4<|AE<|A6 ?_;have h:=Cg.out h ao;refine Bi<|A8 (_,_,_) ⟨ag,a,hT,h⟩
 rintro⟨am,ab,s⟩ co ⟨cd,bf,hT,h⟩;refine AJ 2 Z<|Ay ?_
 cases h
 refine Am Z ⟨ab,s,Z,cd,hT,bf⟩
def DT(a0:Ac3)(a1:Ac3):Option Bool:=
 Qq4 (Ix a0) (fun a=>Qq4 (Cc a) (fun b=>Qq4 (Ix a1) (fun c=>Qq4 (LI b c) (fun d=>some d))))
section
variable(w:World)(H:PH)(hH:Le H (hp w)) include hH
theorem LJ{a0 a1:Ac3}{r:Bool}(h:DT a0 a1=some r):
  Qqv 256 [Ab5 a0,Ab5 a1] w (fun v w'=>v=.bool r):=by
 refine A1 13 [(0,(Ab5 a0)),(1,(Ab5 a1))] func256 Z fun hL=>AJ 1 Z<|Bu 1 Z<|Ax h fun x l h=>Bk hL (Ng _ _ (Ao hL) l) ?_;rintro y w2 ⟨_,rfl,d⟩ m g j;obtain⟨ad,g,j,o⟩:=d.take hH hL m;refine Ax h fun x3 p h=>EP (KK (a0:=x) (O:=[]) hH g o p) ?_;rintro z w4 ⟨_,y4_0,rfl,b,aa,a⟩;refine A7 1 Z<|Bu 2 Z<|Ax h fun x5 q h=>Bk b (Ng _ _ (Ao b) q) ?_;rintro ab w6 ⟨_,rfl,e⟩ s c k;have f:=e.Dz hH b s;refine Ax h fun x7 t h=>?_;have a:=a.mono (Aa k);refine AF c (TZ _ _ (Le.refl _) (c.RJ hH (i:=0) Z a) (f.mono (Ao c)) t) fun w8 ae u ac=>A7 1 Z<|Ay ?_
 cases h
 refine Am Z ⟨u.ext,Z⟩
end
end Go.Proofs.YtekmbcbgknmhiaaGreatDoor
end
noncomputable section
namespace Go
abbrev AjW:=Go.E.Rp.pair (Go.E.Rp.int .i64) (Go.E.Rp.int .i64)
end Go
namespace Go
abbrev AjL:=List (Int×Int)
end Go
namespace Go.Proofs.YtekmbcbgknmhiaaGreatDoor
open Go Go.E Go.RowKit Go.L
set_option maxHeartbeats 1000000
set_option maxRecDepth 10000
open _root_.Go.Proofs.Tryz
def DU(a0 a1:Int):Option ((Int×Int)):=
 some ((a0,a1))
section
variable(w:World)(H:PH)(hH:Le H (hp w)) include hH
theorem D5{a0 a1:Int}{r:(Int×Int)}(h:DU a0 a1=some r):
  Qqv 78 [No a0,No a1] w (fun v w'=>v=.agg #[No r.1,No r.2]):=by
 refine A1 8 [(0,No a0),(1,No a1)] func78 Z fun hL=>Ak<|AA AG.e Z hL fun e f b c _=>Ac<|Bu 2 Z<|Aj (AT (fun _=>My _ _ _))<|Ag 0 Z b Z fun g a d=>Ac<|Ay ?_
 cases h
 refine Dy (.cell Z Aji Z AG.e (AK (i:=0) a Z)) ⟨a.ext,Z⟩
def Dc:Option Int:=
 some ((-1))
def Be(a0:List Int)(a1:Int):Int->Option ((Int) ⊕ (Int)):=fun a=>
 if a<(a0.length:Int) then AO (0<=a/\a<(a0.length:Int)) (if a1=a0.getD a.toNat Qq2 then Qq7 Sum.inr (some a) else AO (Bw (a+1)) (some (Sum.inl (a+1)))) else Qq7 Sum.inr Dc
def DK(a0:List Int)(a1 s:Int):Option Int:=Go.L.run (Be a0 a1) s
def DV(a0:List Int)(a1:Int):Option Int:=
 (DK a0 a1) (0:Int)
theorem OP{a0:List Int}{a1:Int}{b:Value}(e:AH (.int .i64) H b a0){r:Int}(h:DV a0 a1=some r):
  Qqv 163 [b,No a1] w (fun v w'=>v=No r):=by
 refine A1 19 [(0,b),(1,No a1)] func163 Z fun hL=>AJ 1 Z<|Bt Unit (fun(_:Unit)=>[]) (fun(_:Unit) wr=>Bb w [] wr/\Dc=some r) ?_ ?_
 ·refine Bu 1 Z<|Aj (Bc e)<|A7 1 Z<|A3 ?_;obtain⟨f,h⟩:=Ba h;refine B6 (Int×Nat) (fun⟨a,n⟩=>[(0,b),(1,No a1),(7,No (a0.length:Int)),(8,No a)]) (fun⟨a,n⟩ wr=>Bb w [] wr/\HG (Be a0 a1) n a=some r) (fun⟨a,n⟩=>n) (0,f) Z ⟨hL,h⟩ ?_;rintro⟨a,nn36⟩ o ⟨c,h⟩;obtain⟨f,q,rfl,h,d⟩:=AY h;refine AJ 1 Z<|AD<|AP h ?_ ?_<;>intro i h
  ·refine Aw<|As<|AD<|A3<|AJ 2 Z<|Bu 3 Z<|Az h fun g h=>Bf e a.toNat (Gy g) (AW g) ?_;rintro s _ rfl j;refine Aj (Bl j (hH.trans c.arg))<|A7 1 Z<|AP h ?_ ?_<;>intro k h
   ·refine AJ 2 Z<|Ay<|Av<|Ar<|BG ?_;have h:=Cg.out h d;refine Av<|Bh ?_
    cases h
    refine Am Z ⟨c.ext,Z⟩
   refine Aw<|A2<|As<|Au<|Az h fun l h=>Aj (A5 l)<|Aq 1 Z<|AL ?_;have h:=Cg.again h d;refine AN (_,_) Z ⟨c,h⟩
  refine B4<|AE<|A6 ?_;have h:=Cg.out h d;refine Bi<|A8 () ⟨c,h⟩
 rintro _ p ⟨m,h⟩;refine AJ 1 Z<|Ay ?_
 cases h
 refine Am Z ⟨m.ext,Z⟩
def BD(a0:List Int)(a1:Int):Option Bool:=
 Qq4 (DV a0 a1) (fun a=>some (decide (0<=a)))
theorem HN{a0:List Int}{a1:Int}{a:Value}(b:AH (.int .i64) H a a0){r:Bool}(h:BD a0 a1=some r):
  Qqv 108 [a,No a1] w (fun v w'=>v=.bool r):=by
 refine A1 9 [(0,a),(1,No a1)] func108 Z fun hL=>AJ 1 Z<|Bu 2 Z<|Ax h fun g c h=>AF hL (OP _ _ (Ao hL) (b.mono  Ah) c) fun i f d e=>A7 2 Z<|Ay ?_
 cases h
 refine Am Z ⟨d.ext,Z⟩
def CU:Option Int:=
 some ((-1))
def B5(a0:List (Int×Int))(a1:Int×Int):Int->Option ((Int) ⊕ (Int)):=fun a=>
 if a<(a0.length:Int) then AO (0<=a/\a<(a0.length:Int)) (if a1.1=(a0.getD a.toNat Qq2).1/\a1.2=(a0.getD a.toNat Qq2).2 then Qq7 Sum.inr (some a) else AO (Bw (a+1)) (some (Sum.inl (a+1)))) else Qq7 Sum.inr CU
def DR(a0:List (Int×Int))(a1:Int×Int)(s:Int):Option Int:=Go.L.run (B5 a0 a1) s
def D6(a0:List (Int×Int))(a1:Int×Int):Option Int:=
 (DR a0 a1) (0:Int)
theorem Mn{a0:List (Int×Int)}{a1:Int×Int}{b:Value}(e:AH AjW H b a0){r:Int}(h:D6 a0 a1=some r):
  Qqv 253 [b,.agg #[No a1.1,No a1.2]] w (fun v w'=>v=No r):=by
 refine A1 19 [(0,b),(1,.agg #[No a1.1,No a1.2])] func253 Z fun hL=>Ak<|CB (t:=137) Z Z hL fun w1 k y z _=>A7 1 Z<|Bt Unit (fun(_:Unit)=>[]) (fun(_:Unit) wr=>Bb w [.box k [No a1.1,No a1.2] 137] wr/\CU=some r) ?_ ?_
 ·refine Bu 1 Z<|Aj (Bc e)<|A7 1 Z<|A3 ?_;obtain⟨f,h⟩:=Ba h;refine B6 (Int×Nat) (fun⟨a,n⟩=>[(0,b),(3,(AaD k)),(7,No (a0.length:Int)),(8,No a)]) (fun⟨a,n⟩ wr=>Bb w [.box k [No a1.1,No a1.2] 137] wr/\HG (B5 a0 a1) n a=some r) (fun⟨a,n⟩=>n) (0,f) Z ⟨y,h⟩ ?_;rintro⟨a,nn49⟩ aa ⟨g,h⟩;obtain⟨f,ac,rfl,h,c⟩:=AY h;refine AJ 1 Z<|AD<|AP h ?_ ?_<;>intro l h
  ·refine Aw<|As<|AD<|A3<|AJ 2 Z<|Eu (Qqz 0 6 (.tail 6)) mixed Qqb (fun ad m=>?_);have d:=g.call m;refine CF Z (A4 0 Z H3.e d Z) Z<|D4 2 Z<|Az h fun i h=>HX Z Z Z Ajo e a.toNat (Gy i) (AW i) Z ?_;rintro ae _ ⟨_,_,rfl,rfl,rfl⟩ o;refine CF Z (Cx o (hH.trans d.arg)) Z<|CF Z (Ada AhP (AiA _ _ _ _)) Z<|BU (fun af p=>?_);have j:=d.call p;refine Ac<|AP h ?_ ?_<;>intro s h
   ·refine AJ 2 Z<|Ay<|Av<|Ar<|BG ?_;have h:=Cg.out h c;refine Av<|Bh ?_
    cases h
    refine Am Z ⟨j.ext,Z⟩
   refine Aw<|A2<|As<|Au<|Az h fun u h=>Aj (A5 u)<|Aq 1 Z<|AL ?_;have h:=Cg.again h c;refine AN (_,_) Z ⟨j,h⟩
  refine B4<|AE<|A6 ?_;have h:=Cg.out h c;refine Bi<|A8 () ⟨g,h⟩
 rintro _ ab ⟨x,h⟩;refine AJ 1 Z<|Ay ?_
 cases h
 refine Am Z ⟨x.ext,Z⟩
def Cj(a0:List (Int×Int))(a1:Int×Int):Option Bool:=
 Qq4 (D6 a0 (a1.1,a1.2)) (fun a=>some (decide (0<=a)))
theorem Ll{a0:List (Int×Int)}{a1:Int×Int}{a:Value}(c:AH AjW H a a0){r:Bool}(h:Cj a0 a1=some r):
  Qqv 195 [a,.agg #[No a1.1,No a1.2]] w (fun v w'=>v=.bool r):=by
 refine A1 9 [(0,a),(1,.agg #[No a1.1,No a1.2])] func195 Z fun hL=>Ak<|CB (t:=137) Z Z hL fun j k b f _=>A7 1 Z<|Bu 1 Z<|Aj (A4 0 Z H3.e b Z)<|Ax h fun l d h=>AF b (Mn (a1:=(a1.1,a1.2)) _ _ (Ao b) (c.mono  Ah) d) fun m i e g=>A7 2 Z<|Ay ?_
 cases h
 refine Am Z ⟨e.ext,Z⟩
def Dt:Option Int:=
 some ((-1))
def BK(a0:List Ac3)(a1:Ac3):Int->Option ((Int) ⊕ (Int)):=fun a=>
 if a<(a0.length:Int) then AO (0<=a/\a<(a0.length:Int)) (if a1=a0.getD a.toNat Qq2 then Qq7 Sum.inr (some a) else AO (Bw (a+1)) (some (Sum.inl (a+1)))) else Qq7 Sum.inr Dt
def E0(a0:List Ac3)(a1:Ac3)(s:Int):Option Int:=Go.L.run (BK a0 a1) s
def DW(a0:List Ac3)(a1:Ac3):Option Int:=
 (E0 a0 a1) (0:Int)
theorem MU{a0:List Ac3}{a1:Ac3}{b:Value}(e:AH .st H b a0){r:Int}(h:DW a0 a1=some r):
  Qqv 285 [b,Ab5 a1] w (fun v w'=>v=No r):=by
 refine A1 19 [(0,b),(1,(Ab5 a1))] func285 Z fun hL=>AJ 1 Z<|Bt Unit (fun(_:Unit)=>[]) (fun(_:Unit) wr=>Bb w [] wr/\Dt=some r) ?_ ?_
 ·refine Bu 1 Z<|Aj (Bc e)<|A7 1 Z<|A3 ?_;obtain⟨f,h⟩:=Ba h;refine B6 (Int×Nat) (fun⟨a,n⟩=>[(0,b),(1,(Ab5 a1)),(7,No (a0.length:Int)),(8,No a)]) (fun⟨a,n⟩ wr=>Bb w [] wr/\HG (BK a0 a1) n a=some r) (fun⟨a,n⟩=>n) (0,f) Z ⟨hL,h⟩ ?_;rintro⟨a,nn36⟩ o ⟨c,h⟩;obtain⟨f,q,rfl,h,d⟩:=AY h;refine AJ 1 Z<|AD<|AP h ?_ ?_<;>intro i h
  ·refine Aw<|As<|AD<|A3<|AJ 2 Z<|Bu 3 Z<|Az h fun g h=>Bf e a.toNat (Gy g) (AW g) ?_;rintro s _ rfl j;refine Aj (Bl j (hH.trans c.arg))<|Aj (Nk Z Z)<|Ac<|AP h ?_ ?_<;>intro k h
   ·refine AJ 2 Z<|Ay<|Av<|Ar<|BG ?_;have h:=Cg.out h d;refine Av<|Bh ?_
    cases h
    refine Am Z ⟨c.ext,Z⟩
   refine Aw<|A2<|As<|Au<|Az h fun l h=>Aj (A5 l)<|Aq 1 Z<|AL ?_;have h:=Cg.again h d;refine AN (_,_) Z ⟨c,h⟩
  refine B4<|AE<|A6 ?_;have h:=Cg.out h d;refine Bi<|A8 () ⟨c,h⟩
 rintro _ p ⟨m,h⟩;refine AJ 1 Z<|Ay ?_
 cases h
 refine Am Z ⟨m.ext,Z⟩
def C1(a0:List Ac3)(a1:Ac3):Option Bool:=
 Qq4 (DW a0 a1) (fun a=>some (decide (0<=a)))
theorem LK{a0:List Ac3}{a1:Ac3}{a:Value}(b:AH .st H a a0){r:Bool}(h:C1 a0 a1=some r):
  Qqv 231 [a,Ab5 a1] w (fun v w'=>v=.bool r):=by
 refine A1 9 [(0,a),(1,(Ab5 a1))] func231 Z fun hL=>AJ 1 Z<|Bu 2 Z<|Ax h fun g c h=>AF hL (MU _ _ (Ao hL) (b.mono  Ah) c) fun i f d e=>A7 2 Z<|Ay ?_
 cases h
 refine Am Z ⟨d.ext,Z⟩
def Ft(a0:Ac3):Option Ac3:=
 AO (Go.E.Io 1 (([]:Ac3).length+a0.length)) (some ((([]:Ac3)++a0)))
theorem K0{a0:Ac3}{a:Value}(b:AH .byte H a a0){r:Ac3}(h:Ft a0=some r):
  Qqv 99 [a] w (fun v w'=>∃ d,v=d/\Ck 5 .byte H w w' d r):=by
 refine A1 8 [(0,a)] func99 Z fun hL=>AJ 1 Z<|AD<|Bu 1 Z ?_
 rcases Xy b with ⟨rfl,rfl⟩ | hnn
 ·refine Aj Xz<|Ac<|EO<|AJ 1 Z<|Ay ?_;obtain⟨_,h⟩:=G6 h;obtain rfl:=Option.some.inj h;refine Ar<|Am Z ⟨hL.ext,_,Z,X1 _ hL hH⟩
 refine Aj (X0 hnn)<|Ac<|Gx<|Aw<|As<|Ak<|Ow ([]:Ac3) (r:=.byte) (fun _=>AfX _) (BJ 0) hH hL .nil fun s t p e k f=>Aq 1 Z<|Az h fun g h=>By (r:=.byte) 0 ([]:Ac3) a0 Z Afr e Z f (b.mono  Ah) g fun u x q c o j=>A7 1 Z<|Ay ?_
 cases h
 refine Am Z ⟨c.ext,_,Z,(c.Ip hH (i:=0) Z j)⟩
def D7(a0:List (Int×Int)):Option (AjL):=
 AO (Go.E.Io 16 (([]:List (Int×Int)).length+a0.length)) (some ((([]:List (Int×Int))++a0)))
theorem Mo{a0:List (Int×Int)}{a:Value}(b:AH AjW H a a0){r:AjL}(h:D7 a0=some r):
  Qqv 193 [a] w (fun v w'=>∃ d,v=d/\Ck 137 AjW H w w' d r):=by
 refine A1 8 [(0,a)] func193 Z fun hL=>AJ 1 Z<|AD<|Bu 1 Z ?_
 rcases Xy b with ⟨rfl,rfl⟩ | hnn
 ·refine Aj Xz<|Ac<|EO<|AJ 1 Z<|Ay ?_;obtain⟨_,h⟩:=G6 h;obtain rfl:=Option.some.inj h;refine Ar<|Am Z ⟨hL.ext,_,Z,X1 _ hL hH⟩
 refine Aj (X0 hnn)<|Ac<|Gx<|Aw<|As<|Ak<|Ow (([]:List (Int×Int))) (r:=AjW) (fun _=>AdH _) (BJ 0) hH hL .nil fun s t p e k f=>Aq 1 Z<|Az h fun g h=>By (r:=AjW) 0 (([]:List (Int×Int))) a0 Z Ajo e Z f (b.mono  Ah) g fun u x q c o j=>A7 1 Z<|Ay ?_
 cases h
 refine Am Z ⟨c.ext,_,Z,(c.Ip hH (i:=0) Z j)⟩
def Fc(a0:List Int):Option ((List Int)):=
 AO (Go.E.Io 8 (([]:List Int).length+a0.length)) (some ((([]:List Int)++a0)))
theorem OQ{a0:List Int}{a:Value}(b:AH (.int .i64) H a a0){r:(List Int)}(h:Fc a0=some r):
  Qqv 138 [a] w (fun v w'=>∃ d,v=d/\Ck 3 (.int .i64) H w w' d r):=by
 refine A1 8 [(0,a)] func138 Z fun hL=>AJ 1 Z<|AD<|Bu 1 Z ?_
 rcases Xy b with ⟨rfl,rfl⟩ | hnn
 ·refine Aj Xz<|Ac<|EO<|AJ 1 Z<|Ay ?_;obtain⟨_,h⟩:=G6 h;obtain rfl:=Option.some.inj h;refine Ar<|Am Z ⟨hL.ext,_,Z,X1 _ hL hH⟩
 refine Aj (X0 hnn)<|Ac<|Gx<|Aw<|As<|Ak<|Ow ([]:List Int) (r:=(.int .i64)) (fun _=>Agb _) (BJ 0) hH hL .nil fun s t p e k f=>Aq 1 Z<|Az h fun g h=>By (r:=(.int .i64)) 0 ([]:List Int) a0 Z Ahy e Z f (b.mono  Ah) g fun u x q c o j=>A7 1 Z<|Ay ?_
 cases h
 refine Am Z ⟨c.ext,_,Z,(c.Ip hH (i:=0) Z j)⟩
def Dd(a0:List Ac3):Option ((List Ac3)):=
 AO (Go.E.Io 16 (([]:List Ac3).length+a0.length)) (some ((([]:List Ac3)++a0)))
theorem GF{a0:List Ac3}{a:Value}(b:AH .st H a a0){r:(List Ac3)}(h:Dd a0=some r):
  Qqv 135 [a] w (fun v w'=>∃ d,v=d/\Ck 9 .st H w w' d r):=by
 refine A1 8 [(0,a)] func135 Z fun hL=>AJ 1 Z<|AD<|Bu 1 Z ?_
 rcases Xy b with ⟨rfl,rfl⟩ | hnn
 ·refine Aj Xz<|Ac<|EO<|AJ 1 Z<|Ay ?_;obtain⟨_,h⟩:=G6 h;obtain rfl:=Option.some.inj h;refine Ar<|Am Z ⟨hL.ext,_,Z,X1 _ hL hH⟩
 refine Aj (X0 hnn)<|Ac<|Gx<|Aw<|As<|Ak<|Ow ([]:List Ac3) (r:=.st) (fun _=>AfW _) (BJ 0) hH hL .nil fun s t p e k f=>Aq 1 Z<|Az h fun g h=>By (r:=.st) 0 ([]:List Ac3) a0 Z AcL e Z f (b.mono  Ah) g fun u x q c o j=>A7 1 Z<|Ay ?_
 cases h
 refine Am Z ⟨c.ext,_,Z,(c.Ip hH (i:=0) Z j)⟩
def DX(a b:Int):Option Int:=
 AO (0<=((Go.L.u8 a).toNat:Int)/\((Go.L.u8 a).toNat:Int)<(([0,1,2,2,3,3,3,3,4,4,4,4,4,4,4,4,5,5,5,5,5,5,5,5,5,5,5,5,5,5,5,5,6,6,6,6,6,6,6,6,6,6,6,6,6,6,6,6,6,6,6,6,6,6,6,6,6,6,6,6,6,6,6,6,7,7,7,7,7,7,7,7,7,7,7,7,7,7,7,7,7,7,7,7,7,7,7,7,7,7,7,7,7,7,7,7,7,7,7,7,7,7,7,7,7,7,7,7,7,7,7,7,7,7,7,7,7,7,7,7,7,7,7,7,7,7,7,7,8,8,8,8,8,8,8,8,8,8,8,8,8,8,8,8,8,8,8,8,8,8,8,8,8,8,8,8,8,8,8,8,8,8,8,8,8,8,8,8,8,8,8,8,8,8,8,8,8,8,8,8,8,8,8,8,8,8,8,8,8,8,8,8,8,8,8,8,8,8,8,8,8,8,8,8,8,8,8,8,8,8,8,8,8,8,8,8,8,8,8,8,8,8,8,8,8,8,8,8,8,8,8,8,8,8,8,8,8,8,8,8,8,8,8,8,8,8,8,8,8,8,8,8,8,8,8,8]:Ac3).length:Int)) (AO (Bw (b+((([0,1,2,2,3,3,3,3,4,4,4,4,4,4,4,4,5,5,5,5,5,5,5,5,5,5,5,5,5,5,5,5,6,6,6,6,6,6,6,6,6,6,6,6,6,6,6,6,6,6,6,6,6,6,6,6,6,6,6,6,6,6,6,6,7,7,7,7,7,7,7,7,7,7,7,7,7,7,7,7,7,7,7,7,7,7,7,7,7,7,7,7,7,7,7,7,7,7,7,7,7,7,7,7,7,7,7,7,7,7,7,7,7,7,7,7,7,7,7,7,7,7,7,7,7,7,7,7,8,8,8,8,8,8,8,8,8,8,8,8,8,8,8,8,8,8,8,8,8,8,8,8,8,8,8,8,8,8,8,8,8,8,8,8,8,8,8,8,8,8,8,8,8,8,8,8,8,8,8,8,8,8,8,8,8,8,8,8,8,8,8,8,8,8,8,8,8,8,8,8,8,8,8,8,8,8,8,8,8,8,8,8,8,8,8,8,8,8,8,8,8,8,8,8,8,8,8,8,8,8,8,8,8,8,8,8,8,8,8,8,8,8,8,8,8,8,8,8,8,8,8,8,8,8,8,8]:Ac3).getD ((Go.L.u8 a).toNat:Int).toNat Qq2).toNat:Int))) (some ((b+((([0,1,2,2,3,3,3,3,4,4,4,4,4,4,4,4,5,5,5,5,5,5,5,5,5,5,5,5,5,5,5,5,6,6,6,6,6,6,6,6,6,6,6,6,6,6,6,6,6,6,6,6,6,6,6,6,6,6,6,6,6,6,6,6,7,7,7,7,7,7,7,7,7,7,7,7,7,7,7,7,7,7,7,7,7,7,7,7,7,7,7,7,7,7,7,7,7,7,7,7,7,7,7,7,7,7,7,7,7,7,7,7,7,7,7,7,7,7,7,7,7,7,7,7,7,7,7,7,8,8,8,8,8,8,8,8,8,8,8,8,8,8,8,8,8,8,8,8,8,8,8,8,8,8,8,8,8,8,8,8,8,8,8,8,8,8,8,8,8,8,8,8,8,8,8,8,8,8,8,8,8,8,8,8,8,8,8,8,8,8,8,8,8,8,8,8,8,8,8,8,8,8,8,8,8,8,8,8,8,8,8,8,8,8,8,8,8,8,8,8,8,8,8,8,8,8,8,8,8,8,8,8,8,8,8,8,8,8,8,8,8,8,8,8,8,8,8,8,8,8,8,8,8,8,8,8]:Ac3).getD ((Go.L.u8 a).toNat:Int).toNat Qq2).toNat:Int)))))
def Gl(a b:Int):Option Int:=
 if 256<=a then AO (Bw (b+8)) (DX (a / 256) (b+8)) else DX a b
def Gm(a b:Int):Option Int:=
 if 65536<=a then AO (Bw (b+16)) (Gl (a / 65536) (b+16)) else Gl a b
def Ir(a0:Int):Option Int:=
 if 4294967296<=a0 then Gm (a0 / 4294967296) (32:Int) else Gm a0 (0:Int)
theorem RO{a0 r:Int}(h:Ir a0=some r):
  Qqv 236 [.int .u64 a0] w (fun v w'=>v=No r):=by
 refine A1 25 [(0,.int .u64 a0)] func236 Z fun hL=>AJ 1 Z<|Bt (Int×Int) (fun⟨d,e⟩=>[(0,.int .u64 d),(2,No e)]) (fun⟨d,e⟩ wr=>Bb w [] wr/\Gm d e=some r) ?_ ?_
 ·refine AJ 2 Z<|AP h ?_ ?_<;>intro u h
  ·refine Bu 1 Z<|Aj (UK (c:=32) (m:=4294967296) Z Z Qqc)<|A7 1 Z<|Au<|Aq 1 Z<|AL<|A8 (_,_) ⟨hL,h⟩
  refine Aw<|A8 (_,_) ⟨hL,h⟩
 rintro⟨d,e⟩ z ⟨j,h⟩;refine Bt (Int×Int) (fun⟨a,b⟩=>[(0,.int .u64 a),(2,No b)]) (fun⟨a,b⟩ wr=>Bb w [] wr/\Gl a b=some r) ?_ ?_
 ·refine AJ 2 Z<|AP h ?_ ?_<;>intro k h
  ·refine Bu 1 Z<|Aj (UK (c:=16) (m:=65536) Z Z Qqc)<|A7 1 Z<|Au<|Aq 1 Z<|Az h fun l h=>Aj (A5 l)<|Aq 1 Z<|AL<|A8 (_,_) ⟨j,h⟩
  refine Aw<|A8 (_,_) ⟨j,h⟩
 rintro⟨a,b⟩ x ⟨i,h⟩;refine Bt (Int×Int) (fun⟨f,g⟩=>[(0,.int .u64 f),(2,No g)]) (fun⟨f,g⟩ wr=>Bb w [] wr/\DX f g=some r) ?_ ?_
 ·refine AJ 2 Z<|AP h ?_ ?_<;>intro o h
  ·refine Bu 1 Z<|Aj (UK (c:=8) (m:=256) Z Z Qqc)<|A7 1 Z<|Au<|Aq 1 Z<|Az h fun p h=>Aj (A5 p)<|Aq 1 Z<|AL<|A8 (_,_) ⟨i,h⟩
  refine Aw<|A8 (_,_) ⟨i,h⟩
 rintro⟨f,g⟩ y ⟨q,h⟩;refine Bu 2 Z<|Aj (Ld (NG _))<|Az h fun s h=>Aj (NH s)<|Aj (Ld (QT _))<|Az h fun t h=>Aj (A5 t)<|A7 1 Z<|Ay ?_
 cases h
 refine Am Z ⟨q.ext,Z⟩
def KL(a0:Int):Option Int:=
 Qq4 (Ir a0) (fun a=>some a)
theorem Tk{a0 r:Int}(h:KL a0=some r):
  Qqv 185 [.int .u64 a0] w (fun v w'=>v=No r):=by
 refine A1 8 [(0,.int .u64 a0)] func185 Z fun hL=>AJ 1 Z<|AD<|Gx<|Aw<|As<|Bu 1 Z<|Ax h fun e a h=>AF hL (RO _ _ (Ao hL) a) fun f d b c=>A7 1 Z<|Ay ?_
 cases h
 refine Am Z ⟨b.ext,Z⟩
def GG(a0:Int):Option Int:=
 if a0<1 then some (0) else Qq4 (KL (IntKind.u64.wrap a0)) (fun a=>AO (Bw (2 * a)) (AO (Bw ((2 * a) - 1)) (some (((2 * a) - 1)))))
theorem S0{a0 r:Int}(h:GG a0=some r):
  Qqv 134 [No a0] w (fun v w'=>v=No r):=by
 refine A1 10 [(0,No a0)] func134 Z fun hL=>AJ 1 Z<|AD<|AJ 2 Z<|AP h ?_ ?_<;>intro a h
 ·refine AJ 1 Z<|Ay<|Ar ?_
  cases h
  refine Am Z ⟨hL.ext,Z⟩
 refine Aw<|As<|Bu 1 Z<|Aj (Ld Z)<|Ax h fun i b h=>AF hL (Tk _ _ (Ao hL) b) fun j g c f=>Az h fun d h=>Aj (A5 d)<|Az h fun e h=>Aj (A5 e)<|A7 1 Z<|Ay ?_
 cases h
 refine Am Z ⟨c.ext,Z⟩
end
end Go.Proofs.YtekmbcbgknmhiaaGreatDoor
end
noncomputable section
namespace Go
abbrev AjP:=Int×(Int×Int)
end Go
namespace Go.Proofs.YtekmbcbgknmhiaaGreatDoor
open Go Go.E Go.RowKit Go.L
set_option maxHeartbeats 1000000
set_option maxRecDepth 10000
open _root_.Go.Proofs.Tryz
def Cu(a0:List Int)(a1:Pv):Option (Bool×Pv):=
 Qq4 (BD a0 a1.f.1) (fun a=>some (a,a1))
theorem DY{a w:World}{H:PH}(hH:Le H (hp a))(O:List BS)(a0:List Int)(a1:Pv){va0:Value}{ba1:Nat}{va1_2 va1_3 va1_4:Value}(hL:Bb a (Ha [.box ba1 [No a1.f.1,No a1.f.2.1,va1_2,va1_3,va1_4] 64] O) w)(l:AH (.int .i64) (gz H a w (Ha [.box ba1 [No a1.f.1,No a1.f.2.1,va1_2,va1_3,va1_4] 64] O)) va0 a0)(i:AH .byte (gz H a w (Ha [.box ba1 [No a1.f.1,No a1.f.2.1,va1_2,va1_3,va1_4] 64] O)) va1_2 (a1.f.2.2.1))(j:AH .st (gz H a w (Ha [.box ba1 [No a1.f.1,No a1.f.2.1,va1_2,va1_3,va1_4] 64] O)) va1_3 (a1.f.2.2.2.1))(k:AH .tree (gz H a w (Ha [.box ba1 [No a1.f.1,No a1.f.2.1,va1_2,va1_3,va1_4] 64] O)) va1_4 (a1.f.2.2.2.2)){r:Bool×Pv}(h:Cu a0 a1=some r):
  Ok prog 228 [va0,AaD ba1] w (fun v w'=>∃ (c:Value) (d:Value) (e:Value),v=.bool r.1/\Bb a (Ha [.box ba1 [No r.2.f.1,No r.2.f.2.1,c,d,e] 64] O) w'/\Le (fz w (Ha [.box ba1 [No a1.f.1,No a1.f.2.1,va1_2,va1_3,va1_4] 64] O)) (fz w' (Ha [.box ba1 [No r.2.f.1,No r.2.f.2.1,c,d,e] 64] O))/\AH .byte (gz H a w' (Ha [.box ba1 [No r.2.f.1,No r.2.f.2.1,c,d,e] 64] O)) c (r.2.f.2.2.1)/\AH .st (gz H a w' (Ha [.box ba1 [No r.2.f.1,No r.2.f.2.1,c,d,e] 64] O)) d (r.2.f.2.2.2.1)/\AH .tree (gz H a w' (Ha [.box ba1 [No r.2.f.1,No r.2.f.2.1,c,d,e] 64] O)) e (r.2.f.2.2.2.2)):=by
 refine Dq (n:=8) [(0,va0),(1,(AaD ba1))] func228 Z Z Z Z ?_;have hT:=Le.refl (fz w (Ha [.box ba1 [No a1.f.1,No a1.f.2.1,va1_2,va1_3,va1_4] 64] O));have b:=hL.rG H;refine AJ 1 Z<|Bu 1 Z<|Aj (Ae Z Ajk Z CO.e)<|Aj (Af 0 Z hL Z)<|Ax h fun q m h=>AF hL (HN _ _ (Ao hL) (l.mono b) m) fun s p o g=>A7 1 Z<|Ay ?_
 cases h
 refine Am Z ?_;have b:=b.trans (Aa g);have hT:=hT.trans g;exact⟨va1_2,va1_3,va1_4,Z,o,hT,(i.mono b),(j.mono b),(k.mono b)⟩
def HO:Option Int:=
 some (0)
def DE(b:List Ac3):Int->Option ((Int) ⊕ (Int)):=fun a=>
 if a<(b.length:Int) then AO (0<=a/\a<(b.length:Int)) (AO (0<=a/\a<=(b.length:Int)) (Qq4 (C1 (b.take a.toNat) (b.getD a.toNat Qq2)) (fun c=>if c then Qq7 Sum.inr (some (8)) else AO (Bw (a+1)) (some (Sum.inl (a+1)))))) else Qq7 Sum.inr HO
def Lm(a:List Ac3)(s:Int):Option Int:=Go.L.run (DE a) s
def BN(_c84 _c85:Int)(_c86:Ac3)(b:List Ac3)(d:List Pv)(a:Bool):Option Int:=
 if a then some (6) else(if 600<(d.length:Int) then some (14) else Qq4 (HA b) (fun c=>if c then some (7) else(Lm b) (0:Int)))
def Gn(g h:Int)(i:Ac3)(j:List Ac3)(e:List Pv)(d:Bool):Option Int:=
 if d then BN g h i j e d else(if 0<(e.length:Int) then Qq4 (Cu ([3,4]) (Pv.mk g h i j e)) (fun c=>if !c.1 then BN c.2.f.1 c.2.f.2.1 c.2.f.2.2.1 c.2.f.2.2.2.1 c.2.f.2.2.2.2 (!c.1) else Qq4 (Cu ([4]) c.2) (fun a=>if a.1 then BN a.2.f.1 a.2.f.2.1 a.2.f.2.2.1 a.2.f.2.2.2.1 a.2.f.2.2.2.2 (!decide ((a.2.f.2.2.2.1.length:Int)=(a.2.f.2.2.2.2.length:Int))) else BN a.2.f.1 a.2.f.2.1 a.2.f.2.2.1 a.2.f.2.2.2.1 a.2.f.2.2.2.2 false)) else Qq4 (Cu ([4]) (Pv.mk g h i j e)) (fun b=>if b.1 then BN b.2.f.1 b.2.f.2.1 b.2.f.2.2.1 b.2.f.2.2.2.1 b.2.f.2.2.2.2 (!decide ((b.2.f.2.2.2.1.length:Int)=(b.2.f.2.2.2.2.length:Int))) else BN b.2.f.1 b.2.f.2.1 b.2.f.2.2.1 b.2.f.2.2.2.1 b.2.f.2.2.2.2 false))
def Gp(d e:Int)(g:Ac3)(c:List Ac3)(h:List Pv)(b:Bool):Option Int:=
 if b then BN d e g c h b else(if 0<(c.length:Int) then Qq4 (Cu ([4]) (Pv.mk d e g c h)) (fun a=>Gn a.2.f.1 a.2.f.2.1 a.2.f.2.2.1 a.2.f.2.2.2.1 a.2.f.2.2.2.2 (!a.1)) else Gn d e g c h false)
def Gq(d e:Int)(c:Ac3)(g:List Ac3)(h:List Pv)(b:Bool):Option Int:=
 if b then BN d e c g h b else(if 0<(c.length:Int) then Qq4 (Cu ([2]) (Pv.mk d e c g h)) (fun a=>Gp a.2.f.1 a.2.f.2.1 a.2.f.2.2.1 a.2.f.2.2.2.1 a.2.f.2.2.2.2 (!a.1)) else Gp d e c g h false)
def GY(a0:Pv):Option Int:=
 Qq4 (Cu ([1,2,3,4]) a0) (fun b=>if !b.1 then some (5) else(if b.2.f.2.1=0 then Gq b.2.f.1 b.2.f.2.1 b.2.f.2.2.1 b.2.f.2.2.2.1 b.2.f.2.2.2.2 false else Qq4 (Cu ([1]) b.2) (fun a=>Gq a.2.f.1 a.2.f.2.1 a.2.f.2.2.1 a.2.f.2.2.2.1 a.2.f.2.2.2.2 (!a.1))))
section
variable(w:World)(H:PH)(hH:Le H (hp w)) include hH
theorem RP{a0:Pv}{cm cn co:Value}(eu:AH .byte H cm (a0.f.2.2.1))(ev:AH .st H cn (a0.f.2.2.2.1))(ew:AH .tree H co (a0.f.2.2.2.2)){r:Int}(h:GY a0=some r):
  Qqv 176 [.agg #[No a0.f.1,No a0.f.2.1,cm,cn,co]] w (fun v w'=>v=No r):=by
 refine A1 88 [(0,.agg #[No a0.f.1,No a0.f.2.1,cm,cn,co])] func176 Z fun hL=>Ak<|CB (t:=64) Z Z hL fun w1 b1 e3 fs _=>A7 1 Z<|AJ 2 Z<|AD<|A3<|Bu 1 Z<|B7 [1,2,3,4] (r:=(.int .i64)) (fun _=>Abj _ _ _ _ _) (hlen:=(BJ 4)) e3 (.c1 Z (.c1 Z (.c1 Z (.c1 Z .nil)))) fun v2 w2 gl e4 ft e5=>Ax h fun x3 e6 h=>Fk Z Z (DY hH [] ([1,2,3,4]) a0 e4 e5 (eu.mono  Ah) (ev.mono  Ah) (ew.mono  Ah) e6) ?_;rintro _ w4 ⟨ex,ey,ez,rfl,bz,fu,cq,cr,cs⟩;refine A7 2 Z<|B3 h ?_ ?_<;>intro e7 h
 ·have gm:=bz.rG H;refine AJ 1 Z<|Ay<|Av<|Ar ?_
  cases h
  refine Am Z ⟨bz.ext,Z⟩
 refine Bt (Int×Int×Ac3×(List Ac3)×(List Pv)×Bool×Value×Value×Value) (fun⟨b0,b2,b3,bp,b4,a7,ab,aa,ac⟩=>[(1,(AaD b1)),(12,.bool a7)]) (fun⟨b0,b2,b3,bp,b4,a7,ab,aa,ac⟩ wr=>Fl w [.box b1 [No b0,No b2,ab,aa,ac] 64] wr fun Oz=>AH .byte (gz H w wr Oz) ab b3/\AH .st (gz H w wr Oz) aa bp/\AH .tree (gz H w wr Oz) ac b4/\BN b0 b2 b3 bp b4 a7=some r) ?_ ?_
 ·refine Bt (Int×Int×Ac3×(List Ac3)×(List Pv)×Bool×Value×Value×Value) (fun⟨am,an,ao,ap,aq,x,ae,af,ag⟩=>[(1,(AaD b1)),(3,.func (.func 228) #[] #[AaD b1]),(12,.bool x)]) (fun⟨am,an,ao,ap,aq,x,ae,af,ag⟩ wr=>Fl w [.box b1 [No am,No an,ae,af,ag] 64] wr fun Oz=>AH .byte (gz H w wr Oz) ae ao/\AH .st (gz H w wr Oz) af ap/\AH .tree (gz H w wr Oz) ag aq/\Gq am an ao ap aq x=some r) ?_ ?_
  ·have m:=bz.rG H;refine Au<|Aj (Ae Z Ajk Z CO.e)<|Aj (Af 0 Z bz Z)<|Aq 2 Z<|Iw 16 h ?_ ?_<;>intro o h
   ·refine Ab o<|Aj (Ai Z)<|Ab o<|B7 [1] (r:=(.int .i64)) (fun _=>Jp _ _) bz (.c1 Z .nil) fun fv fw fe ds c7 dt=>Ab o<|Ax h fun bi du h=>?_;have m:=m.trans (Aa c7);refine Fk Z Z (DY hH [] ([1]) x3.2 ds dt (cq.mono m) (cr.mono m) (cs.mono m) du) ?_;rintro _ fx ⟨c8,c9,da,rfl,dv,e8,cx,cy,cz⟩;refine Ab o<|Aj (Ai Z)<|Aj (AB o Z)<|Aq 1 Z<|AL<|A8 (bi.2.f.1,bi.2.f.2.1,bi.2.f.2.2.1,bi.2.f.2.2.2.1,bi.2.f.2.2.2.2,!bi.1,c8,c9,da) ⟨dv,cx,cy,cz,h⟩
   iterate 4 refine An o ?_
   refine Aj (AM o Z)<|Aq 1 Z<|AL<|A8 (x3.2.f.1,x3.2.f.2.1,x3.2.f.2.2.1,x3.2.f.2.2.2.1,x3.2.f.2.2.2.2,false,ex,ey,ez) ⟨bz,(cq.mono m),(cr.mono m),(cs.mono m),h⟩
  rintro⟨am,an,ao,ap,aq,x,ae,af,ag⟩ ff ⟨a8,a9,bs,bt,h⟩;refine B3 h ?_ ?_<;>intro dw h
  ·refine Aw<|A8 (am,an,ao,ap,aq,x,ae,af,ag) ⟨a8,a9,bs,bt,h⟩
  refine Bt (Int×Int×Ac3×(List Ac3)×(List Pv)×Bool×Value×Value×Value) (fun⟨ar,au,av,aw,ax,y,ah,ai,aj⟩=>[(1,(AaD b1)),(3,.func (.func 228) #[] #[AaD b1]),(12,.bool y)]) (fun⟨ar,au,av,aw,ax,y,ah,ai,aj⟩ wr=>Fl w [.box b1 [No ar,No au,ah,ai,aj] 64] wr fun Oz=>AH .byte (gz H w wr Oz) ah av/\AH .st (gz H w wr Oz) ai aw/\AH .tree (gz H w wr Oz) aj ax/\Gp ar au av aw ax y=some r) ?_ ?_
  ·have j:=a8.rG H;refine Au<|Aj (Ae Z Ajk Z IK.e)<|Aj (Af 0 Z a8 Z)<|Aj (Bc (a9.mono j))<|Aq 2 Z<|BT 26 h ?_ ?_<;>intro p h
   ·refine Ab p<|Aj (Ai Z)<|Ab p<|B7 [2] (r:=(.int .i64)) (fun _=>Jp _ _) a8 (.c1 Z .nil) fun fy fz fg dx db dy=>Ab p<|Ax h fun bj dz h=>?_;have j:=j.trans (Aa db);refine Fk Z Z (DY hH [] ([2]) (Pv.mk am an ao ap aq) dx dy (a9.mono j) (bs.mono j) (bt.mono j) dz) ?_;rintro _ f0 ⟨dc,dd,de,rfl,d0,e9,c0,c2,c3⟩;refine Ab p<|Aj (Ai Z)<|Aj (AB p Z)<|Aq 1 Z<|AL<|A8 (bj.2.f.1,bj.2.f.2.1,bj.2.f.2.2.1,bj.2.f.2.2.2.1,bj.2.f.2.2.2.2,!bj.1,dc,dd,de) ⟨d0,c0,c2,c3,h⟩
   iterate 4 refine An p ?_
   refine Aj (AM p Z)<|Aq 1 Z<|AL<|A8 (am,an,ao,ap,aq,false,ae,af,ag) ⟨a8,(a9.mono j),(bs.mono j),(bt.mono j),h⟩
  rintro⟨ar,au,av,aw,ax,y,ah,ai,aj⟩ fh ⟨ba,bu,bb,bv,h⟩;refine B3 h ?_ ?_<;>intro d1 h
  ·refine Aw<|A8 (ar,au,av,aw,ax,y,ah,ai,aj) ⟨ba,bu,bb,bv,h⟩
  refine Bt (Int×Int×Ac3×(List Ac3)×(List Pv)×Bool×Value×Value×Value) (fun⟨ay,az,a2,a3,a4,z,bc,bd,be⟩=>[(1,(AaD b1)),(3,.func (.func 228) #[] #[AaD b1]),(12,.bool z)]) (fun⟨ay,az,a2,a3,a4,z,bc,bd,be⟩ wr=>Fl w [.box b1 [No ay,No az,bc,bd,be] 64] wr fun Oz=>AH .byte (gz H w wr Oz) bc a2/\AH .st (gz H w wr Oz) bd a3/\AH .tree (gz H w wr Oz) be a4/\Gn ay az a2 a3 a4 z=some r) ?_ ?_
  ·have k:=ba.rG H;refine Au<|Aj (Ae Z Ajk Z Nd.e)<|Aj (Af 0 Z ba Z)<|Aj (Bc (bb.mono k))<|Aq 2 Z<|BT 36 h ?_ ?_<;>intro q h
   ·refine Ab q<|Aj (Ai Z)<|Ab q<|B7 [4] (r:=(.int .i64)) (fun _=>Jp _ _) ba (.c1 Z .nil) fun f1 f2 fi d2 df d3=>Ab q<|Ax h fun bk d4 h=>?_;have k:=k.trans (Aa df);refine Fk Z Z (DY hH [] ([4]) (Pv.mk ar au av aw ax) d2 d3 (bu.mono k) (bb.mono k) (bv.mono k) d4) ?_;rintro _ f3 ⟨dg,dh,di,rfl,d5,fa,c4,c5,c6⟩;refine Ab q<|Aj (Ai Z)<|Aj (AB q Z)<|Aq 1 Z<|AL<|A8 (bk.2.f.1,bk.2.f.2.1,bk.2.f.2.2.1,bk.2.f.2.2.2.1,bk.2.f.2.2.2.2,!bk.1,dg,dh,di) ⟨d5,c4,c5,c6,h⟩
   iterate 4 refine An q ?_
   refine Aj (AM q Z)<|Aq 1 Z<|AL<|A8 (ar,au,av,aw,ax,false,ah,ai,aj) ⟨ba,(bu.mono k),(bb.mono k),(bv.mono k),h⟩
  rintro⟨ay,az,a2,a3,a4,z,bc,bd,be⟩ fj ⟨bf,bw,bx,bg,h⟩;refine B3 h ?_ ?_<;>intro d6 h
  ·refine Aw<|A8 (ay,az,a2,a3,a4,z,bc,bd,be) ⟨bf,bw,bx,bg,h⟩
  have a:=bf.rG H;refine Ak<|Aj (Ae Z Ajk Z YK.e)<|Aj (Af 0 Z bf Z)<|Aj (Bc (bg.mono a))<|Aq 2 Z<|BT 46 h ?_ ?_<;>intro s h
  ·refine Ab s<|Aj (Ai Z)<|Ab s<|B7 [3,4] (r:=(.int .i64)) (fun _=>Abi _ _ _) (hlen:=(BJ 2)) bf (.c1 Z (.c1 Z .nil)) fun f4 f5 fk d7 dj d8=>Ab s<|Ax h fun a5 d9 h=>?_;have a:=a.trans (Aa dj);refine Fk Z Z (DY hH [] ([3,4]) (Pv.mk ay az a2 a3 a4) d7 d8 (bw.mono a) (bx.mono a) (bg.mono a) d9) ?_;rintro _ f6 ⟨dk,dl,dm,rfl,cc,fb,b5,b6,b7⟩;refine Ab s<|Aj (Ai Z)<|Aj (AB s Z)<|A7 1 Z<|B3 h ?_ ?_<;>intro ea h
   ·refine Aw<|A8 (a5.2.f.1,a5.2.f.2.1,a5.2.f.2.2.1,a5.2.f.2.2.2.1,a5.2.f.2.2.2.2,!a5.1,dk,dl,dm) ⟨cc,b5,b6,b7,h⟩
   have bh:=cc.rG H;refine Au<|Aq 1 Z<|B7 [4] (r:=(.int .i64)) (fun _=>Jp _ _) cc (.c1 Z .nil) fun f7 f8 fl eb dn ec=>Ax h fun g ed h=>?_;have bh:=bh.trans (Aa dn);refine Fk Z Z (DY hH [] ([4]) a5.2 eb ec (b5.mono bh) (b6.mono bh) (b7.mono bh) ed) ?_;rintro _ f9 ⟨cg,ch,ci,rfl,bq,fc,b8,bl,bm⟩;refine Aq 1 Z<|ED 55 h ?_ ?_<;>intro b h
   ·refine Ab b<|Aj (Ae Z Ajk Z Nd.e)<|Ab b<|Aj (Af 0 Z bq Z)<|Ab b<|Aj (Bc bl)<|Ab b<|Aj (Ae Z Ajk Z YK.e)<|Ab b<|Aj (Af 0 Z bq Z)<|Ab b<|Aj (Bc bm)<|Ab b<|Aj (Ai Z)<|Aj (AB b Z)<|Aq 1 Z<|AL<|A8 (g.2.f.1,g.2.f.2.1,g.2.f.2.2.1,g.2.f.2.2.2.1,g.2.f.2.2.2.2,!decide ((g.2.f.2.2.2.1.length:Int)=(g.2.f.2.2.2.2.length:Int)),cg,ch,ci) ⟨bq,b8,bl,bm,h⟩
   iterate 7 refine An b ?_
   refine Aj (AM b Z)<|Aq 1 Z<|AL<|A8 (g.2.f.1,g.2.f.2.1,g.2.f.2.2.1,g.2.f.2.2.2.1,g.2.f.2.2.2.2,false,cg,ch,ci) ⟨bq,b8,bl,bm,h⟩
  iterate 4 refine An s ?_
  refine Aj (AM s Z)<|A7 1 Z<|Gx<|Au<|Aq 1 Z<|B7 [4] (r:=(.int .i64)) (fun _=>Jp _ _) bf (.c1 Z .nil) fun ga gb fm ee dp ef=>Ax h fun i eg h=>?_;have a:=a.trans (Aa dp);refine Fk Z Z (DY hH [] ([4]) (Pv.mk ay az a2 a3 a4) ee ef (bw.mono a) (bx.mono a) (bg.mono a) eg) ?_;rintro _ gc ⟨cj,ck,cl,rfl,br,fd,b9,bn,bo⟩;refine Aq 1 Z<|ED 55 h ?_ ?_<;>intro c h
  ·refine Ab c<|Aj (Ae Z Ajk Z Nd.e)<|Ab c<|Aj (Af 0 Z br Z)<|Ab c<|Aj (Bc bn)<|Ab c<|Aj (Ae Z Ajk Z YK.e)<|Ab c<|Aj (Af 0 Z br Z)<|Ab c<|Aj (Bc bo)<|Ab c<|Aj (Ai Z)<|Aj (AB c Z)<|Aq 1 Z<|AL<|A8 (i.2.f.1,i.2.f.2.1,i.2.f.2.2.1,i.2.f.2.2.2.1,i.2.f.2.2.2.2,!decide ((i.2.f.2.2.2.1.length:Int)=(i.2.f.2.2.2.2.length:Int)),cj,ck,cl) ⟨br,b9,bn,bo,h⟩
  iterate 7 refine An c ?_
  refine Aj (AM c Z)<|Aq 1 Z<|AL<|A8 (i.2.f.1,i.2.f.2.1,i.2.f.2.2.1,i.2.f.2.2.2.1,i.2.f.2.2.2.2,false,cj,ck,cl) ⟨br,b9,bn,bo,h⟩
 rintro⟨b0,b2,b3,bp,b4,a7,ab,aa,ac⟩ gd ⟨ad,eh,cd,ct,h⟩;refine B3 h ?_ ?_<;>intro ei h
 ·have fn:=ad.rG H;refine AJ 1 Z<|Ay<|Av<|Ar ?_
  cases h
  refine Am Z ⟨ad.ext,Z⟩
 have u:=ad.rG H;refine Ak<|Aj (Ae Z Ajk Z YK.e)<|Aj (Af 0 Z ad Z)<|Aj (Bc (ct.mono u))<|A7 2 Z<|AP h ?_ ?_<;>intro ej h
 ·refine AJ 1 Z<|Ay<|Av<|Ar ?_
  cases h
  refine Am Z ⟨ad.ext,Z⟩
 refine Ak<|Aj (Ae Z Ajk Z Nd.e)<|Aj (Af 0 Z ad Z)<|Ax h fun ge ek h=>AF ad (Ro _ _ (Ao ad) (cd.mono u) ek) fun gf fo ce dq=>A7 1 Z<|B3 h ?_ ?_<;>intro el h
 ·refine AJ 1 Z<|Ay<|Av<|Ar ?_
  cases h
  refine Am Z ⟨ce.ext,Z⟩
 refine Aw<|A2<|As<|Bt Unit (fun(_:Unit)=>[]) (fun(_:Unit) wr=>Fl w [.box b1 [No b0,No b2,ab,aa,ac] 64] wr fun Oz=>AH .byte (gz H w wr Oz) ab b3/\AH .st (gz H w wr Oz) aa bp/\AH .tree (gz H w wr Oz) ac b4/\HO=some r) ?_ ?_
 ·refine Ak<|Aj (Ae Z Ajk Z Nd.e)<|Aj (Af 0 Z ce Z) ?_;have u:=u.trans (Aa dq);refine Aj (Bc (cd.mono u))<|A7 1 Z<|A3 ?_;obtain⟨cp,h⟩:=Ba h;refine B6 (Int×Nat) (fun⟨d,n⟩=>[(1,(AaD b1)),(74,aa),(75,No (bp.length:Int)),(76,No d)]) (fun⟨d,n⟩ wr=>Fl w [.box b1 [No b0,No b2,ab,aa,ac] 64] wr fun Oz=>AH .st (gz H w wr Oz) aa bp/\AH .byte (gz H w wr Oz) ab b3/\AH .tree (gz H w wr Oz) ac b4/\HG (DE bp) n d=some r) (fun⟨d,n⟩=>n) (0,cp) Z ⟨ce,(cd.mono u),(eh.mono u),(ct.mono u),h⟩ ?_;rintro⟨d,nn258⟩ fp ⟨ak,al,ca,cb,h⟩;obtain⟨cp,gg,rfl,h,cf⟩:=AY h;have e:=ak.rG H;refine AJ 1 Z<|AD<|AP h ?_ ?_<;>intro em h
  ·refine Aw<|As<|AD<|A3<|Bu 1 Z<|Az h fun cu h=>Bf (al.mono e) d.toNat (Gy cu) (AW cu) ?_;rintro gh _ rfl en;refine Aj (Bl en (Ao ak))<|A7 2 Z<|Ak<|Aj (Ae Z Ajk Z Nd.e)<|Aj (Af 0 Z ak Z)<|Aq 1 Z<|Az h fun eo h=>UP (al.mono e) eo fun gi ep=>Aq 1 Z<|Ax h fun gj eq h=>AF ak (LK _ _ (Ao ak) ep eq) fun gk fq cv dr=>Ac<|B3 h ?_ ?_<;>intro er h
   ·refine AJ 1 Z<|Ay<|Av<|Ar<|BG ?_;have h:=Cg.out h cf;refine Av<|Bh ?_
    cases h
    refine Am Z ⟨cv.ext,Z⟩
   refine Aw<|A2<|As<|Au<|Az h fun es h=>Aj (A5 es)<|Aq 1 Z<|AL ?_;have h:=Cg.again h cf;have e:=e.trans (Aa dr);refine AN (_,_) Z ⟨cv,(al.mono e),(ca.mono e),(cb.mono e),h⟩
  refine B4<|AE<|A6 ?_;have h:=Cg.out h cf;refine Bi<|A8 () ⟨ak,(ca.mono e),(al.mono e),(cb.mono e),h⟩
 rintro _ fr ⟨et,e0,e1,e2,h⟩;refine AJ 1 Z<|Ay ?_
 cases h
 refine Am Z ⟨et.ext,Z⟩
end
def He(a:Int):Option AjP:=
 some (a,(0,0))
def CH(a0:Pv)(a2:Int)(self:Pv->Int->Int->Option AjP):Int×Int->Option ((Int×Int) ⊕ AjP):=fun⟨c,a⟩=>
 if a<(a0.f.2.2.2.2.length:Int) then AO (0<=a/\a<(a0.f.2.2.2.2.length:Int)) (AO (Bw (a2+1)) (Qq4 (self (a0.f.2.2.2.2.getD a.toNat Qq2) c (a2+1)) (fun b=>if b.2.1=0/\b.2.2=0 then AO (Bw (a+1)) (some (Sum.inl (b.1,(a+1)))) else Qq7 Sum.inr (some (0,(b.2.1,b.2.2)))))) else Qq7 Sum.inr (He c)
def K3(a0:Pv)(a2:Int)(self:Pv->Int->Int->Option AjP)(s:Int×Int):Option AjP:=Go.L.run (CH a0 a2 self) s
def Ek(self:Pv->Int->Int->Option AjP)(a0:Pv)(a1 a2:Int):Option AjP:=
 if(600<=a1)\/(10<a2) then Qq4 (Lv (2:Int) a1) (fun b=>some (0,(b.1,b.2))) else Qq4 (GY a0) (fun c=>if c=0 then AO (Bw (a1+1)) ((K3 a0 a2 self) ((a1+1),0)) else Qq4 (Lv c a1) (fun a=>some (0,(a.1,a.2))))
def KM(self:Pv->Int->Int->Option AjP):Prop:=∀ (w:World) (H:PH) (hH:Le H (hp w)) {a0:Pv} {a1:Int} {a2:Int} {a:Value} {b:Value} {c:Value} (d:AH .byte H a (a0.f.2.2.1)) (e:AH .st H b (a0.f.2.2.2.1)) (g:AH .tree H c (a0.f.2.2.2.2)) {r:Int×(Int×Int)} (h:self a0 a1 a2=some r),Ok prog 125 [.agg #[No a0.f.1,No a0.f.2.1,a,b,c],No a1,No a2] w (fun v w'=>Ext w w'/\v=.tuple #[No r.1,.agg #[No r.2.1,No r.2.2]])
def Fo:Nat->Pv->Int->Int->Option AjP
 | 0=>fun _ _ _=>none
 | n+1=>Ek (Fo n)
def MV:Pv->Int->Int->Option AjP:=Fo 1000
theorem Rr(self:Pv->Int->Int->Option AjP)(hself:KM self):KM (Ek self):=by
 intro w H hH a0 a1 a2 l m d an ao o r h;unfold KM at hself;refine A1 52 [(0,.agg #[No a0.f.1,No a0.f.2.1,l,m,d]),(1,No a1),(2,No a2)] func125 Z fun hL=>Ak<|CB (t:=64) Z Z hL fun w1 b1 a5 bl _=>Aq 1 Z<|AA AG.e Z a5 fun w2 b2 k bm _=>Ac<|AD<|Bu 3 Z<|Ys 2 2 Z Z Z Z Z Z<|Ac<|AP h ?_ ?_<;>intro a6 h
 ·refine Bu 1 Z<|Ax h fun x5 a7 h=>AF k (NM _ _ (Ao k) a7) fun w6 b4 a8 bn=>Aq 1 Z<|Ag 0 Z a8 Z fun w7 am bo=>Ac<|Ay<|Ar ?_
  cases h
  refine Bv (.tmp Z) (.cell Z Aji Z AG.e (AK (i:=0) am Z)) ⟨am.ext,Z⟩
 refine Aw<|As<|AD<|Ak<|Aj (A4 1 Z HK.e k Z)<|Ax h fun x9 a9 h=>AF k (RP (a0:=a0) _ _ (Ao k) (an.mono  Ah) (ao.mono  Ah) (o.mono  Ah) a9) fun b5 bp e bf=>A7 1 Z<|AJ 2 Z<|CP h ?_ ?_<;>intro ap h
 ·refine Bu 2 Z<|Ax h fun b6 aq h=>AF e (NM _ _ (Ao e) aq) fun b7 bq ar bg=>Aq 1 Z<|Ag 0 Z ar Z fun b8 y bh=>Ac<|Ay<|Ar ?_
  cases h
  refine Bv (.tmp Z) (.cell Z Aji Z AG.e (AK (i:=0) y Z)) ⟨y.ext,Z⟩
 refine Aw<|As<|Bu 1 Z<|Az h fun au h=>Aj (A5 au)<|A7 1 Z<|Bt Int (fun c=>[(7,(AaD b2)),(9,No c)]) (fun c wr=>Bb w [.box b2 [No 0,No 0] 28,.box b1 [No a0.f.1,No a0.f.2.1,l,m,d] 64] wr/\He c=some r) ?_ ?_
 ·refine Ak<|Aj (Ae Z Ajk Z YK.e)<|Aj (Af 1 Z e Z)<|Aj (Bc o)<|A7 1 Z<|A3 ?_;obtain⟨z,h⟩:=Ba h;refine B6 (Int×Int×Nat) (fun⟨b,a,n⟩=>[(2,No a2),(7,(AaD b2)),(9,No b),(31,d),(32,No (a0.f.2.2.2.2.length:Int)),(33,No a)]) (fun⟨b,a,n⟩ wr=>Bb w [.box b2 [No 0,No 0] 28,.box b1 [No a0.f.1,No a0.f.2.1,l,m,d] 64] wr/\HG (CH a0 a2 self) n (b,a)=some r) (fun⟨b,a,n⟩=>n) ((a1+1),0,z) Z ⟨e,h⟩ ?_;rintro⟨b,a,nn92⟩ br ⟨p,h⟩;obtain⟨z,b9,rfl,h,s⟩:=AY h;refine AJ 1 Z<|AD<|AP h ?_ ?_<;>intro av h
  ·refine Aw<|As<|AD<|A3<|Ak<|Az h fun aa h=>Bf o a.toNat (Gy aa) (AW aa) ?_;rintro ca _ e96t0 aw;obtain⟨_,_,rfl,rfl,⟨_,_,rfl,rfl,⟨_,_,rfl,⟨e96v2,rfl,e96h2⟩,⟨_,_,rfl,⟨e96v3,rfl,e96h3⟩,⟨e96v4,rfl,e96h4⟩⟩⟩⟩⟩:=Go.E.Rp.OJ e96t0;refine Aj (Cx aw (hH.trans p.arg))<|AA HK.e Z p fun cb cc ax bi _=>Ag 0 Z ax Z (a:=(Br Z (Br Z (Br e96h2.one (Br e96h3.one (Br e96h4.one K9)))))) fun cd ay bj=>Ac<|Ak<|AA AG.e Z ay fun bs bt g ba _=>Ac<|Ak<|Aj (A4 1 Z HK.e g Z)<|Aq 2 Z<|Az h fun ac h=>Aj (A5 ac)<|Ax h fun az ad h=>AF g (hself _ _ (Ao g) (e96h2.mono  Ah) (e96h3.mono  Ah) (e96h4.mono  Ah) ad) fun bu bk ae bb=>Aq 4 Z<|Ag 0 Z ae Z fun bv j bc=>Ac<|Ak<|Aj (A4 0 Z AG.e j Z)<|Aj (AT (fun _=>BM _)) ?_
   refine Aj (JO J2 (Nf _ _ _ _))<|Ac<|CP h ?_ ?_<;>intro af h
   ·refine Eu (.q 0 (.q 1 (.tail 2))) mixed Qqb (fun bw ag=>?_);have u:=j.call ag;refine CF Z (A4 0 Z AG.e u Z) Z<|D4 1 Z<|BU (fun bx ah=>?_);have ai:=u.call ah;refine Ag 2 Z ai Z fun bz v bd=>Ac<|Ay<|Av<|Ar<|BG ?_;have h:=Cg.out h s;refine Av<|Bh ?_
    cases h
    refine Bv (.tmp Z) (.cell Z Aji Z AG.e (AK (i:=2) v Z)) ⟨v.ext,Z⟩
   refine Aw<|A2<|As<|Au<|Az h fun aj h=>Aj (A5 aj)<|Aq 1 Z<|AL ?_;have ak:=j.AS (i:=0) Z;have al:=ak.AS (i:=0) Z;have h:=Cg.again h s;refine AN (_,_,_) Z ⟨al,h⟩
  refine B4<|AE<|A6 ?_;have h:=Cg.out h s;refine Bi<|A8 _ ⟨p,h⟩
 rintro c b0 ⟨a3,h⟩;refine Bu 1 Z<|Aj (AT (fun _=>BM _))<|Aq 1 Z<|Ag 0 Z a3 Z fun b3 x be=>Ac<|Ay ?_
 cases h
 refine Bv (.tmp Z) (.cell Z Aji Z AG.e (AK (i:=0) x Z)) ⟨x.ext,Z⟩
theorem Tl(n:Nat):KM (Fo n):=by
 induction n with
 | zero=>unfold KM;intros;rename_i h;cases h
 | succ n ih=>exact Rr (Fo n) ih
section
variable(w:World)(H:PH)(hH:Le H (hp w)) include hH
theorem Vn{a0:Pv}{a1 a2:Int}{a b c:Value}(d:AH .byte H a (a0.f.2.2.1))(e:AH .st H b (a0.f.2.2.2.1))(g:AH .tree H c (a0.f.2.2.2.2)){r:Int×(Int×Int)}(h:MV a0 a1 a2=some r):Ok prog 125 [.agg #[No a0.f.1,No a0.f.2.1,a,b,c],No a1,No a2] w (fun v w'=>Ext w w'/\v=.tuple #[No r.1,.agg #[No r.2.1,No r.2.2]]):=Tl 1000 w H hH d e g h
def JW(b:Ac3)(a:Int):Option Ac3:=
 AO (Go.E.Io 1 (b.length+([(Go.L.u8 a)]).length)) (some ((b++[(Go.L.u8 a)])))
def FU:Ac3×Int->Option ((Ac3×Int) ⊕ (Ac3)):=fun⟨b,a⟩=>
 if 128<=a then AO (Go.E.Io 1 (b.length+([((Go.L.u8 a) ||| (128:UInt8))]).length)) (some (Sum.inl ((b++[((Go.L.u8 a) ||| (128:UInt8))]),(a / 128)))) else Qq7 Sum.inr (JW b a)
def LL(s:Ac3×Int):Option Ac3:=Go.L.run FU s
def DZ(a0:Int):Option Ac3:=
 AO ((0<=(IntKind.u64.wrap ((IntKind.u64.wrap a0) * 2))/\(IntKind.u64.wrap ((IntKind.u64.wrap a0) * 2))<2 ^ 64)/\(0<=(IntKind.u64.wrap (a0 / 9223372036854775808))/\(IntKind.u64.wrap (a0 / 9223372036854775808))<2 ^ 64)) (LL (([]:Ac3),(((IntKind.u64.wrap ((IntKind.u64.wrap a0) * 2)).toNat ^^^ (IntKind.u64.wrap (a0 / 9223372036854775808)).toNat:Nat):Int)))
theorem BX{a0:Int}{r:Ac3}(h:DZ a0=some r):
  Qqv 177 [No a0] w (fun v w'=>∃ u0,v=u0/\Ck 5 .byte H w w' u0 r):=by
 refine A1 27 [(0,No a0)] func177 Z fun hL=>AJ 1 Z<|Bu 1 Z<|Aj (Ld Z)<|Aj (Ai1 (c:=1) (m:=2) Z Z Qqc Z)<|Aq 1 Z<|Aj (UK (c:=63) (m:=9223372036854775808) Z Z Qqc)<|Aj (Ld Z)<|Az h fun an h=>Aj (AhK Z an)<|A7 1 Z<|Bu 1 Z ?_;obtain⟨ao,av,ap⟩:=DS .byte H 5 hL;refine Ac<|Bt (Ac3×Int×Value×(List Value)) (fun⟨o,d,p,j⟩=>[(3,.int .u64 d),(4,p)]) (fun⟨o,d,p,j⟩ wr=>Fl w [.row p 5 1 (o).length j] wr fun Oz=>AI .byte (gz H w wr Oz) o j/\JW o d=some r) ?_ ?_
 ·refine A3 ?_;obtain⟨s,h⟩:=Ba h;refine B6 (Ac3×Int×Value×(List Value)×Nat) (fun⟨f,a,g,e,n⟩=>[(3,.int .u64 a),(4,g)]) (fun⟨f,a,g,e,n⟩ wr=>Fl w [.row g 5 1 (f).length e] wr fun Oz=>AI .byte (gz H w wr Oz) f e/\HG FU n (f,a)=some r) (fun⟨f,a,g,e,n⟩=>n) (([]:Ac3),(((IntKind.u64.wrap ((IntKind.u64.wrap a0) * 2)).toNat ^^^ (IntKind.u64.wrap (a0 / 9223372036854775808)).toNat:Nat):Int),Aa4,[],s) Z ⟨ao,ap,h⟩ ?_;rintro⟨f,a,g,e,nn33⟩ aw ⟨t,k,h⟩;obtain⟨s,a2,rfl,h,u⟩:=AY h;refine AD<|AJ 2 Z<|AP h ?_ ?_<;>intro aa h
  ·refine Aw<|As<|AD<|A3<|Au<|Aq 2 Z<|Aj (Ld (NG _))<|Aj (AcZ (b:=128) Z Z Z)<|B7 [((Go.L.u8 a) ||| (128:UInt8))] (r:=.byte) (fun _=>Sr _ _) t (.c1 Z .nil) fun a3 a4 ax ab y ac=>Az h fun ad h=>?_;have k:=k.mono (Aa y);refine By (r:=.byte) 0 f [((Go.L.u8 a) ||| (128:UInt8))] Z Afr ab Z k ac ad fun aq a5 ae af ar ag=>Aq 1 Z<|AL<|A2<|As<|Au<|Aq 1 Z<|Aj (UK (c:=7) (m:=128) Z Z Qqc)<|Aq 1 Z<|AL ?_;have h:=Cg.again h u;refine AN (_,_,_,_,_) Z ⟨af,ag,h⟩
  refine B4<|AE<|A6 ?_;have h:=Cg.out h u;refine Bi<|A8 (_,_,_,_) ⟨t,k,h⟩
 rintro⟨o,d,p,j⟩ ay ⟨ah,q,h⟩;refine Bu 2 Z<|Aj (Ld (NG _))<|B7 [(Go.L.u8 d)] (r:=.byte) (fun _=>Sr _ _) ah (.c1 Z .nil) fun a6 a7 az ai z aj=>Az h fun ak h=>?_;have q:=q.mono (Aa z);refine By (r:=.byte) 0 o [(Go.L.u8 d)] Z Afr ai Z q aj ak fun a8 a9 a1 x au al=>A7 1 Z<|Ay ?_
 cases h
 refine Am Z ⟨x.ext,_,Z,(x.Ip hH (i:=0) Z al)⟩
def HP(a0:Ac3):Option Ac3:=
 Qq4 (DZ (a0.length:Int)) (fun a=>AO (Go.E.Io 1 (a.length+a0.length)) (some ((a++a0))))
theorem Fp{a0:Ac3}{a:Value}(b:AH .byte H a a0){r:Ac3}(h:HP a0=some r):
  Qqv 178 [a] w (fun v w'=>∃ g,v=g/\Ck 5 .byte H w w' g r):=by
 refine A1 8 [(0,a)] func178 Z fun hL=>AJ 1 Z<|Bu 1 Z<|Aj (Bc b)<|Ax h fun s j h=>Bk hL (BX _ _ (Ao hL) j) ?_;rintro t z ⟨_,rfl,c⟩ k d f;obtain⟨x,d,f,o⟩:=c.take hH hL k;refine Aq 1 Z<|Az h fun p h=>By (r:=.byte) 0 s a0 Z Afr d Z o (b.mono  Ah) p fun v3 w3 y e u q=>A7 1 Z<|Ay ?_
 cases h
 refine Am Z ⟨e.ext,_,Z,(e.Ip hH (i:=0) Z q)⟩
end
def Ea(a0:Pv)(a:Int)(self:Pv->Option Ac3)(b:Ac3):Option ((Ac3×Int) ⊕ (Ac3)):=
 Qq4 (self (a0.f.2.2.2.2.getD a.toNat Qq2)) (fun c=>AO (Go.E.Io 1 (b.length+c.length)) (AO (Bw (a+1)) (some (Sum.inl ((b++c),(a+1))))))
def GH(a:Ac3):Option Ac3:=
 some a
def Ce(a0:Pv)(self:Pv->Option Ac3):Ac3×Int->Option ((Ac3×Int) ⊕ (Ac3)):=fun⟨b,a⟩=>
 if a<(a0.f.2.2.2.2.length:Int) then AO (0<=a/\a<(a0.f.2.2.2.2.length:Int)) (if a0.f.1=4 then AO (0<=a/\a<(a0.f.2.2.2.1.length:Int)) (AO ((a0.f.2.2.2.1.getD a.toNat Qq2).length<=9223372036854775807) (Qq4 (HP (a0.f.2.2.2.1.getD a.toNat Qq2)) (fun c=>AO (Go.E.Io 1 (b.length+c.length)) ((Ea a0 a self) (b++c))))) else(Ea a0 a self) b) else Qq7 Sum.inr (GH b)
def JX(a0:Pv)(self:Pv->Option Ac3)(s:Ac3×Int):Option Ac3:=Go.L.run (Ce a0 self) s
def Fu(self:Pv->Option Ac3)(a0:Pv):Option Ac3:=
 Qq4 (DZ a0.f.1) (fun a=>if a0.f.1=1 then Qq4 (DZ a0.f.2.1) (fun d=>AO (Go.E.Io 1 (a.length+d.length)) (some ((a++d)))) else(if a0.f.1=2 then Qq4 (HP a0.f.2.2.1) (fun b=>AO (Go.E.Io 1 (a.length+b.length)) (some ((a++b)))) else Qq4 (DZ (a0.f.2.2.2.2.length:Int)) (fun c=>AO (Go.E.Io 1 (a.length+c.length)) ((JX a0 self) ((a++c),0)))))
def JY(self:Pv->Option Ac3):Prop:=∀ (w:World) (H:PH) (hH:Le H (hp w)) {a0:Pv} {a:Value} {b:Value} {c:Value} (e:AH .byte H a (a0.f.2.2.1)) (g:AH .st H b (a0.f.2.2.2.1)) (i:AH .tree H c (a0.f.2.2.2.2)) {r:Ac3} (h:self a0=some r),Ok prog 126 [.agg #[No a0.f.1,No a0.f.2.1,a,b,c]] w (fun v w'=>Ext w w'/\∃ d,v=d/\Ck 5 .byte H w w' d r)
def Fv:Nat->Pv->Option Ac3
 | 0=>fun _=>none
 | n+1=>Fu (Fv n)
def LM:Pv->Option Ac3:=Fv 1000
theorem Q3(self:Pv->Option Ac3)(hself:JY self):JY (Fu self):=by
 intro w H hH a0 ad ae s b9 ca an r h;unfold JY at hself;refine A1 57 [(0,.agg #[No a0.f.1,No a0.f.2.1,ad,ae,s])] func126 Z fun hL=>Ak<|CB (t:=64) Z Z hL fun w1 b1 ap da _=>A7 1 Z<|Ak<|Aj (Ae Z Ajk Z CO.e)<|Aj (Af 0 Z ap Z)<|Ax h fun x2 ct h=>Bk ap (BX _ _ (Ao ap) ct) ?_;rintro db w3 ⟨_,rfl,bd⟩ cu d cb;obtain⟨dr,d,cb,k⟩:=bd.take hH ap cu;refine A7 1 Z<|AD<|Ak<|Aj (Ae Z Ajk Z CO.e)<|Aj (Af 1 Z d Z)<|Ac<|A3<|AJ 2 Z<|AP h ?_ ?_<;>intro cv h
 ·refine Bu 1 Z<|Aj (Ae Z Ajk Z CO.e)<|Aj (Af 1 Z d Z)<|Ax h fun x6 cw h=>Bk d (BX _ _ (Ao d) cw) ?_;rintro dd w7 ⟨_,rfl,be⟩ cx cy cc;have af:=be.Dz hH d cx;have k:=k.mono (Aa cc);refine Az h fun cz h=>By (r:=.byte) 0 x2 x6 Z Afr cy Z k af cz ?_;intro v8 w8 ds b7 cd c0;have af:=af.mono (Aa cd);refine A7 1 Z<|Ay<|Av<|Ar ?_
  cases h
  refine Am Z ⟨b7.ext,_,Z,(b7.Ip hH (i:=0) Z c0)⟩
 refine AJ 2 Z<|AP h ?_ ?_<;>intro ce h
 ·refine Bu 1 Z<|Aj (Ae Z Ajk Z IK.e)<|Aj (Af 1 Z d Z)<|Ax h fun c1 cf h=>Bk d (Fp _ _ (Ao d) (b9.mono  Ah) cf) ?_;rintro c5 dt ⟨_,rfl,ay⟩ cg ch bf;have aa:=ay.Dz hH d cg;have k:=k.mono (Aa bf);refine Az h fun ci h=>By (r:=.byte) 0 x2 c1 Z Afr ch Z k aa ci ?_;intro du dv de az bg cj;have aa:=aa.mono (Aa bg);refine A7 1 Z<|Ay<|Av<|Ar ?_
  cases h
  refine Am Z ⟨az.ext,_,Z,(az.Ip hH (i:=0) Z cj)⟩
 refine Aw<|A2<|As<|Bu 1 Z<|Aj (Ae Z Ajk Z YK.e)<|Aj (Af 1 Z d Z)<|Aj (Bc an)<|Ax h fun b8 ck h=>Bk d (BX _ _ (Ao d) ck) ?_;rintro c6 dw ⟨_,rfl,a1⟩ cl cm bh;have ab:=a1.Dz hH d cl;have k:=k.mono (Aa bh);refine Az h fun cn h=>By (r:=.byte) 0 x2 b8 Z Afr cm Z k ab cn ?_;intro c2 dx co a2 bi cp;have ab:=ab.mono (Aa bi);refine A7 1 Z<|Bt (Ac3×Value×(List Value)) (fun⟨ak,ag,x⟩=>[(3,ag)]) (fun⟨ak,ag,x⟩ wr=>Fl w [.row ag 5 1 (ak).length x,.box b1 [No a0.f.1,No a0.f.2.1,ad,ae,s] 64] wr fun Oz=>AI .byte (gz H w wr Oz) ak x/\GH ak=some r) ?_ ?_
 ·refine Ak<|Aj (Ae Z Ajk Z YK.e)<|Aj (Af 1 Z a2 Z)<|Aj (Bc an)<|A7 1 Z<|A3 ?_;obtain⟨ao,h⟩:=Ba h;refine B6 (Ac3×Int×Value×(List Value)×Nat) (fun⟨e,a,g,c,n⟩=>[(1,(AaD b1)),(3,g),(32,s),(33,No (a0.f.2.2.2.2.length:Int)),(34,No a)]) (fun⟨e,a,g,c,n⟩ wr=>Fl w [.row g 5 1 (e).length c,.box b1 [No a0.f.1,No a0.f.2.1,ad,ae,s] 64] wr fun Oz=>AI .byte (gz H w wr Oz) e c/\HG (Ce a0 self) n (e,a)=some r) (fun⟨e,a,g,c,n⟩=>n) ((x2++b8),0,c2,co,ao) Z ⟨a2,cp,h⟩ ?_;rintro⟨e,a,g,c,nn108⟩ c7 ⟨ah,b,h⟩;obtain⟨ao,cq,rfl,h,aq⟩:=AY h;refine AJ 1 Z<|AD<|AP h ?_ ?_<;>intro bj h
  ·refine Aw<|As<|AD<|A3<|Bu 1 Z<|Az h fun ar h=>Bf an a.toNat (Gy ar) (AW ar) ?_;rintro df _ e112t0 bk;obtain⟨_,_,rfl,rfl,⟨_,_,rfl,rfl,⟨_,_,rfl,⟨e112v2,rfl,e112h2⟩,⟨_,_,rfl,⟨e112v3,rfl,e112h3⟩,⟨e112v4,rfl,e112h4⟩⟩⟩⟩⟩:=Go.E.Rp.OJ e112t0;refine Aj (Cx bk (hH.trans ah.arg))<|AA HK.e Z ah ?_;intro dg a3 bl a4 _;have b:=b.mono (Aa a4);refine Aq 1 Z<|Ag 0 Z bl Z (a:=(Br Z (Br Z (Br e112h2.one (Br e112h3.one (Br e112h4.one K9)))))) ?_;intro dh o a5;have b:=b.mono (Aa a5);refine Ac ?_
   refine Bt (Ac3×Value×(List Value)) (fun⟨j,y,p⟩=>[(1,(AaD b1)),(3,y),(5,(AaD a3)),(32,s),(33,No (a0.f.2.2.2.2.length:Int)),(34,No a)]) (fun⟨j,y,p⟩ wr=>Fl w [.box a3 [No ((a0.f.2.2.2.2.getD a.toNat Qq2).f.1),No ((a0.f.2.2.2.2.getD a.toNat Qq2).f.2.1),e112v2,e112v3,e112v4] 64,.row y 5 1 (j).length p,.box b1 [No a0.f.1,No a0.f.2.1,ad,ae,s] 64] wr fun Oz=>AI .byte (gz H w wr Oz) j p/\(Ea a0 a self) j=some cq) ?_ ?_
   ·refine Ak<|Aj (Ae Z Ajk Z CO.e)<|Aj (Af 2 Z o Z)<|A7 1 Z<|AP h ?_ ?_<;>intro bm h
    ·refine Au<|Aq 1 Z<|Aj (Ae Z Ajk Z Nd.e)<|Aj (Af 2 Z o Z)<|Aq 1 Z<|Az h fun au h=>Bf ca a.toNat (Gy au) (AW au) ?_;rintro di _ rfl bn;refine Aj (Bl bn (hH.trans o.arg))<|Az h fun bo h=>Adj (H:=H) o bo ?_;intro dj dk c8 ai a6 q;have b:=b.mono (Aa a6);refine Ax h fun a7 bp h=>Bk ai (Fp _ _ (Ao ai) q bp) ?_;rintro c3 dl ⟨_,rfl,av⟩ bq br al;have u:=av.Dz hH ai bq;have b:=b.mono (Aa al);have q:=q.mono (Aa al);refine Az h fun bs h=>By (r:=.byte) 1 e a7 Z Afr br Z b u bs ?_;intro cr dm bt bu am bv;have q:=q.mono (Aa am);have u:=u.mono (Aa am);refine Aq 1 Z<|AL<|A8 (_,_,_) ⟨bu,bv,h⟩
    refine Aw<|A8 (_,_,_) ⟨o,b,h⟩
   rintro⟨j,y,p⟩ c9 ⟨z,ac,h⟩;refine Au<|Aq 1 Z<|Aj (A4 0 Z HK.e z Z)<|Ax h fun a8 bw h=>Bk z (hself _ _ (Ao z) (e112h2.mono  Ah) (e112h3.mono  Ah) (e112h4.mono  Ah) bw) ?_;rintro c4 dn ⟨_,rfl,aw⟩ bx bz a9;have v:=aw.Dz hH z bx;have ac:=ac.mono (Aa a9);refine Az h fun b0 h=>By (r:=.byte) 1 j a8 Z Afr bz Z ac v b0 ?_;intro cs dp b2 b3 ba aj;have v:=v.mono (Aa ba);refine Aq 1 Z<|AL<|A2<|As<|Au<|Az h fun b4 h=>Aj (A5 b4)<|Aq 1 Z<|AL ?_;have b5:=b3.AS (i:=0) Z;have aj:=aj.mono (Aa (Al (i:=0) Z));have h:=Cg.again h aq;refine AN (_,_,_,_,_) Z ⟨b5,aj,h⟩
  refine B4<|AE<|A6 ?_;have h:=Cg.out h aq;refine Bi<|A8 (_,_,_) ⟨ah,b,h⟩
 rintro⟨ak,ag,x⟩ dq ⟨bb,b6,h⟩;refine AJ 2 Z<|Ay ?_
 cases h
 refine Am Z ⟨bb.ext,_,Z,(bb.Ip hH (i:=0) Z b6)⟩
theorem S1(n:Nat):JY (Fv n):=by
 induction n with
 | zero=>unfold JY;intros;rename_i h;cases h
 | succ n ih=>exact Q3 (Fv n) ih
section
variable(w:World)(H:PH)(hH:Le H (hp w)) include hH
theorem Ua{a0:Pv}{a b c:Value}(d:AH .byte H a (a0.f.2.2.1))(e:AH .st H b (a0.f.2.2.2.1))(g:AH .tree H c (a0.f.2.2.2.2)){r:Ac3}(h:LM a0=some r):Ok prog 126 [.agg #[No a0.f.1,No a0.f.2.1,a,b,c]] w (fun v w'=>Ext w w'/\∃ i,v=i/\Ck 5 .byte H w w' i r):=S1 1000 w H hH d e g h
def LN(a0:Pv):Option (Ac3×(Int×Int)):=
 Qq4 (MV a0 (0:Int) (1:Int)) (fun a=>if a.2.1=0/\a.2.2=0 then Qq4 (LM a0) (fun b=>if 4000<(b.length:Int) then Qq4 (Lv (14:Int) (-1:Int)) (fun c=>some ([],(c.1,c.2))) else some (b,(0,0))) else some ([],(a.2.1,a.2.2)))
theorem Ub{a0:Pv}{c d e:Value}(k:AH .byte H c (a0.f.2.2.1))(l:AH .st H d (a0.f.2.2.2.1))(m:AH .tree H e (a0.f.2.2.2.2)){r:Ac3×(Int×Int)}(h:LN a0=some r):
  Qqv 77 [.agg #[No a0.f.1,No a0.f.2.1,c,d,e]] w (fun v w'=>∃ u0,v=.tuple #[u0,.agg #[No r.2.1,No r.2.2]]/\Ck 5 .byte H w w' u0 (r.1)):=by
 refine A1 24 [(0,.agg #[No a0.f.1,No a0.f.2.1,c,d,e])] func77 Z fun hL=>Ak<|CB (t:=64) Z Z hL fun w1 b1 ai au _=>Aq 1 Z<|AA AG.e Z ai fun w2 b2 o av _=>Ac<|AD<|Ak<|Aj (A4 1 Z HK.e o Z)<|Ax h fun x3 aj h=>AF o (Vn (a0:=a0) _ _ (Ao o) (k.mono  Ah) (l.mono  Ah) (m.mono  Ah) aj) fun w4 a2 ak aw=>Aq 3 Z<|AA AG.e Z ak fun w5 b5 al ax _=>Aq 1 Z<|Ag 0 Z al Z fun w6 b ay=>Ac<|Ak<|Aj (A4 0 Z AG.e b Z)<|Aj (AT (fun _=>BM _))<|Aj (JO J2 (Nf _ _ _ _))<|Ac<|CP h ?_ ?_<;>intro am h
 ·refine Eu (.q 0 (.q 1 (.tail 2))) mixed Qqb (fun w9 an=>?_);have p:=b.call an;refine CF Z (A4 0 Z AG.e p Z) Z<|D4 1 Z<|BU (fun a3 aa=>?_);have ab:=p.call aa;refine Ag 1 Z ab Z fun a4 s ao=>Ac<|Ay<|Ar ?_
  cases h
  refine Bv (.tmp Z) (.cell Z Aji Z AG.e (AK (i:=1) s Z)) ⟨s.ext,_,Z,Ck.nil⟩
 refine Aw<|As<|Ak<|Aj (A4 2 Z HK.e b Z)<|Ax h fun a5 ac h=>Bk b (Ua (a0:=a0) _ _ (Ao b) (k.mono  Ah) (l.mono  Ah) (m.mono  Ah) ac) ?_;rintro ap a6 ⟨_,rfl,u⟩ ad a y;obtain⟨az,a,y,g⟩:=u.take hH b ad;refine A7 1 Z<|AD<|Bu 1 Z<|Aj (Qo 0 Z a Z)<|A7 1 Z<|AP h ?_ ?_<;>intro ae h
 ·refine Ak<|Ax h fun a7 af h=>AF a (NM _ _ (Ao a) af) fun a8 a1 ag aq=>Aq 1 Z<|Ag 2 Z ag Z fun a9 x ar=>Ac<|Ay<|Ar ?_
  cases h
  refine Bv (.tmp Z) (.cell Z Aji Z AG.e (AK (i:=2) x Z)) ⟨x.ext,_,Z,Ck.nil⟩
 refine Aw<|As<|Bu 1 Z<|Aj (AT (fun _=>BM _))<|Aq 1 Z<|Ag 2 Z a Z fun ba j z=>Ac<|Ay ?_
 cases h
 refine Bv (.tmp Z) (.cell Z Aji Z AG.e (AK (i:=2) j Z)) ?_;have g:=g.mono (Aa z);exact⟨j.ext,_,Z,(j.Ip hH (i:=0) Z g)⟩
def EG(a0:Pv):Option ((Int×Int)):=
 Qq4 (LN a0) (fun a=>some ((a.2.1,a.2.2)))
theorem Og{a0:Pv}{a b c:Value}(j:AH .byte H a (a0.f.2.2.1))(k:AH .st H b (a0.f.2.2.2.1))(l:AH .tree H c (a0.f.2.2.2.2)){r:(Int×Int)}(h:EG a0=some r):
  Qqv 46 [.agg #[No a0.f.1,No a0.f.2.1,a,b,c]] w (fun v w'=>v=.agg #[No r.1,No r.2]):=by
 refine A1 11 [(0,.agg #[No a0.f.1,No a0.f.2.1,a,b,c])] func46 Z fun hL=>Ak<|CB (t:=64) Z Z hL fun w1 b1 m u _=>AA AG.e Z m fun w2 b2 d x _=>Ac<|Ak<|Aj (A4 1 Z HK.e d Z)<|Ax h fun x3 o h=>Bk d (Ub (a0:=a0) _ _ (Ao d) (j.mono  Ah) (k.mono  Ah) (l.mono  Ah) o) ?_;rintro _ w4 ⟨y,rfl,s⟩ ad p z;refine Aq 3 Z<|AA AG.e Z p fun w5 b5 q aa _=>Aq 1 Z<|Ag 0 Z q Z fun w6 e ab=>Ac<|Ak<|Aj (A4 0 Z AG.e e Z)<|Ag 1 Z e Z fun w7 g ac=>Ac<|Ay ?_
 cases h
 refine Dy (.cell Z Aji Z AG.e (AK (i:=1) g Z)) ⟨g.ext,Z⟩
end
end Go.Proofs.YtekmbcbgknmhiaaGreatDoor
end
noncomputable section
namespace Go
abbrev AjO:=Ac3×Int×Int×Ac3
end Go
namespace Go.Proofs.YtekmbcbgknmhiaaGreatDoor
open Go Go.E Go.RowKit Go.L
set_option maxHeartbeats 1000000
set_option maxRecDepth 10000
open _root_.Go.Proofs.Tryz
def DF{σ:Type}(a0:Pv)(a1:List Ac3)(a:Int)(self:Pv->(List Ac3)->σ->Option σ)(b:Ac3)(sJ72:σ):Option ((Int×σ) ⊕ (σ)):=
 Qq4 (Dd a1) (fun c=>AO (Go.E.Io 16 (c.length+([b]).length)) (Qq4 (self (a0.f.2.2.2.2.getD a.toNat Qq2) (c++[b]) sJ72) (fun d=>AO (Bw (a+1)) (some (Sum.inl ((a+1),d))))))
def CI{σ:Type}(a0:Pv)(a1:List Ac3)(self:Pv->(List Ac3)->σ->Option σ):Int×σ->Option ((Int×σ) ⊕ (σ)):=fun⟨a,sJ55⟩=>
 if a<(a0.f.2.2.2.2.length:Int) then AO (0<=a/\a<(a0.f.2.2.2.2.length:Int)) (if a0.f.1=4 then AO (0<=a/\a<(a0.f.2.2.2.1.length:Int)) ((DF a0 a1 a self) (a0.f.2.2.2.1.getD a.toNat Qq2) sJ55) else(DF a0 a1 a self) ([35]:Ac3) sJ55) else Qq7 Sum.inr (some sJ55)
def JE{σ:Type}(a0:Pv)(a1:List Ac3)(self:Pv->(List Ac3)->σ->Option σ)(s:Int×σ):Option (σ):=Go.L.run (CI a0 a1 self) s
def EU{σ:Type}(step:σ->AjO->Option σ)(self:Pv->(List Ac3)->σ->Option σ)(a0:Pv)(a1:List Ac3)(s:σ):Option (σ):=
 Qq4 (Sv a1 ([47]:Ac3)) (fun b=>Qq4 (step s (b,a0.f.1,a0.f.2.1,a0.f.2.2.1)) (fun a=>(JE a0 a1 self) (0,a)))
def FV{σ:Type}(step:σ->AjO->Option σ):Nat->Pv->(List Ac3)->σ->Option σ
 | 0=>fun _ _ _=>none
 | n+1=>EU step (FV step n)
def JA{σ:Type}(step:σ->AjO->Option σ):Pv->(List Ac3)->σ->Option σ:=FV step 1000
theorem Q4{σ:Type}{d:World}{H:PH}(hH:Le H (hp d)){fc:FuncId}{cap:List Value}{J:σ->List BS->PH->Prop}{step:σ->AjO->Option σ}(hcb:Cb prog d H fc cap J step){self:Pv->(List Ac3)->σ->Option σ}(hself:∀ {w:World} {O R:List BS} {s:σ} {a0:Pv} {a1:List Ac3} {va0_2:Value} {va0_3:Value} {va0_4:Value} {va1:Value} (hL:Bb d (Ha O R) w) (ax:AH .byte (gz H d w (Ha O R)) va0_2 (a0.f.2.2.1)) (bs:AH .st (gz H d w (Ha O R)) va0_3 (a0.f.2.2.2.1)) (ay:AH .tree (gz H d w (Ha O R)) va0_4 (a0.f.2.2.2.2)) (bw:AH .st (gz H d w (Ha O R)) va1 a1) (hJ:J s R (gz H d w (Ha O R))) {r:σ} (h:self a0 a1 s=some r),Ok prog 82 [.agg #[No a0.f.1,No a0.f.2.1,va0_2,va0_3,va0_4],va1,.func (.func fc) #[] cap.toArray] w (fun v w'=>v=.tuple #[]/\∃ R':List BS,Bb d (Ha O R') w'/\Le (fz w (Ha O R)) (fz w' (Ha O R'))/\J r R' (gz H d w' (Ha O R')))){w:World}{O R:List BS}{s:σ}{a0:Pv}{a1:List Ac3}{va0_2 va0_3 va0_4 va1:Value}(hL:Bb d (Ha O R) w)(ax:AH .byte (gz H d w (Ha O R)) va0_2 (a0.f.2.2.1))(bs:AH .st (gz H d w (Ha O R)) va0_3 (a0.f.2.2.2.1))(ay:AH .tree (gz H d w (Ha O R)) va0_4 (a0.f.2.2.2.2))(bw:AH .st (gz H d w (Ha O R)) va1 a1)(hJ:J s R (gz H d w (Ha O R))){r:σ}(h:EU step self a0 a1 s=some r):
  Ok prog 82 [.agg #[No a0.f.1,No a0.f.2.1,va0_2,va0_3,va0_4],va1,.func (.func fc) #[] cap.toArray] w (fun v w'=>v=.tuple #[]/\∃ R':List BS,Bb d (Ha O R') w'/\Le (fz w (Ha O R)) (fz w' (Ha O R'))/\J r R' (gz H d w' (Ha O R'))):=by
 refine Dq (n:=46) [(0,.agg #[No a0.f.1,No a0.f.2.1,va0_2,va0_3,va0_4]),(1,va1),(2,.func (.func fc) #[] cap.toArray)] func82 Z Z Z Z ?_;have hT:=Le.refl (fz w (Ha O R));have aa:=hL.rG H;refine Ak<|CB (t:=64) Z Z hL ?_;intro w2 y cd bg _;have hJ:=hcb.mono (Aa bg) hJ;refine Ac<|Eu (Qqz 0 11 (.tail 11)) mixed Qqb (fun w3 ce=>?_);have ap:=cd.call ce;have bh:=AR cd ce;have hJ:=hcb.mono (Aa bh) hJ;refine D4 2 Z<|Ax h fun x5 cw h=>?_;have aa:=aa.trans (Aa (bg.trans bh));refine JN Z Z Z (fun w6 cx=>XB _ _ (Le.refl _) (((bw.mono aa).mono (Ao ap)).mono cx.le) cw)<|CF Z (Ae Z Ajk Z CO.e) Z<|CF Z (Af 0 Z ap Z) Z<|CF Z (Ae Z Ajk Z CO.e) Z<|CF Z (Af 0 Z ap Z) Z<|CF Z (Ae Z Ajk Z IK.e) Z<|CF Z (Af 0 Z ap Z) Z<|CF Z (UL (ax.mono aa) (Ao ap)) Z<|CF Z (AT (fun _=>Vk _ Z _ _ _ Z _)) Z<|BU (fun w7 cf=>?_);have cy:=ap.call cf;have bi:=AR ap cf
 have hJ:=hcb.mono (Aa bi) hJ;refine Ax h fun cg ch h=>Fk (cap:=cap) Z Z (hcb.ok (O:=(Ha [.box y [No a0.f.1,No a0.f.2.1,va0_2,va0_3,va0_4] 64] O)) (R:=R) (x:=(x5,a0.f.1,a0.f.2.1,a0.f.2.2.1)) cy hJ ch) ?_;rintro _ w9 ⟨rfl,R9,bt,az,cz⟩;replace bt:Bb d (Ha [.box y [No a0.f.1,No a0.f.2.1,va0_2,va0_3,va0_4] 64] (Ha O R9)) w9:=bt;replace az:Le (fz w7 (Ha [.box y [No a0.f.1,No a0.f.2.1,va0_2,va0_3,va0_4] 64] (Ha O R))) (fz w9 (Ha [.box y [No a0.f.1,No a0.f.2.1,va0_2,va0_3,va0_4] 64] (Ha O R9))):=az;replace hJ:J cg R9 (gz H d w9 (Ha [.box y [No a0.f.1,No a0.f.2.1,va0_2,va0_3,va0_4] 64] (Ha O R9))):=cz;refine Ac<|Ak<|Aj (Ae Z Ajk Z YK.e)<|Aj (Af 0 Z bt Z) ?_;have aa:=aa.trans (Aa (bi.trans az));refine Aj (Bc (ay.mono aa))<|A7 1 Z<|A3 ?_;obtain⟨bu,h⟩:=Ba h;have hT:=hT.trans (bg.trans (bh.trans (bi.trans az)))
 refine B6 (Int×σ×(List BS)×Nat) (fun⟨a,sJ55,RJ55,n⟩=>[(1,va1),(2,.func (.func fc) #[] cap.toArray),(3,(AaD y)),(22,va0_4),(23,No (a0.f.2.2.2.2.length:Int)),(24,No a)]) (fun⟨a,sJ55,RJ55,n⟩ wr=>Fl d (Ha [.box y [No a0.f.1,No a0.f.2.1,va0_2,va0_3,va0_4] 64] (Ha O RJ55)) wr fun Oz=>AH .st (gz H d wr Oz) va1 a1/\AH .tree (gz H d wr Oz) va0_4 (a0.f.2.2.2.2)/\AH .byte (gz H d wr Oz) va0_2 (a0.f.2.2.1)/\AH .st (gz H d wr Oz) va0_3 (a0.f.2.2.2.1)/\Le (fz w (Ha O R)) (fz wr Oz)/\J sJ55 RJ55 (gz H d wr Oz)/\HG (CI a0 a1 self) n (a,sJ55)=some r) (fun⟨a,sJ55,RJ55,n⟩=>n) (0,cg,R9,bu) Z ⟨bt,(bw.mono aa),(ay.mono aa),(ax.mono aa),(bs.mono aa),hT,hJ,h⟩ ?_;rintro⟨a,sJ55,RJ55,nn55⟩ c9 ⟨a2,a7,aq,a8,ar,hT,hJ,h⟩;obtain⟨bu,c0,rfl,h,bj⟩:=AY h;have o:=a2.rG H;refine AJ 1 Z<|AD<|AP h ?_ ?_<;>intro cj h
 ·refine Aw<|As<|AD<|A3<|Bu 1 Z<|Az h fun bx h=>Bf (aq.mono o) a.toNat (Gy bx) (AW bx) ?_;rintro di _ e60t0 ck;obtain⟨_,_,rfl,rfl,⟨_,_,rfl,rfl,⟨_,_,rfl,⟨e60v2,rfl,e60h2⟩,⟨_,_,rfl,⟨e60v3,rfl,e60h3⟩,⟨e60v4,rfl,e60h4⟩⟩⟩⟩⟩:=Go.E.Rp.OJ e60t0;refine Aj (Cx ck (Ao a2))<|AA HK.e Z a2 ?_;intro dj p cl e _;have hJ:=hcb.mono (Aa e) hJ;refine Aq 1 Z<|Ag 0 Z cl Z (a:=(Br Z (Br Z (Br e60h2.one (Br e60h3.one (Br e60h4.one K9)))))) ?_;intro dk aj g;have hJ:=hcb.mono (Aa g) hJ;refine Ac ?_;have k:=aj.rG H;refine AJ 1 Z ?_
  refine Bt (Ac3×σ×(List BS)) (fun⟨u,sJ72,RJ72⟩=>[(1,va1),(2,.func (.func fc) #[] cap.toArray),(3,(AaD y)),(7,(AaD p)),(8,(Ab5 u)),(22,va0_4),(23,No (a0.f.2.2.2.2.length:Int)),(24,No a)]) (fun⟨u,sJ72,RJ72⟩ wr=>Fl d (Ha [.box p [No ((a0.f.2.2.2.2.getD a.toNat Qq2).f.1),No ((a0.f.2.2.2.2.getD a.toNat Qq2).f.2.1),e60v2,e60v3,e60v4] 64,.box y [No a0.f.1,No a0.f.2.1,va0_2,va0_3,va0_4] 64] (Ha O RJ72)) wr fun Oz=>AH .st (gz H d wr Oz) va1 a1/\AH .tree (gz H d wr Oz) va0_4 (a0.f.2.2.2.2)/\AH .byte (gz H d wr Oz) e60v2 ((a0.f.2.2.2.2.getD a.toNat Qq2).f.2.2.1)/\AH .st (gz H d wr Oz) e60v3 ((a0.f.2.2.2.2.getD a.toNat Qq2).f.2.2.2.1)/\AH .tree (gz H d wr Oz) e60v4 ((a0.f.2.2.2.2.getD a.toNat Qq2).f.2.2.2.2)/\AH .byte (gz H d wr Oz) va0_2 (a0.f.2.2.1)/\AH .st (gz H d wr Oz) va0_3 (a0.f.2.2.2.1)/\Le (fz w (Ha O R)) (fz wr Oz)/\J sJ72 RJ72 (gz H d wr Oz)/\(DF a0 a1 a self) u sJ72=some c0) ?_ ?_
  ·refine Ak<|Aj (Ae Z Ajk Z CO.e)<|Aj (Af 1 Z aj Z)<|A7 1 Z<|AP h ?_ ?_<;>intro cm h
   ·refine Au<|Aj (Ae Z Ajk Z Nd.e)<|Aj (Af 1 Z aj Z)<|Aq 1 Z<|Az h fun bz h=>?_;have o:=o.trans (Aa (e.trans g));refine Bf ((ar.mono o).mono k) a.toNat (Gy bz) (AW bz) ?_;rintro dl _ rfl cn;refine Aj (Bl cn (Ao aj))<|Aq 1 Z<|AL ?_;have e60h2:=e60h2.mono (Aa (e.trans g));have e60h3:=e60h3.mono (Aa (e.trans g));have e60h4:=e60h4.mono (Aa (e.trans g));have hT:=hT.trans (e.trans g);refine A8 (_,_,_) ⟨aj,((a7.mono o).mono k),((aq.mono o).mono k),(e60h2.mono k),(e60h3.mono k),(e60h4.mono k),((a8.mono o).mono k),((ar.mono o).mono k),hT,hJ,h⟩
   refine Aw ?_;have e60h2:=e60h2.mono (Aa (e.trans g));have e60h3:=e60h3.mono (Aa (e.trans g));have e60h4:=e60h4.mono (Aa (e.trans g));have o:=o.trans (Aa (e.trans g));have hT:=hT.trans (e.trans g);refine A8 (_,_,_) ⟨aj,((a7.mono o).mono k),((aq.mono o).mono k),(e60h2.mono k),(e60h3.mono k),(e60h4.mono k),((a8.mono o).mono k),((ar.mono o).mono k),hT,hJ,h⟩
  have hT:=hT.trans (e.trans g);rintro⟨u,sJ72,RJ72⟩ da ⟨bk,ae,a9,ba,bb,bc,bd,be,hT,hJ,h⟩;have c:=bk.rG H;refine Ko (J1 (UQ (Si (J1 Ns)))) (fun z0 z=>Le (gz H d z0 (Ha [.box p [No ((a0.f.2.2.2.2.getD a.toNat Qq2).f.1),No ((a0.f.2.2.2.2.getD a.toNat Qq2).f.2.1),e60v2,e60v3,e60v4] 64,.box y [No a0.f.1,No a0.f.2.1,va0_2,va0_3,va0_4] 64] (Ha O RJ72))) (hp z)/\z.heap[p]? = some (.cells [No ((a0.f.2.2.2.2.getD a.toNat Qq2).f.1),No ((a0.f.2.2.2.2.getD a.toNat Qq2).f.2.1),e60v2,e60v3,e60v4].toArray 64 (0,0))/\z.heap[y]? = some (.cells [No a0.f.1,No a0.f.2.1,va0_2,va0_3,va0_4].toArray 64 (0,0))) mixed Z (fun a3 dm b0=>?_);have ab:=bk.call b0;have af:=AR bk b0;have hJ:=hcb.mono (Aa af) hJ;have b:=ab.rG H;refine Nv ⟨b.trans (Ao ab),ab.at (i:=0) Z,ab.at (i:=1) Z⟩ fun kI84=>A9 0 a3 kI84 Z (fun _ hI=>MR hI.2.1) Z<|A9 1 a3 kI84 Z (fun _ _=>Ai Z) Z<|A9 3 a3 kI84 Z (fun _ _=>Ai Z) Z<|A9 6 a3 kI84 Z (fun _ _=>Ai Z) Z<|NI2 2 4 Z Z ?_ ?_
  ·refine Ax h fun b1 bl h=>?_;have c:=c.trans (Aa af);refine Bk ab (GF _ _ (Ao ab) ((ae.mono c).mono b) bl) ?_;rintro c4 dn ⟨_,rfl,b3⟩ co au am;obtain⟨dc,au,am,bm⟩:=b3.take hH ab co;have hJ:=hcb.mono (Aa am) hJ;have b:=b.trans (Aa am);refine AX ⟨b.trans (Ao au),au.at (i:=1) Z,au.at (i:=2) Z⟩ fun kI87=>FX 4 Z<|B7 [u] (r:=.st) (fun _=>Sp _ Z _) au (.c1 Z .nil) ?_;intro dp dq dd a4 an cp;have hJ:=hcb.mono (Aa an) hJ;have b:=b.trans (Aa an);refine AX ⟨b.trans (Ao a4),a4.at (i:=1) Z,a4.at (i:=2) Z⟩ fun kI89=>FX 5 Z<|Az h fun bn h=>?_;have bm:=bm.mono (Aa an);refine By (r:=.st) 0 b1 [u] Z AcL a4 Z bm cp bn ?_;intro dr c2 de av a5 cq;have hJ:=hcb.mono (Aa a5) hJ;have b:=b.trans (Aa a5);refine AX ⟨b.trans (Ao av),av.at (i:=1) Z,av.at (i:=2) Z⟩ fun kI92=>FX 7 Z ?_;have cr:=av.Dz hH (i:=0) Z cq
   have cs:=av.AS (i:=0) Z;have hJ:=hcb.mono (Aa (Al (i:=0) Z)) hJ;refine Ax h fun bf bo h=>?_;have b:=b.trans (Aa (Al (i:=0) Z));refine EP (hself (O:=(Ha [.box p [No ((a0.f.2.2.2.2.getD a.toNat Qq2).f.1),No ((a0.f.2.2.2.2.getD a.toNat Qq2).f.2.1),e60v2,e60v3,e60v4] 64,.box y [No a0.f.1,No a0.f.2.1,va0_2,va0_3,va0_4] 64] O)) (R:=RJ72) cs ((ba.mono c).mono b) ((bb.mono c).mono b) ((bc.mono c).mono b) cr hJ bo) ?_;rintro _ b4 ⟨rfl,R94,ak,ao,ct⟩;replace ak:Bb d (Ha [.box p [No ((a0.f.2.2.2.2.getD a.toNat Qq2).f.1),No ((a0.f.2.2.2.2.getD a.toNat Qq2).f.2.1),e60v2,e60v3,e60v4] 64,.box y [No a0.f.1,No a0.f.2.1,va0_2,va0_3,va0_4] 64] (Ha O R94)) b4:=ak;replace ao:Le (fz c2 (Ha [.box p [No ((a0.f.2.2.2.2.getD a.toNat Qq2).f.1),No ((a0.f.2.2.2.2.getD a.toNat Qq2).f.2.1),e60v2,e60v3,e60v4] 64,.box y [No a0.f.1,No a0.f.2.1,va0_2,va0_3,va0_4] 64] (Ha O RJ72))) (fz b4 (Ha [.box p [No ((a0.f.2.2.2.2.getD a.toNat Qq2).f.1),No ((a0.f.2.2.2.2.getD a.toNat Qq2).f.2.1),e60v2,e60v3,e60v4] 64,.box y [No a0.f.1,No a0.f.2.1,va0_2,va0_3,va0_4] 64] (Ha O R94))):=ao
   replace hJ:J bf R94 (gz H d b4 (Ha [.box p [No ((a0.f.2.2.2.2.getD a.toNat Qq2).f.1),No ((a0.f.2.2.2.2.getD a.toNat Qq2).f.2.1),e60v2,e60v3,e60v4] 64,.box y [No a0.f.1,No a0.f.2.1,va0_2,va0_3,va0_4] 64] (Ha O R94))):=ct;have b:=b.trans (Aa ao);refine AX ⟨b.trans (Ao ak),ak.at (i:=0) Z,ak.at (i:=1) Z⟩ fun kI96=>ER<|A2<|As<|Au<|Az h fun bp h=>Aj (A5 bp)<|Aq 1 Z<|AL ?_;have cu:=ak.AS (i:=0) Z;have hJ:=hcb.mono (Aa (Al (i:=0) Z)) hJ;have h:=Cg.again h bj;have hT:=hT.trans (af.trans (am.trans (an.trans (a5.trans ((Al (i:=0) Z).trans (ao.trans (Al (i:=0) Z)))))));have b:=b.trans (Aa (Al (i:=0) Z));refine AN (_,_,_,_) Z ⟨cu,((ae.mono c).mono b),((a9.mono c).mono b),((bd.mono c).mono b),((be.mono c).mono b),hT,hJ,h⟩
  refine Ax h fun b1 bl h=>Az h fun bn h=>Ax h fun bf bo h=>Az h fun bp h=>B7 [u] (r:=.st) (fun _=>Sp _ Z _) ab (.c1 Z .nil) ?_;intro ds dt df al a6 bq;have hJ:=hcb.mono (Aa a6) hJ;have b:=b.trans (Aa a6);refine AX ⟨b.trans (Ao al),al.at (i:=0) Z,al.at (i:=1) Z⟩ fun kI100=>FX 2 Z ?_;have c:=c.trans (Aa af);refine Bk al (GF _ _ (Ao al) ((ae.mono c).mono b) bl) ?_;rintro c3 dg ⟨_,rfl,bv⟩ b5 ag ac;obtain⟨c5,ag,ac,b6⟩:=bv.take hH al b5;have hJ:=hcb.mono (Aa ac) hJ;have b:=b.trans (Aa ac);refine AX ⟨b.trans (Ao ag),ag.at (i:=1) Z,ag.at (i:=2) Z⟩ fun kI102=>FX 5 Z ?_;have bq:=bq.mono (Aa ac);refine By (r:=.st) 0 b1 [u] Z AcL ag Z b6 bq bn ?_;intro dh cv c6 ah aw b7;have hJ:=hcb.mono (Aa aw) hJ;have b:=b.trans (Aa aw);refine AX ⟨b.trans (Ao ah),ah.at (i:=1) Z,ah.at (i:=2) Z⟩ fun kI104=>?_
  refine FX 7 Z ?_;have b8:=ah.Dz hH (i:=0) Z b7;have b9:=ah.AS (i:=0) Z;have hJ:=hcb.mono (Aa (Al (i:=0) Z)) hJ;have b:=b.trans (Aa (Al (i:=0) Z));refine EP (hself (O:=(Ha [.box p [No ((a0.f.2.2.2.2.getD a.toNat Qq2).f.1),No ((a0.f.2.2.2.2.getD a.toNat Qq2).f.2.1),e60v2,e60v3,e60v4] 64,.box y [No a0.f.1,No a0.f.2.1,va0_2,va0_3,va0_4] 64] O)) (R:=RJ72) b9 ((ba.mono c).mono b) ((bb.mono c).mono b) ((bc.mono c).mono b) b8 hJ bo) ?_;rintro _ br ⟨rfl,R106,ad,ai,ca⟩;replace ad:Bb d (Ha [.box p [No ((a0.f.2.2.2.2.getD a.toNat Qq2).f.1),No ((a0.f.2.2.2.2.getD a.toNat Qq2).f.2.1),e60v2,e60v3,e60v4] 64,.box y [No a0.f.1,No a0.f.2.1,va0_2,va0_3,va0_4] 64] (Ha O R106)) br:=ad
  replace ai:Le (fz cv (Ha [.box p [No ((a0.f.2.2.2.2.getD a.toNat Qq2).f.1),No ((a0.f.2.2.2.2.getD a.toNat Qq2).f.2.1),e60v2,e60v3,e60v4] 64,.box y [No a0.f.1,No a0.f.2.1,va0_2,va0_3,va0_4] 64] (Ha O RJ72))) (fz br (Ha [.box p [No ((a0.f.2.2.2.2.getD a.toNat Qq2).f.1),No ((a0.f.2.2.2.2.getD a.toNat Qq2).f.2.1),e60v2,e60v3,e60v4] 64,.box y [No a0.f.1,No a0.f.2.1,va0_2,va0_3,va0_4] 64] (Ha O R106))):=ai;replace hJ:J bf R106 (gz H d br (Ha [.box p [No ((a0.f.2.2.2.2.getD a.toNat Qq2).f.1),No ((a0.f.2.2.2.2.getD a.toNat Qq2).f.2.1),e60v2,e60v3,e60v4] 64,.box y [No a0.f.1,No a0.f.2.1,va0_2,va0_3,va0_4] 64] (Ha O R106))):=ca;have b:=b.trans (Aa ai);refine AX ⟨b.trans (Ao ad),ad.at (i:=0) Z,ad.at (i:=1) Z⟩ fun kI107=>ER<|A2<|As<|Au<|Aj (A5 bp)<|Aq 1 Z<|AL ?_;have cb:=ad.AS (i:=0) Z;have hJ:=hcb.mono (Aa (Al (i:=0) Z)) hJ;have h:=Cg.again h bj;have hT:=hT.trans (af.trans (a6.trans (ac.trans (aw.trans ((Al (i:=0) Z).trans (ai.trans (Al (i:=0) Z)))))));have b:=b.trans (Aa (Al (i:=0) Z))
  refine AN (_,_,_,_) Z ⟨cb,((ae.mono c).mono b),((a9.mono c).mono b),((bd.mono c).mono b),((be.mono c).mono b),hT,hJ,h⟩
 refine B4<|AE<|A6 ?_;have h:=Cg.out h bj;refine Bi ?_
 cases h
 refine L8 ?_;have cc:=a2.AS (i:=0) Z;have hJ:=hcb.mono (Aa (Al (i:=0) Z)) hJ;have hT:=hT.trans (Al (i:=0) Z);exact⟨Z,RJ55,cc,hT,hJ⟩
theorem S2{σ:Type}{a:World}{H:PH}(hH:Le H (hp a)){fc:FuncId}{cap:List Value}{J:σ->List BS->PH->Prop}{step:σ->AjO->Option σ}(hcb:Cb prog a H fc cap J step)(n:Nat):∀ {w:World} {O R:List BS} {s:σ} {a0:Pv} {a1:List Ac3} {va0_2:Value} {va0_3:Value} {va0_4:Value} {va1:Value} (hL:Bb a (Ha O R) w) (b:AH .byte (gz H a w (Ha O R)) va0_2 (a0.f.2.2.1)) (c:AH .st (gz H a w (Ha O R)) va0_3 (a0.f.2.2.2.1)) (d:AH .tree (gz H a w (Ha O R)) va0_4 (a0.f.2.2.2.2)) (e:AH .st (gz H a w (Ha O R)) va1 a1) (hJ:J s R (gz H a w (Ha O R))) {r:σ} (h:FV step n a0 a1 s=some r),Ok prog 82 [.agg #[No a0.f.1,No a0.f.2.1,va0_2,va0_3,va0_4],va1,.func (.func fc) #[] cap.toArray] w (fun v w'=>v=.tuple #[]/\∃ R':List BS,Bb a (Ha O R') w'/\Le (fz w (Ha O R)) (fz w' (Ha O R'))/\J r R' (gz H a w' (Ha O R'))):=by
 induction n with
 | zero=>intros;rename_i h;cases h
 | succ n ih=>exact fun {_} {_} {_} {_} {_} {_} {_} {_} {_} {_} hL b c d e hJ {_} h=>Q4 hH hcb (self:=FV step n) ih hL b c d e hJ h
theorem Uc{σ:Type}{a:World}{H:PH}(hH:Le H (hp a)){fc:FuncId}{cap:List Value}{J:σ->List BS->PH->Prop}{step:σ->AjO->Option σ}(hcb:Cb prog a H fc cap J step){w:World}{O R:List BS}{s:σ}{a0:Pv}{a1:List Ac3}{va0_2 va0_3 va0_4 va1:Value}(hL:Bb a (Ha O R) w)(b:AH .byte (gz H a w (Ha O R)) va0_2 (a0.f.2.2.1))(c:AH .st (gz H a w (Ha O R)) va0_3 (a0.f.2.2.2.1))(d:AH .tree (gz H a w (Ha O R)) va0_4 (a0.f.2.2.2.2))(e:AH .st (gz H a w (Ha O R)) va1 a1)(hJ:J s R (gz H a w (Ha O R))){r:σ}(h:JA step a0 a1 s=some r):Ok prog 82 [.agg #[No a0.f.1,No a0.f.2.1,va0_2,va0_3,va0_4],va1,.func (.func fc) #[] cap.toArray] w (fun v w'=>v=.tuple #[]/\∃ R':List BS,Bb a (Ha O R') w'/\Le (fz w (Ha O R)) (fz w' (Ha O R'))/\J r R' (gz H a w' (Ha O R'))):=S2 hH hcb 1000 hL b c d e hJ h
end Go.Proofs.YtekmbcbgknmhiaaGreatDoor
end
noncomputable section
namespace Go.E
open Go Go.RowKit Go.Sort Go.Proofs Go.Shelf
theorem YP[Dr]{w w':World}(hd:Dr.on=true)(h:Ext w w'):∃ q os,w'=grow (w.drewN q) os:=by
 refine⟨w'.drawn - w.drawn,w'.heap.extract w.heap.size w'.heap.size,?_⟩;have hd:=h.drawn hd
 have hh:w.heap++w'.heap.extract w.heap.size w'.heap.size=w'.heap:=by
  apply Array.ext_getElem?;intro k
  rcases Nat.lt_or_ge k w.heap.size with hk | hk
  ·rw [Qk3 hk,h.block k hk]
  ·rw [Array.getElem?_append_right hk,Array.getElem?_extract];have:=h.size
   split
   ·congr 1;omega
   ·rw [Array.getElem?_eq_none U]
 obtain⟨heap,tape,drawn,os,output⟩:=w;obtain⟨heap',tape',drawn',os',output'⟩:=w';have a:=h.os;have h2:=h.tape;have h3:=h.output;simp only at a h2 h3 hd hh;subst a;subst h2;subst h3;simp only [grow,World.drewN,World.mk.injEq,and_true,true_and];exact⟨hh.symm,by omega⟩
section
variable {α:Type} [Inhabited α]
theorem NN(enc:α->Value)(w:World)(g m:Nat)(d:Array α)(os:Array Obj)(k:Nat)(hk:k<w.heap.size):(sortWorld enc w g 0 m d os).heap[k]? = if k=g then(w.heap[k]?).map (onCells (putCells enc 0 d)) else w.heap[k]?:=by
 unfold sortWorld grow putRow mapBlock Sort.ahead;simp only;rw [Qk3 (by simpa using hk),Array.getElem?_modify]
 by_cases h:g=k
 ·subst h;simp
 ·rw [if_neg h,if_neg (fun e=>h e.symm)]
theorem PM(enc:α->Value)(w:World)(g m:Nat)(d:Array α)(os:Array Obj):w.grownBy (sortWorld enc w g 0 m d os) (some g):=
 ⟨Z,Z,Z,by simp [sortWorld,grow,putRow,mapBlock,Sort.ahead],fun k hk hne=>by rw [NN enc w g m d os k hk,if_neg (fun e=>hne (by rw [e]))]⟩
theorem Wo(enc:α->Value)(d:Array α)(c:Array Value)(h:d.size<=c.size):(putCells enc 0 d c).toList.take d.size=d.toList.map enc:=by
 apply Qkb;intro k;rw [QkA]
 by_cases hk:k<d.size
 ·rw [if_pos hk];have hkc:k<c.size:=by omega
  simp [putCells,hk,hkc]
 ·rw [if_neg hk,Qxe (by simp;omega)]
theorem Abl{enc:α->Value}{w:World}{e:TypeId}{g cap n sz m:Nat}{xs:List Value}{d:Array α}{os:Array Obj}(ho:w.ownsRow 0 e sz (.slice (some ⟨g,0,none⟩) n cap) n xs)(hl:d.size=xs.length):
  (sortWorld enc w g 0 m d os).ownsRow 0 e sz (.slice (some ⟨g,0,none⟩) n cap) n (d.toList.map enc):=by
 obtain⟨a,h2⟩:=ho;refine⟨by simp;omega,?_⟩
 rcases h2 with ⟨hc,_⟩ | ⟨g',cap',cur,hv,hb,hg,hnc,hcm,hcs,htake⟩
 ·cases hc
 ·cases hv
  have hgl:=lt_of_heap hg;have hle:n * sz<=cap * sz:=Qky _ hnc;refine .inr ⟨g,cap,putCells enc 0 d cur,Z,hb,?_,hnc,hcm,by simp [putCells,hcs],?_⟩
  ·rw [NN enc w g m _ os g hgl,if_pos Z,hg]
   rfl
  ·have:=Wo enc d cur U;rw [show n * sz=d.size by omega];exact this
theorem Rc(enc:α->Value){w:World}{e:TypeId}{g cap n sz:Nat}{xs:List Value}(d:Array α)(ho:w.ownsRow 0 e sz (.slice (some ⟨g,0,none⟩) n cap) n xs)(hd:d.toList.map enc=xs):Holds enc w g 0 d/\g<w.heap.size:=by
 obtain⟨b,h2⟩:=ho;have hsz:d.size=xs.length:=by rw [<- hd];simp
 rcases h2 with ⟨hc,_⟩ | ⟨g',cap',cur,hv,hb,hg,hnc,hcm,hcs,htake⟩
 ·cases hc
 ·cases hv
  have hle:n * sz<=cap * sz:=Qky _ hnc;refine⟨fun j hj=>?_,lt_of_heap hg⟩
  constructor
  ·have a:xs[j]? = some (enc d[j]!):=by rw [<- hd];simp [hj]
   have:cur.toList[j]? = some (enc d[j]!):=by
    rw [<- htake,QkA,if_pos U] at a;exact a
   simp only [World.cell?,hg,Qzc]
   simpa using this
  ·simp [World.frozen?,hg]
end
theorem Agc{w:World}{e:TypeId}{g cap n q:Nat}{xs:List Value}(ho:w.ownsRow 0 e 1 (.slice (some ⟨g,0,none⟩) n cap) n xs)(hq:q<=n):w.ownsRow 0 e 1 (.slice (some ⟨g,0,none⟩) q cap) q (xs.take q):=by
 obtain⟨a,h2⟩:=ho
 rcases h2 with ⟨hc,_⟩ | ⟨g',cap',cur,hv,hb,hg,hnc,hcm,hcs,htake⟩
 ·cases hc
 ·cases hv
  refine⟨by rw [List.length_take,a];omega,.inr ⟨g,cap,cur,Z,hb,hg,by omega,hcm,hcs,?_⟩⟩;rw [<- htake,List.take_take,Qz3,Qz3,Nat.min_eq_left hq]
section
variable {P:Program} {n:Sz} {ops:Array Oper} {Q:Exit->Act->World->Prop} {L:Env} {w w0:World} {O:List BS} {rest:List Oper} {d:Nat} {ty:TypeId} {pos:String} {af:Array Edge} {v:Value} {e:TypeId} {H:PH} {α β:Type} [Inhabited β] {r:Rp α}
theorem Vo[Dr]{f i sz:Nat}{at_:Array TypeId}{args:List Operand}{l l':List α}{xs ys:List Value}{dd:Array β}{enc:β->Value}{fa:List Value}(hc:JM P f)(ha:RZ L args=some (v::fa))(hn:Qzq d n.n=true)(hL:Bb w0 O w)(hi:EA O i=some (.row v e sz l.length xs))(hd:dd.toList.map enc=ys)(hl:l'.length=l.length)(hy:ys.length=xs.length)(hys:l.length=0->ys=xs)
  (hnil:v=.slice none 0 0->Calls P f (v::fa).toArray w fun e w'=>e=.returned (.tuple #[])/\w'=w)
  (hs:∀ g cap,v=.slice (some ⟨g,0,none⟩) l.length cap->l.length<=cap->Calls P f (v::fa).toArray w fun e w'=>e=.returned (.tuple #[])/\∃ m os,w'=sortWorld enc w g 0 m dd os)
  (h:∀ w',Bb w0 (DB O i (.row v e sz l'.length ys)) w'->Le (fz w O) (fz w' (DB O i (.row v e sz l'.length ys)))->S P n ops Q rest ((d,.tuple #[])::L) w') :
  S P n ops Q (⟨some d,.call ⟨.value (.func f),args.toArray,at_⟩,ty,pos,af,none⟩::rest) L w:=by
 have hown:w.ownsRow 0 e sz v l.length xs:=hL.at hi;rw [hl] at h
 rcases hown.2 with ⟨hv,c⟩ | ⟨j,cap,cur,hv,k,o,hnc,_⟩
 ·refine Sb Z fun a fr=>?_;unfold Oper.wp;rw [L7 hc ha _ fr.TH];refine(hnil hv).mono fun en w' ⟨he,hw⟩=>?_;subst he;subst hw;have hyx:=hys c;subst hyx;exact h w' (hL.Ms hi (Qzx _) (World.grownBy.refl _ _) (hL.at hi) (fun b e=>.inl e)) (H9 (r':=.row v e sz l.length ys) hL hi (World.grownBy.refl _ _) (fun b e=>.inl e)) _ (fr.put hn)
 ·refine Sb Z fun a fr=>?_;unfold Oper.wp;rw [L7 hc ha _ fr.TH];refine(hs j cap hv hnc).mono fun en w' ⟨he,m,os,hw⟩=>?_;subst he;have hgr:=PM enc w j m dd os;rw [<- hw] at hgr
  have hok:(BS.row v e sz l.length ys).ok w':=by
   rw [hw,hv,<- hd];refine Abl (by rw [<- hv];exact hown) ?_;have:dd.toList.length=ys.length:=by rw [<- hd];simp
   simpa [hy] using this
  have hdr:w.drawn<=w'.drawn:=by rw [hw];exact Nat.le_add_right _ _
  have hgr':w.grownBy w' (BS.row v e sz l.length xs).block:=by rw [hv];exact hgr
  exact h w' (hL.Ms hi hdr hgr' hok (fun b e=>.inl e)) (H9 (r':=.row v e sz l.length ys) hL hi hgr' (fun b e=>.inl e)) _ (fr.put hn)
theorem Aca[Dr]{f i:Nat}{at_:Array TypeId}{args:List Operand}{l:List α}{l':List β}{z:β}{xs:List Value}{enc:β->Value}(hc:JM P f)(ha:RZ L args=some [v])(hn:Qzq d n.n=true)(hL:Bb w0 O w)(hi:EA O i=some (.row v e 1 l.length xs))(hle:l'.length<=l.length)
  (hnil:v=.slice none 0 0->Calls P f #[v] w fun e w'=>e=.returned v/\w'=w)
  (hs:∀ g cap,v=.slice (some ⟨g,0,none⟩) l.length cap->l.length<=cap->Calls P f #[v] w fun e w'=>e=.returned (.slice (some ⟨g,0,none⟩) l'.length cap)/\∃ q,w'=putRow enc (Sort.ahead w q) g 0 (l'++Qzz (l.length - l'.length) z).toArray)
  (h:∀ v' w',Bb w0 (DB O i (.row v' e 1 l'.length (l'.map enc))) w'->Le (fz w O) (fz w' (DB O i (.row v' e 1 l'.length (l'.map enc))))->S P n ops Q rest ((d,v')::L) w') :
  S P n ops Q (⟨some d,.call ⟨.value (.func f),args.toArray,at_⟩,ty,pos,af,none⟩::rest) L w:=by
 have hown:w.ownsRow 0 e 1 v l.length xs:=hL.at hi
 rcases hown.2 with ⟨hv,k⟩ | ⟨c,cap,cur,hv,t,u,hnc,_⟩
 ·have o:l'=[]:=Qz8 U;subst o;refine Sb Z fun a fr=>?_;unfold Oper.wp;rw [L7 hc ha _ fr.TH];refine(hnil hv).mono fun en w' ⟨he,hw⟩=>?_;subst he;subst hw;have p:xs=[]:=Qz8 (by rw [hown.1,k])
  have hok:(BS.row v e 1 ([]:List β).length (([]:List β).map enc)).ok w':=by
   have:=hL.at hi;rw [k,p] at this;exact this
  exact h v w' (hL.Ms hi (Qzx _) (World.grownBy.refl _ _) hok (fun b e=>.inl e)) (H9 (r':=.row v e 1 ([]:List β).length (([]:List β).map enc)) hL hi (World.grownBy.refl _ _) (fun b e=>.inl e)) _ (fr.put hn)
 ·refine Sb Z fun a fr=>?_;unfold Oper.wp;rw [L7 hc ha _ fr.TH];refine(hs c cap hv hnc).mono fun en w' ⟨he,q,hw⟩=>?_;subst he;have j:w'=sortWorld enc w c 0 q (l'++Qzz (l.length - l'.length) z).toArray #[]:=by rw [hw];unfold sortWorld;rw [grow_empty]
  have hgr:=PM enc w c q (l'++Qzz (l.length - l'.length) z).toArray #[];rw [<- j] at hgr
  have hok:(BS.row (.slice (some ⟨c,0,none⟩) l'.length cap) e 1 l'.length (l'.map enc)).ok w':=by
   have s:w'.ownsRow 0 e 1 (.slice (some ⟨c,0,none⟩) l.length cap) l.length ((l'++Qzz (l.length - l'.length) z).map enc):=by
    have r:=Abl (enc:=enc) (m:=q) (d:=(l'++Qzz (l.length - l'.length) z).toArray) (os:=#[]) (by rw [<- hv];exact hown) (by have:=hown.1;simp;omega);rw [<- j] at r
    simpa using r
   have h2:=Agc s hle
   rwa [Qxd,List.take_left' Qqd] at h2
  have hdr:w.drawn<=w'.drawn:=by rw [j];exact Nat.le_add_right _ _
  have hgr':w.grownBy w' (BS.row v e 1 l.length xs).block:=by rw [hv];exact hgr
  have hb:∀ b,(BS.row (.slice (some ⟨c,0,none⟩) l'.length cap) e 1 l'.length (l'.map enc)).block=some b->(BS.row v e 1 l.length xs).block=some b:=fun b e=>by rw [hv];exact e
  exact h _ w' (hL.Ms hi hdr hgr' hok (fun b e=>.inl (hb b e))) (H9 (r':=.row (.slice (some ⟨c,0,none⟩) l'.length cap) e 1 l'.length (l'.map enc)) hL hi hgr' (fun b e=>.inl (hb b e))) _ (fr.put hn)
end
theorem Vp{H:PH}{l:List Int}{xs:List Value}(h:AI (.int .i64) H l xs):l.map (Value.int .i64)=xs:=by
 induction h with
 | nil=>rfl
 | cons h _ ih=>cases h;rw [Qzd,ih];rfl
theorem S3(H:PH):∀ l:List Int,AI (.int .i64) H l (l.map (Value.int .i64))
 | []=>.nil
 | _::l=>.cons (c:=[_]) Z (S3 H l)
section
variable {P:Program} {n:Sz} {ops:Array Oper} {Q:Exit->Act->World->Prop} {L:Env} {w w0:World} {O:List BS} {rest:List Oper} {d:Nat} {ty:TypeId} {pos:String} {af:Array Edge} {v:Value} {e:TypeId} {H:PH} {ρr:Go.Shelf.Ren} {f i:Nat} {at_:Array TypeId} {args:List Operand} {xs:List Value}
def Ajn(l:List (List UInt8)):List (List UInt8):=l.mergeSort fun x y=>decide (x<=y)
def M0(l:List Int):List Int:=l.mergeSort fun x y=>decide (x<=y)
theorem Uy[Dr]{l:List Int}(Ls:Lays.n189 P ρr)[hf:Qqq (ρr.f 189) f](hc:JM P f)(ha:RZ L args=some [v])[hn:Qqq (Qzq d n.n) true](hH:Le H (hp w0))(hL:Bb w0 O w)(hi:EA O i=some (.row v e 1 l.length xs))(he:AI (.int .i64) (gz H w0 w O) l xs)(hlen:l.length<4611686018427387904)
  (h:∀ w' xs',Bb w0 (DB O i (.row v e 1 (M0 l).length xs')) w'->Le (fz w O) (fz w' (DB O i (.row v e 1 (M0 l).length xs')))->AI (.int .i64) (gz H w0 w' (DB O i (.row v e 1 (M0 l).length xs'))) (M0 l) xs'->S P n ops Q rest ((d,.tuple #[])::L) w') :
  S P n ops Q (⟨some d,.call ⟨.value (.func f),args.toArray,at_⟩,ty,pos,af,none⟩::rest) L w:=by
 have hf:=hf.e
 have hxs:=Vp he;have hll:(M0 l).length=l.length:=List.length_mergeSort _;subst hf;refine Vo (l':=M0 l) (enc:=Value.int .i64) (dd:=(M0 l).toArray) (ys:=(M0 l).map (Value.int .i64)) hc ha hn.e hL hi Qqd hll (by rw [<- hxs];simp [hll]) (fun a=>?_) (fun hv=>?_) (fun g cap hv hcap=>?_) (fun w' b h2=>h w' _ b h2 (S3 _ _))
 ·have:l=[]:=Qz8 a;subst this;rw [<- hxs,show M0 []=[] from List.mergeSort_nil]
 ·subst hv;exact Any.slices_Sort_int_none Ls none 0 w
 ·have hown:w.ownsRow 0 e 1 v l.length xs:=hL.at hi;rw [hv] at hown;obtain⟨hH',hblk⟩:=Rc (Value.int .i64) l.toArray hown (by simpa using hxs);subst hv;exact Any.slices_Sort_int Ls g 0 cap l w hH' hblk hlen
theorem Vr{α:Type}[Inhabited α][DecidableEq α](l:List α):(Lib.compact l).length<=l.length:=by
 unfold Lib.compact Lib.compactUpTo;rw [Qzk];exact Qz2 (List.length_filter_le _ _) Qqd
theorem Uz[Dr]{l:List Int}(Ls:Lays2.n20 P ρr)[hf:Qqq (ρr.f 20) f](hc:JM P f)(ha:RZ L args=some [v])[hn:Qqq (Qzq d n.n) true](hH:Le H (hp w0))(hL:Bb w0 O w)(hi:EA O i=some (.row v e 1 l.length xs))(he:AI (.int .i64) (gz H w0 w O) l xs)(hlen:l.length<=9223372036854775807)
  (h:∀ v' w' xs',Bb w0 (DB O i (.row v' e 1 (Lib.compact l).length xs')) w'->Le (fz w O) (fz w' (DB O i (.row v' e 1 (Lib.compact l).length xs')))->AI (.int .i64) (gz H w0 w' (DB O i (.row v' e 1 (Lib.compact l).length xs'))) (Lib.compact l) xs'->S P n ops Q rest ((d,v')::L) w') :
  S P n ops Q (⟨some d,.call ⟨.value (.func f),args.toArray,at_⟩,ty,pos,af,none⟩::rest) L w:=by
 have hf:=hf.e
 have hxs:=Vp he;subst hf;refine Aca (l':=Lib.compact l) (enc:=Value.int .i64) (z:=0) hc ha hn.e hL hi (Vr l) (fun hv=>?_) (fun g cap hv hcap=>?_) (fun v' w' a h2=>h v' w' _ a h2 (S3 _ _))
 ·subst hv;exact Any.slices_Compact_int_empty Ls none 0 w
 ·have hown:w.ownsRow 0 e 1 v l.length xs:=hL.at hi;rw [hv] at hown;obtain⟨hH',hblk⟩:=Rc (Value.int .i64) l.toArray hown (by simpa using hxs);subst hv;exact Any.slices_Compact_int Ls g 0 cap l w hH' hlen hcap
end
end Go.E
end
noncomputable section
namespace Go.L
theorem S4{a b:UInt8}(c : ¬ a<b)(h2 : ¬ b<a):a=b:=UInt8.toNat.inj (by rw [Qxf] at c h2;omega)
theorem KN:∀ l m:List UInt8,Lib.compareBytes l m = - Lib.compareBytes m l
 | [],[]=>rfl
 | [],_::_=>rfl
 | _::_,[]=>rfl
 | a::l,b::m=>by
  have ih:=KN l m;unfold Lib.compareBytes
  by_cases c:a<b
  ·have h2 : ¬ b<a:=fun h=>by have:=Qxf.1 h;have:=Qxf.1 c;omega
   rw [if_pos c,if_neg h2,if_pos c]
  ·by_cases h2:b<a
   ·rw [if_neg c,if_pos h2,if_pos h2];rfl
   ·rw [if_neg c,if_neg h2,if_neg h2,if_neg c,ih]
theorem Q5:∀ l m:List UInt8,Lib.compareBytes l m=0->l=m
 | [],[],_=>rfl
 | [],_::_,h=>by cases h
 | _::_,[],h=>by cases h
 | a::l,b::m,h=>by
  unfold Lib.compareBytes at h
  split at h
  ·cases h
  ·rename_i c
   split at h
   ·cases h
   ·rename_i h2;have e:a=b:=S4 c h2;rw [e,Q5 l m h]
theorem Vs:∀ l:List UInt8,Lib.compareBytes l l=0
 | []=>rfl
 | a::l=>by
  have h : ¬ a<a:=fun h=>by have:=Qxf.1 h;omega
  unfold Lib.compareBytes;rw [if_neg h,if_neg h,Vs l]
theorem N9:∀ l m k:List UInt8,Lib.compareBytes l m<0->Lib.compareBytes m k<0->Lib.compareBytes l k<0
 | [],[],_,h,_=>by simp [Lib.compareBytes] at h
 | [],_::_,[],_,h=>by simp [Lib.compareBytes] at h
 | [],_::_,_::_,_,_=>by simp [Lib.compareBytes]
 | _::_,[],_,h,_=>by simp [Lib.compareBytes] at h
 | _::_,_::_,[],_,h=>by simp [Lib.compareBytes] at h
 | a::l,b::m,c::k,d,h2=>by
  have ih:=N9 l m k;unfold Lib.compareBytes at d h2 ⊢
  by_cases hab:a<b
  ·by_cases hbc:b<c
   ·rw [if_pos (Qxf.2 (by have:=Qxf.1 hab;have:=Qxf.1 hbc;omega))];decide
   ·rw [if_neg hbc] at h2
    by_cases hcb:c<b
    ·rw [if_pos hcb] at h2;omega
    ·have e:b=c:=S4 hbc hcb;subst e;rw [if_pos hab];decide
  ·rw [if_neg hab] at d
   by_cases hba:b<a
   ·rw [if_pos hba] at d;omega
   ·rw [if_neg hba] at d;have e:a=b:=S4 hab hba;subst e
    by_cases hac:a<c
    ·rw [if_pos hac];decide
    ·rw [if_neg hac] at h2 ⊢
     by_cases hca:c<a
     ·rw [if_pos hca] at h2;omega
     ·rw [if_neg hca] at h2 ⊢;exact ih d h2
structure Ud {α:Type} (c:α->α->Int):Prop where
 swap:∀ x y,c x y = - c y x
 zero:∀ x y,c x y=0->x=y
 trans:∀ x y z,c x y<0->c y z<0->c x z<0
theorem AiD:Ud Go.Lib.compareBytes:=⟨KN,Q5,N9⟩
def YQ(a b:Int):Int:=if a<b then -1 else if b<a then 1 else 0
theorem AiE:Ud YQ:=by
 constructor
 ·intro x y;unfold YQ;rcases Qkc x y with h | h | h
  ·rw [if_pos h,if_neg U,if_pos h]
  ·subst h;rw [if_neg (Int.lt_irrefl _),if_neg (Int.lt_irrefl _)];rfl
  ·rw [if_neg U,if_pos h,if_pos h];rfl
 ·intro x y h;unfold YQ at h;split at h;cases h;split at h;cases h;omega
 ·intro x y z a h2;unfold YQ at *
  split at a
  ·split at h2
   ·rw [if_pos U];decide
   ·split at h2 <;> omega
  ·split at a <;> omega
def YR{α β:Type}(c:α->α->Int)(d:β->β->Int)(x y:α×β):Int:=if c x.1 y.1=0 then d x.2 y.2 else c x.1 y.1
theorem Aad{α β:Type}{c:α->α->Int}{d:β->β->Int}(hc:Ud c)(hd:Ud d):Ud (YR c d):=by
 constructor
 ·intro x y;unfold YR;have:=hc.swap x.1 y.1
  by_cases h:c x.1 y.1=0
  ·rw [if_pos h,if_pos U];exact hd.swap _ _
  ·rw [if_neg h,if_neg U];exact this
 ·intro x y h;unfold YR at h
  split at h
  ·rename_i a;exact Prod.ext (hc.zero _ _ a) (hd.zero _ _ h)
  ·rename_i a;exact absurd h a
 ·intro x y z a h2;unfold YR at *
  by_cases e:c x.1 y.1=0
  ·rw [if_pos e] at a;have:=hc.zero _ _ e;rw [this]
   by_cases b:c y.1 z.1=0
   ·rw [if_pos b] at h2 ⊢;exact hd.trans _ _ _ a h2
   ·rw [if_neg b] at h2 ⊢;exact h2
  ·rw [if_neg e] at a
   by_cases b:c y.1 z.1=0
   ·have:=hc.zero _ _ b;rw [<- this,if_neg e];exact a
   ·rw [if_neg b] at h2;have:=hc.trans _ _ _ a h2;rw [if_neg U];exact this
theorem Ud.swo{α:Type}{c:α->α->Int}(h:Ud c):Go.Sort.SWO (Go.Proofs.ltOf c):=by
 have hs:=fun x=>h.swap x x
 constructor
 ·intro x;have:=hs x;simp only [Go.Proofs.ltOf,decide_eq_false_iff_not];omega
 ·intro x y z b h2;simp only [Go.Proofs.ltOf,decide_eq_true_eq] at *;exact h.trans _ _ _ b h2
 ·intro x y z b h2;simp only [Go.Proofs.ltOf,decide_eq_false_iff_not] at *;intro h3;have s1:=h.swap x y;have d:=h.swap y z
  rcases Qkc (c y x) 0 with a | a | a
  ·have:=h.trans _ _ _ a h3;omega
  ·rw [h.zero _ _ a] at h2;omega
  ·omega
theorem Ud.parts{α:Type}{c:α->α->Int}(h:Ud c)(x y:α)(a:Go.Proofs.ltOf c x y=false)(h2:Go.Proofs.ltOf c y x=false):x=y:=by
 simp only [Go.Proofs.ltOf,decide_eq_false_iff_not] at a h2;have:=h.swap x y;exact h.zero _ _ U
abbrev Lf:Type:=List UInt8×Int×Int×List UInt8
def MW:Lf->Lf->Int:=YR Go.Lib.compareBytes (YR YQ (YR YQ Go.Lib.compareBytes))
theorem Oh:Ud MW:=Aad AiD (Aad AiE (Aad AiE AiD))
def M1(l:List Lf):List Lf:=l.mergeSort fun x y=>!(Go.Proofs.ltOf MW) y x
theorem Q6(l:List Lf):(M1 l).length=l.length:=List.length_mergeSort _
end Go.L
namespace Go.Proofs.YtekmbcbgknmhiaaGreatDoor
open Go Go.L Go.E
theorem Agd(a b:Int):J3 a b=some (YQ a b):=by
 unfold J3 cmp_isNaN_int YQ;simp only [Qq6,decide_true,Bool.not_true,Bool.false_eq_true,if_false]
 split
 ·rfl
 ·split <;> rfl
theorem Age(a b:List UInt8):strings_Compare a b=some (Lib.compareBytes a b):=Z
theorem AhS(a b c d:Int):Pt [a,b,c,d]=some (if a=0 then(if b=0 then(if c=0 then d else c) else b) else a):=by
 unfold Pt R5
 have step:∀ (i:Nat) (x:Int),[a,b,c,d][i]? = some x->x=0->G8 [a,b,c,d] (i:Int)=some (.inl ((i+1:Nat):Int)):=fun i x hx e=>by
  have hi:i<4:=(QzC.1 hx).1;unfold G8;rw [if_pos (by simp;omega),Ad (by simp;omega),if_pos (by rw [Qq8,Qq9,hx];exact e),Ad (by unfold Bw;omega)]
  rfl
 have stop:∀ (i:Nat) (x:Int),[a,b,c,d][i]? = some x->x≠0->Go.L.run (G8 [a,b,c,d]) (i:Int)=some x:=fun i x hx e=>by
  have hi:i<4:=(QzC.1 hx).1;refine AQ ?_;unfold G8;have hg:[a,b,c,d].getD (i:Int).toNat Qq2=x:=by rw [Qq8,Qq9,hx];rfl
  rw [if_pos (by simp;omega),Ad (by simp;omega),hg,if_neg e]
 have last:Go.L.run (G8 [a,b,c,d]) ((4:Nat):Int)=some 0:=by
  refine AQ ?_;unfold G8;rw [if_neg Qqd]
  rfl
 show Go.L.run _ ((0:Nat):Int)=_
 by_cases ha:a=0
 ·rw [if_pos ha,Bg (step 0 a Z ha)]
  by_cases hb:b=0
  ·rw [if_pos hb,Bg (step 1 b Z hb)]
   by_cases hc:c=0
   ·rw [if_pos hc,Bg (step 2 c Z hc)]
    by_cases hd:d=0
    ·rw [Bg (step 3 d Z hd)];rw [hd] at last ⊢;exact last
    ·exact stop 3 d Z hd
   ·rw [if_neg hc];exact stop 2 c Z hc
  ·rw [if_neg hb];exact stop 1 b Z hb
 ·rw [if_neg ha];exact stop 0 a Z ha
theorem Aae(x y:Lf):K2 x y=some (MW x y):=by
 unfold K2 MW YR;simp only [Age,Agd,AhS,Qq6]
end Go.Proofs.YtekmbcbgknmhiaaGreatDoor
end
noncomputable section
namespace Go.E
open Go Go.RowKit
theorem YS{κ:Type}{enc:κ->Value}:∀ (l:List κ) (vs:List Value) (i:Nat),l.length=vs.length->(mE enc i l vs).map (·.born)=List.range' i l.length
 | [],[],_,_=>rfl
 | a::l,u::vs,i,h=>by
  simp only [mE,Qzd,Qzj,List.range'_succ];rw [YS l vs (i+1) (by simpa using h)]
theorem AdP{κ:Type}{enc:κ->Value}{l:List κ}{vs:List Value}(h:l.length=vs.length){x:MapEntry}(hx:x∈mE enc 0 l vs):∃ a,l[x.born]? = some a/\x=⟨enc a,vs.getD x.born Qq2,x.born⟩:=by
 obtain⟨j,hj⟩:=List.getElem?_of_mem hx;have hjl:j<l.length:=by have:=(QzC.1 hj).1;rwa [Tg l vs 0 h] at this
 have:=Tf (enc:=enc) l vs 0 j l[j] h (Qzw hjl);rw [hj,Qzc] at this;obtain rfl:=Option.some.inj this;exact⟨l[j],Qzw hjl,Z⟩
section
variable {P:Program} {n:Sz} {ops:Array Oper} {Q:Exit->Act->World->Prop} {L:Env} {w w0:World} {O:List BS} {rest:List Oper} {d:Nat} {ty t kt et:TypeId} {pos:String} {af:Array Edge} {x:Operand} {κ:Type} {enc:κ->Value} {keys:List κ} {vs:List Value} {m N:Nat}
theorem AdQ[Dr][hx:Qqq (ev L x) (some (.map (some m)))][ht:Qqq (P.underlying t) (some (.map kt et))](hm:w.heap[m]? = some (.map (mE enc 0 keys vs).toArray N))[hn:Qqq (Qzq d n.n) true](hL:Bb w0 O w)
  (h:∀ w' b,Bb w0 (.obj b (.mapIter (some m) N ([]:List Nat).toArray N)::O) w'->Le (fz w O) (fz w' (.obj b (.mapIter (some m) N ([]:List Nat).toArray N)::O))->S P n ops Q rest ((d,.pointer (some ⟨b,0,none⟩))::L) w'):S P n ops Q (⟨some d,.range t x,ty,pos,af,none⟩::rest) L w:=by
 have hb:∀ b,(BS.obj w.heap.size (.mapIter (some m) N ([]:List Nat).toArray N)).block=some b->w.heap.size<=b:=fun b e=>by cases e;exact Qzx _
 refine EK (v:=.pointer (some ⟨w.heap.size,0,none⟩)) (w':=w.alloc (.mapIter (some m) N ([]:List Nat).toArray N)) hn.e (fun ρ hρ=>?_) (h _ _ (hL.new (Dx w _) (World.alloc_heap_new w _) hb) (RH hL (Dx w _) hb));have:=run_range_map (P:=P) w t kt et m _ N ht.e hm;simp [execOp,hρ x _ hx.e,this]
theorem Agf[Dr](i:Nat){b:Nat}{seen:List Nat}(hx:ev L x=some (.pointer (some ⟨b,0,none⟩)))[hn:Qqq (Qzq d n.n) true](hL:Bb w0 O w)(hi:EA O i=some (.obj b (.mapIter (some m) N seen.toArray N)))(hm:w.heap[m]? = some (.map (mE enc 0 keys vs).toArray N))(hk:keys.length=vs.length)(hN:keys.length=N)
  (r:∀ j a,keys[j]? = some a->j∉seen->∀ w',Bb w0 (DB O i (.obj b (.mapIter (some m) N (seen++[j]).toArray N))) w'->Le (fz w O) (fz w' (DB O i (.obj b (.mapIter (some m) N (seen++[j]).toArray N))))->w'.heap[m]? = some (.map (mE enc 0 keys vs).toArray N)->S P n ops Q rest ((d,.tuple #[.bool true,enc a,vs.getD j Qq2])::L) w')
  (h2:(∀ j,j<N->j∈seen)->S P n ops Q rest ((d,.tuple #[.bool false])::L) w):S P n ops Q (⟨some d,.next x false,ty,pos,af,none⟩::rest) L w:=by
 have hb:w.heap[b]? = some (.mapIter (some m) N seen.toArray N):=hL.at hi
 have hold:∀ x∈(mE enc 0 keys vs).toArray.toList,x.born<N:=fun x hx=>by
  obtain⟨a,ha,_⟩:=AdP hk (by simpa using hx);have:=(QzC.1 ha).1;omega
 rcases run_next_at (P:=P) w ty b m N N seen.toArray _ N hb hm hold (Qzx _) with ⟨s,hr⟩ | ⟨e,he,c,k,hr⟩
 ·refine EK (v:=.tuple #[.bool false]) (w':=w) hn.e (fun ρ hρ=>by simp [execOp,hρ x _ hx,hr]) (h2 fun j hj=>?_);have hjk:j<keys.length:=by omega
  have hg:=Tf (enc:=enc) keys vs 0 j keys[j] hk (Qzw hjk);rw [Qzc] at hg;have hemp:leftOf (mE enc 0 keys vs).toArray seen.toArray = #[]:=Array.eq_empty_of_size_eq_zero s;unfold leftOf at hemp;rw [Array.filter_eq_empty_iff] at hemp;have:=hemp _ (by simpa using List.mem_of_getElem? hg)
  simpa using this
 ·have hmem:e∈mE enc 0 keys vs/\e.born∉seen:=by
   unfold leftOf at he
   simpa using he
  obtain⟨a,ha,hee⟩:=AdP hk hmem.1
  have f:Ext w c:=by
   rcases k with rfl | rfl
   ·exact Ext.refl _
   ·exact MP
  have l:=hL.call f;have g:=AR hL f;have hput:=l.putAt (.mapIter (some m) N (seen++[e.born]).toArray N) hi;have hne:m≠b:=fun eq=>by rw [eq,hb] at hm;cases hm
  have o:c.heap[m]? = some (.map (mE enc 0 keys vs).toArray N):=by rw [f.block m (lt_of_heap hm)];exact hm
  have p:(c.putObj b (.mapIter (some m) N (seen++[e.born]).toArray N)).heap[m]? = some (.map (mE enc 0 keys vs).toArray N):=by rw [World.putObj_heap_other hne];exact o
  have hval:e.key=enc a/\e.val=vs.getD e.born Qq2:=by rw [hee];exact⟨Z,Z⟩
  rw [hval.1,hval.2] at hr
  have q:ChangeMaps.setBlock c b (.mapIter (some m) N (seen.toArray.push e.born) N)=c.putObj b (.mapIter (some m) N (seen++[e.born]).toArray N):=by
   rw [List.push_toArray];rfl
  rw [q] at hr;refine EK (v:=_) (w':=_) hn.e (fun ρ hρ=>?_) (r e.born a ha hmem.2 _ hput.1 (g.trans hput.2) p);simp [execOp,hρ x _ hx,hr]
theorem AdR{b:Nat}{seen:List Nat}{j:Nat}{a:κ}(hx:ev L x=some (.pointer (some ⟨b,0,none⟩)))[hn:Qqq (Qzq d n.n) true](hb:w.heap[b]? = some (.mapIter (some m) N (seen++[j]).toArray N))(hm:w.heap[m]? = some (.map (mE enc 0 keys vs).toArray N))(hk:keys.length=vs.length)(ha:keys[j]? = some a)
  (h:S P n ops Q rest ((d,.tuple #[enc a,vs.getD j Qq2])::L) w):S P n ops Q (⟨some d,.entry x,ty,pos,af,none⟩::rest) L w:=by
 have hg:=Tf (enc:=enc) keys vs 0 j a hk ha;rw [Qzc] at hg;have hr:=run_entry_at (P:=P) w b m N seen.toArray (mE enc 0 keys vs).toArray N ⟨enc a,vs.getD j Qq2,j⟩ (by rw [hb,List.push_toArray]) hm (by simpa using List.mem_of_getElem? hg) (by rw [List.toList_toArray,YS _ _ _ hk];exact List.nodup_range');refine EK (v:=_) (w':=w) hn.e (fun ρ hρ=>?_) h;simp [execOp,hρ x _ hx,hr]
end
end Go.E
end
noncomputable section
namespace Go.L
theorem Q7{α:Type}{c:α->α->Int}(h:Ud c):∀ {l m:List α},l.Perm m->l.Pairwise (fun x y=>(!(Go.Proofs.ltOf c) y x)=true)->m.Pairwise (fun x y=>(!(Go.Proofs.ltOf c) y x)=true)->l=m
 | [],m,hp,_,_=>hp.nil_eq
 | a::l,m,hp,hl,hm=>by
  cases m with
  | nil=>exact absurd hp.symm.nil_eq Qqd
  | cons b m=>
   obtain⟨f,g⟩:=Qz0.1 hl;obtain⟨i,j⟩:=Qz0.1 hm
   have hab:a=b:=by
    by_cases e:a=b
    ·exact e
    ·have ha:a∈m:=by rcases Qzy.1 (hp.mem_iff.1 (.head _)) with d | d;exact absurd d e;exact d
     have hb:b∈l:=by rcases Qzy.1 (hp.mem_iff.2 (.head _)) with d | d;exact absurd d.symm e;exact d
     exact h.parts a b (by simpa using i a ha) (by simpa using f b hb)
   subst hab;rw [Q7 h hp.cons_inv g j]
theorem Abm:∀ (N:Nat) (l:List Nat),l.Nodup->(∀ j∈l,j<N)->l.length<=N
 | 0,l,_,h=>by
  cases l with
  | nil=>exact Qzx _
  | cons a l=>exact absurd (h a (.head _)) (Nat.not_lt_zero a)
 | N+1,l,hn,h=>by
  have b:=Abm N (l.erase N) (hn.erase N) (fun j hj=>by
   have h2:=(hn.mem_erase_iff).1 hj;have:=h j h2.2;omega)
  by_cases hm:N∈l
  ·rw [List.length_erase_of_mem hm] at b;omega
  ·rw [List.erase_of_not_mem hm] at b;omega
theorem AdS{α:Type}{c:α->α->Int}(h:Ud c){l m:List α}(hp:l.Perm m):(l.mergeSort fun x y=>!(Go.Proofs.ltOf c) y x)=m.mergeSort fun x y=>!(Go.Proofs.ltOf c) y x:=by
 have htr:∀ a b c':α,(!(Go.Proofs.ltOf c) b a)=true->(!(Go.Proofs.ltOf c) c' b)=true->(!(Go.Proofs.ltOf c) c' a)=true:=by
  intro a b d f h2;simp only [Go.Proofs.ltOf,Bool.not_eq_true',decide_eq_false_iff_not] at *;intro h3;have s1:=h.swap a b;have g:=h.swap b d
  rcases Qkc (c a b) 0 with e | e | e
  ·exact h2 (h.trans d a b h3 e)
  ·rw [h.zero a b e] at h3;exact h2 h3
  ·omega
 have hto:∀ a b:α,((!(Go.Proofs.ltOf c) b a)||(!(Go.Proofs.ltOf c) a b))=true:=by
  intro a b;have s1:=h.swap a b;simp only [Go.Proofs.ltOf,Bool.or_eq_true,Bool.not_eq_true',decide_eq_false_iff_not];omega
 refine Q7 h (((Qkz l _).trans hp).trans (Qkz m _).symm) ?_ ?_
 ·exact QkC htr hto l
 ·exact QkC htr hto m
end Go.L
namespace Go.Proofs.YtekmbcbgknmhiaaGreatDoor
open Go Go.E Go.RowKit Go.Shelf Go.L Go.Sort
abbrev PW(x:Lf):List Value:=[.string ⟨x.1.toArray⟩,.int .i64 x.2.1,.int .i64 x.2.2.1,.string ⟨x.2.2.2.toArray⟩]
abbrev Ue:Rp Lf:=.pair .st (.pair (.int .i64) (.pair (.int .i64) .st))
theorem Aaf(G:PH)(x:Lf)(c:List Value):Ue.rel G x c↔c=PW x:=by
 constructor
 ·rintro⟨_,_,rfl,rfl,_,_,rfl,rfl,_,_,rfl,rfl,rfl⟩
  rfl
 ·rintro rfl;exact⟨[_],[_,_,_],Z,Z,[_],[_,_],Z,Z,[_],[_],Z,Z,Z⟩
theorem AdT{G:PH}{l:List Lf}{xs:List Value}(h:AI Ue G l xs):l.flatMap PW=xs:=by
 induction h with
 | nil=>rfl
 | cons h _ ih=>rw [Qxc,ih,(Aaf _ _ _).1 h]
theorem YT(G:PH):∀ l:List Lf,AI Ue G l (l.flatMap PW)
 | []=>.nil
 | x::l=>by rw [Qxc];exact .cons ((Aaf _ _ _).2 Z) (YT G l)
theorem AdU(l:List Lf):∀ t,t<l.length * 4->(l.flatMap PW)[t]? = some ((PW (l.getD (t / 4) Qq2)).toArray[t % 4]!):=by
 induction l with
 | nil=>intro t h;simp at h
 | cons a l ih=>
  intro t h;rw [Qxc]
  by_cases b:t<4
  ·rw [List.getElem?_append_left b,Nat.div_eq_of_lt b,Nat.mod_eq_of_lt b];have:t=0\/t=1\/t=2\/t=3:=by omega
   rcases this with rfl | rfl | rfl | rfl <;> rfl
  ·rw [List.getElem?_append_right (by simpa using b)];have:=ih (t - 4) (by simp only [Qzj] at h;omega);rw [show(PW a).length=4 from Z,this];obtain⟨s,rfl⟩:∃ s,t=s+4:=⟨t - 4,by omega⟩;rw [Nat.add_sub_cancel,Nat.add_div_right _ Qqc,Nat.add_mod_right]
   rfl
theorem WN(l:List Lf):(flatK PW 4 l.toArray).toList=l.flatMap PW:=by
 have hlen:(l.flatMap PW).length=l.length * 4:=by
  induction l with
  | nil=>rfl
  | cons a l ih=>rw [Qxc,Qzu,ih];show 4+l.length * 4=(l.length+1) * 4;omega
 apply Qkb;intro t
 by_cases h:t<l.length * 4
 ·rw [AdU l t h];have hs:t<(flatK PW 4 l.toArray).size:=by simpa using h
  have h2:=get_flatK PW 4 l.toArray t (by simpa using h);rw [getElem!_pos _ t hs] at h2;rw [Array.getElem?_toList,Array.getElem?_eq_getElem hs,h2];have hd:t / 4<l.length:=by omega
  have b:l.toArray[t / 4]! = l.getD (t / 4) Qq2:=by simp [hd]
  rw [b];simp
 ·rw [Qxe (by simpa using h),Qxe U]
theorem Agg{n:Sz}{ops:Array Oper}{Q:Exit->Act->World->Prop}{L:Env}{w b:World}{O:List BS}{rest:List Oper}{d:Nat}{ty:TypeId}{pos:String}{af:Array Edge}{v:Value}{H:PH}{i:Nat}{at_:Array TypeId}{args:List Operand}{xs:List Value}{l:List Lf}
  (ha:RZ L args=some [v,.func (.func 137) #[] #[]]) (hn:Qzq d n.n=true) (_hH:Le H (hp b)) (hL:Bb b O w) (hi:EA O i=some (.row v 142 4 l.length xs)) (he:AI Ue (gz H b w O) l xs) (hlen:l.length<4611686018427387904)
  (h:∀ w' xs',Bb b (DB O i (.row v 142 4 (M1 l).length xs')) w'->Le (fz w O) (fz w' (DB O i (.row v 142 4 (M1 l).length xs')))->AI Ue (gz H b w' (DB O i (.row v 142 4 (M1 l).length xs'))) (M1 l) xs'->S Tryz.prog n ops Q rest ((d,.tuple #[])::L) w') :
  S Tryz.prog n ops Q (⟨some d,.call ⟨.value (.func 186),args.toArray,at_⟩,ty,pos,af,none⟩::rest) L w:=by
 have hxs:=AdT he;have hll:(M1 l).length=l.length:=Q6 l
 have hfl:∀ l:List Lf,(l.flatMap PW).length=l.length * 4:=fun l=>by
  induction l with
  | nil=>rfl
  | cons a l ih=>rw [Qxc,Qzu,ih];show 4+l.length * 4=(l.length+1) * 4;omega
 refine Vo (l':=M1 l) (enc:=(id:Value->Value)) (dd:=flatK PW 4 (M1 l).toArray) (ys:=(M1 l).flatMap PW) ⟨Tryz.f186,_,Tryz.func186,Z,Z⟩ ha hn hL hi (by rw [List.map_id];exact WN _) hll (by rw [<- hxs,hfl,hfl,hll]) (fun c=>?_) (fun hv=>?_) (fun g cap hv hcap=>?_) (fun w' e h2=>h w' _ e h2 (YT _ _))
 ·have:l=[]:=Qz8 c;subst this;rw [<- hxs,show M1 []=[] from List.mergeSort_nil]
 ·subst hv;exact AnyF.slices_SortFunc_none Tryz.AgX none 0 _ w
 ·have hown:w.ownsRow 0 142 4 v l.length xs:=hL.at hi;rw [hv] at hown;have hhk:HoldsK PW 4 w g 0 l.toArray/\g<w.heap.size:=Rc (id:Value->Value) (flatK PW 4 l.toArray) hown (by rw [List.map_id,WN];exact hxs);subst hv;refine AnyQ.slices_SortFunc_total Tryz.AgX 4 (fun w=>by kernel_rfl) (fun w=>by kernel_rfl) PW (fun _=>Z) (fun x v hv=>?_) MW Oh.swo 137 #[] g 0 cap l.toArray w (enters_of Tryz.func137 Qqb Z) ?_ hhk.1 hhk.2 (by simpa using hlen) Oh.parts
  ·simp only [Qzy,List.mem_nil_iff,or_false] at hv
   rcases hv with rfl | rfl | rfl | rfl <;> rfl
  ·intro m os dk hs x y;have hk:=@Pu ⟨true⟩ (sortWorldK PW 4 w g 0 m dk os) (hp _) (Le.refl _) x y _ (Aae x y);refine hk.2.mono fun en w' ⟨u,he,hx,hu⟩=>?_;subst he;subst hu;obtain⟨q,os',hw⟩:=@YP ⟨true⟩ _ _ Z hx;exact⟨Z,q,os',hw⟩
def Re(l:List (Lf×List Int)):Option (List Lf):=Go.L.AO (Go.E.Io 48 l.length) (some (M1 (l.map Qq5)))
set_option maxRecDepth 10000 in
section
variable(w:World)(H:PH)(hH:Le H (hp w)) include hH
theorem Aag{v0:Value}{a0:List (Lf×List Int)}(h0:Wf Lt (.vec (.int .i64)) H v0 a0){r:List Lf}(h:Re a0=some r):
  Ok Tryz.prog 136 [v0,.func (.func 137) #[] #[]] w (fun v w'=>Ext w w'/\∃ u0,v=u0/\Ck 142 Ue H w w' u0 r):=by
 obtain⟨b,h⟩:=Go.L.G6 h;have hcap:∀ j,j<=a0.length->Go.E.Io 48 j:=fun j hj=>⟨Qz2 (Qky _ hj) b.1,Qz2 hj b.2⟩;clear b;obtain rfl:=Option.some.inj h;obtain⟨m,vs,rfl,hm,hl,_⟩:=h0;have hkl:(a0.map Qq5).length=vs.length:=by rw [Qzk];exact hl
 have hkN:(a0.map Qq5).length=a0.length:=Qzk _;generalize hK:a0.map Qq5=K at *;generalize hNN:a0.length=N at *;have hNlt:N<4611686018427387904:=by have:=hcap N (Qzx _);unfold Go.E.Io at this;omega
 refine Dq (n:=21) [(0,.map (some m)),(1,.func (.func 137) #[] #[])] Tryz.func136 Z Z Z Z ?_;have hL:=Bb.start w;refine AJ 1 Z<|AJ 1 Z ?_;obtain⟨af,ar,ag⟩:=DS Ue H 142 hL;refine Bt (Value×List Value×List Lf) (fun⟨v,_,_⟩=>[(1,.func (.func 137) #[] #[]),(5,v)]) (fun⟨v,xs,l⟩ wr=>Bb w [.row v 142 4 l.length xs] wr/\AI Ue (gz H w wr [.row v 142 4 l.length xs]) l xs/\l.Perm K) ?_ ?_
 ·refine Bu 1 Z<|AdQ (enc:=Lt) (keys:=K) (vs:=vs) (N:=N) (hH _ _ hm) af fun w2 g ah t=>Ac<|A3 ?_
  refine B6 (List Nat×Value×List Value) (fun⟨_,v,_⟩=>[(1,.func (.func 137) #[] #[]),(5,v),(8,.pointer (some ⟨g,0,none⟩))])
   (fun⟨seen,v,xs⟩ wr=>Bb w [.obj g (.mapIter (some m) N seen.toArray N),.row v 142 4 (seen.map fun j=>K.getD j Qq2).length xs] wr/\AI Ue (gz H w wr [.obj g (.mapIter (some m) N seen.toArray N),.row v 142 4 (seen.map fun j=>K.getD j Qq2).length xs]) (seen.map fun j=>K.getD j Qq2) xs/\seen.Nodup/\∀ j∈seen,j<N)
   (fun⟨seen,_,_⟩=>N - seen.length) ([],.slice none 0 0,[]) Z ⟨ah,ag.mono (Aa t),List.nodup_nil,fun j hj=>by cases hj⟩ ?_
  rintro⟨seen,v,xs⟩ wr ⟨hLr,her,hnd,hlt⟩
  have hseen:seen.length<=N:=by
   exact Abm N seen hnd hlt
  refine Ak<|Agf (enc:=Lt) (keys:=K) (vs:=vs) (m:=m) (N:=N) 0 Z hLr Z ((hH.trans hLr.arg) _ _ hm) hkl hkN ?_ ?_
  ·intro j a ha hj w3 p u ai;have hjN:j<N:=by have:=(QzC.1 ha).1;omega
   refine A7 1 Z<|AD<|EO<|Aw<|As<|A3<|Ak<|AdR (enc:=Lt) Z (p.at (i:=0) Z) ai hkl ha<|Aq 1 Z<|AA JP.e Z p fun w4 b4 aj z _=>Ta 0 Z Z Z JP.e aj Z Z (Br Z (Br Z (Br Z (Br Z K9)))) fun w5 s aa=>Ac<|Au<|Aq 1 Z<|Aj (A4 0 Z JP.e s Z)<|B7 [a] (r:=Ue) (fun _=>AdK _ _ _ _ _) (hlen:=(show 1<=9223372036854775807 by decide)) s (.c4 ((Aaf _ _ _).2 Z) .nil) ?_;intro v6 w6 aw ak ab al;have am:=(((her.mono (Aa u)).mono (Aa z)).mono (Aa aa)).mono (Aa ab);refine By (r:=Ue) 2 (seen.map fun j=>K.getD j Qq2) [a] Z Tryz.underlying196 ak Z am al (hcap _ ?_) ?_
   ·have k:=Abm N (seen++[j]) (Qk6.2 ⟨hnd,QkZ _ j,fun x hx y hy=>by rw [QzX] at hy;subst hy;exact fun e=>hj (e ▸ hx)⟩) (fun q hq=>by rcases Qze.1 hq with h2 | h2;exact hlt q h2;rw [QzX] at h2;subst h2;exact hjN)
    simpa using k
   intro v7 w7 d ao au ap;refine Aq 1 Z<|AL<|A2 ?_
   have hmap:(seen++[j]).map (fun j=>K.getD j Qq2)=(seen.map fun j=>K.getD j Qq2)++[a]:=by
    rw [Qxd,List.map_singleton];have:K.getD j Qq2=a:=by rw [Qq9,ha];rfl
    rw [this]
   have o:(seen++[j]).Nodup:=Qk6.2 ⟨hnd,QkZ _ j,fun x hx y hy=>by rw [QzX] at hy;subst hy;exact fun e=>hj (e ▸ hx)⟩;have c:=ao.AS (i:=0) Z;have f:=ap.mono (Aa (Al (i:=0) Z));refine AN (seen++[j],v7,d) Z ?_ (hm:=?_)
   ·show Bb w [.obj g (.mapIter (some m) N (seen++[j]).toArray N),.row v7 142 4 ((seen++[j]).map fun j=>K.getD j Qq2).length d] w7/\AI Ue (gz H w w7 [.obj g (.mapIter (some m) N (seen++[j]).toArray N),.row v7 142 4 ((seen++[j]).map fun j=>K.getD j Qq2).length d]) ((seen++[j]).map fun j=>K.getD j Qq2) d/\_
    rw [hmap];refine⟨c,f,o,fun q hq=>?_⟩
    rcases Qze.1 hq with h2 | h2
    ·exact hlt q h2
    ·rw [QzX] at h2;subst h2;exact hjN
   ·show N - (seen++[j]).length<N - seen.length
    have k:=Abm N (seen++[j]) o (fun q hq=>by rcases Qze.1 hq with h2 | h2;exact hlt q h2;rw [QzX] at h2;subst h2;exact hjN);rw [Qzu,QxD] at k;rw [Qzu,QxD];omega
  ·intro hall;refine A7 1 Z<|AD<|Gx<|B4<|AE<|A6<|Bi ?_
   have hp:(seen.map fun j=>K.getD j Qq2).Perm K:=by
    have k:seen.Perm (Qzv N):=(List.perm_ext_iff_of_nodup hnd List.nodup_range).2 fun q=>⟨fun hq=>Qz7.2 (hlt q hq),fun hq=>hall q (Qz7.1 hq)⟩;have h2:=k.map (fun j=>K.getD j Qq2)
    have h3:(Qzv N).map (fun j=>K.getD j Qq2)=K:=by
     apply Qkb;intro q;rw [List.getElem?_map]
     by_cases hq:q<N
     ·rw [List.getElem?_range hq,Qzw (by omega:q<K.length)];simp [Qq9,Qzw (by omega:q<K.length)]
     ·rw [Qxe (by simpa using hq),Qxe U];rfl
    rwa [h3] at h2
   exact A8 (_,_,_) ⟨hLr.AS (i:=0) Z,her.mono (Aa (Al (i:=0) Z)),hp⟩
 ·rintro⟨v,xs,l⟩ wr ⟨hLr,her,hp⟩;have hlN:l.length=N:=by rw [hp.length_eq];omega
  refine Bu 2 Z<|Agg (i:=0) Z Z hH hLr Z her U fun w8 ax c av f=>Ac<|AJ 2 Z<|Ay<|Uo Z Z ?_;have e:M1 l=M1 K:=AdS Oh hp;rw [e] at c f;exact⟨c.ext,_,Z,c.Ip hH (i:=0) Z f⟩
end
end Go.Proofs.YtekmbcbgknmhiaaGreatDoor
end
noncomputable section
namespace Go.Proofs.YtekmbcbgknmhiaaGreatDoor
open Go Go.E Go.RowKit Go.L
abbrev IY(bm bi b:Nat)(i:Int)(l:List (Lf×List Int))(vs:List Value):List BS:=[.box bm [.map (some b)] 139,.box bi [.int .i64 i] 3,R2 Lt b l vs]
abbrev JZ(l:List (Lf×List Int))(vs:List Value):List BS:=mT cwI 3 1 l vs
def JBu(bm bi b:Nat)(i:Int)(l:List (Lf×List Int))(R:List BS)(_:PH):Prop:=∃ vs:List Value,l.length=vs.length/\R=Qza (IY bm bi b i l vs) (JZ l vs)
def Kp(i:Int)(l:List (Lf×List Int))(x:Lf):Option (List (Lf×List Int)):=Go.L.AO (Go.E.Io 8 ((BW [] x l).length+1)) (some (FY x (BW [] x l++[i]) l))
set_option maxRecDepth 10000 in
theorem Acb{f w:World}{H:PH}(hH:Le H (hp f)){O:List BS}{bm bi b:Nat}{i:Int}{l:List (Lf×List Int)}{vs:List Value}{x:Lf}(hL:Bb f (Qza (Qza (IY bm bi b i l vs) O) (JZ l vs)) w)(hn:l.length=vs.length){r:List (Lf×List Int)}(h:Kp i l x=some r):
  Ok Tryz.prog 83 [Lt x,.pointer (some ⟨bm,0,none⟩),.pointer (some ⟨bi,0,none⟩)] w (fun u w'=>u=.tuple #[]/\∃ vs':List Value,r.length=vs'.length/\Bb f (Qza (Qza (IY bm bi b i r vs') O) (JZ r vs')) w'/\Le (fz w (Qza (Qza (IY bm bi b i l vs) O) (JZ l vs))) (fz w' (Qza (Qza (IY bm bi b i r vs') O) (JZ r vs')))):=by
 obtain⟨hcap,h⟩:=Go.L.G6 h;obtain rfl:=Option.some.inj h;refine Dq (n:=12) [(0,Lt x),(1,.pointer (some ⟨bm,0,none⟩)),(2,.pointer (some ⟨bi,0,none⟩))] Tryz.func83 Z Z Z Z<|Ak<|CB (t:=142) Z Z hL fun w1 g a j _=>Ac<|Au<|Aj (Qq 1 Z a Z Z)<|Aj (A4 0 Z JP.e a Z)<|Aj (Qq 2 Z a Z Z)<|B7 [i] (r:=.int .i64) (fun _=>Jp _ _) (hlen:=(show 1<=9223372036854775807 by decide)) a (.c1 Z .nil) fun v2 w2 af q m s=>ZU (A:=.box g [.string ⟨x.1.toArray⟩,.int .i64 x.2.1,.int .i64 x.2.2.1,.string ⟨x.2.2.2.toArray⟩] 142::Qza (IY bm bi b i l vs) O) (l:=l) (vs:=vs) (k:=x) (enc:=Lt) 3 Z AdL Tryz.zeroValue58 q Z hn fun c w3 v y d=>Aq 1 Z ?_;have aa:=s.mono (Aa d);refine Adx (A:=.box g [.string ⟨x.1.toArray⟩,.int .i64 x.2.1,.int .i64 x.2.2.1,.string ⟨x.2.2.2.toArray⟩] 142::Qza (IY bm bi b i (ET x l) c) O) (l:=ET x l) (vs:=c) (k:=x) (z:=i) (r:=.int .i64) (H:=H) Ahl Z Tryz.underlying58 Qqc hH y v aa (by rw [Vg];exact hcap) ?_;intro v4 w4 T4 e ab o;rw [Vg] at e
 refine Aq 1 Z<|AhL (A:=.box g [.string ⟨x.1.toArray⟩,.int .i64 x.2.1,.int .i64 x.2.2.1,.string ⟨x.2.2.2.toArray⟩] 142::Qza (IY bm bi b i (ET x l) c) O) (T:=T4) (k:=x) (l:=l) (vs:=c) 3 e Z ab Z fun ac w5 ad ae p=>AL<|L8 ?_;refine⟨Z,ac,ad,ae.AS (i:=0) Z,((((j.trans m).trans d).trans o).trans p).trans (Al (i:=0) Z)⟩
theorem Jq(bm bi b:Nat)(i:Int)(l:List (Lf×List Int))(vs:List Value)(O:List BS):(Qza (Qza (IY bm bi b i l vs) O) (JZ l vs)).Perm (Qza O (Qza (IY bm bi b i l vs) (JZ l vs))):=by
 rw [<- List.append_assoc O];exact List.perm_append_comm.append_right _
theorem AdV{a:World}{H:PH}(hH:Le H (hp a))(bm bi b:Nat)(i:Int):Cb Tryz.prog a H 83 [.pointer (some ⟨bm,0,none⟩),.pointer (some ⟨bi,0,none⟩)] (JBu bm bi b i) (Kp i):=by
 constructor
 ·exact fun _ h=>h
 ·rintro w O R l l' x hL ⟨vs,hn,rfl⟩ h;have hc:=Acb hH (O:=O) (hL.perm (Jq bm bi b i l vs O)) hn h;refine⟨hc.1,hc.2.mono fun e w' ⟨u,hu,c,vs',h2,h3,d⟩=>⟨u,hu,c,_,h3.perm (Jq bm bi b i l' vs' O).symm,?_,vs',h2,Z⟩⟩;rw [<- Km (Jq bm bi b i l vs O),<- Km (Jq bm bi b i l' vs' O)];exact d
theorem XF{a w:World}{H:PH}(hH:Le H (hp a)){O:List BS}{bm bi b:Nat}{i:Int}{l:List (Lf×List Int)}{vs:List Value}{a0:Pv}{a1:List (List UInt8)}{va0_2 va0_3 va0_4 va1:Value}
  (hL:Bb a (Qza (Qza (IY bm bi b i l vs) O) (JZ l vs)) w) (c:AH .byte (gz H a w (Qza (Qza (IY bm bi b i l vs) O) (JZ l vs))) va0_2 a0.f.2.2.1) (d:AH .st (gz H a w (Qza (Qza (IY bm bi b i l vs) O) (JZ l vs))) va0_3 a0.f.2.2.2.1) (g:AH .tree (gz H a w (Qza (Qza (IY bm bi b i l vs) O) (JZ l vs))) va0_4 a0.f.2.2.2.2) (j:AH .st (gz H a w (Qza (Qza (IY bm bi b i l vs) O) (JZ l vs))) va1 a1)
  (hn:l.length=vs.length) {r:List (Lf×List Int)} (h:JA (Kp i) a0 a1 l=some r) :
  Ok Tryz.prog 82 [.agg #[.int .i64 a0.f.1,.int .i64 a0.f.2.1,va0_2,va0_3,va0_4],va1,.func (.func 83) #[] #[.pointer (some ⟨bm,0,none⟩),.pointer (some ⟨bi,0,none⟩)]] w (fun u w'=>u=.tuple #[]/\∃ vs':List Value,r.length=vs'.length/\Bb a (Qza (Qza (IY bm bi b i r vs') O) (JZ r vs')) w'/\Le (fz w (Qza (Qza (IY bm bi b i l vs) O) (JZ l vs))) (fz w' (Qza (Qza (IY bm bi b i r vs') O) (JZ r vs')))):=by
 have hz:Le (gz H a w (Qza (Qza (IY bm bi b i l vs) O) (JZ l vs))) (gz H a w (Qza O (Qza (IY bm bi b i l vs) (JZ l vs)))):=Aa (by rw [Km (Jq bm bi b i l vs O)];exact Le.refl _);have hc:=Uc hH (AdV hH bm bi b i) (O:=O) (hL.perm (Jq bm bi b i l vs O).symm) (c.mono hz) (d.mono hz) (g.mono hz) (j.mono hz) (s:=l) ⟨vs,hn,Z⟩ h;refine⟨hc.1,hc.2.mono fun e w' ⟨u,hu,k,R',h2,h3,vs',m,n⟩=>?_⟩;subst n;refine⟨u,hu,k,vs',m,h2.perm (Jq bm bi b i r vs' O),?_⟩;rw [Km (Jq bm bi b i l vs O),Km (Jq bm bi b i r vs' O)];exact h3
end Go.Proofs.YtekmbcbgknmhiaaGreatDoor
end
noncomputable section
namespace Go.Proofs.YtekmbcbgknmhiaaGreatDoor
open Go Go.E Go.RowKit Go.L
set_option maxHeartbeats 1000000
set_option maxRecDepth 10000
open _root_.Go.Proofs.Tryz
def EH(a1:Int):Option Ac3:=
 AO (Bw (0 - 0)) (AO (Bw (a1 - (0 - 0))) (if 0<(a1 - (0 - 0)) then AO (0<(a1 - (0 - 0))/\(a1 - (0 - 0)) * 1<=281474976710656) (some (([]:Ac3))) else some ([])))
def E5(_a0:Ac3)(a1:Int):Option Ac3:=
 if a1<0 then none else(EH a1)
section
variable(w:World)(H:PH)(hH:Le H (hp w)) include hH
theorem O2{a0:Ac3}{a1:Int}(_:AH .byte H Aa4 a0){r:Ac3}(h:E5 a0 a1=some r):
  Qqv 310 [Aa4,No a1] w (fun v w'=>∃ x,v=x/\Ck 5 .byte H w w' x r):=by
 refine A1 27 [(0,Aa4),(1,No a1)] func310 Z fun hL=>AJ 1 Z<|Bt Unit (fun(_:Unit)=>[(0,Aa4),(1,No a1)]) (fun(_:Unit) wr=>Bb w [] wr/\(EH a1)=some r) ?_ ?_
 ·refine AJ 2 Z<|AP h ?_ ?_<;>intro y h
  ·refine Au ?_
   cases h
  refine Aw<|A8 () ⟨hL,h⟩
 rintro _ ac ⟨d,h⟩;refine AD<|Bu 2 Z<|Aj (AaO Z)<|Aq 1 Z<|Aj (UF Z)<|Az h fun g h=>Aj (A5 g)<|Az h fun j h=>Aj (A5 j)<|A7 1 Z<|AJ 2 Z<|AP h ?_ ?_<;>intro l h
 ·refine Au<|Aq 2 Z<|Aj (AaO Z)<|Aj UR<|Aq 1 Z<|Az h fun ab h=>?_;obtain⟨z,o⟩:=Int.eq_ofNat_of_zero_le (show 0<=(a1 - (0 - 0)) by omega);refine AaP (k:=.i64) (m:=z) (by rw [<- o];rfl) Afr U U U fun f a c ad p q s t u=>Aq 1 Z<|Aj (UF Z)<|Aj (Adi Z) ?_;obtain⟨b,aa⟩:=Nr (v:=.slice (some ⟨f,0,none⟩) 0 a) (e:=5) (sz:=1) (m:=0) (xs:=[]) d p ⟨Z,.inr ⟨f,a,c,Z,q,s,Nat.zero_le _,t,by rw [u,Qz3],Z⟩⟩;refine Aq 1 Z<|AL<|As<|AJ 2 Z<|Ay ?_
  cases h
  refine Am Z ⟨b.ext,_,Z,(b.Ip hH (i:=0) Z .nil)⟩
 refine Aw<|As<|AJ 2 Z<|Ay ?_
 cases h
 refine Am Z ⟨d.ext,_,Z,Ck.nil⟩
def Eb(a:Ac3):Option Ac3:=
 some a
def CQ(a0:List Ac3):Ac3×Int->Option ((Ac3×Int) ⊕ (Ac3)):=fun⟨b,a⟩=>
 if a<(a0.length:Int) then AO (0<=a/\a<(a0.length:Int)) (AO (Go.E.Io 1 (b.length+(a0.getD a.toNat Qq2).length)) (AO (Bw (a+1)) (some (Sum.inl ((b++a0.getD a.toNat Qq2),(a+1)))))) else Qq7 Sum.inr (Eb b)
def Fw(a0:List Ac3)(s:Ac3×Int):Option Ac3:=Go.L.run (CQ a0) s
def De(a0:List Ac3)(a:Int):Option Ac3:=
 Qq4 (E5 ([]) a) (fun b=>(Fw a0) (b,0))
def CR(a0:List Ac3):Int×Int->Option ((Int×Int) ⊕ (Ac3)):=fun⟨b,a⟩=>
 if a<(a0.length:Int) then AO (0<=a/\a<(a0.length:Int)) (AO (Bw (b+((a0.getD a.toNat Qq2).length:Int))) (if(b+((a0.getD a.toNat Qq2).length:Int))<0 then none else AO (Bw (a+1)) (some (Sum.inl ((b+((a0.getD a.toNat Qq2).length:Int)),(a+1)))))) else Qq7 Sum.inr ((De a0) b)
def Fx(a0:List Ac3)(s:Int×Int):Option Ac3:=Go.L.run (CR a0) s
def DL(a0:List Ac3):Option Ac3:=
 (Fx a0) (0,0)
theorem Ec{a0:List Ac3}{e:Value}(o:AH (.vec .byte) H e a0){r:Ac3}(h:DL a0=some r):
  Qqv 249 [e] w (fun v w'=>∃ u0,v=u0/\Ck 5 .byte H w w' u0 r):=by
 refine A1 36 [(0,e)] func249 Z fun hL=>AJ 1 Z<|AJ 1 Z<|Bt Int (fun j=>[(0,e),(3,No j)]) (fun j wr=>Bb w [] wr/\(De a0) j=some r) ?_ ?_
 ·refine Bu 1 Z<|Aj (Bc o)<|A7 1 Z<|A3 ?_;obtain⟨y,h⟩:=Ba h;refine B6 (Int×Int×Nat) (fun⟨c,b,n⟩=>[(0,e),(3,No c),(9,e),(10,No (a0.length:Int)),(11,No b)]) (fun⟨c,b,n⟩ wr=>Bb w [] wr/\HG (CR a0) n (c,b)=some r) (fun⟨c,b,n⟩=>n) (0,0,y) Z ⟨hL,h⟩ ?_;rintro⟨c,b,nn42⟩ a7 ⟨s,h⟩;obtain⟨y,bb,rfl,h,z⟩:=AY h;refine AJ 1 Z<|AD<|AP h ?_ ?_<;>intro al h
  ·refine Aw<|As<|AD<|A3<|Ak<|Az h fun aa h=>Bf o b.toNat (Gy aa) (AW aa) ?_;rintro bc _ ⟨e46v0,rfl,e46h0⟩ am;refine Aj (Bl am (hH.trans s.arg))<|A7 1 Z<|Bu 2 Z<|Aj (Bc e46h0)<|Az h fun an h=>Aj (A5 an)<|A7 1 Z<|AJ 2 Z<|AP h ?_ ?_<;>intro ao h
   ·refine Au ?_
    cases h
   refine Aw<|A2<|As<|Au<|Az h fun ap h=>Aj (A5 ap)<|Aq 1 Z<|AL ?_;have h:=Cg.again h z;refine AN (_,_,_) Z ⟨s,h⟩
  refine B4<|AE<|A6 ?_;have h:=Cg.out h z;refine Bi<|A8 _ ⟨s,h⟩
 rintro j a8 ⟨t,h⟩;refine Bu 1 Z<|Ax h fun a4 aq h=>Bk t (O2 _ _ (Ao t) (AH.nil _ _) aq) ?_;rintro ah bd ⟨_,rfl,ab⟩ ar ac ai;obtain⟨au,ac,ai,av⟩:=ab.take hH t ar;refine A7 1 Z<|Bt (Ac3×Value×(List Value)) (fun⟨q,p,k⟩=>[(6,p)]) (fun⟨q,p,k⟩ wr=>Fl w [.row p 5 1 (q).length k] wr fun Oz=>AI .byte (gz H w wr Oz) q k/\Eb q=some r) ?_ ?_
 ·refine Bu 1 Z<|Aj (Bc o)<|A7 1 Z<|A3 ?_;obtain⟨ad,h⟩:=Ba h;refine B6 (Ac3×Int×Value×(List Value)×Nat) (fun⟨f,a,g,d,n⟩=>[(6,g),(25,e),(26,No (a0.length:Int)),(27,No a)]) (fun⟨f,a,g,d,n⟩ wr=>Fl w [.row g 5 1 (f).length d] wr fun Oz=>AI .byte (gz H w wr Oz) f d/\HG (CQ a0) n (f,a)=some r) (fun⟨f,a,g,d,n⟩=>n) (a4,0,ah,au,ad) Z ⟨ac,av,h⟩ ?_;rintro⟨f,a,g,d,nn92⟩ a9 ⟨u,x,h⟩;obtain⟨ad,be,rfl,h,ae⟩:=AY h;refine AJ 1 Z<|AD<|AP h ?_ ?_<;>intro aw h
  ·refine Aw<|As<|AD<|A3<|Ak<|Az h fun af h=>Bf o a.toNat (Gy af) (AW af) ?_;rintro bf _ ⟨e96v0,rfl,e96h0⟩ ax;refine Aj (Bl ax (hH.trans u.arg))<|A7 1 Z<|Au<|Aq 2 Z<|Az h fun ay h=>By (r:=.byte) 0 f (a0.getD a.toNat Qq2) Z Afr u Z x (e96h0.mono  Ah) ay fun a5 bg az a1 a6 a2=>Aq 1 Z<|AL<|A2<|As<|Au<|Az h fun aj h=>Aj (A5 aj)<|Aq 1 Z<|AL ?_;have h:=Cg.again h ae;refine AN (_,_,_,_,_) Z ⟨a1,a2,h⟩
  refine B4<|AE<|A6 ?_;have h:=Cg.out h ae;refine Bi<|A8 (_,_,_) ⟨u,x,h⟩
 rintro⟨q,p,k⟩ ba ⟨ag,ak,h⟩;refine AJ 2 Z<|Ay ?_
 cases h
 refine Am Z ⟨ag.ext,_,Z,(ag.Ip hH (i:=0) Z ak)⟩
def IZ(a:Ac3):Option Ac3:=
 some a
def GP(a0:List Int):Ac3×Int->Option ((Ac3×Int) ⊕ (Ac3)):=fun⟨b,a⟩=>
 if a<(a0.length:Int) then AO (0<=a/\a<(a0.length:Int)) (Qq4 (DZ (a0.getD a.toNat Qq2)) (fun c=>AO (Go.E.Io 1 (b.length+c.length)) (AO (Bw (a+1)) (some (Sum.inl ((b++c),(a+1))))))) else Qq7 Sum.inr (IZ b)
def Kq(a0:List Int)(s:Ac3×Int):Option Ac3:=Go.L.run (GP a0) s
def JB(a0:List Int):Option Ac3:=
 Qq4 (DZ (a0.length:Int)) (fun a=>(Kq a0) (a,0))
theorem Ja{a0:List Int}{j:Value}(p:AH (.int .i64) H j a0){r:Ac3}(h:JB a0=some r):
  Qqv 250 [j,.func (.func 177) #[] #[]] w (fun v w'=>∃ u0,v=u0/\Ck 5 .byte H w w' u0 r):=by
 refine A1 24 [(0,j),(1,.func (.func 177) #[] #[])] func250 Z fun hL=>AJ 1 Z<|Bu 1 Z<|Aj (Bc p)<|Ax h fun x1 ar h=>Bk hL (BX _ _ (Ao hL) ar) ?_;rintro ae w2 ⟨_,rfl,z⟩ au ac af;obtain⟨av,ac,af,aw⟩:=z.take hH hL au;refine A7 1 Z<|Bt (Ac3×Value×(List Value)) (fun⟨o,k,e⟩=>[(5,k)]) (fun⟨o,k,e⟩ wr=>Fl w [.row k 5 1 (o).length e] wr fun Oz=>AI .byte (gz H w wr Oz) o e/\IZ o=some r) ?_ ?_
 ·refine Bu 1 Z<|Aj (Bc p)<|A7 1 Z<|A3 ?_;obtain⟨q,h⟩:=Ba h;refine B6 (Ac3×Int×Value×(List Value)×Nat) (fun⟨c,a,d,b,n⟩=>[(1,.func (.func 177) #[] #[]),(5,d),(11,j),(12,No (a0.length:Int)),(13,No a)]) (fun⟨c,a,d,b,n⟩ wr=>Fl w [.row d 5 1 (c).length b] wr fun Oz=>AI .byte (gz H w wr Oz) c b/\HG (GP a0) n (c,a)=some r) (fun⟨c,a,d,b,n⟩=>n) (x1,0,ae,av,q) Z ⟨ac,aw,h⟩ ?_;rintro⟨c,a,d,b,nn44⟩ a2 ⟨g,f,h⟩;obtain⟨q,a4,rfl,h,s⟩:=AY h;refine AJ 1 Z<|AD<|AP h ?_ ?_<;>intro ag h
  ·refine Aw<|As<|AD<|A3<|Ak<|Az h fun t h=>Bf p a.toNat (Gy t) (AW t) ?_;rintro a5 _ rfl ah;refine Aj (Bl ah (hH.trans g.arg))<|A7 1 Z<|Au<|Aq 3 Z<|Ax h fun ad ai h=>OK g (BX _ _ (Ao g) ai) ?_;rintro ay a6 ⟨_,rfl,u⟩ aj ak aa;have x:=u.Dz hH g aj;refine Az h fun al h=>?_;have f:=f.mono (Aa aa);refine By (r:=.byte) 0 c ad Z Afr ak Z f x al fun ax a7 am an az ao=>Aq 1 Z<|AL<|A2<|As<|Au<|Az h fun ap h=>Aj (A5 ap)<|Aq 1 Z<|AL ?_;have h:=Cg.again h s;refine AN (_,_,_,_,_) Z ⟨an,ao,h⟩
  refine B4<|AE<|A6 ?_;have h:=Cg.out h s;refine Bi<|A8 (_,_,_) ⟨g,f,h⟩
 rintro⟨o,k,e⟩ a3 ⟨y,ab,h⟩;refine AJ 2 Z<|Ay ?_
 cases h
 refine Am Z ⟨y.ext,_,Z,(y.Ip hH (i:=0) Z ab)⟩
end
end Go.Proofs.YtekmbcbgknmhiaaGreatDoor
end
noncomputable section
namespace Go
abbrev AjU:=Go.E.Rp.pair (Go.E.Rp.pair Go.E.Rp.st (Go.E.Rp.pair (Go.E.Rp.int .i64) (Go.E.Rp.pair (Go.E.Rp.int .i64) Go.E.Rp.st))) (Go.E.Rp.vec (Go.E.Rp.int .i64))
end Go
namespace Go
abbrev AjR:=AjO×(List Int)
end Go
namespace Go.Proofs.YtekmbcbgknmhiaaGreatDoor
open Go Go.E Go.RowKit Go.L
set_option maxHeartbeats 1000000
set_option maxRecDepth 10000
open _root_.Go.Proofs.Tryz
def LO(a:Ac3):Option Ac3:=
 some a
def Ka(a0:AjO×(List Int)):Option Ac3:=
 AO (a0.1.1.length<=9223372036854775807) (Qq4 (HP a0.1.1) (fun a=>Qq4 (DZ a0.1.2.1) (fun b=>Qq4 (DZ a0.1.2.2.1) (fun c=>AO (a0.1.2.2.2.length<=9223372036854775807) (Qq4 (HP a0.1.2.2.2) (fun d=>Qq4 (JB a0.2) (fun e=>Qq4 (DL ([a,b,c,d,e])) (fun f=>LO f))))))))
section
variable(w:World)(H:PH)(hH:Le H (hp w)) include hH
theorem Vt{a0:AjO×(List Int)}{cx:Value}(b7:AH (.int .i64) H cx (a0.2)){r:Ac3}(h:Ka a0=some r):
  Qqv 192 [.agg #[Ab5 a0.1.1,No a0.1.2.1,No a0.1.2.2.1,Ab5 a0.1.2.2.2,cx]] w (fun v w'=>∃ u0,v=u0/\Ck 5 .byte H w w' u0 r):=by
 refine A1 26 [(0,.agg #[Ab5 a0.1.1,No a0.1.2.1,No a0.1.2.2.1,Ab5 a0.1.2.2.2,cx])] func192 Z fun hL=>Ak<|CB (t:=203) Z Z hL fun w1 b1 iw j4 _=>A7 1 Z<|Bt (Ac3×Value×(List Value)) (fun⟨b8,a9,an⟩=>[(2,a9)]) (fun⟨b8,a9,an⟩ wr=>Fl w [.row a9 5 1 (b8).length an,.box b1 [Ab5 a0.1.1,No a0.1.2.1,No a0.1.2.2.1,Ab5 a0.1.2.2.2,cx] 203] wr fun Oz=>AI .byte (gz H w wr Oz) b8 an/\LO b8=some r) ?_ ?_
 ·refine Qm (Qqz 0 3 (Qqz 5 3 (Qqz 9 3 (Qqz 13 3 (.q 18 (.q 19 (.h2 3 (.h2 4 (.h2 8 (.h2 12 (.h 16 (.h 17 (.h 20 (.h 21 (.h 22 (.q 23 (.tail 24))))))) 16 (.h 12 (.h 17 (.h 20 (.h 21 (.h 22 (.q 23 (.tail 24)))))))) 16 (.h 8 (.h 12 (.h 17 (.h 20 (.h 21 (.h 22 (.q 23 (.tail 24))))))))) 16 (.h 4 (.h 8 (.h 12 (.h 17 (.h 20 (.h 21 (.h 22 (.q 23 (.tail 24)))))))))) 16 (.h 3 (.h 4 (.h 8 (.h 12 (.h 17 (.h 20 (.h 21 (.h 22 (.q 23 (.tail 24))))))))))))))))) mixed Qqb (fun j5 ha=>?_);have j:=iw.call ha;refine CF Z (Ae Z Aju Z JP.e) Z<|CF Z (Ae Z Ajd Z HJ.e) Z<|CF Z (Af 0 Z j Z) Z<|CF Z (Ae Z Aju Z JP.e) Z<|CF Z (Ae Z Ajd Z CO.e) Z<|CF Z (Af 0 Z j Z) Z<|CF Z (Ae Z Aju Z JP.e) Z<|CF Z (Ae Z Ajd Z CO.e) Z<|CF Z (Af 0 Z j Z) Z<|CF Z (Ae Z Aju Z JP.e) Z<|CF Z (Ae Z Ajd Z HJ.e) Z<|CF Z (Af 0 Z j Z) Z<|CF Z (Ae Z Aju Z Sn.e) Z<|CF Z (Af 0 Z j Z) Z<|Y0 ?_ ?_
  ·refine Az h fun cy h=>Ve (H:=H) Z Z AcJ Afr AcI Z j cy fun j6 j7 jq ba ix bb=>Y0 ?_ ?_
   ·refine Ax h fun am ao h=>Ct Z Z Z (fun h0 bc=>Fp _ _ (Ao (ba.call bc)) (bb.mono (Aa (AR ba bc))) ao) ?_;rintro h0 iy j8 bc fn ⟨_,rfl,fv⟩;have fo:=ba.call bc;have bd:=fo.call fn;have a:=fv.Dz hH fo fn;refine Y0 ?_ ?_
    ·refine Ax h fun u k h=>Ct Z Z Z (fun h1 be=>BX _ _ (Ao (bd.call be)) k) ?_;rintro h1 iz j9 be cz ⟨_,rfl,fw⟩;have c0:=bd.call be;have fc:=AR bd be;have bf:=c0.call cz;have fd:=AR c0 cz;have b:=fw.Dz hH c0 cz;refine Y0 ?_ ?_
     ·refine Ax h fun m c h=>Ct Z Z Z (fun h3 bg=>BX _ _ (Ao (bf.call bg)) c) ?_;rintro h3 i0 ka bg c2 ⟨_,rfl,fx⟩;have c3:=bf.call bg;have fe:=AR bf bg;have hb:=c3.call c2;have ff:=AR c3 c2;have x:=fx.Dz hH c3 c2;refine Az h fun d h=>Ve (H:=H) Z Z AcJ Afr AcI Z hb d fun kb kc jr bh b9 hc=>Ax h fun o e h=>Ct Z Z Z (fun h4 ap=>Fp _ _ (Ao (bh.call ap)) (hc.mono (Aa (AR bh ap))) e) ?_;rintro h4 i1 kd ap c4 ⟨_,rfl,fy⟩;have c5:=bh.call ap;have ca:=AR bh ap;have c6:=c5.call c4;have cb:=AR c5 c4;have y:=fy.Dz hH c5 c4;refine Ax h fun p f h=>Ct Z Z Z (fun h5 bi=>Ja _ _ (Ao (c6.call bi)) (b7.mono  Ah) f) ?_;rintro h5 i2 ke bi c7 ⟨_,rfl,fz⟩;have c8:=c6.call bi;have aq:=AR c6 bi;have hd:=c8.call c7;have ar:=AR c8 c7;have cs:=fz.Dz hH c8 c7
      have a:=a.mono (Aa (fc.trans (fd.trans (fe.trans (ff.trans (b9.trans (ca.trans (cb.trans (aq.trans ar)))))))));have b:=b.mono (Aa (fe.trans (ff.trans (b9.trans (ca.trans (cb.trans (aq.trans ar)))))));have x:=x.mono (Aa (b9.trans (ca.trans (cb.trans (aq.trans ar)))));have y:=y.mono (Aa (aq.trans ar));refine RL [am,u,m,o,p] (r:=(.vec .byte)) Z Z (fun _=>St _ a.one _ b.one _ x.one _ y.one _ cs.one _) Z (BJ 5) hH hd (.c1 ⟨_,Z,a⟩ (.c1 ⟨_,Z,b⟩ (.c1 ⟨_,Z,x⟩ (.c1 ⟨_,Z,y⟩ (.c1 ⟨_,Z,cs⟩ .nil))))) fun kf kg js c9 i3 he=>Ax h fun s g h=>Ct Z Z Z (fun h6 bj=>Ec _ _ (Ao (c9.call bj)) (he.mono (Aa (AR c9 bj))) g) ?_;rintro h6 gm kh bj da ⟨_,rfl,f0⟩;have db:=c9.call bj;have dc:=db.call da;have gn:=AR db da;obtain⟨hf,dc,gn,dd⟩:=f0.take hH db da;refine D4 1 Z<|BU (fun ki fp=>?_);have hg:=dc.call fp;have go:=AR dc fp;refine AL ?_;have dd:=dd.mono (Aa go)
      refine A8 (_,_,_) ⟨hg,dd,h⟩
     refine Ax h fun m c h=>Az h fun d h=>Ax h fun o e h=>Ax h fun p f h=>Ax h fun s g h=>Ve (H:=H) Z Z AcJ Afr AcI Z bf d fun kj kk jt de fg df=>Ct Z Z Z (fun h7 bk=>BX _ _ (Ao (de.call bk)) c) ?_;rintro h7 i4 kl bk dg ⟨_,rfl,f1⟩;have dh:=de.call bk;have cc:=AR de bk;have bl:=dh.call dg;have cd:=AR dh dg;have z:=f1.Dz hH dh dg;have df:=df.mono (Aa (cc.trans cd));refine Ct Z Z Z (fun h8 au=>Fp _ _ (Ao (bl.call au)) (df.mono (Aa (AR bl au))) e) ?_;rintro h8 i5 km au di ⟨_,rfl,f2⟩;have dj:=bl.call au;have ce:=AR bl au;have dk:=dj.call di;have cf:=AR dj di;have aa:=f2.Dz hH dj di;refine Ct Z Z Z (fun h9 bm=>Ja _ _ (Ao (dk.call bm)) (b7.mono  Ah) f) ?_;rintro h9 i6 kn bm dl ⟨_,rfl,f3⟩;have dm:=dk.call bm;have av:=AR dk bm;have hh:=dm.call dl;have aw:=AR dm dl;have ct:=f3.Dz hH dm dl
     have a:=a.mono (Aa (fc.trans (fd.trans (fg.trans (cc.trans (cd.trans (ce.trans (cf.trans (av.trans aw)))))))));have b:=b.mono (Aa (fg.trans (cc.trans (cd.trans (ce.trans (cf.trans (av.trans aw)))))));have z:=z.mono (Aa (ce.trans (cf.trans (av.trans aw))));have aa:=aa.mono (Aa (av.trans aw));refine RL [am,u,m,o,p] (r:=(.vec .byte)) Z Z (fun _=>St _ a.one _ b.one _ z.one _ aa.one _ ct.one _) Z (BJ 5) hH hh (.c1 ⟨_,Z,a⟩ (.c1 ⟨_,Z,b⟩ (.c1 ⟨_,Z,z⟩ (.c1 ⟨_,Z,aa⟩ (.c1 ⟨_,Z,ct⟩ .nil))))) fun ko kp ju dn i7 hi=>Ct Z Z Z (fun ia bn=>Ec _ _ (Ao (dn.call bn)) (hi.mono (Aa (AR dn bn))) g) ?_;rintro ia gp kq bn dp ⟨_,rfl,f4⟩;have dq:=dn.call bn;have dr:=dq.call dp;have gq:=AR dq dp;obtain⟨hj,dr,gq,ds⟩:=f4.take hH dq dp;refine D4 1 Z<|BU (fun kr fq=>?_);have hk:=dr.call fq;have gr:=AR dr fq;refine AL ?_;have ds:=ds.mono (Aa gr);refine A8 (_,_,_) ⟨hk,ds,h⟩
    refine Ax h fun u k h=>Ax h fun m c h=>Az h fun d h=>Ax h fun o e h=>Ax h fun p f h=>Ax h fun s g h=>Ve (H:=H) Z Z AcJ Afr AcI Z bd d fun ks kt jv dt gs du=>Ct Z Z Z (fun ib bo=>BX _ _ (Ao (dt.call bo)) k) ?_;rintro ib i8 ku bo dv ⟨_,rfl,f5⟩;have dw:=dt.call bo;have fh:=AR dt bo;have dx:=dw.call dv;have fi:=AR dw dv;have ab:=f5.Dz hH dw dv;refine Ct Z Z Z (fun ic bp=>BX _ _ (Ao (dx.call bp)) c) ?_;rintro ic i9 kv bp dy ⟨_,rfl,f6⟩;have dz:=dx.call bp;have cg:=AR dx bp;have bq:=dz.call dy;have ch:=AR dz dy;have ac:=f6.Dz hH dz dy;have du:=du.mono (Aa (fh.trans (fi.trans (cg.trans ch))));refine Ct Z Z Z (fun ie ax=>Fp _ _ (Ao (bq.call ax)) (du.mono (Aa (AR bq ax))) e) ?_;rintro ie ja kw ax d0 ⟨_,rfl,f7⟩;have d1:=bq.call ax;have ci:=AR bq ax;have d2:=d1.call d0;have cj:=AR d1 d0
    have ad:=f7.Dz hH d1 d0;refine Ct Z Z Z (fun ig br=>Ja _ _ (Ao (d2.call br)) (b7.mono  Ah) f) ?_;rintro ig jb kx br d3 ⟨_,rfl,f8⟩;have d4:=d2.call br;have ay:=AR d2 br;have hl:=d4.call d3;have az:=AR d4 d3;have cu:=f8.Dz hH d4 d3;have a:=a.mono (Aa (gs.trans (fh.trans (fi.trans (cg.trans (ch.trans (ci.trans (cj.trans (ay.trans az)))))))));have ab:=ab.mono (Aa (cg.trans (ch.trans (ci.trans (cj.trans (ay.trans az))))));have ac:=ac.mono (Aa (ci.trans (cj.trans (ay.trans az))));have ad:=ad.mono (Aa (ay.trans az));refine RL [am,u,m,o,p] (r:=(.vec .byte)) Z Z (fun _=>St _ a.one _ ab.one _ ac.one _ ad.one _ cu.one _) Z (BJ 5) hH hl (.c1 ⟨_,Z,a⟩ (.c1 ⟨_,Z,ab⟩ (.c1 ⟨_,Z,ac⟩ (.c1 ⟨_,Z,ad⟩ (.c1 ⟨_,Z,cu⟩ .nil))))) fun ky kz jw d5 jc hm=>Ct Z Z Z (fun ih bs=>Ec _ _ (Ao (d5.call bs)) (hm.mono (Aa (AR d5 bs))) g) ?_;rintro ih gt k0 bs d6 ⟨_,rfl,f9⟩;have d7:=d5.call bs
    have d8:=d7.call d6;have gu:=AR d7 d6;obtain⟨hn,d8,gu,d9⟩:=f9.take hH d7 d6;refine D4 1 Z<|BU (fun k1 fr=>?_);have ho:=d8.call fr;have gv:=AR d8 fr;refine AL ?_;have d9:=d9.mono (Aa gv);refine A8 (_,_,_) ⟨ho,d9,h⟩
   refine Ax h fun am ao h=>Ax h fun u k h=>Ax h fun m c h=>Az h fun d h=>Ax h fun o e h=>Ax h fun p f h=>Ax h fun s g h=>Ve (H:=H) Z Z AcJ Afr AcI Z ba d ?_;intro k2 k3 jx bt gw ea;have bb:=bb.mono (Aa gw);refine Ct Z Z Z (fun ii a1=>Fp _ _ (Ao (bt.call a1)) (bb.mono (Aa (AR bt a1))) ao) ?_;rintro ii jd k4 a1 eb ⟨_,rfl,ga⟩;have ec:=bt.call a1;have gx:=AR bt a1;have ed:=ec.call eb;have gy:=AR ec eb;have ae:=ga.Dz hH ec eb;refine Ct Z Z Z (fun ij bu=>BX _ _ (Ao (ed.call bu)) k) ?_;rintro ij je k5 bu ee ⟨_,rfl,gb⟩;have ef:=ed.call bu;have fj:=AR ed bu;have eg:=ef.call ee;have fk:=AR ef ee;have af:=gb.Dz hH ef ee;refine Ct Z Z Z (fun ik bv=>BX _ _ (Ao (eg.call bv)) c) ?_;rintro ik jf k6 bv eh ⟨_,rfl,gc⟩;have ei:=eg.call bv;have ck:=AR eg bv;have bw:=ei.call eh;have cl:=AR ei eh
   have ag:=gc.Dz hH ei eh;have ea:=ea.mono (Aa (gx.trans (gy.trans (fj.trans (fk.trans (ck.trans cl))))));refine Ct Z Z Z (fun il a2=>Fp _ _ (Ao (bw.call a2)) (ea.mono (Aa (AR bw a2))) e) ?_;rintro il jg k7 a2 ej ⟨_,rfl,gd⟩;have ek:=bw.call a2;have cm:=AR bw a2;have el:=ek.call ej;have cn:=AR ek ej;have ah:=gd.Dz hH ek ej;refine Ct Z Z Z (fun im bx=>Ja _ _ (Ao (el.call bx)) (b7.mono  Ah) f) ?_;rintro im jh k8 bx em ⟨_,rfl,ge⟩;have en:=el.call bx;have a3:=AR el bx;have hq:=en.call em;have a4:=AR en em;have cv:=ge.Dz hH en em;have ae:=ae.mono (Aa (fj.trans (fk.trans (ck.trans (cl.trans (cm.trans (cn.trans (a3.trans a4))))))));have af:=af.mono (Aa (ck.trans (cl.trans (cm.trans (cn.trans (a3.trans a4))))));have ag:=ag.mono (Aa (cm.trans (cn.trans (a3.trans a4))));have ah:=ah.mono (Aa (a3.trans a4))
   refine RL [am,u,m,o,p] (r:=(.vec .byte)) Z Z (fun _=>St _ ae.one _ af.one _ ag.one _ ah.one _ cv.one _) Z (BJ 5) hH hq (.c1 ⟨_,Z,ae⟩ (.c1 ⟨_,Z,af⟩ (.c1 ⟨_,Z,ag⟩ (.c1 ⟨_,Z,ah⟩ (.c1 ⟨_,Z,cv⟩ .nil))))) fun k9 la jy eo ji hr=>Ct Z Z Z (fun io bz=>Ec _ _ (Ao (eo.call bz)) (hr.mono (Aa (AR eo bz))) g) ?_;rintro io g0 lb bz ep ⟨_,rfl,gf⟩;have eq:=eo.call bz;have er:=eq.call ep;have g1:=AR eq ep;obtain⟨hs,er,g1,es⟩:=gf.take hH eq ep;refine D4 1 Z<|BU (fun lc fs=>?_);have ht:=er.call fs;have g2:=AR er fs;refine AL ?_;have es:=es.mono (Aa g2);refine A8 (_,_,_) ⟨ht,es,h⟩
  refine Az h fun cy h=>Ax h fun am ao h=>Ax h fun u k h=>Ax h fun m c h=>Az h fun d h=>Ax h fun o e h=>Ax h fun p f h=>Ax h fun s g h=>Ve (H:=H) Z Z AcJ Afr AcI Z j d fun ld le jz hu jj et=>Ve (H:=H) Z Z AcJ Afr AcI Z hu cy fun lf lg j0 b0 g3 hv=>Ct Z Z Z (fun ip a5=>Fp _ _ (Ao (b0.call a5)) (hv.mono (Aa (AR b0 a5))) ao) ?_;rintro ip jk lh a5 eu ⟨_,rfl,gg⟩;have ev:=b0.call a5;have g4:=AR b0 a5;have ew:=ev.call eu;have g5:=AR ev eu;have ai:=gg.Dz hH ev eu;refine Ct Z Z Z (fun iq b2=>BX _ _ (Ao (ew.call b2)) k) ?_;rintro iq jl li b2 ex ⟨_,rfl,gh⟩;have ey:=ew.call b2;have fl:=AR ew b2;have ez:=ey.call ex;have fm:=AR ey ex;have aj:=gh.Dz hH ey ex;refine Ct Z Z Z (fun ir b3=>BX _ _ (Ao (ez.call b3)) c) ?_;rintro ir jm lj b3 e0 ⟨_,rfl,gi⟩;have e1:=ez.call b3
  have co:=AR ez b3;have b4:=e1.call e0;have cp:=AR e1 e0;have ak:=gi.Dz hH e1 e0;have et:=et.mono (Aa (g3.trans (g4.trans (g5.trans (fl.trans (fm.trans (co.trans cp)))))));refine Ct Z Z Z (fun is a6=>Fp _ _ (Ao (b4.call a6)) (et.mono (Aa (AR b4 a6))) e) ?_;rintro is jn lk a6 e2 ⟨_,rfl,gj⟩;have e3:=b4.call a6;have cq:=AR b4 a6;have e4:=e3.call e2;have cr:=AR e3 e2;have al:=gj.Dz hH e3 e2;refine Ct Z Z Z (fun it b5=>Ja _ _ (Ao (e4.call b5)) (b7.mono  Ah) f) ?_;rintro it jo ll b5 e5 ⟨_,rfl,gk⟩;have e6:=e4.call b5;have a7:=AR e4 b5;have hw:=e6.call e5;have a8:=AR e6 e5;have cw:=gk.Dz hH e6 e5;have ai:=ai.mono (Aa (fl.trans (fm.trans (co.trans (cp.trans (cq.trans (cr.trans (a7.trans a8))))))));have aj:=aj.mono (Aa (co.trans (cp.trans (cq.trans (cr.trans (a7.trans a8))))));have ak:=ak.mono (Aa (cq.trans (cr.trans (a7.trans a8))));have al:=al.mono (Aa (a7.trans a8))
  refine RL [am,u,m,o,p] (r:=(.vec .byte)) Z Z (fun _=>St _ ai.one _ aj.one _ ak.one _ al.one _ cw.one _) Z (BJ 5) hH hw (.c1 ⟨_,Z,ai⟩ (.c1 ⟨_,Z,aj⟩ (.c1 ⟨_,Z,ak⟩ (.c1 ⟨_,Z,al⟩ (.c1 ⟨_,Z,cw⟩ .nil))))) fun lm ln j1 e7 jp hx=>Ct Z Z Z (fun iu b6=>Ec _ _ (Ao (e7.call b6)) (hx.mono (Aa (AR e7 b6))) g) ?_;rintro iu g6 lo b6 e8 ⟨_,rfl,gl⟩;have e9:=e7.call b6;have fa:=e9.call e8;have g7:=AR e9 e8;obtain⟨hy,fa,g7,fb⟩:=gl.take hH e9 e8;refine D4 1 Z<|BU (fun lp ft=>?_);have hz:=fa.call ft;have g8:=AR fa ft;refine AL ?_;have fb:=fb.mono (Aa g8);refine A8 (_,_,_) ⟨hz,fb,h⟩
 rintro⟨b8,a9,an⟩ j2 ⟨fu,g9,h⟩;refine Ay ?_
 cases h
 refine Am Z ⟨fu.ext,_,Z,(fu.Ip hH (i:=0) Z g9)⟩
def Kb(a:Ac3):Option Ac3:=
 some a
def Is(a0:List AjR):Ac3×Int->Option ((Ac3×Int) ⊕ (Ac3)):=fun⟨b,a⟩=>
 if a<(a0.length:Int) then AO (0<=a/\a<(a0.length:Int)) (Qq4 (Ka ((((a0.getD a.toNat Qq2).1).1,((a0.getD a.toNat Qq2).1).2.1,((a0.getD a.toNat Qq2).1).2.2.1,((a0.getD a.toNat Qq2).1).2.2.2),(a0.getD a.toNat Qq2).2)) (fun c=>AO (Go.E.Io 1 (b.length+c.length)) (AO (Bw (a+1)) (some (Sum.inl ((b++c),(a+1))))))) else Qq7 Sum.inr (Kb b)
def LP(a0:List AjR)(s:Ac3×Int):Option Ac3:=Go.L.run (Is a0) s
def Ly(a0:List AjR):Option Ac3:=
 Qq4 (DZ (a0.length:Int)) (fun a=>(LP a0) (a,0))
theorem Vu{a0:List AjR}{g:Value}(p:AH AjU H g a0){r:Ac3}(h:Ly a0=some r):
  Qqv 191 [g,.func (.func 192) #[] #[]] w (fun v w'=>∃ u0,v=u0/\Ck 5 .byte H w w' u0 r):=by
 refine A1 24 [(0,g),(1,.func (.func 192) #[] #[])] func191 Z fun hL=>AJ 1 Z<|Bu 1 Z<|Aj (Bc p)<|Ax h fun x1 ay h=>Bk hL (BX _ _ (Ao hL) ay) ?_;rintro ai w2 ⟨_,rfl,ab⟩ az ag aj;obtain⟨a1,ag,aj,a2⟩:=ab.take hH hL az;refine A7 1 Z<|Bt (Ac3×Value×(List Value)) (fun⟨o,j,e⟩=>[(5,j)]) (fun⟨o,j,e⟩ wr=>Fl w [.row j 5 1 (o).length e] wr fun Oz=>AI .byte (gz H w wr Oz) o e/\Kb o=some r) ?_ ?_
 ·refine Bu 1 Z<|Aj (Bc p)<|A7 1 Z<|A3 ?_;obtain⟨t,h⟩:=Ba h;refine B6 (Ac3×Int×Value×(List Value)×Nat) (fun⟨c,a,d,b,n⟩=>[(1,.func (.func 192) #[] #[]),(5,d),(11,g),(12,No (a0.length:Int)),(13,No a)]) (fun⟨c,a,d,b,n⟩ wr=>Fl w [.row d 5 1 (c).length b] wr fun Oz=>AI .byte (gz H w wr Oz) c b/\HG (Is a0) n (c,a)=some r) (fun⟨c,a,d,b,n⟩=>n) (x1,0,ai,a1,t) Z ⟨ag,a2,h⟩ ?_;rintro⟨c,a,d,b,nn50⟩ a7 ⟨q,f,h⟩;obtain⟨t,a9,rfl,h,u⟩:=AY h;refine AJ 1 Z<|AD<|AP h ?_ ?_<;>intro ak h
  ·refine Aw<|As<|AD<|A3<|Ak<|Az h fun x h=>Bf p a.toNat (Gy x) (AW x) ?_;rintro ba _ ⟨_,_,rfl,⟨_,_,rfl,rfl,⟨_,_,rfl,rfl,⟨_,_,rfl,rfl,rfl⟩⟩⟩,⟨e54v4,rfl,e54h4⟩⟩ al;refine Aj (Cx al (hH.trans q.arg))<|AA KI.e Z q fun bb bc am ac _=>Ag 0 Z am Z (a:=(Br Z (Br Z (Br Z (Br Z (Br e54h4.one K9)))))) fun bd k ad=>Ac<|Au<|Aq 2 Z<|Aj (A4 0 Z KI.e k Z)<|Ax h fun ah an h=>OK k (Vt (a0:=((((a0.getD a.toNat Qq2).1).1,((a0.getD a.toNat Qq2).1).2.1,((a0.getD a.toNat Qq2).1).2.2.1,((a0.getD a.toNat Qq2).1).2.2.2),(a0.getD a.toNat Qq2).2)) _ _ (Ao k) (e54h4.mono  Ah) an) ?_;rintro a4 be ⟨_,rfl,y⟩ ao ap ae;have z:=y.Dz hH k ao;refine Az h fun aq h=>?_;have f:=f.mono (Aa (ac.trans (ad.trans ae)));refine By (r:=.byte) 1 c ah Z Afr ap Z f z aq fun a3 bf ar au a5 s=>Aq 1 Z<|AL<|A2 ?_
   refine As<|Au<|Az h fun av h=>Aj (A5 av)<|Aq 1 Z<|AL ?_;have aw:=au.AS (i:=0) Z;have h:=Cg.again h u;have s:=s.mono (Aa (Al (i:=0) Z));refine AN (_,_,_,_,_) Z ⟨aw,s,h⟩
  refine B4<|AE<|A6 ?_;have h:=Cg.out h u;refine Bi<|A8 (_,_,_) ⟨q,f,h⟩
 rintro⟨o,j,e⟩ a8 ⟨aa,af,h⟩;refine AJ 2 Z<|Ay ?_
 cases h
 refine Am Z ⟨aa.ext,_,Z,(aa.Ip hH (i:=0) Z af)⟩
end
end Go.Proofs.YtekmbcbgknmhiaaGreatDoor
end
noncomputable section
namespace Go
abbrev AjI:=List AjR
end Go
namespace Go.Proofs.YtekmbcbgknmhiaaGreatDoor
open Go Go.E Go.RowKit Go.L
set_option maxHeartbeats 1000000
set_option maxRecDepth 10000
open _root_.Go.Proofs.Tryz
def Gr(a0:Int×AjI):Option Ac3:=
 Qq4 (DZ a0.1) (fun a=>Qq4 (Ly a0.2) (fun b=>AO (Go.E.Io 1 (a.length+b.length)) (some ((a++b)))))
section
variable(w:World)(H:PH)(hH:Le H (hp w)) include hH
theorem PX{a0:Int×AjI}{c:Value}(ac:AH AjU H c (a0.2)){r:Ac3}(h:Gr a0=some r):
  Qqv 141 [.agg #[No a0.1,c]] w (fun v w'=>∃ u0,v=u0/\Ck 5 .byte H w w' u0 r):=by
 refine A1 10 [(0,.agg #[No a0.1,c])] func141 Z fun hL=>Ak<|CB (t:=49) Z Z hL fun w1 b1 aj ap _=>A7 1 Z<|Eu (.q 0 (.q 1 (.q 3 (.q 4 (.h 2 (.h 5 (.tail 6))))))) mixed Qqb (fun w2 ak=>?_);have e:=aj.call ak;refine CF Z (Ae Z Ajx Z CO.e) Z<|CF Z (Af 0 Z e Z) Z<|CF Z (Ae Z Ajx Z ZW.e) Z<|CF Z (Af 0 Z e Z) Z<|Ax h fun x4 al h=>Ct Z Z Z (fun w6 j=>BX _ _ (Ao (e.call j)) al) ?_;rintro w6 au w5 j k ⟨_,rfl,y⟩;have o:=e.call j;have f:=o.call k;have ad:=AR o k;obtain⟨ay,f,ad,p⟩:=y.take hH o k;refine Ax h fun x8 am h=>Ct Z Z Z (fun an a=>Vu _ _ (Ao (f.call a)) (ac.mono  Ah) am) ?_;rintro an aw w9 a s ⟨_,rfl,z⟩;have d:=f.call a;have aa:=AR f a;have ab:=d.call s;have ae:=AR d s;have b:=z.Dz hH d s;refine BU (fun az u=>?_);have af:=ab.call u;have g:=AR ab u;refine Az h fun ag h=>?_;have p:=p.mono (Aa (aa.trans (ae.trans g)));have b:=b.mono (Aa g)
 refine By (r:=.byte) 0 x4 x8 Z Afr af Z p b ag fun a1 a2 ax x ao ah=>A7 1 Z<|Ay ?_
 cases h
 refine Am Z ⟨x.ext,_,Z,(x.Ip hH (i:=0) Z ah)⟩
def GZ(a0:Int)(b:List AjR):Option ((Int×AjI)×(Int×Int)):=
 Qq4 (Gr (a0,b)) (fun c=>if 16384<(c.length:Int) then Qq4 (DI (14:Int) (-1:Int)) (fun a=>some ((0,[]),(a.1,a.2))) else some ((a0,b),(0,0)))
def Gs(a0:Int)(a1:List AjR)(b:(List AjO)):AjI×Int->Option ((AjI×Int) ⊕ ((Int×AjI)×(Int×Int))):=fun⟨d,a⟩=>
 if a<(b.length:Int) then AO (0<=a/\a<(b.length:Int)) (Qq4 (Fc (BW [] ((b.getD a.toNat Qq2).1,(b.getD a.toNat Qq2).2.1,(b.getD a.toNat Qq2).2.2.1,(b.getD a.toNat Qq2).2.2.2) a1)) (fun c=>AO (c.length<4611686018427387904) (AO ((M0 c).length<=9223372036854775807) (AO (Go.E.Io 72 (d.length+([(((b.getD a.toNat Qq2).1,(b.getD a.toNat Qq2).2.1,(b.getD a.toNat Qq2).2.2.1,(b.getD a.toNat Qq2).2.2.2),(Lib.compact (M0 c)))]).length)) (AO (Bw (a+1)) (some (Sum.inl ((d++[(((b.getD a.toNat Qq2).1,(b.getD a.toNat Qq2).2.1,(b.getD a.toNat Qq2).2.2.1,(b.getD a.toNat Qq2).2.2.2),(Lib.compact (M0 c)))]),(a+1))))))))) else Qq7 Sum.inr ((GZ a0) d)
def KX(a0:Int)(a1:List AjR)(a:(List AjO))(s:AjI×Int):Option ((Int×AjI)×(Int×Int)):=Go.L.run (Gs a0 a1 a) s
def Hp(a0:Int)(a1:List AjR):Option ((Int×AjI)×(Int×Int)):=
 Qq4 (Re a1) (fun a=>(KX a0 a1 a) (([]:List AjR),0))
theorem Uf{a0:Int}{a1:List AjR}{ag:Value}(a9:Wf Lt (.vec (.int .i64)) H ag a1){r:(Int×AjI)×(Int×Int)}(h:Hp a0 a1=some r):
  Qqv 84 [No a0,ag] w (fun v w'=>∃ u0,v=.tuple #[.agg #[No r.1.1,u0],.agg #[No r.2.1,No r.2.2]]/\Ck 203 AjU H w w' u0 (r.1.2)):=by
 refine A1 43 [(0,No a0),(1,ag)] func84 Z fun hL=>Ak<|AA Mx.e Z hL fun w1 b1 cn c0 _=>AA AG.e Z cn fun w2 b2 co c1 _=>Ac<|Bu 1 Z<|Aj (AT (fun _=>AfS _ _))<|AA Mx.e Z co fun w3 b3 cp c2 _=>Ag 0 Z cp Z fun w4 ba c3=>Ac<|Bt (AjI×Value×(List Value)) (fun⟨af,ah,ab⟩=>[(4,(AaD b1)),(5,(AaD b2)),(6,(AaD b3))]) (fun⟨af,ah,ab⟩ wr=>Fl w [.row ah 203 5 (af).length ab,.box b3 [No a0,ah] 49,.box b2 [No 0,No 0] 28,.box b1 [No 0,Aa4] 49] wr fun Oz=>AI AjU (gz H w wr Oz) af ab/\(GZ a0) af=some r) ?_ ?_
 ·refine Bu 1 Z<|Ax h fun b ci h=>Bk ba (Aag _ _ (Ao ba) (a9.mono  Ah) ci) ?_;rintro aw du ⟨_,rfl,bb⟩ cj ck cu;have t:=bb.Dz hH ba cj;refine Aj (Bc t)<|A7 1 Z<|A3 ?_;obtain⟨bm,bc,bn⟩:=DS AjU H 203 ck;obtain⟨av,h⟩:=Ba h;have t:=t.mono (Aa bc)
  refine B6 (AjI×Int×Value×(List Value)×Nat) (fun⟨g,a,d,e,n⟩=>[(1,ag),(4,(AaD b1)),(5,(AaD b2)),(6,(AaD b3)),(13,aw),(14,No (b.length:Int)),(15,No a)]) (fun⟨g,a,d,e,n⟩ wr=>Fl w [.row d 203 5 (g).length e,.box b3 [No a0,d] 49,.box b2 [No 0,No 0] 28,.box b1 [No 0,Aa4] 49] wr fun Oz=>AH (.pair .st (.pair (.int .i64) (.pair (.int .i64) .st))) (gz H w wr Oz) aw b/\AI AjU (gz H w wr Oz) g e/\HG (Gs a0 a1 b) n (g,a)=some r) (fun⟨g,a,d,e,n⟩=>n) (([]:List AjR),0,Aa4,[],av) Z ⟨bm,t,bn,h⟩ ?_;rintro⟨g,a,d,e,nn107⟩ cv ⟨ai,p,u,h⟩;obtain⟨av,c4,rfl,h,ax⟩:=AY h;refine AJ 1 Z<|AD<|AP h ?_ ?_<;>intro bo h
  ·refine Aw<|As<|AD<|A3<|Ak<|Az h fun ay h=>Bf p a.toNat (Gy ay) (AW ay) ?_;rintro c6 _ ⟨_,_,rfl,rfl,⟨_,_,rfl,rfl,⟨_,_,rfl,rfl,rfl⟩⟩⟩ bp;refine Aj (Cx bp (Ao ai))<|AA JP.e Z ai fun c7 bd bq ap _=>Ag 0 Z bq Z fun c8 x aq=>Ac<|Bu 1 Z<|Aj (A4 0 Z JP.e x Z)<|AaZ (k:=((b.getD a.toNat Qq2).1,(b.getD a.toNat Qq2).2.1,(b.getD a.toNat Qq2).2.2.1,(b.getD a.toNat Qq2).2.2.2)) AdL zeroValue58 a9 (hH.trans x.arg) fun c9 br=>Ax h fun aj bs h=>Bk x (OQ _ _ (Ao x) (br.mono  Ah) bs) ?_;rintro be da ⟨_,rfl,a6⟩ bt ak ae;obtain⟨cw,ak,ae,bu⟩:=a6.take hH x bt;refine A7 1 Z ?_;have y:=ak.rG H;refine Bu 1 Z<|Az h fun bv h=>Uy (i:=0) Tryz.AaB ⟨Tryz.f139,_,func139,Z,Z⟩ Z hH ak Z (bu.mono y) bv fun db bw az bf al=>Ac ?_
   refine Ko (J1 (UQ (Si (J1 (Ox Ns))))) (fun z0 z=>Le (gz H w z0 [.row be 3 1 ((M0 aj)).length bw,.box bd [.string ⟨((b.getD a.toNat Qq2).1).toArray⟩,No ((b.getD a.toNat Qq2).2.1),No ((b.getD a.toNat Qq2).2.2.1),.string ⟨((b.getD a.toNat Qq2).2.2.2).toArray⟩] 142,.row d 203 5 (g).length e,.box b3 [No a0,d] 49,.box b2 [No 0,No 0] 28,.box b1 [No 0,Aa4] 49]) (hp z)/\z.heap[bd]? = some (.cells [.string ⟨((b.getD a.toNat Qq2).1).toArray⟩,No ((b.getD a.toNat Qq2).2.1),No ((b.getD a.toNat Qq2).2.2.1),.string ⟨((b.getD a.toNat Qq2).2.2.2).toArray⟩].toArray 142 (0,0))/\z.heap[b3]? = some (.cells [No a0,d].toArray 49 (0,0))/\z.heap[b2]? = some (.cells [No 0,No 0].toArray 28 (0,0))/\z.heap[b1]? = some (.cells [No 0,Aa4].toArray 49 (0,0))) mixed Z (fun q dd a2=>?_);have j:=az.call a2;have ar:=AR az a2;have c:=j.rG H;refine Nv ⟨c.trans (Ao j),j.at (i:=1) Z,j.at (i:=3) Z,j.at (i:=4) Z,j.at (i:=5) Z⟩ fun kI125=>A9 0 q kI125 Z (fun _ _=>Ae Z Ajx Z ZW.e) Z ?_
   refine A9 1 q kI125 Z (fun _ hI=>KG Z hI.2.2.1 Z) Z<|A9 2 q kI125 Z (fun _ hI=>MR hI.2.1) Z<|A9 3 q kI125 Z (fun _ _=>Ai Z) Z<|FX 4 Z<|Az h fun bx h=>?_;have al:=al.mono (Aa ar);refine Uz (i:=0) Tryz.AaC ⟨Tryz.f140,_,func140,Z,Z⟩ Z hH j Z (al.mono c) bx ?_;intro de df cx f bg bz;have c:=c.trans (Aa bg);refine AX ⟨c.trans (Ao f),f.at (i:=1) Z,f.at (i:=3) Z,f.at (i:=4) Z,f.at (i:=5) Z⟩ fun kI128=>A9 5 q kI128 Z (fun _ _=>AT (fun _=>ZZ _ _ _ _ _ (row_one (f.at (i:=0) Z)) _)) Z<|FX 6 Z ?_;have b0:=f.Dz hH (i:=0) Z bz;have b4:=f.AS (i:=0) Z
   refine B7 [(((b.getD a.toNat Qq2).1,(b.getD a.toNat Qq2).2.1,(b.getD a.toNat Qq2).2.2.1,(b.getD a.toNat Qq2).2.2.2),(Lib.compact (M0 aj)))] (r:=AjU) (fun _=>Aga _ _ _ _ _ _) b4 (.c5 ⟨_,_,Z,⟨_,_,Z,Z,⟨_,_,Z,Z,⟨_,_,Z,Z,Z⟩⟩⟩,⟨_,Z,b0⟩⟩ .nil) ?_;intro dg dh cy s bh b5;have c:=c.trans (Aa ((Al (i:=0) Z).trans bh));refine AX ⟨c.trans (Ao s),s.at (i:=0) Z,s.at (i:=2) Z,s.at (i:=3) Z,s.at (i:=4) Z⟩ fun kI131=>FX 7 Z<|Az h fun b6 h=>?_;have u:=u.mono (Aa (ap.trans (aq.trans ae)));have y:=y.trans (Aa (bf.trans ar));refine By (r:=AjU) 1 g [(((b.getD a.toNat Qq2).1,(b.getD a.toNat Qq2).2.1,(b.getD a.toNat Qq2).2.2.1,(b.getD a.toNat Qq2).2.2.2),(Lib.compact (M0 aj)))] Z Ajv s Z ((u.mono y).mono c) b5 b6 ?_;intro cl di b7 o bi am;have c:=c.trans (Aa bi)
   refine AX ⟨c.trans (Ao o),o.at (i:=0) Z,o.at (i:=2) Z,o.at (i:=3) Z,o.at (i:=4) Z⟩ fun kI134=>A9 8 q kI134 Z (fun _ _=>Ae Z Ajx Z ZW.e) Z<|FX 9 Z<|B9 2 Z (row_one (o.at (i:=1) Z)) o Z Z fun dj b8 au=>GO<|ER<|A2<|As<|Au<|Az h fun b9 h=>Aj (A5 b9)<|Aq 1 Z<|AL ?_;have ca:=b8.AS (i:=0) Z;have h:=Cg.again h ax;have p:=p.mono (Aa (ap.trans (aq.trans ae)));have am:=am.mono (Aa (au.trans (Al (i:=0) Z)));have c:=c.trans (Aa (au.trans (Al (i:=0) Z)));refine AN (_,_,_,_,_) Z ⟨ca,((p.mono y).mono c),am,h⟩
  refine B4<|AE<|A6 ?_;have h:=Cg.out h ax;refine Bi<|A8 (_,_,_) ⟨ai,u,h⟩
 rintro⟨af,ah,ab⟩ dk ⟨an,ac,h⟩;refine AD<|Ak<|Aj (A4 1 Z Mx.e an Z)<|Ax h fun dl cb h=>Bk an (PX (a0:=(a0,af)) _ _ (Le.refl _) (an.RJ hH (i:=0) Z ac) cb) ?_;rintro cq dm ⟨_,rfl,a7⟩ cc aa bj;have a8:=(a7.Xx ZN).Dz hH an cc;refine Aj (Bc a8)<|A7 1 Z<|AP h ?_ ?_<;>intro cd h
 ·refine Ak<|Aj (AT (fun _=>X9 _))<|Ax h fun dn ce h=>AF aa (GX _ _ (Ao aa) ce) fun dp cz cf cr=>Ag 3 Z cf Z fun dq cg cs=>Ag 2 Z cg Z fun dr ao ct=>Ac<|Ay<|Ar ?_
  cases h
  refine Bv (.cell Z Ajx Z Mx.e (AK (i:=3) ao Z)) (.cell Z Aji Z AG.e (AK (i:=2) ao Z)) ⟨ao.ext,_,Z,Ck.nil⟩
 refine Aw<|As<|Ak<|Aj (A4 1 Z Mx.e aa Z)<|Aj (AT (fun _=>BM _))<|Ag 3 Z aa Z (a:=(Br Z (Br (row_one (aa.at (i:=0) Z)) K9))) fun ds ch bk=>Ag 2 Z ch Z fun dt ad bl=>Ac<|Ay ?_
 cases h
 refine Bv (.cell Z Ajx Z Mx.e (AK (i:=3) ad Z)) (.cell Z Aji Z AG.e (AK (i:=2) ad Z)) ?_;have ac:=ac.mono (Aa (bj.trans (bk.trans bl)));exact⟨ad.ext,_,Z,(ad.Ip hH (i:=0) Z ac)⟩
def J4(a0:List Pv)(b:List AjR):Option ((Int×AjI)×(Int×Int)):=
 Qq4 (Hp (a0.length:Int) b) (fun a=>some ((a.1.1,a.1.2),(a.2.1,a.2.2)))
def Df(a0:List Pv):AjI×Int->Option ((AjI×Int) ⊕ ((Int×AjI)×(Int×Int))):=fun⟨d,a⟩=>
 if a<(a0.length:Int) then AO (0<=a/\a<(a0.length:Int)) (Qq4 (EG (a0.getD a.toNat Qq2)) (fun b=>if b.1=0/\b.2=0 then Qq4 (JA (Kp a) (a0.getD a.toNat Qq2) ([]:List Ac3) d) (fun e=>AO (Bw (a+1)) (some (Sum.inl (e,(a+1))))) else Qq4 (DI b.1 a) (fun c=>Qq7 Sum.inr (some ((0,[]),(c.1,c.2)))))) else Qq7 Sum.inr ((J4 a0) d)
def KY(a0:List Pv)(s:AjI×Int):Option ((Int×AjI)×(Int×Int)):=Go.L.run (Df a0) s
def Kr(a0:List Pv):Option ((Int×AjI)×(Int×Int)):=
 if 64<(a0.length:Int) then Qq4 (DI (2:Int) (-1:Int)) (fun a=>some ((0,[]),(a.1,a.2))) else(KY a0) (([]:List AjR),0)
theorem Ug{a0:List Pv}{j:Value}(p:AH .tree H j a0){r:(Int×AjI)×(Int×Int)}(h:Kr a0=some r):
  Qqv 48 [j] w (fun v w'=>∃ u0,v=.tuple #[.agg #[No r.1.1,u0],.agg #[No r.2.1,No r.2.2]]/\AH AjU (un H (nw w w')) u0 (r.1.2)):=by
 refine A1 41 [(0,j)] func48 Z fun hL=>Ak<|AA Mx.e Z hL fun w1 x bp cg _=>AA AG.e Z bp fun w2 y ag ch _=>Ac<|AD<|Bu 1 Z<|Aj (Bc p)<|A7 1 Z<|AP h ?_ ?_<;>intro bq h
 ·refine Ak<|Aj (AT (fun _=>X9 _))<|Ax h fun x5 br h=>AF ag (GX _ _ (Ao ag) br) fun w6 c3 bs ci=>Ag 1 Z bs Z fun w7 bt cj=>Ag 0 Z bt Z fun w8 ah ck=>Ac<|Ay<|Ar ?_
  cases h
  refine Bv (.cell Z Ajx Z Mx.e (AK (i:=1) ah Z)) (.cell Z Aji Z AG.e (AK (i:=0) ah Z)) ⟨ah.ext,_,Z,(AH.nil _ _)⟩
 refine Aw<|As<|Ak<|WC Lt (List Int) ag fun c4 g bk cb=>AA Ahn.e Z bk fun c5 o bl cc _=>B9 0 Z Z bl Z Z fun c6 bm cd=>Ac<|Bt (AjI×(List Value)) (fun⟨m,vsl68⟩=>[(0,j),(2,(AaD x)),(3,(AaD y)),(4,(AaD o))]) (fun⟨m,vsl68⟩ wr=>Fl w (Ha [.box o [.map (some g)] 139,R2 Lt g m vsl68,.box y [No 0,No 0] 28,.box x [No 0,Aa4] 49] (mT cwI 3 1 m vsl68)) wr fun Oz=>(m).length=(vsl68).length/\(J4 a0) m=some r) ?_ ?_
 ·refine Bu 1 Z<|Aj (Bc p)<|A7 1 Z<|A3 ?_;obtain⟨ai,h⟩:=Ba h;refine B6 (AjI×Int×(List Value)×Nat) (fun⟨b,a,vsl97,n⟩=>[(0,j),(2,(AaD x)),(3,(AaD y)),(4,(AaD o)),(14,j),(15,No (a0.length:Int)),(16,No a)]) (fun⟨b,a,vsl97,n⟩ wr=>Fl w (Ha [.box o [.map (some g)] 139,R2 Lt g b vsl97,.box y [No 0,No 0] 28,.box x [No 0,Aa4] 49] (mT cwI 3 1 b vsl97)) wr fun Oz=>(b).length=(vsl97).length/\HG (Df a0) n (b,a)=some r) (fun⟨b,a,vsl97,n⟩=>n) (([]:List AjR),0,([]:List Value),ai) Z ⟨bm,Z,h⟩ ?_;rintro⟨b,a,vsl97,nn99⟩ cl ⟨z,ad,h⟩;obtain⟨ai,c7,rfl,h,aa⟩:=AY h;refine AJ 1 Z<|AD<|AP h ?_ ?_<;>intro ao h
  ·refine Aw<|As<|AD<|A3<|Bu 1 Z<|Az h fun ae h=>Bf p a.toNat (Gy ae) (AW ae) ?_;rintro cm _ e103t0 ap;obtain⟨_,_,rfl,rfl,⟨_,_,rfl,rfl,⟨_,_,rfl,⟨e103v2,rfl,e103h2⟩,⟨_,_,rfl,⟨e103v3,rfl,e103h3⟩,⟨e103v4,rfl,e103h4⟩⟩⟩⟩⟩:=Go.E.Rp.OJ e103t0;refine Aj (Cx ap (hH.trans z.arg))<|AA CO.e Z z fun cn aj aq bu _=>AA HK.e Z aq fun co ab ar bv _=>B9 1 Z Z ar Z Z fun cp au bw=>Ag 0 Z au Z (a:=(Br Z (Br Z (Br e103h2.one (Br e103h3.one (Br e103h4.one K9)))))) fun cq q bx=>Ac<|AD<|Ak<|Aj (A4 0 Z HK.e q Z)<|Ax h fun k av h=>AF q (Og (a0:=(a0.getD a.toNat Qq2)) _ _ (Ao q) (e103h2.mono  Ah) (e103h3.mono  Ah) (e103h4.mono  Ah) av) fun cr ce aw bz=>AA AG.e Z aw fun cs ac ax b0 _=>Ag 0 Z ax Z fun ak c b3=>Ac<|Ak<|Aj (A4 0 Z AG.e c Z) ?_
   refine Aj (AT (fun _=>BM _))<|Aj (JO J2 (Nf _ _ _ _))<|Ac<|CP h ?_ ?_<;>intro ay h
   ·refine Ak<|Aj (AT (fun _=>X9 _))<|Aj (Ae Z Aji Z CO.e)<|Aj (Af 0 Z c Z)<|Aj (Af 2 Z c Z)<|Ax h fun ct az h=>AF c (GX _ _ (Ao c) az) fun cu cf a2 b4=>Ag 6 Z a2 Z fun cv a3 b5=>Ag 5 Z a3 Z fun cw s b6=>Ac<|Ay<|Ar<|Av<|Ar<|BG ?_;have h:=Cg.out h aa;refine Av<|Bh ?_
    cases h
    refine Bv (.cell Z Ajx Z Mx.e (AK (i:=6) s Z)) (.cell Z Aji Z AG.e (AK (i:=5) s Z)) ⟨s.ext,_,Z,(AH.nil _ _)⟩
   refine Aw<|As<|Au<|Aj (A4 1 Z HK.e c Z)<|Aq 1 Z ?_;have a4:Bb w (Ha [.box aj [No a] 3,R2 Lt g b vsl97,.box ac [No k.1,No k.2] 28,.box ab [No ((a0.getD a.toNat Qq2).f.1),No ((a0.getD a.toNat Qq2).f.2.1),e103v2,e103v3,e103v4] 64,.box o [.map (some g)] 139,.box y [No 0,No 0] 28,.box x [No 0,Aa4] 49] (mT cwI 3 1 b vsl97)) ak:=c.C0 [4,3] Z;have a5:Bb w (Ha [.box o [.map (some g)] 139,.box aj [No a] 3,R2 Lt g b vsl97,.box ac [No k.1,No k.2] 28,.box ab [No ((a0.getD a.toNat Qq2).f.1),No ((a0.getD a.toNat Qq2).f.2.1),e103v2,e103v3,e103v4] 64,.box y [No 0,No 0] 28,.box x [No 0,Aa4] 49] (mT cwI 3 1 b vsl97)) ak:=a4.C0 [4] Z;refine Ax h fun bn a6 h=>?_
   refine EP (XF hH (O:=[.box ac [No k.1,No k.2] 28,.box ab [No ((a0.getD a.toNat Qq2).f.1),No ((a0.getD a.toNat Qq2).f.2.1),e103v2,e103v3,e103v4] 64,.box y [No 0,No 0] 28,.box x [No 0,Aa4] 49]) (i:=a) (l:=b) (vs:=vsl97) (a0:=(a0.getD a.toNat Qq2)) (a1:=([]:List Ac3)) a5 (e103h2.mono  Ah) (e103h3.mono  Ah) (e103h4.mono  Ah) (AH.nil _ _) ad a6) ?_;rintro _ cx ⟨rfl,a7,a8,a9,b7⟩;refine AL<|A2<|As<|Au<|Az h fun ba h=>Aj (A5 ba)<|Aq 1 Z<|AL ?_;have bb:=a9.AS (i:=1) Z;have bc:=bb.AS (i:=2) Z;have bd:=bc.AS (i:=2) Z;have h:=Cg.again h aa;refine AN (_,_,_,_) Z ⟨bd,a8,h⟩
  refine B4<|AE<|A6 ?_;have h:=Cg.out h aa;refine Bi<|A8 (_,_) ⟨z,ad,h⟩
 rintro⟨m,vsl68⟩ cy ⟨al,be,h⟩;refine Bu 1 Z<|Aj (Bc p)<|Aj (Af 0 Z al Z) ?_;obtain⟨t,b8,bf⟩:=AaY (A:=[.box o [.map (some g)] 139,R2 Lt g m vsl68,.box y [No 0,No 0] 28,.box x [No 0,Aa4] 49]) (l:=m) (vs:=vsl68) (e:=3) (r:=(.int .i64)) 1 Z Ahl hH be al Z;refine Ax h fun cz bg h=>Bk t (Uf _ _ (Ao t) bf bg) ?_;rintro _ c0 ⟨b9,rfl,af⟩ bh bi ca;have d:=af.Dz hH t bh;refine Aq 2 Z<|Ag 2 Z bi Z (a:=(Br Z (Br d.one K9))) fun c1 bj am=>Ag 1 Z bj Z fun c2 u an=>Ac<|Ay ?_
 cases h
 refine Bv (.cell Z Ajx Z Mx.e (AK (i:=2) u Z)) (.cell Z Aji Z AG.e (AK (i:=1) u Z)) ?_;have d:=d.mono (Aa (am.trans an));exact⟨u.ext,_,Z,(d.mono  EC)⟩
end
end Go.Proofs.YtekmbcbgknmhiaaGreatDoor
end
noncomputable section
namespace Go
abbrev AjT:=(List Int)×Int×Int
end Go
namespace Go
abbrev AjQ:=(List Int)×(Int×Int)
end Go
namespace Go.Proofs.YtekmbcbgknmhiaaGreatDoor
open Go Go.E Go.RowKit Go.L
set_option maxHeartbeats 1000000
set_option maxRecDepth 10000
open _root_.Go.Proofs.Tryz
def Hf(_a0:AjO×(List Int)):Option Bool:=
 some true
section
variable(w:World)(H:PH)(hH:Le H (hp w)) include hH
theorem P0{a0:AjO×(List Int)}{a:Value}(_h0_0:AH (.int .i64) H a (a0.2)){r:Bool}(h:Hf a0=some r):
  Qqv 200 [.agg #[Ab5 a0.1.1,No a0.1.2.1,No a0.1.2.2.1,Ab5 a0.1.2.2.2,a]] w (fun v w'=>v=.bool r):=by
 refine A1 3 [(0,.agg #[Ab5 a0.1.1,No a0.1.2.1,No a0.1.2.2.1,Ab5 a0.1.2.2.2,a])] func200 Z fun hL=>Ak<|CB (t:=203) Z Z hL fun d e b c _=>A7 1 Z<|AJ 1 Z<|Ay ?_
 cases h
 refine Am Z ⟨b.ext,Z⟩
end
def DM(a:List Int):Option ((List Int)):=
 AO (a.length<4611686018427387904) (AO ((M0 a).length<=9223372036854775807) (some ((Lib.compact (M0 a)))))
def DC(a0:Int×AjI)(a1:Ac3):(List Int)×Int->Option (((List Int)×Int) ⊕ ((List Int))):=fun⟨b,a⟩=>
 if a<(a0.2.length:Int) then AO (0<=a/\a<(a0.2.length:Int)) (Qq4 (Hf ((((a0.2.getD a.toNat Qq2).1).1,((a0.2.getD a.toNat Qq2).1).2.1,((a0.2.getD a.toNat Qq2).1).2.2.1,((a0.2.getD a.toNat Qq2).1).2.2.2),(a0.2.getD a.toNat Qq2).2)) (fun c=>if c then Qq4 (DT a1 (((a0.2.getD a.toNat Qq2).1).1)) (fun d=>if d then AO (Go.E.Io 8 (b.length+((a0.2.getD a.toNat Qq2).2).length)) (AO (Bw (a+1)) (some (Sum.inl ((b++(a0.2.getD a.toNat Qq2).2),(a+1))))) else AO (Bw (a+1)) (some (Sum.inl (b,(a+1))))) else AO (Bw (a+1)) (some (Sum.inl (b,(a+1)))))) else Qq7 Sum.inr (DM b)
def GQ(a0:Int×AjI)(a1:Ac3)(s:(List Int)×Int):Option ((List Int)):=Go.L.run (DC a0 a1) s
def Fe(a0:Int×AjI)(a1:Ac3):Option ((List Int)):=
 (GQ a0 a1) (([]:List Int),0)
theorem OR{x w:World}{H:PH}(hH:Le H (hp x)){O:List BS}{a0:Int×AjI}{a1:Ac3}{va0_1:Value}(hL:Bb x (Ha [] O) w)(q:AH AjU (gz H x w (Ha [] O)) va0_1 (a0.2)){r:(List Int)}(h:Fe a0 a1=some r):
  Ok prog 199 [.agg #[No a0.1,va0_1],Ab5 a1,.func (.func 200) #[] #[]] w (fun v w'=>∃ (u0:Value) (y0:List Value),v=u0/\Bb x (Ha [.row u0 3 1 (r).length y0] O) w'/\Le (fz w (Ha [] O)) (fz w' (Ha [.row u0 3 1 (r).length y0] O))/\AI (.int .i64) (gz H x w' (Ha [.row u0 3 1 (r).length y0] O)) r y0):=by
 refine Dq (n:=36) [(0,.agg #[No a0.1,va0_1]),(1,(Ab5 a1)),(2,.func (.func 200) #[] #[])] func199 Z Z Z Z ?_;have hT:=Le.refl (fz w (Ha [] O));refine Ak<|CB (t:=49) Z Z hL fun w1 b1 bl ah _=>A7 1 Z<|Bu 1 Z ?_;obtain⟨ba,ai,bm⟩:=DS (.int .i64) H 3 bl;refine Ac<|Bt ((List Int)×Value×(List Value)) (fun⟨ae,y,s⟩=>[(7,y)]) (fun⟨ae,y,s⟩ wr=>Fl x (Ha [.row y 3 1 (ae).length s,.box b1 [No a0.1,va0_1] 49] O) wr fun Oz=>AI (.int .i64) (gz H x wr Oz) ae s/\AH AjU (gz H x wr Oz) va0_1 (a0.2)/\Le (fz w (Ha [] O)) (fz wr Oz)/\DM ae=some r) ?_ ?_
 ·refine Ak<|Aj (Ae Z Ajx Z ZW.e)<|Aj (Af 1 Z ba Z) ?_;have q:=q.mono (Aa (ah.trans ai));refine Aj (Bc q)<|A7 1 Z<|A3 ?_;obtain⟨af,h⟩:=Ba h;have hT:=hT.trans (ah.trans ai);refine B6 ((List Int)×Int×Value×(List Value)×Nat) (fun⟨k,a,o,g,n⟩=>[(1,(Ab5 a1)),(2,.func (.func 200) #[] #[]),(7,o),(11,va0_1),(12,No (a0.2.length:Int)),(13,No a)]) (fun⟨k,a,o,g,n⟩ wr=>Fl x (Ha [.row o 3 1 (k).length g,.box b1 [No a0.1,va0_1] 49] O) wr fun Oz=>AH AjU (gz H x wr Oz) va0_1 (a0.2)/\AI (.int .i64) (gz H x wr Oz) k g/\Le (fz w (Ha [] O)) (fz wr Oz)/\HG (DC a0 a1) n (k,a)=some r) (fun⟨k,a,o,g,n⟩=>n) (([]:List Int),0,Aa4,[],af) Z ⟨ba,q,bm,hT,h⟩ ?_;rintro⟨k,a,o,g,nn83⟩ bp ⟨aj,b,d,hT,h⟩;obtain⟨af,bw,rfl,h,z⟩:=AY h;refine AJ 1 Z<|AD<|AP h ?_ ?_<;>intro bb h
  ·refine Aw<|As<|AD<|A3<|Ak<|Az h fun al h=>Bf b a.toNat (Gy al) (AW al) ?_;rintro bx _ ⟨_,_,rfl,⟨_,_,rfl,rfl,⟨_,_,rfl,rfl,⟨_,_,rfl,rfl,rfl⟩⟩⟩,⟨e87v4,rfl,e87h4⟩⟩ bc;refine Aj (Cx bc (Ao aj))<|AA KI.e Z aj fun bz b0 bd e _=>Ag 0 Z bd Z (a:=(Br Z (Br Z (Br Z (Br Z (Br e87h4.one K9)))))) fun b2 aa f=>Ac ?_;have c:=aa.rG H;refine Bu 1 Z<|Aj (A4 0 Z KI.e aa Z)<|Ax h fun b3 be h=>?_;have e87h4:=e87h4.mono (Aa (e.trans f));refine OK aa (P0 _ _ (Ao aa) (e87h4.mono c) be) ?_;rintro _ b4 rfl bq ab p;refine Aq 1 Z<|ED 20 h ?_ ?_<;>intro j h
   ·refine Ab j<|Aj (Ai Z)<|Ab j<|Aj (Ae Z Aju Z JP.e)<|Ab j<|Aj (Ae Z Ajd Z HJ.e)<|Ab j<|Aj (Af 0 Z ab Z)<|Ab j<|Ax h fun b5 bf h=>AF ab (LJ _ _ (Ao ab) bf) fun b6 br ak u=>Aj (AB j Z)<|Ac<|B3 h ?_ ?_<;>intro bg h
    ·refine Au<|Aq 1 Z<|Aj (Ae Z Aju Z Sn.e)<|Aj (Af 0 Z ak Z)<|Az h fun ap h=>?_;have d:=d.mono (Aa (e.trans f));have c:=c.trans (Aa (p.trans u));refine By (r:=(.int .i64)) 1 k ((a0.2.getD a.toNat Qq2).2) Z Ahy ak Z (d.mono c) (e87h4.mono c) ap fun bh bs aq ar ag ac=>Aq 1 Z<|AL<|A2<|As<|Au<|Az h fun au h=>Aj (A5 au)<|Aq 1 Z<|AL ?_;have av:=ar.AS (i:=0) Z;have h:=Cg.again h z;have b:=b.mono (Aa (e.trans f));have hT:=hT.trans (e.trans (f.trans (p.trans (u.trans (ag.trans (Al (i:=0) Z))))));have c:=c.trans (Aa (ag.trans (Al (i:=0) Z)));have ac:=ac.mono (Aa (Al (i:=0) Z));refine AN (_,_,_,_,_) Z ⟨av,(b.mono c),ac,hT,h⟩
    refine Aw<|A2<|As<|Au<|Az h fun aw h=>Aj (A5 aw)<|Aq 1 Z<|AL ?_;have ax:=ak.AS (i:=0) Z;have h:=Cg.again h z;have b:=b.mono (Aa (e.trans f));have d:=d.mono (Aa (e.trans f));have hT:=hT.trans (e.trans (f.trans (p.trans (u.trans (Al (i:=0) Z)))));have c:=c.trans (Aa (p.trans (u.trans (Al (i:=0) Z))));refine AN (_,_,_,_,_) Z ⟨ax,(b.mono c),(d.mono c),hT,h⟩
   iterate 5 refine An j ?_
   refine Aj (AM j Z)<|Ac<|Gx<|Aw<|A2<|As<|Au<|Az h fun ay h=>Aj (A5 ay)<|Aq 1 Z<|AL ?_;have az:=ab.AS (i:=0) Z;have h:=Cg.again h z;have b:=b.mono (Aa (e.trans f));have d:=d.mono (Aa (e.trans f));have hT:=hT.trans (e.trans (f.trans (p.trans (Al (i:=0) Z))));have c:=c.trans (Aa (p.trans (Al (i:=0) Z)));refine AN (_,_,_,_,_) Z ⟨az,(b.mono c),(d.mono c),hT,h⟩
  refine B4<|AE<|A6 ?_;have h:=Cg.out h z;refine Bi<|A8 (_,_,_) ⟨aj,d,b,hT,h⟩
 have hT:=hT.trans (ah.trans ai);rintro⟨ae,y,s⟩ bt ⟨bi,a2,bn,hT,h⟩;refine Bu 1 Z<|Az h fun a3 h=>Uy (i:=0) Tryz.AaB ⟨Tryz.f139,_,func139,Z,Z⟩ Z hH bi Z a2 a3 fun bu bo a4 am a5=>Ac<|Bu 1 Z<|Az h fun a6 h=>Uz (i:=0) Tryz.AaC ⟨Tryz.f140,_,func140,Z,Z⟩ Z hH a4 Z a5 a6 fun bj bv a7 a8 an ad=>A7 1 Z<|Ay ?_
 cases h
 refine Am Z ?_;have a9:=a8.AS (i:=1) Z;have hT:=hT.trans (am.trans (an.trans (Al (i:=1) Z)));have ad:=ad.mono (Aa (Al (i:=1) Z));exact⟨bj,a7,Z,a9,hT,ad⟩
def Fy(a0:Int×AjI)(a1:Ac3):Option AjQ:=
 Qq4 (Ho a1) (fun a=>if a.1=0/\a.2=0 then Qq4 (Fe (a0.1,a0.2) a1) (fun b=>some (b,(0,0))) else some ([],(a.1,a.2)))
section
variable(w:World)(H:PH)(hH:Le H (hp w)) include hH
theorem Q8{a0:Int×AjI}{a1:Ac3}{b:Value}(k:AH AjU H b (a0.2)){r:(List Int)×(Int×Int)}(h:Fy a0 a1=some r):
  Qqv 149 [.agg #[No a0.1,b],Ab5 a1] w (fun v w'=>∃ s,v=.tuple #[s,.agg #[No r.2.1,No r.2.2]]/\Ck 3 (.int .i64) H w w' s (r.1)):=by
 refine A1 17 [(0,.agg #[No a0.1,b]),(1,(Ab5 a1))] func149 Z fun hL=>Ak<|CB (t:=49) Z Z hL fun w1 b1 u ah _=>Aq 1 Z<|AA AG.e Z u fun w2 b2 j aj _=>Ac<|AD<|Bu 1 Z<|Ax h fun x y h=>AF j (KW _ _ (Ao j) y) fun w4 ao z ak=>AA AG.e Z z fun w5 b5 aa am _=>Ag 0 Z aa Z fun w6 d an=>Ac<|Ak<|Aj (A4 0 Z AG.e d Z)<|Aj (AT (fun _=>BM _))<|Aj (JO J2 (Nf _ _ _ _))<|Ac<|CP h ?_ ?_<;>intro ab h
 ·refine Eu (.q 0 (.q 1 (.tail 2))) mixed Qqb (fun w9 ac=>?_);have e:=d.call ac;refine CF Z (A4 0 Z AG.e e Z) Z<|D4 1 Z<|BU (fun ap l=>?_);have m:=e.call l;refine Ag 1 Z m Z fun aq f ad=>Ac<|Ay<|Ar ?_
  cases h
  refine Bv (.tmp Z) (.cell Z Aji Z AG.e (AK (i:=1) f Z)) ⟨f.ext,_,Z,Ck.nil⟩
 refine Aw<|As<|Ak<|Aj (A4 2 Z Mx.e d Z)<|Aq 1 Z<|Ax h fun ar o h=>EP (OR (a0:=(a0.1,a0.2)) (a1:=a1) (O:=[.box b5 [No x.1,No x.2] 28,.box b2 [No 0,No 0] 28,.box b1 [No a0.1,b] 49]) hH d (k.mono  Ah) o) ?_;rintro ae au ⟨_,y16_0,rfl,p,af,a⟩;refine Aj (AT (fun _=>BM _))<|Aq 1 Z<|Ag 2 Z p Z fun av c g=>Ac<|Ay ?_
 cases h
 refine Bv (.tmp Z) (.cell Z Aji Z AG.e (AK (i:=2) c Z)) ?_;have a:=a.mono (Aa g);exact⟨c.ext,_,Z,(c.Ip hH (i:=0) Z a)⟩
end
def DG(a0:AjO×(List Int))(a1 a2:Int):Option (Bool×Int×Int):=
 if a0.1.2.1=1 then if a1<=a0.1.2.2.1 then some (decide (a0.1.2.2.1<=a2),a1,a2) else some (false,a1,a2) else some (false,a1,a2)
theorem O3{e w:World}{H:PH}(hH:Le H (hp e)){O:List BS}{a0:AjO×(List Int)}{a1 a2:Int}{va0_4:Value}{ba1 ba2:Nat}(hL:Bb e (Ha [.box ba1 [No a1] 3,.box ba2 [No a2] 3] O) w)(k:AH (.int .i64) (gz H e w (Ha [.box ba1 [No a1] 3,.box ba2 [No a2] 3] O)) va0_4 (a0.2)){r:Bool×Int×Int}(h:DG a0 a1 a2=some r):
  Ok prog 201 [.agg #[Ab5 a0.1.1,No a0.1.2.1,No a0.1.2.2.1,Ab5 a0.1.2.2.2,va0_4],AaD ba1,AaD ba2] w (fun v w'=>v=.bool r.1/\Bb e (Ha [.box ba1 [No r.2.1] 3,.box ba2 [No r.2.2] 3] O) w'/\Le (fz w (Ha [.box ba1 [No a1] 3,.box ba2 [No a2] 3] O)) (fz w' (Ha [.box ba1 [No r.2.1] 3,.box ba2 [No r.2.2] 3] O))):=by
 refine Dq (n:=23) [(0,.agg #[Ab5 a0.1.1,No a0.1.2.1,No a0.1.2.2.1,Ab5 a0.1.2.2.2,va0_4]),(1,(AaD ba1)),(2,(AaD ba2))] func201 Z Z Z Z ?_;have hT:=Le.refl (fz w (Ha [.box ba1 [No a1] 3,.box ba2 [No a2] 3] O));refine Ak<|CB (t:=203) Z Z hL fun l m c d _=>A7 1 Z<|Ak<|Aj (Ae Z Aju Z JP.e)<|Aj (Ae Z Ajd Z CO.e)<|Aj (Af 0 Z c Z)<|Aq 2 Z<|BT 9 h ?_ ?_<;>intro a h
 ·refine Ab a<|Aj (Ae Z Aju Z JP.e)<|Ab a<|Aj (Ae Z Ajd Z CO.e)<|Ab a<|Aj (Af 0 Z c Z)<|Ab a<|Aj (Af 1 Z c Z)<|Ab a<|Aj (Ai Z)<|Aj (AB a Z)<|Aq 1 Z<|BT 16 h ?_ ?_<;>intro b h
  ·refine Ab b<|Aj (Ae Z Aju Z JP.e)<|Ab b<|Aj (Ae Z Ajd Z CO.e)<|Ab b<|Aj (Af 0 Z c Z)<|Ab b<|Aj (Af 2 Z c Z)<|Ab b<|Aj (Ai Z)<|Aj (AB b Z)<|A7 1 Z<|Ay ?_
   cases h
   refine Am Z ?_;have g:=c.AS (i:=0) Z;have hT:=hT.trans (d.trans (Al (i:=0) Z));exact⟨Z,g,hT⟩
  iterate 5 refine An b ?_
  refine Aj (AM b Z)<|A7 1 Z<|Ay ?_
  cases h
  refine Am Z ?_;have j:=c.AS (i:=0) Z;have hT:=hT.trans (d.trans (Al (i:=0) Z));exact⟨Z,j,hT⟩
 iterate 5 refine An a ?_
 refine Aj (AM a Z)<|Aq 1 Z ?_
 iterate 5 refine An Z ?_
 refine Aj (AM Z Z)<|A7 1 Z<|Ay ?_
 cases h
 refine Am Z ?_;have f:=c.AS (i:=0) Z;have hT:=hT.trans (d.trans (Al (i:=0) Z));exact⟨Z,f,hT⟩
def Dg(a:List Int)(b c:Int):Option AjT:=
 AO (a.length<4611686018427387904) (AO ((M0 a).length<=9223372036854775807) (some ((Lib.compact (M0 a)),b,c)))
def CS(a0:Int×AjI)(a1:Ac3):(List Int)×Int×Int×Int->Option (((List Int)×Int×Int×Int) ⊕ AjT):=fun⟨c,d,e,a⟩=>
 if a<(a0.2.length:Int) then AO (0<=a/\a<(a0.2.length:Int)) (Qq4 (DG ((((a0.2.getD a.toNat Qq2).1).1,((a0.2.getD a.toNat Qq2).1).2.1,((a0.2.getD a.toNat Qq2).1).2.2.1,((a0.2.getD a.toNat Qq2).1).2.2.2),(a0.2.getD a.toNat Qq2).2) d e) (fun b=>if b.1 then Qq4 (DT a1 (((a0.2.getD a.toNat Qq2).1).1)) (fun f=>if f then AO (Go.E.Io 8 (c.length+((a0.2.getD a.toNat Qq2).2).length)) (AO (Bw (a+1)) (some (Sum.inl ((c++(a0.2.getD a.toNat Qq2).2),b.2.1,b.2.2,(a+1))))) else AO (Bw (a+1)) (some (Sum.inl (c,b.2.1,b.2.2,(a+1))))) else AO (Bw (a+1)) (some (Sum.inl (c,b.2.1,b.2.2,(a+1)))))) else Qq7 Sum.inr (Dg c d e)
def Fz(a0:Int×AjI)(a1:Ac3)(s:(List Int)×Int×Int×Int):Option AjT:=Go.L.run (CS a0 a1) s
def DN(a0:Int×AjI)(a1:Ac3)(a2_c0 a2_c1:Int):Option AjT:=
 (Fz a0 a1) (([]:List Int),a2_c0,a2_c1,0)
theorem NO{s w:World}{H:PH}(hH:Le H (hp s)){O:List BS}{a0:Int×AjI}{a1:Ac3}{a2_c0 a2_c1:Int}{va0_1:Value}{ba2_c0 ba2_c1:Nat}(hL:Bb s (Ha [.box ba2_c0 [No a2_c0] 3,.box ba2_c1 [No a2_c1] 3] O) w)(aa:AH AjU (gz H s w (Ha [.box ba2_c0 [No a2_c0] 3,.box ba2_c1 [No a2_c1] 3] O)) va0_1 (a0.2)){r:(List Int)×Int×Int}(h:DN a0 a1 a2_c0 a2_c1=some r):
  Ok prog 199 [.agg #[No a0.1,va0_1],Ab5 a1,.func (.func 201) #[] #[AaD ba2_c0,AaD ba2_c1]] w (fun v w'=>∃ (u0:Value) (y0:List Value),v=u0/\Bb s (Ha [.row u0 3 1 (r.1).length y0,.box ba2_c0 [No r.2.1] 3,.box ba2_c1 [No r.2.2] 3] O) w'/\Le (fz w (Ha [.box ba2_c0 [No a2_c0] 3,.box ba2_c1 [No a2_c1] 3] O)) (fz w' (Ha [.row u0 3 1 (r.1).length y0,.box ba2_c0 [No r.2.1] 3,.box ba2_c1 [No r.2.2] 3] O))/\AI (.int .i64) (gz H s w' (Ha [.row u0 3 1 (r.1).length y0,.box ba2_c0 [No r.2.1] 3,.box ba2_c1 [No r.2.2] 3] O)) (r.1) y0):=by
 refine Dq (n:=36) [(0,.agg #[No a0.1,va0_1]),(1,(Ab5 a1)),(2,.func (.func 201) #[] #[AaD ba2_c0,AaD ba2_c1])] func199 Z Z Z Z ?_;have hT:=Le.refl (fz w (Ha [.box ba2_c0 [No a2_c0] 3,.box ba2_c1 [No a2_c1] 3] O));refine Ak<|CB (t:=49) Z Z hL fun w1 b1 b5 aq _=>A7 1 Z<|Bu 1 Z ?_;obtain⟨bt,ar,b6⟩:=DS (.int .i64) H 3 b5;refine Ac<|Bt ((List Int)×Int×Int×Value×(List Value)) (fun⟨ak,av,aw,ae,ab⟩=>[(7,ae)]) (fun⟨ak,av,aw,ae,ab⟩ wr=>Fl s (Ha [.row ae 3 1 (ak).length ab,.box b1 [No a0.1,va0_1] 49,.box ba2_c0 [No av] 3,.box ba2_c1 [No aw] 3] O) wr fun Oz=>AI (.int .i64) (gz H s wr Oz) ak ab/\AH AjU (gz H s wr Oz) va0_1 (a0.2)/\Le (fz w (Ha [.box ba2_c0 [No a2_c0] 3,.box ba2_c1 [No a2_c1] 3] O)) (fz wr Oz)/\Dg ak av aw=some r) ?_ ?_
 ·refine Ak<|Aj (Ae Z Ajx Z ZW.e)<|Aj (Af 1 Z bt Z) ?_;have aa:=aa.mono (Aa (aq.trans ar));refine Aj (Bc aa)<|A7 1 Z<|A3 ?_;obtain⟨al,h⟩:=Ba h;have hT:=hT.trans (aq.trans ar);refine B6 ((List Int)×Int×Int×Int×Value×(List Value)×Nat) (fun⟨o,y,z,a,j,d,n⟩=>[(1,(Ab5 a1)),(2,.func (.func 201) #[] #[AaD ba2_c0,AaD ba2_c1]),(7,j),(11,va0_1),(12,No (a0.2.length:Int)),(13,No a)]) (fun⟨o,y,z,a,j,d,n⟩ wr=>Fl s (Ha [.row j 3 1 (o).length d,.box b1 [No a0.1,va0_1] 49,.box ba2_c0 [No y] 3,.box ba2_c1 [No z] 3] O) wr fun Oz=>AH AjU (gz H s wr Oz) va0_1 (a0.2)/\AI (.int .i64) (gz H s wr Oz) o d/\Le (fz w (Ha [.box ba2_c0 [No a2_c0] 3,.box ba2_c1 [No a2_c1] 3] O)) (fz wr Oz)/\HG (CS a0 a1) n (o,y,z,a)=some r) (fun⟨o,y,z,a,j,d,n⟩=>n) (([]:List Int),a2_c0,a2_c1,0,Aa4,[],al) Z ⟨bt,aa,b6,hT,h⟩ ?_;rintro⟨o,y,z,a,j,d,nn92⟩ cb ⟨au,c,e,hT,h⟩
  obtain⟨al,cg,rfl,h,af⟩:=AY h;refine AJ 1 Z<|AD<|AP h ?_ ?_<;>intro bv h
  ·refine Aw<|As<|AD<|A3<|Ak<|Az h fun a8 h=>Bf c a.toNat (Gy a8) (AW a8) ?_;rintro ch _ ⟨_,_,rfl,⟨_,_,rfl,rfl,⟨_,_,rfl,rfl,⟨_,_,rfl,rfl,rfl⟩⟩⟩,⟨e96v4,rfl,e96h4⟩⟩ bw;refine Aj (Cx bw (Ao au))<|AA KI.e Z au fun ci bu bx f _=>Ag 0 Z bx Z (a:=(Br Z (Br Z (Br Z (Br Z (Br e96h4.one K9)))))) fun b7 ag g=>Ac ?_;have b:=ag.rG H;refine Bu 1 Z<|Aj (A4 0 Z KI.e ag Z) ?_;have ax:Bb s (Ha [.box ba2_c0 [No y] 3,.box ba2_c1 [No z] 3,.box bu [.string ⟨(((a0.2.getD a.toNat Qq2).1).1).toArray⟩,No (((a0.2.getD a.toNat Qq2).1).2.1),No (((a0.2.getD a.toNat Qq2).1).2.2.1),.string ⟨(((a0.2.getD a.toNat Qq2).1).2.2.2).toArray⟩,e96v4] 203,.row j 3 1 (o).length d,.box b1 [No a0.1,va0_1] 49] O) b7:=ag.C0 [4,4] Z;have u:=B2 [4,4] ag ax Z;refine Ax h fun k bd h=>?_;have e96h4:=e96h4.mono (Aa (f.trans g));have b:=b.trans (Aa u)
   refine Fk Z Z (O3 (a0:=((((a0.2.getD a.toNat Qq2).1).1,((a0.2.getD a.toNat Qq2).1).2.1,((a0.2.getD a.toNat Qq2).1).2.2.1,((a0.2.getD a.toNat Qq2).1).2.2.2),(a0.2.getD a.toNat Qq2).2)) (a1:=y) (a2:=z) (O:=(Ha [.box bu [.string ⟨(((a0.2.getD a.toNat Qq2).1).1).toArray⟩,No (((a0.2.getD a.toNat Qq2).1).2.1),No (((a0.2.getD a.toNat Qq2).1).2.2.1),.string ⟨(((a0.2.getD a.toNat Qq2).1).2.2.2).toArray⟩,e96v4] 203,.row j 3 1 (o).length d,.box b1 [No a0.1,va0_1] 49] O)) hH ax (e96h4.mono b) bd) ?_;rintro _ bz ⟨rfl,ac,q⟩;refine Aq 1 Z<|ED 20 h ?_ ?_<;>intro p h
   ·refine Ab p<|Aj (Ai Z)<|Ab p<|Aj (Ae Z Aju Z JP.e)<|Ab p<|Aj (Ae Z Ajd Z HJ.e)<|Ab p<|Aj (Af 2 Z ac Z)<|Ab p<|Ax h fun cc be h=>AF ac (LJ _ _ (Ao ac) be) fun b0 b9 ah x=>Aj (AB p Z)<|Ac<|B3 h ?_ ?_<;>intro bf h
    ·refine Au<|Aq 1 Z<|Aj (Ae Z Aju Z Sn.e)<|Aj (Af 2 Z ah Z)<|Az h fun bg h=>?_;have e:=e.mono (Aa (f.trans g));have b:=b.trans (Aa (q.trans x));refine By (r:=(.int .i64)) 3 o ((a0.2.getD a.toNat Qq2).2) Z Ahy ah Z (e.mono b) (e96h4.mono b) bg fun a9 b2 ay bh am ai=>Aq 1 Z<|AL<|A2<|As<|Au<|Az h fun bi h=>Aj (A5 bi)<|Aq 1 Z<|AL ?_;have az:=bh.AS (i:=2) Z;have a3:Bb s (Ha [.row a9 3 1 ((o++(a0.2.getD a.toNat Qq2).2)).length ay,.box b1 [No a0.1,va0_1] 49,.box ba2_c0 [No k.2.1] 3,.box ba2_c1 [No k.2.2] 3] O) b2:=az.C0 [3,3] Z;have ad:=B2 [3,3] az a3 Z;have h:=Cg.again h af;have c:=c.mono (Aa (f.trans g));have hT:=hT.trans (f.trans (g.trans (u.trans (q.trans (x.trans (am.trans ((Al (i:=2) Z).trans ad)))))));have b:=b.trans (Aa (am.trans ((Al (i:=2) Z).trans ad)))
     have ai:=ai.mono (Aa ((Al (i:=2) Z).trans ad));refine AN ((o++(a0.2.getD a.toNat Qq2).2),k.2.1,k.2.2,(a+1),a9,ay,al) Z ⟨a3,(c.mono b),ai,hT,h⟩
    refine Aw<|A2<|As<|Au<|Az h fun bj h=>Aj (A5 bj)<|Aq 1 Z<|AL ?_;have a4:=ah.AS (i:=2) Z;have a5:Bb s (Ha [.row j 3 1 (o).length d,.box b1 [No a0.1,va0_1] 49,.box ba2_c0 [No k.2.1] 3,.box ba2_c1 [No k.2.2] 3] O) b0:=a4.C0 [3,3] Z;have an:=B2 [3,3] a4 a5 Z;have h:=Cg.again h af;have c:=c.mono (Aa (f.trans g));have e:=e.mono (Aa (f.trans g));have hT:=hT.trans (f.trans (g.trans (u.trans (q.trans (x.trans ((Al (i:=2) Z).trans an))))));have b:=b.trans (Aa (q.trans (x.trans ((Al (i:=2) Z).trans an))));refine AN (o,k.2.1,k.2.2,(a+1),j,d,al) Z ⟨a5,(c.mono b),(e.mono b),hT,h⟩
   iterate 5 refine An p ?_
   refine Aj (AM p Z)<|Ac<|Gx<|Aw<|A2<|As<|Au<|Az h fun bk h=>Aj (A5 bk)<|Aq 1 Z<|AL ?_;have a6:=ac.AS (i:=2) Z;have a7:Bb s (Ha [.row j 3 1 (o).length d,.box b1 [No a0.1,va0_1] 49,.box ba2_c0 [No k.2.1] 3,.box ba2_c1 [No k.2.2] 3] O) bz:=a6.C0 [3,3] Z;have ao:=B2 [3,3] a6 a7 Z;have h:=Cg.again h af;have c:=c.mono (Aa (f.trans g));have e:=e.mono (Aa (f.trans g));have hT:=hT.trans (f.trans (g.trans (u.trans (q.trans ((Al (i:=2) Z).trans ao)))));have b:=b.trans (Aa (q.trans ((Al (i:=2) Z).trans ao)));refine AN (o,k.2.1,k.2.2,(a+1),j,d,al) Z ⟨a7,(c.mono b),(e.mono b),hT,h⟩
  refine B4<|AE<|A6 ?_;have h:=Cg.out h af;refine Bi<|A8 (_,_,_,_,_) ⟨au,e,c,hT,h⟩
 have hT:=hT.trans (aq.trans ar);rintro⟨ak,av,aw,ae,ab⟩ cd ⟨b3,bl,b8,hT,h⟩;refine Bu 1 Z<|Az h fun bm h=>Uy (i:=0) Tryz.AaB ⟨Tryz.f139,_,func139,Z,Z⟩ Z hH b3 Z bl bm fun ce ca bn ba bo=>Ac<|Bu 1 Z<|Az h fun bp h=>Uz (i:=0) Tryz.AaC ⟨Tryz.f140,_,func140,Z,Z⟩ Z hH bn Z bo bp fun b4 cf bq br bb aj=>A7 1 Z<|Ay ?_
 cases h
 refine Am Z ?_;have bs:=br.AS (i:=1) Z;have hT:=hT.trans (ba.trans (bb.trans (Al (i:=1) Z)));have aj:=aj.mono (Aa (Al (i:=1) Z));exact⟨b4,bq,Z,bs,hT,aj⟩
def Ev(a0:Int×AjI)(a1:Ac3)(a2 a3:Int):Option AjQ:=
 Qq4 (Ho a1) (fun a=>if a.1=0/\a.2=0 then(if a3<a2 then Qq4 (DI (4:Int) (-3:Int)) (fun b=>some ([],(b.1,b.2))) else Qq4 (DN (a0.1,a0.2) a1 a2 a3) (fun c=>some (c.1,(0,0)))) else some ([],(a.1,a.2)))
section
variable(w:World)(H:PH)(hH:Le H (hp w)) include hH
theorem P1{a0:Int×AjI}{a1:Ac3}{a2 a3:Int}{b:Value}(m:AH AjU H b (a0.2)){r:(List Int)×(Int×Int)}(h:Ev a0 a1 a2 a3=some r):
  Qqv 150 [.agg #[No a0.1,b],Ab5 a1,No a2,No a3] w (fun v w'=>∃ u0,v=.tuple #[u0,.agg #[No r.2.1,No r.2.2]]/\Ck 3 (.int .i64) H w w' u0 (r.1)):=by
 refine A1 26 [(0,.agg #[No a0.1,b]),(1,(Ab5 a1)),(2,No a2),(3,No a3)] func150 Z fun hL=>Ak<|CB (t:=49) Z Z hL fun w1 b1 ae au _=>Qs (t:=3) Z Z ae fun w2 b2 af aw _=>Qs (t:=3) Z Z af fun w3 b3 ag ay _=>Aq 1 Z<|AA AG.e Z ag fun w4 b4 l az _=>Ac<|AD<|Bu 1 Z<|Ax h fun j ai h=>AF l (KW _ _ (Ao l) ai) fun w6 a9 aj a4=>AA AG.e Z aj fun w7 b7 al a5 _=>Ag 0 Z al Z fun w8 a a7=>Ac<|Ak<|Aj (A4 0 Z AG.e a Z)<|Aj (AT (fun _=>BM _))<|Aj (JO J2 (Nf _ _ _ _))<|Ac<|CP h ?_ ?_<;>intro am h
 ·refine Eu (.q 0 (.q 1 (.tail 2))) mixed Qqb (fun ba o=>?_);have e:=a.call o;refine CF Z (A4 0 Z AG.e e Z) Z<|D4 1 Z<|BU (fun bb p=>?_);have s:=e.call p;refine Ag 1 Z s Z fun bc f an=>Ac<|Ay<|Ar ?_
  cases h
  refine Bv (.tmp Z) (.cell Z Aji Z AG.e (AK (i:=1) f Z)) ⟨f.ext,_,Z,Ck.nil⟩
 refine Aw<|As<|AD<|Ak<|Aj (Af 3 Z a Z)<|Aj (Af 2 Z a Z)<|A7 1 Z<|AP h ?_ ?_<;>intro u h
 ·refine Ak<|Ax h fun bd x h=>AF a (GX _ _ (Ao a) x) fun be a8 y ao=>Aq 1 Z<|Ag 1 Z y Z fun bf g ap=>Ac<|Ay<|Ar ?_
  cases h
  refine Bv (.tmp Z) (.cell Z Aji Z AG.e (AK (i:=1) g Z)) ⟨g.ext,_,Z,Ck.nil⟩
 refine Aw<|As<|Ak<|Aj (A4 4 Z Mx.e a Z)<|Aq 2 Z ?_;have z:Bb w [.box b2 [No a2] 3,.box b3 [No a3] 3,.box b7 [No j.1,No j.2] 28,.box b4 [No 0,No 0] 28,.box b1 [No a0.1,b] 49] w8:=a.C0 [2,3] Z;refine Ax h fun bg aa h=>EP (NO (a0:=(a0.1,a0.2)) (a1:=a1) (a2_c0:=a2) (a2_c1:=a3) (O:=[.box b7 [No j.1,No j.2] 28,.box b4 [No 0,No 0] 28,.box b1 [No a0.1,b] 49]) hH z (m.mono  Ah) aa) ?_;rintro aq bh ⟨_,y25_0,rfl,ab,ar,c⟩;refine Aj (AT (fun _=>BM _))<|Aq 1 Z<|Ag 4 Z ab Z fun bi d k=>Ac<|Ay ?_
 cases h
 refine Bv (.tmp Z) (.cell Z Aji Z AG.e (AK (i:=4) d Z)) ?_;have c:=c.mono (Aa k);exact⟨d.ext,_,Z,(d.Ip hH (i:=0) Z c)⟩
end
def Ew(a0:AjO×(List Int))(a1:Ac3):Option (Bool×Ac3):=
 if a0.1.2.1=2 then some (decide (a0.1.2.2.2=a1),a1) else some (false,a1)
theorem P2{e w:World}{H:PH}(hH:Le H (hp e)){O:List BS}{a0:AjO×(List Int)}{a1:Ac3}{va0_4:Value}{ba1:Nat}{va1_0:Value}(hL:Bb e (Ha [.box ba1 [va1_0] 23] O) w)(k:AH (.int .i64) (gz H e w (Ha [.box ba1 [va1_0] 23] O)) va0_4 (a0.2))(a:AH .byte (gz H e w (Ha [.box ba1 [va1_0] 23] O)) va1_0 a1){r:Bool×Ac3}(h:Ew a0 a1=some r):
  Ok prog 202 [.agg #[Ab5 a0.1.1,No a0.1.2.1,No a0.1.2.2.1,Ab5 a0.1.2.2.2,va0_4],AaD ba1] w (fun v w'=>∃ (f:Value),v=.bool r.1/\Bb e (Ha [.box ba1 [f] 23] O) w'/\Le (fz w (Ha [.box ba1 [va1_0] 23] O)) (fz w' (Ha [.box ba1 [f] 23] O))/\AH .byte (gz H e w' (Ha [.box ba1 [f] 23] O)) f (r.2)):=by
 refine Dq (n:=16) [(0,.agg #[Ab5 a0.1.1,No a0.1.2.1,No a0.1.2.2.1,Ab5 a0.1.2.2.2,va0_4]),(1,(AaD ba1))] func202 Z Z Z Z ?_;have hT:=Le.refl (fz w (Ha [.box ba1 [va1_0] 23] O));refine Ak<|CB (t:=203) Z Z hL fun l m c d _=>A7 1 Z<|Ak<|Aj (Ae Z Aju Z JP.e)<|Aj (Ae Z Ajd Z CO.e)<|Aj (Af 0 Z c Z)<|Aq 2 Z<|BT 8 h ?_ ?_<;>intro b h
 ·refine Ab b<|Aj (Ae Z Aju Z JP.e)<|Ab b<|Aj (Ae Z Ajd Z HJ.e)<|Ab b<|Aj (Af 0 Z c Z)<|Ab b<|Aj (Af 1 Z c Z)<|Ab b ?_;have a:=a.mono (Aa d);refine Aj (UL a (Ao c))<|Ab b<|Aj (Nk Z Z)<|Aj (AB b Z)<|A7 1 Z<|Ay ?_
  cases h
  refine Am Z ?_;have g:=c.AS (i:=0) Z;have hT:=hT.trans (d.trans (Al (i:=0) Z));have a:=a.mono (Aa (Al (i:=0) Z));exact⟨va1_0,Z,g,hT,a⟩
 iterate 6 refine An b ?_
 refine Aj (AM b Z)<|A7 1 Z<|Ay ?_
 cases h
 refine Am Z ?_;have j:=c.AS (i:=0) Z;have a:=a.mono (Aa (d.trans (Al (i:=0) Z)));have hT:=hT.trans (d.trans (Al (i:=0) Z));exact⟨va1_0,Z,j,hT,a⟩
def Dh(a:List Int)(b:Ac3):Option ((List Int)×Ac3):=
 AO (a.length<4611686018427387904) (AO ((M0 a).length<=9223372036854775807) (some ((Lib.compact (M0 a)),b)))
def CT(a0:Int×AjI)(a1:Ac3):(List Int)×Ac3×Int->Option (((List Int)×Ac3×Int) ⊕ ((List Int)×Ac3)):=fun⟨c,d,a⟩=>
 if a<(a0.2.length:Int) then AO (0<=a/\a<(a0.2.length:Int)) (Qq4 (Ew ((((a0.2.getD a.toNat Qq2).1).1,((a0.2.getD a.toNat Qq2).1).2.1,((a0.2.getD a.toNat Qq2).1).2.2.1,((a0.2.getD a.toNat Qq2).1).2.2.2),(a0.2.getD a.toNat Qq2).2) d) (fun b=>if b.1 then Qq4 (DT a1 (((a0.2.getD a.toNat Qq2).1).1)) (fun e=>if e then AO (Go.E.Io 8 (c.length+((a0.2.getD a.toNat Qq2).2).length)) (AO (Bw (a+1)) (some (Sum.inl ((c++(a0.2.getD a.toNat Qq2).2),b.2,(a+1))))) else AO (Bw (a+1)) (some (Sum.inl (c,b.2,(a+1))))) else AO (Bw (a+1)) (some (Sum.inl (c,b.2,(a+1)))))) else Qq7 Sum.inr (Dh c d)
def F0(a0:Int×AjI)(a1:Ac3)(s:(List Int)×Ac3×Int):Option ((List Int)×Ac3):=Go.L.run (CT a0 a1) s
def DO(a0:Int×AjI)(a1:Ac3)(a2_c0:Ac3):Option ((List Int)×Ac3):=
 (F0 a0 a1) (([]:List Int),a2_c0,0)
theorem NP{p w:World}{H:PH}(hH:Le H (hp p)){O:List BS}{a0:Int×AjI}{a1 a2_c0:Ac3}{va0_1:Value}{ba2_c0:Nat}{va2_c0_0:Value}(hL:Bb p (Ha [.box ba2_c0 [va2_c0_0] 23] O) w)(aa:AH AjU (gz H p w (Ha [.box ba2_c0 [va2_c0_0] 23] O)) va0_1 (a0.2))(ha2_c0_0:AH .byte (gz H p w (Ha [.box ba2_c0 [va2_c0_0] 23] O)) va2_c0_0 a2_c0){r:(List Int)×Ac3}(h:DO a0 a1 a2_c0=some r):
  Ok prog 199 [.agg #[No a0.1,va0_1],Ab5 a1,.func (.func 202) #[] #[AaD ba2_c0]] w (fun v w'=>∃ (u0:Value) (y0:List Value) (u1:Value),v=u0/\Bb p (Ha [.row u0 3 1 (r.1).length y0,.box ba2_c0 [u1] 23] O) w'/\Le (fz w (Ha [.box ba2_c0 [va2_c0_0] 23] O)) (fz w' (Ha [.row u0 3 1 (r.1).length y0,.box ba2_c0 [u1] 23] O))/\AI (.int .i64) (gz H p w' (Ha [.row u0 3 1 (r.1).length y0,.box ba2_c0 [u1] 23] O)) (r.1) y0/\AH .byte (gz H p w' (Ha [.row u0 3 1 (r.1).length y0,.box ba2_c0 [u1] 23] O)) u1 (r.2)):=by
 refine Dq (n:=36) [(0,.agg #[No a0.1,va0_1]),(1,(Ab5 a1)),(2,.func (.func 202) #[] #[AaD ba2_c0])] func199 Z Z Z Z ?_;have hT:=Le.refl (fz w (Ha [.box ba2_c0 [va2_c0_0] 23] O));refine Ak<|CB (t:=49) Z Z hL fun w1 b1 cd ak _=>A7 1 Z<|Bu 1 Z ?_;obtain⟨bh,al,ce⟩:=DS (.int .i64) H 3 cd;refine Ac<|Bt ((List Int)×Ac3×Value×(List Value)×Value) (fun⟨av,a4,am,ab,af⟩=>[(7,am)]) (fun⟨av,a4,am,ab,af⟩ wr=>Fl p (Ha [.row am 3 1 (av).length ab,.box b1 [No a0.1,va0_1] 49,.box ba2_c0 [af] 23] O) wr fun Oz=>AI (.int .i64) (gz H p wr Oz) av ab/\AH AjU (gz H p wr Oz) va0_1 (a0.2)/\AH .byte (gz H p wr Oz) af a4/\Le (fz w (Ha [.box ba2_c0 [va2_c0_0] 23] O)) (fz wr Oz)/\Dh av a4=some r) ?_ ?_
 ·have an:=bh.rG H;refine Ak<|Aj (Ae Z Ajx Z ZW.e)<|Aj (Af 1 Z bh Z) ?_;have aa:=aa.mono (Aa (ak.trans al));refine Aj (Bc (aa.mono an))<|A7 1 Z<|A3 ?_;obtain⟨aw,h⟩:=Ba h;have ha2_c0_0:=ha2_c0_0.mono (Aa (ak.trans al));have hT:=hT.trans (ak.trans al);refine B6 ((List Int)×Ac3×Int×Value×(List Value)×Value×Nat) (fun⟨f,ag,a,e,d,x,n⟩=>[(1,(Ab5 a1)),(2,.func (.func 202) #[] #[AaD ba2_c0]),(7,e),(11,va0_1),(12,No (a0.2.length:Int)),(13,No a)]) (fun⟨f,ag,a,e,d,x,n⟩ wr=>Fl p (Ha [.row e 3 1 (f).length d,.box b1 [No a0.1,va0_1] 49,.box ba2_c0 [x] 23] O) wr fun Oz=>AH AjU (gz H p wr Oz) va0_1 (a0.2)/\AI (.int .i64) (gz H p wr Oz) f d/\AH .byte (gz H p wr Oz) x ag/\Le (fz w (Ha [.box ba2_c0 [va2_c0_0] 23] O)) (fz wr Oz)/\HG (CT a0 a1) n (f,ag,a)=some r) (fun⟨f,ag,a,e,d,x,n⟩=>n) (([]:List Int),a2_c0,0,Aa4,[],va2_c0_0,aw) Z ⟨bh,(aa.mono an),(ce.mono an),(ha2_c0_0.mono an),hT,h⟩ ?_
  rintro⟨f,ag,a,e,d,x,nn92⟩ ci ⟨ao,q,ac,a5,hT,h⟩;obtain⟨aw,cn,rfl,h,ap⟩:=AY h;have b:=ao.rG H;refine AJ 1 Z<|AD<|AP h ?_ ?_<;>intro b5 h
  ·refine Aw<|As<|AD<|A3<|Ak<|Az h fun bi h=>Bf (q.mono b) a.toNat (Gy bi) (AW bi) ?_;rintro co _ ⟨_,_,rfl,⟨_,_,rfl,rfl,⟨_,_,rfl,rfl,⟨_,_,rfl,rfl,rfl⟩⟩⟩,⟨e97v4,rfl,e97h4⟩⟩ b6;refine Aj (Cx b6 (Ao ao))<|AA KI.e Z ao fun cp b4 b7 y _=>Ag 0 Z b7 Z (a:=(Br Z (Br Z (Br Z (Br Z (Br e97h4.one K9)))))) fun b8 aq s=>Ac<|Bu 1 Z<|Aj (A4 0 Z KI.e aq Z) ?_;have a6:Bb p (Ha [.box ba2_c0 [x] 23,.box b4 [.string ⟨(((a0.2.getD a.toNat Qq2).1).1).toArray⟩,No (((a0.2.getD a.toNat Qq2).1).2.1),No (((a0.2.getD a.toNat Qq2).1).2.2.1),.string ⟨(((a0.2.getD a.toNat Qq2).1).2.2.2).toArray⟩,e97v4] 203,.row e 3 1 (f).length d,.box b1 [No a0.1,va0_1] 49] O) b8:=aq.C0 [3] Z;have u:=B2 [3] aq a6 Z;refine Ax h fun a3 bl h=>?_;have e97h4:=e97h4.mono (Aa (y.trans (s.trans u)));have b:=b.trans (Aa (y.trans (s.trans u)))
   refine Fk Z Z (P2 (a0:=((((a0.2.getD a.toNat Qq2).1).1,((a0.2.getD a.toNat Qq2).1).2.1,((a0.2.getD a.toNat Qq2).1).2.2.1,((a0.2.getD a.toNat Qq2).1).2.2.2),(a0.2.getD a.toNat Qq2).2)) (a1:=ag) (O:=(Ha [.box b4 [.string ⟨(((a0.2.getD a.toNat Qq2).1).1).toArray⟩,No (((a0.2.getD a.toNat Qq2).1).2.1),No (((a0.2.getD a.toNat Qq2).1).2.2.1),.string ⟨(((a0.2.getD a.toNat Qq2).1).2.2.2).toArray⟩,e97v4] 203,.row e 3 1 (f).length d,.box b1 [No a0.1,va0_1] 49] O)) hH a6 e97h4 (a5.mono b) bl) ?_;rintro _ b9 ⟨o,rfl,ad,j,c⟩;refine Aq 1 Z<|ED 20 h ?_ ?_<;>intro g h
   ·refine Ab g<|Aj (Ai Z)<|Ab g<|Aj (Ae Z Aju Z JP.e)<|Ab g<|Aj (Ae Z Ajd Z HJ.e)<|Ab g<|Aj (Af 1 Z ad Z)<|Ab g<|Ax h fun cj bm h=>AF ad (LJ _ _ (Ao ad) bm) fun ca cg ar k=>Aj (AB g Z)<|Ac<|B3 h ?_ ?_<;>intro bn h
    ·refine Au<|Aq 1 Z<|Aj (Ae Z Aju Z Sn.e)<|Aj (Af 1 Z ar Z)<|Az h fun bo h=>?_;have e97h4:=e97h4.mono (Aa (j.trans k));have b:=b.trans (Aa (j.trans k));refine By (r:=(.int .i64)) 2 f ((a0.2.getD a.toNat Qq2).2) Z Ahy ar Z (ac.mono b) e97h4 bo fun bj cb a7 a8 ah bp=>Aq 1 Z<|AL<|A2<|As ?_;have z:=a8.rG H;refine Au<|Az h fun bq h=>Aj (A5 bq)<|Aq 1 Z<|AL ?_;have a9:=a8.AS (i:=1) Z;have ba:Bb p (Ha [.row bj 3 1 ((f++(a0.2.getD a.toNat Qq2).2)).length a7,.box b1 [No a0.1,va0_1] 49,.box ba2_c0 [o] 23] O) cb:=a9.C0 [2,2] Z;have ax:=B2 [2,2] a9 ba Z;have h:=Cg.again h ap;have hT:=hT.trans (y.trans (s.trans (u.trans (j.trans (k.trans (ah.trans ((Al (i:=1) Z).trans ax)))))));have c:=c.mono (Aa (k.trans ah));have b:=b.trans (Aa ah);have z:=z.trans (Aa ((Al (i:=1) Z).trans ax))
     refine AN ((f++(a0.2.getD a.toNat Qq2).2),a3.2,(a+1),bj,a7,o,aw) Z ⟨ba,((q.mono b).mono z),(bp.mono z),(c.mono z),hT,h⟩
    refine Aw<|A2<|As<|Au<|Az h fun br h=>Aj (A5 br)<|Aq 1 Z<|AL ?_;have bb:=ar.AS (i:=1) Z;have bc:Bb p (Ha [.row e 3 1 (f).length d,.box b1 [No a0.1,va0_1] 49,.box ba2_c0 [o] 23] O) ca:=bb.C0 [2,2] Z;have ai:=B2 [2,2] bb bc Z;have h:=Cg.again h ap;have hT:=hT.trans (y.trans (s.trans (u.trans (j.trans (k.trans ((Al (i:=1) Z).trans ai))))));have b:=b.trans (Aa (j.trans (k.trans ((Al (i:=1) Z).trans ai))));have c:=c.mono (Aa (k.trans ((Al (i:=1) Z).trans ai)));refine AN (f,a3.2,(a+1),e,d,o,aw) Z ⟨bc,(q.mono b),(ac.mono b),c,hT,h⟩
   iterate 5 refine An g ?_
   refine Aj (AM g Z)<|Ac<|Gx<|Aw<|A2<|As<|Au<|Az h fun bs h=>Aj (A5 bs)<|Aq 1 Z<|AL ?_;have bd:=ad.AS (i:=1) Z;have be:Bb p (Ha [.row e 3 1 (f).length d,.box b1 [No a0.1,va0_1] 49,.box ba2_c0 [o] 23] O) b9:=bd.C0 [2,2] Z;have aj:=B2 [2,2] bd be Z;have h:=Cg.again h ap;have hT:=hT.trans (y.trans (s.trans (u.trans (j.trans ((Al (i:=1) Z).trans aj)))));have b:=b.trans (Aa (j.trans ((Al (i:=1) Z).trans aj)));have c:=c.mono (Aa ((Al (i:=1) Z).trans aj));refine AN (f,a3.2,(a+1),e,d,o,aw) Z ⟨be,(q.mono b),(ac.mono b),c,hT,h⟩
  refine B4<|AE<|A6 ?_;have h:=Cg.out h ap;refine Bi<|A8 (_,_,_,_,_) ⟨ao,(ac.mono b),(q.mono b),(a5.mono b),hT,h⟩
 have hT:=hT.trans (ak.trans al);rintro⟨av,a4,am,ab,af⟩ ck ⟨bk,bt,cf,bu,hT,h⟩;have ae:=bk.rG H;refine Bu 1 Z<|Az h fun bv h=>Uy (i:=0) Tryz.AaB ⟨Tryz.f139,_,func139,Z,Z⟩ Z hH bk Z (bt.mono ae) bv fun cl ch bw ay bx=>Ac<|Bu 1 Z<|Az h fun bz h=>Uz (i:=0) Tryz.AaC ⟨Tryz.f140,_,func140,Z,Z⟩ Z hH bw Z bx bz fun cc cm b0 b2 az au=>A7 1 Z<|Ay ?_
 cases h
 refine Am Z ?_;have b3:=b2.AS (i:=1) Z;have ae:=ae.trans (Aa (ay.trans (az.trans (Al (i:=1) Z))));have hT:=hT.trans (ay.trans (az.trans (Al (i:=1) Z)));have au:=au.mono (Aa (Al (i:=1) Z));exact⟨cc,b0,af,Z,b3,hT,au,(bu.mono ae)⟩
def F1(a0:Int×AjI)(a1:Ac3)(a2:Ac3):Option AjQ:=
 Qq4 (Ho a1) (fun a=>if a.1=0/\a.2=0 then(if 4000<(a2.length:Int) then Qq4 (DI (3:Int) (-2:Int)) (fun b=>some ([],(b.1,b.2))) else Qq4 (DO (a0.1,a0.2) a1 a2) (fun c=>some (c.1,(0,0)))) else some ([],(a.1,a.2)))
section
variable(w:World)(H:PH)(hH:Le H (hp w)) include hH
theorem Q9{a0:Int×AjI}{a1 a2:Ac3}{a d:Value}(p:AH AjU H a (a0.2))(e:AH .byte H d a2){r:(List Int)×(Int×Int)}(h:F1 a0 a1 a2=some r):
  Qqv 151 [.agg #[No a0.1,a],Ab5 a1,d] w (fun v w'=>∃ u0,v=.tuple #[u0,.agg #[No r.2.1,No r.2.2]]/\Ck 3 (.int .i64) H w w' u0 (r.1)):=by
 refine A1 24 [(0,.agg #[No a0.1,a]),(1,(Ab5 a1)),(2,d)] func151 Z fun hL=>Ak<|CB (t:=49) Z Z hL fun w1 b1 ag ax _=>Qs (t:=23) Z e.one ag fun w2 b2 ah az _=>Aq 1 Z<|AA AG.e Z ah fun w3 b3 o a3 _=>Ac<|AD<|Bu 1 Z<|Ax h fun l aj h=>AF o (KW _ _ (Ao o) aj) fun w5 a9 ak a4=>AA AG.e Z ak fun w6 b6 am a5 _=>Ag 0 Z am Z fun w7 b a7=>Ac<|Ak<|Aj (A4 0 Z AG.e b Z)<|Aj (AT (fun _=>BM _))<|Aj (JO J2 (Nf _ _ _ _))<|Ac<|CP h ?_ ?_<;>intro an h
 ·refine Eu (.q 0 (.q 1 (.tail 2))) mixed Qqb (fun ba s=>?_);have g:=b.call s;refine CF Z (A4 0 Z AG.e g Z) Z<|D4 1 Z<|BU (fun bb u=>?_);have x:=g.call u;refine Ag 1 Z x Z fun bc j ap=>Ac<|Ay<|Ar ?_
  cases h
  refine Bv (.tmp Z) (.cell Z Aji Z AG.e (AK (i:=1) j Z)) ⟨j.ext,_,Z,Ck.nil⟩
 refine Aw<|As<|AD<|Ak<|Aj (Af 2 Z b Z)<|Aj (Bc e)<|A7 1 Z<|AP h ?_ ?_<;>intro y h
 ·refine Ak<|Ax h fun bd z h=>AF b (GX _ _ (Ao b) z) fun be a8 aa aq=>Aq 1 Z<|Ag 1 Z aa Z fun bf k ar=>Ac<|Ay<|Ar ?_
  cases h
  refine Bv (.tmp Z) (.cell Z Aji Z AG.e (AK (i:=1) k Z)) ⟨k.ext,_,Z,Ck.nil⟩
 refine Aw<|As<|Ak<|Aj (A4 3 Z Mx.e b Z)<|Aq 2 Z ?_;have ab:Bb w [.box b2 [d] 23,.box b6 [No l.1,No l.2] 28,.box b3 [No 0,No 0] 28,.box b1 [No a0.1,a] 49] w7:=b.C0 [2] Z;refine Ax h fun bg ac h=>EP (NP (a0:=(a0.1,a0.2)) (a1:=a1) (a2_c0:=a2) (O:=[.box b6 [No l.1,No l.2] 28,.box b3 [No 0,No 0] 28,.box b1 [No a0.1,a] 49]) hH ab (p.mono  Ah) (e.mono  Ah) ac) ?_;rintro au bh ⟨_,y24_0,av,rfl,ad,aw,c,ao⟩;refine Aj (AT (fun _=>BM _))<|Aq 1 Z<|Ag 3 Z ad Z fun bi f m=>Ac<|Ay ?_
 cases h
 refine Bv (.tmp Z) (.cell Z Aji Z AG.e (AK (i:=3) f Z)) ?_;have c:=c.mono (Aa m);exact⟨f.ext,_,Z,(f.Ip hH (i:=0) Z c)⟩
end
end Go.Proofs.YtekmbcbgknmhiaaGreatDoor
end
noncomputable section
namespace Go
abbrev AjJ:=List (Ac3×AjL)
end Go
namespace Go.Proofs.YtekmbcbgknmhiaaGreatDoor
open Go Go.E Go.RowKit Go.L
set_option maxHeartbeats 1000000
set_option maxRecDepth 10000
open _root_.Go.Proofs.Tryz
def Gt(a0:Ac3×AjL)(a1:Ac3):Option Int:=
 Qq4 (strings_Compare a0.1 a1) (fun a=>some a)
theorem Mq{b w:World}{H:PH}(hH:Le H (hp b)){O:List BS}{a0:Ac3×AjL}{a1:Ac3}{va0_1:Value}(hL:Bb b (Ha [] O) w)(j:AH AjW (gz H b w (Ha [] O)) va0_1 (a0.2)){r:Int}(h:Gt a0 a1=some r):
  Ok prog 252 [.agg #[Ab5 a0.1,va0_1],Ab5 a1] w (fun v w'=>v=No r/\Bb b (Ha [] O) w'/\Le (fz w (Ha [] O)) (fz w' (Ha [] O))):=by
 refine Dq (n:=9) [(0,.agg #[Ab5 a0.1,va0_1]),(1,(Ab5 a1))] func252 Z Z Z Z ?_;have hT:=Le.refl (fz w (Ha [] O));refine Ak<|CB (t:=192) Z Z hL fun l m a c _=>A7 1 Z<|Ak<|Aj (Ae Z Ajz Z HJ.e)<|Aj (Af 0 Z a Z)<|Aq 1 Z<|Ax h fun o e h=>AF a (Li _ _ (Ao a) e) fun p k f d=>A7 1 Z<|Ay ?_
 cases h
 refine Am Z ?_;have g:=f.AS (i:=0) Z;have hT:=hT.trans (c.trans (d.trans (Al (i:=0) Z)));exact⟨Z,g,hT⟩
def Bx(a0:List (Ac3×AjL))(a1:Ac3)(a:Int):Option (Int×Bool):=
 if a<(a0.length:Int) then AO (0<=a/\a<(a0.length:Int)) (Qq4 (Gt ((a0.getD a.toNat Qq2).1,(a0.getD a.toNat Qq2).2) a1) (fun b=>some (a,decide (b=0)))) else some (a,false)
def Bs(a0:List (Ac3×AjL))(a1:Ac3):Int×Int->Option ((Int×Int) ⊕ (Int×Bool)):=fun⟨b,a⟩=>
 if b<a then AO (Bw (b+a)) (AO (0<=(IntKind.i64.wrap ((IntKind.u64.wrap (b+a)) / 2))/\(IntKind.i64.wrap ((IntKind.u64.wrap (b+a)) / 2))<(a0.length:Int)) (Qq4 (Gt ((a0.getD ((IntKind.i64.wrap ((IntKind.u64.wrap (b+a)) / 2)).toNat) Qq2).1,(a0.getD ((IntKind.i64.wrap ((IntKind.u64.wrap (b+a)) / 2)).toNat) Qq2).2) a1) (fun c=>if c<0 then AO (Bw ((IntKind.i64.wrap ((IntKind.u64.wrap (b+a)) / 2))+1)) (some (Sum.inl (((IntKind.i64.wrap ((IntKind.u64.wrap (b+a)) / 2))+1),a))) else some (Sum.inl (b,(IntKind.i64.wrap ((IntKind.u64.wrap (b+a)) / 2))))))) else Qq7 Sum.inr ((Bx a0 a1) b)
def BC(a0:List (Ac3×AjL))(a1:Ac3)(s:Int×Int):Option (Int×Bool):=Go.L.run (Bs a0 a1) s
def Bm(a0:List (Ac3×AjL))(a1:Ac3):Option (Int×Bool):=
 (BC a0 a1) (0,(a0.length:Int))
theorem G1{i w:World}{H:PH}(hH:Le H (hp i)){O:List BS}{a0:List (Ac3×AjL)}{a1:Ac3}{va0:Value}(hL:Bb i (Ha [] O) w)(x:AH (.pair .st (.vec AjW)) (gz H i w (Ha [] O)) va0 a0){r:Int×Bool}(h:Bm a0 a1=some r):
  Ok prog 251 [va0,Ab5 a1,.func (.func 252) #[] #[]] w (fun v w'=>v=.tuple #[No r.1,.bool r.2]/\Bb i (Ha [] O) w'/\Le (fz w (Ha [] O)) (fz w' (Ha [] O))):=by
 refine Dq (n:=49) [(0,va0),(1,(Ab5 a1)),(2,.func (.func 252) #[] #[])] func251 Z Z Z Z ?_;have hT:=Le.refl (fz w (Ha [] O));refine AJ 2 Z<|Bu 1 Z<|Aj (Bc x)<|A7 1 Z<|AJ 3 Z<|Bt Int (fun f=>[(0,va0),(1,(Ab5 a1)),(2,.func (.func 252) #[] #[]),(8,No (a0.length:Int)),(9,No f)]) (fun f wr=>Fl i (Ha [] O) wr fun Oz=>AH (.pair .st (.vec AjW)) (gz H i wr Oz) va0 a0/\Le (fz w (Ha [] O)) (fz wr Oz)/\(Bx a0 a1) f=some r) ?_ ?_
 ·refine A3 ?_;obtain⟨o,h⟩:=Ba h;refine B6 (Int×Int×Nat) (fun⟨b,a,n⟩=>[(0,va0),(1,(Ab5 a1)),(2,.func (.func 252) #[] #[]),(8,No (a0.length:Int)),(9,No b),(10,No a)]) (fun⟨b,a,n⟩ wr=>Fl i (Ha [] O) wr fun Oz=>AH (.pair .st (.vec AjW)) (gz H i wr Oz) va0 a0/\Le (fz w (Ha [] O)) (fz wr Oz)/\HG (Bs a0 a1) n (b,a)=some r) (fun⟨b,a,n⟩=>n) (0,(a0.length:Int),o) Z ⟨hL,x,hT,h⟩ ?_;rintro⟨b,a,nn48⟩ ah ⟨j,d,hT,h⟩;obtain⟨o,aj,rfl,h,k⟩:=AY h;refine AD<|AJ 3 Z<|AP h ?_ ?_<;>intro y h
  ·refine Aw<|As<|A3<|Bu 2 Z<|Az h fun z h=>Aj (A5 z)<|Aj (Ld Z)<|Aj (UK (c:=1) (m:=2) Z Z Qqc)<|Aj (Ld Z)<|A7 1 Z<|Bu 3 Z<|Az h fun p h=>Bf d ((IntKind.i64.wrap ((IntKind.u64.wrap (b+a)) / 2)).toNat) (Gy p) (AW p) ?_;rintro ak _ ⟨_,_,rfl,rfl,⟨e53v1,rfl,e53h1⟩⟩ aa;refine Aj (Cx aa (Ao j))<|Aq 1 Z<|Ax h fun al ab h=>Fk Z Z (Mq (a0:=((a0.getD ((IntKind.i64.wrap ((IntKind.u64.wrap (b+a)) / 2)).toNat) Qq2).1,(a0.getD ((IntKind.i64.wrap ((IntKind.u64.wrap (b+a)) / 2)).toNat) Qq2).2)) (a1:=a1) (O:=(Ha [] O)) hH j e53h1 ab) ?_;rintro _ am ⟨rfl,q,g⟩;refine A7 1 Z<|AP h ?_ ?_<;>intro ac h
   ·refine Au<|Aq 1 Z<|Az h fun ad h=>Aj (A5 ad)<|Aq 1 Z<|AL<|A2 ?_;have h:=Cg.again h k;have d:=d.mono (Aa g);have hT:=hT.trans g;refine AN (_,_,_) Z ⟨q,d,hT,h⟩
   refine Au<|Aq 2 Z<|AL<|A2 ?_;have h:=Cg.again h k;have d:=d.mono (Aa g);have hT:=hT.trans g;refine AN (_,_,_) Z ⟨q,d,hT,h⟩
  refine B4<|AE<|A6 ?_;have h:=Cg.out h k;refine Bi<|A8 _ ⟨j,d,hT,h⟩
 rintro f ai ⟨l,s,hT,h⟩;refine Bu 5 Z<|BT 39 h ?_ ?_<;>intro e h
 ·refine Ab e<|Aj (Ai Z)<|Ab e<|Aj (Ai Z)<|Ab e<|Aj (Ai Z)<|Ab e<|Az h fun t h=>Bf s f.toNat (Gy t) (AW t) ?_;rintro an _ ⟨_,_,rfl,rfl,⟨e65v1,rfl,e65h1⟩⟩ ae;refine Ab e<|Aj (Cx ae (Ao l))<|Ab e<|Aj (Ai Z)<|Ab e<|Ax h fun ao af h=>Fk Z Z (Mq (a0:=((a0.getD f.toNat Qq2).1,(a0.getD f.toNat Qq2).2)) (a1:=a1) (O:=(Ha [] O)) hH l e65h1 af) ?_;rintro _ ap ⟨rfl,ag,u⟩;refine Ab e<|Aj (Ai Z)<|Aj (AB e Z)<|A7 2 Z<|Ay ?_
  cases h
  refine Am Z ?_;have hT:=hT.trans u;exact⟨Z,ag,hT⟩
 iterate 8 refine An e ?_
 refine Aj (AM e Z)<|A7 2 Z<|Ay ?_
 cases h
 refine Am Z ⟨Z,l,hT⟩
def DD(a0:Int×AjJ)(a1:Ac3):Option (AjL):=
 Qq4 (Bm a0.2 a1) (fun a=>if !a.2 then some ([]) else AO (0<=a.1/\a.1<(a0.2.length:Int)) (some ((a0.2.getD a.1.toNat Qq2).2)))
section
variable(w:World)(H:PH)(hH:Le H (hp w)) include hH
theorem Hg{a0:Int×AjJ}{a1:Ac3}{a:Value}(c:AH (.pair .st (.vec AjW)) H a (a0.2)){r:AjL}(h:DD a0 a1=some r):
  Qqv 194 [.agg #[No a0.1,a],Ab5 a1] w (fun v w'=>∃ f,v=f/\AH AjW (un H (nw w w')) f r):=by
 refine A1 22 [(0,.agg #[No a0.1,a]),(1,(Ab5 a1))] func194 Z fun hL=>Ak<|CB (t:=46) Z Z hL fun q l d m _=>A7 1 Z<|Ak<|Aj (Ae Z Aj3 Z ZV.e)<|Aj (Af 0 Z d Z)<|Aq 1 Z<|Ax h fun o g h=>EP (G1 (a0:=a0.2) (a1:=a1) (O:=[.box l [No a0.1,a] 46]) hH d (c.mono  Ah) g) ?_;rintro _ s ⟨rfl,b,p⟩;refine A7 5 Z<|AD<|AJ 2 Z<|B3 h ?_ ?_<;>intro i h
 ·refine AJ 1 Z<|Ay<|Ar ?_
  cases h
  refine Am Z ⟨b.ext,_,Z,(AH.nil _ _)⟩
 refine Aw<|As<|Ak<|Aj (Ae Z Aj3 Z ZV.e)<|Aj (Af 0 Z b Z)<|Aq 1 Z<|Az h fun e h=>Bf c o.1.toNat (Gy e) (AW e) ?_;rintro u _ ⟨_,_,rfl,rfl,⟨e7v1,rfl,e7h1⟩⟩ j;refine Aj (Ae Z Ajz Z AdE.e) ?_;have k:=j.add 1;refine Aj (Bl k (hH.trans b.arg))<|A7 1 Z<|Ay ?_
 cases h
 refine Am Z ⟨b.ext,_,Z,(e7h1.mono (Mu hH))⟩
def Ks(a0:Ac3):Option (Ac3×Int):=
 AO (0<=(0:Int)/\(0:Int)<(a0.length:Int)) (if(48<=((a0.getD ((0:Int).toNat) Qq2).toNat:Int))/\(((a0.getD ((0:Int).toNat) Qq2).toNat:Int)<=57) then AO ((a0.getD ((0:Int).toNat) Qq2).toNat<128) (some ([a0.getD ((0:Int).toNat) Qq2],1)) else if 97<=((a0.getD ((0:Int).toNat) Qq2).toNat:Int) then if((a0.getD ((0:Int).toNat) Qq2).toNat:Int)<=122 then AO ((a0.getD ((0:Int).toNat) Qq2).toNat<128) (some ([a0.getD ((0:Int).toNat) Qq2],1)) else(if(65<=((a0.getD ((0:Int).toNat) Qq2).toNat:Int))/\(((a0.getD ((0:Int).toNat) Qq2).toNat:Int)<=90) then AO (((a0.getD ((0:Int).toNat) Qq2 - (65:UInt8))+(97:UInt8)).toNat<128) (some ([((a0.getD ((0:Int).toNat) Qq2 - (65:UInt8))+(97:UInt8))],1)) else(if((a0.getD ((0:Int).toNat) Qq2).toNat:Int)<128 then some (([]:Ac3),1) else Qq4 (AbW a0) (fun a=>if(a.1=65533)/\(a.2=1) then some (([]:Ac3),1) else AO (0<=a.2/\a.2<=(a0.length:Int)) (some ((a0.take a.2.toNat),a.2))))) else if(65<=((a0.getD ((0:Int).toNat) Qq2).toNat:Int))/\(((a0.getD ((0:Int).toNat) Qq2).toNat:Int)<=90) then AO (((a0.getD ((0:Int).toNat) Qq2 - (65:UInt8))+(97:UInt8)).toNat<128) (some ([((a0.getD ((0:Int).toNat) Qq2 - (65:UInt8))+(97:UInt8))],1)) else(if((a0.getD ((0:Int).toNat) Qq2).toNat:Int)<128 then some (([]:Ac3),1) else Qq4 (AbW a0) (fun b=>if(b.1=65533)/\(b.2=1) then some (([]:Ac3),1) else AO (0<=b.2/\b.2<=(a0.length:Int)) (some ((a0.take b.2.toNat),b.2)))))
theorem Uh(hU:Gj H){a0:Ac3}{e:Value}(c:AH .byte H e a0){r:Ac3×Int}(h:Ks a0=some r):
  Qqv 181 [e] w (fun v w'=>v=.tuple #[Ab5 r.1,No r.2]):=by
 refine A1 57 [(0,e)] func181 Z fun hL=>AJ 2 Z<|AD<|Bu 1 Z<|Az h fun i h=>Bf c ((0:Int).toNat) (Gy i) (AW i) ?_;rintro p1 _ rfl ac;refine Aj (Bl ac (hH.trans hL.arg))<|A7 1 Z<|A3<|Bu 3 Z<|OD 2 2 Z Z Z Z Z Z<|Aq 1 Z<|BT 17 h ?_ ?_<;>intro a h
 ·iterate 3 refine An a ?_
  iterate 2 refine Jj ?_
  refine An a<|Aj (AB a Z)<|A7 1 Z<|EO<|Bu 1 Z<|Az h fun ad h=>Aj (AaQ ad)<|A7 2 Z<|Ay<|Av<|Ar ?_
  cases h
  refine Am Z ⟨hL.ext,Z⟩
 refine Ab a<|Aj (Ai Z)<|Ab a<|Aj (Ai Z)<|Ab a<|Aj (Ai Z)<|BT 20 h ?_ ?_<;>intro d h
 ·refine Ab d<|Aj (Ai Z)<|Ab d<|Aj (Ai Z)<|Ab a<|Aj (AB d Z)<|Aj (AM a Z)<|A7 1 Z<|AP h ?_ ?_<;>intro ae h
  ·refine Bu 1 Z<|Az h fun j h=>Aj (AaQ j)<|A7 2 Z<|Ay<|Av<|Ar ?_
   cases h
   refine Am Z ⟨hL.ext,Z⟩
  refine Bu 3 Z<|OD 2 2 Z Z Z Z Z Z<|A7 1 Z<|AP h ?_ ?_<;>intro k h
  ·refine Bu 1 Z<|Aj (AaN 65 Z Z Z)<|Aj (AaN 97 Z Z Z)<|Az h fun l h=>Aj (AaQ l)<|A7 2 Z<|Ay<|Av<|Ar ?_
   cases h
   refine Am Z ⟨hL.ext,Z⟩
  refine AJ 3 Z<|AP h ?_ ?_<;>intro m h
  ·refine AJ 2 Z<|Ay<|Av<|Ar ?_
   cases h
   refine Am Z ⟨hL.ext,Z⟩
  refine Aw<|A2<|As<|Bu 1 Z<|Ax h fun aj o h=>AF hL (Aho _ _ (Ao hL) (hU.mono  Ah) (c.mono  Ah) o) fun ak ah f af=>A7 5 Z<|AD<|Bu 3 Z<|OD 2 2 Z Z Z Z Z Z<|Ac<|AP h ?_ ?_<;>intro p h
  ·refine AJ 2 Z<|Ay<|Ar ?_
   cases h
   refine Am Z ⟨f.ext,Z⟩
  refine Aw<|As<|Bu 2 Z<|Az h fun q h=>UP c q fun al s=>Aj (UL s (hH.trans f.arg))<|A7 3 Z<|Ay ?_
  cases h
  refine Am Z ⟨f.ext,Z⟩
 iterate 2 refine An d ?_
 refine Ab a<|Aj (AM d Z)<|Aj (AM a Z)<|A7 1 Z<|Gx<|Bu 3 Z<|OD 2 2 Z Z Z Z Z Z<|A7 1 Z<|AP h ?_ ?_<;>intro t h
 ·refine Bu 1 Z<|Aj (AaN 65 Z Z Z)<|Aj (AaN 97 Z Z Z)<|Az h fun u h=>Aj (AaQ u)<|A7 2 Z<|Ay<|Av<|Ar ?_
  cases h
  refine Am Z ⟨hL.ext,Z⟩
 refine AJ 3 Z<|AP h ?_ ?_<;>intro x h
 ·refine AJ 2 Z<|Ay<|Av<|Ar ?_
  cases h
  refine Am Z ⟨hL.ext,Z⟩
 refine Aw<|A2<|As<|Bu 1 Z<|Ax h fun am y h=>AF hL (Aho _ _ (Ao hL) (hU.mono  Ah) (c.mono  Ah) y) fun an ai g ag=>A7 5 Z<|AD<|Bu 3 Z<|OD 2 2 Z Z Z Z Z Z<|Ac<|AP h ?_ ?_<;>intro z h
 ·refine AJ 2 Z<|Ay<|Ar ?_
  cases h
  refine Am Z ⟨g.ext,Z⟩
 refine Aw<|As<|Bu 2 Z<|Az h fun aa h=>UP c aa fun ao ab=>Aj (UL ab (hH.trans g.arg))<|A7 3 Z<|Ay ?_
 cases h
 refine Am Z ⟨g.ext,Z⟩
end
end Go.Proofs.YtekmbcbgknmhiaaGreatDoor
end
