/- Texts of a claim, merged. -/
import Derived.Test.YtekmbcbgknmhiaaGreatDoorLn2
import Derived.KernelRfl
import Derived.Shelf.Sort.Plain
import Derived.Shelf.Slices.In.SortNone
import Derived.Shelf.Slices.CompactI
import Derived.Shelf.Slices.CompactS
import Derived.Shelf.SlSortCmp.NoneTotal
import Derived.Maps.RangeRun
open _root_.Go.Proofs.Tryz renaming underlying5→AcY,underlying9→AcZ,underlying22→Adb,underlying23→Af7,underlying58→AhD,underlying109→Aj5,underlying203→AjD,underlying47→AjE,underlying49→AjF,underlying192→AjI,underlying46→AjK,underlying142→Ajw,underlying28→Ajx,underlying64→Ajy
open Option renaming bind->Qq4,bind_some->Qq5,map->Qq7
open List renaming getD_eq_getElem?_getD->Qzq,getElem?_eq_getElem->Qzw,replicate->Qzz,length_map->Qzk,length_cons->Qzj,length_append->Qzu,range->Qzv,mem_singleton->Qzf,getElem?_eq_some_iff->QzD,eq_nil_of_length_eq_zero->Qz9,mem_cons->Qzy,mem_append->QzQ,map_cons->Qzd,pairwise_cons->Qz0,flatMap_cons->Qz6,getElem?_eq_none->Qxe,mem_range->Qz7,length_singleton->QxC,map_append->Qxf,mergeSort_perm->Qkz,ext_getElem?->Qkd,pairwise_singleton->QkA,getElem?_take->Qk0,pairwise_mergeSort->Qk4
open Int renaming toNat_natCast->Qq8,lt_trichotomy->Qke
open Prod renaming fst->Qq6
open Nat renaming le_refl->Qzx,blt->Qq9,zero_add->Qzc,le_trans->Qz2,mul_one->Qz4,mul_le_mul_right->Qka
open HAppend renaming hAppend->Qza
open UInt8 renaming lt_iff_toNat_lt->QxQ
open Bool renaming not_eq_true'->QkX
open Array renaming getElem?_append_left->Qk9
set_option linter.unusedVariables false
set_option linter.unusedSimpArgs false
set_option linter.unusedSectionVars false
noncomputable section
namespace Go.Proofs.YtekmbcbgknmhiaaGreatDoor
open Go Go.E Go.RowKit Go.L
set_option maxHeartbeats 1000000
set_option maxRecDepth 10000
open _root_.Go.Proofs.Tryz
def Co(b:List AaV)(a:Int):Option (((List AaV)×Int) ⊕ ((List AaV))):=
 AN (0<=a/\a<=(b.length:Int)) (AN (0<=a/\a<=((b.take a.toNat++Qzz (b.length - a.toNat) ([]:AaV)).length:Int)) (Qq7 Sum.inr (some (((b.take a.toNat++Qzz (b.length - a.toNat) ([]:AaV)).take a.toNat)))))
def BE(b:Int):(List AaV)×Int×Int->Option (((List AaV)×Int×Int) ⊕ (((List AaV)×Int) ⊕ ((List AaV)))):=fun⟨c,d,a⟩=>
 if a<((c.drop b.toNat).length:Int) then AN (0<=a/\a<((c.drop b.toNat).length:Int)) (AN (Bz (a - 1)) (AN (0<=(a - 1)/\(a - 1)<((c.drop b.toNat).length:Int)) (Qq4 (Gr ((c.drop b.toNat).getD a.toNat Qq2) ((c.drop b.toNat).getD ((a - 1).toNat) Qq2)) (fun e=>if !e then AN (0<=a/\a<((c.drop b.toNat).length:Int)) (AN (0<=d/\d<(c.length:Int)) (AN (Bz (d+1)) (AN (Bz (a+1)) (some (Sum.inl ((c.set d.toNat ((c.drop b.toNat).getD a.toNat Qq2)),(d+1),(a+1))))))) else AN (Bz (a+1)) (some (Sum.inl (c,d,(a+1)))))))) else Qq7 Sum.inr (Co c d)
def Cp(a:Int)(s:(List AaV)×Int×Int):Option (((List AaV)×Int) ⊕ ((List AaV))):=Go.L.run (BE a) s
def Cq(b:List AaV)(a:Int):Option (((List AaV)×Int) ⊕ ((List AaV))):=
 AN (Bz (a+1)) (some (Sum.inl (b,(a+1))))
def Cr(a:List AaV):Option ((List AaV)):=
 some a
def Bp:(List AaV)×Int->Option (((List AaV)×Int) ⊕ ((List AaV))):=fun⟨b,a⟩=>
 if a<(b.length:Int) then AN (0<=a/\a<(b.length:Int)) (AN (Bz (a - 1)) (AN (0<=(a - 1)/\(a - 1)<(b.length:Int)) (Qq4 (Gr (b.getD a.toNat Qq2) (b.getD ((a - 1).toNat) Qq2)) (fun c=>if c then AN (0<=a/\a<=(b.length:Int)) ((Cp a) (b,a,1)) else(Cq b) a)))) else Qq7 Sum.inr (Cr b)
def EH(s:(List AaV)×Int):Option ((List AaV)):=Go.L.run Bp s
def Ca(a0:List AaV):Option ((List AaV)):=
 if(a0.length:Int)<2 then some a0 else EH (a0,1)
theorem KO{w0 w:World}{H:PH}(hH:Le H (hp w0)){O:List BS}{a0:List AaV}{va0:Value}{xsa0:List Value}(hL:Bb w0 (Ha [.row va0 9 1 (a0).length xsa0] O) w)(ba:AH .st (gz H w0 w (Ha [.row va0 9 1 (a0).length xsa0] O)) a0 xsa0){r:(List AaV)}(h:Ca a0=some r):
  Ok prog 311 [va0,.func (.func 312) #[] #[]] w (fun v w'=>∃ (u0:Value) (y0:List Value),v=u0/\Bb w0 (Ha [.row u0 9 1 (r).length y0] O) w'/\Le (fz w (Ha [.row va0 9 1 (a0).length xsa0] O)) (fz w' (Ha [.row u0 9 1 (r).length y0] O))/\AH .st (gz H w0 w' (Ha [.row u0 9 1 (r).length y0] O)) r y0):=by
 refine Ds (n:=66) [(0,va0),(1,.func (.func 312) #[] #[])] func311 Z Z Z Z ?_;have hT:=Le.refl (fz w (Ha [.row va0 9 1 (a0).length xsa0] O));refine AI 1 Z<|AB<|Bx 1 Z<|Ai (Qw 0 Z hL Z)<|A8 1 Z<|AQ h ?_ ?_<;>intro cg h
 ·refine AI 2 Z<|Ay<|Aq ?_
  cases h
  refine Al Z ⟨va0,xsa0,Z,hL,hT,ba⟩
 refine Ax<|As<|B2 ((List AaV)×Value×(List Value)) (fun⟨am,ab,s⟩=>[(0,ab)]) (fun⟨am,ab,s⟩ wr=>FX w0 (Ha [.row ab 9 1 (am).length s] O) wr fun Oz=>AH .st (gz H w0 wr Oz) am s/\Le (fz w (Ha [.row va0 9 1 (a0).length xsa0] O)) (fz wr Oz)/\Cr am=some r) ?_ ?_
 ·refine AI 1 Z<|A4 ?_;obtain⟨av,h⟩:=Ba h;refine B7 ((List AaV)×Int×Value×(List Value)×Nat) (fun⟨k,c,f,g,n⟩=>[(0,f),(1,.func (.func 312) #[] #[]),(5,No c)]) (fun⟨k,c,f,g,n⟩ wr=>FX w0 (Ha [.row f 9 1 (k).length g] O) wr fun Oz=>AH .st (gz H w0 wr Oz) k g/\Le (fz w (Ha [.row va0 9 1 (a0).length xsa0] O)) (fz wr Oz)/\Ia Bp n (k,c)=some r) (fun⟨k,c,f,g,n⟩=>n) (a0,1,va0,xsa0,av) Z ⟨hL,ba,hT,h⟩ ?_;rintro⟨k,c,f,g,nn270⟩ ch ⟨ag,a,hT,h⟩;obtain⟨av,aw,rfl,h,ao⟩:=AZ h;refine AB<|Bx 2 Z<|Ai (Qw 0 Z ag Z)<|A8 1 Z<|AQ h ?_ ?_<;>intro bh h
  ·refine Ax<|As<|B2 Int (fun t=>[(0,f),(1,.func (.func 312) #[] #[]),(5,No t)]) (fun t wr=>FX w0 (Ha [.row f 9 1 (k).length g] O) wr fun Oz=>AH .st (gz H w0 wr Oz) k g/\Le (fz w (Ha [.row va0 9 1 (a0).length xsa0] O)) (fz wr Oz)/\(Cq k) t=some aw) ?_ ?_
   ·refine A4<|Ex (Qqz 0 10 (.tail 10)) mixed Qqb (fun cp ax=>?_);have ah:=ag.call ax;have ac:=AR ag ax;refine D4 3 Z<|A2 h fun ay h=>?_;have a:=a.mono (Aa ac);refine HZ Z Z Z Adb (ah.RU hH (i:=0) Z a) c.toNat (GX ay) (AX ay) Z ?_;rintro cq _ rfl bi;refine CB Z (Bl bi (Le.refl _)) Z<|D4 2 Z<|A2 h fun bj h=>CB Z (A7 bj) Z<|A2 h fun az h=>HZ Z Z Z Adb (ah.RU hH (i:=0) Z a) ((c - 1).toNat) (GX az) (AX az) Z ?_;rintro cr _ rfl bk;refine CB Z (Bl bk (Le.refl _)) Z<|BT (fun cs a1=>?_);have a2:=ah.call a1;have u:=AR ah a1;refine Aw h fun ct bl h=>OT a2 (Nz _ _ (An a2) bl) ?_;rintro _ cu rfl ci ap x;refine Ad<|B8 h ?_ ?_<;>intro bm h
    ·refine Bx 2 Z<|A2 h fun bn h=>AdO 0 Z Adb ap Z bn fun ce ai=>A8 1 Z<|B2 ((List AaV)×Int×(List Value)) (fun⟨y,p,ad⟩=>[(0,f),(5,No p)]) (fun⟨y,p,ad⟩ wr=>FX w0 (Ha [.row f 9 1 (y).length ad] O) wr fun Oz=>AH .st (gz H w0 wr Oz) y ad/\Le (fz w (Ha [.row va0 9 1 (a0).length xsa0] O)) (fz wr Oz)/\Co y p=some aw) ?_ ?_
     ·refine AI 1 Z<|A4 ?_;obtain⟨aq,h⟩:=Ba h;have hT:=hT.trans (ac.trans (u.trans x));have a:=a.mono (Aa (u.trans x));refine B7 ((List AaV)×Int×Int×(List Value)×Nat) (fun⟨m,e,d,o,n⟩=>[(0,f),(1,.func (.func 312) #[] #[]),(5,No e),(6,ce),(7,No d)]) (fun⟨m,e,d,o,n⟩ wr=>FX w0 (Ha [.row f 9 1 (m).length o] O) wr fun Oz=>AH .st (gz H w0 wr Oz) m o/\Le (fz w (Ha [.row va0 9 1 (a0).length xsa0] O)) (fz wr Oz)/\Ia (BE c) n (m,e,d)=some aw) (fun⟨m,e,d,o,n⟩=>n) (k,c,1,g,aq) Z ⟨ap,a,hT,h⟩ ?_;rintro⟨m,e,d,o,nn461⟩ cj ⟨aj,b,hT,h⟩;obtain⟨aq,cv,rfl,h,ar⟩:=AZ h;refine AB<|Bx 2 Z<|Ai (Bm (YT.vec ai (aj.RU hH (i:=0) Z b) Z))<|A8 1 Z<|AQ h ?_ ?_<;>intro bo h
      ·refine Ax<|As<|AB<|A4<|Ex (Qqz 0 10 (.tail 10)) mixed Qqb (fun cw a3=>?_);have ak:=aj.call a3;have an:=AR aj a3;refine D4 3 Z<|A2 h fun a4 h=>?_;have b:=b.mono (Aa an);refine HZ Z Z Z Adb (YT.vec ai (ak.RU hH (i:=0) Z b) Z) d.toNat (GX a4) (AX a4) Z ?_;rintro cx _ rfl bp;refine CB Z (Bl bp (Le.refl _)) Z<|D4 2 Z<|A2 h fun bq h=>CB Z (A7 bq) Z<|A2 h fun a5 h=>HZ Z Z Z Adb (YT.vec ai (ak.RU hH (i:=0) Z b) Z) ((d - 1).toNat) (GX a5) (AX a5) Z ?_;rintro cy _ rfl br;refine CB Z (Bl br (Le.refl _)) Z<|BT (fun cz a6=>?_);have a7:=ak.call a6;have ae:=AR ak a6;refine Aw h fun c0 bs h=>OT a7 (Nz _ _ (An a7) bs) ?_;rintro _ c1 rfl ck al af;refine A8 1 Z<|B8 h ?_ ?_<;>intro bt h
       ·refine Bx 4 Z<|A2 h fun a8 h=>?_;have b:=b.mono (Aa (ae.trans af));refine Bi (YT.vec ai (al.RU hH (i:=0) Z b) Z) d.toNat (GX a8) (AX a8) ?_;rintro c2 _ rfl bu;refine Ai (Bl bu (Le.refl _))<|A2 h fun au h=>KE 0 Z Adb HO.e al Z e.toNat (GX au) (AX au) fun c3 bv=>KF 0 e.toNat ((m.drop c.toNat).getD d.toNat Qq2) Z Z hH al Z b bv (AX au) Z fun c4 bw bx bb bz=>Ad<|Au<|Ar 1 Z<|A2 h fun b0 h=>Ai (A7 b0)<|Ar 1 Z<|AL<|A3<|As<|Au<|Ar 1 Z<|A2 h fun b1 h=>Ai (A7 b1)<|Ar 1 Z<|AL ?_;have h:=Cf.again h ar;have hT:=hT.trans (an.trans (ae.trans (af.trans bb)));refine AM (_,_,_,_,_) Z ⟨bx,bz,hT,h⟩
       refine Ax<|A3<|As<|Au<|Ar 1 Z<|A2 h fun b2 h=>Ai (A7 b2)<|Ar 1 Z<|AL ?_;have h:=Cf.again h ar;have hT:=hT.trans (an.trans (ae.trans af));have b:=b.mono (Aa (ae.trans af));refine AM (_,_,_,_,_) Z ⟨al,b,hT,h⟩
      refine B4<|AF<|A5 ?_;have h:=Cf.out h ar;refine Bg<|AA (_,_,_) ⟨aj,b,hT,h⟩
     have hT:=hT.trans (ac.trans (u.trans x));rintro⟨y,p,ad⟩ cl ⟨a9,bc,hT,h⟩;refine Bx 2 Z<|A2 h fun b3 h=>AdO 0 Z Adb a9 Z b3 fun c5 b4=>AdP (r:=.st) (l:=y) (z:=([]:AaV)) 0 b4 Adb hH a9 Z bc (fun _=>Z) fun c6 cm b5 bd b6=>Ad<|Bx 2 Z<|A2 h fun b7 h=>Aid (r:=.st) (l:=(y.take p.toNat++Qzz (y.length - p.toNat) ([]:AaV))) 0 Z Adb hH b5 Z b6 b7 fun cf b8 b9 be ca=>A8 1 Z<|Ay<|Av<|Bs<|BJ ?_;have h:=Cf.out h ao;refine Av<|Bs ?_
     cases h
     refine Al Z ?_;have hT:=hT.trans (bd.trans be);exact⟨cf,b8,Z,b9,hT,ca⟩
    refine Ax<|A3 ?_;have hT:=hT.trans (ac.trans (u.trans x));have a:=a.mono (Aa (u.trans x));refine AA _ ⟨ap,a,hT,h⟩
   rintro t cn ⟨cb,a,hT,h⟩;refine Au<|Ar 1 Z<|A2 h fun cc h=>Ai (A7 cc)<|Ar 1 Z<|AL ?_;have h:=Cf.again h ao;refine AM (_,_,_,_,_) Z ⟨cb,a,hT,h⟩
  refine B4<|AF<|A5 ?_;have h:=Cf.out h ao;refine Bg<|AA (_,_,_) ⟨ag,a,hT,h⟩
 rintro⟨am,ab,s⟩ co ⟨cd,bf,hT,h⟩;refine AI 2 Z<|Ay ?_
 cases h
 refine Al Z ⟨ab,s,Z,cd,hT,bf⟩
def DV(a0:AaV)(a1:AaV):Option Bool:=
 Qq4 (Iw a0) (fun a=>Qq4 (Ca a) (fun b=>Qq4 (Iw a1) (fun c=>Qq4 (LR b c) (fun d=>some d))))
section
variable(w:World)(H:PH)(hH:Le H (hp w)) include hH
theorem LS{a0 a1:AaV}{r:Bool}(h:DV a0 a1=some r):
  Qqv 256 [AaM a0,AaM a1] w (fun v w'=>v=.bool r):=by
 refine A1 13 [(0,(AaM a0)),(1,(AaM a1))] func256 Z fun hL=>AI 1 Z<|Bx 1 Z<|Aw h fun x l h=>Bf hL (Nr _ _ (An hL) l) ?_;rintro y w2 ⟨_,rfl,d⟩ m g j;obtain⟨ad,g,j,o⟩:=d.take hH hL m;refine Aw h fun x3 p h=>ES (KO (a0:=x) (O:=[]) hH g o p) ?_;rintro z w4 ⟨_,y4_0,rfl,b,aa,a⟩;refine A8 1 Z<|Bx 2 Z<|Aw h fun x5 q h=>Bf b (Nr _ _ (An b) q) ?_;rintro ab w6 ⟨_,rfl,e⟩ s c k;have f:=e.Du hH b s;refine Aw h fun x7 t h=>?_;have a:=a.mono (Aa k);refine AD c (Uj _ _ (Le.refl _) (c.RU hH (i:=0) Z a) (f.mono (An c)) t) fun w8 ae u ac=>A8 1 Z<|Ay ?_
 cases h
 refine Al Z ⟨u.ext,Z⟩
end
end Go.Proofs.YtekmbcbgknmhiaaGreatDoor
end
noncomputable section
namespace Go
abbrev Akp:=Go.E.Rp.pair (Go.E.Rp.int .i64) (Go.E.Rp.int .i64)
end Go
namespace Go
abbrev Ake:=List (Int×Int)
end Go
namespace Go.Proofs.YtekmbcbgknmhiaaGreatDoor
open Go Go.E Go.RowKit Go.L
set_option maxHeartbeats 1000000
set_option maxRecDepth 10000
open _root_.Go.Proofs.Tryz
def DW(a0 a1:Int):Option ((Int×Int)):=
 some ((a0,a1))
section
variable(w:World)(H:PH)(hH:Le H (hp w)) include hH
theorem D5{a0 a1:Int}{r:(Int×Int)}(h:DW a0 a1=some r):
  Qqv 78 [No a0,No a1] w (fun v w'=>v=.agg #[No r.1,No r.2]):=by
 refine A1 8 [(0,No a0),(1,No a1)] func78 Z fun hL=>Aj<|A9 AE.e Z hL fun e f b c _=>Ad<|Bx 2 Z<|Ai (AT (fun _=>M6 _ _ _))<|Af 0 Z b Z fun g a d=>Ad<|Ay ?_
 cases h
 refine Dz (.cell Z Ajx Z AE.e (AG (i:=0) a Z)) ⟨a.ext,Z⟩
def De:Option Int:=
 some ((-1))
def Bc(a0:List Int)(a1:Int):Int->Option ((Int) ⊕ (Int)):=fun a=>
 if a<(a0.length:Int) then AN (0<=a/\a<(a0.length:Int)) (if a1=a0.getD a.toNat Qq2 then Qq7 Sum.inr (some a) else AN (Bz (a+1)) (some (Sum.inl (a+1)))) else Qq7 Sum.inr De
def DN(a0:List Int)(a1 s:Int):Option Int:=Go.L.run (Bc a0 a1) s
def DX(a0:List Int)(a1:Int):Option Int:=
 (DN a0 a1) (0:Int)
theorem OZ{a0:List Int}{a1:Int}{b:Value}(e:AJ (.int .i64) H b a0){r:Int}(h:DX a0 a1=some r):
  Qqv 163 [b,No a1] w (fun v w'=>v=No r):=by
 refine A1 19 [(0,b),(1,No a1)] func163 Z fun hL=>AI 1 Z<|B2 Unit (fun(_:Unit)=>[]) (fun(_:Unit) wr=>Bb w [] wr/\De=some r) ?_ ?_
 ·refine Bx 1 Z<|Ai (Bm e)<|A8 1 Z<|A4 ?_;obtain⟨f,h⟩:=Ba h;refine B7 (Int×Nat) (fun⟨a,n⟩=>[(0,b),(1,No a1),(7,No (a0.length:Int)),(8,No a)]) (fun⟨a,n⟩ wr=>Bb w [] wr/\Ia (Bc a0 a1) n a=some r) (fun⟨a,n⟩=>n) (0,f) Z ⟨hL,h⟩ ?_;rintro⟨a,nn36⟩ o ⟨c,h⟩;obtain⟨f,q,rfl,h,d⟩:=AZ h;refine AI 1 Z<|AB<|AQ h ?_ ?_<;>intro i h
  ·refine Ax<|As<|AB<|A4<|AI 2 Z<|Bx 3 Z<|A2 h fun g h=>Bi e a.toNat (GX g) (AX g) ?_;rintro s _ rfl j;refine Ai (Bl j (hH.trans c.arg))<|A8 1 Z<|AQ h ?_ ?_<;>intro k h
   ·refine AI 2 Z<|Ay<|Av<|Aq<|BJ ?_;have h:=Cf.out h d;refine Av<|Bs ?_
    cases h
    refine Al Z ⟨c.ext,Z⟩
   refine Ax<|A3<|As<|Au<|A2 h fun l h=>Ai (A7 l)<|Ar 1 Z<|AL ?_;have h:=Cf.again h d;refine AM (_,_) Z ⟨c,h⟩
  refine B4<|AF<|A5 ?_;have h:=Cf.out h d;refine Bg<|AA () ⟨c,h⟩
 rintro _ p ⟨m,h⟩;refine AI 1 Z<|Ay ?_
 cases h
 refine Al Z ⟨m.ext,Z⟩
def BD(a0:List Int)(a1:Int):Option Bool:=
 Qq4 (DX a0 a1) (fun a=>some (decide (0<=a)))
theorem HR{a0:List Int}{a1:Int}{a:Value}(b:AJ (.int .i64) H a a0){r:Bool}(h:BD a0 a1=some r):
  Qqv 108 [a,No a1] w (fun v w'=>v=.bool r):=by
 refine A1 9 [(0,a),(1,No a1)] func108 Z fun hL=>AI 1 Z<|Bx 2 Z<|Aw h fun g c h=>AD hL (OZ _ _ (An hL) (b.mono  Ah) c) fun i f d e=>A8 2 Z<|Ay ?_
 cases h
 refine Al Z ⟨d.ext,Z⟩
def CW:Option Int:=
 some ((-1))
def B6(a0:List (Int×Int))(a1:Int×Int):Int->Option ((Int) ⊕ (Int)):=fun a=>
 if a<(a0.length:Int) then AN (0<=a/\a<(a0.length:Int)) (if a1.1=(a0.getD a.toNat Qq2).1/\a1.2=(a0.getD a.toNat Qq2).2 then Qq7 Sum.inr (some a) else AN (Bz (a+1)) (some (Sum.inl (a+1)))) else Qq7 Sum.inr CW
def DU(a0:List (Int×Int))(a1:Int×Int)(s:Int):Option Int:=Go.L.run (B6 a0 a1) s
def D6(a0:List (Int×Int))(a1:Int×Int):Option Int:=
 (DU a0 a1) (0:Int)
theorem Mt{a0:List (Int×Int)}{a1:Int×Int}{b:Value}(e:AJ Akp H b a0){r:Int}(h:D6 a0 a1=some r):
  Qqv 253 [b,.agg #[No a1.1,No a1.2]] w (fun v w'=>v=No r):=by
 refine A1 19 [(0,b),(1,.agg #[No a1.1,No a1.2])] func253 Z fun hL=>Aj<|CD (t:=137) Z Z hL fun w1 k y z _=>A8 1 Z<|B2 Unit (fun(_:Unit)=>[]) (fun(_:Unit) wr=>Bb w [.box k [No a1.1,No a1.2] 137] wr/\CW=some r) ?_ ?_
 ·refine Bx 1 Z<|Ai (Bm e)<|A8 1 Z<|A4 ?_;obtain⟨f,h⟩:=Ba h;refine B7 (Int×Nat) (fun⟨a,n⟩=>[(0,b),(3,(Aad k)),(7,No (a0.length:Int)),(8,No a)]) (fun⟨a,n⟩ wr=>Bb w [.box k [No a1.1,No a1.2] 137] wr/\Ia (B6 a0 a1) n a=some r) (fun⟨a,n⟩=>n) (0,f) Z ⟨y,h⟩ ?_;rintro⟨a,nn49⟩ aa ⟨g,h⟩;obtain⟨f,ac,rfl,h,c⟩:=AZ h;refine AI 1 Z<|AB<|AQ h ?_ ?_<;>intro l h
  ·refine Ax<|As<|AB<|A4<|AI 2 Z<|Ex (Qqz 0 6 (.tail 6)) mixed Qqb (fun ad m=>?_);have d:=g.call m;refine CB Z (Az 0 Z H7.e d Z) Z<|D4 2 Z<|A2 h fun i h=>HZ Z Z Z Aj5 e a.toNat (GX i) (AX i) Z ?_;rintro ae _ ⟨_,_,rfl,rfl,rfl⟩ o;refine CB Z (Cz o (hH.trans d.arg)) Z<|CB Z (Abe Aig (AiT _ _ _ _)) Z<|BT (fun af p=>?_);have j:=d.call p;refine Ad<|AQ h ?_ ?_<;>intro s h
   ·refine AI 2 Z<|Ay<|Av<|Aq<|BJ ?_;have h:=Cf.out h c;refine Av<|Bs ?_
    cases h
    refine Al Z ⟨j.ext,Z⟩
   refine Ax<|A3<|As<|Au<|A2 h fun u h=>Ai (A7 u)<|Ar 1 Z<|AL ?_;have h:=Cf.again h c;refine AM (_,_) Z ⟨j,h⟩
  refine B4<|AF<|A5 ?_;have h:=Cf.out h c;refine Bg<|AA () ⟨g,h⟩
 rintro _ ab ⟨x,h⟩;refine AI 1 Z<|Ay ?_
 cases h
 refine Al Z ⟨x.ext,Z⟩
def Ci(a0:List (Int×Int))(a1:Int×Int):Option Bool:=
 Qq4 (D6 a0 (a1.1,a1.2)) (fun a=>some (decide (0<=a)))
theorem Lv{a0:List (Int×Int)}{a1:Int×Int}{a:Value}(c:AJ Akp H a a0){r:Bool}(h:Ci a0 a1=some r):
  Qqv 195 [a,.agg #[No a1.1,No a1.2]] w (fun v w'=>v=.bool r):=by
 refine A1 9 [(0,a),(1,.agg #[No a1.1,No a1.2])] func195 Z fun hL=>Aj<|CD (t:=137) Z Z hL fun j k b f _=>A8 1 Z<|Bx 1 Z<|Ai (Az 0 Z H7.e b Z)<|Aw h fun l d h=>AD b (Mt (a1:=(a1.1,a1.2)) _ _ (An b) (c.mono  Ah) d) fun m i e g=>A8 2 Z<|Ay ?_
 cases h
 refine Al Z ⟨e.ext,Z⟩
def Dw:Option Int:=
 some ((-1))
def BK(a0:List AaV)(a1:AaV):Int->Option ((Int) ⊕ (Int)):=fun a=>
 if a<(a0.length:Int) then AN (0<=a/\a<(a0.length:Int)) (if a1=a0.getD a.toNat Qq2 then Qq7 Sum.inr (some a) else AN (Bz (a+1)) (some (Sum.inl (a+1)))) else Qq7 Sum.inr Dw
def E4(a0:List AaV)(a1:AaV)(s:Int):Option Int:=Go.L.run (BK a0 a1) s
def DY(a0:List AaV)(a1:AaV):Option Int:=
 (E4 a0 a1) (0:Int)
theorem Ng{a0:List AaV}{a1:AaV}{b:Value}(e:AJ .st H b a0){r:Int}(h:DY a0 a1=some r):
  Qqv 285 [b,AaM a1] w (fun v w'=>v=No r):=by
 refine A1 19 [(0,b),(1,(AaM a1))] func285 Z fun hL=>AI 1 Z<|B2 Unit (fun(_:Unit)=>[]) (fun(_:Unit) wr=>Bb w [] wr/\Dw=some r) ?_ ?_
 ·refine Bx 1 Z<|Ai (Bm e)<|A8 1 Z<|A4 ?_;obtain⟨f,h⟩:=Ba h;refine B7 (Int×Nat) (fun⟨a,n⟩=>[(0,b),(1,(AaM a1)),(7,No (a0.length:Int)),(8,No a)]) (fun⟨a,n⟩ wr=>Bb w [] wr/\Ia (BK a0 a1) n a=some r) (fun⟨a,n⟩=>n) (0,f) Z ⟨hL,h⟩ ?_;rintro⟨a,nn36⟩ o ⟨c,h⟩;obtain⟨f,q,rfl,h,d⟩:=AZ h;refine AI 1 Z<|AB<|AQ h ?_ ?_<;>intro i h
  ·refine Ax<|As<|AB<|A4<|AI 2 Z<|Bx 3 Z<|A2 h fun g h=>Bi e a.toNat (GX g) (AX g) ?_;rintro s _ rfl j;refine Ai (Bl j (hH.trans c.arg))<|Ai (Nx Z Z)<|Ad<|AQ h ?_ ?_<;>intro k h
   ·refine AI 2 Z<|Ay<|Av<|Aq<|BJ ?_;have h:=Cf.out h d;refine Av<|Bs ?_
    cases h
    refine Al Z ⟨c.ext,Z⟩
   refine Ax<|A3<|As<|Au<|A2 h fun l h=>Ai (A7 l)<|Ar 1 Z<|AL ?_;have h:=Cf.again h d;refine AM (_,_) Z ⟨c,h⟩
  refine B4<|AF<|A5 ?_;have h:=Cf.out h d;refine Bg<|AA () ⟨c,h⟩
 rintro _ p ⟨m,h⟩;refine AI 1 Z<|Ay ?_
 cases h
 refine Al Z ⟨m.ext,Z⟩
def C2(a0:List AaV)(a1:AaV):Option Bool:=
 Qq4 (DY a0 a1) (fun a=>some (decide (0<=a)))
theorem LU{a0:List AaV}{a1:AaV}{a:Value}(b:AJ .st H a a0){r:Bool}(h:C2 a0 a1=some r):
  Qqv 231 [a,AaM a1] w (fun v w'=>v=.bool r):=by
 refine A1 9 [(0,a),(1,(AaM a1))] func231 Z fun hL=>AI 1 Z<|Bx 2 Z<|Aw h fun g c h=>AD hL (Ng _ _ (An hL) (b.mono  Ah) c) fun i f d e=>A8 2 Z<|Ay ?_
 cases h
 refine Al Z ⟨d.ext,Z⟩
def Em(a0:AaV):Option AaV:=
 AN (Go.E.HK 1 (([]:AaV).length+a0.length)) (some ((([]:AaV)++a0)))
theorem K4{a0:AaV}{a:Value}(b:AJ .byte H a a0){r:AaV}(h:Em a0=some r):
  Qqv 99 [a] w (fun v w'=>∃ d,v=d/\Ck 5 .byte H w w' d r):=by
 refine A1 8 [(0,a)] func99 Z fun hL=>AI 1 Z<|AB<|Bx 1 Z ?_
 rcases XB b with ⟨rfl,rfl⟩ | hnn
 ·refine Ai XC<|Ad<|Fq<|AI 1 Z<|Ay ?_;obtain⟨_,h⟩:=GG h;obtain rfl:=Option.some.inj h;refine Aq<|Al Z ⟨hL.ext,_,Z,XE _ hL hH⟩
 refine Ai (XD hnn)<|Ad<|G5<|Ax<|As<|Aj<|O7 ([]:AaV) (r:=.byte) (fun _=>Ago _) (BI 0) hH hL .nil fun s t p e k f=>Ar 1 Z<|A2 h fun g h=>Bt (r:=.byte) 0 ([]:AaV) a0 Z Af7 e Z f (b.mono  Ah) g fun u x q c o j=>A8 1 Z<|Ay ?_
 cases h
 refine Al Z ⟨c.ext,_,Z,(c.Iq hH (i:=0) Z j)⟩
def D7(a0:List (Int×Int)):Option (Ake):=
 AN (Go.E.HK 16 (([]:List (Int×Int)).length+a0.length)) (some ((([]:List (Int×Int))++a0)))
theorem Mu{a0:List (Int×Int)}{a:Value}(b:AJ Akp H a a0){r:Ake}(h:D7 a0=some r):
  Qqv 193 [a] w (fun v w'=>∃ d,v=d/\Ck 137 Akp H w w' d r):=by
 refine A1 8 [(0,a)] func193 Z fun hL=>AI 1 Z<|AB<|Bx 1 Z ?_
 rcases XB b with ⟨rfl,rfl⟩ | hnn
 ·refine Ai XC<|Ad<|Fq<|AI 1 Z<|Ay ?_;obtain⟨_,h⟩:=GG h;obtain rfl:=Option.some.inj h;refine Aq<|Al Z ⟨hL.ext,_,Z,XE _ hL hH⟩
 refine Ai (XD hnn)<|Ad<|G5<|Ax<|As<|Aj<|O7 (([]:List (Int×Int))) (r:=Akp) (fun _=>AdY _) (BI 0) hH hL .nil fun s t p e k f=>Ar 1 Z<|A2 h fun g h=>Bt (r:=Akp) 0 (([]:List (Int×Int))) a0 Z Aj5 e Z f (b.mono  Ah) g fun u x q c o j=>A8 1 Z<|Ay ?_
 cases h
 refine Al Z ⟨c.ext,_,Z,(c.Iq hH (i:=0) Z j)⟩
def Fc(a0:List Int):Option ((List Int)):=
 AN (Go.E.HK 8 (([]:List Int).length+a0.length)) (some ((([]:List Int)++a0)))
theorem Pa{a0:List Int}{a:Value}(b:AJ (.int .i64) H a a0){r:(List Int)}(h:Fc a0=some r):
  Qqv 138 [a] w (fun v w'=>∃ d,v=d/\Ck 3 (.int .i64) H w w' d r):=by
 refine A1 8 [(0,a)] func138 Z fun hL=>AI 1 Z<|AB<|Bx 1 Z ?_
 rcases XB b with ⟨rfl,rfl⟩ | hnn
 ·refine Ai XC<|Ad<|Fq<|AI 1 Z<|Ay ?_;obtain⟨_,h⟩:=GG h;obtain rfl:=Option.some.inj h;refine Aq<|Al Z ⟨hL.ext,_,Z,XE _ hL hH⟩
 refine Ai (XD hnn)<|Ad<|G5<|Ax<|As<|Aj<|O7 ([]:List Int) (r:=(.int .i64)) (fun _=>Ags _) (BI 0) hH hL .nil fun s t p e k f=>Ar 1 Z<|A2 h fun g h=>Bt (r:=(.int .i64)) 0 ([]:List Int) a0 Z AhD e Z f (b.mono  Ah) g fun u x q c o j=>A8 1 Z<|Ay ?_
 cases h
 refine Al Z ⟨c.ext,_,Z,(c.Iq hH (i:=0) Z j)⟩
def Cv(a0:List AaV):Option ((List AaV)):=
 AN (Go.E.HK 16 (([]:List AaV).length+a0.length)) (some ((([]:List AaV)++a0)))
theorem GP{a0:List AaV}{a:Value}(b:AJ .st H a a0){r:(List AaV)}(h:Cv a0=some r):
  Qqv 135 [a] w (fun v w'=>∃ d,v=d/\Ck 9 .st H w w' d r):=by
 refine A1 8 [(0,a)] func135 Z fun hL=>AI 1 Z<|AB<|Bx 1 Z ?_
 rcases XB b with ⟨rfl,rfl⟩ | hnn
 ·refine Ai XC<|Ad<|Fq<|AI 1 Z<|Ay ?_;obtain⟨_,h⟩:=GG h;obtain rfl:=Option.some.inj h;refine Aq<|Al Z ⟨hL.ext,_,Z,XE _ hL hH⟩
 refine Ai (XD hnn)<|Ad<|G5<|Ax<|As<|Aj<|O7 ([]:List AaV) (r:=.st) (fun _=>Agn _) (BI 0) hH hL .nil fun s t p e k f=>Ar 1 Z<|A2 h fun g h=>Bt (r:=.st) 0 ([]:List AaV) a0 Z Adb e Z f (b.mono  Ah) g fun u x q c o j=>A8 1 Z<|Ay ?_
 cases h
 refine Al Z ⟨c.ext,_,Z,(c.Iq hH (i:=0) Z j)⟩
def DZ(a b:Int):Option Int:=
 AN (0<=((Go.L.u8 a).toNat:Int)/\((Go.L.u8 a).toNat:Int)<(([0,1,2,2,3,3,3,3,4,4,4,4,4,4,4,4,5,5,5,5,5,5,5,5,5,5,5,5,5,5,5,5,6,6,6,6,6,6,6,6,6,6,6,6,6,6,6,6,6,6,6,6,6,6,6,6,6,6,6,6,6,6,6,6,7,7,7,7,7,7,7,7,7,7,7,7,7,7,7,7,7,7,7,7,7,7,7,7,7,7,7,7,7,7,7,7,7,7,7,7,7,7,7,7,7,7,7,7,7,7,7,7,7,7,7,7,7,7,7,7,7,7,7,7,7,7,7,7,8,8,8,8,8,8,8,8,8,8,8,8,8,8,8,8,8,8,8,8,8,8,8,8,8,8,8,8,8,8,8,8,8,8,8,8,8,8,8,8,8,8,8,8,8,8,8,8,8,8,8,8,8,8,8,8,8,8,8,8,8,8,8,8,8,8,8,8,8,8,8,8,8,8,8,8,8,8,8,8,8,8,8,8,8,8,8,8,8,8,8,8,8,8,8,8,8,8,8,8,8,8,8,8,8,8,8,8,8,8,8,8,8,8,8,8,8,8,8,8,8,8,8,8,8,8,8,8]:AaV).length:Int)) (AN (Bz (b+((([0,1,2,2,3,3,3,3,4,4,4,4,4,4,4,4,5,5,5,5,5,5,5,5,5,5,5,5,5,5,5,5,6,6,6,6,6,6,6,6,6,6,6,6,6,6,6,6,6,6,6,6,6,6,6,6,6,6,6,6,6,6,6,6,7,7,7,7,7,7,7,7,7,7,7,7,7,7,7,7,7,7,7,7,7,7,7,7,7,7,7,7,7,7,7,7,7,7,7,7,7,7,7,7,7,7,7,7,7,7,7,7,7,7,7,7,7,7,7,7,7,7,7,7,7,7,7,7,8,8,8,8,8,8,8,8,8,8,8,8,8,8,8,8,8,8,8,8,8,8,8,8,8,8,8,8,8,8,8,8,8,8,8,8,8,8,8,8,8,8,8,8,8,8,8,8,8,8,8,8,8,8,8,8,8,8,8,8,8,8,8,8,8,8,8,8,8,8,8,8,8,8,8,8,8,8,8,8,8,8,8,8,8,8,8,8,8,8,8,8,8,8,8,8,8,8,8,8,8,8,8,8,8,8,8,8,8,8,8,8,8,8,8,8,8,8,8,8,8,8,8,8,8,8,8,8]:AaV).getD ((Go.L.u8 a).toNat:Int).toNat Qq2).toNat:Int))) (some ((b+((([0,1,2,2,3,3,3,3,4,4,4,4,4,4,4,4,5,5,5,5,5,5,5,5,5,5,5,5,5,5,5,5,6,6,6,6,6,6,6,6,6,6,6,6,6,6,6,6,6,6,6,6,6,6,6,6,6,6,6,6,6,6,6,6,7,7,7,7,7,7,7,7,7,7,7,7,7,7,7,7,7,7,7,7,7,7,7,7,7,7,7,7,7,7,7,7,7,7,7,7,7,7,7,7,7,7,7,7,7,7,7,7,7,7,7,7,7,7,7,7,7,7,7,7,7,7,7,7,8,8,8,8,8,8,8,8,8,8,8,8,8,8,8,8,8,8,8,8,8,8,8,8,8,8,8,8,8,8,8,8,8,8,8,8,8,8,8,8,8,8,8,8,8,8,8,8,8,8,8,8,8,8,8,8,8,8,8,8,8,8,8,8,8,8,8,8,8,8,8,8,8,8,8,8,8,8,8,8,8,8,8,8,8,8,8,8,8,8,8,8,8,8,8,8,8,8,8,8,8,8,8,8,8,8,8,8,8,8,8,8,8,8,8,8,8,8,8,8,8,8,8,8,8,8,8,8]:AaV).getD ((Go.L.u8 a).toNat:Int).toNat Qq2).toNat:Int)))))
def Gs(a b:Int):Option Int:=
 if 256<=a then AN (Bz (b+8)) (DZ (a / 256) (b+8)) else DZ a b
def Gt(a b:Int):Option Int:=
 if 65536<=a then AN (Bz (b+16)) (Gs (a / 65536) (b+16)) else Gs a b
def Is(a0:Int):Option Int:=
 if 4294967296<=a0 then Gt (a0 / 4294967296) (32:Int) else Gt a0 (0:Int)
theorem RX{a0 r:Int}(h:Is a0=some r):
  Qqv 236 [.int .u64 a0] w (fun v w'=>v=No r):=by
 refine A1 25 [(0,.int .u64 a0)] func236 Z fun hL=>AI 1 Z<|B2 (Int×Int) (fun⟨d,e⟩=>[(0,.int .u64 d),(2,No e)]) (fun⟨d,e⟩ wr=>Bb w [] wr/\Gt d e=some r) ?_ ?_
 ·refine AI 2 Z<|AQ h ?_ ?_<;>intro u h
  ·refine Bx 1 Z<|Ai (UW (c:=32) (m:=4294967296) Z Z Qqc)<|A8 1 Z<|Au<|Ar 1 Z<|AL<|AA (_,_) ⟨hL,h⟩
  refine Ax<|AA (_,_) ⟨hL,h⟩
 rintro⟨d,e⟩ z ⟨j,h⟩;refine B2 (Int×Int) (fun⟨a,b⟩=>[(0,.int .u64 a),(2,No b)]) (fun⟨a,b⟩ wr=>Bb w [] wr/\Gs a b=some r) ?_ ?_
 ·refine AI 2 Z<|AQ h ?_ ?_<;>intro k h
  ·refine Bx 1 Z<|Ai (UW (c:=16) (m:=65536) Z Z Qqc)<|A8 1 Z<|Au<|Ar 1 Z<|A2 h fun l h=>Ai (A7 l)<|Ar 1 Z<|AL<|AA (_,_) ⟨j,h⟩
  refine Ax<|AA (_,_) ⟨j,h⟩
 rintro⟨a,b⟩ x ⟨i,h⟩;refine B2 (Int×Int) (fun⟨f,g⟩=>[(0,.int .u64 f),(2,No g)]) (fun⟨f,g⟩ wr=>Bb w [] wr/\DZ f g=some r) ?_ ?_
 ·refine AI 2 Z<|AQ h ?_ ?_<;>intro o h
  ·refine Bx 1 Z<|Ai (UW (c:=8) (m:=256) Z Z Qqc)<|A8 1 Z<|Au<|Ar 1 Z<|A2 h fun p h=>Ai (A7 p)<|Ar 1 Z<|AL<|AA (_,_) ⟨i,h⟩
  refine Ax<|AA (_,_) ⟨i,h⟩
 rintro⟨f,g⟩ y ⟨q,h⟩;refine Bx 2 Z<|Ai (Lm (NO _))<|A2 h fun s h=>Ai (NQ s)<|Ai (Lm (Rc _))<|A2 h fun t h=>Ai (A7 t)<|A8 1 Z<|Ay ?_
 cases h
 refine Al Z ⟨q.ext,Z⟩
def KP(a0:Int):Option Int:=
 Qq4 (Is a0) (fun a=>some a)
theorem Tw{a0 r:Int}(h:KP a0=some r):
  Qqv 185 [.int .u64 a0] w (fun v w'=>v=No r):=by
 refine A1 8 [(0,.int .u64 a0)] func185 Z fun hL=>AI 1 Z<|AB<|G5<|Ax<|As<|Bx 1 Z<|Aw h fun e a h=>AD hL (RX _ _ (An hL) a) fun f d b c=>A8 1 Z<|Ay ?_
 cases h
 refine Al Z ⟨b.ext,Z⟩
def GQ(a0:Int):Option Int:=
 if a0<1 then some (0) else Qq4 (KP (IntKind.u64.wrap a0)) (fun a=>AN (Bz (2 * a)) (AN (Bz ((2 * a) - 1)) (some (((2 * a) - 1)))))
theorem SA{a0 r:Int}(h:GQ a0=some r):
  Qqv 134 [No a0] w (fun v w'=>v=No r):=by
 refine A1 10 [(0,No a0)] func134 Z fun hL=>AI 1 Z<|AB<|AI 2 Z<|AQ h ?_ ?_<;>intro a h
 ·refine AI 1 Z<|Ay<|Aq ?_
  cases h
  refine Al Z ⟨hL.ext,Z⟩
 refine Ax<|As<|Bx 1 Z<|Ai (Lm Z)<|Aw h fun i b h=>AD hL (Tw _ _ (An hL) b) fun j g c f=>A2 h fun d h=>Ai (A7 d)<|A2 h fun e h=>Ai (A7 e)<|A8 1 Z<|Ay ?_
 cases h
 refine Al Z ⟨c.ext,Z⟩
end
end Go.Proofs.YtekmbcbgknmhiaaGreatDoor
end
noncomputable section
namespace Go
abbrev Aki:=Int×(Int×Int)
end Go
namespace Go.Proofs.YtekmbcbgknmhiaaGreatDoor
open Go Go.E Go.RowKit Go.L
set_option maxHeartbeats 1000000
set_option maxRecDepth 10000
open _root_.Go.Proofs.Tryz
def Cu(a0:List Int)(a1:Pv):Option (Bool×Pv):=
 Qq4 (BD a0 a1.f.1) (fun a=>some (a,a1))
theorem Ea{a w:World}{H:PH}(hH:Le H (hp a))(O:List BS)(a0:List Int)(a1:Pv){va0:Value}{ba1:Nat}{va1_2 va1_3 va1_4:Value}(hL:Bb a (Ha [.box ba1 [No a1.f.1,No a1.f.2.1,va1_2,va1_3,va1_4] 64] O) w)(l:AJ (.int .i64) (gz H a w (Ha [.box ba1 [No a1.f.1,No a1.f.2.1,va1_2,va1_3,va1_4] 64] O)) va0 a0)(i:AJ .byte (gz H a w (Ha [.box ba1 [No a1.f.1,No a1.f.2.1,va1_2,va1_3,va1_4] 64] O)) va1_2 (a1.f.2.2.1))(j:AJ .st (gz H a w (Ha [.box ba1 [No a1.f.1,No a1.f.2.1,va1_2,va1_3,va1_4] 64] O)) va1_3 (a1.f.2.2.2.1))(k:AJ .tree (gz H a w (Ha [.box ba1 [No a1.f.1,No a1.f.2.1,va1_2,va1_3,va1_4] 64] O)) va1_4 (a1.f.2.2.2.2)){r:Bool×Pv}(h:Cu a0 a1=some r):
  Ok prog 228 [va0,Aad ba1] w (fun v w'=>∃ (c:Value) (d:Value) (e:Value),v=.bool r.1/\Bb a (Ha [.box ba1 [No r.2.f.1,No r.2.f.2.1,c,d,e] 64] O) w'/\Le (fz w (Ha [.box ba1 [No a1.f.1,No a1.f.2.1,va1_2,va1_3,va1_4] 64] O)) (fz w' (Ha [.box ba1 [No r.2.f.1,No r.2.f.2.1,c,d,e] 64] O))/\AJ .byte (gz H a w' (Ha [.box ba1 [No r.2.f.1,No r.2.f.2.1,c,d,e] 64] O)) c (r.2.f.2.2.1)/\AJ .st (gz H a w' (Ha [.box ba1 [No r.2.f.1,No r.2.f.2.1,c,d,e] 64] O)) d (r.2.f.2.2.2.1)/\AJ .tree (gz H a w' (Ha [.box ba1 [No r.2.f.1,No r.2.f.2.1,c,d,e] 64] O)) e (r.2.f.2.2.2.2)):=by
 refine Ds (n:=8) [(0,va0),(1,(Aad ba1))] func228 Z Z Z Z ?_;have hT:=Le.refl (fz w (Ha [.box ba1 [No a1.f.1,No a1.f.2.1,va1_2,va1_3,va1_4] 64] O));have b:=hL.rG H;refine AI 1 Z<|Bx 1 Z<|Ai (Ae Z Ajy Z CR.e)<|Ai (Ag 0 Z hL Z)<|Aw h fun q m h=>AD hL (HR _ _ (An hL) (l.mono b) m) fun s p o g=>A8 1 Z<|Ay ?_
 cases h
 refine Al Z ?_;have b:=b.trans (Aa g);have hT:=hT.trans g;exact⟨va1_2,va1_3,va1_4,Z,o,hT,(i.mono b),(j.mono b),(k.mono b)⟩
def HS:Option Int:=
 some (0)
def DE(b:List AaV):Int->Option ((Int) ⊕ (Int)):=fun a=>
 if a<(b.length:Int) then AN (0<=a/\a<(b.length:Int)) (AN (0<=a/\a<=(b.length:Int)) (Qq4 (C2 (b.take a.toNat) (b.getD a.toNat Qq2)) (fun c=>if c then Qq7 Sum.inr (some (8)) else AN (Bz (a+1)) (some (Sum.inl (a+1)))))) else Qq7 Sum.inr HS
def Lx(a:List AaV)(s:Int):Option Int:=Go.L.run (DE a) s
def BN(_c84 _c85:Int)(_c86:AaV)(b:List AaV)(d:List Pv)(a:Bool):Option Int:=
 if a then some (6) else(if 600<(d.length:Int) then some (14) else Qq4 (HG b) (fun c=>if c then some (7) else(Lx b) (0:Int)))
def Gu(g h:Int)(i:AaV)(j:List AaV)(e:List Pv)(d:Bool):Option Int:=
 if d then BN g h i j e d else(if 0<(e.length:Int) then Qq4 (Cu ([3,4]) (Pv.mk g h i j e)) (fun c=>if !c.1 then BN c.2.f.1 c.2.f.2.1 c.2.f.2.2.1 c.2.f.2.2.2.1 c.2.f.2.2.2.2 (!c.1) else Qq4 (Cu ([4]) c.2) (fun a=>if a.1 then BN a.2.f.1 a.2.f.2.1 a.2.f.2.2.1 a.2.f.2.2.2.1 a.2.f.2.2.2.2 (!decide ((a.2.f.2.2.2.1.length:Int)=(a.2.f.2.2.2.2.length:Int))) else BN a.2.f.1 a.2.f.2.1 a.2.f.2.2.1 a.2.f.2.2.2.1 a.2.f.2.2.2.2 false)) else Qq4 (Cu ([4]) (Pv.mk g h i j e)) (fun b=>if b.1 then BN b.2.f.1 b.2.f.2.1 b.2.f.2.2.1 b.2.f.2.2.2.1 b.2.f.2.2.2.2 (!decide ((b.2.f.2.2.2.1.length:Int)=(b.2.f.2.2.2.2.length:Int))) else BN b.2.f.1 b.2.f.2.1 b.2.f.2.2.1 b.2.f.2.2.2.1 b.2.f.2.2.2.2 false))
def Gv(d e:Int)(g:AaV)(c:List AaV)(h:List Pv)(b:Bool):Option Int:=
 if b then BN d e g c h b else(if 0<(c.length:Int) then Qq4 (Cu ([4]) (Pv.mk d e g c h)) (fun a=>Gu a.2.f.1 a.2.f.2.1 a.2.f.2.2.1 a.2.f.2.2.2.1 a.2.f.2.2.2.2 (!a.1)) else Gu d e g c h false)
def Gw(d e:Int)(c:AaV)(g:List AaV)(h:List Pv)(b:Bool):Option Int:=
 if b then BN d e c g h b else(if 0<(c.length:Int) then Qq4 (Cu ([2]) (Pv.mk d e c g h)) (fun a=>Gv a.2.f.1 a.2.f.2.1 a.2.f.2.2.1 a.2.f.2.2.2.1 a.2.f.2.2.2.2 (!a.1)) else Gv d e c g h false)
def Hg(a0:Pv):Option Int:=
 Qq4 (Cu ([1,2,3,4]) a0) (fun b=>if !b.1 then some (5) else(if b.2.f.2.1=0 then Gw b.2.f.1 b.2.f.2.1 b.2.f.2.2.1 b.2.f.2.2.2.1 b.2.f.2.2.2.2 false else Qq4 (Cu ([1]) b.2) (fun a=>Gw a.2.f.1 a.2.f.2.1 a.2.f.2.2.1 a.2.f.2.2.2.1 a.2.f.2.2.2.2 (!a.1))))
section
variable(w:World)(H:PH)(hH:Le H (hp w)) include hH
theorem RY{a0:Pv}{cm cn co:Value}(eu:AJ .byte H cm (a0.f.2.2.1))(ev:AJ .st H cn (a0.f.2.2.2.1))(ew:AJ .tree H co (a0.f.2.2.2.2)){r:Int}(h:Hg a0=some r):
  Qqv 176 [.agg #[No a0.f.1,No a0.f.2.1,cm,cn,co]] w (fun v w'=>v=No r):=by
 refine A1 88 [(0,.agg #[No a0.f.1,No a0.f.2.1,cm,cn,co])] func176 Z fun hL=>Aj<|CD (t:=64) Z Z hL fun w1 b1 e3 fs _=>A8 1 Z<|AI 2 Z<|AB<|A4<|Bx 1 Z<|B9 [1,2,3,4] (r:=(.int .i64)) (fun _=>Ab2 _ _ _ _ _) (hlen:=(BI 4)) e3 (.c1 Z (.c1 Z (.c1 Z (.c1 Z .nil)))) fun v2 w2 gl e4 ft e5=>Aw h fun x3 e6 h=>Fl Z Z (Ea hH [] ([1,2,3,4]) a0 e4 e5 (eu.mono  Ah) (ev.mono  Ah) (ew.mono  Ah) e6) ?_;rintro _ w4 ⟨ex,ey,ez,rfl,bz,fu,cq,cr,cs⟩;refine A8 2 Z<|B8 h ?_ ?_<;>intro e7 h
 ·have gm:=bz.rG H;refine AI 1 Z<|Ay<|Av<|Aq ?_
  cases h
  refine Al Z ⟨bz.ext,Z⟩
 refine B2 (Int×Int×AaV×(List AaV)×(List Pv)×Bool×Value×Value×Value) (fun⟨b0,b2,b3,bp,b4,a7,ab,aa,ac⟩=>[(1,(Aad b1)),(12,.bool a7)]) (fun⟨b0,b2,b3,bp,b4,a7,ab,aa,ac⟩ wr=>FX w [.box b1 [No b0,No b2,ab,aa,ac] 64] wr fun Oz=>AJ .byte (gz H w wr Oz) ab b3/\AJ .st (gz H w wr Oz) aa bp/\AJ .tree (gz H w wr Oz) ac b4/\BN b0 b2 b3 bp b4 a7=some r) ?_ ?_
 ·refine B2 (Int×Int×AaV×(List AaV)×(List Pv)×Bool×Value×Value×Value) (fun⟨am,an,ao,ap,aq,x,ae,af,ag⟩=>[(1,(Aad b1)),(3,.func (.func 228) #[] #[Aad b1]),(12,.bool x)]) (fun⟨am,an,ao,ap,aq,x,ae,af,ag⟩ wr=>FX w [.box b1 [No am,No an,ae,af,ag] 64] wr fun Oz=>AJ .byte (gz H w wr Oz) ae ao/\AJ .st (gz H w wr Oz) af ap/\AJ .tree (gz H w wr Oz) ag aq/\Gw am an ao ap aq x=some r) ?_ ?_
  ·have m:=bz.rG H;refine Au<|Ai (Ae Z Ajy Z CR.e)<|Ai (Ag 0 Z bz Z)<|Ar 2 Z<|IN 16 h ?_ ?_<;>intro o h
   ·refine Ab o<|Ai (Am Z)<|Ab o<|B9 [1] (r:=(.int .i64)) (fun _=>Jn _ _) bz (.c1 Z .nil) fun fv fw fe ds c7 dt=>Ab o<|Aw h fun bi du h=>?_;have m:=m.trans (Aa c7);refine Fl Z Z (Ea hH [] ([1]) x3.2 ds dt (cq.mono m) (cr.mono m) (cs.mono m) du) ?_;rintro _ fx ⟨c8,c9,da,rfl,dv,e8,cx,cy,cz⟩;refine Ab o<|Ai (Am Z)<|Ai (AK o Z)<|Ar 1 Z<|AL<|AA (bi.2.f.1,bi.2.f.2.1,bi.2.f.2.2.1,bi.2.f.2.2.2.1,bi.2.f.2.2.2.2,!bi.1,c8,c9,da) ⟨dv,cx,cy,cz,h⟩
   iterate 4 refine Ao o ?_
   refine Ai (AO o Z)<|Ar 1 Z<|AL<|AA (x3.2.f.1,x3.2.f.2.1,x3.2.f.2.2.1,x3.2.f.2.2.2.1,x3.2.f.2.2.2.2,false,ex,ey,ez) ⟨bz,(cq.mono m),(cr.mono m),(cs.mono m),h⟩
  rintro⟨am,an,ao,ap,aq,x,ae,af,ag⟩ ff ⟨a8,a9,bs,bt,h⟩;refine B8 h ?_ ?_<;>intro dw h
  ·refine Ax<|AA (am,an,ao,ap,aq,x,ae,af,ag) ⟨a8,a9,bs,bt,h⟩
  refine B2 (Int×Int×AaV×(List AaV)×(List Pv)×Bool×Value×Value×Value) (fun⟨ar,au,av,aw,ax,y,ah,ai,aj⟩=>[(1,(Aad b1)),(3,.func (.func 228) #[] #[Aad b1]),(12,.bool y)]) (fun⟨ar,au,av,aw,ax,y,ah,ai,aj⟩ wr=>FX w [.box b1 [No ar,No au,ah,ai,aj] 64] wr fun Oz=>AJ .byte (gz H w wr Oz) ah av/\AJ .st (gz H w wr Oz) ai aw/\AJ .tree (gz H w wr Oz) aj ax/\Gv ar au av aw ax y=some r) ?_ ?_
  ·have j:=a8.rG H;refine Au<|Ai (Ae Z Ajy Z IF.e)<|Ai (Ag 0 Z a8 Z)<|Ai (Bm (a9.mono j))<|Ar 2 Z<|CI 26 h ?_ ?_<;>intro p h
   ·refine Ab p<|Ai (Am Z)<|Ab p<|B9 [2] (r:=(.int .i64)) (fun _=>Jn _ _) a8 (.c1 Z .nil) fun fy fz fg dx db dy=>Ab p<|Aw h fun bj dz h=>?_;have j:=j.trans (Aa db);refine Fl Z Z (Ea hH [] ([2]) (Pv.mk am an ao ap aq) dx dy (a9.mono j) (bs.mono j) (bt.mono j) dz) ?_;rintro _ f0 ⟨dc,dd,de,rfl,d0,e9,c0,c2,c3⟩;refine Ab p<|Ai (Am Z)<|Ai (AK p Z)<|Ar 1 Z<|AL<|AA (bj.2.f.1,bj.2.f.2.1,bj.2.f.2.2.1,bj.2.f.2.2.2.1,bj.2.f.2.2.2.2,!bj.1,dc,dd,de) ⟨d0,c0,c2,c3,h⟩
   iterate 4 refine Ao p ?_
   refine Ai (AO p Z)<|Ar 1 Z<|AL<|AA (am,an,ao,ap,aq,false,ae,af,ag) ⟨a8,(a9.mono j),(bs.mono j),(bt.mono j),h⟩
  rintro⟨ar,au,av,aw,ax,y,ah,ai,aj⟩ fh ⟨ba,bu,bb,bv,h⟩;refine B8 h ?_ ?_<;>intro d1 h
  ·refine Ax<|AA (ar,au,av,aw,ax,y,ah,ai,aj) ⟨ba,bu,bb,bv,h⟩
  refine B2 (Int×Int×AaV×(List AaV)×(List Pv)×Bool×Value×Value×Value) (fun⟨ay,az,a2,a3,a4,z,bc,bd,be⟩=>[(1,(Aad b1)),(3,.func (.func 228) #[] #[Aad b1]),(12,.bool z)]) (fun⟨ay,az,a2,a3,a4,z,bc,bd,be⟩ wr=>FX w [.box b1 [No ay,No az,bc,bd,be] 64] wr fun Oz=>AJ .byte (gz H w wr Oz) bc a2/\AJ .st (gz H w wr Oz) bd a3/\AJ .tree (gz H w wr Oz) be a4/\Gu ay az a2 a3 a4 z=some r) ?_ ?_
  ·have k:=ba.rG H;refine Au<|Ai (Ae Z Ajy Z Nq.e)<|Ai (Ag 0 Z ba Z)<|Ai (Bm (bb.mono k))<|Ar 2 Z<|CI 36 h ?_ ?_<;>intro q h
   ·refine Ab q<|Ai (Am Z)<|Ab q<|B9 [4] (r:=(.int .i64)) (fun _=>Jn _ _) ba (.c1 Z .nil) fun f1 f2 fi d2 df d3=>Ab q<|Aw h fun bk d4 h=>?_;have k:=k.trans (Aa df);refine Fl Z Z (Ea hH [] ([4]) (Pv.mk ar au av aw ax) d2 d3 (bu.mono k) (bb.mono k) (bv.mono k) d4) ?_;rintro _ f3 ⟨dg,dh,di,rfl,d5,fa,c4,c5,c6⟩;refine Ab q<|Ai (Am Z)<|Ai (AK q Z)<|Ar 1 Z<|AL<|AA (bk.2.f.1,bk.2.f.2.1,bk.2.f.2.2.1,bk.2.f.2.2.2.1,bk.2.f.2.2.2.2,!bk.1,dg,dh,di) ⟨d5,c4,c5,c6,h⟩
   iterate 4 refine Ao q ?_
   refine Ai (AO q Z)<|Ar 1 Z<|AL<|AA (ar,au,av,aw,ax,false,ah,ai,aj) ⟨ba,(bu.mono k),(bb.mono k),(bv.mono k),h⟩
  rintro⟨ay,az,a2,a3,a4,z,bc,bd,be⟩ fj ⟨bf,bw,bx,bg,h⟩;refine B8 h ?_ ?_<;>intro d6 h
  ·refine Ax<|AA (ay,az,a2,a3,a4,z,bc,bd,be) ⟨bf,bw,bx,bg,h⟩
  have a:=bf.rG H;refine Aj<|Ai (Ae Z Ajy Z YV.e)<|Ai (Ag 0 Z bf Z)<|Ai (Bm (bg.mono a))<|Ar 2 Z<|CI 46 h ?_ ?_<;>intro s h
  ·refine Ab s<|Ai (Am Z)<|Ab s<|B9 [3,4] (r:=(.int .i64)) (fun _=>Ab1 _ _ _) (hlen:=(BI 2)) bf (.c1 Z (.c1 Z .nil)) fun f4 f5 fk d7 dj d8=>Ab s<|Aw h fun a5 d9 h=>?_;have a:=a.trans (Aa dj);refine Fl Z Z (Ea hH [] ([3,4]) (Pv.mk ay az a2 a3 a4) d7 d8 (bw.mono a) (bx.mono a) (bg.mono a) d9) ?_;rintro _ f6 ⟨dk,dl,dm,rfl,cc,fb,b5,b6,b7⟩;refine Ab s<|Ai (Am Z)<|Ai (AK s Z)<|A8 1 Z<|B8 h ?_ ?_<;>intro ea h
   ·refine Ax<|AA (a5.2.f.1,a5.2.f.2.1,a5.2.f.2.2.1,a5.2.f.2.2.2.1,a5.2.f.2.2.2.2,!a5.1,dk,dl,dm) ⟨cc,b5,b6,b7,h⟩
   have bh:=cc.rG H;refine Au<|Ar 1 Z<|B9 [4] (r:=(.int .i64)) (fun _=>Jn _ _) cc (.c1 Z .nil) fun f7 f8 fl eb dn ec=>Aw h fun g ed h=>?_;have bh:=bh.trans (Aa dn);refine Fl Z Z (Ea hH [] ([4]) a5.2 eb ec (b5.mono bh) (b6.mono bh) (b7.mono bh) ed) ?_;rintro _ f9 ⟨cg,ch,ci,rfl,bq,fc,b8,bl,bm⟩;refine Ar 1 Z<|Fs 55 h ?_ ?_<;>intro b h
   ·refine Ab b<|Ai (Ae Z Ajy Z Nq.e)<|Ab b<|Ai (Ag 0 Z bq Z)<|Ab b<|Ai (Bm bl)<|Ab b<|Ai (Ae Z Ajy Z YV.e)<|Ab b<|Ai (Ag 0 Z bq Z)<|Ab b<|Ai (Bm bm)<|Ab b<|Ai (Am Z)<|Ai (AK b Z)<|Ar 1 Z<|AL<|AA (g.2.f.1,g.2.f.2.1,g.2.f.2.2.1,g.2.f.2.2.2.1,g.2.f.2.2.2.2,!decide ((g.2.f.2.2.2.1.length:Int)=(g.2.f.2.2.2.2.length:Int)),cg,ch,ci) ⟨bq,b8,bl,bm,h⟩
   iterate 7 refine Ao b ?_
   refine Ai (AO b Z)<|Ar 1 Z<|AL<|AA (g.2.f.1,g.2.f.2.1,g.2.f.2.2.1,g.2.f.2.2.2.1,g.2.f.2.2.2.2,false,cg,ch,ci) ⟨bq,b8,bl,bm,h⟩
  iterate 4 refine Ao s ?_
  refine Ai (AO s Z)<|A8 1 Z<|G5<|Au<|Ar 1 Z<|B9 [4] (r:=(.int .i64)) (fun _=>Jn _ _) bf (.c1 Z .nil) fun ga gb fm ee dp ef=>Aw h fun i eg h=>?_;have a:=a.trans (Aa dp);refine Fl Z Z (Ea hH [] ([4]) (Pv.mk ay az a2 a3 a4) ee ef (bw.mono a) (bx.mono a) (bg.mono a) eg) ?_;rintro _ gc ⟨cj,ck,cl,rfl,br,fd,b9,bn,bo⟩;refine Ar 1 Z<|Fs 55 h ?_ ?_<;>intro c h
  ·refine Ab c<|Ai (Ae Z Ajy Z Nq.e)<|Ab c<|Ai (Ag 0 Z br Z)<|Ab c<|Ai (Bm bn)<|Ab c<|Ai (Ae Z Ajy Z YV.e)<|Ab c<|Ai (Ag 0 Z br Z)<|Ab c<|Ai (Bm bo)<|Ab c<|Ai (Am Z)<|Ai (AK c Z)<|Ar 1 Z<|AL<|AA (i.2.f.1,i.2.f.2.1,i.2.f.2.2.1,i.2.f.2.2.2.1,i.2.f.2.2.2.2,!decide ((i.2.f.2.2.2.1.length:Int)=(i.2.f.2.2.2.2.length:Int)),cj,ck,cl) ⟨br,b9,bn,bo,h⟩
  iterate 7 refine Ao c ?_
  refine Ai (AO c Z)<|Ar 1 Z<|AL<|AA (i.2.f.1,i.2.f.2.1,i.2.f.2.2.1,i.2.f.2.2.2.1,i.2.f.2.2.2.2,false,cj,ck,cl) ⟨br,b9,bn,bo,h⟩
 rintro⟨b0,b2,b3,bp,b4,a7,ab,aa,ac⟩ gd ⟨ad,eh,cd,ct,h⟩;refine B8 h ?_ ?_<;>intro ei h
 ·have fn:=ad.rG H;refine AI 1 Z<|Ay<|Av<|Aq ?_
  cases h
  refine Al Z ⟨ad.ext,Z⟩
 have u:=ad.rG H;refine Aj<|Ai (Ae Z Ajy Z YV.e)<|Ai (Ag 0 Z ad Z)<|Ai (Bm (ct.mono u))<|A8 2 Z<|AQ h ?_ ?_<;>intro ej h
 ·refine AI 1 Z<|Ay<|Av<|Aq ?_
  cases h
  refine Al Z ⟨ad.ext,Z⟩
 refine Aj<|Ai (Ae Z Ajy Z Nq.e)<|Ai (Ag 0 Z ad Z)<|Aw h fun ge ek h=>AD ad (Rx _ _ (An ad) (cd.mono u) ek) fun gf fo ce dq=>A8 1 Z<|B8 h ?_ ?_<;>intro el h
 ·refine AI 1 Z<|Ay<|Av<|Aq ?_
  cases h
  refine Al Z ⟨ce.ext,Z⟩
 refine Ax<|A3<|As<|B2 Unit (fun(_:Unit)=>[]) (fun(_:Unit) wr=>FX w [.box b1 [No b0,No b2,ab,aa,ac] 64] wr fun Oz=>AJ .byte (gz H w wr Oz) ab b3/\AJ .st (gz H w wr Oz) aa bp/\AJ .tree (gz H w wr Oz) ac b4/\HS=some r) ?_ ?_
 ·refine Aj<|Ai (Ae Z Ajy Z Nq.e)<|Ai (Ag 0 Z ce Z) ?_;have u:=u.trans (Aa dq);refine Ai (Bm (cd.mono u))<|A8 1 Z<|A4 ?_;obtain⟨cp,h⟩:=Ba h;refine B7 (Int×Nat) (fun⟨d,n⟩=>[(1,(Aad b1)),(74,aa),(75,No (bp.length:Int)),(76,No d)]) (fun⟨d,n⟩ wr=>FX w [.box b1 [No b0,No b2,ab,aa,ac] 64] wr fun Oz=>AJ .st (gz H w wr Oz) aa bp/\AJ .byte (gz H w wr Oz) ab b3/\AJ .tree (gz H w wr Oz) ac b4/\Ia (DE bp) n d=some r) (fun⟨d,n⟩=>n) (0,cp) Z ⟨ce,(cd.mono u),(eh.mono u),(ct.mono u),h⟩ ?_;rintro⟨d,nn258⟩ fp ⟨ak,al,ca,cb,h⟩;obtain⟨cp,gg,rfl,h,cf⟩:=AZ h;have e:=ak.rG H;refine AI 1 Z<|AB<|AQ h ?_ ?_<;>intro em h
  ·refine Ax<|As<|AB<|A4<|Bx 1 Z<|A2 h fun cu h=>Bi (al.mono e) d.toNat (GX cu) (AX cu) ?_;rintro gh _ rfl en;refine Ai (Bl en (An ak))<|A8 2 Z<|Aj<|Ai (Ae Z Ajy Z Nq.e)<|Ai (Ag 0 Z ak Z)<|Ar 1 Z<|A2 h fun eo h=>Vb (al.mono e) eo fun gi ep=>Ar 1 Z<|Aw h fun gj eq h=>AD ak (LU _ _ (An ak) ep eq) fun gk fq cv dr=>Ad<|B8 h ?_ ?_<;>intro er h
   ·refine AI 1 Z<|Ay<|Av<|Aq<|BJ ?_;have h:=Cf.out h cf;refine Av<|Bs ?_
    cases h
    refine Al Z ⟨cv.ext,Z⟩
   refine Ax<|A3<|As<|Au<|A2 h fun es h=>Ai (A7 es)<|Ar 1 Z<|AL ?_;have h:=Cf.again h cf;have e:=e.trans (Aa dr);refine AM (_,_) Z ⟨cv,(al.mono e),(ca.mono e),(cb.mono e),h⟩
  refine B4<|AF<|A5 ?_;have h:=Cf.out h cf;refine Bg<|AA () ⟨ak,(ca.mono e),(al.mono e),(cb.mono e),h⟩
 rintro _ fr ⟨et,e0,e1,e2,h⟩;refine AI 1 Z<|Ay ?_
 cases h
 refine Al Z ⟨et.ext,Z⟩
end
def Hl(a:Int):Option Aki:=
 some (a,(0,0))
def CK(a0:Pv)(a2:Int)(self:Pv->Int->Int->Option Aki):Int×Int->Option ((Int×Int) ⊕ Aki):=fun⟨c,a⟩=>
 if a<(a0.f.2.2.2.2.length:Int) then AN (0<=a/\a<(a0.f.2.2.2.2.length:Int)) (AN (Bz (a2+1)) (Qq4 (self (a0.f.2.2.2.2.getD a.toNat Qq2) c (a2+1)) (fun b=>if b.2.1=0/\b.2.2=0 then AN (Bz (a+1)) (some (Sum.inl (b.1,(a+1)))) else Qq7 Sum.inr (some (0,(b.2.1,b.2.2)))))) else Qq7 Sum.inr (Hl c)
def K7(a0:Pv)(a2:Int)(self:Pv->Int->Int->Option Aki)(s:Int×Int):Option Aki:=Go.L.run (CK a0 a2 self) s
def Eo(self:Pv->Int->Int->Option Aki)(a0:Pv)(a1 a2:Int):Option Aki:=
 if(600<=a1)\/(10<a2) then Qq4 (L7 (2:Int) a1) (fun b=>some (0,(b.1,b.2))) else Qq4 (Hg a0) (fun c=>if c=0 then AN (Bz (a1+1)) ((K7 a0 a2 self) ((a1+1),0)) else Qq4 (L7 c a1) (fun a=>some (0,(a.1,a.2))))
def KQ(self:Pv->Int->Int->Option Aki):Prop:=∀ (w:World) (H:PH) (hH:Le H (hp w)) {a0:Pv} {a1:Int} {a2:Int} {a:Value} {b:Value} {c:Value} (d:AJ .byte H a (a0.f.2.2.1)) (e:AJ .st H b (a0.f.2.2.2.1)) (g:AJ .tree H c (a0.f.2.2.2.2)) {r:Int×(Int×Int)} (h:self a0 a1 a2=some r),Ok prog 125 [.agg #[No a0.f.1,No a0.f.2.1,a,b,c],No a1,No a2] w (fun v w'=>Ext w w'/\v=.tuple #[No r.1,.agg #[No r.2.1,No r.2.2]])
def Fo:Nat->Pv->Int->Int->Option Aki
 | 0=>fun _ _ _=>none
 | n+1=>Eo (Fo n)
def Nh:Pv->Int->Int->Option Aki:=Fo 1000
theorem Ry(self:Pv->Int->Int->Option Aki)(hself:KQ self):KQ (Eo self):=by
 intro w H hH a0 a1 a2 l m d an ao o r h;unfold KQ at hself;refine A1 52 [(0,.agg #[No a0.f.1,No a0.f.2.1,l,m,d]),(1,No a1),(2,No a2)] func125 Z fun hL=>Aj<|CD (t:=64) Z Z hL fun w1 b1 a5 bl _=>Ar 1 Z<|A9 AE.e Z a5 fun w2 b2 k bm _=>Ad<|AB<|Bx 3 Z<|Y3 2 2 Z Z Z Z Z Z<|Ad<|AQ h ?_ ?_<;>intro a6 h
 ·refine Bx 1 Z<|Aw h fun x5 a7 h=>AD k (NV _ _ (An k) a7) fun w6 b4 a8 bn=>Ar 1 Z<|Af 0 Z a8 Z fun w7 am bo=>Ad<|Ay<|Aq ?_
  cases h
  refine Bo (.tmp Z) (.cell Z Ajx Z AE.e (AG (i:=0) am Z)) ⟨am.ext,Z⟩
 refine Ax<|As<|AB<|Aj<|Ai (Az 1 Z HP.e k Z)<|Aw h fun x9 a9 h=>AD k (RY (a0:=a0) _ _ (An k) (an.mono  Ah) (ao.mono  Ah) (o.mono  Ah) a9) fun b5 bp e bf=>A8 1 Z<|AI 2 Z<|CX h ?_ ?_<;>intro ap h
 ·refine Bx 2 Z<|Aw h fun b6 aq h=>AD e (NV _ _ (An e) aq) fun b7 bq ar bg=>Ar 1 Z<|Af 0 Z ar Z fun b8 y bh=>Ad<|Ay<|Aq ?_
  cases h
  refine Bo (.tmp Z) (.cell Z Ajx Z AE.e (AG (i:=0) y Z)) ⟨y.ext,Z⟩
 refine Ax<|As<|Bx 1 Z<|A2 h fun au h=>Ai (A7 au)<|A8 1 Z<|B2 Int (fun c=>[(7,(Aad b2)),(9,No c)]) (fun c wr=>Bb w [.box b2 [No 0,No 0] 28,.box b1 [No a0.f.1,No a0.f.2.1,l,m,d] 64] wr/\Hl c=some r) ?_ ?_
 ·refine Aj<|Ai (Ae Z Ajy Z YV.e)<|Ai (Ag 1 Z e Z)<|Ai (Bm o)<|A8 1 Z<|A4 ?_;obtain⟨z,h⟩:=Ba h;refine B7 (Int×Int×Nat) (fun⟨b,a,n⟩=>[(2,No a2),(7,(Aad b2)),(9,No b),(31,d),(32,No (a0.f.2.2.2.2.length:Int)),(33,No a)]) (fun⟨b,a,n⟩ wr=>Bb w [.box b2 [No 0,No 0] 28,.box b1 [No a0.f.1,No a0.f.2.1,l,m,d] 64] wr/\Ia (CK a0 a2 self) n (b,a)=some r) (fun⟨b,a,n⟩=>n) ((a1+1),0,z) Z ⟨e,h⟩ ?_;rintro⟨b,a,nn92⟩ br ⟨p,h⟩;obtain⟨z,b9,rfl,h,s⟩:=AZ h;refine AI 1 Z<|AB<|AQ h ?_ ?_<;>intro av h
  ·refine Ax<|As<|AB<|A4<|Aj<|A2 h fun aa h=>Bi o a.toNat (GX aa) (AX aa) ?_;rintro ca _ e96t0 aw;obtain⟨_,_,rfl,rfl,⟨_,_,rfl,rfl,⟨_,_,rfl,⟨e96v2,rfl,e96h2⟩,⟨_,_,rfl,⟨e96v3,rfl,e96h3⟩,⟨e96v4,rfl,e96h4⟩⟩⟩⟩⟩:=Go.E.Rp.OS e96t0;refine Ai (Cz aw (hH.trans p.arg))<|A9 HP.e Z p fun cb cc ax bi _=>Af 0 Z ax Z (a:=(Bk Z (Bk Z (Bk e96h2.one (Bk e96h3.one (Bk e96h4.one Kq)))))) fun cd ay bj=>Ad<|Aj<|A9 AE.e Z ay fun bs bt g ba _=>Ad<|Aj<|Ai (Az 1 Z HP.e g Z)<|Ar 2 Z<|A2 h fun ac h=>Ai (A7 ac)<|Aw h fun az ad h=>AD g (hself _ _ (An g) (e96h2.mono  Ah) (e96h3.mono  Ah) (e96h4.mono  Ah) ad) fun bu bk ae bb=>Ar 4 Z<|Af 0 Z ae Z fun bv j bc=>Ad<|Aj<|Ai (Az 0 Z AE.e j Z)<|Ai (AT (fun _=>BM _)) ?_
   refine Ai (JO Jh (Nc _ _ _ _))<|Ad<|CX h ?_ ?_<;>intro af h
   ·refine Ex (.q 0 (.q 1 (.tail 2))) mixed Qqb (fun bw ag=>?_);have u:=j.call ag;refine CB Z (Az 0 Z AE.e u Z) Z<|D4 1 Z<|BT (fun bx ah=>?_);have ai:=u.call ah;refine Af 2 Z ai Z fun bz v bd=>Ad<|Ay<|Av<|Aq<|BJ ?_;have h:=Cf.out h s;refine Av<|Bs ?_
    cases h
    refine Bo (.tmp Z) (.cell Z Ajx Z AE.e (AG (i:=2) v Z)) ⟨v.ext,Z⟩
   refine Ax<|A3<|As<|Au<|A2 h fun aj h=>Ai (A7 aj)<|Ar 1 Z<|AL ?_;have ak:=j.AS (i:=0) Z;have al:=ak.AS (i:=0) Z;have h:=Cf.again h s;refine AM (_,_,_) Z ⟨al,h⟩
  refine B4<|AF<|A5 ?_;have h:=Cf.out h s;refine Bg<|AA _ ⟨p,h⟩
 rintro c b0 ⟨a3,h⟩;refine Bx 1 Z<|Ai (AT (fun _=>BM _))<|Ar 1 Z<|Af 0 Z a3 Z fun b3 x be=>Ad<|Ay ?_
 cases h
 refine Bo (.tmp Z) (.cell Z Ajx Z AE.e (AG (i:=0) x Z)) ⟨x.ext,Z⟩
theorem Tx(n:Nat):KQ (Fo n):=by
 induction n with
 | zero=>unfold KQ;intros;rename_i h;cases h
 | succ n ih=>exact Ry (Fo n) ih
section
variable(w:World)(H:PH)(hH:Le H (hp w)) include hH
theorem Vy{a0:Pv}{a1 a2:Int}{a b c:Value}(d:AJ .byte H a (a0.f.2.2.1))(e:AJ .st H b (a0.f.2.2.2.1))(g:AJ .tree H c (a0.f.2.2.2.2)){r:Int×(Int×Int)}(h:Nh a0 a1 a2=some r):Ok prog 125 [.agg #[No a0.f.1,No a0.f.2.1,a,b,c],No a1,No a2] w (fun v w'=>Ext w w'/\v=.tuple #[No r.1,.agg #[No r.2.1,No r.2.2]]):=Tx 1000 w H hH d e g h
def JW(b:AaV)(a:Int):Option AaV:=
 AN (Go.E.HK 1 (b.length+([(Go.L.u8 a)]).length)) (some ((b++[(Go.L.u8 a)])))
def FZ:AaV×Int->Option ((AaV×Int) ⊕ (AaV)):=fun⟨b,a⟩=>
 if 128<=a then AN (Go.E.HK 1 (b.length+([((Go.L.u8 a) ||| (128:UInt8))]).length)) (some (Sum.inl ((b++[((Go.L.u8 a) ||| (128:UInt8))]),(a / 128)))) else Qq7 Sum.inr (JW b a)
def LV(s:AaV×Int):Option AaV:=Go.L.run FZ s
def Eb(a0:Int):Option AaV:=
 AN ((0<=(IntKind.u64.wrap ((IntKind.u64.wrap a0) * 2))/\(IntKind.u64.wrap ((IntKind.u64.wrap a0) * 2))<2 ^ 64)/\(0<=(IntKind.u64.wrap (a0 / 9223372036854775808))/\(IntKind.u64.wrap (a0 / 9223372036854775808))<2 ^ 64)) (LV (([]:AaV),(((IntKind.u64.wrap ((IntKind.u64.wrap a0) * 2)).toNat ^^^ (IntKind.u64.wrap (a0 / 9223372036854775808)).toNat:Nat):Int)))
theorem BW{a0:Int}{r:AaV}(h:Eb a0=some r):
  Qqv 177 [No a0] w (fun v w'=>∃ u0,v=u0/\Ck 5 .byte H w w' u0 r):=by
 refine A1 27 [(0,No a0)] func177 Z fun hL=>AI 1 Z<|Bx 1 Z<|Ai (Lm Z)<|Ai (AiK (c:=1) (m:=2) Z Z Qqc Z)<|Ar 1 Z<|Ai (UW (c:=63) (m:=9223372036854775808) Z Z Qqc)<|Ai (Lm Z)<|A2 h fun an h=>Ai (Aib Z an)<|A8 1 Z<|Bx 1 Z ?_;obtain⟨ao,av,ap⟩:=DI .byte H 5 hL;refine Ad<|B2 (AaV×Int×Value×(List Value)) (fun⟨o,d,p,j⟩=>[(3,.int .u64 d),(4,p)]) (fun⟨o,d,p,j⟩ wr=>FX w [.row p 5 1 (o).length j] wr fun Oz=>AH .byte (gz H w wr Oz) o j/\JW o d=some r) ?_ ?_
 ·refine A4 ?_;obtain⟨s,h⟩:=Ba h;refine B7 (AaV×Int×Value×(List Value)×Nat) (fun⟨f,a,g,e,n⟩=>[(3,.int .u64 a),(4,g)]) (fun⟨f,a,g,e,n⟩ wr=>FX w [.row g 5 1 (f).length e] wr fun Oz=>AH .byte (gz H w wr Oz) f e/\Ia FZ n (f,a)=some r) (fun⟨f,a,g,e,n⟩=>n) (([]:AaV),(((IntKind.u64.wrap ((IntKind.u64.wrap a0) * 2)).toNat ^^^ (IntKind.u64.wrap (a0 / 9223372036854775808)).toNat:Nat):Int),Aac,[],s) Z ⟨ao,ap,h⟩ ?_;rintro⟨f,a,g,e,nn33⟩ aw ⟨t,k,h⟩;obtain⟨s,a2,rfl,h,u⟩:=AZ h;refine AB<|AI 2 Z<|AQ h ?_ ?_<;>intro aa h
  ·refine Ax<|As<|AB<|A4<|Au<|Ar 2 Z<|Ai (Lm (NO _))<|Ai (Ads (b:=128) Z Z Z)<|B9 [((Go.L.u8 a) ||| (128:UInt8))] (r:=.byte) (fun _=>S1 _ _) t (.c1 Z .nil) fun a3 a4 ax ab y ac=>A2 h fun ad h=>?_;have k:=k.mono (Aa y);refine Bt (r:=.byte) 0 f [((Go.L.u8 a) ||| (128:UInt8))] Z Af7 ab Z k ac ad fun aq a5 ae af ar ag=>Ar 1 Z<|AL<|A3<|As<|Au<|Ar 1 Z<|Ai (UW (c:=7) (m:=128) Z Z Qqc)<|Ar 1 Z<|AL ?_;have h:=Cf.again h u;refine AM (_,_,_,_,_) Z ⟨af,ag,h⟩
  refine B4<|AF<|A5 ?_;have h:=Cf.out h u;refine Bg<|AA (_,_,_,_) ⟨t,k,h⟩
 rintro⟨o,d,p,j⟩ ay ⟨ah,q,h⟩;refine Bx 2 Z<|Ai (Lm (NO _))<|B9 [(Go.L.u8 d)] (r:=.byte) (fun _=>S1 _ _) ah (.c1 Z .nil) fun a6 a7 az ai z aj=>A2 h fun ak h=>?_;have q:=q.mono (Aa z);refine Bt (r:=.byte) 0 o [(Go.L.u8 d)] Z Af7 ai Z q aj ak fun a8 a9 a1 x au al=>A8 1 Z<|Ay ?_
 cases h
 refine Al Z ⟨x.ext,_,Z,(x.Iq hH (i:=0) Z al)⟩
def HT(a0:AaV):Option AaV:=
 Qq4 (Eb (a0.length:Int)) (fun a=>AN (Go.E.HK 1 (a.length+a0.length)) (some ((a++a0))))
theorem Fp{a0:AaV}{a:Value}(b:AJ .byte H a a0){r:AaV}(h:HT a0=some r):
  Qqv 178 [a] w (fun v w'=>∃ g,v=g/\Ck 5 .byte H w w' g r):=by
 refine A1 8 [(0,a)] func178 Z fun hL=>AI 1 Z<|Bx 1 Z<|Ai (Bm b)<|Aw h fun s j h=>Bf hL (BW _ _ (An hL) j) ?_;rintro t z ⟨_,rfl,c⟩ k d f;obtain⟨x,d,f,o⟩:=c.take hH hL k;refine Ar 1 Z<|A2 h fun p h=>Bt (r:=.byte) 0 s a0 Z Af7 d Z o (b.mono  Ah) p fun v3 w3 y e u q=>A8 1 Z<|Ay ?_
 cases h
 refine Al Z ⟨e.ext,_,Z,(e.Iq hH (i:=0) Z q)⟩
end
def Ec(a0:Pv)(a:Int)(self:Pv->Option AaV)(b:AaV):Option ((AaV×Int) ⊕ (AaV)):=
 Qq4 (self (a0.f.2.2.2.2.getD a.toNat Qq2)) (fun c=>AN (Go.E.HK 1 (b.length+c.length)) (AN (Bz (a+1)) (some (Sum.inl ((b++c),(a+1))))))
def GR(a:AaV):Option AaV:=
 some a
def Cd(a0:Pv)(self:Pv->Option AaV):AaV×Int->Option ((AaV×Int) ⊕ (AaV)):=fun⟨b,a⟩=>
 if a<(a0.f.2.2.2.2.length:Int) then AN (0<=a/\a<(a0.f.2.2.2.2.length:Int)) (if a0.f.1=4 then AN (0<=a/\a<(a0.f.2.2.2.1.length:Int)) (AN ((a0.f.2.2.2.1.getD a.toNat Qq2).length<=9223372036854775807) (Qq4 (HT (a0.f.2.2.2.1.getD a.toNat Qq2)) (fun c=>AN (Go.E.HK 1 (b.length+c.length)) ((Ec a0 a self) (b++c))))) else(Ec a0 a self) b) else Qq7 Sum.inr (GR b)
def JX(a0:Pv)(self:Pv->Option AaV)(s:AaV×Int):Option AaV:=Go.L.run (Cd a0 self) s
def Fv(self:Pv->Option AaV)(a0:Pv):Option AaV:=
 Qq4 (Eb a0.f.1) (fun a=>if a0.f.1=1 then Qq4 (Eb a0.f.2.1) (fun d=>AN (Go.E.HK 1 (a.length+d.length)) (some ((a++d)))) else(if a0.f.1=2 then Qq4 (HT a0.f.2.2.1) (fun b=>AN (Go.E.HK 1 (a.length+b.length)) (some ((a++b)))) else Qq4 (Eb (a0.f.2.2.2.2.length:Int)) (fun c=>AN (Go.E.HK 1 (a.length+c.length)) ((JX a0 self) ((a++c),0)))))
def JY(self:Pv->Option AaV):Prop:=∀ (w:World) (H:PH) (hH:Le H (hp w)) {a0:Pv} {a:Value} {b:Value} {c:Value} (e:AJ .byte H a (a0.f.2.2.1)) (g:AJ .st H b (a0.f.2.2.2.1)) (i:AJ .tree H c (a0.f.2.2.2.2)) {r:AaV} (h:self a0=some r),Ok prog 126 [.agg #[No a0.f.1,No a0.f.2.1,a,b,c]] w (fun v w'=>Ext w w'/\∃ d,v=d/\Ck 5 .byte H w w' d r)
def Fw:Nat->Pv->Option AaV
 | 0=>fun _=>none
 | n+1=>Fv (Fw n)
def LW:Pv->Option AaV:=Fw 1000
theorem QB(self:Pv->Option AaV)(hself:JY self):JY (Fv self):=by
 intro w H hH a0 ad ae s b9 ca an r h;unfold JY at hself;refine A1 57 [(0,.agg #[No a0.f.1,No a0.f.2.1,ad,ae,s])] func126 Z fun hL=>Aj<|CD (t:=64) Z Z hL fun w1 b1 ap da _=>A8 1 Z<|Aj<|Ai (Ae Z Ajy Z CR.e)<|Ai (Ag 0 Z ap Z)<|Aw h fun x2 ct h=>Bf ap (BW _ _ (An ap) ct) ?_;rintro db w3 ⟨_,rfl,bd⟩ cu d cb;obtain⟨dr,d,cb,k⟩:=bd.take hH ap cu;refine A8 1 Z<|AB<|Aj<|Ai (Ae Z Ajy Z CR.e)<|Ai (Ag 1 Z d Z)<|Ad<|A4<|AI 2 Z<|AQ h ?_ ?_<;>intro cv h
 ·refine Bx 1 Z<|Ai (Ae Z Ajy Z CR.e)<|Ai (Ag 1 Z d Z)<|Aw h fun x6 cw h=>Bf d (BW _ _ (An d) cw) ?_;rintro dd w7 ⟨_,rfl,be⟩ cx cy cc;have af:=be.Du hH d cx;have k:=k.mono (Aa cc);refine A2 h fun cz h=>Bt (r:=.byte) 0 x2 x6 Z Af7 cy Z k af cz ?_;intro v8 w8 ds b7 cd c0;have af:=af.mono (Aa cd);refine A8 1 Z<|Ay<|Av<|Aq ?_
  cases h
  refine Al Z ⟨b7.ext,_,Z,(b7.Iq hH (i:=0) Z c0)⟩
 refine AI 2 Z<|AQ h ?_ ?_<;>intro ce h
 ·refine Bx 1 Z<|Ai (Ae Z Ajy Z IF.e)<|Ai (Ag 1 Z d Z)<|Aw h fun c1 cf h=>Bf d (Fp _ _ (An d) (b9.mono  Ah) cf) ?_;rintro c5 dt ⟨_,rfl,ay⟩ cg ch bf;have aa:=ay.Du hH d cg;have k:=k.mono (Aa bf);refine A2 h fun ci h=>Bt (r:=.byte) 0 x2 c1 Z Af7 ch Z k aa ci ?_;intro du dv de az bg cj;have aa:=aa.mono (Aa bg);refine A8 1 Z<|Ay<|Av<|Aq ?_
  cases h
  refine Al Z ⟨az.ext,_,Z,(az.Iq hH (i:=0) Z cj)⟩
 refine Ax<|A3<|As<|Bx 1 Z<|Ai (Ae Z Ajy Z YV.e)<|Ai (Ag 1 Z d Z)<|Ai (Bm an)<|Aw h fun b8 ck h=>Bf d (BW _ _ (An d) ck) ?_;rintro c6 dw ⟨_,rfl,a1⟩ cl cm bh;have ab:=a1.Du hH d cl;have k:=k.mono (Aa bh);refine A2 h fun cn h=>Bt (r:=.byte) 0 x2 b8 Z Af7 cm Z k ab cn ?_;intro c2 dx co a2 bi cp;have ab:=ab.mono (Aa bi);refine A8 1 Z<|B2 (AaV×Value×(List Value)) (fun⟨ak,ag,x⟩=>[(3,ag)]) (fun⟨ak,ag,x⟩ wr=>FX w [.row ag 5 1 (ak).length x,.box b1 [No a0.f.1,No a0.f.2.1,ad,ae,s] 64] wr fun Oz=>AH .byte (gz H w wr Oz) ak x/\GR ak=some r) ?_ ?_
 ·refine Aj<|Ai (Ae Z Ajy Z YV.e)<|Ai (Ag 1 Z a2 Z)<|Ai (Bm an)<|A8 1 Z<|A4 ?_;obtain⟨ao,h⟩:=Ba h;refine B7 (AaV×Int×Value×(List Value)×Nat) (fun⟨e,a,g,c,n⟩=>[(1,(Aad b1)),(3,g),(32,s),(33,No (a0.f.2.2.2.2.length:Int)),(34,No a)]) (fun⟨e,a,g,c,n⟩ wr=>FX w [.row g 5 1 (e).length c,.box b1 [No a0.f.1,No a0.f.2.1,ad,ae,s] 64] wr fun Oz=>AH .byte (gz H w wr Oz) e c/\Ia (Cd a0 self) n (e,a)=some r) (fun⟨e,a,g,c,n⟩=>n) ((x2++b8),0,c2,co,ao) Z ⟨a2,cp,h⟩ ?_;rintro⟨e,a,g,c,nn108⟩ c7 ⟨ah,b,h⟩;obtain⟨ao,cq,rfl,h,aq⟩:=AZ h;refine AI 1 Z<|AB<|AQ h ?_ ?_<;>intro bj h
  ·refine Ax<|As<|AB<|A4<|Bx 1 Z<|A2 h fun ar h=>Bi an a.toNat (GX ar) (AX ar) ?_;rintro df _ e112t0 bk;obtain⟨_,_,rfl,rfl,⟨_,_,rfl,rfl,⟨_,_,rfl,⟨e112v2,rfl,e112h2⟩,⟨_,_,rfl,⟨e112v3,rfl,e112h3⟩,⟨e112v4,rfl,e112h4⟩⟩⟩⟩⟩:=Go.E.Rp.OS e112t0;refine Ai (Cz bk (hH.trans ah.arg))<|A9 HP.e Z ah ?_;intro dg a3 bl a4 _;have b:=b.mono (Aa a4);refine Ar 1 Z<|Af 0 Z bl Z (a:=(Bk Z (Bk Z (Bk e112h2.one (Bk e112h3.one (Bk e112h4.one Kq)))))) ?_;intro dh o a5;have b:=b.mono (Aa a5);refine Ad ?_
   refine B2 (AaV×Value×(List Value)) (fun⟨j,y,p⟩=>[(1,(Aad b1)),(3,y),(5,(Aad a3)),(32,s),(33,No (a0.f.2.2.2.2.length:Int)),(34,No a)]) (fun⟨j,y,p⟩ wr=>FX w [.box a3 [No ((a0.f.2.2.2.2.getD a.toNat Qq2).f.1),No ((a0.f.2.2.2.2.getD a.toNat Qq2).f.2.1),e112v2,e112v3,e112v4] 64,.row y 5 1 (j).length p,.box b1 [No a0.f.1,No a0.f.2.1,ad,ae,s] 64] wr fun Oz=>AH .byte (gz H w wr Oz) j p/\(Ec a0 a self) j=some cq) ?_ ?_
   ·refine Aj<|Ai (Ae Z Ajy Z CR.e)<|Ai (Ag 2 Z o Z)<|A8 1 Z<|AQ h ?_ ?_<;>intro bm h
    ·refine Au<|Ar 1 Z<|Ai (Ae Z Ajy Z Nq.e)<|Ai (Ag 2 Z o Z)<|Ar 1 Z<|A2 h fun au h=>Bi ca a.toNat (GX au) (AX au) ?_;rintro di _ rfl bn;refine Ai (Bl bn (hH.trans o.arg))<|A2 h fun bo h=>Ad0 (H:=H) o bo ?_;intro dj dk c8 ai a6 q;have b:=b.mono (Aa a6);refine Aw h fun a7 bp h=>Bf ai (Fp _ _ (An ai) q bp) ?_;rintro c3 dl ⟨_,rfl,av⟩ bq br al;have u:=av.Du hH ai bq;have b:=b.mono (Aa al);have q:=q.mono (Aa al);refine A2 h fun bs h=>Bt (r:=.byte) 1 e a7 Z Af7 br Z b u bs ?_;intro cr dm bt bu am bv;have q:=q.mono (Aa am);have u:=u.mono (Aa am);refine Ar 1 Z<|AL<|AA (_,_,_) ⟨bu,bv,h⟩
    refine Ax<|AA (_,_,_) ⟨o,b,h⟩
   rintro⟨j,y,p⟩ c9 ⟨z,ac,h⟩;refine Au<|Ar 1 Z<|Ai (Az 0 Z HP.e z Z)<|Aw h fun a8 bw h=>Bf z (hself _ _ (An z) (e112h2.mono  Ah) (e112h3.mono  Ah) (e112h4.mono  Ah) bw) ?_;rintro c4 dn ⟨_,rfl,aw⟩ bx bz a9;have v:=aw.Du hH z bx;have ac:=ac.mono (Aa a9);refine A2 h fun b0 h=>Bt (r:=.byte) 1 j a8 Z Af7 bz Z ac v b0 ?_;intro cs dp b2 b3 ba aj;have v:=v.mono (Aa ba);refine Ar 1 Z<|AL<|A3<|As<|Au<|A2 h fun b4 h=>Ai (A7 b4)<|Ar 1 Z<|AL ?_;have b5:=b3.AS (i:=0) Z;have aj:=aj.mono (Aa (Ak (i:=0) Z));have h:=Cf.again h aq;refine AM (_,_,_,_,_) Z ⟨b5,aj,h⟩
  refine B4<|AF<|A5 ?_;have h:=Cf.out h aq;refine Bg<|AA (_,_,_) ⟨ah,b,h⟩
 rintro⟨ak,ag,x⟩ dq ⟨bb,b6,h⟩;refine AI 2 Z<|Ay ?_
 cases h
 refine Al Z ⟨bb.ext,_,Z,(bb.Iq hH (i:=0) Z b6)⟩
theorem SB(n:Nat):JY (Fw n):=by
 induction n with
 | zero=>unfold JY;intros;rename_i h;cases h
 | succ n ih=>exact QB (Fw n) ih
section
variable(w:World)(H:PH)(hH:Le H (hp w)) include hH
theorem Uk{a0:Pv}{a b c:Value}(d:AJ .byte H a (a0.f.2.2.1))(e:AJ .st H b (a0.f.2.2.2.1))(g:AJ .tree H c (a0.f.2.2.2.2)){r:AaV}(h:LW a0=some r):Ok prog 126 [.agg #[No a0.f.1,No a0.f.2.1,a,b,c]] w (fun v w'=>Ext w w'/\∃ i,v=i/\Ck 5 .byte H w w' i r):=SB 1000 w H hH d e g h
def LX(a0:Pv):Option (AaV×(Int×Int)):=
 Qq4 (Nh a0 (0:Int) (1:Int)) (fun a=>if a.2.1=0/\a.2.2=0 then Qq4 (LW a0) (fun b=>if 4000<(b.length:Int) then Qq4 (L7 (14:Int) (-1:Int)) (fun c=>some ([],(c.1,c.2))) else some (b,(0,0))) else some ([],(a.2.1,a.2.2)))
theorem Ul{a0:Pv}{c d e:Value}(k:AJ .byte H c (a0.f.2.2.1))(l:AJ .st H d (a0.f.2.2.2.1))(m:AJ .tree H e (a0.f.2.2.2.2)){r:AaV×(Int×Int)}(h:LX a0=some r):
  Qqv 77 [.agg #[No a0.f.1,No a0.f.2.1,c,d,e]] w (fun v w'=>∃ u0,v=.tuple #[u0,.agg #[No r.2.1,No r.2.2]]/\Ck 5 .byte H w w' u0 (r.1)):=by
 refine A1 24 [(0,.agg #[No a0.f.1,No a0.f.2.1,c,d,e])] func77 Z fun hL=>Aj<|CD (t:=64) Z Z hL fun w1 b1 ai au _=>Ar 1 Z<|A9 AE.e Z ai fun w2 b2 o av _=>Ad<|AB<|Aj<|Ai (Az 1 Z HP.e o Z)<|Aw h fun x3 aj h=>AD o (Vy (a0:=a0) _ _ (An o) (k.mono  Ah) (l.mono  Ah) (m.mono  Ah) aj) fun w4 a2 ak aw=>Ar 3 Z<|A9 AE.e Z ak fun w5 b5 al ax _=>Ar 1 Z<|Af 0 Z al Z fun w6 b ay=>Ad<|Aj<|Ai (Az 0 Z AE.e b Z)<|Ai (AT (fun _=>BM _))<|Ai (JO Jh (Nc _ _ _ _))<|Ad<|CX h ?_ ?_<;>intro am h
 ·refine Ex (.q 0 (.q 1 (.tail 2))) mixed Qqb (fun w9 an=>?_);have p:=b.call an;refine CB Z (Az 0 Z AE.e p Z) Z<|D4 1 Z<|BT (fun a3 aa=>?_);have ab:=p.call aa;refine Af 1 Z ab Z fun a4 s ao=>Ad<|Ay<|Aq ?_
  cases h
  refine Bo (.tmp Z) (.cell Z Ajx Z AE.e (AG (i:=1) s Z)) ⟨s.ext,_,Z,Ck.nil⟩
 refine Ax<|As<|Aj<|Ai (Az 2 Z HP.e b Z)<|Aw h fun a5 ac h=>Bf b (Uk (a0:=a0) _ _ (An b) (k.mono  Ah) (l.mono  Ah) (m.mono  Ah) ac) ?_;rintro ap a6 ⟨_,rfl,u⟩ ad a y;obtain⟨az,a,y,g⟩:=u.take hH b ad;refine A8 1 Z<|AB<|Bx 1 Z<|Ai (Qw 0 Z a Z)<|A8 1 Z<|AQ h ?_ ?_<;>intro ae h
 ·refine Aj<|Aw h fun a7 af h=>AD a (NV _ _ (An a) af) fun a8 a1 ag aq=>Ar 1 Z<|Af 2 Z ag Z fun a9 x ar=>Ad<|Ay<|Aq ?_
  cases h
  refine Bo (.tmp Z) (.cell Z Ajx Z AE.e (AG (i:=2) x Z)) ⟨x.ext,_,Z,Ck.nil⟩
 refine Ax<|As<|Bx 1 Z<|Ai (AT (fun _=>BM _))<|Ar 1 Z<|Af 2 Z a Z fun ba j z=>Ad<|Ay ?_
 cases h
 refine Bo (.tmp Z) (.cell Z Ajx Z AE.e (AG (i:=2) j Z)) ?_;have g:=g.mono (Aa z);exact⟨j.ext,_,Z,(j.Iq hH (i:=0) Z g)⟩
def EI(a0:Pv):Option ((Int×Int)):=
 Qq4 (LX a0) (fun a=>some ((a.2.1,a.2.2)))
theorem Ot{a0:Pv}{a b c:Value}(j:AJ .byte H a (a0.f.2.2.1))(k:AJ .st H b (a0.f.2.2.2.1))(l:AJ .tree H c (a0.f.2.2.2.2)){r:(Int×Int)}(h:EI a0=some r):
  Qqv 46 [.agg #[No a0.f.1,No a0.f.2.1,a,b,c]] w (fun v w'=>v=.agg #[No r.1,No r.2]):=by
 refine A1 11 [(0,.agg #[No a0.f.1,No a0.f.2.1,a,b,c])] func46 Z fun hL=>Aj<|CD (t:=64) Z Z hL fun w1 b1 m u _=>A9 AE.e Z m fun w2 b2 d x _=>Ad<|Aj<|Ai (Az 1 Z HP.e d Z)<|Aw h fun x3 o h=>Bf d (Ul (a0:=a0) _ _ (An d) (j.mono  Ah) (k.mono  Ah) (l.mono  Ah) o) ?_;rintro _ w4 ⟨y,rfl,s⟩ ad p z;refine Ar 3 Z<|A9 AE.e Z p fun w5 b5 q aa _=>Ar 1 Z<|Af 0 Z q Z fun w6 e ab=>Ad<|Aj<|Ai (Az 0 Z AE.e e Z)<|Af 1 Z e Z fun w7 g ac=>Ad<|Ay ?_
 cases h
 refine Dz (.cell Z Ajx Z AE.e (AG (i:=1) g Z)) ⟨g.ext,Z⟩
end
end Go.Proofs.YtekmbcbgknmhiaaGreatDoor
end
noncomputable section
namespace Go
abbrev Akh:=AaV×Int×Int×AaV
end Go
namespace Go.Proofs.YtekmbcbgknmhiaaGreatDoor
open Go Go.E Go.RowKit Go.L
set_option maxHeartbeats 1000000
set_option maxRecDepth 10000
open _root_.Go.Proofs.Tryz
def DF{σ:Type}(a0:Pv)(a1:List AaV)(a:Int)(self:Pv->(List AaV)->σ->Option σ)(b:AaV)(sJ72:σ):Option ((Int×σ) ⊕ (σ)):=
 Qq4 (Cv a1) (fun c=>AN (Go.E.HK 16 (c.length+([b]).length)) (Qq4 (self (a0.f.2.2.2.2.getD a.toNat Qq2) (c++[b]) sJ72) (fun d=>AN (Bz (a+1)) (some (Sum.inl ((a+1),d))))))
def CL{σ:Type}(a0:Pv)(a1:List AaV)(self:Pv->(List AaV)->σ->Option σ):Int×σ->Option ((Int×σ) ⊕ (σ)):=fun⟨a,sJ55⟩=>
 if a<(a0.f.2.2.2.2.length:Int) then AN (0<=a/\a<(a0.f.2.2.2.2.length:Int)) (if a0.f.1=4 then AN (0<=a/\a<(a0.f.2.2.2.1.length:Int)) ((DF a0 a1 a self) (a0.f.2.2.2.1.getD a.toNat Qq2) sJ55) else(DF a0 a1 a self) ([35]:AaV) sJ55) else Qq7 Sum.inr (some sJ55)
def JD{σ:Type}(a0:Pv)(a1:List AaV)(self:Pv->(List AaV)->σ->Option σ)(s:Int×σ):Option (σ):=Go.L.run (CL a0 a1 self) s
def EW{σ:Type}(step:σ->Akh->Option σ)(self:Pv->(List AaV)->σ->Option σ)(a0:Pv)(a1:List AaV)(s:σ):Option (σ):=
 Qq4 (S5 a1 ([47]:AaV)) (fun b=>Qq4 (step s (b,a0.f.1,a0.f.2.1,a0.f.2.2.1)) (fun a=>(JD a0 a1 self) (0,a)))
def Ga{σ:Type}(step:σ->Akh->Option σ):Nat->Pv->(List AaV)->σ->Option σ
 | 0=>fun _ _ _=>none
 | n+1=>EW step (Ga step n)
def J9{σ:Type}(step:σ->Akh->Option σ):Pv->(List AaV)->σ->Option σ:=Ga step 1000
theorem QC{σ:Type}{d:World}{H:PH}(hH:Le H (hp d)){fc:FuncId}{cap:List Value}{J:σ->List BS->PH->Prop}{step:σ->Akh->Option σ}(hcb:Cb prog d H fc cap J step){self:Pv->(List AaV)->σ->Option σ}(hself:∀ {w:World} {O R:List BS} {s:σ} {a0:Pv} {a1:List AaV} {va0_2:Value} {va0_3:Value} {va0_4:Value} {va1:Value} (hL:Bb d (Ha O R) w) (ax:AJ .byte (gz H d w (Ha O R)) va0_2 (a0.f.2.2.1)) (bs:AJ .st (gz H d w (Ha O R)) va0_3 (a0.f.2.2.2.1)) (ay:AJ .tree (gz H d w (Ha O R)) va0_4 (a0.f.2.2.2.2)) (bw:AJ .st (gz H d w (Ha O R)) va1 a1) (hJ:J s R (gz H d w (Ha O R))) {r:σ} (h:self a0 a1 s=some r),Ok prog 82 [.agg #[No a0.f.1,No a0.f.2.1,va0_2,va0_3,va0_4],va1,.func (.func fc) #[] cap.toArray] w (fun v w'=>v=.tuple #[]/\∃ R':List BS,Bb d (Ha O R') w'/\Le (fz w (Ha O R)) (fz w' (Ha O R'))/\J r R' (gz H d w' (Ha O R')))){w:World}{O R:List BS}{s:σ}{a0:Pv}{a1:List AaV}{va0_2 va0_3 va0_4 va1:Value}(hL:Bb d (Ha O R) w)(ax:AJ .byte (gz H d w (Ha O R)) va0_2 (a0.f.2.2.1))(bs:AJ .st (gz H d w (Ha O R)) va0_3 (a0.f.2.2.2.1))(ay:AJ .tree (gz H d w (Ha O R)) va0_4 (a0.f.2.2.2.2))(bw:AJ .st (gz H d w (Ha O R)) va1 a1)(hJ:J s R (gz H d w (Ha O R))){r:σ}(h:EW step self a0 a1 s=some r):
  Ok prog 82 [.agg #[No a0.f.1,No a0.f.2.1,va0_2,va0_3,va0_4],va1,.func (.func fc) #[] cap.toArray] w (fun v w'=>v=.tuple #[]/\∃ R':List BS,Bb d (Ha O R') w'/\Le (fz w (Ha O R)) (fz w' (Ha O R'))/\J r R' (gz H d w' (Ha O R'))):=by
 refine Ds (n:=46) [(0,.agg #[No a0.f.1,No a0.f.2.1,va0_2,va0_3,va0_4]),(1,va1),(2,.func (.func fc) #[] cap.toArray)] func82 Z Z Z Z ?_;have hT:=Le.refl (fz w (Ha O R));have aa:=hL.rG H;refine Aj<|CD (t:=64) Z Z hL ?_;intro w2 y cd bg _;have hJ:=hcb.mono (Aa bg) hJ;refine Ad<|Ex (Qqz 0 11 (.tail 11)) mixed Qqb (fun w3 ce=>?_);have ap:=cd.call ce;have bh:=AR cd ce;have hJ:=hcb.mono (Aa bh) hJ;refine D4 2 Z<|Aw h fun x5 cw h=>?_;have aa:=aa.trans (Aa (bg.trans bh));refine JN Z Z Z (fun w6 cx=>XN _ _ (Le.refl _) (((bw.mono aa).mono (An ap)).mono cx.le) cw)<|CB Z (Ae Z Ajy Z CR.e) Z<|CB Z (Ag 0 Z ap Z) Z<|CB Z (Ae Z Ajy Z CR.e) Z<|CB Z (Ag 0 Z ap Z) Z<|CB Z (Ae Z Ajy Z IF.e) Z<|CB Z (Ag 0 Z ap Z) Z<|CB Z (UX (ax.mono aa) (An ap)) Z<|CB Z (AT (fun _=>Vv _ Z _ _ _ Z _)) Z<|BT (fun w7 cf=>?_);have cy:=ap.call cf;have bi:=AR ap cf
 have hJ:=hcb.mono (Aa bi) hJ;refine Aw h fun cg ch h=>Fl (cap:=cap) Z Z (hcb.ok (O:=(Ha [.box y [No a0.f.1,No a0.f.2.1,va0_2,va0_3,va0_4] 64] O)) (R:=R) (x:=(x5,a0.f.1,a0.f.2.1,a0.f.2.2.1)) cy hJ ch) ?_;rintro _ w9 ⟨rfl,R9,bt,az,cz⟩;replace bt:Bb d (Ha [.box y [No a0.f.1,No a0.f.2.1,va0_2,va0_3,va0_4] 64] (Ha O R9)) w9:=bt;replace az:Le (fz w7 (Ha [.box y [No a0.f.1,No a0.f.2.1,va0_2,va0_3,va0_4] 64] (Ha O R))) (fz w9 (Ha [.box y [No a0.f.1,No a0.f.2.1,va0_2,va0_3,va0_4] 64] (Ha O R9))):=az;replace hJ:J cg R9 (gz H d w9 (Ha [.box y [No a0.f.1,No a0.f.2.1,va0_2,va0_3,va0_4] 64] (Ha O R9))):=cz;refine Ad<|Aj<|Ai (Ae Z Ajy Z YV.e)<|Ai (Ag 0 Z bt Z) ?_;have aa:=aa.trans (Aa (bi.trans az));refine Ai (Bm (ay.mono aa))<|A8 1 Z<|A4 ?_;obtain⟨bu,h⟩:=Ba h;have hT:=hT.trans (bg.trans (bh.trans (bi.trans az)))
 refine B7 (Int×σ×(List BS)×Nat) (fun⟨a,sJ55,RJ55,n⟩=>[(1,va1),(2,.func (.func fc) #[] cap.toArray),(3,(Aad y)),(22,va0_4),(23,No (a0.f.2.2.2.2.length:Int)),(24,No a)]) (fun⟨a,sJ55,RJ55,n⟩ wr=>FX d (Ha [.box y [No a0.f.1,No a0.f.2.1,va0_2,va0_3,va0_4] 64] (Ha O RJ55)) wr fun Oz=>AJ .st (gz H d wr Oz) va1 a1/\AJ .tree (gz H d wr Oz) va0_4 (a0.f.2.2.2.2)/\AJ .byte (gz H d wr Oz) va0_2 (a0.f.2.2.1)/\AJ .st (gz H d wr Oz) va0_3 (a0.f.2.2.2.1)/\Le (fz w (Ha O R)) (fz wr Oz)/\J sJ55 RJ55 (gz H d wr Oz)/\Ia (CL a0 a1 self) n (a,sJ55)=some r) (fun⟨a,sJ55,RJ55,n⟩=>n) (0,cg,R9,bu) Z ⟨bt,(bw.mono aa),(ay.mono aa),(ax.mono aa),(bs.mono aa),hT,hJ,h⟩ ?_;rintro⟨a,sJ55,RJ55,nn55⟩ c9 ⟨a2,a7,aq,a8,ar,hT,hJ,h⟩;obtain⟨bu,c0,rfl,h,bj⟩:=AZ h;have o:=a2.rG H;refine AI 1 Z<|AB<|AQ h ?_ ?_<;>intro cj h
 ·refine Ax<|As<|AB<|A4<|Bx 1 Z<|A2 h fun bx h=>Bi (aq.mono o) a.toNat (GX bx) (AX bx) ?_;rintro di _ e60t0 ck;obtain⟨_,_,rfl,rfl,⟨_,_,rfl,rfl,⟨_,_,rfl,⟨e60v2,rfl,e60h2⟩,⟨_,_,rfl,⟨e60v3,rfl,e60h3⟩,⟨e60v4,rfl,e60h4⟩⟩⟩⟩⟩:=Go.E.Rp.OS e60t0;refine Ai (Cz ck (An a2))<|A9 HP.e Z a2 ?_;intro dj p cl e _;have hJ:=hcb.mono (Aa e) hJ;refine Ar 1 Z<|Af 0 Z cl Z (a:=(Bk Z (Bk Z (Bk e60h2.one (Bk e60h3.one (Bk e60h4.one Kq)))))) ?_;intro dk aj g;have hJ:=hcb.mono (Aa g) hJ;refine Ad ?_;have k:=aj.rG H;refine AI 1 Z ?_
  refine B2 (AaV×σ×(List BS)) (fun⟨u,sJ72,RJ72⟩=>[(1,va1),(2,.func (.func fc) #[] cap.toArray),(3,(Aad y)),(7,(Aad p)),(8,(AaM u)),(22,va0_4),(23,No (a0.f.2.2.2.2.length:Int)),(24,No a)]) (fun⟨u,sJ72,RJ72⟩ wr=>FX d (Ha [.box p [No ((a0.f.2.2.2.2.getD a.toNat Qq2).f.1),No ((a0.f.2.2.2.2.getD a.toNat Qq2).f.2.1),e60v2,e60v3,e60v4] 64,.box y [No a0.f.1,No a0.f.2.1,va0_2,va0_3,va0_4] 64] (Ha O RJ72)) wr fun Oz=>AJ .st (gz H d wr Oz) va1 a1/\AJ .tree (gz H d wr Oz) va0_4 (a0.f.2.2.2.2)/\AJ .byte (gz H d wr Oz) e60v2 ((a0.f.2.2.2.2.getD a.toNat Qq2).f.2.2.1)/\AJ .st (gz H d wr Oz) e60v3 ((a0.f.2.2.2.2.getD a.toNat Qq2).f.2.2.2.1)/\AJ .tree (gz H d wr Oz) e60v4 ((a0.f.2.2.2.2.getD a.toNat Qq2).f.2.2.2.2)/\AJ .byte (gz H d wr Oz) va0_2 (a0.f.2.2.1)/\AJ .st (gz H d wr Oz) va0_3 (a0.f.2.2.2.1)/\Le (fz w (Ha O R)) (fz wr Oz)/\J sJ72 RJ72 (gz H d wr Oz)/\(DF a0 a1 a self) u sJ72=some c0) ?_ ?_
  ·refine Aj<|Ai (Ae Z Ajy Z CR.e)<|Ai (Ag 1 Z aj Z)<|A8 1 Z<|AQ h ?_ ?_<;>intro cm h
   ·refine Au<|Ai (Ae Z Ajy Z Nq.e)<|Ai (Ag 1 Z aj Z)<|Ar 1 Z<|A2 h fun bz h=>?_;have o:=o.trans (Aa (e.trans g));refine Bi ((ar.mono o).mono k) a.toNat (GX bz) (AX bz) ?_;rintro dl _ rfl cn;refine Ai (Bl cn (An aj))<|Ar 1 Z<|AL ?_;have e60h2:=e60h2.mono (Aa (e.trans g));have e60h3:=e60h3.mono (Aa (e.trans g));have e60h4:=e60h4.mono (Aa (e.trans g));have hT:=hT.trans (e.trans g);refine AA (_,_,_) ⟨aj,((a7.mono o).mono k),((aq.mono o).mono k),(e60h2.mono k),(e60h3.mono k),(e60h4.mono k),((a8.mono o).mono k),((ar.mono o).mono k),hT,hJ,h⟩
   refine Ax ?_;have e60h2:=e60h2.mono (Aa (e.trans g));have e60h3:=e60h3.mono (Aa (e.trans g));have e60h4:=e60h4.mono (Aa (e.trans g));have o:=o.trans (Aa (e.trans g));have hT:=hT.trans (e.trans g);refine AA (_,_,_) ⟨aj,((a7.mono o).mono k),((aq.mono o).mono k),(e60h2.mono k),(e60h3.mono k),(e60h4.mono k),((a8.mono o).mono k),((ar.mono o).mono k),hT,hJ,h⟩
  have hT:=hT.trans (e.trans g);rintro⟨u,sJ72,RJ72⟩ da ⟨bk,ae,a9,ba,bb,bc,bd,be,hT,hJ,h⟩;have c:=bk.rG H;refine J7 (Jz (Tl (Su (Jz MP)))) (fun z0 z=>Le (gz H d z0 (Ha [.box p [No ((a0.f.2.2.2.2.getD a.toNat Qq2).f.1),No ((a0.f.2.2.2.2.getD a.toNat Qq2).f.2.1),e60v2,e60v3,e60v4] 64,.box y [No a0.f.1,No a0.f.2.1,va0_2,va0_3,va0_4] 64] (Ha O RJ72))) (hp z)/\z.heap[p]? = some (.cells [No ((a0.f.2.2.2.2.getD a.toNat Qq2).f.1),No ((a0.f.2.2.2.2.getD a.toNat Qq2).f.2.1),e60v2,e60v3,e60v4].toArray 64 (0,0))/\z.heap[y]? = some (.cells [No a0.f.1,No a0.f.2.1,va0_2,va0_3,va0_4].toArray 64 (0,0))) mixed Z (fun a3 dm b0=>?_);have ab:=bk.call b0;have af:=AR bk b0;have hJ:=hcb.mono (Aa af) hJ;have b:=ab.rG H;refine MQ ⟨b.trans (An ab),ab.at (i:=0) Z,ab.at (i:=1) Z⟩ fun kI84=>A6 0 a3 kI84 Z (fun _ hI=>LM hI.2.1) Z<|A6 1 a3 kI84 Z (fun _ _=>Am Z) Z<|A6 3 a3 kI84 Z (fun _ _=>Am Z) Z<|A6 6 a3 kI84 Z (fun _ _=>Am Z) Z<|NI2 2 4 Z Z ?_ ?_
  ·refine Aw h fun b1 bl h=>?_;have c:=c.trans (Aa af);refine Bf ab (GP _ _ (An ab) ((ae.mono c).mono b) bl) ?_;rintro c4 dn ⟨_,rfl,b3⟩ co au am;obtain⟨dc,au,am,bm⟩:=b3.take hH ab co;have hJ:=hcb.mono (Aa am) hJ;have b:=b.trans (Aa am);refine AV ⟨b.trans (An au),au.at (i:=1) Z,au.at (i:=2) Z⟩ fun kI87=>FY 4 Z<|B9 [u] (r:=.st) (fun _=>S0 _ Z _) au (.c1 Z .nil) ?_;intro dp dq dd a4 an cp;have hJ:=hcb.mono (Aa an) hJ;have b:=b.trans (Aa an);refine AV ⟨b.trans (An a4),a4.at (i:=1) Z,a4.at (i:=2) Z⟩ fun kI89=>FY 5 Z<|A2 h fun bn h=>?_;have bm:=bm.mono (Aa an);refine Bt (r:=.st) 0 b1 [u] Z Adb a4 Z bm cp bn ?_;intro dr c2 de av a5 cq;have hJ:=hcb.mono (Aa a5) hJ;have b:=b.trans (Aa a5);refine AV ⟨b.trans (An av),av.at (i:=1) Z,av.at (i:=2) Z⟩ fun kI92=>FY 7 Z ?_;have cr:=av.Du hH (i:=0) Z cq
   have cs:=av.AS (i:=0) Z;have hJ:=hcb.mono (Aa (Ak (i:=0) Z)) hJ;refine Aw h fun bf bo h=>?_;have b:=b.trans (Aa (Ak (i:=0) Z));refine ES (hself (O:=(Ha [.box p [No ((a0.f.2.2.2.2.getD a.toNat Qq2).f.1),No ((a0.f.2.2.2.2.getD a.toNat Qq2).f.2.1),e60v2,e60v3,e60v4] 64,.box y [No a0.f.1,No a0.f.2.1,va0_2,va0_3,va0_4] 64] O)) (R:=RJ72) cs ((ba.mono c).mono b) ((bb.mono c).mono b) ((bc.mono c).mono b) cr hJ bo) ?_;rintro _ b4 ⟨rfl,R94,ak,ao,ct⟩;replace ak:Bb d (Ha [.box p [No ((a0.f.2.2.2.2.getD a.toNat Qq2).f.1),No ((a0.f.2.2.2.2.getD a.toNat Qq2).f.2.1),e60v2,e60v3,e60v4] 64,.box y [No a0.f.1,No a0.f.2.1,va0_2,va0_3,va0_4] 64] (Ha O R94)) b4:=ak;replace ao:Le (fz c2 (Ha [.box p [No ((a0.f.2.2.2.2.getD a.toNat Qq2).f.1),No ((a0.f.2.2.2.2.getD a.toNat Qq2).f.2.1),e60v2,e60v3,e60v4] 64,.box y [No a0.f.1,No a0.f.2.1,va0_2,va0_3,va0_4] 64] (Ha O RJ72))) (fz b4 (Ha [.box p [No ((a0.f.2.2.2.2.getD a.toNat Qq2).f.1),No ((a0.f.2.2.2.2.getD a.toNat Qq2).f.2.1),e60v2,e60v3,e60v4] 64,.box y [No a0.f.1,No a0.f.2.1,va0_2,va0_3,va0_4] 64] (Ha O R94))):=ao
   replace hJ:J bf R94 (gz H d b4 (Ha [.box p [No ((a0.f.2.2.2.2.getD a.toNat Qq2).f.1),No ((a0.f.2.2.2.2.getD a.toNat Qq2).f.2.1),e60v2,e60v3,e60v4] 64,.box y [No a0.f.1,No a0.f.2.1,va0_2,va0_3,va0_4] 64] (Ha O R94))):=ct;have b:=b.trans (Aa ao);refine AV ⟨b.trans (An ak),ak.at (i:=0) Z,ak.at (i:=1) Z⟩ fun kI96=>EF<|A3<|As<|Au<|A2 h fun bp h=>Ai (A7 bp)<|Ar 1 Z<|AL ?_;have cu:=ak.AS (i:=0) Z;have hJ:=hcb.mono (Aa (Ak (i:=0) Z)) hJ;have h:=Cf.again h bj;have hT:=hT.trans (af.trans (am.trans (an.trans (a5.trans ((Ak (i:=0) Z).trans (ao.trans (Ak (i:=0) Z)))))));have b:=b.trans (Aa (Ak (i:=0) Z));refine AM (_,_,_,_) Z ⟨cu,((ae.mono c).mono b),((a9.mono c).mono b),((bd.mono c).mono b),((be.mono c).mono b),hT,hJ,h⟩
  refine Aw h fun b1 bl h=>A2 h fun bn h=>Aw h fun bf bo h=>A2 h fun bp h=>B9 [u] (r:=.st) (fun _=>S0 _ Z _) ab (.c1 Z .nil) ?_;intro ds dt df al a6 bq;have hJ:=hcb.mono (Aa a6) hJ;have b:=b.trans (Aa a6);refine AV ⟨b.trans (An al),al.at (i:=0) Z,al.at (i:=1) Z⟩ fun kI100=>FY 2 Z ?_;have c:=c.trans (Aa af);refine Bf al (GP _ _ (An al) ((ae.mono c).mono b) bl) ?_;rintro c3 dg ⟨_,rfl,bv⟩ b5 ag ac;obtain⟨c5,ag,ac,b6⟩:=bv.take hH al b5;have hJ:=hcb.mono (Aa ac) hJ;have b:=b.trans (Aa ac);refine AV ⟨b.trans (An ag),ag.at (i:=1) Z,ag.at (i:=2) Z⟩ fun kI102=>FY 5 Z ?_;have bq:=bq.mono (Aa ac);refine Bt (r:=.st) 0 b1 [u] Z Adb ag Z b6 bq bn ?_;intro dh cv c6 ah aw b7;have hJ:=hcb.mono (Aa aw) hJ;have b:=b.trans (Aa aw);refine AV ⟨b.trans (An ah),ah.at (i:=1) Z,ah.at (i:=2) Z⟩ fun kI104=>?_
  refine FY 7 Z ?_;have b8:=ah.Du hH (i:=0) Z b7;have b9:=ah.AS (i:=0) Z;have hJ:=hcb.mono (Aa (Ak (i:=0) Z)) hJ;have b:=b.trans (Aa (Ak (i:=0) Z));refine ES (hself (O:=(Ha [.box p [No ((a0.f.2.2.2.2.getD a.toNat Qq2).f.1),No ((a0.f.2.2.2.2.getD a.toNat Qq2).f.2.1),e60v2,e60v3,e60v4] 64,.box y [No a0.f.1,No a0.f.2.1,va0_2,va0_3,va0_4] 64] O)) (R:=RJ72) b9 ((ba.mono c).mono b) ((bb.mono c).mono b) ((bc.mono c).mono b) b8 hJ bo) ?_;rintro _ br ⟨rfl,R106,ad,ai,ca⟩;replace ad:Bb d (Ha [.box p [No ((a0.f.2.2.2.2.getD a.toNat Qq2).f.1),No ((a0.f.2.2.2.2.getD a.toNat Qq2).f.2.1),e60v2,e60v3,e60v4] 64,.box y [No a0.f.1,No a0.f.2.1,va0_2,va0_3,va0_4] 64] (Ha O R106)) br:=ad
  replace ai:Le (fz cv (Ha [.box p [No ((a0.f.2.2.2.2.getD a.toNat Qq2).f.1),No ((a0.f.2.2.2.2.getD a.toNat Qq2).f.2.1),e60v2,e60v3,e60v4] 64,.box y [No a0.f.1,No a0.f.2.1,va0_2,va0_3,va0_4] 64] (Ha O RJ72))) (fz br (Ha [.box p [No ((a0.f.2.2.2.2.getD a.toNat Qq2).f.1),No ((a0.f.2.2.2.2.getD a.toNat Qq2).f.2.1),e60v2,e60v3,e60v4] 64,.box y [No a0.f.1,No a0.f.2.1,va0_2,va0_3,va0_4] 64] (Ha O R106))):=ai;replace hJ:J bf R106 (gz H d br (Ha [.box p [No ((a0.f.2.2.2.2.getD a.toNat Qq2).f.1),No ((a0.f.2.2.2.2.getD a.toNat Qq2).f.2.1),e60v2,e60v3,e60v4] 64,.box y [No a0.f.1,No a0.f.2.1,va0_2,va0_3,va0_4] 64] (Ha O R106))):=ca;have b:=b.trans (Aa ai);refine AV ⟨b.trans (An ad),ad.at (i:=0) Z,ad.at (i:=1) Z⟩ fun kI107=>EF<|A3<|As<|Au<|Ai (A7 bp)<|Ar 1 Z<|AL ?_;have cb:=ad.AS (i:=0) Z;have hJ:=hcb.mono (Aa (Ak (i:=0) Z)) hJ;have h:=Cf.again h bj;have hT:=hT.trans (af.trans (a6.trans (ac.trans (aw.trans ((Ak (i:=0) Z).trans (ai.trans (Ak (i:=0) Z)))))));have b:=b.trans (Aa (Ak (i:=0) Z))
  refine AM (_,_,_,_) Z ⟨cb,((ae.mono c).mono b),((a9.mono c).mono b),((bd.mono c).mono b),((be.mono c).mono b),hT,hJ,h⟩
 refine B4<|AF<|A5 ?_;have h:=Cf.out h bj;refine Bg ?_
 cases h
 refine LI ?_;have cc:=a2.AS (i:=0) Z;have hJ:=hcb.mono (Aa (Ak (i:=0) Z)) hJ;have hT:=hT.trans (Ak (i:=0) Z);exact⟨Z,RJ55,cc,hT,hJ⟩
theorem SC{σ:Type}{a:World}{H:PH}(hH:Le H (hp a)){fc:FuncId}{cap:List Value}{J:σ->List BS->PH->Prop}{step:σ->Akh->Option σ}(hcb:Cb prog a H fc cap J step)(n:Nat):∀ {w:World} {O R:List BS} {s:σ} {a0:Pv} {a1:List AaV} {va0_2:Value} {va0_3:Value} {va0_4:Value} {va1:Value} (hL:Bb a (Ha O R) w) (b:AJ .byte (gz H a w (Ha O R)) va0_2 (a0.f.2.2.1)) (c:AJ .st (gz H a w (Ha O R)) va0_3 (a0.f.2.2.2.1)) (d:AJ .tree (gz H a w (Ha O R)) va0_4 (a0.f.2.2.2.2)) (e:AJ .st (gz H a w (Ha O R)) va1 a1) (hJ:J s R (gz H a w (Ha O R))) {r:σ} (h:Ga step n a0 a1 s=some r),Ok prog 82 [.agg #[No a0.f.1,No a0.f.2.1,va0_2,va0_3,va0_4],va1,.func (.func fc) #[] cap.toArray] w (fun v w'=>v=.tuple #[]/\∃ R':List BS,Bb a (Ha O R') w'/\Le (fz w (Ha O R)) (fz w' (Ha O R'))/\J r R' (gz H a w' (Ha O R'))):=by
 induction n with
 | zero=>intros;rename_i h;cases h
 | succ n ih=>exact fun {_} {_} {_} {_} {_} {_} {_} {_} {_} {_} hL b c d e hJ {_} h=>QC hH hcb (self:=Ga step n) ih hL b c d e hJ h
theorem Um{σ:Type}{a:World}{H:PH}(hH:Le H (hp a)){fc:FuncId}{cap:List Value}{J:σ->List BS->PH->Prop}{step:σ->Akh->Option σ}(hcb:Cb prog a H fc cap J step){w:World}{O R:List BS}{s:σ}{a0:Pv}{a1:List AaV}{va0_2 va0_3 va0_4 va1:Value}(hL:Bb a (Ha O R) w)(b:AJ .byte (gz H a w (Ha O R)) va0_2 (a0.f.2.2.1))(c:AJ .st (gz H a w (Ha O R)) va0_3 (a0.f.2.2.2.1))(d:AJ .tree (gz H a w (Ha O R)) va0_4 (a0.f.2.2.2.2))(e:AJ .st (gz H a w (Ha O R)) va1 a1)(hJ:J s R (gz H a w (Ha O R))){r:σ}(h:J9 step a0 a1 s=some r):Ok prog 82 [.agg #[No a0.f.1,No a0.f.2.1,va0_2,va0_3,va0_4],va1,.func (.func fc) #[] cap.toArray] w (fun v w'=>v=.tuple #[]/\∃ R':List BS,Bb a (Ha O R') w'/\Le (fz w (Ha O R)) (fz w' (Ha O R'))/\J r R' (gz H a w' (Ha O R'))):=SC hH hcb 1000 hL b c d e hJ h
end Go.Proofs.YtekmbcbgknmhiaaGreatDoor
end
noncomputable section
namespace Go.E
open Go Go.RowKit Go.Sort Go.Proofs Go.Shelf
theorem Za[Dr]{w w':World}(hd:Dr.on=true)(h:Ext w w'):∃ q os,w'=grow (w.drewN q) os:=by
 refine⟨w'.drawn - w.drawn,w'.heap.extract w.heap.size w'.heap.size,?_⟩;have hd:=h.drawn hd
 have hh:w.heap++w'.heap.extract w.heap.size w'.heap.size=w'.heap:=by
  apply Array.ext_getElem?;intro k
  rcases Nat.lt_or_ge k w.heap.size with hk | hk
  ·rw [Qk9 hk,h.block k hk]
  ·rw [Array.getElem?_append_right hk,Array.getElem?_extract];have:=h.size
   split
   ·congr 1;omega
   ·rw [Array.getElem?_eq_none U]
 obtain⟨heap,tape,drawn,os,output⟩:=w;obtain⟨heap',tape',drawn',os',output'⟩:=w';have a:=h.os;have h2:=h.tape;have h3:=h.output;simp only at a h2 h3 hd hh;subst a;subst h2;subst h3;simp only [grow,World.drewN,World.mk.injEq,and_true,true_and];exact⟨hh.symm,by omega⟩
section
variable {α:Type} [Inhabited α]
theorem NW(enc:α->Value)(w:World)(g m:Nat)(d:Array α)(os:Array Obj)(k:Nat)(hk:k<w.heap.size):(sortWorld enc w g 0 m d os).heap[k]? = if k=g then(w.heap[k]?).map (onCells (putCells enc 0 d)) else w.heap[k]?:=by
 unfold sortWorld grow putRow mapBlock Sort.ahead;simp only;rw [Qk9 (by simpa using hk),Array.getElem?_modify]
 by_cases h:g=k
 ·subst h;simp
 ·rw [if_neg h,if_neg (fun e=>h e.symm)]
theorem PV(enc:α->Value)(w:World)(g m:Nat)(d:Array α)(os:Array Obj):w.grownBy (sortWorld enc w g 0 m d os) (some g):=
 ⟨Z,Z,Z,by simp [sortWorld,grow,putRow,mapBlock,Sort.ahead],fun k hk hne=>by rw [NW enc w g m d os k hk,if_neg (fun e=>hne (by rw [e]))]⟩
theorem Wy(enc:α->Value)(d:Array α)(c:Array Value)(h:d.size<=c.size):(putCells enc 0 d c).toList.take d.size=d.toList.map enc:=by
 apply Qkd;intro k;rw [Qk0]
 by_cases hk:k<d.size
 ·rw [if_pos hk];have hkc:k<c.size:=by omega
  simp [putCells,hk,hkc]
 ·rw [if_neg hk,Qxe (by simp;omega)]
theorem Ab4{enc:α->Value}{w:World}{e:TypeId}{g cap n sz m:Nat}{xs:List Value}{d:Array α}{os:Array Obj}(ho:w.ownsRow 0 e sz (.slice (some ⟨g,0,none⟩) n cap) n xs)(hl:d.size=xs.length):
  (sortWorld enc w g 0 m d os).ownsRow 0 e sz (.slice (some ⟨g,0,none⟩) n cap) n (d.toList.map enc):=by
 obtain⟨a,h2⟩:=ho;refine⟨by simp;omega,?_⟩
 rcases h2 with ⟨hc,_⟩ | ⟨g',cap',cur,hv,hb,hg,hnc,hcm,hcs,htake⟩
 ·cases hc
 ·cases hv
  have hgl:=lt_of_heap hg;have hle:n * sz<=cap * sz:=Qka _ hnc;refine .inr ⟨g,cap,putCells enc 0 d cur,Z,hb,?_,hnc,hcm,by simp [putCells,hcs],?_⟩
  ·rw [NW enc w g m _ os g hgl,if_pos Z,hg]
   rfl
  ·have:=Wy enc d cur U;rw [show n * sz=d.size by omega];exact this
theorem Rl(enc:α->Value){w:World}{e:TypeId}{g cap n sz:Nat}{xs:List Value}(d:Array α)(ho:w.ownsRow 0 e sz (.slice (some ⟨g,0,none⟩) n cap) n xs)(hd:d.toList.map enc=xs):Holds enc w g 0 d/\g<w.heap.size:=by
 obtain⟨b,h2⟩:=ho;have hsz:d.size=xs.length:=by rw [<- hd];simp
 rcases h2 with ⟨hc,_⟩ | ⟨g',cap',cur,hv,hb,hg,hnc,hcm,hcs,htake⟩
 ·cases hc
 ·cases hv
  have hle:n * sz<=cap * sz:=Qka _ hnc;refine⟨fun j hj=>?_,lt_of_heap hg⟩
  constructor
  ·have a:xs[j]? = some (enc d[j]!):=by rw [<- hd];simp [hj]
   have:cur.toList[j]? = some (enc d[j]!):=by
    rw [<- htake,Qk0,if_pos U] at a;exact a
   simp only [World.cell?,hg,Qzc]
   simpa using this
  ·simp [World.frozen?,hg]
end
theorem Agt{w:World}{e:TypeId}{g cap n q:Nat}{xs:List Value}(ho:w.ownsRow 0 e 1 (.slice (some ⟨g,0,none⟩) n cap) n xs)(hq:q<=n):w.ownsRow 0 e 1 (.slice (some ⟨g,0,none⟩) q cap) q (xs.take q):=by
 obtain⟨a,h2⟩:=ho
 rcases h2 with ⟨hc,_⟩ | ⟨g',cap',cur,hv,hb,hg,hnc,hcm,hcs,htake⟩
 ·cases hc
 ·cases hv
  refine⟨by rw [List.length_take,a];omega,.inr ⟨g,cap,cur,Z,hb,hg,by omega,hcm,hcs,?_⟩⟩;rw [<- htake,List.take_take,Qz4,Qz4,Nat.min_eq_left hq]
section
variable {P:Program} {n:Sz} {ops:Array Oper} {Q:Exit->Act->World->Prop} {L:Env} {w w0:World} {O:List BS} {rest:List Oper} {d:Nat} {ty:TypeId} {pos:String} {af:Array Edge} {v:Value} {e:TypeId} {H:PH} {α β:Type} [Inhabited β] {r:Rp α}
theorem Vz[Dr]{f i sz:Nat}{at_:Array TypeId}{args:List Operand}{l l':List α}{xs ys:List Value}{dd:Array β}{enc:β->Value}{fa:List Value}(hc:JM P f)(ha:Sk L args=some (v::fa))(hn:Qq9 d n.n=true)(hL:Bb w0 O w)(hi:ED O i=some (.row v e sz l.length xs))(hd:dd.toList.map enc=ys)(hl:l'.length=l.length)(hy:ys.length=xs.length)(hys:l.length=0->ys=xs)
  (hnil:v=.slice none 0 0->Calls P f (v::fa).toArray w fun e w'=>e=.returned (.tuple #[])/\w'=w)
  (hs:∀ g cap,v=.slice (some ⟨g,0,none⟩) l.length cap->l.length<=cap->Calls P f (v::fa).toArray w fun e w'=>e=.returned (.tuple #[])/\∃ m os,w'=sortWorld enc w g 0 m dd os)
  (h:∀ w',Bb w0 (DB O i (.row v e sz l'.length ys)) w'->Le (fz w O) (fz w' (DB O i (.row v e sz l'.length ys)))->S P n ops Q rest ((d,.tuple #[])::L) w') :
  S P n ops Q (⟨some d,.call ⟨.value (.func f),args.toArray,at_⟩,ty,pos,af,none⟩::rest) L w:=by
 have hown:w.ownsRow 0 e sz v l.length xs:=hL.at hi;rw [hl] at h
 rcases hown.2 with ⟨hv,c⟩ | ⟨j,cap,cur,hv,k,o,hnc,_⟩
 ·refine Sn Z fun a fr=>?_;unfold Oper.wp;rw [LH hc ha _ fr.TR];refine(hnil hv).mono fun en w' ⟨he,hw⟩=>?_;subst he;subst hw;have hyx:=hys c;subst hyx;exact h w' (hL.My hi (Qzx _) (World.grownBy.refl _ _) (hL.at hi) (fun b e=>.inl e)) (HF (r':=.row v e sz l.length ys) hL hi (World.grownBy.refl _ _) (fun b e=>.inl e)) _ (fr.put hn)
 ·refine Sn Z fun a fr=>?_;unfold Oper.wp;rw [LH hc ha _ fr.TR];refine(hs j cap hv hnc).mono fun en w' ⟨he,m,os,hw⟩=>?_;subst he;have hgr:=PV enc w j m dd os;rw [<- hw] at hgr
  have hok:(BS.row v e sz l.length ys).ok w':=by
   rw [hw,hv,<- hd];refine Ab4 (by rw [<- hv];exact hown) ?_;have:dd.toList.length=ys.length:=by rw [<- hd];simp
   simpa [hy] using this
  have hdr:w.drawn<=w'.drawn:=by rw [hw];exact Nat.le_add_right _ _
  have hgr':w.grownBy w' (BS.row v e sz l.length xs).block:=by rw [hv];exact hgr
  exact h w' (hL.My hi hdr hgr' hok (fun b e=>.inl e)) (HF (r':=.row v e sz l.length ys) hL hi hgr' (fun b e=>.inl e)) _ (fr.put hn)
theorem Acs[Dr]{f i:Nat}{at_:Array TypeId}{args:List Operand}{l:List α}{l':List β}{z:β}{xs:List Value}{enc:β->Value}(hc:JM P f)(ha:Sk L args=some [v])(hn:Qq9 d n.n=true)(hL:Bb w0 O w)(hi:ED O i=some (.row v e 1 l.length xs))(hle:l'.length<=l.length)
  (hnil:v=.slice none 0 0->Calls P f #[v] w fun e w'=>e=.returned v/\w'=w)
  (hs:∀ g cap,v=.slice (some ⟨g,0,none⟩) l.length cap->l.length<=cap->Calls P f #[v] w fun e w'=>e=.returned (.slice (some ⟨g,0,none⟩) l'.length cap)/\∃ q,w'=putRow enc (Sort.ahead w q) g 0 (l'++Qzz (l.length - l'.length) z).toArray)
  (h:∀ v' w',Bb w0 (DB O i (.row v' e 1 l'.length (l'.map enc))) w'->Le (fz w O) (fz w' (DB O i (.row v' e 1 l'.length (l'.map enc))))->S P n ops Q rest ((d,v')::L) w') :
  S P n ops Q (⟨some d,.call ⟨.value (.func f),args.toArray,at_⟩,ty,pos,af,none⟩::rest) L w:=by
 have hown:w.ownsRow 0 e 1 v l.length xs:=hL.at hi
 rcases hown.2 with ⟨hv,k⟩ | ⟨c,cap,cur,hv,t,u,hnc,_⟩
 ·have o:l'=[]:=Qz9 U;subst o;refine Sn Z fun a fr=>?_;unfold Oper.wp;rw [LH hc ha _ fr.TR];refine(hnil hv).mono fun en w' ⟨he,hw⟩=>?_;subst he;subst hw;have p:xs=[]:=Qz9 (by rw [hown.1,k])
  have hok:(BS.row v e 1 ([]:List β).length (([]:List β).map enc)).ok w':=by
   have:=hL.at hi;rw [k,p] at this;exact this
  exact h v w' (hL.My hi (Qzx _) (World.grownBy.refl _ _) hok (fun b e=>.inl e)) (HF (r':=.row v e 1 ([]:List β).length (([]:List β).map enc)) hL hi (World.grownBy.refl _ _) (fun b e=>.inl e)) _ (fr.put hn)
 ·refine Sn Z fun a fr=>?_;unfold Oper.wp;rw [LH hc ha _ fr.TR];refine(hs c cap hv hnc).mono fun en w' ⟨he,q,hw⟩=>?_;subst he;have j:w'=sortWorld enc w c 0 q (l'++Qzz (l.length - l'.length) z).toArray #[]:=by rw [hw];unfold sortWorld;rw [grow_empty]
  have hgr:=PV enc w c q (l'++Qzz (l.length - l'.length) z).toArray #[];rw [<- j] at hgr
  have hok:(BS.row (.slice (some ⟨c,0,none⟩) l'.length cap) e 1 l'.length (l'.map enc)).ok w':=by
   have s:w'.ownsRow 0 e 1 (.slice (some ⟨c,0,none⟩) l.length cap) l.length ((l'++Qzz (l.length - l'.length) z).map enc):=by
    have r:=Ab4 (enc:=enc) (m:=q) (d:=(l'++Qzz (l.length - l'.length) z).toArray) (os:=#[]) (by rw [<- hv];exact hown) (by have:=hown.1;simp;omega);rw [<- j] at r
    simpa using r
   have h2:=Agt s hle
   rwa [Qxf,List.take_left' Qqd] at h2
  have hdr:w.drawn<=w'.drawn:=by rw [j];exact Nat.le_add_right _ _
  have hgr':w.grownBy w' (BS.row v e 1 l.length xs).block:=by rw [hv];exact hgr
  have hb:∀ b,(BS.row (.slice (some ⟨c,0,none⟩) l'.length cap) e 1 l'.length (l'.map enc)).block=some b->(BS.row v e 1 l.length xs).block=some b:=fun b e=>by rw [hv];exact e
  exact h _ w' (hL.My hi hdr hgr' hok (fun b e=>.inl (hb b e))) (HF (r':=.row (.slice (some ⟨c,0,none⟩) l'.length cap) e 1 l'.length (l'.map enc)) hL hi hgr' (fun b e=>.inl (hb b e))) _ (fr.put hn)
end
theorem V0{H:PH}{l:List Int}{xs:List Value}(h:AH (.int .i64) H l xs):l.map (Value.int .i64)=xs:=by
 induction h with
 | nil=>rfl
 | cons h _ ih=>cases h;rw [Qzd,ih];rfl
theorem SD(H:PH):∀ l:List Int,AH (.int .i64) H l (l.map (Value.int .i64))
 | []=>.nil
 | _::l=>.cons (c:=[_]) Z (SD H l)
section
variable {P:Program} {n:Sz} {ops:Array Oper} {Q:Exit->Act->World->Prop} {L:Env} {w w0:World} {O:List BS} {rest:List Oper} {d:Nat} {ty:TypeId} {pos:String} {af:Array Edge} {v:Value} {e:TypeId} {H:PH} {ρr:Go.Shelf.Ren} {f i:Nat} {at_:Array TypeId} {args:List Operand} {xs:List Value}
def Aj8(l:List (List UInt8)):List (List UInt8):=l.mergeSort fun x y=>decide (x<=y)
def M9(l:List Int):List Int:=l.mergeSort fun x y=>decide (x<=y)
theorem U9[Dr]{l:List Int}(Ls:Lays.n189 P ρr)[hf:Qqq (ρr.f 189) f](hc:JM P f)(ha:Sk L args=some [v])[hn:Qqq (Qq9 d n.n) true](hH:Le H (hp w0))(hL:Bb w0 O w)(hi:ED O i=some (.row v e 1 l.length xs))(he:AH (.int .i64) (gz H w0 w O) l xs)(hlen:l.length<4611686018427387904)
  (h:∀ w' xs',Bb w0 (DB O i (.row v e 1 (M9 l).length xs')) w'->Le (fz w O) (fz w' (DB O i (.row v e 1 (M9 l).length xs')))->AH (.int .i64) (gz H w0 w' (DB O i (.row v e 1 (M9 l).length xs'))) (M9 l) xs'->S P n ops Q rest ((d,.tuple #[])::L) w') :
  S P n ops Q (⟨some d,.call ⟨.value (.func f),args.toArray,at_⟩,ty,pos,af,none⟩::rest) L w:=by
 have hf:=hf.e
 have hxs:=V0 he;have hll:(M9 l).length=l.length:=List.length_mergeSort _;subst hf;refine Vz (l':=M9 l) (enc:=Value.int .i64) (dd:=(M9 l).toArray) (ys:=(M9 l).map (Value.int .i64)) hc ha hn.e hL hi Qqd hll (by rw [<- hxs];simp [hll]) (fun a=>?_) (fun hv=>?_) (fun g cap hv hcap=>?_) (fun w' b h2=>h w' _ b h2 (SD _ _))
 ·have:l=[]:=Qz9 a;subst this;rw [<- hxs,show M9 []=[] from List.mergeSort_nil]
 ·subst hv;exact Any.slices_Sort_int_none Ls none 0 w
 ·have hown:w.ownsRow 0 e 1 v l.length xs:=hL.at hi;rw [hv] at hown;obtain⟨hH',hblk⟩:=Rl (Value.int .i64) l.toArray hown (by simpa using hxs);subst hv;exact Any.slices_Sort_int Ls g 0 cap l w hH' hblk hlen
theorem V1{α:Type}[Inhabited α][DecidableEq α](l:List α):(Lib.compact l).length<=l.length:=by
 unfold Lib.compact Lib.compactUpTo;rw [Qzk];exact Qz2 (List.length_filter_le _ _) Qqd
theorem UA[Dr]{l:List Int}(Ls:Lays2.n20 P ρr)[hf:Qqq (ρr.f 20) f](hc:JM P f)(ha:Sk L args=some [v])[hn:Qqq (Qq9 d n.n) true](hH:Le H (hp w0))(hL:Bb w0 O w)(hi:ED O i=some (.row v e 1 l.length xs))(he:AH (.int .i64) (gz H w0 w O) l xs)(hlen:l.length<=9223372036854775807)
  (h:∀ v' w' xs',Bb w0 (DB O i (.row v' e 1 (Lib.compact l).length xs')) w'->Le (fz w O) (fz w' (DB O i (.row v' e 1 (Lib.compact l).length xs')))->AH (.int .i64) (gz H w0 w' (DB O i (.row v' e 1 (Lib.compact l).length xs'))) (Lib.compact l) xs'->S P n ops Q rest ((d,v')::L) w') :
  S P n ops Q (⟨some d,.call ⟨.value (.func f),args.toArray,at_⟩,ty,pos,af,none⟩::rest) L w:=by
 have hf:=hf.e
 have hxs:=V0 he;subst hf;refine Acs (l':=Lib.compact l) (enc:=Value.int .i64) (z:=0) hc ha hn.e hL hi (V1 l) (fun hv=>?_) (fun g cap hv hcap=>?_) (fun v' w' a h2=>h v' w' _ a h2 (SD _ _))
 ·subst hv;exact Any.slices_Compact_int_empty Ls none 0 w
 ·have hown:w.ownsRow 0 e 1 v l.length xs:=hL.at hi;rw [hv] at hown;obtain⟨hH',hblk⟩:=Rl (Value.int .i64) l.toArray hown (by simpa using hxs);subst hv;exact Any.slices_Compact_int Ls g 0 cap l w hH' hlen hcap
end
end Go.E
end
noncomputable section
namespace Go.L
theorem SE{a b:UInt8}(c : ¬ a<b)(h2 : ¬ b<a):a=b:=UInt8.toNat.inj (by rw [QxQ] at c h2;omega)
theorem KR:∀ l m:List UInt8,Lib.compareBytes l m = - Lib.compareBytes m l
 | [],[]=>rfl
 | [],_::_=>rfl
 | _::_,[]=>rfl
 | a::l,b::m=>by
  have ih:=KR l m;unfold Lib.compareBytes
  by_cases c:a<b
  ·have h2 : ¬ b<a:=fun h=>by have:=QxQ.1 h;have:=QxQ.1 c;omega
   rw [if_pos c,if_neg h2,if_pos c]
  ·by_cases h2:b<a
   ·rw [if_neg c,if_pos h2,if_pos h2];rfl
   ·rw [if_neg c,if_neg h2,if_neg h2,if_neg c,ih]
theorem QD:∀ l m:List UInt8,Lib.compareBytes l m=0->l=m
 | [],[],_=>rfl
 | [],_::_,h=>by cases h
 | _::_,[],h=>by cases h
 | a::l,b::m,h=>by
  unfold Lib.compareBytes at h
  split at h
  ·cases h
  ·rename_i c
   split at h
   ·cases h
   ·rename_i h2;have e:a=b:=SE c h2;rw [e,QD l m h]
theorem V2:∀ l:List UInt8,Lib.compareBytes l l=0
 | []=>rfl
 | a::l=>by
  have h : ¬ a<a:=fun h=>by have:=QxQ.1 h;omega
  unfold Lib.compareBytes;rw [if_neg h,if_neg h,V2 l]
theorem NI:∀ l m k:List UInt8,Lib.compareBytes l m<0->Lib.compareBytes m k<0->Lib.compareBytes l k<0
 | [],[],_,h,_=>by simp [Lib.compareBytes] at h
 | [],_::_,[],_,h=>by simp [Lib.compareBytes] at h
 | [],_::_,_::_,_,_=>by simp [Lib.compareBytes]
 | _::_,[],_,h,_=>by simp [Lib.compareBytes] at h
 | _::_,_::_,[],_,h=>by simp [Lib.compareBytes] at h
 | a::l,b::m,c::k,d,h2=>by
  have ih:=NI l m k;unfold Lib.compareBytes at d h2 ⊢
  by_cases hab:a<b
  ·by_cases hbc:b<c
   ·rw [if_pos (QxQ.2 (by have:=QxQ.1 hab;have:=QxQ.1 hbc;omega))];decide
   ·rw [if_neg hbc] at h2
    by_cases hcb:c<b
    ·rw [if_pos hcb] at h2;omega
    ·have e:b=c:=SE hbc hcb;subst e;rw [if_pos hab];decide
  ·rw [if_neg hab] at d
   by_cases hba:b<a
   ·rw [if_pos hba] at d;omega
   ·rw [if_neg hba] at d;have e:a=b:=SE hab hba;subst e
    by_cases hac:a<c
    ·rw [if_pos hac];decide
    ·rw [if_neg hac] at h2 ⊢
     by_cases hca:c<a
     ·rw [if_pos hca] at h2;omega
     ·rw [if_neg hca] at h2 ⊢;exact ih d h2
structure Un {α:Type} (c:α->α->Int):Prop where
 swap:∀ x y,c x y = - c y x
 zero:∀ x y,c x y=0->x=y
 trans:∀ x y z,c x y<0->c y z<0->c x z<0
theorem AiW:Un Go.Lib.compareBytes:=⟨KR,QD,NI⟩
def Zb(a b:Int):Int:=if a<b then -1 else if b<a then 1 else 0
theorem AiX:Un Zb:=by
 constructor
 ·intro x y;unfold Zb;rcases Qke x y with h | h | h
  ·rw [if_pos h,if_neg U,if_pos h]
  ·subst h;rw [if_neg (Int.lt_irrefl _),if_neg (Int.lt_irrefl _)];rfl
  ·rw [if_neg U,if_pos h,if_pos h];rfl
 ·intro x y h;unfold Zb at h;split at h;cases h;split at h;cases h;omega
 ·intro x y z a h2;unfold Zb at *
  split at a
  ·split at h2
   ·rw [if_pos U];decide
   ·split at h2 <;> omega
  ·split at a <;> omega
def Zc{α β:Type}(c:α->α->Int)(d:β->β->Int)(x y:α×β):Int:=if c x.1 y.1=0 then d x.2 y.2 else c x.1 y.1
theorem Aaq{α β:Type}{c:α->α->Int}{d:β->β->Int}(hc:Un c)(hd:Un d):Un (Zc c d):=by
 constructor
 ·intro x y;unfold Zc;have:=hc.swap x.1 y.1
  by_cases h:c x.1 y.1=0
  ·rw [if_pos h,if_pos U];exact hd.swap _ _
  ·rw [if_neg h,if_neg U];exact this
 ·intro x y h;unfold Zc at h
  split at h
  ·rename_i a;exact Prod.ext (hc.zero _ _ a) (hd.zero _ _ h)
  ·rename_i a;exact absurd h a
 ·intro x y z a h2;unfold Zc at *
  by_cases e:c x.1 y.1=0
  ·rw [if_pos e] at a;have:=hc.zero _ _ e;rw [this]
   by_cases b:c y.1 z.1=0
   ·rw [if_pos b] at h2 ⊢;exact hd.trans _ _ _ a h2
   ·rw [if_neg b] at h2 ⊢;exact h2
  ·rw [if_neg e] at a
   by_cases b:c y.1 z.1=0
   ·have:=hc.zero _ _ b;rw [<- this,if_neg e];exact a
   ·rw [if_neg b] at h2;have:=hc.trans _ _ _ a h2;rw [if_neg U];exact this
theorem Un.swo{α:Type}{c:α->α->Int}(h:Un c):Go.Sort.SWO (Go.Proofs.ltOf c):=by
 have hs:=fun x=>h.swap x x
 constructor
 ·intro x;have:=hs x;simp only [Go.Proofs.ltOf,decide_eq_false_iff_not];omega
 ·intro x y z b h2;simp only [Go.Proofs.ltOf,decide_eq_true_eq] at *;exact h.trans _ _ _ b h2
 ·intro x y z b h2;simp only [Go.Proofs.ltOf,decide_eq_false_iff_not] at *;intro h3;have s1:=h.swap x y;have d:=h.swap y z
  rcases Qke (c y x) 0 with a | a | a
  ·have:=h.trans _ _ _ a h3;omega
  ·rw [h.zero _ _ a] at h2;omega
  ·omega
theorem Un.parts{α:Type}{c:α->α->Int}(h:Un c)(x y:α)(a:Go.Proofs.ltOf c x y=false)(h2:Go.Proofs.ltOf c y x=false):x=y:=by
 simp only [Go.Proofs.ltOf,decide_eq_false_iff_not] at a h2;have:=h.swap x y;exact h.zero _ _ U
abbrev Lf:Type:=List UInt8×Int×Int×List UInt8
def Ni:Lf->Lf->Int:=Zc Go.Lib.compareBytes (Zc Zb (Zc Zb Go.Lib.compareBytes))
theorem Ou:Un Ni:=Aaq AiW (Aaq AiX (Aaq AiX AiW))
def MA(l:List Lf):List Lf:=l.mergeSort fun x y=>!(Go.Proofs.ltOf Ni) y x
theorem QE(l:List Lf):(MA l).length=l.length:=List.length_mergeSort _
end Go.L
namespace Go.Proofs.YtekmbcbgknmhiaaGreatDoor
open Go Go.L Go.E
theorem Agu(a b:Int):J0 a b=some (Zb a b):=by
 unfold J0 cmp_isNaN_int Zb;simp only [Qq5,decide_true,Bool.not_true,Bool.false_eq_true,if_false]
 split
 ·rfl
 ·split <;> rfl
theorem Agv(a b:List UInt8):strings_Compare a b=some (Lib.compareBytes a b):=Z
theorem Aij(a b c d:Int):P5 [a,b,c,d]=some (if a=0 then(if b=0 then(if c=0 then d else c) else b) else a):=by
 unfold P5 RG
 have step:∀ (i:Nat) (x:Int),[a,b,c,d][i]? = some x->x=0->GJ [a,b,c,d] (i:Int)=some (.inl ((i+1:Nat):Int)):=fun i x hx e=>by
  have hi:i<4:=(QzD.1 hx).1;unfold GJ;rw [if_pos (by simp;omega),Ac (by simp;omega),if_pos (by rw [Qq8,Qzq,hx];exact e),Ac (by unfold Bz;omega)]
  rfl
 have stop:∀ (i:Nat) (x:Int),[a,b,c,d][i]? = some x->x≠0->Go.L.run (GJ [a,b,c,d]) (i:Int)=some x:=fun i x hx e=>by
  have hi:i<4:=(QzD.1 hx).1;refine AP ?_;unfold GJ;have hg:[a,b,c,d].getD (i:Int).toNat Qq2=x:=by rw [Qq8,Qzq,hx];rfl
  rw [if_pos (by simp;omega),Ac (by simp;omega),hg,if_neg e]
 have last:Go.L.run (GJ [a,b,c,d]) ((4:Nat):Int)=some 0:=by
  refine AP ?_;unfold GJ;rw [if_neg Qqd]
  rfl
 show Go.L.run _ ((0:Nat):Int)=_
 by_cases ha:a=0
 ·rw [if_pos ha,Be (step 0 a Z ha)]
  by_cases hb:b=0
  ·rw [if_pos hb,Be (step 1 b Z hb)]
   by_cases hc:c=0
   ·rw [if_pos hc,Be (step 2 c Z hc)]
    by_cases hd:d=0
    ·rw [Be (step 3 d Z hd)];rw [hd] at last ⊢;exact last
    ·exact stop 3 d Z hd
   ·rw [if_neg hc];exact stop 2 c Z hc
  ·rw [if_neg hb];exact stop 1 b Z hb
 ·rw [if_neg ha];exact stop 0 a Z ha
theorem Aar(x y:Lf):K6 x y=some (Ni x y):=by
 unfold K6 Ni Zc;simp only [Agv,Agu,Aij,Qq5]
end Go.Proofs.YtekmbcbgknmhiaaGreatDoor
end
noncomputable section
namespace Go.E
open Go Go.RowKit
theorem Zd{κ:Type}{enc:κ->Value}:∀ (l:List κ) (vs:List Value) (i:Nat),l.length=vs.length->(mE enc i l vs).map (·.born)=List.range' i l.length
 | [],[],_,_=>rfl
 | a::l,u::vs,i,h=>by
  simp only [mE,Qzd,Qzj,List.range'_succ];rw [Zd l vs (i+1) (by simpa using h)]
theorem Aeg{κ:Type}{enc:κ->Value}{l:List κ}{vs:List Value}(h:l.length=vs.length){x:MapEntry}(hx:x∈mE enc 0 l vs):∃ a,l[x.born]? = some a/\x=⟨enc a,vs.getD x.born Qq2,x.born⟩:=by
 obtain⟨j,hj⟩:=List.getElem?_of_mem hx;have hjl:j<l.length:=by have:=(QzD.1 hj).1;rwa [Ts l vs 0 h] at this
 have:=Tq (enc:=enc) l vs 0 j l[j] h (Qzw hjl);rw [hj,Qzc] at this;obtain rfl:=Option.some.inj this;exact⟨l[j],Qzw hjl,Z⟩
section
variable {P:Program} {n:Sz} {ops:Array Oper} {Q:Exit->Act->World->Prop} {L:Env} {w w0:World} {O:List BS} {rest:List Oper} {d:Nat} {ty t kt et:TypeId} {pos:String} {af:Array Edge} {x:Operand} {κ:Type} {enc:κ->Value} {keys:List κ} {vs:List Value} {m N:Nat}
theorem Aeh[Dr][hx:Qqq (ev L x) (some (.map (some m)))][ht:Qqq (P.underlying t) (some (.map kt et))](hm:w.heap[m]? = some (.map (mE enc 0 keys vs).toArray N))[hn:Qqq (Qq9 d n.n) true](hL:Bb w0 O w)
  (h:∀ w' b,Bb w0 (.obj b (.mapIter (some m) N ([]:List Nat).toArray N)::O) w'->Le (fz w O) (fz w' (.obj b (.mapIter (some m) N ([]:List Nat).toArray N)::O))->S P n ops Q rest ((d,.pointer (some ⟨b,0,none⟩))::L) w'):S P n ops Q (⟨some d,.range t x,ty,pos,af,none⟩::rest) L w:=by
 have hb:∀ b,(BS.obj w.heap.size (.mapIter (some m) N ([]:List Nat).toArray N)).block=some b->w.heap.size<=b:=fun b e=>by cases e;exact Qzx _
 refine EN (v:=.pointer (some ⟨w.heap.size,0,none⟩)) (w':=w.alloc (.mapIter (some m) N ([]:List Nat).toArray N)) hn.e (fun ρ hρ=>?_) (h _ _ (hL.new (Dy w _) (World.alloc_heap_new w _) hb) (RS hL (Dy w _) hb));have:=run_range_map (P:=P) w t kt et m _ N ht.e hm;simp [execOp,hρ x _ hx.e,this]
theorem Agw[Dr](i:Nat){b:Nat}{seen:List Nat}(hx:ev L x=some (.pointer (some ⟨b,0,none⟩)))[hn:Qqq (Qq9 d n.n) true](hL:Bb w0 O w)(hi:ED O i=some (.obj b (.mapIter (some m) N seen.toArray N)))(hm:w.heap[m]? = some (.map (mE enc 0 keys vs).toArray N))(hk:keys.length=vs.length)(hN:keys.length=N)
  (r:∀ j a,keys[j]? = some a->j∉seen->∀ w',Bb w0 (DB O i (.obj b (.mapIter (some m) N (seen++[j]).toArray N))) w'->Le (fz w O) (fz w' (DB O i (.obj b (.mapIter (some m) N (seen++[j]).toArray N))))->w'.heap[m]? = some (.map (mE enc 0 keys vs).toArray N)->S P n ops Q rest ((d,.tuple #[.bool true,enc a,vs.getD j Qq2])::L) w')
  (h2:(∀ j,j<N->j∈seen)->S P n ops Q rest ((d,.tuple #[.bool false])::L) w):S P n ops Q (⟨some d,.next x false,ty,pos,af,none⟩::rest) L w:=by
 have hb:w.heap[b]? = some (.mapIter (some m) N seen.toArray N):=hL.at hi
 have hold:∀ x∈(mE enc 0 keys vs).toArray.toList,x.born<N:=fun x hx=>by
  obtain⟨a,ha,_⟩:=Aeg hk (by simpa using hx);have:=(QzD.1 ha).1;omega
 rcases run_next_at (P:=P) w ty b m N N seen.toArray _ N hb hm hold (Qzx _) with ⟨s,hr⟩ | ⟨e,he,c,k,hr⟩
 ·refine EN (v:=.tuple #[.bool false]) (w':=w) hn.e (fun ρ hρ=>by simp [execOp,hρ x _ hx,hr]) (h2 fun j hj=>?_);have hjk:j<keys.length:=by omega
  have hg:=Tq (enc:=enc) keys vs 0 j keys[j] hk (Qzw hjk);rw [Qzc] at hg;have hemp:leftOf (mE enc 0 keys vs).toArray seen.toArray = #[]:=Array.eq_empty_of_size_eq_zero s;unfold leftOf at hemp;rw [Array.filter_eq_empty_iff] at hemp;have:=hemp _ (by simpa using List.mem_of_getElem? hg)
  simpa using this
 ·have hmem:e∈mE enc 0 keys vs/\e.born∉seen:=by
   unfold leftOf at he
   simpa using he
  obtain⟨a,ha,hee⟩:=Aeg hk hmem.1
  have f:Ext w c:=by
   rcases k with rfl | rfl
   ·exact Ext.refl _
   ·exact MZ
  have l:=hL.call f;have g:=AR hL f;have hput:=l.putAt (.mapIter (some m) N (seen++[e.born]).toArray N) hi;have hne:m≠b:=fun eq=>by rw [eq,hb] at hm;cases hm
  have o:c.heap[m]? = some (.map (mE enc 0 keys vs).toArray N):=by rw [f.block m (lt_of_heap hm)];exact hm
  have p:(c.putObj b (.mapIter (some m) N (seen++[e.born]).toArray N)).heap[m]? = some (.map (mE enc 0 keys vs).toArray N):=by rw [World.putObj_heap_other hne];exact o
  have hval:e.key=enc a/\e.val=vs.getD e.born Qq2:=by rw [hee];exact⟨Z,Z⟩
  rw [hval.1,hval.2] at hr
  have q:ChangeMaps.setBlock c b (.mapIter (some m) N (seen.toArray.push e.born) N)=c.putObj b (.mapIter (some m) N (seen++[e.born]).toArray N):=by
   rw [List.push_toArray];rfl
  rw [q] at hr;refine EN (v:=_) (w':=_) hn.e (fun ρ hρ=>?_) (r e.born a ha hmem.2 _ hput.1 (g.trans hput.2) p);simp [execOp,hρ x _ hx,hr]
theorem Aei{b:Nat}{seen:List Nat}{j:Nat}{a:κ}(hx:ev L x=some (.pointer (some ⟨b,0,none⟩)))[hn:Qqq (Qq9 d n.n) true](hb:w.heap[b]? = some (.mapIter (some m) N (seen++[j]).toArray N))(hm:w.heap[m]? = some (.map (mE enc 0 keys vs).toArray N))(hk:keys.length=vs.length)(ha:keys[j]? = some a)
  (h:S P n ops Q rest ((d,.tuple #[enc a,vs.getD j Qq2])::L) w):S P n ops Q (⟨some d,.entry x,ty,pos,af,none⟩::rest) L w:=by
 have hg:=Tq (enc:=enc) keys vs 0 j a hk ha;rw [Qzc] at hg;have hr:=run_entry_at (P:=P) w b m N seen.toArray (mE enc 0 keys vs).toArray N ⟨enc a,vs.getD j Qq2,j⟩ (by rw [hb,List.push_toArray]) hm (by simpa using List.mem_of_getElem? hg) (by rw [List.toList_toArray,Zd _ _ _ hk];exact List.nodup_range');refine EN (v:=_) (w':=w) hn.e (fun ρ hρ=>?_) h;simp [execOp,hρ x _ hx,hr]
end
end Go.E
end
noncomputable section
namespace Go.L
theorem QF{α:Type}{c:α->α->Int}(h:Un c):∀ {l m:List α},l.Perm m->l.Pairwise (fun x y=>(!(Go.Proofs.ltOf c) y x)=true)->m.Pairwise (fun x y=>(!(Go.Proofs.ltOf c) y x)=true)->l=m
 | [],m,hp,_,_=>hp.nil_eq
 | a::l,m,hp,hl,hm=>by
  cases m with
  | nil=>exact absurd hp.symm.nil_eq Qqd
  | cons b m=>
   obtain⟨f,g⟩:=Qz0.1 hl;obtain⟨i,j⟩:=Qz0.1 hm
   have hab:a=b:=by
    by_cases e:a=b
    ·exact e
    ·have ha:a∈m:=by rcases Qzy.1 (hp.mem_iff.1 (.head _)) with d | d;exact absurd d e;exact d
     have hb:b∈l:=by rcases Qzy.1 (hp.mem_iff.2 (.head _)) with d | d;exact absurd d.symm e;exact d
     exact h.parts a b (by simpa using i a ha) (by simpa using f b hb)
   subst hab;rw [QF h hp.cons_inv g j]
theorem Ab5:∀ (N:Nat) (l:List Nat),l.Nodup->(∀ j∈l,j<N)->l.length<=N
 | 0,l,_,h=>by
  cases l with
  | nil=>exact Qzx _
  | cons a l=>exact absurd (h a (.head _)) (Nat.not_lt_zero a)
 | N+1,l,hn,h=>by
  have b:=Ab5 N (l.erase N) (hn.erase N) (fun j hj=>by
   have h2:=(hn.mem_erase_iff).1 hj;have:=h j h2.2;omega)
  by_cases hm:N∈l
  ·rw [List.length_erase_of_mem hm] at b;omega
  ·rw [List.erase_of_not_mem hm] at b;omega
theorem Aej{α:Type}{c:α->α->Int}(h:Un c){l m:List α}(hp:l.Perm m):(l.mergeSort fun x y=>!(Go.Proofs.ltOf c) y x)=m.mergeSort fun x y=>!(Go.Proofs.ltOf c) y x:=by
 have htr:∀ a b c':α,(!(Go.Proofs.ltOf c) b a)=true->(!(Go.Proofs.ltOf c) c' b)=true->(!(Go.Proofs.ltOf c) c' a)=true:=by
  intro a b d f h2;simp only [Go.Proofs.ltOf,QkX,decide_eq_false_iff_not] at *;intro h3;have s1:=h.swap a b;have g:=h.swap b d
  rcases Qke (c a b) 0 with e | e | e
  ·exact h2 (h.trans d a b h3 e)
  ·rw [h.zero a b e] at h3;exact h2 h3
  ·omega
 have hto:∀ a b:α,((!(Go.Proofs.ltOf c) b a)||(!(Go.Proofs.ltOf c) a b))=true:=by
  intro a b;have s1:=h.swap a b;simp only [Go.Proofs.ltOf,Bool.or_eq_true,QkX,decide_eq_false_iff_not];omega
 refine QF h (((Qkz l _).trans hp).trans (Qkz m _).symm) ?_ ?_
 ·exact Qk4 htr hto l
 ·exact Qk4 htr hto m
end Go.L
namespace Go.Proofs.YtekmbcbgknmhiaaGreatDoor
open Go Go.E Go.RowKit Go.Shelf Go.L Go.Sort
abbrev Qe(x:Lf):List Value:=[.string ⟨x.1.toArray⟩,.int .i64 x.2.1,.int .i64 x.2.2.1,.string ⟨x.2.2.2.toArray⟩]
abbrev Uo:Rp Lf:=.pair .st (.pair (.int .i64) (.pair (.int .i64) .st))
theorem Aas(G:PH)(x:Lf)(c:List Value):Uo.rel G x c↔c=Qe x:=by
 constructor
 ·rintro⟨_,_,rfl,rfl,_,_,rfl,rfl,_,_,rfl,rfl,rfl⟩
  rfl
 ·rintro rfl;exact⟨[_],[_,_,_],Z,Z,[_],[_,_],Z,Z,[_],[_],Z,Z,Z⟩
theorem Aek{G:PH}{l:List Lf}{xs:List Value}(h:AH Uo G l xs):l.flatMap Qe=xs:=by
 induction h with
 | nil=>rfl
 | cons h _ ih=>rw [Qz6,ih,(Aas _ _ _).1 h]
theorem Ze(G:PH):∀ l:List Lf,AH Uo G l (l.flatMap Qe)
 | []=>.nil
 | x::l=>by rw [Qz6];exact .cons ((Aas _ _ _).2 Z) (Ze G l)
theorem Ael(l:List Lf):∀ t,t<l.length * 4->(l.flatMap Qe)[t]? = some ((Qe (l.getD (t / 4) Qq2)).toArray[t % 4]!):=by
 induction l with
 | nil=>intro t h;simp at h
 | cons a l ih=>
  intro t h;rw [Qz6]
  by_cases b:t<4
  ·rw [List.getElem?_append_left b,Nat.div_eq_of_lt b,Nat.mod_eq_of_lt b];have:t=0\/t=1\/t=2\/t=3:=by omega
   rcases this with rfl | rfl | rfl | rfl <;> rfl
  ·rw [List.getElem?_append_right (by simpa using b)];have:=ih (t - 4) (by simp only [Qzj] at h;omega);rw [show(Qe a).length=4 from Z,this];obtain⟨s,rfl⟩:∃ s,t=s+4:=⟨t - 4,by omega⟩;rw [Nat.add_sub_cancel,Nat.add_div_right _ Qqc,Nat.add_mod_right]
   rfl
theorem WZ(l:List Lf):(flatK Qe 4 l.toArray).toList=l.flatMap Qe:=by
 have hlen:(l.flatMap Qe).length=l.length * 4:=by
  induction l with
  | nil=>rfl
  | cons a l ih=>rw [Qz6,Qzu,ih];show 4+l.length * 4=(l.length+1) * 4;omega
 apply Qkd;intro t
 by_cases h:t<l.length * 4
 ·rw [Ael l t h];have hs:t<(flatK Qe 4 l.toArray).size:=by simpa using h
  have h2:=get_flatK Qe 4 l.toArray t (by simpa using h);rw [getElem!_pos _ t hs] at h2;rw [Array.getElem?_toList,Array.getElem?_eq_getElem hs,h2];have hd:t / 4<l.length:=by omega
  have b:l.toArray[t / 4]! = l.getD (t / 4) Qq2:=by simp [hd]
  rw [b];simp
 ·rw [Qxe (by simpa using h),Qxe U]
theorem Agx{n:Sz}{ops:Array Oper}{Q:Exit->Act->World->Prop}{L:Env}{w b:World}{O:List BS}{rest:List Oper}{d:Nat}{ty:TypeId}{pos:String}{af:Array Edge}{v:Value}{H:PH}{i:Nat}{at_:Array TypeId}{args:List Operand}{xs:List Value}{l:List Lf}
  (ha:Sk L args=some [v,.func (.func 137) #[] #[]]) (hn:Qq9 d n.n=true) (_hH:Le H (hp b)) (hL:Bb b O w) (hi:ED O i=some (.row v 142 4 l.length xs)) (he:AH Uo (gz H b w O) l xs) (hlen:l.length<4611686018427387904)
  (h:∀ w' xs',Bb b (DB O i (.row v 142 4 (MA l).length xs')) w'->Le (fz w O) (fz w' (DB O i (.row v 142 4 (MA l).length xs')))->AH Uo (gz H b w' (DB O i (.row v 142 4 (MA l).length xs'))) (MA l) xs'->S Tryz.prog n ops Q rest ((d,.tuple #[])::L) w') :
  S Tryz.prog n ops Q (⟨some d,.call ⟨.value (.func 186),args.toArray,at_⟩,ty,pos,af,none⟩::rest) L w:=by
 have hxs:=Aek he;have hll:(MA l).length=l.length:=QE l
 have hfl:∀ l:List Lf,(l.flatMap Qe).length=l.length * 4:=fun l=>by
  induction l with
  | nil=>rfl
  | cons a l ih=>rw [Qz6,Qzu,ih];show 4+l.length * 4=(l.length+1) * 4;omega
 refine Vz (l':=MA l) (enc:=(id:Value->Value)) (dd:=flatK Qe 4 (MA l).toArray) (ys:=(MA l).flatMap Qe) ⟨Tryz.f186,_,Tryz.func186,Z,Z⟩ ha hn hL hi (by rw [List.map_id];exact WZ _) hll (by rw [<- hxs,hfl,hfl,hll]) (fun c=>?_) (fun hv=>?_) (fun g cap hv hcap=>?_) (fun w' e h2=>h w' _ e h2 (Ze _ _))
 ·have:l=[]:=Qz9 c;subst this;rw [<- hxs,show MA []=[] from List.mergeSort_nil]
 ·subst hv;exact AnyF.slices_SortFunc_none Tryz.Ahp none 0 _ w
 ·have hown:w.ownsRow 0 142 4 v l.length xs:=hL.at hi;rw [hv] at hown;have hhk:HoldsK Qe 4 w g 0 l.toArray/\g<w.heap.size:=Rl (id:Value->Value) (flatK Qe 4 l.toArray) hown (by rw [List.map_id,WZ];exact hxs);subst hv;refine AnyQ.slices_SortFunc_total Tryz.Ahp 4 (fun w=>by kernel_rfl) (fun w=>by kernel_rfl) Qe (fun _=>Z) (fun x v hv=>?_) Ni Ou.swo 137 #[] g 0 cap l.toArray w (enters_of Tryz.func137 Qqb Z) ?_ hhk.1 hhk.2 (by simpa using hlen) Ou.parts
  ·simp only [Qzy,List.mem_nil_iff,or_false] at hv
   rcases hv with rfl | rfl | rfl | rfl <;> rfl
  ·intro m os dk hs x y;have hk:=@P6 ⟨true⟩ (sortWorldK Qe 4 w g 0 m dk os) (hp _) (Le.refl _) x y _ (Aar x y);refine hk.2.mono fun en w' ⟨u,he,hx,hu⟩=>?_;subst he;subst hu;obtain⟨q,os',hw⟩:=@Za ⟨true⟩ _ _ Z hx;exact⟨Z,q,os',hw⟩
def Rm(l:List (Lf×List Int)):Option (List Lf):=Go.L.AN (Go.E.HK 48 l.length) (some (MA (l.map Qq6)))
set_option maxRecDepth 10000 in
section
variable(w:World)(H:PH)(hH:Le H (hp w)) include hH
theorem Aat{v0:Value}{a0:List (Lf×List Int)}(h0:Wp L5 (.vec (.int .i64)) H v0 a0){r:List Lf}(h:Rm a0=some r):
  Ok Tryz.prog 136 [v0,.func (.func 137) #[] #[]] w (fun v w'=>Ext w w'/\∃ u0,v=u0/\Ck 142 Uo H w w' u0 r):=by
 obtain⟨b,h⟩:=Go.L.GG h;have hcap:∀ j,j<=a0.length->Go.E.HK 48 j:=fun j hj=>⟨Qz2 (Qka _ hj) b.1,Qz2 hj b.2⟩;clear b;obtain rfl:=Option.some.inj h;obtain⟨m,vs,rfl,hm,hl,_⟩:=h0;have hkl:(a0.map Qq6).length=vs.length:=by rw [Qzk];exact hl
 have hkN:(a0.map Qq6).length=a0.length:=Qzk _;generalize hK:a0.map Qq6=K at *;generalize hNN:a0.length=N at *;have hNlt:N<4611686018427387904:=by have:=hcap N (Qzx _);unfold Go.E.HK at this;omega
 refine Ds (n:=21) [(0,.map (some m)),(1,.func (.func 137) #[] #[])] Tryz.func136 Z Z Z Z ?_;have hL:=Bb.start w;refine AI 1 Z<|AI 1 Z ?_;obtain⟨af,ar,ag⟩:=DI Uo H 142 hL;refine B2 (Value×List Value×List Lf) (fun⟨v,_,_⟩=>[(1,.func (.func 137) #[] #[]),(5,v)]) (fun⟨v,xs,l⟩ wr=>Bb w [.row v 142 4 l.length xs] wr/\AH Uo (gz H w wr [.row v 142 4 l.length xs]) l xs/\l.Perm K) ?_ ?_
 ·refine Bx 1 Z<|Aeh (enc:=L5) (keys:=K) (vs:=vs) (N:=N) (hH _ _ hm) af fun w2 g ah t=>Ad<|A4 ?_
  refine B7 (List Nat×Value×List Value) (fun⟨_,v,_⟩=>[(1,.func (.func 137) #[] #[]),(5,v),(8,.pointer (some ⟨g,0,none⟩))])
   (fun⟨seen,v,xs⟩ wr=>Bb w [.obj g (.mapIter (some m) N seen.toArray N),.row v 142 4 (seen.map fun j=>K.getD j Qq2).length xs] wr/\AH Uo (gz H w wr [.obj g (.mapIter (some m) N seen.toArray N),.row v 142 4 (seen.map fun j=>K.getD j Qq2).length xs]) (seen.map fun j=>K.getD j Qq2) xs/\seen.Nodup/\∀ j∈seen,j<N)
   (fun⟨seen,_,_⟩=>N - seen.length) ([],.slice none 0 0,[]) Z ⟨ah,ag.mono (Aa t),List.nodup_nil,fun j hj=>by cases hj⟩ ?_
  rintro⟨seen,v,xs⟩ wr ⟨hLr,her,hnd,hlt⟩
  have hseen:seen.length<=N:=by
   exact Ab5 N seen hnd hlt
  refine Aj<|Agw (enc:=L5) (keys:=K) (vs:=vs) (m:=m) (N:=N) 0 Z hLr Z ((hH.trans hLr.arg) _ _ hm) hkl hkN ?_ ?_
  ·intro j a ha hj w3 p u ai;have hjN:j<N:=by have:=(QzD.1 ha).1;omega
   refine A8 1 Z<|AB<|Fq<|Ax<|As<|A4<|Aj<|Aei (enc:=L5) Z (p.at (i:=0) Z) ai hkl ha<|Ar 1 Z<|A9 JQ.e Z p fun w4 b4 aj z _=>Tk 0 Z Z Z JQ.e aj Z Z (Bk Z (Bk Z (Bk Z (Bk Z Kq)))) fun w5 s aa=>Ad<|Au<|Ar 1 Z<|Ai (Az 0 Z JQ.e s Z)<|B9 [a] (r:=Uo) (fun _=>Aeb _ _ _ _ _) (hlen:=(show 1<=9223372036854775807 by decide)) s (.c4 ((Aas _ _ _).2 Z) .nil) ?_;intro v6 w6 aw ak ab al;have am:=(((her.mono (Aa u)).mono (Aa z)).mono (Aa aa)).mono (Aa ab);refine Bt (r:=Uo) 2 (seen.map fun j=>K.getD j Qq2) [a] Z Tryz.underlying196 ak Z am al (hcap _ ?_) ?_
   ·have k:=Ab5 N (seen++[j]) (List.nodup_append.2 ⟨hnd,QkA _ j,fun x hx y hy=>by rw [Qzf] at hy;subst hy;exact fun e=>hj (e ▸ hx)⟩) (fun q hq=>by rcases QzQ.1 hq with h2 | h2;exact hlt q h2;rw [Qzf] at h2;subst h2;exact hjN)
    simpa using k
   intro v7 w7 d ao au ap;refine Ar 1 Z<|AL<|A3 ?_
   have hmap:(seen++[j]).map (fun j=>K.getD j Qq2)=(seen.map fun j=>K.getD j Qq2)++[a]:=by
    rw [Qxf,List.map_singleton];have:K.getD j Qq2=a:=by rw [Qzq,ha];rfl
    rw [this]
   have o:(seen++[j]).Nodup:=List.nodup_append.2 ⟨hnd,QkA _ j,fun x hx y hy=>by rw [Qzf] at hy;subst hy;exact fun e=>hj (e ▸ hx)⟩;have c:=ao.AS (i:=0) Z;have f:=ap.mono (Aa (Ak (i:=0) Z));refine AM (seen++[j],v7,d) Z ?_ (hm:=?_)
   ·show Bb w [.obj g (.mapIter (some m) N (seen++[j]).toArray N),.row v7 142 4 ((seen++[j]).map fun j=>K.getD j Qq2).length d] w7/\AH Uo (gz H w w7 [.obj g (.mapIter (some m) N (seen++[j]).toArray N),.row v7 142 4 ((seen++[j]).map fun j=>K.getD j Qq2).length d]) ((seen++[j]).map fun j=>K.getD j Qq2) d/\_
    rw [hmap];refine⟨c,f,o,fun q hq=>?_⟩
    rcases QzQ.1 hq with h2 | h2
    ·exact hlt q h2
    ·rw [Qzf] at h2;subst h2;exact hjN
   ·show N - (seen++[j]).length<N - seen.length
    have k:=Ab5 N (seen++[j]) o (fun q hq=>by rcases QzQ.1 hq with h2 | h2;exact hlt q h2;rw [Qzf] at h2;subst h2;exact hjN);rw [Qzu,QxC] at k;rw [Qzu,QxC];omega
  ·intro hall;refine A8 1 Z<|AB<|G5<|B4<|AF<|A5<|Bg ?_
   have hp:(seen.map fun j=>K.getD j Qq2).Perm K:=by
    have k:seen.Perm (Qzv N):=(List.perm_ext_iff_of_nodup hnd List.nodup_range).2 fun q=>⟨fun hq=>Qz7.2 (hlt q hq),fun hq=>hall q (Qz7.1 hq)⟩;have h2:=k.map (fun j=>K.getD j Qq2)
    have h3:(Qzv N).map (fun j=>K.getD j Qq2)=K:=by
     apply Qkd;intro q;rw [List.getElem?_map]
     by_cases hq:q<N
     ·rw [List.getElem?_range hq,Qzw (by omega:q<K.length)];simp [Qzq,Qzw (by omega:q<K.length)]
     ·rw [Qxe (by simpa using hq),Qxe U];rfl
    rwa [h3] at h2
   exact AA (_,_,_) ⟨hLr.AS (i:=0) Z,her.mono (Aa (Ak (i:=0) Z)),hp⟩
 ·rintro⟨v,xs,l⟩ wr ⟨hLr,her,hp⟩;have hlN:l.length=N:=by rw [hp.length_eq];omega
  refine Bx 2 Z<|Agx (i:=0) Z Z hH hLr Z her U fun w8 ax c av f=>Ad<|AI 2 Z<|Ay<|Uy Z Z ?_;have e:MA l=MA K:=Aej Ou hp;rw [e] at c f;exact⟨c.ext,_,Z,c.Iq hH (i:=0) Z f⟩
end
end Go.Proofs.YtekmbcbgknmhiaaGreatDoor
end
noncomputable section
namespace Go.Proofs.YtekmbcbgknmhiaaGreatDoor
open Go Go.E Go.RowKit Go.L
abbrev IW(bm bi b:Nat)(i:Int)(l:List (Lf×List Int))(vs:List Value):List BS:=[.box bm [.map (some b)] 139,.box bi [.int .i64 i] 3,RD L5 b l vs]
abbrev JZ(l:List (Lf×List Int))(vs:List Value):List BS:=mT cwI 3 1 l vs
def JBu(bm bi b:Nat)(i:Int)(l:List (Lf×List Int))(R:List BS)(_:PH):Prop:=∃ vs:List Value,l.length=vs.length/\R=Qza (IW bm bi b i l vs) (JZ l vs)
def Kr(i:Int)(l:List (Lf×List Int))(x:Lf):Option (List (Lf×List Int)):=Go.L.AN (Go.E.HK 8 ((BV [] x l).length+1)) (some (Ge x (BV [] x l++[i]) l))
set_option maxRecDepth 10000 in
theorem Acu{f w:World}{H:PH}(hH:Le H (hp f)){O:List BS}{bm bi b:Nat}{i:Int}{l:List (Lf×List Int)}{vs:List Value}{x:Lf}(hL:Bb f (Qza (Qza (IW bm bi b i l vs) O) (JZ l vs)) w)(hn:l.length=vs.length){r:List (Lf×List Int)}(h:Kr i l x=some r):
  Ok Tryz.prog 83 [L5 x,.pointer (some ⟨bm,0,none⟩),.pointer (some ⟨bi,0,none⟩)] w (fun u w'=>u=.tuple #[]/\∃ vs':List Value,r.length=vs'.length/\Bb f (Qza (Qza (IW bm bi b i r vs') O) (JZ r vs')) w'/\Le (fz w (Qza (Qza (IW bm bi b i l vs) O) (JZ l vs))) (fz w' (Qza (Qza (IW bm bi b i r vs') O) (JZ r vs')))):=by
 obtain⟨hcap,h⟩:=Go.L.GG h;obtain rfl:=Option.some.inj h;refine Ds (n:=12) [(0,L5 x),(1,.pointer (some ⟨bm,0,none⟩)),(2,.pointer (some ⟨bi,0,none⟩))] Tryz.func83 Z Z Z Z<|Aj<|CD (t:=142) Z Z hL fun w1 g a j _=>Ad<|Au<|Ai (Qy 1 Z a Z Z)<|Ai (Az 0 Z JQ.e a Z)<|Ai (Qy 2 Z a Z Z)<|B9 [i] (r:=.int .i64) (fun _=>Jn _ _) (hlen:=(show 1<=9223372036854775807 by decide)) a (.c1 Z .nil) fun v2 w2 af q m s=>Aah (A:=.box g [.string ⟨x.1.toArray⟩,.int .i64 x.2.1,.int .i64 x.2.2.1,.string ⟨x.2.2.2.toArray⟩] 142::Qza (IW bm bi b i l vs) O) (l:=l) (vs:=vs) (k:=x) (enc:=L5) 3 Z Aec Tryz.zeroValue58 q Z hn fun c w3 v y d=>Ar 1 Z ?_;have aa:=s.mono (Aa d);refine AdE (A:=.box g [.string ⟨x.1.toArray⟩,.int .i64 x.2.1,.int .i64 x.2.2.1,.string ⟨x.2.2.2.toArray⟩] 142::Qza (IW bm bi b i (EU x l) c) O) (l:=EU x l) (vs:=c) (k:=x) (z:=i) (r:=.int .i64) (H:=H) Ah2 Z Tryz.underlying58 Qqc hH y v aa (by rw [Vr];exact hcap) ?_;intro v4 w4 T4 e ab o;rw [Vr] at e
 refine Ar 1 Z<|Aic (A:=.box g [.string ⟨x.1.toArray⟩,.int .i64 x.2.1,.int .i64 x.2.2.1,.string ⟨x.2.2.2.toArray⟩] 142::Qza (IW bm bi b i (EU x l) c) O) (T:=T4) (k:=x) (l:=l) (vs:=c) 3 e Z ab Z fun ac w5 ad ae p=>AL<|LI ?_;refine⟨Z,ac,ad,ae.AS (i:=0) Z,((((j.trans m).trans d).trans o).trans p).trans (Ak (i:=0) Z)⟩
theorem Jo(bm bi b:Nat)(i:Int)(l:List (Lf×List Int))(vs:List Value)(O:List BS):(Qza (Qza (IW bm bi b i l vs) O) (JZ l vs)).Perm (Qza O (Qza (IW bm bi b i l vs) (JZ l vs))):=by
 rw [<- List.append_assoc O];exact List.perm_append_comm.append_right _
theorem Aem{a:World}{H:PH}(hH:Le H (hp a))(bm bi b:Nat)(i:Int):Cb Tryz.prog a H 83 [.pointer (some ⟨bm,0,none⟩),.pointer (some ⟨bi,0,none⟩)] (JBu bm bi b i) (Kr i):=by
 constructor
 ·exact fun _ h=>h
 ·rintro w O R l l' x hL ⟨vs,hn,rfl⟩ h;have hc:=Acu hH (O:=O) (hL.perm (Jo bm bi b i l vs O)) hn h;refine⟨hc.1,hc.2.mono fun e w' ⟨u,hu,c,vs',h2,h3,d⟩=>⟨u,hu,c,_,h3.perm (Jo bm bi b i l' vs' O).symm,?_,vs',h2,Z⟩⟩;rw [<- Ko (Jo bm bi b i l vs O),<- Ko (Jo bm bi b i l' vs' O)];exact d
theorem XQ{a w:World}{H:PH}(hH:Le H (hp a)){O:List BS}{bm bi b:Nat}{i:Int}{l:List (Lf×List Int)}{vs:List Value}{a0:Pv}{a1:List (List UInt8)}{va0_2 va0_3 va0_4 va1:Value}
  (hL:Bb a (Qza (Qza (IW bm bi b i l vs) O) (JZ l vs)) w) (c:AJ .byte (gz H a w (Qza (Qza (IW bm bi b i l vs) O) (JZ l vs))) va0_2 a0.f.2.2.1) (d:AJ .st (gz H a w (Qza (Qza (IW bm bi b i l vs) O) (JZ l vs))) va0_3 a0.f.2.2.2.1) (g:AJ .tree (gz H a w (Qza (Qza (IW bm bi b i l vs) O) (JZ l vs))) va0_4 a0.f.2.2.2.2) (j:AJ .st (gz H a w (Qza (Qza (IW bm bi b i l vs) O) (JZ l vs))) va1 a1)
  (hn:l.length=vs.length) {r:List (Lf×List Int)} (h:J9 (Kr i) a0 a1 l=some r) :
  Ok Tryz.prog 82 [.agg #[.int .i64 a0.f.1,.int .i64 a0.f.2.1,va0_2,va0_3,va0_4],va1,.func (.func 83) #[] #[.pointer (some ⟨bm,0,none⟩),.pointer (some ⟨bi,0,none⟩)]] w (fun u w'=>u=.tuple #[]/\∃ vs':List Value,r.length=vs'.length/\Bb a (Qza (Qza (IW bm bi b i r vs') O) (JZ r vs')) w'/\Le (fz w (Qza (Qza (IW bm bi b i l vs) O) (JZ l vs))) (fz w' (Qza (Qza (IW bm bi b i r vs') O) (JZ r vs')))):=by
 have hz:Le (gz H a w (Qza (Qza (IW bm bi b i l vs) O) (JZ l vs))) (gz H a w (Qza O (Qza (IW bm bi b i l vs) (JZ l vs)))):=Aa (by rw [Ko (Jo bm bi b i l vs O)];exact Le.refl _);have hc:=Um hH (Aem hH bm bi b i) (O:=O) (hL.perm (Jo bm bi b i l vs O).symm) (c.mono hz) (d.mono hz) (g.mono hz) (j.mono hz) (s:=l) ⟨vs,hn,Z⟩ h;refine⟨hc.1,hc.2.mono fun e w' ⟨u,hu,k,R',h2,h3,vs',m,n⟩=>?_⟩;subst n;refine⟨u,hu,k,vs',m,h2.perm (Jo bm bi b i r vs' O),?_⟩;rw [Ko (Jo bm bi b i l vs O),Ko (Jo bm bi b i r vs' O)];exact h3
end Go.Proofs.YtekmbcbgknmhiaaGreatDoor
end
noncomputable section
namespace Go.Proofs.YtekmbcbgknmhiaaGreatDoor
open Go Go.E Go.RowKit Go.L
set_option maxHeartbeats 1000000
set_option maxRecDepth 10000
open _root_.Go.Proofs.Tryz
def EJ(a1:Int):Option AaV:=
 AN (Bz (0 - 0)) (AN (Bz (a1 - (0 - 0))) (if 0<(a1 - (0 - 0)) then AN (0<(a1 - (0 - 0))/\(a1 - (0 - 0)) * 1<=281474976710656) (some (([]:AaV))) else some ([])))
def E6(_a0:AaV)(a1:Int):Option AaV:=
 if a1<0 then none else(EJ a1)
section
variable(w:World)(H:PH)(hH:Le H (hp w)) include hH
theorem OA{a0:AaV}{a1:Int}(_:AJ .byte H Aac a0){r:AaV}(h:E6 a0 a1=some r):
  Qqv 310 [Aac,No a1] w (fun v w'=>∃ x,v=x/\Ck 5 .byte H w w' x r):=by
 refine A1 27 [(0,Aac),(1,No a1)] func310 Z fun hL=>AI 1 Z<|B2 Unit (fun(_:Unit)=>[(0,Aac),(1,No a1)]) (fun(_:Unit) wr=>Bb w [] wr/\(EJ a1)=some r) ?_ ?_
 ·refine AI 2 Z<|AQ h ?_ ?_<;>intro y h
  ·refine Au ?_
   cases h
  refine Ax<|AA () ⟨hL,h⟩
 rintro _ ac ⟨d,h⟩;refine AB<|Bx 2 Z<|Ai (Abh Z)<|Ar 1 Z<|Ai (UQ Z)<|A2 h fun g h=>Ai (A7 g)<|A2 h fun j h=>Ai (A7 j)<|A8 1 Z<|AI 2 Z<|AQ h ?_ ?_<;>intro l h
 ·refine Au<|Ar 2 Z<|Ai (Abh Z)<|Ai Vc<|Ar 1 Z<|A2 h fun ab h=>?_;obtain⟨z,o⟩:=Int.eq_ofNat_of_zero_le (show 0<=(a1 - (0 - 0)) by omega);refine Abi (k:=.i64) (m:=z) (by rw [<- o];rfl) Af7 U U U fun f a c ad p q s t u=>Ar 1 Z<|Ai (UQ Z)<|Ai (Adz Z) ?_;obtain⟨b,aa⟩:=N2 (v:=.slice (some ⟨f,0,none⟩) 0 a) (e:=5) (sz:=1) (m:=0) (xs:=[]) d p ⟨Z,.inr ⟨f,a,c,Z,q,s,Nat.zero_le _,t,by rw [u,Qz4],Z⟩⟩;refine Ar 1 Z<|AL<|As<|AI 2 Z<|Ay ?_
  cases h
  refine Al Z ⟨b.ext,_,Z,(b.Iq hH (i:=0) Z .nil)⟩
 refine Ax<|As<|AI 2 Z<|Ay ?_
 cases h
 refine Al Z ⟨d.ext,_,Z,Ck.nil⟩
def Ed(a:AaV):Option AaV:=
 some a
def CS(a0:List AaV):AaV×Int->Option ((AaV×Int) ⊕ (AaV)):=fun⟨b,a⟩=>
 if a<(a0.length:Int) then AN (0<=a/\a<(a0.length:Int)) (AN (Go.E.HK 1 (b.length+(a0.getD a.toNat Qq2).length)) (AN (Bz (a+1)) (some (Sum.inl ((b++a0.getD a.toNat Qq2),(a+1)))))) else Qq7 Sum.inr (Ed b)
def Fx(a0:List AaV)(s:AaV×Int):Option AaV:=Go.L.run (CS a0) s
def Df(a0:List AaV)(a:Int):Option AaV:=
 Qq4 (E6 ([]) a) (fun b=>(Fx a0) (b,0))
def CT(a0:List AaV):Int×Int->Option ((Int×Int) ⊕ (AaV)):=fun⟨b,a⟩=>
 if a<(a0.length:Int) then AN (0<=a/\a<(a0.length:Int)) (AN (Bz (b+((a0.getD a.toNat Qq2).length:Int))) (if(b+((a0.getD a.toNat Qq2).length:Int))<0 then none else AN (Bz (a+1)) (some (Sum.inl ((b+((a0.getD a.toNat Qq2).length:Int)),(a+1)))))) else Qq7 Sum.inr ((Df a0) b)
def Fy(a0:List AaV)(s:Int×Int):Option AaV:=Go.L.run (CT a0) s
def DO(a0:List AaV):Option AaV:=
 (Fy a0) (0,0)
theorem Ee{a0:List AaV}{e:Value}(o:AJ (.vec .byte) H e a0){r:AaV}(h:DO a0=some r):
  Qqv 249 [e] w (fun v w'=>∃ u0,v=u0/\Ck 5 .byte H w w' u0 r):=by
 refine A1 36 [(0,e)] func249 Z fun hL=>AI 1 Z<|AI 1 Z<|B2 Int (fun j=>[(0,e),(3,No j)]) (fun j wr=>Bb w [] wr/\(Df a0) j=some r) ?_ ?_
 ·refine Bx 1 Z<|Ai (Bm o)<|A8 1 Z<|A4 ?_;obtain⟨y,h⟩:=Ba h;refine B7 (Int×Int×Nat) (fun⟨c,b,n⟩=>[(0,e),(3,No c),(9,e),(10,No (a0.length:Int)),(11,No b)]) (fun⟨c,b,n⟩ wr=>Bb w [] wr/\Ia (CT a0) n (c,b)=some r) (fun⟨c,b,n⟩=>n) (0,0,y) Z ⟨hL,h⟩ ?_;rintro⟨c,b,nn42⟩ a7 ⟨s,h⟩;obtain⟨y,bb,rfl,h,z⟩:=AZ h;refine AI 1 Z<|AB<|AQ h ?_ ?_<;>intro al h
  ·refine Ax<|As<|AB<|A4<|Aj<|A2 h fun aa h=>Bi o b.toNat (GX aa) (AX aa) ?_;rintro bc _ ⟨e46v0,rfl,e46h0⟩ am;refine Ai (Bl am (hH.trans s.arg))<|A8 1 Z<|Bx 2 Z<|Ai (Bm e46h0)<|A2 h fun an h=>Ai (A7 an)<|A8 1 Z<|AI 2 Z<|AQ h ?_ ?_<;>intro ao h
   ·refine Au ?_
    cases h
   refine Ax<|A3<|As<|Au<|A2 h fun ap h=>Ai (A7 ap)<|Ar 1 Z<|AL ?_;have h:=Cf.again h z;refine AM (_,_,_) Z ⟨s,h⟩
  refine B4<|AF<|A5 ?_;have h:=Cf.out h z;refine Bg<|AA _ ⟨s,h⟩
 rintro j a8 ⟨t,h⟩;refine Bx 1 Z<|Aw h fun a4 aq h=>Bf t (OA _ _ (An t) (AJ.nil _ _) aq) ?_;rintro ah bd ⟨_,rfl,ab⟩ ar ac ai;obtain⟨au,ac,ai,av⟩:=ab.take hH t ar;refine A8 1 Z<|B2 (AaV×Value×(List Value)) (fun⟨q,p,k⟩=>[(6,p)]) (fun⟨q,p,k⟩ wr=>FX w [.row p 5 1 (q).length k] wr fun Oz=>AH .byte (gz H w wr Oz) q k/\Ed q=some r) ?_ ?_
 ·refine Bx 1 Z<|Ai (Bm o)<|A8 1 Z<|A4 ?_;obtain⟨ad,h⟩:=Ba h;refine B7 (AaV×Int×Value×(List Value)×Nat) (fun⟨f,a,g,d,n⟩=>[(6,g),(25,e),(26,No (a0.length:Int)),(27,No a)]) (fun⟨f,a,g,d,n⟩ wr=>FX w [.row g 5 1 (f).length d] wr fun Oz=>AH .byte (gz H w wr Oz) f d/\Ia (CS a0) n (f,a)=some r) (fun⟨f,a,g,d,n⟩=>n) (a4,0,ah,au,ad) Z ⟨ac,av,h⟩ ?_;rintro⟨f,a,g,d,nn92⟩ a9 ⟨u,x,h⟩;obtain⟨ad,be,rfl,h,ae⟩:=AZ h;refine AI 1 Z<|AB<|AQ h ?_ ?_<;>intro aw h
  ·refine Ax<|As<|AB<|A4<|Aj<|A2 h fun af h=>Bi o a.toNat (GX af) (AX af) ?_;rintro bf _ ⟨e96v0,rfl,e96h0⟩ ax;refine Ai (Bl ax (hH.trans u.arg))<|A8 1 Z<|Au<|Ar 2 Z<|A2 h fun ay h=>Bt (r:=.byte) 0 f (a0.getD a.toNat Qq2) Z Af7 u Z x (e96h0.mono  Ah) ay fun a5 bg az a1 a6 a2=>Ar 1 Z<|AL<|A3<|As<|Au<|A2 h fun aj h=>Ai (A7 aj)<|Ar 1 Z<|AL ?_;have h:=Cf.again h ae;refine AM (_,_,_,_,_) Z ⟨a1,a2,h⟩
  refine B4<|AF<|A5 ?_;have h:=Cf.out h ae;refine Bg<|AA (_,_,_) ⟨u,x,h⟩
 rintro⟨q,p,k⟩ ba ⟨ag,ak,h⟩;refine AI 2 Z<|Ay ?_
 cases h
 refine Al Z ⟨ag.ext,_,Z,(ag.Iq hH (i:=0) Z ak)⟩
def IX(a:AaV):Option AaV:=
 some a
def GY(a0:List Int):AaV×Int->Option ((AaV×Int) ⊕ (AaV)):=fun⟨b,a⟩=>
 if a<(a0.length:Int) then AN (0<=a/\a<(a0.length:Int)) (Qq4 (Eb (a0.getD a.toNat Qq2)) (fun c=>AN (Go.E.HK 1 (b.length+c.length)) (AN (Bz (a+1)) (some (Sum.inl ((b++c),(a+1))))))) else Qq7 Sum.inr (IX b)
def Ks(a0:List Int)(s:AaV×Int):Option AaV:=Go.L.run (GY a0) s
def JA(a0:List Int):Option AaV:=
 Qq4 (Eb (a0.length:Int)) (fun a=>(Ks a0) (a,0))
theorem IY{a0:List Int}{j:Value}(p:AJ (.int .i64) H j a0){r:AaV}(h:JA a0=some r):
  Qqv 250 [j,.func (.func 177) #[] #[]] w (fun v w'=>∃ u0,v=u0/\Ck 5 .byte H w w' u0 r):=by
 refine A1 24 [(0,j),(1,.func (.func 177) #[] #[])] func250 Z fun hL=>AI 1 Z<|Bx 1 Z<|Ai (Bm p)<|Aw h fun x1 ar h=>Bf hL (BW _ _ (An hL) ar) ?_;rintro ae w2 ⟨_,rfl,z⟩ au ac af;obtain⟨av,ac,af,aw⟩:=z.take hH hL au;refine A8 1 Z<|B2 (AaV×Value×(List Value)) (fun⟨o,k,e⟩=>[(5,k)]) (fun⟨o,k,e⟩ wr=>FX w [.row k 5 1 (o).length e] wr fun Oz=>AH .byte (gz H w wr Oz) o e/\IX o=some r) ?_ ?_
 ·refine Bx 1 Z<|Ai (Bm p)<|A8 1 Z<|A4 ?_;obtain⟨q,h⟩:=Ba h;refine B7 (AaV×Int×Value×(List Value)×Nat) (fun⟨c,a,d,b,n⟩=>[(1,.func (.func 177) #[] #[]),(5,d),(11,j),(12,No (a0.length:Int)),(13,No a)]) (fun⟨c,a,d,b,n⟩ wr=>FX w [.row d 5 1 (c).length b] wr fun Oz=>AH .byte (gz H w wr Oz) c b/\Ia (GY a0) n (c,a)=some r) (fun⟨c,a,d,b,n⟩=>n) (x1,0,ae,av,q) Z ⟨ac,aw,h⟩ ?_;rintro⟨c,a,d,b,nn44⟩ a2 ⟨g,f,h⟩;obtain⟨q,a4,rfl,h,s⟩:=AZ h;refine AI 1 Z<|AB<|AQ h ?_ ?_<;>intro ag h
  ·refine Ax<|As<|AB<|A4<|Aj<|A2 h fun t h=>Bi p a.toNat (GX t) (AX t) ?_;rintro a5 _ rfl ah;refine Ai (Bl ah (hH.trans g.arg))<|A8 1 Z<|Au<|Ar 3 Z<|Aw h fun ad ai h=>OT g (BW _ _ (An g) ai) ?_;rintro ay a6 ⟨_,rfl,u⟩ aj ak aa;have x:=u.Du hH g aj;refine A2 h fun al h=>?_;have f:=f.mono (Aa aa);refine Bt (r:=.byte) 0 c ad Z Af7 ak Z f x al fun ax a7 am an az ao=>Ar 1 Z<|AL<|A3<|As<|Au<|A2 h fun ap h=>Ai (A7 ap)<|Ar 1 Z<|AL ?_;have h:=Cf.again h s;refine AM (_,_,_,_,_) Z ⟨an,ao,h⟩
  refine B4<|AF<|A5 ?_;have h:=Cf.out h s;refine Bg<|AA (_,_,_) ⟨g,f,h⟩
 rintro⟨o,k,e⟩ a3 ⟨y,ab,h⟩;refine AI 2 Z<|Ay ?_
 cases h
 refine Al Z ⟨y.ext,_,Z,(y.Iq hH (i:=0) Z ab)⟩
end
end Go.Proofs.YtekmbcbgknmhiaaGreatDoor
end
noncomputable section
namespace Go
abbrev Akn:=Go.E.Rp.pair (Go.E.Rp.pair Go.E.Rp.st (Go.E.Rp.pair (Go.E.Rp.int .i64) (Go.E.Rp.pair (Go.E.Rp.int .i64) Go.E.Rp.st))) (Go.E.Rp.vec (Go.E.Rp.int .i64))
end Go
namespace Go
abbrev Akk:=Akh×(List Int)
end Go
namespace Go.Proofs.YtekmbcbgknmhiaaGreatDoor
open Go Go.E Go.RowKit Go.L
set_option maxHeartbeats 1000000
set_option maxRecDepth 10000
open _root_.Go.Proofs.Tryz
def LY(a:AaV):Option AaV:=
 some a
def Ka(a0:Akh×(List Int)):Option AaV:=
 AN (a0.1.1.length<=9223372036854775807) (Qq4 (HT a0.1.1) (fun a=>Qq4 (Eb a0.1.2.1) (fun b=>Qq4 (Eb a0.1.2.2.1) (fun c=>AN (a0.1.2.2.2.length<=9223372036854775807) (Qq4 (HT a0.1.2.2.2) (fun d=>Qq4 (JA a0.2) (fun e=>Qq4 (DO ([a,b,c,d,e])) (fun f=>LY f))))))))
section
variable(w:World)(H:PH)(hH:Le H (hp w)) include hH
theorem V3{a0:Akh×(List Int)}{cx:Value}(b7:AJ (.int .i64) H cx (a0.2)){r:AaV}(h:Ka a0=some r):
  Qqv 192 [.agg #[AaM a0.1.1,No a0.1.2.1,No a0.1.2.2.1,AaM a0.1.2.2.2,cx]] w (fun v w'=>∃ u0,v=u0/\Ck 5 .byte H w w' u0 r):=by
 refine A1 26 [(0,.agg #[AaM a0.1.1,No a0.1.2.1,No a0.1.2.2.1,AaM a0.1.2.2.2,cx])] func192 Z fun hL=>Aj<|CD (t:=203) Z Z hL fun w1 b1 iw j4 _=>A8 1 Z<|B2 (AaV×Value×(List Value)) (fun⟨b8,a9,an⟩=>[(2,a9)]) (fun⟨b8,a9,an⟩ wr=>FX w [.row a9 5 1 (b8).length an,.box b1 [AaM a0.1.1,No a0.1.2.1,No a0.1.2.2.1,AaM a0.1.2.2.2,cx] 203] wr fun Oz=>AH .byte (gz H w wr Oz) b8 an/\LY b8=some r) ?_ ?_
 ·refine Pw (Qqz 0 3 (Qqz 5 3 (Qqz 9 3 (Qqz 13 3 (.q 18 (.q 19 (.h2 3 (.h2 4 (.h2 8 (.h2 12 (.h 16 (.h 17 (.h 20 (.h 21 (.h 22 (.q 23 (.tail 24))))))) 16 (.h 12 (.h 17 (.h 20 (.h 21 (.h 22 (.q 23 (.tail 24)))))))) 16 (.h 8 (.h 12 (.h 17 (.h 20 (.h 21 (.h 22 (.q 23 (.tail 24))))))))) 16 (.h 4 (.h 8 (.h 12 (.h 17 (.h 20 (.h 21 (.h 22 (.q 23 (.tail 24)))))))))) 16 (.h 3 (.h 4 (.h 8 (.h 12 (.h 17 (.h 20 (.h 21 (.h 22 (.q 23 (.tail 24))))))))))))))))) mixed Qqb (fun j5 ha=>?_);have j:=iw.call ha;refine CB Z (Ae Z AjD Z JQ.e) Z<|CB Z (Ae Z Ajw Z HO.e) Z<|CB Z (Ag 0 Z j Z) Z<|CB Z (Ae Z AjD Z JQ.e) Z<|CB Z (Ae Z Ajw Z CR.e) Z<|CB Z (Ag 0 Z j Z) Z<|CB Z (Ae Z AjD Z JQ.e) Z<|CB Z (Ae Z Ajw Z CR.e) Z<|CB Z (Ag 0 Z j Z) Z<|CB Z (Ae Z AjD Z JQ.e) Z<|CB Z (Ae Z Ajw Z HO.e) Z<|CB Z (Ag 0 Z j Z) Z<|CB Z (Ae Z AjD Z Sy.e) Z<|CB Z (Ag 0 Z j Z) Z<|YB ?_ ?_
  ·refine A2 h fun cy h=>Vo (H:=H) Z Z AcZ Af7 AcY Z j cy fun j6 j7 jq ba ix bb=>YB ?_ ?_
   ·refine Aw h fun am ao h=>Cj Z Z Z (fun h0 bc=>Fp _ _ (An (ba.call bc)) (bb.mono (Aa (AR ba bc))) ao) ?_;rintro h0 iy j8 bc fn ⟨_,rfl,fv⟩;have fo:=ba.call bc;have bd:=fo.call fn;have a:=fv.Du hH fo fn;refine YB ?_ ?_
    ·refine Aw h fun u k h=>Cj Z Z Z (fun h1 be=>BW _ _ (An (bd.call be)) k) ?_;rintro h1 iz j9 be cz ⟨_,rfl,fw⟩;have c0:=bd.call be;have fc:=AR bd be;have bf:=c0.call cz;have fd:=AR c0 cz;have b:=fw.Du hH c0 cz;refine YB ?_ ?_
     ·refine Aw h fun m c h=>Cj Z Z Z (fun h3 bg=>BW _ _ (An (bf.call bg)) c) ?_;rintro h3 i0 ka bg c2 ⟨_,rfl,fx⟩;have c3:=bf.call bg;have fe:=AR bf bg;have hb:=c3.call c2;have ff:=AR c3 c2;have x:=fx.Du hH c3 c2;refine A2 h fun d h=>Vo (H:=H) Z Z AcZ Af7 AcY Z hb d fun kb kc jr bh b9 hc=>Aw h fun o e h=>Cj Z Z Z (fun h4 ap=>Fp _ _ (An (bh.call ap)) (hc.mono (Aa (AR bh ap))) e) ?_;rintro h4 i1 kd ap c4 ⟨_,rfl,fy⟩;have c5:=bh.call ap;have ca:=AR bh ap;have c6:=c5.call c4;have cb:=AR c5 c4;have y:=fy.Du hH c5 c4;refine Aw h fun p f h=>Cj Z Z Z (fun h5 bi=>IY _ _ (An (c6.call bi)) (b7.mono  Ah) f) ?_;rintro h5 i2 ke bi c7 ⟨_,rfl,fz⟩;have c8:=c6.call bi;have aq:=AR c6 bi;have hd:=c8.call c7;have ar:=AR c8 c7;have cs:=fz.Du hH c8 c7
      have a:=a.mono (Aa (fc.trans (fd.trans (fe.trans (ff.trans (b9.trans (ca.trans (cb.trans (aq.trans ar)))))))));have b:=b.mono (Aa (fe.trans (ff.trans (b9.trans (ca.trans (cb.trans (aq.trans ar)))))));have x:=x.mono (Aa (b9.trans (ca.trans (cb.trans (aq.trans ar)))));have y:=y.mono (Aa (aq.trans ar));refine Q0 [am,u,m,o,p] (r:=(.vec .byte)) Z Z (fun _=>S3 _ a.one _ b.one _ x.one _ y.one _ cs.one _) Z (BI 5) hH hd (.c1 ⟨_,Z,a⟩ (.c1 ⟨_,Z,b⟩ (.c1 ⟨_,Z,x⟩ (.c1 ⟨_,Z,y⟩ (.c1 ⟨_,Z,cs⟩ .nil))))) fun kf kg js c9 i3 he=>Aw h fun s g h=>Cj Z Z Z (fun h6 bj=>Ee _ _ (An (c9.call bj)) (he.mono (Aa (AR c9 bj))) g) ?_;rintro h6 gm kh bj da ⟨_,rfl,f0⟩;have db:=c9.call bj;have dc:=db.call da;have gn:=AR db da;obtain⟨hf,dc,gn,dd⟩:=f0.take hH db da;refine D4 1 Z<|BT (fun ki fp=>?_);have hg:=dc.call fp;have go:=AR dc fp;refine AL ?_;have dd:=dd.mono (Aa go)
      refine AA (_,_,_) ⟨hg,dd,h⟩
     refine Aw h fun m c h=>A2 h fun d h=>Aw h fun o e h=>Aw h fun p f h=>Aw h fun s g h=>Vo (H:=H) Z Z AcZ Af7 AcY Z bf d fun kj kk jt de fg df=>Cj Z Z Z (fun h7 bk=>BW _ _ (An (de.call bk)) c) ?_;rintro h7 i4 kl bk dg ⟨_,rfl,f1⟩;have dh:=de.call bk;have cc:=AR de bk;have bl:=dh.call dg;have cd:=AR dh dg;have z:=f1.Du hH dh dg;have df:=df.mono (Aa (cc.trans cd));refine Cj Z Z Z (fun h8 au=>Fp _ _ (An (bl.call au)) (df.mono (Aa (AR bl au))) e) ?_;rintro h8 i5 km au di ⟨_,rfl,f2⟩;have dj:=bl.call au;have ce:=AR bl au;have dk:=dj.call di;have cf:=AR dj di;have aa:=f2.Du hH dj di;refine Cj Z Z Z (fun h9 bm=>IY _ _ (An (dk.call bm)) (b7.mono  Ah) f) ?_;rintro h9 i6 kn bm dl ⟨_,rfl,f3⟩;have dm:=dk.call bm;have av:=AR dk bm;have hh:=dm.call dl;have aw:=AR dm dl;have ct:=f3.Du hH dm dl
     have a:=a.mono (Aa (fc.trans (fd.trans (fg.trans (cc.trans (cd.trans (ce.trans (cf.trans (av.trans aw)))))))));have b:=b.mono (Aa (fg.trans (cc.trans (cd.trans (ce.trans (cf.trans (av.trans aw)))))));have z:=z.mono (Aa (ce.trans (cf.trans (av.trans aw))));have aa:=aa.mono (Aa (av.trans aw));refine Q0 [am,u,m,o,p] (r:=(.vec .byte)) Z Z (fun _=>S3 _ a.one _ b.one _ z.one _ aa.one _ ct.one _) Z (BI 5) hH hh (.c1 ⟨_,Z,a⟩ (.c1 ⟨_,Z,b⟩ (.c1 ⟨_,Z,z⟩ (.c1 ⟨_,Z,aa⟩ (.c1 ⟨_,Z,ct⟩ .nil))))) fun ko kp ju dn i7 hi=>Cj Z Z Z (fun ia bn=>Ee _ _ (An (dn.call bn)) (hi.mono (Aa (AR dn bn))) g) ?_;rintro ia gp kq bn dp ⟨_,rfl,f4⟩;have dq:=dn.call bn;have dr:=dq.call dp;have gq:=AR dq dp;obtain⟨hj,dr,gq,ds⟩:=f4.take hH dq dp;refine D4 1 Z<|BT (fun kr fq=>?_);have hk:=dr.call fq;have gr:=AR dr fq;refine AL ?_;have ds:=ds.mono (Aa gr);refine AA (_,_,_) ⟨hk,ds,h⟩
    refine Aw h fun u k h=>Aw h fun m c h=>A2 h fun d h=>Aw h fun o e h=>Aw h fun p f h=>Aw h fun s g h=>Vo (H:=H) Z Z AcZ Af7 AcY Z bd d fun ks kt jv dt gs du=>Cj Z Z Z (fun ib bo=>BW _ _ (An (dt.call bo)) k) ?_;rintro ib i8 ku bo dv ⟨_,rfl,f5⟩;have dw:=dt.call bo;have fh:=AR dt bo;have dx:=dw.call dv;have fi:=AR dw dv;have ab:=f5.Du hH dw dv;refine Cj Z Z Z (fun ic bp=>BW _ _ (An (dx.call bp)) c) ?_;rintro ic i9 kv bp dy ⟨_,rfl,f6⟩;have dz:=dx.call bp;have cg:=AR dx bp;have bq:=dz.call dy;have ch:=AR dz dy;have ac:=f6.Du hH dz dy;have du:=du.mono (Aa (fh.trans (fi.trans (cg.trans ch))));refine Cj Z Z Z (fun ie ax=>Fp _ _ (An (bq.call ax)) (du.mono (Aa (AR bq ax))) e) ?_;rintro ie ja kw ax d0 ⟨_,rfl,f7⟩;have d1:=bq.call ax;have ci:=AR bq ax;have d2:=d1.call d0;have cj:=AR d1 d0
    have ad:=f7.Du hH d1 d0;refine Cj Z Z Z (fun ig br=>IY _ _ (An (d2.call br)) (b7.mono  Ah) f) ?_;rintro ig jb kx br d3 ⟨_,rfl,f8⟩;have d4:=d2.call br;have ay:=AR d2 br;have hl:=d4.call d3;have az:=AR d4 d3;have cu:=f8.Du hH d4 d3;have a:=a.mono (Aa (gs.trans (fh.trans (fi.trans (cg.trans (ch.trans (ci.trans (cj.trans (ay.trans az)))))))));have ab:=ab.mono (Aa (cg.trans (ch.trans (ci.trans (cj.trans (ay.trans az))))));have ac:=ac.mono (Aa (ci.trans (cj.trans (ay.trans az))));have ad:=ad.mono (Aa (ay.trans az));refine Q0 [am,u,m,o,p] (r:=(.vec .byte)) Z Z (fun _=>S3 _ a.one _ ab.one _ ac.one _ ad.one _ cu.one _) Z (BI 5) hH hl (.c1 ⟨_,Z,a⟩ (.c1 ⟨_,Z,ab⟩ (.c1 ⟨_,Z,ac⟩ (.c1 ⟨_,Z,ad⟩ (.c1 ⟨_,Z,cu⟩ .nil))))) fun ky kz jw d5 jc hm=>Cj Z Z Z (fun ih bs=>Ee _ _ (An (d5.call bs)) (hm.mono (Aa (AR d5 bs))) g) ?_;rintro ih gt k0 bs d6 ⟨_,rfl,f9⟩;have d7:=d5.call bs
    have d8:=d7.call d6;have gu:=AR d7 d6;obtain⟨hn,d8,gu,d9⟩:=f9.take hH d7 d6;refine D4 1 Z<|BT (fun k1 fr=>?_);have ho:=d8.call fr;have gv:=AR d8 fr;refine AL ?_;have d9:=d9.mono (Aa gv);refine AA (_,_,_) ⟨ho,d9,h⟩
   refine Aw h fun am ao h=>Aw h fun u k h=>Aw h fun m c h=>A2 h fun d h=>Aw h fun o e h=>Aw h fun p f h=>Aw h fun s g h=>Vo (H:=H) Z Z AcZ Af7 AcY Z ba d ?_;intro k2 k3 jx bt gw ea;have bb:=bb.mono (Aa gw);refine Cj Z Z Z (fun ii a1=>Fp _ _ (An (bt.call a1)) (bb.mono (Aa (AR bt a1))) ao) ?_;rintro ii jd k4 a1 eb ⟨_,rfl,ga⟩;have ec:=bt.call a1;have gx:=AR bt a1;have ed:=ec.call eb;have gy:=AR ec eb;have ae:=ga.Du hH ec eb;refine Cj Z Z Z (fun ij bu=>BW _ _ (An (ed.call bu)) k) ?_;rintro ij je k5 bu ee ⟨_,rfl,gb⟩;have ef:=ed.call bu;have fj:=AR ed bu;have eg:=ef.call ee;have fk:=AR ef ee;have af:=gb.Du hH ef ee;refine Cj Z Z Z (fun ik bv=>BW _ _ (An (eg.call bv)) c) ?_;rintro ik jf k6 bv eh ⟨_,rfl,gc⟩;have ei:=eg.call bv;have ck:=AR eg bv;have bw:=ei.call eh;have cl:=AR ei eh
   have ag:=gc.Du hH ei eh;have ea:=ea.mono (Aa (gx.trans (gy.trans (fj.trans (fk.trans (ck.trans cl))))));refine Cj Z Z Z (fun il a2=>Fp _ _ (An (bw.call a2)) (ea.mono (Aa (AR bw a2))) e) ?_;rintro il jg k7 a2 ej ⟨_,rfl,gd⟩;have ek:=bw.call a2;have cm:=AR bw a2;have el:=ek.call ej;have cn:=AR ek ej;have ah:=gd.Du hH ek ej;refine Cj Z Z Z (fun im bx=>IY _ _ (An (el.call bx)) (b7.mono  Ah) f) ?_;rintro im jh k8 bx em ⟨_,rfl,ge⟩;have en:=el.call bx;have a3:=AR el bx;have hq:=en.call em;have a4:=AR en em;have cv:=ge.Du hH en em;have ae:=ae.mono (Aa (fj.trans (fk.trans (ck.trans (cl.trans (cm.trans (cn.trans (a3.trans a4))))))));have af:=af.mono (Aa (ck.trans (cl.trans (cm.trans (cn.trans (a3.trans a4))))));have ag:=ag.mono (Aa (cm.trans (cn.trans (a3.trans a4))));have ah:=ah.mono (Aa (a3.trans a4))
   refine Q0 [am,u,m,o,p] (r:=(.vec .byte)) Z Z (fun _=>S3 _ ae.one _ af.one _ ag.one _ ah.one _ cv.one _) Z (BI 5) hH hq (.c1 ⟨_,Z,ae⟩ (.c1 ⟨_,Z,af⟩ (.c1 ⟨_,Z,ag⟩ (.c1 ⟨_,Z,ah⟩ (.c1 ⟨_,Z,cv⟩ .nil))))) fun k9 la jy eo ji hr=>Cj Z Z Z (fun io bz=>Ee _ _ (An (eo.call bz)) (hr.mono (Aa (AR eo bz))) g) ?_;rintro io g0 lb bz ep ⟨_,rfl,gf⟩;have eq:=eo.call bz;have er:=eq.call ep;have g1:=AR eq ep;obtain⟨hs,er,g1,es⟩:=gf.take hH eq ep;refine D4 1 Z<|BT (fun lc fs=>?_);have ht:=er.call fs;have g2:=AR er fs;refine AL ?_;have es:=es.mono (Aa g2);refine AA (_,_,_) ⟨ht,es,h⟩
  refine A2 h fun cy h=>Aw h fun am ao h=>Aw h fun u k h=>Aw h fun m c h=>A2 h fun d h=>Aw h fun o e h=>Aw h fun p f h=>Aw h fun s g h=>Vo (H:=H) Z Z AcZ Af7 AcY Z j d fun ld le jz hu jj et=>Vo (H:=H) Z Z AcZ Af7 AcY Z hu cy fun lf lg j0 b0 g3 hv=>Cj Z Z Z (fun ip a5=>Fp _ _ (An (b0.call a5)) (hv.mono (Aa (AR b0 a5))) ao) ?_;rintro ip jk lh a5 eu ⟨_,rfl,gg⟩;have ev:=b0.call a5;have g4:=AR b0 a5;have ew:=ev.call eu;have g5:=AR ev eu;have ai:=gg.Du hH ev eu;refine Cj Z Z Z (fun iq b2=>BW _ _ (An (ew.call b2)) k) ?_;rintro iq jl li b2 ex ⟨_,rfl,gh⟩;have ey:=ew.call b2;have fl:=AR ew b2;have ez:=ey.call ex;have fm:=AR ey ex;have aj:=gh.Du hH ey ex;refine Cj Z Z Z (fun ir b3=>BW _ _ (An (ez.call b3)) c) ?_;rintro ir jm lj b3 e0 ⟨_,rfl,gi⟩;have e1:=ez.call b3
  have co:=AR ez b3;have b4:=e1.call e0;have cp:=AR e1 e0;have ak:=gi.Du hH e1 e0;have et:=et.mono (Aa (g3.trans (g4.trans (g5.trans (fl.trans (fm.trans (co.trans cp)))))));refine Cj Z Z Z (fun is a6=>Fp _ _ (An (b4.call a6)) (et.mono (Aa (AR b4 a6))) e) ?_;rintro is jn lk a6 e2 ⟨_,rfl,gj⟩;have e3:=b4.call a6;have cq:=AR b4 a6;have e4:=e3.call e2;have cr:=AR e3 e2;have al:=gj.Du hH e3 e2;refine Cj Z Z Z (fun it b5=>IY _ _ (An (e4.call b5)) (b7.mono  Ah) f) ?_;rintro it jo ll b5 e5 ⟨_,rfl,gk⟩;have e6:=e4.call b5;have a7:=AR e4 b5;have hw:=e6.call e5;have a8:=AR e6 e5;have cw:=gk.Du hH e6 e5;have ai:=ai.mono (Aa (fl.trans (fm.trans (co.trans (cp.trans (cq.trans (cr.trans (a7.trans a8))))))));have aj:=aj.mono (Aa (co.trans (cp.trans (cq.trans (cr.trans (a7.trans a8))))));have ak:=ak.mono (Aa (cq.trans (cr.trans (a7.trans a8))));have al:=al.mono (Aa (a7.trans a8))
  refine Q0 [am,u,m,o,p] (r:=(.vec .byte)) Z Z (fun _=>S3 _ ai.one _ aj.one _ ak.one _ al.one _ cw.one _) Z (BI 5) hH hw (.c1 ⟨_,Z,ai⟩ (.c1 ⟨_,Z,aj⟩ (.c1 ⟨_,Z,ak⟩ (.c1 ⟨_,Z,al⟩ (.c1 ⟨_,Z,cw⟩ .nil))))) fun lm ln j1 e7 jp hx=>Cj Z Z Z (fun iu b6=>Ee _ _ (An (e7.call b6)) (hx.mono (Aa (AR e7 b6))) g) ?_;rintro iu g6 lo b6 e8 ⟨_,rfl,gl⟩;have e9:=e7.call b6;have fa:=e9.call e8;have g7:=AR e9 e8;obtain⟨hy,fa,g7,fb⟩:=gl.take hH e9 e8;refine D4 1 Z<|BT (fun lp ft=>?_);have hz:=fa.call ft;have g8:=AR fa ft;refine AL ?_;have fb:=fb.mono (Aa g8);refine AA (_,_,_) ⟨hz,fb,h⟩
 rintro⟨b8,a9,an⟩ j2 ⟨fu,g9,h⟩;refine Ay ?_
 cases h
 refine Al Z ⟨fu.ext,_,Z,(fu.Iq hH (i:=0) Z g9)⟩
def Kb(a:AaV):Option AaV:=
 some a
def It(a0:List Akk):AaV×Int->Option ((AaV×Int) ⊕ (AaV)):=fun⟨b,a⟩=>
 if a<(a0.length:Int) then AN (0<=a/\a<(a0.length:Int)) (Qq4 (Ka ((((a0.getD a.toNat Qq2).1).1,((a0.getD a.toNat Qq2).1).2.1,((a0.getD a.toNat Qq2).1).2.2.1,((a0.getD a.toNat Qq2).1).2.2.2),(a0.getD a.toNat Qq2).2)) (fun c=>AN (Go.E.HK 1 (b.length+c.length)) (AN (Bz (a+1)) (some (Sum.inl ((b++c),(a+1))))))) else Qq7 Sum.inr (Kb b)
def LZ(a0:List Akk)(s:AaV×Int):Option AaV:=Go.L.run (It a0) s
def L9(a0:List Akk):Option AaV:=
 Qq4 (Eb (a0.length:Int)) (fun a=>(LZ a0) (a,0))
theorem V4{a0:List Akk}{g:Value}(p:AJ Akn H g a0){r:AaV}(h:L9 a0=some r):
  Qqv 191 [g,.func (.func 192) #[] #[]] w (fun v w'=>∃ u0,v=u0/\Ck 5 .byte H w w' u0 r):=by
 refine A1 24 [(0,g),(1,.func (.func 192) #[] #[])] func191 Z fun hL=>AI 1 Z<|Bx 1 Z<|Ai (Bm p)<|Aw h fun x1 ay h=>Bf hL (BW _ _ (An hL) ay) ?_;rintro ai w2 ⟨_,rfl,ab⟩ az ag aj;obtain⟨a1,ag,aj,a2⟩:=ab.take hH hL az;refine A8 1 Z<|B2 (AaV×Value×(List Value)) (fun⟨o,j,e⟩=>[(5,j)]) (fun⟨o,j,e⟩ wr=>FX w [.row j 5 1 (o).length e] wr fun Oz=>AH .byte (gz H w wr Oz) o e/\Kb o=some r) ?_ ?_
 ·refine Bx 1 Z<|Ai (Bm p)<|A8 1 Z<|A4 ?_;obtain⟨t,h⟩:=Ba h;refine B7 (AaV×Int×Value×(List Value)×Nat) (fun⟨c,a,d,b,n⟩=>[(1,.func (.func 192) #[] #[]),(5,d),(11,g),(12,No (a0.length:Int)),(13,No a)]) (fun⟨c,a,d,b,n⟩ wr=>FX w [.row d 5 1 (c).length b] wr fun Oz=>AH .byte (gz H w wr Oz) c b/\Ia (It a0) n (c,a)=some r) (fun⟨c,a,d,b,n⟩=>n) (x1,0,ai,a1,t) Z ⟨ag,a2,h⟩ ?_;rintro⟨c,a,d,b,nn50⟩ a7 ⟨q,f,h⟩;obtain⟨t,a9,rfl,h,u⟩:=AZ h;refine AI 1 Z<|AB<|AQ h ?_ ?_<;>intro ak h
  ·refine Ax<|As<|AB<|A4<|Aj<|A2 h fun x h=>Bi p a.toNat (GX x) (AX x) ?_;rintro ba _ ⟨_,_,rfl,⟨_,_,rfl,rfl,⟨_,_,rfl,rfl,⟨_,_,rfl,rfl,rfl⟩⟩⟩,⟨e54v4,rfl,e54h4⟩⟩ al;refine Ai (Cz al (hH.trans q.arg))<|A9 KL.e Z q fun bb bc am ac _=>Af 0 Z am Z (a:=(Bk Z (Bk Z (Bk Z (Bk Z (Bk e54h4.one Kq)))))) fun bd k ad=>Ad<|Au<|Ar 2 Z<|Ai (Az 0 Z KL.e k Z)<|Aw h fun ah an h=>OT k (V3 (a0:=((((a0.getD a.toNat Qq2).1).1,((a0.getD a.toNat Qq2).1).2.1,((a0.getD a.toNat Qq2).1).2.2.1,((a0.getD a.toNat Qq2).1).2.2.2),(a0.getD a.toNat Qq2).2)) _ _ (An k) (e54h4.mono  Ah) an) ?_;rintro a4 be ⟨_,rfl,y⟩ ao ap ae;have z:=y.Du hH k ao;refine A2 h fun aq h=>?_;have f:=f.mono (Aa (ac.trans (ad.trans ae)));refine Bt (r:=.byte) 1 c ah Z Af7 ap Z f z aq fun a3 bf ar au a5 s=>Ar 1 Z<|AL<|A3 ?_
   refine As<|Au<|A2 h fun av h=>Ai (A7 av)<|Ar 1 Z<|AL ?_;have aw:=au.AS (i:=0) Z;have h:=Cf.again h u;have s:=s.mono (Aa (Ak (i:=0) Z));refine AM (_,_,_,_,_) Z ⟨aw,s,h⟩
  refine B4<|AF<|A5 ?_;have h:=Cf.out h u;refine Bg<|AA (_,_,_) ⟨q,f,h⟩
 rintro⟨o,j,e⟩ a8 ⟨aa,af,h⟩;refine AI 2 Z<|Ay ?_
 cases h
 refine Al Z ⟨aa.ext,_,Z,(aa.Iq hH (i:=0) Z af)⟩
end
end Go.Proofs.YtekmbcbgknmhiaaGreatDoor
end
noncomputable section
namespace Go
abbrev Akb:=List Akk
end Go
namespace Go.Proofs.YtekmbcbgknmhiaaGreatDoor
open Go Go.E Go.RowKit Go.L
set_option maxHeartbeats 1000000
set_option maxRecDepth 10000
open _root_.Go.Proofs.Tryz
def Gx(a0:Int×Akb):Option AaV:=
 Qq4 (Eb a0.1) (fun a=>Qq4 (L9 a0.2) (fun b=>AN (Go.E.HK 1 (a.length+b.length)) (some ((a++b)))))
section
variable(w:World)(H:PH)(hH:Le H (hp w)) include hH
theorem Qg{a0:Int×Akb}{c:Value}(ac:AJ Akn H c (a0.2)){r:AaV}(h:Gx a0=some r):
  Qqv 141 [.agg #[No a0.1,c]] w (fun v w'=>∃ u0,v=u0/\Ck 5 .byte H w w' u0 r):=by
 refine A1 10 [(0,.agg #[No a0.1,c])] func141 Z fun hL=>Aj<|CD (t:=49) Z Z hL fun w1 b1 aj ap _=>A8 1 Z<|Ex (.q 0 (.q 1 (.q 3 (.q 4 (.h 2 (.h 5 (.tail 6))))))) mixed Qqb (fun w2 ak=>?_);have e:=aj.call ak;refine CB Z (Ae Z AjF Z CR.e) Z<|CB Z (Ag 0 Z e Z) Z<|CB Z (Ae Z AjF Z Aaj.e) Z<|CB Z (Ag 0 Z e Z) Z<|Aw h fun x4 al h=>Cj Z Z Z (fun w6 j=>BW _ _ (An (e.call j)) al) ?_;rintro w6 au w5 j k ⟨_,rfl,y⟩;have o:=e.call j;have f:=o.call k;have ad:=AR o k;obtain⟨ay,f,ad,p⟩:=y.take hH o k;refine Aw h fun x8 am h=>Cj Z Z Z (fun an a=>V4 _ _ (An (f.call a)) (ac.mono  Ah) am) ?_;rintro an aw w9 a s ⟨_,rfl,z⟩;have d:=f.call a;have aa:=AR f a;have ab:=d.call s;have ae:=AR d s;have b:=z.Du hH d s;refine BT (fun az u=>?_);have af:=ab.call u;have g:=AR ab u;refine A2 h fun ag h=>?_;have p:=p.mono (Aa (aa.trans (ae.trans g)));have b:=b.mono (Aa g)
 refine Bt (r:=.byte) 0 x4 x8 Z Af7 af Z p b ag fun a1 a2 ax x ao ah=>A8 1 Z<|Ay ?_
 cases h
 refine Al Z ⟨x.ext,_,Z,(x.Iq hH (i:=0) Z ah)⟩
def Hh(a0:Int)(b:List Akk):Option ((Int×Akb)×(Int×Int)):=
 Qq4 (Gx (a0,b)) (fun c=>if 16384<(c.length:Int) then Qq4 (DJ (14:Int) (-1:Int)) (fun a=>some ((0,[]),(a.1,a.2))) else some ((a0,b),(0,0)))
def Gy(a0:Int)(a1:List Akk)(b:(List Akh)):Akb×Int->Option ((Akb×Int) ⊕ ((Int×Akb)×(Int×Int))):=fun⟨d,a⟩=>
 if a<(b.length:Int) then AN (0<=a/\a<(b.length:Int)) (Qq4 (Fc (BV [] ((b.getD a.toNat Qq2).1,(b.getD a.toNat Qq2).2.1,(b.getD a.toNat Qq2).2.2.1,(b.getD a.toNat Qq2).2.2.2) a1)) (fun c=>AN (c.length<4611686018427387904) (AN ((M9 c).length<=9223372036854775807) (AN (Go.E.HK 72 (d.length+([(((b.getD a.toNat Qq2).1,(b.getD a.toNat Qq2).2.1,(b.getD a.toNat Qq2).2.2.1,(b.getD a.toNat Qq2).2.2.2),(Lib.compact (M9 c)))]).length)) (AN (Bz (a+1)) (some (Sum.inl ((d++[(((b.getD a.toNat Qq2).1,(b.getD a.toNat Qq2).2.1,(b.getD a.toNat Qq2).2.2.1,(b.getD a.toNat Qq2).2.2.2),(Lib.compact (M9 c)))]),(a+1))))))))) else Qq7 Sum.inr ((Hh a0) d)
def Ld(a0:Int)(a1:List Akk)(a:(List Akh))(s:Akb×Int):Option ((Int×Akb)×(Int×Int)):=Go.L.run (Gy a0 a1 a) s
def Hv(a0:Int)(a1:List Akk):Option ((Int×Akb)×(Int×Int)):=
 Qq4 (Rm a1) (fun a=>(Ld a0 a1 a) (([]:List Akk),0))
theorem Up{a0:Int}{a1:List Akk}{ag:Value}(a9:Wp L5 (.vec (.int .i64)) H ag a1){r:(Int×Akb)×(Int×Int)}(h:Hv a0 a1=some r):
  Qqv 84 [No a0,ag] w (fun v w'=>∃ u0,v=.tuple #[.agg #[No r.1.1,u0],.agg #[No r.2.1,No r.2.2]]/\Ck 203 Akn H w w' u0 (r.1.2)):=by
 refine A1 43 [(0,No a0),(1,ag)] func84 Z fun hL=>Aj<|A9 M5.e Z hL fun w1 b1 cn c0 _=>A9 AE.e Z cn fun w2 b2 co c1 _=>Ad<|Bx 1 Z<|Ai (AT (fun _=>Agj _ _))<|A9 M5.e Z co fun w3 b3 cp c2 _=>Af 0 Z cp Z fun w4 ba c3=>Ad<|B2 (Akb×Value×(List Value)) (fun⟨af,ah,ab⟩=>[(4,(Aad b1)),(5,(Aad b2)),(6,(Aad b3))]) (fun⟨af,ah,ab⟩ wr=>FX w [.row ah 203 5 (af).length ab,.box b3 [No a0,ah] 49,.box b2 [No 0,No 0] 28,.box b1 [No 0,Aac] 49] wr fun Oz=>AH Akn (gz H w wr Oz) af ab/\(Hh a0) af=some r) ?_ ?_
 ·refine Bx 1 Z<|Aw h fun b ci h=>Bf ba (Aat _ _ (An ba) (a9.mono  Ah) ci) ?_;rintro aw du ⟨_,rfl,bb⟩ cj ck cu;have t:=bb.Du hH ba cj;refine Ai (Bm t)<|A8 1 Z<|A4 ?_;obtain⟨bm,bc,bn⟩:=DI Akn H 203 ck;obtain⟨av,h⟩:=Ba h;have t:=t.mono (Aa bc)
  refine B7 (Akb×Int×Value×(List Value)×Nat) (fun⟨g,a,d,e,n⟩=>[(1,ag),(4,(Aad b1)),(5,(Aad b2)),(6,(Aad b3)),(13,aw),(14,No (b.length:Int)),(15,No a)]) (fun⟨g,a,d,e,n⟩ wr=>FX w [.row d 203 5 (g).length e,.box b3 [No a0,d] 49,.box b2 [No 0,No 0] 28,.box b1 [No 0,Aac] 49] wr fun Oz=>AJ (.pair .st (.pair (.int .i64) (.pair (.int .i64) .st))) (gz H w wr Oz) aw b/\AH Akn (gz H w wr Oz) g e/\Ia (Gy a0 a1 b) n (g,a)=some r) (fun⟨g,a,d,e,n⟩=>n) (([]:List Akk),0,Aac,[],av) Z ⟨bm,t,bn,h⟩ ?_;rintro⟨g,a,d,e,nn107⟩ cv ⟨ai,p,u,h⟩;obtain⟨av,c4,rfl,h,ax⟩:=AZ h;refine AI 1 Z<|AB<|AQ h ?_ ?_<;>intro bo h
  ·refine Ax<|As<|AB<|A4<|Aj<|A2 h fun ay h=>Bi p a.toNat (GX ay) (AX ay) ?_;rintro c6 _ ⟨_,_,rfl,rfl,⟨_,_,rfl,rfl,⟨_,_,rfl,rfl,rfl⟩⟩⟩ bp;refine Ai (Cz bp (An ai))<|A9 JQ.e Z ai fun c7 bd bq ap _=>Af 0 Z bq Z fun c8 x aq=>Ad<|Bx 1 Z<|Ai (Az 0 Z JQ.e x Z)<|Abs (k:=((b.getD a.toNat Qq2).1,(b.getD a.toNat Qq2).2.1,(b.getD a.toNat Qq2).2.2.1,(b.getD a.toNat Qq2).2.2.2)) Aec zeroValue58 a9 (hH.trans x.arg) fun c9 br=>Aw h fun aj bs h=>Bf x (Pa _ _ (An x) (br.mono  Ah) bs) ?_;rintro be da ⟨_,rfl,a6⟩ bt ak ae;obtain⟨cw,ak,ae,bu⟩:=a6.take hH x bt;refine A8 1 Z ?_;have y:=ak.rG H;refine Bx 1 Z<|A2 h fun bv h=>U9 (i:=0) Tryz.AaT ⟨Tryz.f139,_,func139,Z,Z⟩ Z hH ak Z (bu.mono y) bv fun db bw az bf al=>Ad ?_
   refine J7 (Jz (Tl (Su (Jz (NP MP))))) (fun z0 z=>Le (gz H w z0 [.row be 3 1 ((M9 aj)).length bw,.box bd [.string ⟨((b.getD a.toNat Qq2).1).toArray⟩,No ((b.getD a.toNat Qq2).2.1),No ((b.getD a.toNat Qq2).2.2.1),.string ⟨((b.getD a.toNat Qq2).2.2.2).toArray⟩] 142,.row d 203 5 (g).length e,.box b3 [No a0,d] 49,.box b2 [No 0,No 0] 28,.box b1 [No 0,Aac] 49]) (hp z)/\z.heap[bd]? = some (.cells [.string ⟨((b.getD a.toNat Qq2).1).toArray⟩,No ((b.getD a.toNat Qq2).2.1),No ((b.getD a.toNat Qq2).2.2.1),.string ⟨((b.getD a.toNat Qq2).2.2.2).toArray⟩].toArray 142 (0,0))/\z.heap[b3]? = some (.cells [No a0,d].toArray 49 (0,0))/\z.heap[b2]? = some (.cells [No 0,No 0].toArray 28 (0,0))/\z.heap[b1]? = some (.cells [No 0,Aac].toArray 49 (0,0))) mixed Z (fun q dd a2=>?_);have j:=az.call a2;have ar:=AR az a2;have c:=j.rG H;refine MQ ⟨c.trans (An j),j.at (i:=1) Z,j.at (i:=3) Z,j.at (i:=4) Z,j.at (i:=5) Z⟩ fun kI125=>A6 0 q kI125 Z (fun _ _=>Ae Z AjF Z Aaj.e) Z ?_
   refine A6 1 q kI125 Z (fun _ hI=>KK Z hI.2.2.1 Z) Z<|A6 2 q kI125 Z (fun _ hI=>LM hI.2.1) Z<|A6 3 q kI125 Z (fun _ _=>Am Z) Z<|FY 4 Z<|A2 h fun bx h=>?_;have al:=al.mono (Aa ar);refine UA (i:=0) Tryz.AaU ⟨Tryz.f140,_,func140,Z,Z⟩ Z hH j Z (al.mono c) bx ?_;intro de df cx f bg bz;have c:=c.trans (Aa bg);refine AV ⟨c.trans (An f),f.at (i:=1) Z,f.at (i:=3) Z,f.at (i:=4) Z,f.at (i:=5) Z⟩ fun kI128=>A6 5 q kI128 Z (fun _ _=>AT (fun _=>Aam _ _ _ _ _ (row_one (f.at (i:=0) Z)) _)) Z<|FY 6 Z ?_;have b0:=f.Du hH (i:=0) Z bz;have b4:=f.AS (i:=0) Z
   refine B9 [(((b.getD a.toNat Qq2).1,(b.getD a.toNat Qq2).2.1,(b.getD a.toNat Qq2).2.2.1,(b.getD a.toNat Qq2).2.2.2),(Lib.compact (M9 aj)))] (r:=Akn) (fun _=>Agr _ _ _ _ _ _) b4 (.c5 ⟨_,_,Z,⟨_,_,Z,Z,⟨_,_,Z,Z,⟨_,_,Z,Z,Z⟩⟩⟩,⟨_,Z,b0⟩⟩ .nil) ?_;intro dg dh cy s bh b5;have c:=c.trans (Aa ((Ak (i:=0) Z).trans bh));refine AV ⟨c.trans (An s),s.at (i:=0) Z,s.at (i:=2) Z,s.at (i:=3) Z,s.at (i:=4) Z⟩ fun kI131=>FY 7 Z<|A2 h fun b6 h=>?_;have u:=u.mono (Aa (ap.trans (aq.trans ae)));have y:=y.trans (Aa (bf.trans ar));refine Bt (r:=Akn) 1 g [(((b.getD a.toNat Qq2).1,(b.getD a.toNat Qq2).2.1,(b.getD a.toNat Qq2).2.2.1,(b.getD a.toNat Qq2).2.2.2),(Lib.compact (M9 aj)))] Z AjE s Z ((u.mono y).mono c) b5 b6 ?_;intro cl di b7 o bi am;have c:=c.trans (Aa bi)
   refine AV ⟨c.trans (An o),o.at (i:=0) Z,o.at (i:=2) Z,o.at (i:=3) Z,o.at (i:=4) Z⟩ fun kI134=>A6 8 q kI134 Z (fun _ _=>Ae Z AjF Z Aaj.e) Z<|FY 9 Z<|B5 2 Z (row_one (o.at (i:=1) Z)) o Z Z fun dj b8 au=>G7<|EF<|A3<|As<|Au<|A2 h fun b9 h=>Ai (A7 b9)<|Ar 1 Z<|AL ?_;have ca:=b8.AS (i:=0) Z;have h:=Cf.again h ax;have p:=p.mono (Aa (ap.trans (aq.trans ae)));have am:=am.mono (Aa (au.trans (Ak (i:=0) Z)));have c:=c.trans (Aa (au.trans (Ak (i:=0) Z)));refine AM (_,_,_,_,_) Z ⟨ca,((p.mono y).mono c),am,h⟩
  refine B4<|AF<|A5 ?_;have h:=Cf.out h ax;refine Bg<|AA (_,_,_) ⟨ai,u,h⟩
 rintro⟨af,ah,ab⟩ dk ⟨an,ac,h⟩;refine AB<|Aj<|Ai (Az 1 Z M5.e an Z)<|Aw h fun dl cb h=>Bf an (Qg (a0:=(a0,af)) _ _ (Le.refl _) (an.RU hH (i:=0) Z ac) cb) ?_;rintro cq dm ⟨_,rfl,a7⟩ cc aa bj;have a8:=(a7.XA Aaa).Du hH an cc;refine Ai (Bm a8)<|A8 1 Z<|AQ h ?_ ?_<;>intro cd h
 ·refine Aj<|Ai (AT (fun _=>XL _))<|Aw h fun dn ce h=>AD aa (Hf _ _ (An aa) ce) fun dp cz cf cr=>Af 3 Z cf Z fun dq cg cs=>Af 2 Z cg Z fun dr ao ct=>Ad<|Ay<|Aq ?_
  cases h
  refine Bo (.cell Z AjF Z M5.e (AG (i:=3) ao Z)) (.cell Z Ajx Z AE.e (AG (i:=2) ao Z)) ⟨ao.ext,_,Z,Ck.nil⟩
 refine Ax<|As<|Aj<|Ai (Az 1 Z M5.e aa Z)<|Ai (AT (fun _=>BM _))<|Af 3 Z aa Z (a:=(Bk Z (Bk (row_one (aa.at (i:=0) Z)) Kq))) fun ds ch bk=>Af 2 Z ch Z fun dt ad bl=>Ad<|Ay ?_
 cases h
 refine Bo (.cell Z AjF Z M5.e (AG (i:=3) ad Z)) (.cell Z Ajx Z AE.e (AG (i:=2) ad Z)) ?_;have ac:=ac.mono (Aa (bj.trans (bk.trans bl)));exact⟨ad.ext,_,Z,(ad.Iq hH (i:=0) Z ac)⟩
def J1(a0:List Pv)(b:List Akk):Option ((Int×Akb)×(Int×Int)):=
 Qq4 (Hv (a0.length:Int) b) (fun a=>some ((a.1.1,a.1.2),(a.2.1,a.2.2)))
def Dg(a0:List Pv):Akb×Int->Option ((Akb×Int) ⊕ ((Int×Akb)×(Int×Int))):=fun⟨d,a⟩=>
 if a<(a0.length:Int) then AN (0<=a/\a<(a0.length:Int)) (Qq4 (EI (a0.getD a.toNat Qq2)) (fun b=>if b.1=0/\b.2=0 then Qq4 (J9 (Kr a) (a0.getD a.toNat Qq2) ([]:List AaV) d) (fun e=>AN (Bz (a+1)) (some (Sum.inl (e,(a+1))))) else Qq4 (DJ b.1 a) (fun c=>Qq7 Sum.inr (some ((0,[]),(c.1,c.2)))))) else Qq7 Sum.inr ((J1 a0) d)
def Lg(a0:List Pv)(s:Akb×Int):Option ((Int×Akb)×(Int×Int)):=Go.L.run (Dg a0) s
def Kt(a0:List Pv):Option ((Int×Akb)×(Int×Int)):=
 if 64<(a0.length:Int) then Qq4 (DJ (2:Int) (-1:Int)) (fun a=>some ((0,[]),(a.1,a.2))) else(Lg a0) (([]:List Akk),0)
theorem Uq{a0:List Pv}{j:Value}(p:AJ .tree H j a0){r:(Int×Akb)×(Int×Int)}(h:Kt a0=some r):
  Qqv 48 [j] w (fun v w'=>∃ u0,v=.tuple #[.agg #[No r.1.1,u0],.agg #[No r.2.1,No r.2.2]]/\AJ Akn (un H (nw w w')) u0 (r.1.2)):=by
 refine A1 41 [(0,j)] func48 Z fun hL=>Aj<|A9 M5.e Z hL fun w1 x bp cg _=>A9 AE.e Z bp fun w2 y ag ch _=>Ad<|AB<|Bx 1 Z<|Ai (Bm p)<|A8 1 Z<|AQ h ?_ ?_<;>intro bq h
 ·refine Aj<|Ai (AT (fun _=>XL _))<|Aw h fun x5 br h=>AD ag (Hf _ _ (An ag) br) fun w6 c3 bs ci=>Af 1 Z bs Z fun w7 bt cj=>Af 0 Z bt Z fun w8 ah ck=>Ad<|Ay<|Aq ?_
  cases h
  refine Bo (.cell Z AjF Z M5.e (AG (i:=1) ah Z)) (.cell Z Ajx Z AE.e (AG (i:=0) ah Z)) ⟨ah.ext,_,Z,(AJ.nil _ _)⟩
 refine Ax<|As<|Aj<|WM L5 (List Int) ag fun c4 g bk cb=>A9 Ah4.e Z bk fun c5 o bl cc _=>B5 0 Z Z bl Z Z fun c6 bm cd=>Ad<|B2 (Akb×(List Value)) (fun⟨m,vsl68⟩=>[(0,j),(2,(Aad x)),(3,(Aad y)),(4,(Aad o))]) (fun⟨m,vsl68⟩ wr=>FX w (Ha [.box o [.map (some g)] 139,RD L5 g m vsl68,.box y [No 0,No 0] 28,.box x [No 0,Aac] 49] (mT cwI 3 1 m vsl68)) wr fun Oz=>(m).length=(vsl68).length/\(J1 a0) m=some r) ?_ ?_
 ·refine Bx 1 Z<|Ai (Bm p)<|A8 1 Z<|A4 ?_;obtain⟨ai,h⟩:=Ba h;refine B7 (Akb×Int×(List Value)×Nat) (fun⟨b,a,vsl97,n⟩=>[(0,j),(2,(Aad x)),(3,(Aad y)),(4,(Aad o)),(14,j),(15,No (a0.length:Int)),(16,No a)]) (fun⟨b,a,vsl97,n⟩ wr=>FX w (Ha [.box o [.map (some g)] 139,RD L5 g b vsl97,.box y [No 0,No 0] 28,.box x [No 0,Aac] 49] (mT cwI 3 1 b vsl97)) wr fun Oz=>(b).length=(vsl97).length/\Ia (Dg a0) n (b,a)=some r) (fun⟨b,a,vsl97,n⟩=>n) (([]:List Akk),0,([]:List Value),ai) Z ⟨bm,Z,h⟩ ?_;rintro⟨b,a,vsl97,nn99⟩ cl ⟨z,ad,h⟩;obtain⟨ai,c7,rfl,h,aa⟩:=AZ h;refine AI 1 Z<|AB<|AQ h ?_ ?_<;>intro ao h
  ·refine Ax<|As<|AB<|A4<|Bx 1 Z<|A2 h fun ae h=>Bi p a.toNat (GX ae) (AX ae) ?_;rintro cm _ e103t0 ap;obtain⟨_,_,rfl,rfl,⟨_,_,rfl,rfl,⟨_,_,rfl,⟨e103v2,rfl,e103h2⟩,⟨_,_,rfl,⟨e103v3,rfl,e103h3⟩,⟨e103v4,rfl,e103h4⟩⟩⟩⟩⟩:=Go.E.Rp.OS e103t0;refine Ai (Cz ap (hH.trans z.arg))<|A9 CR.e Z z fun cn aj aq bu _=>A9 HP.e Z aq fun co ab ar bv _=>B5 1 Z Z ar Z Z fun cp au bw=>Af 0 Z au Z (a:=(Bk Z (Bk Z (Bk e103h2.one (Bk e103h3.one (Bk e103h4.one Kq)))))) fun cq q bx=>Ad<|AB<|Aj<|Ai (Az 0 Z HP.e q Z)<|Aw h fun k av h=>AD q (Ot (a0:=(a0.getD a.toNat Qq2)) _ _ (An q) (e103h2.mono  Ah) (e103h3.mono  Ah) (e103h4.mono  Ah) av) fun cr ce aw bz=>A9 AE.e Z aw fun cs ac ax b0 _=>Af 0 Z ax Z fun ak c b3=>Ad<|Aj<|Ai (Az 0 Z AE.e c Z) ?_
   refine Ai (AT (fun _=>BM _))<|Ai (JO Jh (Nc _ _ _ _))<|Ad<|CX h ?_ ?_<;>intro ay h
   ·refine Aj<|Ai (AT (fun _=>XL _))<|Ai (Ae Z Ajx Z CR.e)<|Ai (Ag 0 Z c Z)<|Ai (Ag 2 Z c Z)<|Aw h fun ct az h=>AD c (Hf _ _ (An c) az) fun cu cf a2 b4=>Af 6 Z a2 Z fun cv a3 b5=>Af 5 Z a3 Z fun cw s b6=>Ad<|Ay<|Aq<|Av<|Aq<|BJ ?_;have h:=Cf.out h aa;refine Av<|Bs ?_
    cases h
    refine Bo (.cell Z AjF Z M5.e (AG (i:=6) s Z)) (.cell Z Ajx Z AE.e (AG (i:=5) s Z)) ⟨s.ext,_,Z,(AJ.nil _ _)⟩
   refine Ax<|As<|Au<|Ai (Az 1 Z HP.e c Z)<|Ar 1 Z ?_;have a4:Bb w (Ha [.box aj [No a] 3,RD L5 g b vsl97,.box ac [No k.1,No k.2] 28,.box ab [No ((a0.getD a.toNat Qq2).f.1),No ((a0.getD a.toNat Qq2).f.2.1),e103v2,e103v3,e103v4] 64,.box o [.map (some g)] 139,.box y [No 0,No 0] 28,.box x [No 0,Aac] 49] (mT cwI 3 1 b vsl97)) ak:=c.C1 [4,3] Z;have a5:Bb w (Ha [.box o [.map (some g)] 139,.box aj [No a] 3,RD L5 g b vsl97,.box ac [No k.1,No k.2] 28,.box ab [No ((a0.getD a.toNat Qq2).f.1),No ((a0.getD a.toNat Qq2).f.2.1),e103v2,e103v3,e103v4] 64,.box y [No 0,No 0] 28,.box x [No 0,Aac] 49] (mT cwI 3 1 b vsl97)) ak:=a4.C1 [4] Z;refine Aw h fun bn a6 h=>?_
   refine ES (XQ hH (O:=[.box ac [No k.1,No k.2] 28,.box ab [No ((a0.getD a.toNat Qq2).f.1),No ((a0.getD a.toNat Qq2).f.2.1),e103v2,e103v3,e103v4] 64,.box y [No 0,No 0] 28,.box x [No 0,Aac] 49]) (i:=a) (l:=b) (vs:=vsl97) (a0:=(a0.getD a.toNat Qq2)) (a1:=([]:List AaV)) a5 (e103h2.mono  Ah) (e103h3.mono  Ah) (e103h4.mono  Ah) (AJ.nil _ _) ad a6) ?_;rintro _ cx ⟨rfl,a7,a8,a9,b7⟩;refine AL<|A3<|As<|Au<|A2 h fun ba h=>Ai (A7 ba)<|Ar 1 Z<|AL ?_;have bb:=a9.AS (i:=1) Z;have bc:=bb.AS (i:=2) Z;have bd:=bc.AS (i:=2) Z;have h:=Cf.again h aa;refine AM (_,_,_,_) Z ⟨bd,a8,h⟩
  refine B4<|AF<|A5 ?_;have h:=Cf.out h aa;refine Bg<|AA (_,_) ⟨z,ad,h⟩
 rintro⟨m,vsl68⟩ cy ⟨al,be,h⟩;refine Bx 1 Z<|Ai (Bm p)<|Ai (Ag 0 Z al Z) ?_;obtain⟨t,b8,bf⟩:=Abr (A:=[.box o [.map (some g)] 139,RD L5 g m vsl68,.box y [No 0,No 0] 28,.box x [No 0,Aac] 49]) (l:=m) (vs:=vsl68) (e:=3) (r:=(.int .i64)) 1 Z Ah2 hH be al Z;refine Aw h fun cz bg h=>Bf t (Up _ _ (An t) bf bg) ?_;rintro _ c0 ⟨b9,rfl,af⟩ bh bi ca;have d:=af.Du hH t bh;refine Ar 2 Z<|Af 2 Z bi Z (a:=(Bk Z (Bk d.one Kq))) fun c1 bj am=>Af 1 Z bj Z fun c2 u an=>Ad<|Ay ?_
 cases h
 refine Bo (.cell Z AjF Z M5.e (AG (i:=2) u Z)) (.cell Z Ajx Z AE.e (AG (i:=1) u Z)) ?_;have d:=d.mono (Aa (am.trans an));exact⟨u.ext,_,Z,(d.mono  EE)⟩
end
end Go.Proofs.YtekmbcbgknmhiaaGreatDoor
end
noncomputable section
namespace Go
abbrev Akm:=(List Int)×Int×Int
end Go
namespace Go
abbrev Akj:=(List Int)×(Int×Int)
end Go
namespace Go.Proofs.YtekmbcbgknmhiaaGreatDoor
open Go Go.E Go.RowKit Go.L
set_option maxHeartbeats 1000000
set_option maxRecDepth 10000
open _root_.Go.Proofs.Tryz
def Hm(_a0:Akh×(List Int)):Option Bool:=
 some true
section
variable(w:World)(H:PH)(hH:Le H (hp w)) include hH
theorem P9{a0:Akh×(List Int)}{a:Value}(_h0_0:AJ (.int .i64) H a (a0.2)){r:Bool}(h:Hm a0=some r):
  Qqv 200 [.agg #[AaM a0.1.1,No a0.1.2.1,No a0.1.2.2.1,AaM a0.1.2.2.2,a]] w (fun v w'=>v=.bool r):=by
 refine A1 3 [(0,.agg #[AaM a0.1.1,No a0.1.2.1,No a0.1.2.2.1,AaM a0.1.2.2.2,a])] func200 Z fun hL=>Aj<|CD (t:=203) Z Z hL fun d e b c _=>A8 1 Z<|AI 1 Z<|Ay ?_
 cases h
 refine Al Z ⟨b.ext,Z⟩
end
def DP(a:List Int):Option ((List Int)):=
 AN (a.length<4611686018427387904) (AN ((M9 a).length<=9223372036854775807) (some ((Lib.compact (M9 a)))))
def DC(a0:Int×Akb)(a1:AaV):(List Int)×Int->Option (((List Int)×Int) ⊕ ((List Int))):=fun⟨b,a⟩=>
 if a<(a0.2.length:Int) then AN (0<=a/\a<(a0.2.length:Int)) (Qq4 (Hm ((((a0.2.getD a.toNat Qq2).1).1,((a0.2.getD a.toNat Qq2).1).2.1,((a0.2.getD a.toNat Qq2).1).2.2.1,((a0.2.getD a.toNat Qq2).1).2.2.2),(a0.2.getD a.toNat Qq2).2)) (fun c=>if c then Qq4 (DV a1 (((a0.2.getD a.toNat Qq2).1).1)) (fun d=>if d then AN (Go.E.HK 8 (b.length+((a0.2.getD a.toNat Qq2).2).length)) (AN (Bz (a+1)) (some (Sum.inl ((b++(a0.2.getD a.toNat Qq2).2),(a+1))))) else AN (Bz (a+1)) (some (Sum.inl (b,(a+1))))) else AN (Bz (a+1)) (some (Sum.inl (b,(a+1)))))) else Qq7 Sum.inr (DP b)
def GZ(a0:Int×Akb)(a1:AaV)(s:(List Int)×Int):Option ((List Int)):=Go.L.run (DC a0 a1) s
def Fe(a0:Int×Akb)(a1:AaV):Option ((List Int)):=
 (GZ a0 a1) (([]:List Int),0)
theorem Pb{x w:World}{H:PH}(hH:Le H (hp x)){O:List BS}{a0:Int×Akb}{a1:AaV}{va0_1:Value}(hL:Bb x (Ha [] O) w)(q:AJ Akn (gz H x w (Ha [] O)) va0_1 (a0.2)){r:(List Int)}(h:Fe a0 a1=some r):
  Ok prog 199 [.agg #[No a0.1,va0_1],AaM a1,.func (.func 200) #[] #[]] w (fun v w'=>∃ (u0:Value) (y0:List Value),v=u0/\Bb x (Ha [.row u0 3 1 (r).length y0] O) w'/\Le (fz w (Ha [] O)) (fz w' (Ha [.row u0 3 1 (r).length y0] O))/\AH (.int .i64) (gz H x w' (Ha [.row u0 3 1 (r).length y0] O)) r y0):=by
 refine Ds (n:=36) [(0,.agg #[No a0.1,va0_1]),(1,(AaM a1)),(2,.func (.func 200) #[] #[])] func199 Z Z Z Z ?_;have hT:=Le.refl (fz w (Ha [] O));refine Aj<|CD (t:=49) Z Z hL fun w1 b1 bl ah _=>A8 1 Z<|Bx 1 Z ?_;obtain⟨ba,ai,bm⟩:=DI (.int .i64) H 3 bl;refine Ad<|B2 ((List Int)×Value×(List Value)) (fun⟨ae,y,s⟩=>[(7,y)]) (fun⟨ae,y,s⟩ wr=>FX x (Ha [.row y 3 1 (ae).length s,.box b1 [No a0.1,va0_1] 49] O) wr fun Oz=>AH (.int .i64) (gz H x wr Oz) ae s/\AJ Akn (gz H x wr Oz) va0_1 (a0.2)/\Le (fz w (Ha [] O)) (fz wr Oz)/\DP ae=some r) ?_ ?_
 ·refine Aj<|Ai (Ae Z AjF Z Aaj.e)<|Ai (Ag 1 Z ba Z) ?_;have q:=q.mono (Aa (ah.trans ai));refine Ai (Bm q)<|A8 1 Z<|A4 ?_;obtain⟨af,h⟩:=Ba h;have hT:=hT.trans (ah.trans ai);refine B7 ((List Int)×Int×Value×(List Value)×Nat) (fun⟨k,a,o,g,n⟩=>[(1,(AaM a1)),(2,.func (.func 200) #[] #[]),(7,o),(11,va0_1),(12,No (a0.2.length:Int)),(13,No a)]) (fun⟨k,a,o,g,n⟩ wr=>FX x (Ha [.row o 3 1 (k).length g,.box b1 [No a0.1,va0_1] 49] O) wr fun Oz=>AJ Akn (gz H x wr Oz) va0_1 (a0.2)/\AH (.int .i64) (gz H x wr Oz) k g/\Le (fz w (Ha [] O)) (fz wr Oz)/\Ia (DC a0 a1) n (k,a)=some r) (fun⟨k,a,o,g,n⟩=>n) (([]:List Int),0,Aac,[],af) Z ⟨ba,q,bm,hT,h⟩ ?_;rintro⟨k,a,o,g,nn83⟩ bp ⟨aj,b,d,hT,h⟩;obtain⟨af,bw,rfl,h,z⟩:=AZ h;refine AI 1 Z<|AB<|AQ h ?_ ?_<;>intro bb h
  ·refine Ax<|As<|AB<|A4<|Aj<|A2 h fun al h=>Bi b a.toNat (GX al) (AX al) ?_;rintro bx _ ⟨_,_,rfl,⟨_,_,rfl,rfl,⟨_,_,rfl,rfl,⟨_,_,rfl,rfl,rfl⟩⟩⟩,⟨e87v4,rfl,e87h4⟩⟩ bc;refine Ai (Cz bc (An aj))<|A9 KL.e Z aj fun bz b0 bd e _=>Af 0 Z bd Z (a:=(Bk Z (Bk Z (Bk Z (Bk Z (Bk e87h4.one Kq)))))) fun b2 aa f=>Ad ?_;have c:=aa.rG H;refine Bx 1 Z<|Ai (Az 0 Z KL.e aa Z)<|Aw h fun b3 be h=>?_;have e87h4:=e87h4.mono (Aa (e.trans f));refine OT aa (P9 _ _ (An aa) (e87h4.mono c) be) ?_;rintro _ b4 rfl bq ab p;refine Ar 1 Z<|Fs 20 h ?_ ?_<;>intro j h
   ·refine Ab j<|Ai (Am Z)<|Ab j<|Ai (Ae Z AjD Z JQ.e)<|Ab j<|Ai (Ae Z Ajw Z HO.e)<|Ab j<|Ai (Ag 0 Z ab Z)<|Ab j<|Aw h fun b5 bf h=>AD ab (LS _ _ (An ab) bf) fun b6 br ak u=>Ai (AK j Z)<|Ad<|B8 h ?_ ?_<;>intro bg h
    ·refine Au<|Ar 1 Z<|Ai (Ae Z AjD Z Sy.e)<|Ai (Ag 0 Z ak Z)<|A2 h fun ap h=>?_;have d:=d.mono (Aa (e.trans f));have c:=c.trans (Aa (p.trans u));refine Bt (r:=(.int .i64)) 1 k ((a0.2.getD a.toNat Qq2).2) Z AhD ak Z (d.mono c) (e87h4.mono c) ap fun bh bs aq ar ag ac=>Ar 1 Z<|AL<|A3<|As<|Au<|A2 h fun au h=>Ai (A7 au)<|Ar 1 Z<|AL ?_;have av:=ar.AS (i:=0) Z;have h:=Cf.again h z;have b:=b.mono (Aa (e.trans f));have hT:=hT.trans (e.trans (f.trans (p.trans (u.trans (ag.trans (Ak (i:=0) Z))))));have c:=c.trans (Aa (ag.trans (Ak (i:=0) Z)));have ac:=ac.mono (Aa (Ak (i:=0) Z));refine AM (_,_,_,_,_) Z ⟨av,(b.mono c),ac,hT,h⟩
    refine Ax<|A3<|As<|Au<|A2 h fun aw h=>Ai (A7 aw)<|Ar 1 Z<|AL ?_;have ax:=ak.AS (i:=0) Z;have h:=Cf.again h z;have b:=b.mono (Aa (e.trans f));have d:=d.mono (Aa (e.trans f));have hT:=hT.trans (e.trans (f.trans (p.trans (u.trans (Ak (i:=0) Z)))));have c:=c.trans (Aa (p.trans (u.trans (Ak (i:=0) Z))));refine AM (_,_,_,_,_) Z ⟨ax,(b.mono c),(d.mono c),hT,h⟩
   iterate 5 refine Ao j ?_
   refine Ai (AO j Z)<|Ad<|G5<|Ax<|A3<|As<|Au<|A2 h fun ay h=>Ai (A7 ay)<|Ar 1 Z<|AL ?_;have az:=ab.AS (i:=0) Z;have h:=Cf.again h z;have b:=b.mono (Aa (e.trans f));have d:=d.mono (Aa (e.trans f));have hT:=hT.trans (e.trans (f.trans (p.trans (Ak (i:=0) Z))));have c:=c.trans (Aa (p.trans (Ak (i:=0) Z)));refine AM (_,_,_,_,_) Z ⟨az,(b.mono c),(d.mono c),hT,h⟩
  refine B4<|AF<|A5 ?_;have h:=Cf.out h z;refine Bg<|AA (_,_,_) ⟨aj,d,b,hT,h⟩
 have hT:=hT.trans (ah.trans ai);rintro⟨ae,y,s⟩ bt ⟨bi,a2,bn,hT,h⟩;refine Bx 1 Z<|A2 h fun a3 h=>U9 (i:=0) Tryz.AaT ⟨Tryz.f139,_,func139,Z,Z⟩ Z hH bi Z a2 a3 fun bu bo a4 am a5=>Ad<|Bx 1 Z<|A2 h fun a6 h=>UA (i:=0) Tryz.AaU ⟨Tryz.f140,_,func140,Z,Z⟩ Z hH a4 Z a5 a6 fun bj bv a7 a8 an ad=>A8 1 Z<|Ay ?_
 cases h
 refine Al Z ?_;have a9:=a8.AS (i:=1) Z;have hT:=hT.trans (am.trans (an.trans (Ak (i:=1) Z)));have ad:=ad.mono (Aa (Ak (i:=1) Z));exact⟨bj,a7,Z,a9,hT,ad⟩
def Fz(a0:Int×Akb)(a1:AaV):Option Akj:=
 Qq4 (Hu a1) (fun a=>if a.1=0/\a.2=0 then Qq4 (Fe (a0.1,a0.2) a1) (fun b=>some (b,(0,0))) else some ([],(a.1,a.2)))
section
variable(w:World)(H:PH)(hH:Le H (hp w)) include hH
theorem QG{a0:Int×Akb}{a1:AaV}{b:Value}(k:AJ Akn H b (a0.2)){r:(List Int)×(Int×Int)}(h:Fz a0 a1=some r):
  Qqv 149 [.agg #[No a0.1,b],AaM a1] w (fun v w'=>∃ s,v=.tuple #[s,.agg #[No r.2.1,No r.2.2]]/\Ck 3 (.int .i64) H w w' s (r.1)):=by
 refine A1 17 [(0,.agg #[No a0.1,b]),(1,(AaM a1))] func149 Z fun hL=>Aj<|CD (t:=49) Z Z hL fun w1 b1 u ah _=>Ar 1 Z<|A9 AE.e Z u fun w2 b2 j aj _=>Ad<|AB<|Bx 1 Z<|Aw h fun x y h=>AD j (Lc _ _ (An j) y) fun w4 ao z ak=>A9 AE.e Z z fun w5 b5 aa am _=>Af 0 Z aa Z fun w6 d an=>Ad<|Aj<|Ai (Az 0 Z AE.e d Z)<|Ai (AT (fun _=>BM _))<|Ai (JO Jh (Nc _ _ _ _))<|Ad<|CX h ?_ ?_<;>intro ab h
 ·refine Ex (.q 0 (.q 1 (.tail 2))) mixed Qqb (fun w9 ac=>?_);have e:=d.call ac;refine CB Z (Az 0 Z AE.e e Z) Z<|D4 1 Z<|BT (fun ap l=>?_);have m:=e.call l;refine Af 1 Z m Z fun aq f ad=>Ad<|Ay<|Aq ?_
  cases h
  refine Bo (.tmp Z) (.cell Z Ajx Z AE.e (AG (i:=1) f Z)) ⟨f.ext,_,Z,Ck.nil⟩
 refine Ax<|As<|Aj<|Ai (Az 2 Z M5.e d Z)<|Ar 1 Z<|Aw h fun ar o h=>ES (Pb (a0:=(a0.1,a0.2)) (a1:=a1) (O:=[.box b5 [No x.1,No x.2] 28,.box b2 [No 0,No 0] 28,.box b1 [No a0.1,b] 49]) hH d (k.mono  Ah) o) ?_;rintro ae au ⟨_,y16_0,rfl,p,af,a⟩;refine Ai (AT (fun _=>BM _))<|Ar 1 Z<|Af 2 Z p Z fun av c g=>Ad<|Ay ?_
 cases h
 refine Bo (.tmp Z) (.cell Z Ajx Z AE.e (AG (i:=2) c Z)) ?_;have a:=a.mono (Aa g);exact⟨c.ext,_,Z,(c.Iq hH (i:=0) Z a)⟩
end
def DG(a0:Akh×(List Int))(a1 a2:Int):Option (Bool×Int×Int):=
 if a0.1.2.1=1 then if a1<=a0.1.2.2.1 then some (decide (a0.1.2.2.1<=a2),a1,a2) else some (false,a1,a2) else some (false,a1,a2)
theorem OB{e w:World}{H:PH}(hH:Le H (hp e)){O:List BS}{a0:Akh×(List Int)}{a1 a2:Int}{va0_4:Value}{ba1 ba2:Nat}(hL:Bb e (Ha [.box ba1 [No a1] 3,.box ba2 [No a2] 3] O) w)(k:AJ (.int .i64) (gz H e w (Ha [.box ba1 [No a1] 3,.box ba2 [No a2] 3] O)) va0_4 (a0.2)){r:Bool×Int×Int}(h:DG a0 a1 a2=some r):
  Ok prog 201 [.agg #[AaM a0.1.1,No a0.1.2.1,No a0.1.2.2.1,AaM a0.1.2.2.2,va0_4],Aad ba1,Aad ba2] w (fun v w'=>v=.bool r.1/\Bb e (Ha [.box ba1 [No r.2.1] 3,.box ba2 [No r.2.2] 3] O) w'/\Le (fz w (Ha [.box ba1 [No a1] 3,.box ba2 [No a2] 3] O)) (fz w' (Ha [.box ba1 [No r.2.1] 3,.box ba2 [No r.2.2] 3] O))):=by
 refine Ds (n:=23) [(0,.agg #[AaM a0.1.1,No a0.1.2.1,No a0.1.2.2.1,AaM a0.1.2.2.2,va0_4]),(1,(Aad ba1)),(2,(Aad ba2))] func201 Z Z Z Z ?_;have hT:=Le.refl (fz w (Ha [.box ba1 [No a1] 3,.box ba2 [No a2] 3] O));refine Aj<|CD (t:=203) Z Z hL fun l m c d _=>A8 1 Z<|Aj<|Ai (Ae Z AjD Z JQ.e)<|Ai (Ae Z Ajw Z CR.e)<|Ai (Ag 0 Z c Z)<|Ar 2 Z<|CI 9 h ?_ ?_<;>intro a h
 ·refine Ab a<|Ai (Ae Z AjD Z JQ.e)<|Ab a<|Ai (Ae Z Ajw Z CR.e)<|Ab a<|Ai (Ag 0 Z c Z)<|Ab a<|Ai (Ag 1 Z c Z)<|Ab a<|Ai (Am Z)<|Ai (AK a Z)<|Ar 1 Z<|CI 16 h ?_ ?_<;>intro b h
  ·refine Ab b<|Ai (Ae Z AjD Z JQ.e)<|Ab b<|Ai (Ae Z Ajw Z CR.e)<|Ab b<|Ai (Ag 0 Z c Z)<|Ab b<|Ai (Ag 2 Z c Z)<|Ab b<|Ai (Am Z)<|Ai (AK b Z)<|A8 1 Z<|Ay ?_
   cases h
   refine Al Z ?_;have g:=c.AS (i:=0) Z;have hT:=hT.trans (d.trans (Ak (i:=0) Z));exact⟨Z,g,hT⟩
  iterate 5 refine Ao b ?_
  refine Ai (AO b Z)<|A8 1 Z<|Ay ?_
  cases h
  refine Al Z ?_;have j:=c.AS (i:=0) Z;have hT:=hT.trans (d.trans (Ak (i:=0) Z));exact⟨Z,j,hT⟩
 iterate 5 refine Ao a ?_
 refine Ai (AO a Z)<|Ar 1 Z ?_
 iterate 5 refine Ao Z ?_
 refine Ai (AO Z Z)<|A8 1 Z<|Ay ?_
 cases h
 refine Al Z ?_;have f:=c.AS (i:=0) Z;have hT:=hT.trans (d.trans (Ak (i:=0) Z));exact⟨Z,f,hT⟩
def Dh(a:List Int)(b c:Int):Option Akm:=
 AN (a.length<4611686018427387904) (AN ((M9 a).length<=9223372036854775807) (some ((Lib.compact (M9 a)),b,c)))
def CU(a0:Int×Akb)(a1:AaV):(List Int)×Int×Int×Int->Option (((List Int)×Int×Int×Int) ⊕ Akm):=fun⟨c,d,e,a⟩=>
 if a<(a0.2.length:Int) then AN (0<=a/\a<(a0.2.length:Int)) (Qq4 (DG ((((a0.2.getD a.toNat Qq2).1).1,((a0.2.getD a.toNat Qq2).1).2.1,((a0.2.getD a.toNat Qq2).1).2.2.1,((a0.2.getD a.toNat Qq2).1).2.2.2),(a0.2.getD a.toNat Qq2).2) d e) (fun b=>if b.1 then Qq4 (DV a1 (((a0.2.getD a.toNat Qq2).1).1)) (fun f=>if f then AN (Go.E.HK 8 (c.length+((a0.2.getD a.toNat Qq2).2).length)) (AN (Bz (a+1)) (some (Sum.inl ((c++(a0.2.getD a.toNat Qq2).2),b.2.1,b.2.2,(a+1))))) else AN (Bz (a+1)) (some (Sum.inl (c,b.2.1,b.2.2,(a+1))))) else AN (Bz (a+1)) (some (Sum.inl (c,b.2.1,b.2.2,(a+1)))))) else Qq7 Sum.inr (Dh c d e)
def F0(a0:Int×Akb)(a1:AaV)(s:(List Int)×Int×Int×Int):Option Akm:=Go.L.run (CU a0 a1) s
def DQ(a0:Int×Akb)(a1:AaV)(a2_c0 a2_c1:Int):Option Akm:=
 (F0 a0 a1) (([]:List Int),a2_c0,a2_c1,0)
theorem NY{s w:World}{H:PH}(hH:Le H (hp s)){O:List BS}{a0:Int×Akb}{a1:AaV}{a2_c0 a2_c1:Int}{va0_1:Value}{ba2_c0 ba2_c1:Nat}(hL:Bb s (Ha [.box ba2_c0 [No a2_c0] 3,.box ba2_c1 [No a2_c1] 3] O) w)(aa:AJ Akn (gz H s w (Ha [.box ba2_c0 [No a2_c0] 3,.box ba2_c1 [No a2_c1] 3] O)) va0_1 (a0.2)){r:(List Int)×Int×Int}(h:DQ a0 a1 a2_c0 a2_c1=some r):
  Ok prog 199 [.agg #[No a0.1,va0_1],AaM a1,.func (.func 201) #[] #[Aad ba2_c0,Aad ba2_c1]] w (fun v w'=>∃ (u0:Value) (y0:List Value),v=u0/\Bb s (Ha [.row u0 3 1 (r.1).length y0,.box ba2_c0 [No r.2.1] 3,.box ba2_c1 [No r.2.2] 3] O) w'/\Le (fz w (Ha [.box ba2_c0 [No a2_c0] 3,.box ba2_c1 [No a2_c1] 3] O)) (fz w' (Ha [.row u0 3 1 (r.1).length y0,.box ba2_c0 [No r.2.1] 3,.box ba2_c1 [No r.2.2] 3] O))/\AH (.int .i64) (gz H s w' (Ha [.row u0 3 1 (r.1).length y0,.box ba2_c0 [No r.2.1] 3,.box ba2_c1 [No r.2.2] 3] O)) (r.1) y0):=by
 refine Ds (n:=36) [(0,.agg #[No a0.1,va0_1]),(1,(AaM a1)),(2,.func (.func 201) #[] #[Aad ba2_c0,Aad ba2_c1])] func199 Z Z Z Z ?_;have hT:=Le.refl (fz w (Ha [.box ba2_c0 [No a2_c0] 3,.box ba2_c1 [No a2_c1] 3] O));refine Aj<|CD (t:=49) Z Z hL fun w1 b1 b5 aq _=>A8 1 Z<|Bx 1 Z ?_;obtain⟨bt,ar,b6⟩:=DI (.int .i64) H 3 b5;refine Ad<|B2 ((List Int)×Int×Int×Value×(List Value)) (fun⟨ak,av,aw,ae,ab⟩=>[(7,ae)]) (fun⟨ak,av,aw,ae,ab⟩ wr=>FX s (Ha [.row ae 3 1 (ak).length ab,.box b1 [No a0.1,va0_1] 49,.box ba2_c0 [No av] 3,.box ba2_c1 [No aw] 3] O) wr fun Oz=>AH (.int .i64) (gz H s wr Oz) ak ab/\AJ Akn (gz H s wr Oz) va0_1 (a0.2)/\Le (fz w (Ha [.box ba2_c0 [No a2_c0] 3,.box ba2_c1 [No a2_c1] 3] O)) (fz wr Oz)/\Dh ak av aw=some r) ?_ ?_
 ·refine Aj<|Ai (Ae Z AjF Z Aaj.e)<|Ai (Ag 1 Z bt Z) ?_;have aa:=aa.mono (Aa (aq.trans ar));refine Ai (Bm aa)<|A8 1 Z<|A4 ?_;obtain⟨al,h⟩:=Ba h;have hT:=hT.trans (aq.trans ar);refine B7 ((List Int)×Int×Int×Int×Value×(List Value)×Nat) (fun⟨o,y,z,a,j,d,n⟩=>[(1,(AaM a1)),(2,.func (.func 201) #[] #[Aad ba2_c0,Aad ba2_c1]),(7,j),(11,va0_1),(12,No (a0.2.length:Int)),(13,No a)]) (fun⟨o,y,z,a,j,d,n⟩ wr=>FX s (Ha [.row j 3 1 (o).length d,.box b1 [No a0.1,va0_1] 49,.box ba2_c0 [No y] 3,.box ba2_c1 [No z] 3] O) wr fun Oz=>AJ Akn (gz H s wr Oz) va0_1 (a0.2)/\AH (.int .i64) (gz H s wr Oz) o d/\Le (fz w (Ha [.box ba2_c0 [No a2_c0] 3,.box ba2_c1 [No a2_c1] 3] O)) (fz wr Oz)/\Ia (CU a0 a1) n (o,y,z,a)=some r) (fun⟨o,y,z,a,j,d,n⟩=>n) (([]:List Int),a2_c0,a2_c1,0,Aac,[],al) Z ⟨bt,aa,b6,hT,h⟩ ?_;rintro⟨o,y,z,a,j,d,nn92⟩ cb ⟨au,c,e,hT,h⟩
  obtain⟨al,cg,rfl,h,af⟩:=AZ h;refine AI 1 Z<|AB<|AQ h ?_ ?_<;>intro bv h
  ·refine Ax<|As<|AB<|A4<|Aj<|A2 h fun a8 h=>Bi c a.toNat (GX a8) (AX a8) ?_;rintro ch _ ⟨_,_,rfl,⟨_,_,rfl,rfl,⟨_,_,rfl,rfl,⟨_,_,rfl,rfl,rfl⟩⟩⟩,⟨e96v4,rfl,e96h4⟩⟩ bw;refine Ai (Cz bw (An au))<|A9 KL.e Z au fun ci bu bx f _=>Af 0 Z bx Z (a:=(Bk Z (Bk Z (Bk Z (Bk Z (Bk e96h4.one Kq)))))) fun b7 ag g=>Ad ?_;have b:=ag.rG H;refine Bx 1 Z<|Ai (Az 0 Z KL.e ag Z) ?_;have ax:Bb s (Ha [.box ba2_c0 [No y] 3,.box ba2_c1 [No z] 3,.box bu [.string ⟨(((a0.2.getD a.toNat Qq2).1).1).toArray⟩,No (((a0.2.getD a.toNat Qq2).1).2.1),No (((a0.2.getD a.toNat Qq2).1).2.2.1),.string ⟨(((a0.2.getD a.toNat Qq2).1).2.2.2).toArray⟩,e96v4] 203,.row j 3 1 (o).length d,.box b1 [No a0.1,va0_1] 49] O) b7:=ag.C1 [4,4] Z;have u:=B3 [4,4] ag ax Z;refine Aw h fun k bd h=>?_;have e96h4:=e96h4.mono (Aa (f.trans g));have b:=b.trans (Aa u)
   refine Fl Z Z (OB (a0:=((((a0.2.getD a.toNat Qq2).1).1,((a0.2.getD a.toNat Qq2).1).2.1,((a0.2.getD a.toNat Qq2).1).2.2.1,((a0.2.getD a.toNat Qq2).1).2.2.2),(a0.2.getD a.toNat Qq2).2)) (a1:=y) (a2:=z) (O:=(Ha [.box bu [.string ⟨(((a0.2.getD a.toNat Qq2).1).1).toArray⟩,No (((a0.2.getD a.toNat Qq2).1).2.1),No (((a0.2.getD a.toNat Qq2).1).2.2.1),.string ⟨(((a0.2.getD a.toNat Qq2).1).2.2.2).toArray⟩,e96v4] 203,.row j 3 1 (o).length d,.box b1 [No a0.1,va0_1] 49] O)) hH ax (e96h4.mono b) bd) ?_;rintro _ bz ⟨rfl,ac,q⟩;refine Ar 1 Z<|Fs 20 h ?_ ?_<;>intro p h
   ·refine Ab p<|Ai (Am Z)<|Ab p<|Ai (Ae Z AjD Z JQ.e)<|Ab p<|Ai (Ae Z Ajw Z HO.e)<|Ab p<|Ai (Ag 2 Z ac Z)<|Ab p<|Aw h fun cc be h=>AD ac (LS _ _ (An ac) be) fun b0 b9 ah x=>Ai (AK p Z)<|Ad<|B8 h ?_ ?_<;>intro bf h
    ·refine Au<|Ar 1 Z<|Ai (Ae Z AjD Z Sy.e)<|Ai (Ag 2 Z ah Z)<|A2 h fun bg h=>?_;have e:=e.mono (Aa (f.trans g));have b:=b.trans (Aa (q.trans x));refine Bt (r:=(.int .i64)) 3 o ((a0.2.getD a.toNat Qq2).2) Z AhD ah Z (e.mono b) (e96h4.mono b) bg fun a9 b2 ay bh am ai=>Ar 1 Z<|AL<|A3<|As<|Au<|A2 h fun bi h=>Ai (A7 bi)<|Ar 1 Z<|AL ?_;have az:=bh.AS (i:=2) Z;have a3:Bb s (Ha [.row a9 3 1 ((o++(a0.2.getD a.toNat Qq2).2)).length ay,.box b1 [No a0.1,va0_1] 49,.box ba2_c0 [No k.2.1] 3,.box ba2_c1 [No k.2.2] 3] O) b2:=az.C1 [3,3] Z;have ad:=B3 [3,3] az a3 Z;have h:=Cf.again h af;have c:=c.mono (Aa (f.trans g));have hT:=hT.trans (f.trans (g.trans (u.trans (q.trans (x.trans (am.trans ((Ak (i:=2) Z).trans ad)))))));have b:=b.trans (Aa (am.trans ((Ak (i:=2) Z).trans ad)))
     have ai:=ai.mono (Aa ((Ak (i:=2) Z).trans ad));refine AM ((o++(a0.2.getD a.toNat Qq2).2),k.2.1,k.2.2,(a+1),a9,ay,al) Z ⟨a3,(c.mono b),ai,hT,h⟩
    refine Ax<|A3<|As<|Au<|A2 h fun bj h=>Ai (A7 bj)<|Ar 1 Z<|AL ?_;have a4:=ah.AS (i:=2) Z;have a5:Bb s (Ha [.row j 3 1 (o).length d,.box b1 [No a0.1,va0_1] 49,.box ba2_c0 [No k.2.1] 3,.box ba2_c1 [No k.2.2] 3] O) b0:=a4.C1 [3,3] Z;have an:=B3 [3,3] a4 a5 Z;have h:=Cf.again h af;have c:=c.mono (Aa (f.trans g));have e:=e.mono (Aa (f.trans g));have hT:=hT.trans (f.trans (g.trans (u.trans (q.trans (x.trans ((Ak (i:=2) Z).trans an))))));have b:=b.trans (Aa (q.trans (x.trans ((Ak (i:=2) Z).trans an))));refine AM (o,k.2.1,k.2.2,(a+1),j,d,al) Z ⟨a5,(c.mono b),(e.mono b),hT,h⟩
   iterate 5 refine Ao p ?_
   refine Ai (AO p Z)<|Ad<|G5<|Ax<|A3<|As<|Au<|A2 h fun bk h=>Ai (A7 bk)<|Ar 1 Z<|AL ?_;have a6:=ac.AS (i:=2) Z;have a7:Bb s (Ha [.row j 3 1 (o).length d,.box b1 [No a0.1,va0_1] 49,.box ba2_c0 [No k.2.1] 3,.box ba2_c1 [No k.2.2] 3] O) bz:=a6.C1 [3,3] Z;have ao:=B3 [3,3] a6 a7 Z;have h:=Cf.again h af;have c:=c.mono (Aa (f.trans g));have e:=e.mono (Aa (f.trans g));have hT:=hT.trans (f.trans (g.trans (u.trans (q.trans ((Ak (i:=2) Z).trans ao)))));have b:=b.trans (Aa (q.trans ((Ak (i:=2) Z).trans ao)));refine AM (o,k.2.1,k.2.2,(a+1),j,d,al) Z ⟨a7,(c.mono b),(e.mono b),hT,h⟩
  refine B4<|AF<|A5 ?_;have h:=Cf.out h af;refine Bg<|AA (_,_,_,_,_) ⟨au,e,c,hT,h⟩
 have hT:=hT.trans (aq.trans ar);rintro⟨ak,av,aw,ae,ab⟩ cd ⟨b3,bl,b8,hT,h⟩;refine Bx 1 Z<|A2 h fun bm h=>U9 (i:=0) Tryz.AaT ⟨Tryz.f139,_,func139,Z,Z⟩ Z hH b3 Z bl bm fun ce ca bn ba bo=>Ad<|Bx 1 Z<|A2 h fun bp h=>UA (i:=0) Tryz.AaU ⟨Tryz.f140,_,func140,Z,Z⟩ Z hH bn Z bo bp fun b4 cf bq br bb aj=>A8 1 Z<|Ay ?_
 cases h
 refine Al Z ?_;have bs:=br.AS (i:=1) Z;have hT:=hT.trans (ba.trans (bb.trans (Ak (i:=1) Z)));have aj:=aj.mono (Aa (Ak (i:=1) Z));exact⟨b4,bq,Z,bs,hT,aj⟩
def Ey(a0:Int×Akb)(a1:AaV)(a2 a3:Int):Option Akj:=
 Qq4 (Hu a1) (fun a=>if a.1=0/\a.2=0 then(if a3<a2 then Qq4 (DJ (4:Int) (-3:Int)) (fun b=>some ([],(b.1,b.2))) else Qq4 (DQ (a0.1,a0.2) a1 a2 a3) (fun c=>some (c.1,(0,0)))) else some ([],(a.1,a.2)))
section
variable(w:World)(H:PH)(hH:Le H (hp w)) include hH
theorem PA{a0:Int×Akb}{a1:AaV}{a2 a3:Int}{b:Value}(m:AJ Akn H b (a0.2)){r:(List Int)×(Int×Int)}(h:Ey a0 a1 a2 a3=some r):
  Qqv 150 [.agg #[No a0.1,b],AaM a1,No a2,No a3] w (fun v w'=>∃ u0,v=.tuple #[u0,.agg #[No r.2.1,No r.2.2]]/\Ck 3 (.int .i64) H w w' u0 (r.1)):=by
 refine A1 26 [(0,.agg #[No a0.1,b]),(1,(AaM a1)),(2,No a2),(3,No a3)] func150 Z fun hL=>Aj<|CD (t:=49) Z Z hL fun w1 b1 ae au _=>Q1 (t:=3) Z Z ae fun w2 b2 af aw _=>Q1 (t:=3) Z Z af fun w3 b3 ag ay _=>Ar 1 Z<|A9 AE.e Z ag fun w4 b4 l az _=>Ad<|AB<|Bx 1 Z<|Aw h fun j ai h=>AD l (Lc _ _ (An l) ai) fun w6 a9 aj a4=>A9 AE.e Z aj fun w7 b7 al a5 _=>Af 0 Z al Z fun w8 a a7=>Ad<|Aj<|Ai (Az 0 Z AE.e a Z)<|Ai (AT (fun _=>BM _))<|Ai (JO Jh (Nc _ _ _ _))<|Ad<|CX h ?_ ?_<;>intro am h
 ·refine Ex (.q 0 (.q 1 (.tail 2))) mixed Qqb (fun ba o=>?_);have e:=a.call o;refine CB Z (Az 0 Z AE.e e Z) Z<|D4 1 Z<|BT (fun bb p=>?_);have s:=e.call p;refine Af 1 Z s Z fun bc f an=>Ad<|Ay<|Aq ?_
  cases h
  refine Bo (.tmp Z) (.cell Z Ajx Z AE.e (AG (i:=1) f Z)) ⟨f.ext,_,Z,Ck.nil⟩
 refine Ax<|As<|AB<|Aj<|Ai (Ag 3 Z a Z)<|Ai (Ag 2 Z a Z)<|A8 1 Z<|AQ h ?_ ?_<;>intro u h
 ·refine Aj<|Aw h fun bd x h=>AD a (Hf _ _ (An a) x) fun be a8 y ao=>Ar 1 Z<|Af 1 Z y Z fun bf g ap=>Ad<|Ay<|Aq ?_
  cases h
  refine Bo (.tmp Z) (.cell Z Ajx Z AE.e (AG (i:=1) g Z)) ⟨g.ext,_,Z,Ck.nil⟩
 refine Ax<|As<|Aj<|Ai (Az 4 Z M5.e a Z)<|Ar 2 Z ?_;have z:Bb w [.box b2 [No a2] 3,.box b3 [No a3] 3,.box b7 [No j.1,No j.2] 28,.box b4 [No 0,No 0] 28,.box b1 [No a0.1,b] 49] w8:=a.C1 [2,3] Z;refine Aw h fun bg aa h=>ES (NY (a0:=(a0.1,a0.2)) (a1:=a1) (a2_c0:=a2) (a2_c1:=a3) (O:=[.box b7 [No j.1,No j.2] 28,.box b4 [No 0,No 0] 28,.box b1 [No a0.1,b] 49]) hH z (m.mono  Ah) aa) ?_;rintro aq bh ⟨_,y25_0,rfl,ab,ar,c⟩;refine Ai (AT (fun _=>BM _))<|Ar 1 Z<|Af 4 Z ab Z fun bi d k=>Ad<|Ay ?_
 cases h
 refine Bo (.tmp Z) (.cell Z Ajx Z AE.e (AG (i:=4) d Z)) ?_;have c:=c.mono (Aa k);exact⟨d.ext,_,Z,(d.Iq hH (i:=0) Z c)⟩
end
def Ez(a0:Akh×(List Int))(a1:AaV):Option (Bool×AaV):=
 if a0.1.2.1=2 then some (decide (a0.1.2.2.2=a1),a1) else some (false,a1)
theorem PB{e w:World}{H:PH}(hH:Le H (hp e)){O:List BS}{a0:Akh×(List Int)}{a1:AaV}{va0_4:Value}{ba1:Nat}{va1_0:Value}(hL:Bb e (Ha [.box ba1 [va1_0] 23] O) w)(k:AJ (.int .i64) (gz H e w (Ha [.box ba1 [va1_0] 23] O)) va0_4 (a0.2))(a:AJ .byte (gz H e w (Ha [.box ba1 [va1_0] 23] O)) va1_0 a1){r:Bool×AaV}(h:Ez a0 a1=some r):
  Ok prog 202 [.agg #[AaM a0.1.1,No a0.1.2.1,No a0.1.2.2.1,AaM a0.1.2.2.2,va0_4],Aad ba1] w (fun v w'=>∃ (f:Value),v=.bool r.1/\Bb e (Ha [.box ba1 [f] 23] O) w'/\Le (fz w (Ha [.box ba1 [va1_0] 23] O)) (fz w' (Ha [.box ba1 [f] 23] O))/\AJ .byte (gz H e w' (Ha [.box ba1 [f] 23] O)) f (r.2)):=by
 refine Ds (n:=16) [(0,.agg #[AaM a0.1.1,No a0.1.2.1,No a0.1.2.2.1,AaM a0.1.2.2.2,va0_4]),(1,(Aad ba1))] func202 Z Z Z Z ?_;have hT:=Le.refl (fz w (Ha [.box ba1 [va1_0] 23] O));refine Aj<|CD (t:=203) Z Z hL fun l m c d _=>A8 1 Z<|Aj<|Ai (Ae Z AjD Z JQ.e)<|Ai (Ae Z Ajw Z CR.e)<|Ai (Ag 0 Z c Z)<|Ar 2 Z<|CI 8 h ?_ ?_<;>intro b h
 ·refine Ab b<|Ai (Ae Z AjD Z JQ.e)<|Ab b<|Ai (Ae Z Ajw Z HO.e)<|Ab b<|Ai (Ag 0 Z c Z)<|Ab b<|Ai (Ag 1 Z c Z)<|Ab b ?_;have a:=a.mono (Aa d);refine Ai (UX a (An c))<|Ab b<|Ai (Nx Z Z)<|Ai (AK b Z)<|A8 1 Z<|Ay ?_
  cases h
  refine Al Z ?_;have g:=c.AS (i:=0) Z;have hT:=hT.trans (d.trans (Ak (i:=0) Z));have a:=a.mono (Aa (Ak (i:=0) Z));exact⟨va1_0,Z,g,hT,a⟩
 iterate 6 refine Ao b ?_
 refine Ai (AO b Z)<|A8 1 Z<|Ay ?_
 cases h
 refine Al Z ?_;have j:=c.AS (i:=0) Z;have a:=a.mono (Aa (d.trans (Ak (i:=0) Z)));have hT:=hT.trans (d.trans (Ak (i:=0) Z));exact⟨va1_0,Z,j,hT,a⟩
def Di(a:List Int)(b:AaV):Option ((List Int)×AaV):=
 AN (a.length<4611686018427387904) (AN ((M9 a).length<=9223372036854775807) (some ((Lib.compact (M9 a)),b)))
def CV(a0:Int×Akb)(a1:AaV):(List Int)×AaV×Int->Option (((List Int)×AaV×Int) ⊕ ((List Int)×AaV)):=fun⟨c,d,a⟩=>
 if a<(a0.2.length:Int) then AN (0<=a/\a<(a0.2.length:Int)) (Qq4 (Ez ((((a0.2.getD a.toNat Qq2).1).1,((a0.2.getD a.toNat Qq2).1).2.1,((a0.2.getD a.toNat Qq2).1).2.2.1,((a0.2.getD a.toNat Qq2).1).2.2.2),(a0.2.getD a.toNat Qq2).2) d) (fun b=>if b.1 then Qq4 (DV a1 (((a0.2.getD a.toNat Qq2).1).1)) (fun e=>if e then AN (Go.E.HK 8 (c.length+((a0.2.getD a.toNat Qq2).2).length)) (AN (Bz (a+1)) (some (Sum.inl ((c++(a0.2.getD a.toNat Qq2).2),b.2,(a+1))))) else AN (Bz (a+1)) (some (Sum.inl (c,b.2,(a+1))))) else AN (Bz (a+1)) (some (Sum.inl (c,b.2,(a+1)))))) else Qq7 Sum.inr (Di c d)
def F1(a0:Int×Akb)(a1:AaV)(s:(List Int)×AaV×Int):Option ((List Int)×AaV):=Go.L.run (CV a0 a1) s
def DR(a0:Int×Akb)(a1:AaV)(a2_c0:AaV):Option ((List Int)×AaV):=
 (F1 a0 a1) (([]:List Int),a2_c0,0)
theorem NZ{p w:World}{H:PH}(hH:Le H (hp p)){O:List BS}{a0:Int×Akb}{a1 a2_c0:AaV}{va0_1:Value}{ba2_c0:Nat}{va2_c0_0:Value}(hL:Bb p (Ha [.box ba2_c0 [va2_c0_0] 23] O) w)(aa:AJ Akn (gz H p w (Ha [.box ba2_c0 [va2_c0_0] 23] O)) va0_1 (a0.2))(ha2_c0_0:AJ .byte (gz H p w (Ha [.box ba2_c0 [va2_c0_0] 23] O)) va2_c0_0 a2_c0){r:(List Int)×AaV}(h:DR a0 a1 a2_c0=some r):
  Ok prog 199 [.agg #[No a0.1,va0_1],AaM a1,.func (.func 202) #[] #[Aad ba2_c0]] w (fun v w'=>∃ (u0:Value) (y0:List Value) (u1:Value),v=u0/\Bb p (Ha [.row u0 3 1 (r.1).length y0,.box ba2_c0 [u1] 23] O) w'/\Le (fz w (Ha [.box ba2_c0 [va2_c0_0] 23] O)) (fz w' (Ha [.row u0 3 1 (r.1).length y0,.box ba2_c0 [u1] 23] O))/\AH (.int .i64) (gz H p w' (Ha [.row u0 3 1 (r.1).length y0,.box ba2_c0 [u1] 23] O)) (r.1) y0/\AJ .byte (gz H p w' (Ha [.row u0 3 1 (r.1).length y0,.box ba2_c0 [u1] 23] O)) u1 (r.2)):=by
 refine Ds (n:=36) [(0,.agg #[No a0.1,va0_1]),(1,(AaM a1)),(2,.func (.func 202) #[] #[Aad ba2_c0])] func199 Z Z Z Z ?_;have hT:=Le.refl (fz w (Ha [.box ba2_c0 [va2_c0_0] 23] O));refine Aj<|CD (t:=49) Z Z hL fun w1 b1 cd ak _=>A8 1 Z<|Bx 1 Z ?_;obtain⟨bh,al,ce⟩:=DI (.int .i64) H 3 cd;refine Ad<|B2 ((List Int)×AaV×Value×(List Value)×Value) (fun⟨av,a4,am,ab,af⟩=>[(7,am)]) (fun⟨av,a4,am,ab,af⟩ wr=>FX p (Ha [.row am 3 1 (av).length ab,.box b1 [No a0.1,va0_1] 49,.box ba2_c0 [af] 23] O) wr fun Oz=>AH (.int .i64) (gz H p wr Oz) av ab/\AJ Akn (gz H p wr Oz) va0_1 (a0.2)/\AJ .byte (gz H p wr Oz) af a4/\Le (fz w (Ha [.box ba2_c0 [va2_c0_0] 23] O)) (fz wr Oz)/\Di av a4=some r) ?_ ?_
 ·have an:=bh.rG H;refine Aj<|Ai (Ae Z AjF Z Aaj.e)<|Ai (Ag 1 Z bh Z) ?_;have aa:=aa.mono (Aa (ak.trans al));refine Ai (Bm (aa.mono an))<|A8 1 Z<|A4 ?_;obtain⟨aw,h⟩:=Ba h;have ha2_c0_0:=ha2_c0_0.mono (Aa (ak.trans al));have hT:=hT.trans (ak.trans al);refine B7 ((List Int)×AaV×Int×Value×(List Value)×Value×Nat) (fun⟨f,ag,a,e,d,x,n⟩=>[(1,(AaM a1)),(2,.func (.func 202) #[] #[Aad ba2_c0]),(7,e),(11,va0_1),(12,No (a0.2.length:Int)),(13,No a)]) (fun⟨f,ag,a,e,d,x,n⟩ wr=>FX p (Ha [.row e 3 1 (f).length d,.box b1 [No a0.1,va0_1] 49,.box ba2_c0 [x] 23] O) wr fun Oz=>AJ Akn (gz H p wr Oz) va0_1 (a0.2)/\AH (.int .i64) (gz H p wr Oz) f d/\AJ .byte (gz H p wr Oz) x ag/\Le (fz w (Ha [.box ba2_c0 [va2_c0_0] 23] O)) (fz wr Oz)/\Ia (CV a0 a1) n (f,ag,a)=some r) (fun⟨f,ag,a,e,d,x,n⟩=>n) (([]:List Int),a2_c0,0,Aac,[],va2_c0_0,aw) Z ⟨bh,(aa.mono an),(ce.mono an),(ha2_c0_0.mono an),hT,h⟩ ?_
  rintro⟨f,ag,a,e,d,x,nn92⟩ ci ⟨ao,q,ac,a5,hT,h⟩;obtain⟨aw,cn,rfl,h,ap⟩:=AZ h;have b:=ao.rG H;refine AI 1 Z<|AB<|AQ h ?_ ?_<;>intro b5 h
  ·refine Ax<|As<|AB<|A4<|Aj<|A2 h fun bi h=>Bi (q.mono b) a.toNat (GX bi) (AX bi) ?_;rintro co _ ⟨_,_,rfl,⟨_,_,rfl,rfl,⟨_,_,rfl,rfl,⟨_,_,rfl,rfl,rfl⟩⟩⟩,⟨e97v4,rfl,e97h4⟩⟩ b6;refine Ai (Cz b6 (An ao))<|A9 KL.e Z ao fun cp b4 b7 y _=>Af 0 Z b7 Z (a:=(Bk Z (Bk Z (Bk Z (Bk Z (Bk e97h4.one Kq)))))) fun b8 aq s=>Ad<|Bx 1 Z<|Ai (Az 0 Z KL.e aq Z) ?_;have a6:Bb p (Ha [.box ba2_c0 [x] 23,.box b4 [.string ⟨(((a0.2.getD a.toNat Qq2).1).1).toArray⟩,No (((a0.2.getD a.toNat Qq2).1).2.1),No (((a0.2.getD a.toNat Qq2).1).2.2.1),.string ⟨(((a0.2.getD a.toNat Qq2).1).2.2.2).toArray⟩,e97v4] 203,.row e 3 1 (f).length d,.box b1 [No a0.1,va0_1] 49] O) b8:=aq.C1 [3] Z;have u:=B3 [3] aq a6 Z;refine Aw h fun a3 bl h=>?_;have e97h4:=e97h4.mono (Aa (y.trans (s.trans u)));have b:=b.trans (Aa (y.trans (s.trans u)))
   refine Fl Z Z (PB (a0:=((((a0.2.getD a.toNat Qq2).1).1,((a0.2.getD a.toNat Qq2).1).2.1,((a0.2.getD a.toNat Qq2).1).2.2.1,((a0.2.getD a.toNat Qq2).1).2.2.2),(a0.2.getD a.toNat Qq2).2)) (a1:=ag) (O:=(Ha [.box b4 [.string ⟨(((a0.2.getD a.toNat Qq2).1).1).toArray⟩,No (((a0.2.getD a.toNat Qq2).1).2.1),No (((a0.2.getD a.toNat Qq2).1).2.2.1),.string ⟨(((a0.2.getD a.toNat Qq2).1).2.2.2).toArray⟩,e97v4] 203,.row e 3 1 (f).length d,.box b1 [No a0.1,va0_1] 49] O)) hH a6 e97h4 (a5.mono b) bl) ?_;rintro _ b9 ⟨o,rfl,ad,j,c⟩;refine Ar 1 Z<|Fs 20 h ?_ ?_<;>intro g h
   ·refine Ab g<|Ai (Am Z)<|Ab g<|Ai (Ae Z AjD Z JQ.e)<|Ab g<|Ai (Ae Z Ajw Z HO.e)<|Ab g<|Ai (Ag 1 Z ad Z)<|Ab g<|Aw h fun cj bm h=>AD ad (LS _ _ (An ad) bm) fun ca cg ar k=>Ai (AK g Z)<|Ad<|B8 h ?_ ?_<;>intro bn h
    ·refine Au<|Ar 1 Z<|Ai (Ae Z AjD Z Sy.e)<|Ai (Ag 1 Z ar Z)<|A2 h fun bo h=>?_;have e97h4:=e97h4.mono (Aa (j.trans k));have b:=b.trans (Aa (j.trans k));refine Bt (r:=(.int .i64)) 2 f ((a0.2.getD a.toNat Qq2).2) Z AhD ar Z (ac.mono b) e97h4 bo fun bj cb a7 a8 ah bp=>Ar 1 Z<|AL<|A3<|As ?_;have z:=a8.rG H;refine Au<|A2 h fun bq h=>Ai (A7 bq)<|Ar 1 Z<|AL ?_;have a9:=a8.AS (i:=1) Z;have ba:Bb p (Ha [.row bj 3 1 ((f++(a0.2.getD a.toNat Qq2).2)).length a7,.box b1 [No a0.1,va0_1] 49,.box ba2_c0 [o] 23] O) cb:=a9.C1 [2,2] Z;have ax:=B3 [2,2] a9 ba Z;have h:=Cf.again h ap;have hT:=hT.trans (y.trans (s.trans (u.trans (j.trans (k.trans (ah.trans ((Ak (i:=1) Z).trans ax)))))));have c:=c.mono (Aa (k.trans ah));have b:=b.trans (Aa ah);have z:=z.trans (Aa ((Ak (i:=1) Z).trans ax))
     refine AM ((f++(a0.2.getD a.toNat Qq2).2),a3.2,(a+1),bj,a7,o,aw) Z ⟨ba,((q.mono b).mono z),(bp.mono z),(c.mono z),hT,h⟩
    refine Ax<|A3<|As<|Au<|A2 h fun br h=>Ai (A7 br)<|Ar 1 Z<|AL ?_;have bb:=ar.AS (i:=1) Z;have bc:Bb p (Ha [.row e 3 1 (f).length d,.box b1 [No a0.1,va0_1] 49,.box ba2_c0 [o] 23] O) ca:=bb.C1 [2,2] Z;have ai:=B3 [2,2] bb bc Z;have h:=Cf.again h ap;have hT:=hT.trans (y.trans (s.trans (u.trans (j.trans (k.trans ((Ak (i:=1) Z).trans ai))))));have b:=b.trans (Aa (j.trans (k.trans ((Ak (i:=1) Z).trans ai))));have c:=c.mono (Aa (k.trans ((Ak (i:=1) Z).trans ai)));refine AM (f,a3.2,(a+1),e,d,o,aw) Z ⟨bc,(q.mono b),(ac.mono b),c,hT,h⟩
   iterate 5 refine Ao g ?_
   refine Ai (AO g Z)<|Ad<|G5<|Ax<|A3<|As<|Au<|A2 h fun bs h=>Ai (A7 bs)<|Ar 1 Z<|AL ?_;have bd:=ad.AS (i:=1) Z;have be:Bb p (Ha [.row e 3 1 (f).length d,.box b1 [No a0.1,va0_1] 49,.box ba2_c0 [o] 23] O) b9:=bd.C1 [2,2] Z;have aj:=B3 [2,2] bd be Z;have h:=Cf.again h ap;have hT:=hT.trans (y.trans (s.trans (u.trans (j.trans ((Ak (i:=1) Z).trans aj)))));have b:=b.trans (Aa (j.trans ((Ak (i:=1) Z).trans aj)));have c:=c.mono (Aa ((Ak (i:=1) Z).trans aj));refine AM (f,a3.2,(a+1),e,d,o,aw) Z ⟨be,(q.mono b),(ac.mono b),c,hT,h⟩
  refine B4<|AF<|A5 ?_;have h:=Cf.out h ap;refine Bg<|AA (_,_,_,_,_) ⟨ao,(ac.mono b),(q.mono b),(a5.mono b),hT,h⟩
 have hT:=hT.trans (ak.trans al);rintro⟨av,a4,am,ab,af⟩ ck ⟨bk,bt,cf,bu,hT,h⟩;have ae:=bk.rG H;refine Bx 1 Z<|A2 h fun bv h=>U9 (i:=0) Tryz.AaT ⟨Tryz.f139,_,func139,Z,Z⟩ Z hH bk Z (bt.mono ae) bv fun cl ch bw ay bx=>Ad<|Bx 1 Z<|A2 h fun bz h=>UA (i:=0) Tryz.AaU ⟨Tryz.f140,_,func140,Z,Z⟩ Z hH bw Z bx bz fun cc cm b0 b2 az au=>A8 1 Z<|Ay ?_
 cases h
 refine Al Z ?_;have b3:=b2.AS (i:=1) Z;have ae:=ae.trans (Aa (ay.trans (az.trans (Ak (i:=1) Z))));have hT:=hT.trans (ay.trans (az.trans (Ak (i:=1) Z)));have au:=au.mono (Aa (Ak (i:=1) Z));exact⟨cc,b0,af,Z,b3,hT,au,(bu.mono ae)⟩
def F2(a0:Int×Akb)(a1:AaV)(a2:AaV):Option Akj:=
 Qq4 (Hu a1) (fun a=>if a.1=0/\a.2=0 then(if 4000<(a2.length:Int) then Qq4 (DJ (3:Int) (-2:Int)) (fun b=>some ([],(b.1,b.2))) else Qq4 (DR (a0.1,a0.2) a1 a2) (fun c=>some (c.1,(0,0)))) else some ([],(a.1,a.2)))
section
variable(w:World)(H:PH)(hH:Le H (hp w)) include hH
theorem QH{a0:Int×Akb}{a1 a2:AaV}{a d:Value}(p:AJ Akn H a (a0.2))(e:AJ .byte H d a2){r:(List Int)×(Int×Int)}(h:F2 a0 a1 a2=some r):
  Qqv 151 [.agg #[No a0.1,a],AaM a1,d] w (fun v w'=>∃ u0,v=.tuple #[u0,.agg #[No r.2.1,No r.2.2]]/\Ck 3 (.int .i64) H w w' u0 (r.1)):=by
 refine A1 24 [(0,.agg #[No a0.1,a]),(1,(AaM a1)),(2,d)] func151 Z fun hL=>Aj<|CD (t:=49) Z Z hL fun w1 b1 ag ax _=>Q1 (t:=23) Z e.one ag fun w2 b2 ah az _=>Ar 1 Z<|A9 AE.e Z ah fun w3 b3 o a3 _=>Ad<|AB<|Bx 1 Z<|Aw h fun l aj h=>AD o (Lc _ _ (An o) aj) fun w5 a9 ak a4=>A9 AE.e Z ak fun w6 b6 am a5 _=>Af 0 Z am Z fun w7 b a7=>Ad<|Aj<|Ai (Az 0 Z AE.e b Z)<|Ai (AT (fun _=>BM _))<|Ai (JO Jh (Nc _ _ _ _))<|Ad<|CX h ?_ ?_<;>intro an h
 ·refine Ex (.q 0 (.q 1 (.tail 2))) mixed Qqb (fun ba s=>?_);have g:=b.call s;refine CB Z (Az 0 Z AE.e g Z) Z<|D4 1 Z<|BT (fun bb u=>?_);have x:=g.call u;refine Af 1 Z x Z fun bc j ap=>Ad<|Ay<|Aq ?_
  cases h
  refine Bo (.tmp Z) (.cell Z Ajx Z AE.e (AG (i:=1) j Z)) ⟨j.ext,_,Z,Ck.nil⟩
 refine Ax<|As<|AB<|Aj<|Ai (Ag 2 Z b Z)<|Ai (Bm e)<|A8 1 Z<|AQ h ?_ ?_<;>intro y h
 ·refine Aj<|Aw h fun bd z h=>AD b (Hf _ _ (An b) z) fun be a8 aa aq=>Ar 1 Z<|Af 1 Z aa Z fun bf k ar=>Ad<|Ay<|Aq ?_
  cases h
  refine Bo (.tmp Z) (.cell Z Ajx Z AE.e (AG (i:=1) k Z)) ⟨k.ext,_,Z,Ck.nil⟩
 refine Ax<|As<|Aj<|Ai (Az 3 Z M5.e b Z)<|Ar 2 Z ?_;have ab:Bb w [.box b2 [d] 23,.box b6 [No l.1,No l.2] 28,.box b3 [No 0,No 0] 28,.box b1 [No a0.1,a] 49] w7:=b.C1 [2] Z;refine Aw h fun bg ac h=>ES (NZ (a0:=(a0.1,a0.2)) (a1:=a1) (a2_c0:=a2) (O:=[.box b6 [No l.1,No l.2] 28,.box b3 [No 0,No 0] 28,.box b1 [No a0.1,a] 49]) hH ab (p.mono  Ah) (e.mono  Ah) ac) ?_;rintro au bh ⟨_,y24_0,av,rfl,ad,aw,c,ao⟩;refine Ai (AT (fun _=>BM _))<|Ar 1 Z<|Af 3 Z ad Z fun bi f m=>Ad<|Ay ?_
 cases h
 refine Bo (.tmp Z) (.cell Z Ajx Z AE.e (AG (i:=3) f Z)) ?_;have c:=c.mono (Aa m);exact⟨f.ext,_,Z,(f.Iq hH (i:=0) Z c)⟩
end
end Go.Proofs.YtekmbcbgknmhiaaGreatDoor
end
noncomputable section
namespace Go
abbrev Akc:=List (AaV×Ake)
end Go
namespace Go.Proofs.YtekmbcbgknmhiaaGreatDoor
open Go Go.E Go.RowKit Go.L
set_option maxHeartbeats 1000000
set_option maxRecDepth 10000
open _root_.Go.Proofs.Tryz
def Gz(a0:AaV×Ake)(a1:AaV):Option Int:=
 Qq4 (strings_Compare a0.1 a1) (fun a=>some a)
theorem Mw{b w:World}{H:PH}(hH:Le H (hp b)){O:List BS}{a0:AaV×Ake}{a1:AaV}{va0_1:Value}(hL:Bb b (Ha [] O) w)(j:AJ Akp (gz H b w (Ha [] O)) va0_1 (a0.2)){r:Int}(h:Gz a0 a1=some r):
  Ok prog 252 [.agg #[AaM a0.1,va0_1],AaM a1] w (fun v w'=>v=No r/\Bb b (Ha [] O) w'/\Le (fz w (Ha [] O)) (fz w' (Ha [] O))):=by
 refine Ds (n:=9) [(0,.agg #[AaM a0.1,va0_1]),(1,(AaM a1))] func252 Z Z Z Z ?_;have hT:=Le.refl (fz w (Ha [] O));refine Aj<|CD (t:=192) Z Z hL fun l m a c _=>A8 1 Z<|Aj<|Ai (Ae Z AjI Z HO.e)<|Ai (Ag 0 Z a Z)<|Ar 1 Z<|Aw h fun o e h=>AD a (Lq _ _ (An a) e) fun p k f d=>A8 1 Z<|Ay ?_
 cases h
 refine Al Z ?_;have g:=f.AS (i:=0) Z;have hT:=hT.trans (c.trans (d.trans (Ak (i:=0) Z)));exact⟨Z,g,hT⟩
def Bw(a0:List (AaV×Ake))(a1:AaV)(a:Int):Option (Int×Bool):=
 if a<(a0.length:Int) then AN (0<=a/\a<(a0.length:Int)) (Qq4 (Gz ((a0.getD a.toNat Qq2).1,(a0.getD a.toNat Qq2).2) a1) (fun b=>some (a,decide (b=0)))) else some (a,false)
def Bv(a0:List (AaV×Ake))(a1:AaV):Int×Int->Option ((Int×Int) ⊕ (Int×Bool)):=fun⟨b,a⟩=>
 if b<a then AN (Bz (b+a)) (AN (0<=(IntKind.i64.wrap ((IntKind.u64.wrap (b+a)) / 2))/\(IntKind.i64.wrap ((IntKind.u64.wrap (b+a)) / 2))<(a0.length:Int)) (Qq4 (Gz ((a0.getD ((IntKind.i64.wrap ((IntKind.u64.wrap (b+a)) / 2)).toNat) Qq2).1,(a0.getD ((IntKind.i64.wrap ((IntKind.u64.wrap (b+a)) / 2)).toNat) Qq2).2) a1) (fun c=>if c<0 then AN (Bz ((IntKind.i64.wrap ((IntKind.u64.wrap (b+a)) / 2))+1)) (some (Sum.inl (((IntKind.i64.wrap ((IntKind.u64.wrap (b+a)) / 2))+1),a))) else some (Sum.inl (b,(IntKind.i64.wrap ((IntKind.u64.wrap (b+a)) / 2))))))) else Qq7 Sum.inr ((Bw a0 a1) b)
def BC(a0:List (AaV×Ake))(a1:AaV)(s:Int×Int):Option (Int×Bool):=Go.L.run (Bv a0 a1) s
def Bj(a0:List (AaV×Ake))(a1:AaV):Option (Int×Bool):=
 (BC a0 a1) (0,(a0.length:Int))
theorem G9{i w:World}{H:PH}(hH:Le H (hp i)){O:List BS}{a0:List (AaV×Ake)}{a1:AaV}{va0:Value}(hL:Bb i (Ha [] O) w)(x:AJ (.pair .st (.vec Akp)) (gz H i w (Ha [] O)) va0 a0){r:Int×Bool}(h:Bj a0 a1=some r):
  Ok prog 251 [va0,AaM a1,.func (.func 252) #[] #[]] w (fun v w'=>v=.tuple #[No r.1,.bool r.2]/\Bb i (Ha [] O) w'/\Le (fz w (Ha [] O)) (fz w' (Ha [] O))):=by
 refine Ds (n:=49) [(0,va0),(1,(AaM a1)),(2,.func (.func 252) #[] #[])] func251 Z Z Z Z ?_;have hT:=Le.refl (fz w (Ha [] O));refine AI 2 Z<|Bx 1 Z<|Ai (Bm x)<|A8 1 Z<|AI 3 Z<|B2 Int (fun f=>[(0,va0),(1,(AaM a1)),(2,.func (.func 252) #[] #[]),(8,No (a0.length:Int)),(9,No f)]) (fun f wr=>FX i (Ha [] O) wr fun Oz=>AJ (.pair .st (.vec Akp)) (gz H i wr Oz) va0 a0/\Le (fz w (Ha [] O)) (fz wr Oz)/\(Bw a0 a1) f=some r) ?_ ?_
 ·refine A4 ?_;obtain⟨o,h⟩:=Ba h;refine B7 (Int×Int×Nat) (fun⟨b,a,n⟩=>[(0,va0),(1,(AaM a1)),(2,.func (.func 252) #[] #[]),(8,No (a0.length:Int)),(9,No b),(10,No a)]) (fun⟨b,a,n⟩ wr=>FX i (Ha [] O) wr fun Oz=>AJ (.pair .st (.vec Akp)) (gz H i wr Oz) va0 a0/\Le (fz w (Ha [] O)) (fz wr Oz)/\Ia (Bv a0 a1) n (b,a)=some r) (fun⟨b,a,n⟩=>n) (0,(a0.length:Int),o) Z ⟨hL,x,hT,h⟩ ?_;rintro⟨b,a,nn48⟩ ah ⟨j,d,hT,h⟩;obtain⟨o,aj,rfl,h,k⟩:=AZ h;refine AB<|AI 3 Z<|AQ h ?_ ?_<;>intro y h
  ·refine Ax<|As<|A4<|Bx 2 Z<|A2 h fun z h=>Ai (A7 z)<|Ai (Lm Z)<|Ai (UW (c:=1) (m:=2) Z Z Qqc)<|Ai (Lm Z)<|A8 1 Z<|Bx 3 Z<|A2 h fun p h=>Bi d ((IntKind.i64.wrap ((IntKind.u64.wrap (b+a)) / 2)).toNat) (GX p) (AX p) ?_;rintro ak _ ⟨_,_,rfl,rfl,⟨e53v1,rfl,e53h1⟩⟩ aa;refine Ai (Cz aa (An j))<|Ar 1 Z<|Aw h fun al ab h=>Fl Z Z (Mw (a0:=((a0.getD ((IntKind.i64.wrap ((IntKind.u64.wrap (b+a)) / 2)).toNat) Qq2).1,(a0.getD ((IntKind.i64.wrap ((IntKind.u64.wrap (b+a)) / 2)).toNat) Qq2).2)) (a1:=a1) (O:=(Ha [] O)) hH j e53h1 ab) ?_;rintro _ am ⟨rfl,q,g⟩;refine A8 1 Z<|AQ h ?_ ?_<;>intro ac h
   ·refine Au<|Ar 1 Z<|A2 h fun ad h=>Ai (A7 ad)<|Ar 1 Z<|AL<|A3 ?_;have h:=Cf.again h k;have d:=d.mono (Aa g);have hT:=hT.trans g;refine AM (_,_,_) Z ⟨q,d,hT,h⟩
   refine Au<|Ar 2 Z<|AL<|A3 ?_;have h:=Cf.again h k;have d:=d.mono (Aa g);have hT:=hT.trans g;refine AM (_,_,_) Z ⟨q,d,hT,h⟩
  refine B4<|AF<|A5 ?_;have h:=Cf.out h k;refine Bg<|AA _ ⟨j,d,hT,h⟩
 rintro f ai ⟨l,s,hT,h⟩;refine Bx 5 Z<|CI 39 h ?_ ?_<;>intro e h
 ·refine Ab e<|Ai (Am Z)<|Ab e<|Ai (Am Z)<|Ab e<|Ai (Am Z)<|Ab e<|A2 h fun t h=>Bi s f.toNat (GX t) (AX t) ?_;rintro an _ ⟨_,_,rfl,rfl,⟨e65v1,rfl,e65h1⟩⟩ ae;refine Ab e<|Ai (Cz ae (An l))<|Ab e<|Ai (Am Z)<|Ab e<|Aw h fun ao af h=>Fl Z Z (Mw (a0:=((a0.getD f.toNat Qq2).1,(a0.getD f.toNat Qq2).2)) (a1:=a1) (O:=(Ha [] O)) hH l e65h1 af) ?_;rintro _ ap ⟨rfl,ag,u⟩;refine Ab e<|Ai (Am Z)<|Ai (AK e Z)<|A8 2 Z<|Ay ?_
  cases h
  refine Al Z ?_;have hT:=hT.trans u;exact⟨Z,ag,hT⟩
 iterate 8 refine Ao e ?_
 refine Ai (AO e Z)<|A8 2 Z<|Ay ?_
 cases h
 refine Al Z ⟨Z,l,hT⟩
def DD(a0:Int×Akc)(a1:AaV):Option (Ake):=
 Qq4 (Bj a0.2 a1) (fun a=>if !a.2 then some ([]) else AN (0<=a.1/\a.1<(a0.2.length:Int)) (some ((a0.2.getD a.1.toNat Qq2).2)))
section
variable(w:World)(H:PH)(hH:Le H (hp w)) include hH
theorem Hn{a0:Int×Akc}{a1:AaV}{a:Value}(c:AJ (.pair .st (.vec Akp)) H a (a0.2)){r:Ake}(h:DD a0 a1=some r):
  Qqv 194 [.agg #[No a0.1,a],AaM a1] w (fun v w'=>∃ f,v=f/\AJ Akp (un H (nw w w')) f r):=by
 refine A1 22 [(0,.agg #[No a0.1,a]),(1,(AaM a1))] func194 Z fun hL=>Aj<|CD (t:=46) Z Z hL fun q l d m _=>A8 1 Z<|Aj<|Ai (Ae Z AjK Z Aai.e)<|Ai (Ag 0 Z d Z)<|Ar 1 Z<|Aw h fun o g h=>ES (G9 (a0:=a0.2) (a1:=a1) (O:=[.box l [No a0.1,a] 46]) hH d (c.mono  Ah) g) ?_;rintro _ s ⟨rfl,b,p⟩;refine A8 5 Z<|AB<|AI 2 Z<|B8 h ?_ ?_<;>intro i h
 ·refine AI 1 Z<|Ay<|Aq ?_
  cases h
  refine Al Z ⟨b.ext,_,Z,(AJ.nil _ _)⟩
 refine Ax<|As<|Aj<|Ai (Ae Z AjK Z Aai.e)<|Ai (Ag 0 Z b Z)<|Ar 1 Z<|A2 h fun e h=>Bi c o.1.toNat (GX e) (AX e) ?_;rintro u _ ⟨_,_,rfl,rfl,⟨e7v1,rfl,e7h1⟩⟩ j;refine Ai (Ae Z AjI Z AdV.e) ?_;have k:=j.add 1;refine Ai (Bl k (hH.trans b.arg))<|A8 1 Z<|Ay ?_
 cases h
 refine Al Z ⟨b.ext,_,Z,(e7h1.mono (M1 hH))⟩
def Ku(a0:AaV):Option (AaV×Int):=
 AN (0<=(0:Int)/\(0:Int)<(a0.length:Int)) (if(48<=((a0.getD ((0:Int).toNat) Qq2).toNat:Int))/\(((a0.getD ((0:Int).toNat) Qq2).toNat:Int)<=57) then AN ((a0.getD ((0:Int).toNat) Qq2).toNat<128) (some ([a0.getD ((0:Int).toNat) Qq2],1)) else if 97<=((a0.getD ((0:Int).toNat) Qq2).toNat:Int) then if((a0.getD ((0:Int).toNat) Qq2).toNat:Int)<=122 then AN ((a0.getD ((0:Int).toNat) Qq2).toNat<128) (some ([a0.getD ((0:Int).toNat) Qq2],1)) else(if(65<=((a0.getD ((0:Int).toNat) Qq2).toNat:Int))/\(((a0.getD ((0:Int).toNat) Qq2).toNat:Int)<=90) then AN (((a0.getD ((0:Int).toNat) Qq2 - (65:UInt8))+(97:UInt8)).toNat<128) (some ([((a0.getD ((0:Int).toNat) Qq2 - (65:UInt8))+(97:UInt8))],1)) else(if((a0.getD ((0:Int).toNat) Qq2).toNat:Int)<128 then some (([]:AaV),1) else Qq4 (Aco a0) (fun a=>if(a.1=65533)/\(a.2=1) then some (([]:AaV),1) else AN (0<=a.2/\a.2<=(a0.length:Int)) (some ((a0.take a.2.toNat),a.2))))) else if(65<=((a0.getD ((0:Int).toNat) Qq2).toNat:Int))/\(((a0.getD ((0:Int).toNat) Qq2).toNat:Int)<=90) then AN (((a0.getD ((0:Int).toNat) Qq2 - (65:UInt8))+(97:UInt8)).toNat<128) (some ([((a0.getD ((0:Int).toNat) Qq2 - (65:UInt8))+(97:UInt8))],1)) else(if((a0.getD ((0:Int).toNat) Qq2).toNat:Int)<128 then some (([]:AaV),1) else Qq4 (Aco a0) (fun b=>if(b.1=65533)/\(b.2=1) then some (([]:AaV),1) else AN (0<=b.2/\b.2<=(a0.length:Int)) (some ((a0.take b.2.toNat),b.2)))))
theorem Ur(hU:Gq H){a0:AaV}{e:Value}(c:AJ .byte H e a0){r:AaV×Int}(h:Ku a0=some r):
  Qqv 181 [e] w (fun v w'=>v=.tuple #[AaM r.1,No r.2]):=by
 refine A1 57 [(0,e)] func181 Z fun hL=>AI 2 Z<|AB<|Bx 1 Z<|A2 h fun i h=>Bi c ((0:Int).toNat) (GX i) (AX i) ?_;rintro p1 _ rfl ac;refine Ai (Bl ac (hH.trans hL.arg))<|A8 1 Z<|A4<|Bx 3 Z<|OM 2 2 Z Z Z Z Z Z<|Ar 1 Z<|CI 17 h ?_ ?_<;>intro a h
 ·iterate 3 refine Ao a ?_
  iterate 2 refine L3 ?_
  refine Ao a<|Ai (AK a Z)<|A8 1 Z<|Fq<|Bx 1 Z<|A2 h fun ad h=>Ai (Abj ad)<|A8 2 Z<|Ay<|Av<|Aq ?_
  cases h
  refine Al Z ⟨hL.ext,Z⟩
 refine Ab a<|Ai (Am Z)<|Ab a<|Ai (Am Z)<|Ab a<|Ai (Am Z)<|CI 20 h ?_ ?_<;>intro d h
 ·refine Ab d<|Ai (Am Z)<|Ab d<|Ai (Am Z)<|Ab a<|Ai (AK d Z)<|Ai (AO a Z)<|A8 1 Z<|AQ h ?_ ?_<;>intro ae h
  ·refine Bx 1 Z<|A2 h fun j h=>Ai (Abj j)<|A8 2 Z<|Ay<|Av<|Aq ?_
   cases h
   refine Al Z ⟨hL.ext,Z⟩
  refine Bx 3 Z<|OM 2 2 Z Z Z Z Z Z<|A8 1 Z<|AQ h ?_ ?_<;>intro k h
  ·refine Bx 1 Z<|Ai (Abg 65 Z Z Z)<|Ai (Abg 97 Z Z Z)<|A2 h fun l h=>Ai (Abj l)<|A8 2 Z<|Ay<|Av<|Aq ?_
   cases h
   refine Al Z ⟨hL.ext,Z⟩
  refine AI 3 Z<|AQ h ?_ ?_<;>intro m h
  ·refine AI 2 Z<|Ay<|Av<|Aq ?_
   cases h
   refine Al Z ⟨hL.ext,Z⟩
  refine Ax<|A3<|As<|Bx 1 Z<|Aw h fun aj o h=>AD hL (Ah5 _ _ (An hL) (hU.mono  Ah) (c.mono  Ah) o) fun ak ah f af=>A8 5 Z<|AB<|Bx 3 Z<|OM 2 2 Z Z Z Z Z Z<|Ad<|AQ h ?_ ?_<;>intro p h
  ·refine AI 2 Z<|Ay<|Aq ?_
   cases h
   refine Al Z ⟨f.ext,Z⟩
  refine Ax<|As<|Bx 2 Z<|A2 h fun q h=>Vb c q fun al s=>Ai (UX s (hH.trans f.arg))<|A8 3 Z<|Ay ?_
  cases h
  refine Al Z ⟨f.ext,Z⟩
 iterate 2 refine Ao d ?_
 refine Ab a<|Ai (AO d Z)<|Ai (AO a Z)<|A8 1 Z<|G5<|Bx 3 Z<|OM 2 2 Z Z Z Z Z Z<|A8 1 Z<|AQ h ?_ ?_<;>intro t h
 ·refine Bx 1 Z<|Ai (Abg 65 Z Z Z)<|Ai (Abg 97 Z Z Z)<|A2 h fun u h=>Ai (Abj u)<|A8 2 Z<|Ay<|Av<|Aq ?_
  cases h
  refine Al Z ⟨hL.ext,Z⟩
 refine AI 3 Z<|AQ h ?_ ?_<;>intro x h
 ·refine AI 2 Z<|Ay<|Av<|Aq ?_
  cases h
  refine Al Z ⟨hL.ext,Z⟩
 refine Ax<|A3<|As<|Bx 1 Z<|Aw h fun am y h=>AD hL (Ah5 _ _ (An hL) (hU.mono  Ah) (c.mono  Ah) y) fun an ai g ag=>A8 5 Z<|AB<|Bx 3 Z<|OM 2 2 Z Z Z Z Z Z<|Ad<|AQ h ?_ ?_<;>intro z h
 ·refine AI 2 Z<|Ay<|Aq ?_
  cases h
  refine Al Z ⟨g.ext,Z⟩
 refine Ax<|As<|Bx 2 Z<|A2 h fun aa h=>Vb c aa fun ao ab=>Ai (UX ab (hH.trans g.arg))<|A8 3 Z<|Ay ?_
 cases h
 refine Al Z ⟨g.ext,Z⟩
end
end Go.Proofs.YtekmbcbgknmhiaaGreatDoor
end
