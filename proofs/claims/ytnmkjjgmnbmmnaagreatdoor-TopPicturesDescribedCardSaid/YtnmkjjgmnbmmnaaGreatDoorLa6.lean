/- Texts of a claim, merged. -/
import Derived.Test.YtnmkjjgmnbmmnaaGreatDoorLa5
import Derived.KernelRfl
import Derived.OrdersIn
import Derived.ChangeKeysEq
open _root_.Go.Proofs.Tryz renaming underlying32→Aa3,underlying77→Aa7,underlying22→Aag,underlying27→Aaj,underlying50→Aak,underlying38→Aam,underlying31→Aan,underlying25→Aas,underlying23→Aat,underlying34→Aaz
open Option renaming bind->Qq8,bind_some->Qq9,map->Qzq
open List renaming length_append->Qzk,length_cons->Qzj,replicate->Qzw,perm_append_comm->Qzc,drop_eq_getElem_cons->Qz1,length_drop->QzQ,length_map->Qzf,length_nil->QzB,getElem_eq_getD->Qz6,length_take->QzA,take_of_length_le->Qz3,mem_cons->QzJ,length_singleton->Qxb,not_mem_nil->Qz5,append_assoc->Qxz,drop_eq_nil_of_le->Qxf,getElem_mem->Qxa,getElem?_take->QxK,map_cons->Qxy
open HAppend renaming hAppend->Qzu
open Nat renaming le_refl->Qzx,blt->Qzz,mul_one->Qzy,zero_le->Qzb,lt_or_ge->QzX
open UInt8 renaming ofNat->Qzv
open Int renaming eq_ofNat_of_zero_le->QzD
set_option linter.unusedVariables false
set_option linter.unusedSimpArgs false
set_option linter.unusedSectionVars false
noncomputable section
namespace Go
abbrev AaI:=((List AaE))×Aae×Int
end Go
namespace Go.Proofs.YtnmkjjgmnbmmnaaGreatDoor
open Go Go.E Go.RowKit Go.L
set_option maxHeartbeats 1000000
set_option maxRecDepth 10000
open _root_.Go.Proofs.Tryz
def DZ(a0:Int)(a1_0:AaI)(a2:AaE):Option Bool:=
 Bb (0<=a2.2.2.2.2.2.2.2.2.1/\a2.2.2.2.2.2.2.2.2.1<(a1_0.1.length:Int)) (Qq8 (E0 (a1_0.1.getD a2.2.2.2.2.2.2.2.2.1.toNat Qq1) a0) (fun a=>some a))
theorem I8{b w:World}{H:PH}(hH:Le H (hp b)){O:List BN}{a0:Int}{a1_0:AaI}{a2:AaE}{ba1 ba1_0:Nat}{va1_0_0 va1_0_1:Value}{xsa1_0_1:Qq5}{ba2:Nat}{va2_2 va2_10 va2_11:Value}(hL:AW b (Ha [.box ba1 [Aac ba1_0] 75,.box ba1_0 [va1_0_0,va1_0_1,No a1_0.2.2] 77,.row va1_0_1 5 1 (a1_0.2.1).length xsa1_0_1,.box ba2 [Aad a2.1,No a2.2.1,va2_2,No a2.2.2.2.1,.bool a2.2.2.2.2.1,No a2.2.2.2.2.2.1,No a2.2.2.2.2.2.2.1,No a2.2.2.2.2.2.2.2.1,No a2.2.2.2.2.2.2.2.2.1,No a2.2.2.2.2.2.2.2.2.2.1,va2_10,va2_11] 50] O) w)(c:AL AaK (gz H b w (Ha [.box ba1 [Aac ba1_0] 75,.box ba1_0 [va1_0_0,va1_0_1,No a1_0.2.2] 77,.row va1_0_1 5 1 (a1_0.2.1).length xsa1_0_1,.box ba2 [Aad a2.1,No a2.2.1,va2_2,No a2.2.2.2.1,.bool a2.2.2.2.2.1,No a2.2.2.2.2.2.1,No a2.2.2.2.2.2.2.1,No a2.2.2.2.2.2.2.2.1,No a2.2.2.2.2.2.2.2.2.1,No a2.2.2.2.2.2.2.2.2.2.1,va2_10,va2_11] 50] O)) va1_0_0 (a1_0.1))(_hea1_0_1:A5 .byte (gz H b w (Ha [.box ba1 [Aac ba1_0] 75,.box ba1_0 [va1_0_0,va1_0_1,No a1_0.2.2] 77,.row va1_0_1 5 1 (a1_0.2.1).length xsa1_0_1,.box ba2 [Aad a2.1,No a2.2.1,va2_2,No a2.2.2.2.1,.bool a2.2.2.2.2.1,No a2.2.2.2.2.2.1,No a2.2.2.2.2.2.2.1,No a2.2.2.2.2.2.2.2.1,No a2.2.2.2.2.2.2.2.2.1,No a2.2.2.2.2.2.2.2.2.2.1,va2_10,va2_11] 50] O)) (a1_0.2.1) xsa1_0_1)(_ha2_2:AL .byte (gz H b w (Ha [.box ba1 [Aac ba1_0] 75,.box ba1_0 [va1_0_0,va1_0_1,No a1_0.2.2] 77,.row va1_0_1 5 1 (a1_0.2.1).length xsa1_0_1,.box ba2 [Aad a2.1,No a2.2.1,va2_2,No a2.2.2.2.1,.bool a2.2.2.2.2.1,No a2.2.2.2.2.2.1,No a2.2.2.2.2.2.2.1,No a2.2.2.2.2.2.2.2.1,No a2.2.2.2.2.2.2.2.2.1,No a2.2.2.2.2.2.2.2.2.2.1,va2_10,va2_11] 50] O)) va2_2 (a2.2.2.1))(_ha2_10:AL .st (gz H b w (Ha [.box ba1 [Aac ba1_0] 75,.box ba1_0 [va1_0_0,va1_0_1,No a1_0.2.2] 77,.row va1_0_1 5 1 (a1_0.2.1).length xsa1_0_1,.box ba2 [Aad a2.1,No a2.2.1,va2_2,No a2.2.2.2.1,.bool a2.2.2.2.2.1,No a2.2.2.2.2.2.1,No a2.2.2.2.2.2.2.1,No a2.2.2.2.2.2.2.2.1,No a2.2.2.2.2.2.2.2.2.1,No a2.2.2.2.2.2.2.2.2.2.1,va2_10,va2_11] 50] O)) va2_10 (a2.2.2.2.2.2.2.2.2.2.2.1))(_ha2_11:AL (.int .i64) (gz H b w (Ha [.box ba1 [Aac ba1_0] 75,.box ba1_0 [va1_0_0,va1_0_1,No a1_0.2.2] 77,.row va1_0_1 5 1 (a1_0.2.1).length xsa1_0_1,.box ba2 [Aad a2.1,No a2.2.1,va2_2,No a2.2.2.2.1,.bool a2.2.2.2.2.1,No a2.2.2.2.2.2.1,No a2.2.2.2.2.2.2.1,No a2.2.2.2.2.2.2.2.1,No a2.2.2.2.2.2.2.2.2.1,No a2.2.2.2.2.2.2.2.2.2.1,va2_10,va2_11] 50] O)) va2_11 (a2.2.2.2.2.2.2.2.2.2.2.2)){r:Bool}(h:DZ a0 a1_0 a2=some r):
  Ok prog 105 [No a0,Aac ba1,Aac ba2] w (fun v w'=>v=.bool r/\AW b (Ha [.box ba1 [Aac ba1_0] 75,.box ba1_0 [va1_0_0,va1_0_1,No a1_0.2.2] 77,.row va1_0_1 5 1 (a1_0.2.1).length xsa1_0_1,.box ba2 [Aad a2.1,No a2.2.1,va2_2,No a2.2.2.2.1,.bool a2.2.2.2.2.1,No a2.2.2.2.2.2.1,No a2.2.2.2.2.2.2.1,No a2.2.2.2.2.2.2.2.1,No a2.2.2.2.2.2.2.2.2.1,No a2.2.2.2.2.2.2.2.2.2.1,va2_10,va2_11] 50] O) w'/\Le (fz w (Ha [.box ba1 [Aac ba1_0] 75,.box ba1_0 [va1_0_0,va1_0_1,No a1_0.2.2] 77,.row va1_0_1 5 1 (a1_0.2.1).length xsa1_0_1,.box ba2 [Aad a2.1,No a2.2.1,va2_2,No a2.2.2.2.1,.bool a2.2.2.2.2.1,No a2.2.2.2.2.2.1,No a2.2.2.2.2.2.2.1,No a2.2.2.2.2.2.2.2.1,No a2.2.2.2.2.2.2.2.2.1,No a2.2.2.2.2.2.2.2.2.2.1,va2_10,va2_11] 50] O)) (fz w' (Ha [.box ba1 [Aac ba1_0] 75,.box ba1_0 [va1_0_0,va1_0_1,No a1_0.2.2] 77,.row va1_0_1 5 1 (a1_0.2.1).length xsa1_0_1,.box ba2 [Aad a2.1,No a2.2.1,va2_2,No a2.2.2.2.1,.bool a2.2.2.2.2.1,No a2.2.2.2.2.2.1,No a2.2.2.2.2.2.2.1,No a2.2.2.2.2.2.2.2.1,No a2.2.2.2.2.2.2.2.2.1,No a2.2.2.2.2.2.2.2.2.2.1,va2_10,va2_11] 50] O))):=by
 refine BC (n:=16) [(0,No a0),(1,(Aac ba1)),(2,(Aac ba2))] func105 Z Z Z Z ?_;have hT:=Le.refl (fz w (Ha [.box ba1 [Aac ba1_0] 75,.box ba1_0 [va1_0_0,va1_0_1,No a1_0.2.2] 77,.row va1_0_1 5 1 (a1_0.2.1).length xsa1_0_1,.box ba2 [Aad a2.1,No a2.2.1,va2_2,No a2.2.2.2.1,.bool a2.2.2.2.2.1,No a2.2.2.2.2.2.1,No a2.2.2.2.2.2.2.1,No a2.2.2.2.2.2.2.2.1,No a2.2.2.2.2.2.2.2.2.1,No a2.2.2.2.2.2.2.2.2.2.1,va2_10,va2_11] 50] O));have d:=hL.rG H;refine AI 1 Z<|CI (Qqz 0 12 (.tail 12)) mixed V (fun t g=>?_);have a:=hL.call g;have e:=Bd hL g;refine B9 Z (Ae 0 Z a Z) Z<|B9 Z (AV Z) Z<|B9 Z (Af Z Aa7 Z HQ.e) Z<|B9 Z (Af Z Aas Z Ho.e) Z<|B9 Z (Ae 1 Z a Z) Z<|B9 Z (Af Z Aak Z B4.e) Z<|B9 Z (Ae 3 Z a Z) Z<|A3 h fun i h=>?_;have d:=d.trans (Ac e);refine Fl Z Z Z Aat (c.mono d) a2.2.2.2.2.2.2.2.2.1.toNat (CT i) (AD i) Z ?_
 rintro u _ ⟨_,_,rfl,rfl,⟨_,_,rfl,rfl,⟨_,_,rfl,⟨e4v2,rfl,e4h2⟩,⟨_,_,rfl,rfl,⟨_,_,rfl,rfl,⟨_,_,rfl,rfl,⟨_,_,rfl,rfl,⟨_,_,rfl,rfl,⟨_,_,rfl,rfl,⟨_,_,rfl,rfl,⟨_,_,rfl,⟨e4v10,rfl,e4h10⟩,⟨e4v11,rfl,e4h11⟩⟩⟩⟩⟩⟩⟩⟩⟩⟩⟩⟩ m;refine B9 Z (Ce m (Ao a)) Z<|BJ 1 Z<|Av h fun x o h=>?_;have k:=(fun(p:World) (f:Ext _ p)=>JM p _ (Le.refl _) ((e4h2.mono (Ao a)).mono f.le) ((e4h10.mono (Ao a)).mono f.le) ((e4h11.mono (Ao a)).mono f.le) o);refine IA Z Z Z k<|BJ 1 Z<|B8 (fun y j=>?_);have s:=a.call j;have l:=Bd a j;refine Al<|Au ?_
 cases h
 refine Aj Z ?_;have hT:=hT.trans (e.trans l);exact⟨Z,s,hT⟩
def CB(b:List Aae)(a:Int):Option ((List Aae)):=
 Bb (0<=a/\a<=(b.length:Int)) (Bb (0<=a/\a<=((b.take a.toNat++Qzw (b.length - a.toNat) ([]:Aae)).length:Int)) (some (((b.take a.toNat++Qzw (b.length - a.toNat) ([]:Aae)).take a.toNat))))
def C1:(List Aae)×Int×Int->Option (((List Aae)×Int×Int)⊕((List Aae))):=fun⟨c,b,a⟩=>
 if a<(c.length:Int)then Bb (0<=a/\a<(c.length:Int)) (Qq8 (DX (c.getD a.toNat Qq1)) (fun d=>if !d then Bb (0<=b/\b<(c.length:Int)) (Bb (BH (b+1)) (Bb (BH (a+1)) (some (Sum.inl ((c.set b.toNat (c.getD a.toNat Qq1)),(b+1),(a+1))))))else Bb (BH (a+1)) (some (Sum.inl (c,b,(a+1))))))else Qzq Sum.inr (CB c b)
def D3(s:(List Aae)×Int×Int):Option ((List Aae)):=Go.L.run C1 s
def Bw(a0:List Aae):Option ((List Aae)):=
 Qq8 (LN a0) (fun a=>if a=(-1)then some a0 else Bb (BH (a+1)) (D3 (a0,a,(a+1))))
theorem Jr{s w:World}{H:PH}(hH:Le H (hp s)){O:List BN}{a0:List Aae}{va0:Value}{xsa0:Qq5}(hL:AW s (Ha [.row va0 9 1 (a0).length xsa0] O) w)(g:A5 .st (gz H s w (Ha [.row va0 9 1 (a0).length xsa0] O)) a0 xsa0){r:(List Aae)}(h:Bw a0=some r):
  Ok prog 108 [va0,.func (.func 109) #[] #[]] w (fun v w'=>∃(u0:Value) (y0:Qq5),v=u0/\AW s (Ha [.row u0 9 1 (r).length y0] O) w'/\Le (fz w (Ha [.row va0 9 1 (a0).length xsa0] O)) (fz w' (Ha [.row u0 9 1 (r).length y0] O))/\A5 .st (gz H s w' (Ha [.row u0 9 1 (r).length y0] O)) r y0):=by
 refine BC (n:=42) [(0,va0),(1,.func (.func 109) #[] #[])] func108 Z Z Z Z ?_;have hT:=Le.refl (fz w (Ha [.row va0 9 1 (a0).length xsa0] O));refine AI 1 Z<|B1 2 Z<|Av h fun x1 a6 h=>A6 hL (Ql _ _ (Le.refl _) (hL.KA hH (i:=0) Z g) a6) fun w2 bd ah p=>A1 1 Z<|AM<|AI 2 Z<|AS h ?_ ?_<;>intro a7 h
 ·refine AI 2 Z<|Au<|AE ?_
  cases h
  refine Aj Z ?_;have g:=g.mono (Ac p);have hT:=hT.trans p;exact⟨va0,xsa0,Z,ah,hT,g⟩
 refine A4<|A2<|Bm ((List Aae)×Int×Qq5) (fun⟨k,f,m⟩=>[(0,va0),(5,No f)]) (fun⟨k,f,m⟩ wr=>DE s (Ha [.row va0 9 1 (k).length m] O) wr fun Oz=>A5 .st (gz H s wr Oz) k m/\Le (fz w (Ha [.row va0 9 1 (a0).length xsa0] O)) (fz wr Oz)/\CB k f=some r) ?_ ?_
 ·refine B1 1 Z<|A3 h fun ai h=>Ag (AA ai)<|A1 1 Z<|A8 ?_;obtain⟨y,h⟩:=Bc h;have g:=g.mono (Ac p);have hT:=hT.trans p;refine Bz ((List Aae)×Int×Int×Qq5×Nat) (fun⟨e,a,b,d,n⟩=>[(0,va0),(1,.func (.func 109) #[] #[]),(5,No a),(6,No b)]) (fun⟨e,a,b,d,n⟩ wr=>DE s (Ha [.row va0 9 1 (e).length d] O) wr fun Oz=>A5 .st (gz H s wr Oz) e d/\Le (fz w (Ha [.row va0 9 1 (a0).length xsa0] O)) (fz wr Oz)/\FW C1 n (e,a,b)=some r) (fun⟨e,a,b,d,n⟩=>n) (a0,x1,(x1+1),xsa0,y) Z ⟨ah,g,hT,h⟩ ?_;rintro⟨e,a,b,d,nn70⟩ a9 ⟨q,c,hT,h⟩;obtain⟨y,be,rfl,h,t⟩:=Ba h;refine AM<|B1 2 Z<|Ag (Ng 0 Z q Z)<|A1 1 Z<|AS h ?_ ?_<;>intro aj h
  ·refine A4<|A2<|AM<|A8<|B1 2 Z<|A3 h fun aa h=>Bf (q.KA hH (i:=0) Z c) b.toNat (CT aa) (AD aa) ?_;rintro bf _ rfl ak;refine Ag (AX ak (Le.refl _))<|A1 1 Z<|B1 2 Z<|Av h fun bg al h=>Nn q (I7 _ _ (Ao q) al) ?_;rintro _ bh rfl ba u o;refine A1 1 Z<|Bi h ?_ ?_<;>intro am h
   ·refine B1 3 Z<|A3 h fun x h=>Ck 0 Z Aan LH.e u Z a.toNat (CT x) (AD x) ?_;intro bi an;have c:=c.mono (Ac o);refine CO 0 a.toNat (e.getD b.toNat Qq1) Z hH u Z c an (AD x) Z fun bj ao ap ad aq=>Al<|Az<|Ar 1 Z<|A3 h fun ar h=>Ag (AA ar)<|Ar 1 Z<|AP<|A9<|A2<|Az<|Ar 1 Z<|A3 h fun au h=>Ag (AA au)<|Ar 1 Z<|AP ?_;have h:=BW.again h t;have hT:=hT.trans (o.trans ad);refine AN (_,_,_,_,_) ⟨ap,aq,hT,h⟩
   refine A4<|A9<|A2<|Az<|Ar 1 Z<|A3 h fun av h=>Ag (AA av)<|Ar 1 Z<|AP ?_;have h:=BW.again h t;have c:=c.mono (Ac o);have hT:=hT.trans o;refine AN (_,_,_,_,_) ⟨u,c,hT,h⟩
  refine Bq<|AK<|AF ?_;have h:=BW.out h t;refine Bj<|AH (_,_,_) ⟨q,c,hT,h⟩
 have hT:=hT.trans p;rintro⟨k,f,m⟩ bb ⟨ab,ae,hT,h⟩;refine B1 2 Z<|A3 h fun aw h=>XX 0 Z Aan ab Z aw fun bk ax=>UX (r:=.st) (l:=k) (z:=([]:Aae)) 0 ax Aan hH ab Z ae (fun _=>Z) fun bl bc ay af az=>Al<|B1 2 Z<|A3 h fun a1 h=>XY (r:=.st) (l:=(k.take f.toNat++Qzw (k.length - f.toNat) ([]:Aae))) 0 Z Aan hH ay Z az a1 fun a8 a2 a3 ag a4=>A1 1 Z<|Au ?_
 cases h
 refine Aj Z ?_;have hT:=hT.trans (af.trans ag);exact⟨a8,a2,Z,a3,hT,a4⟩
def BR(a0:AaI)(a1:AaE)(a2:Pv)(a:Bool):Option Bool:=
 if a then(if a2.f.1=1 then Qq8 (E0 a1 a2.f.2.1) (fun e=>some e)else some false)else(if a1.2.1=4 then some (((decide (a2.f.1=2))&&(decide ((a2.f.2.2.1.length:Int)=a1.2.2.2.1))))else(if a1.2.1=10 then(if a2.f.1=2 then Qq8 (DZ (a2.f.2.2.1.length:Int) a0 a1) (fun g=>some g)else some false)else(if a1.2.1=5 then none else(if a1.2.1=6 then(if a2.f.1=3 then Qq8 (DZ (a2.f.2.2.2.2.length:Int) a0 a1) (fun h=>some h)else some false)else(if a1.2.1=9 then none else(if a1.2.1=8 then(if((decide (a2.f.1=3))&&(decide ((a2.f.2.2.2.2.length:Int)=2)))then Bb (0<=(0:Int)/\(0:Int)<(a2.f.2.2.2.2.length:Int)) (if(a2.f.2.2.2.2.getD ((0:Int).toNat) Qq1).f.1=1 then Bb (0<=(0:Int)/\(0:Int)<(a2.f.2.2.2.2.length:Int)) (if 0<=(a2.f.2.2.2.2.getD ((0:Int).toNat) Qq1).f.2.1 then Bb (0<=(0:Int)/\(0:Int)<(a2.f.2.2.2.2.length:Int)) (some (decide ((a2.f.2.2.2.2.getD ((0:Int).toNat) Qq1).f.2.1<(a1.2.2.2.2.2.2.2.2.2.2.2.length:Int))))else some false)else some false)else some false)else Qq8 (Bx a1.2.2.2.2.2.2.2.2.2.2.1) (fun b=>Qq8 (Bw b) (fun c=>if a2.f.1=4 then Qq8 (BD a2.f.2.2.2.1 c) (fun d=>some d)else some false))))))))
def C5(a0:AaI)(a1:AaE)(a2:Pv):Option Bool:=
 if a1.2.1=1 then none else(if a1.2.1=2 then(BR a0 a1 a2) (decide (a1.2.1=2))else(BR a0 a1 a2) (decide (a1.2.1=3)))
theorem Mv{l w:World}{H:PH}(hH:Le H (hp l)){O:List BN}{a0:AaI}{a1:AaE}{a2:Pv}{ba0:Nat}{va0_0 va0_1:Value}{xsa0_1:Qq5}{va1_2 va1_10 va1_11 va2_2 va2_3 va2_4:Value}(hL:AW l (Ha [.box ba0 [va0_0,va0_1,No a0.2.2] 77,.row va0_1 5 1 (a0.2.1).length xsa0_1] O) w)(ay:AL AaK (gz H l w (Ha [.box ba0 [va0_0,va0_1,No a0.2.2] 77,.row va0_1 5 1 (a0.2.1).length xsa0_1] O)) va0_0 (a0.1))(am:A5 .byte (gz H l w (Ha [.box ba0 [va0_0,va0_1,No a0.2.2] 77,.row va0_1 5 1 (a0.2.1).length xsa0_1] O)) (a0.2.1) xsa0_1)(az:AL .byte (gz H l w (Ha [.box ba0 [va0_0,va0_1,No a0.2.2] 77,.row va0_1 5 1 (a0.2.1).length xsa0_1] O)) va1_2 (a1.2.2.1))(an:AL .st (gz H l w (Ha [.box ba0 [va0_0,va0_1,No a0.2.2] 77,.row va0_1 5 1 (a0.2.1).length xsa0_1] O)) va1_10 (a1.2.2.2.2.2.2.2.2.2.2.1))(ao:AL (.int .i64) (gz H l w (Ha [.box ba0 [va0_0,va0_1,No a0.2.2] 77,.row va0_1 5 1 (a0.2.1).length xsa0_1] O)) va1_11 (a1.2.2.2.2.2.2.2.2.2.2.2))(a3:AL .byte (gz H l w (Ha [.box ba0 [va0_0,va0_1,No a0.2.2] 77,.row va0_1 5 1 (a0.2.1).length xsa0_1] O)) va2_2 (a2.f.2.2.1))(a4:AL .st (gz H l w (Ha [.box ba0 [va0_0,va0_1,No a0.2.2] 77,.row va0_1 5 1 (a0.2.1).length xsa0_1] O)) va2_3 (a2.f.2.2.2.1))(a5:AL .tree (gz H l w (Ha [.box ba0 [va0_0,va0_1,No a0.2.2] 77,.row va0_1 5 1 (a0.2.1).length xsa0_1] O)) va2_4 (a2.f.2.2.2.2)){r:Bool}(h:C5 a0 a1 a2=some r):
  Ok prog 73 [Aac ba0,.agg #[Aad a1.1,No a1.2.1,va1_2,No a1.2.2.2.1,.bool a1.2.2.2.2.1,No a1.2.2.2.2.2.1,No a1.2.2.2.2.2.2.1,No a1.2.2.2.2.2.2.2.1,No a1.2.2.2.2.2.2.2.2.1,No a1.2.2.2.2.2.2.2.2.2.1,va1_10,va1_11],.agg #[No a2.f.1,No a2.f.2.1,va2_2,va2_3,va2_4]] w (fun v w'=>v=.bool r/\AW l (Ha [.box ba0 [va0_0,va0_1,No a0.2.2] 77,.row va0_1 5 1 (a0.2.1).length xsa0_1] O) w'/\Le (fz w (Ha [.box ba0 [va0_0,va0_1,No a0.2.2] 77,.row va0_1 5 1 (a0.2.1).length xsa0_1] O)) (fz w' (Ha [.box ba0 [va0_0,va0_1,No a0.2.2] 77,.row va0_1 5 1 (a0.2.1).length xsa0_1] O))):=by
 refine BC (n:=150) [(0,(Aac ba0)),(1,.agg #[Aad a1.1,No a1.2.1,va1_2,No a1.2.2.2.1,.bool a1.2.2.2.2.1,No a1.2.2.2.2.2.1,No a1.2.2.2.2.2.2.1,No a1.2.2.2.2.2.2.2.1,No a1.2.2.2.2.2.2.2.2.1,No a1.2.2.2.2.2.2.2.2.2.1,va1_10,va1_11]),(2,.agg #[No a2.f.1,No a2.f.2.1,va2_2,va2_3,va2_4])] func73 Z Z Z Z ?_;have hT:=Le.refl (fz w (Ha [.box ba0 [va0_0,va0_1,No a0.2.2] 77,.row va0_1 5 1 (a0.2.1).length xsa0_1] O));have e:=hL.rG H;refine Aq<|Nh (t:=75) Z Z hL fun w2 b2 d4 af _=>Cj (t:=50) Z Z d4 fun w3 b3 d5 ag _=>Cj (t:=34) Z Z d5 fun w4 b4 bh ah _=>A1 1 Z<|AI 2 Z<|AM<|Aq<|Ag (Af Z Aak Z B4.e)<|Ag (Ae 1 Z bh Z)<|Al<|A8<|AI 2 Z<|AS h ?_ ?_<;>intro d6 h
 ·cases h
 refine Bm Bool (fun ab=>[(4,(Aac b3)),(5,(Aac b4)),(7,.func (.func 105) #[] #[Aac b2,Aac b3]),(11,No a1.2.1),(23,.bool ab)]) (fun ab wr=>DE l (Ha [.box b4 [No a2.f.1,No a2.f.2.1,va2_2,va2_3,va2_4] 34,.box b3 [Aad a1.1,No a1.2.1,va1_2,No a1.2.2.2.1,.bool a1.2.2.2.2.1,No a1.2.2.2.2.2.1,No a1.2.2.2.2.2.2.1,No a1.2.2.2.2.2.2.2.1,No a1.2.2.2.2.2.2.2.2.1,No a1.2.2.2.2.2.2.2.2.2.1,va1_10,va1_11] 50,.box b2 [Aac ba0] 75,.box ba0 [va0_0,va0_1,No a0.2.2] 77,.row va0_1 5 1 (a0.2.1).length xsa0_1] O) wr fun Oz=>AL .byte (gz H l wr Oz) va2_2 (a2.f.2.2.1)/\AL .st (gz H l wr Oz) va2_3 (a2.f.2.2.2.1)/\AL .tree (gz H l wr Oz) va2_4 (a2.f.2.2.2.2)/\AL .byte (gz H l wr Oz) va1_2 (a1.2.2.1)/\AL .st (gz H l wr Oz) va1_10 (a1.2.2.2.2.2.2.2.2.2.2.1)/\AL (.int .i64) (gz H l wr Oz) va1_11 (a1.2.2.2.2.2.2.2.2.2.2.2)/\AL AaK (gz H l wr Oz) va0_0 (a0.1)/\A5 .byte (gz H l wr Oz) (a0.2.1) xsa0_1/\Le (fz w (Ha [.box ba0 [va0_0,va0_1,No a0.2.2] 77,.row va0_1 5 1 (a0.2.1).length xsa0_1] O)) (fz wr Oz)/\(BR a0 a1 a2) ab=some r) ?_ ?_
 ·refine AI 2 Z<|AS h ?_ ?_<;>intro cx h
  ·refine A4 ?_;have e:=e.trans (Ac (af.trans (ag.trans ah)));have hT:=hT.trans (af.trans (ag.trans ah));refine AH _ ⟨bh,(a3.mono e),(a4.mono e),(a5.mono e),(az.mono e),(an.mono e),(ao.mono e),(ay.mono e),(am.mono e),hT,h⟩
  refine Az<|Ar 2 Z<|AP ?_;have e:=e.trans (Ac (af.trans (ag.trans ah)));have hT:=hT.trans (af.trans (ag.trans ah));refine AH _ ⟨bh,(a3.mono e),(a4.mono e),(a5.mono e),(az.mono e),(an.mono e),(ao.mono e),(ay.mono e),(am.mono e),hT,h⟩
 have hT:=hT.trans (af.trans (ag.trans ah));rintro ab al ⟨b,aq,bi,x,ai,ac,ad,ar,he13_Ra0_1,hT,h⟩;refine Bi h ?_ ?_<;>intro cy h
 ·have av:=b.rG H;refine Aq<|Ag (Af Z Aaz Z B4.e)<|Ag (Ae 0 Z b Z)<|Ar 2 Z<|AQ 29 h ?_ ?_<;>intro y h
  ·refine Aa y<|Ag (Ax 1 Z Bl.e b Z)<|Aa y<|Ag (Af Z Aaz Z B4.e)<|Aa y<|Ag (Ae 0 Z b Z)<|Aa y<|Av h fun el cz h=>A6 b (JM (a0:=a1) _ _ (Ao b) (ai.mono av) (ac.mono av) (ad.mono av) cz) fun em eb c0 bw=>Ag (Ak y Z)<|A1 1 Z<|Au<|Ay<|AE ?_
   cases h
   refine Aj Z ?_;have c1:=c0.AR (i:=0) Z;have c2:=c1.AR (i:=0) Z;have c3:=c2.AR (i:=0) Z;have hT:=hT.trans (bw.trans ((Ah (i:=0) Z).trans ((Ah (i:=0) Z).trans (Ah (i:=0) Z))));exact⟨Z,c3,hT⟩
  iterate 4 refine Ab y ?_
  refine Ag (Am y Z)<|A1 1 Z<|Au<|Ay<|AE ?_
  cases h
  refine Aj Z ?_;have c4:=b.AR (i:=0) Z;have c5:=c4.AR (i:=0) Z;have c6:=c5.AR (i:=0) Z;have hT:=hT.trans ((Ah (i:=0) Z).trans ((Ah (i:=0) Z).trans (Ah (i:=0) Z)));exact⟨Z,c6,hT⟩
 have a:=b.rG H;refine AI 2 Z<|AS h ?_ ?_<;>intro c7 h
 ·refine Aq<|Ag (Af Z Aaz Z B4.e)<|Ag (Ae 0 Z b Z)<|Ar 2 Z<|BS 7 47 (.bool ((decide (a2.f.1=2))&&(decide ((a2.f.2.2.1.length:Int)=a1.2.2.2.1)))) (fun bj=>?_) ?_
  ·refine Bk (s:=40) Z (fun g=>?_) (fun g=>?_)
   ·refine Aa g<|Ag (Af Z Aaz Z CC.e)<|Aa g<|Ag (Ae 0 Z b Z)<|Aa g<|Ag (AT (aq.mono a))<|Aa g<|Ag (Af Z Aak Z B4.e)<|Aa g<|Ag (Ae 1 Z b Z)<|Aa g<|Ag (Ad Z)<|Ag (Ak g Z)<|bj.to 6 (FU g) Z Z
   iterate 6 refine Ab g ?_
   refine Ag (Am g Z)<|bj.to 6 (FV g) Z Z
  refine A1 1 Z<|Au<|Ay<|AE ?_
  cases h
  refine Aj Z ?_;have c8:=b.AR (i:=0) Z;have c9:=c8.AR (i:=0) Z;have da:=c9.AR (i:=0) Z;have hT:=hT.trans ((Ah (i:=0) Z).trans ((Ah (i:=0) Z).trans (Ah (i:=0) Z)));exact⟨Z,da,hT⟩
 refine AI 2 Z<|AS h ?_ ?_<;>intro db h
 ·refine Aq<|Ag (Af Z Aaz Z B4.e)<|Ag (Ae 0 Z b Z)<|Ar 2 Z<|AQ 53 h ?_ ?_<;>intro p h
  ·refine Aa p<|Ag (Ad Z)<|Aa p<|Ag (Af Z Aaz Z CC.e)<|Aa p<|Ag (Ae 0 Z b Z)<|Aa p<|Ag (AT (aq.mono a))<|Aa p ?_;have aw:AW l (Ha [.row va0_1 5 1 (a0.2.1).length xsa0_1,.box b3 [Aad a1.1,No a1.2.1,va1_2,No a1.2.2.2.1,.bool a1.2.2.2.2.1,No a1.2.2.2.2.2.1,No a1.2.2.2.2.2.2.1,No a1.2.2.2.2.2.2.2.1,No a1.2.2.2.2.2.2.2.2.1,No a1.2.2.2.2.2.2.2.2.2.1,va1_10,va1_11] 50,.box b4 [No a2.f.1,No a2.f.2.1,va2_2,va2_3,va2_4] 34,.box b2 [Aac ba0] 75,.box ba0 [va0_0,va0_1,No a0.2.2] 77] O) al:=b.Bn [1,4] Z;have a6:=AJ [1,4] b aw Z;have bk:AW l (Ha [.box b2 [Aac ba0] 75,.box ba0 [va0_0,va0_1,No a0.2.2] 77,.row va0_1 5 1 (a0.2.1).length xsa0_1,.box b3 [Aad a1.1,No a1.2.1,va1_2,No a1.2.2.2.1,.bool a1.2.2.2.2.1,No a1.2.2.2.2.2.1,No a1.2.2.2.2.2.2.1,No a1.2.2.2.2.2.2.2.1,No a1.2.2.2.2.2.2.2.2.1,No a1.2.2.2.2.2.2.2.2.2.1,va1_10,va1_11] 50,.box b4 [No a2.f.1,No a2.f.2.1,va2_2,va2_3,va2_4] 34] O) al:=aw.Bn [4,4] Z
   have a7:=AJ [4,4] aw bk Z;refine Av h fun en dc h=>?_;have a:=a.trans (Ac (a6.trans a7));refine BU Z Z (I8 (a0:=(a2.f.2.2.1.length:Int)) (a1_0:=a0) (a2:=a1) (O:=(Ha [.box b4 [No a2.f.1,No a2.f.2.1,va2_2,va2_3,va2_4] 34] O)) hH bk (ar.mono a) (he13_Ra0_1.mono a) (ai.mono a) (ac.mono a) (ad.mono a) dc) ?_;rintro _ eo ⟨rfl,dd,bx⟩;refine Ag (Ak p Z)<|A1 1 Z<|Au<|Ay<|AE ?_
   cases h
   refine Aj Z ?_;have de:=dd.AR (i:=0) Z;have df:=de.AR (i:=2) Z;have dg:=df.AR (i:=2) Z;have hT:=hT.trans (a6.trans (a7.trans (bx.trans ((Ah (i:=0) Z).trans ((Ah (i:=2) Z).trans (Ah (i:=2) Z))))));exact⟨Z,dg,hT⟩
  iterate 5 refine Ab p ?_
  refine Ag (Am p Z)<|A1 1 Z<|Au<|Ay<|AE ?_
  cases h
  refine Aj Z ?_;have dh:=b.AR (i:=0) Z;have di:=dh.AR (i:=0) Z;have dj:=di.AR (i:=0) Z;have hT:=hT.trans ((Ah (i:=0) Z).trans ((Ah (i:=0) Z).trans (Ah (i:=0) Z)));exact⟨Z,dj,hT⟩
 refine AI 2 Z<|AS h ?_ ?_<;>intro dk h
 ·cases h
 refine AI 2 Z<|AS h ?_ ?_<;>intro dl h
 ·refine Aq<|Ag (Af Z Aaz Z B4.e)<|Ag (Ae 0 Z b Z)<|Ar 2 Z<|AQ 87 h ?_ ?_<;>intro u h
  ·refine Aa u<|Ag (Ad Z)<|Aa u<|Ag (Af Z Aaz Z Ig.e)<|Aa u<|Ag (Ae 0 Z b Z)<|Aa u<|Ag (AT (x.mono a))<|Aa u ?_;have ax:AW l (Ha [.row va0_1 5 1 (a0.2.1).length xsa0_1,.box b3 [Aad a1.1,No a1.2.1,va1_2,No a1.2.2.2.1,.bool a1.2.2.2.2.1,No a1.2.2.2.2.2.1,No a1.2.2.2.2.2.2.1,No a1.2.2.2.2.2.2.2.1,No a1.2.2.2.2.2.2.2.2.1,No a1.2.2.2.2.2.2.2.2.2.1,va1_10,va1_11] 50,.box b4 [No a2.f.1,No a2.f.2.1,va2_2,va2_3,va2_4] 34,.box b2 [Aac ba0] 75,.box ba0 [va0_0,va0_1,No a0.2.2] 77] O) al:=b.Bn [1,4] Z;have a8:=AJ [1,4] b ax Z;have bl:AW l (Ha [.box b2 [Aac ba0] 75,.box ba0 [va0_0,va0_1,No a0.2.2] 77,.row va0_1 5 1 (a0.2.1).length xsa0_1,.box b3 [Aad a1.1,No a1.2.1,va1_2,No a1.2.2.2.1,.bool a1.2.2.2.2.1,No a1.2.2.2.2.2.1,No a1.2.2.2.2.2.2.1,No a1.2.2.2.2.2.2.2.1,No a1.2.2.2.2.2.2.2.2.1,No a1.2.2.2.2.2.2.2.2.2.1,va1_10,va1_11] 50,.box b4 [No a2.f.1,No a2.f.2.1,va2_2,va2_3,va2_4] 34] O) al:=ax.Bn [4,4] Z
   have a9:=AJ [4,4] ax bl Z;refine Av h fun ep dm h=>?_;have a:=a.trans (Ac (a8.trans a9));refine BU Z Z (I8 (a0:=(a2.f.2.2.2.2.length:Int)) (a1_0:=a0) (a2:=a1) (O:=(Ha [.box b4 [No a2.f.1,No a2.f.2.1,va2_2,va2_3,va2_4] 34] O)) hH bl (ar.mono a) (he13_Ra0_1.mono a) (ai.mono a) (ac.mono a) (ad.mono a) dm) ?_;rintro _ eq ⟨rfl,dn,bz⟩;refine Ag (Ak u Z)<|A1 1 Z<|Au<|Ay<|AE ?_
   cases h
   refine Aj Z ?_;have dp:=dn.AR (i:=0) Z;have dq:=dp.AR (i:=2) Z;have dr:=dq.AR (i:=2) Z;have hT:=hT.trans (a8.trans (a9.trans (bz.trans ((Ah (i:=0) Z).trans ((Ah (i:=2) Z).trans (Ah (i:=2) Z))))));exact⟨Z,dr,hT⟩
  iterate 5 refine Ab u ?_
  refine Ag (Am u Z)<|A1 1 Z<|Au<|Ay<|AE ?_
  cases h
  refine Aj Z ?_;have ds:=b.AR (i:=0) Z;have dt:=ds.AR (i:=0) Z;have du:=dt.AR (i:=0) Z;have hT:=hT.trans ((Ah (i:=0) Z).trans ((Ah (i:=0) Z).trans (Ah (i:=0) Z)));exact⟨Z,du,hT⟩
 refine AI 2 Z<|AS h ?_ ?_<;>intro dv h
 ·cases h
 refine AI 2 Z<|AS h ?_ ?_<;>intro dw h
 ·refine CI (Qqz 0 37 (.tail 37)) mixed V (fun er bm=>?_);have c:=b.call bm;have z:=Bd b bm;refine B9 Z (Af Z Aaz Z B4.e) Z<|B9 Z (Ae 0 Z c Z) Z<|BJ 2 Z<|Za 5 109 (.bool ((decide (a2.f.1=3))&&(decide ((a2.f.2.2.2.2.length:Int)=2)))) (fun bn=>?_) ?_
  ·refine Ic 104 Z (fun o=>?_) (fun o=>?_)
   ·refine CE Z (Af Z Aaz Z Ig.e) Z Z Z o Z<|CE Z (Ae 0 Z c Z) Z Z Z o Z ?_;have a:=a.trans (Ac z);refine CE Z (AT (x.mono a)) Z Z Z o Z<|CE Z (Ad Z) Z Z Z o Z<|B9 Z (Ak o Z) Z<|bn.to 4 (FU o) Z Z
   iterate 4 refine M3 Z Z Z Z o Z ?_
   refine B9 Z (Am o Z) Z<|bn.to 4 (FV o) Z Z
  refine BJ 1 Z<|Ic 110 Z (fun j=>?_) (fun j=>?_)
  ·have h:=LD j h;refine CE Z (Af Z Aaz Z Ig.e) Z Z Z j Z<|CE Z (Ae 0 Z c Z) Z Z Z j Z<|A3 h fun bo h=>?_;have a:=a.trans (Ac z);refine HM Z Z Z Z j Z Z Aa3 (x.mono a) ((0:Int).toNat) (CT bo) (AD bo) Z ?_;rintro es _ e87t0 dx;obtain⟨_,_,rfl,rfl,⟨_,_,rfl,rfl,⟨_,_,rfl,⟨e87v2,rfl,e87h2⟩,⟨_,_,rfl,⟨e87v3,rfl,e87h3⟩,⟨e87v4,rfl,e87h4⟩⟩⟩⟩⟩:=Go.E.Rp.Ex e87t0;refine CE Z (Af Z Aaz Z B4.e) Z Z Z j Z ?_;have dy:=dx.add 0;refine CE Z (AX dy (Ao c)) Z Z Z j Z<|CE Z (Ad Z) Z Z Z j Z<|B9 Z (Ak j Z) Z<|BJ 1 Z<|Ic 118 Z (fun k=>?_) (fun k=>?_)
   ·have h:=MQ (of_decide_eq_true k) h;refine CE Z (Af Z Aaz Z Ig.e) Z Z Z k Z<|CE Z (Ae 0 Z c Z) Z Z Z k Z<|A3 h fun bp h=>HM Z Z Z Z k Z Z Aa3 (x.mono a) ((0:Int).toNat) (CT bp) (AD bp) Z ?_;rintro et _ e92t0 dz;obtain⟨_,_,rfl,rfl,⟨_,_,rfl,rfl,⟨_,_,rfl,⟨e92v2,rfl,e92h2⟩,⟨_,_,rfl,⟨e92v3,rfl,e92h3⟩,⟨e92v4,rfl,e92h4⟩⟩⟩⟩⟩:=Go.E.Rp.Ex e92t0;refine CE Z (Af Z Aaz Z B4.e) Z Z Z k Z ?_;have d0:=dz.add 1;refine CE Z (AX d0 (Ao c)) Z Z Z k Z<|CE Z (Ad Z) Z Z Z k Z<|B9 Z (Ak k Z) Z<|BJ 1 Z<|Ic 126 Z (fun d=>?_) (fun d=>?_)
    ·have h:=MQ (of_decide_eq_true d) h;refine CE Z (Af Z Aaz Z Ig.e) Z Z Z d Z<|CE Z (Ae 0 Z c Z) Z Z Z d Z<|A3 h fun bq h=>HM Z Z Z Z d Z Z Aa3 (x.mono a) ((0:Int).toNat) (CT bq) (AD bq) Z ?_;rintro eu _ e97t0 d1;obtain⟨_,_,rfl,rfl,⟨_,_,rfl,rfl,⟨_,_,rfl,⟨e97v2,rfl,e97h2⟩,⟨_,_,rfl,⟨e97v3,rfl,e97h3⟩,⟨e97v4,rfl,e97h4⟩⟩⟩⟩⟩:=Go.E.Rp.Ex e97t0;refine CE Z (Af Z Aaz Z B4.e) Z Z Z d Z ?_;have d2:=d1.add 1;refine CE Z (AX d2 (Ao c)) Z Z Z d Z<|CE Z (Af Z Aak Z E4.e) Z Z Z d Z<|CE Z (Ae 1 Z c Z) Z Z Z d Z<|CE Z (AT (ad.mono a)) Z Z Z d Z<|CE Z (Ad Z) Z Z Z d Z<|B9 Z (Ak d Z) Z<|BJ 1 Z<|B8 (fun ec ba=>?_);have b0:=c.call ba;have br:=Bd c ba;refine Al<|Au<|Ay<|AE ?_
     cases h
     refine Aj Z ?_;have b1:=b0.AR (i:=0) Z;have b5:=b1.AR (i:=0) Z;have b6:=b5.AR (i:=0) Z;have hT:=hT.trans (z.trans (br.trans ((Ah (i:=0) Z).trans ((Ah (i:=0) Z).trans (Ah (i:=0) Z)))));exact⟨Z,b6,hT⟩
    have h:=MR (of_decide_eq_false d) h
    iterate 9 refine M3 Z Z Z Z d Z ?_
    refine B9 Z (Am d Z) Z<|BJ 1 Z<|B8 (fun ed bb=>?_);have b7:=c.call bb;have bs:=Bd c bb;refine Al<|Au<|Ay<|AE ?_
    cases h
    refine Aj Z ?_;have b8:=b7.AR (i:=0) Z;have b9:=b8.AR (i:=0) Z;have ca:=b9.AR (i:=0) Z;have hT:=hT.trans (z.trans (bs.trans ((Ah (i:=0) Z).trans ((Ah (i:=0) Z).trans (Ah (i:=0) Z)))));exact⟨Z,ca,hT⟩
   have h:=MR (of_decide_eq_false k) h
   iterate 6 refine M3 Z Z Z Z k Z ?_
   refine B9 Z (Am k Z) Z<|BJ 1 Z ?_
   iterate 9 refine M3 Z Z Z Z Z Z ?_
   refine B9 Z (Am Z Z) Z<|BJ 1 Z<|B8 (fun ee bc=>?_);have cb:=c.call bc;have bt:=Bd c bc;refine Al<|Au<|Ay<|AE ?_
   cases h
   refine Aj Z ?_;have cc:=cb.AR (i:=0) Z;have cd:=cc.AR (i:=0) Z;have ce:=cd.AR (i:=0) Z;have hT:=hT.trans (z.trans (bt.trans ((Ah (i:=0) Z).trans ((Ah (i:=0) Z).trans (Ah (i:=0) Z)))));exact⟨Z,ce,hT⟩
  have h:=LF j h
  iterate 6 refine M3 Z Z Z Z j Z ?_
  refine B9 Z (Am j Z) Z<|BJ 1 Z ?_
  iterate 6 refine M3 Z Z Z Z Z Z ?_
  refine B9 Z (Am Z Z) Z<|BJ 1 Z ?_
  iterate 9 refine M3 Z Z Z Z Z Z ?_
  refine B9 Z (Am Z Z) Z<|BJ 1 Z<|B8 (fun ef bd=>?_);have cf:=c.call bd;have bu:=Bd c bd;refine Al<|Au<|Ay<|AE ?_
  cases h
  refine Aj Z ?_;have cg:=cf.AR (i:=0) Z;have ch:=cg.AR (i:=0) Z;have ci:=ch.AR (i:=0) Z;have hT:=hT.trans (z.trans (bu.trans ((Ah (i:=0) Z).trans ((Ah (i:=0) Z).trans (Ah (i:=0) Z)))));exact⟨Z,ci,hT⟩
 refine A4<|A9<|A2<|Aq<|Ag (Af Z Aak Z Cx.e)<|Ag (Ae 1 Z b Z)<|Av h fun d3 cj h=>Bv b (Dm _ _ (Ao b) (ac.mono a) cj) ?_;rintro d7 eg ⟨_,rfl,bf⟩ ck be ae;obtain⟨d9,be,ae,cl⟩:=bf.take hH b ck;refine Av h fun eh cm h=>BO (Jr (a0:=d3) (O:=(Ha [.box b4 [No a2.f.1,No a2.f.2.1,va2_2,va2_3,va2_4] 34,.box b3 [Aad a1.1,No a1.2.1,va1_2,No a1.2.2.2.1,.bool a1.2.2.2.2.1,No a1.2.2.2.2.2.1,No a1.2.2.2.2.2.2.1,No a1.2.2.2.2.2.2.2.1,No a1.2.2.2.2.2.2.2.2.1,No a1.2.2.2.2.2.2.2.2.2.1,va1_10,va1_11] 50,.box b2 [Aac ba0] 75,.box ba0 [va0_0,va0_1,No a0.2.2] 77,.row va0_1 5 1 (a0.2.1).length xsa0_1] O)) hH be cl cm) ?_;rintro d8 ei ⟨_,y127_0,rfl,aa,aj,bg⟩;refine A1 1 Z<|Aq<|Ag (Af Z Aaz Z B4.e)<|Ag (Ae 1 Z aa Z)<|Ar 2 Z<|AQ 144 h ?_ ?_<;>intro m h
 ·refine Aa m<|Ag (Af Z Aaz Z Cx.e)<|Aa m<|Ag (Ae 1 Z aa Z)<|Aa m<|Ag (Ad Z)<|Aa m<|Av h fun ej cn h=>?_;have a:=a.trans (Ac (ae.trans aj));refine A6 aa (Kv _ _ (Le.refl _) ((bi.mono a).mono (Ao aa)) (aa.KA hH (i:=0) Z bg) cn) fun ek ea co bv=>Ag (Ak m Z)<|A1 1 Z<|Au ?_
  cases h
  refine Aj Z ?_;have cp:=co.AR (i:=0) Z;have cq:=cp.AR (i:=0) Z;have cr:=cq.AR (i:=0) Z;have cs:=cr.AR (i:=0) Z;have hT:=hT.trans (ae.trans (aj.trans (bv.trans ((Ah (i:=0) Z).trans ((Ah (i:=0) Z).trans ((Ah (i:=0) Z).trans (Ah (i:=0) Z)))))));exact⟨Z,cs,hT⟩
 iterate 4 refine Ab m ?_
 refine Ag (Am m Z)<|A1 1 Z<|Au ?_
 cases h
 refine Aj Z ?_;have ct:=aa.AR (i:=0) Z;have cu:=ct.AR (i:=0) Z;have cv:=cu.AR (i:=0) Z;have cw:=cv.AR (i:=0) Z;have hT:=hT.trans (ae.trans (aj.trans ((Ah (i:=0) Z).trans ((Ah (i:=0) Z).trans ((Ah (i:=0) Z).trans (Ah (i:=0) Z))))));exact⟨Z,cw,hT⟩
def C8(a2:Int)(c:Aae)(b a:Int):Option ((Aae×Int)⊕(AaI)):=
 Bb (0<=a/\a<=63) (Bb (Go.E.Gx 1 (c.length+([(Go.L.u8 (a2 / 2 ^ a.toNat))]).length)) (Bb (BH (b+1)) (some (Sum.inl ((c++[(Go.L.u8 (a2 / 2 ^ a.toNat))]),(b+1))))))
def Cc(a0:AaI)(a1:AaE)(a2:Int):Aae×Int->Option ((Aae×Int)⊕(AaI)):=fun⟨b,a⟩=>
 if a<a1.2.2.2.1 then Bb (BH (8 * a)) (if a1.2.2.2.2.1 then Bb (BH (a1.2.2.2.1 - 1)) (Bb (BH ((a1.2.2.2.1 - 1) - a)) (Bb (BH (8 * ((a1.2.2.2.1 - 1) - a))) ((C8 a2 b a) (8 * ((a1.2.2.2.1 - 1) - a)))))else(C8 a2 b a) (8 * a))else Qzq Sum.inr (some ((a0.1,b,a0.2.2)))
def Gb(a0:AaI)(a1:AaE)(a2:Int)(s:Aae×Int):Option (AaI):=Go.L.run (Cc a0 a1 a2) s
def Br(a0:AaI)(a1:AaE)(a2:Int):Option (AaI):=
 if a1.2.1=3 then none else(Gb a0 a1 a2) (a0.2.1,0)
theorem Gc{e w:World}{H:PH}(hH:Le H (hp e))(_hU:Jm H){O:List BN}{a0:AaI}{a1:AaE}{a2:Int}{ba0:Nat}{va0_0 va0_1:Value}{xsa0_1:Qq5}{va1_2 va1_10 va1_11:Value}(hL:AW e (Ha [.box ba0 [va0_0,va0_1,No a0.2.2] 77,.row va0_1 5 1 (a0.2.1).length xsa0_1] O) w)(a4:AL AaK (gz H e w (Ha [.box ba0 [va0_0,va0_1,No a0.2.2] 77,.row va0_1 5 1 (a0.2.1).length xsa0_1] O)) va0_0 (a0.1))(am:A5 .byte (gz H e w (Ha [.box ba0 [va0_0,va0_1,No a0.2.2] 77,.row va0_1 5 1 (a0.2.1).length xsa0_1] O)) (a0.2.1) xsa0_1)(a5:AL .byte (gz H e w (Ha [.box ba0 [va0_0,va0_1,No a0.2.2] 77,.row va0_1 5 1 (a0.2.1).length xsa0_1] O)) va1_2 (a1.2.2.1))(an:AL .st (gz H e w (Ha [.box ba0 [va0_0,va0_1,No a0.2.2] 77,.row va0_1 5 1 (a0.2.1).length xsa0_1] O)) va1_10 (a1.2.2.2.2.2.2.2.2.2.2.1))(ao:AL (.int .i64) (gz H e w (Ha [.box ba0 [va0_0,va0_1,No a0.2.2] 77,.row va0_1 5 1 (a0.2.1).length xsa0_1] O)) va1_11 (a1.2.2.2.2.2.2.2.2.2.2.2)){r:AaI}(h:Br a0 a1 a2=some r):
  Ok prog 74 [Aac ba0,.agg #[Aad a1.1,No a1.2.1,va1_2,No a1.2.2.2.1,.bool a1.2.2.2.2.1,No a1.2.2.2.2.2.1,No a1.2.2.2.2.2.2.1,No a1.2.2.2.2.2.2.2.1,No a1.2.2.2.2.2.2.2.2.1,No a1.2.2.2.2.2.2.2.2.2.1,va1_10,va1_11],No a2] w (fun v w'=>∃(u0:Value) (u1:Value) (y1:Qq5),v=.tuple #[]/\AW e (Ha [.box ba0 [u0,u1,No r.2.2] 77,.row u1 5 1 (r.2.1).length y1] O) w'/\Le (fz w (Ha [.box ba0 [va0_0,va0_1,No a0.2.2] 77,.row va0_1 5 1 (a0.2.1).length xsa0_1] O)) (fz w' (Ha [.box ba0 [u0,u1,No r.2.2] 77,.row u1 5 1 (r.2.1).length y1] O))/\AL AaK (gz H e w' (Ha [.box ba0 [u0,u1,No r.2.2] 77,.row u1 5 1 (r.2.1).length y1] O)) u0 (r.1)/\A5 .byte (gz H e w' (Ha [.box ba0 [u0,u1,No r.2.2] 77,.row u1 5 1 (r.2.1).length y1] O)) (r.2.1) y1):=by
 refine BC (n:=55) [(0,(Aac ba0)),(1,.agg #[Aad a1.1,No a1.2.1,va1_2,No a1.2.2.2.1,.bool a1.2.2.2.2.1,No a1.2.2.2.2.2.1,No a1.2.2.2.2.2.2.1,No a1.2.2.2.2.2.2.2.1,No a1.2.2.2.2.2.2.2.2.1,No a1.2.2.2.2.2.2.2.2.2.1,va1_10,va1_11]),(2,No a2)] func74 Z Z Z Z ?_;have hT:=Le.refl (fz w (Ha [.box ba0 [va0_0,va0_1,No a0.2.2] 77,.row va0_1 5 1 (a0.2.1).length xsa0_1] O));have q:=hL.rG H;refine Aq<|Cj (t:=50) Z Z hL fun w2 b2 aq ar _=>Al<|AM<|Aq<|Ag (Af Z Aak Z B4.e)<|Ag (Ae 0 Z aq Z)<|A1 1 Z<|AS h ?_ ?_<;>intro bj h
 ·cases h
 refine A4<|A2<|Aq<|Ag (Af Z Aak Z B4.e)<|Ag (Ae 0 Z aq Z)<|A1 1 Z<|A8 ?_;obtain⟨au,h⟩:=Bc h;have q:=q.trans (Ac ar);have hT:=hT.trans ar
 refine Bz (Aae×Int×Value×Qq5×Nat) (fun⟨k,a,f,d,n⟩=>[(0,(Aac ba0)),(2,No a2),(4,(Aac b2)),(27,No a1.2.2.2.1),(28,No a)]) (fun⟨k,a,f,d,n⟩ wr=>DE e (Ha [.box b2 [Aad a1.1,No a1.2.1,va1_2,No a1.2.2.2.1,.bool a1.2.2.2.2.1,No a1.2.2.2.2.2.1,No a1.2.2.2.2.2.2.1,No a1.2.2.2.2.2.2.2.1,No a1.2.2.2.2.2.2.2.2.1,No a1.2.2.2.2.2.2.2.2.2.1,va1_10,va1_11] 50,.box ba0 [va0_0,f,No a0.2.2] 77,.row f 5 1 (k).length d] O) wr fun Oz=>AL .byte (gz H e wr Oz) va1_2 (a1.2.2.1)/\AL .st (gz H e wr Oz) va1_10 (a1.2.2.2.2.2.2.2.2.2.2.1)/\AL (.int .i64) (gz H e wr Oz) va1_11 (a1.2.2.2.2.2.2.2.2.2.2.2)/\AL AaK (gz H e wr Oz) va0_0 (a0.1)/\A5 .byte (gz H e wr Oz) k d/\Le (fz w (Ha [.box ba0 [va0_0,va0_1,No a0.2.2] 77,.row va0_1 5 1 (a0.2.1).length xsa0_1] O)) (fz wr Oz)/\FW (Cc a0 a1 a2) n (k,a)=some r) (fun⟨k,a,f,d,n⟩=>n) (a0.2.1,0,va0_1,xsa0_1,au) Z ⟨aq,(a5.mono q),(an.mono q),(ao.mono q),(a4.mono q),(am.mono q),hT,h⟩ ?_
 rintro⟨k,a,f,d,nn34⟩ bm ⟨p,ad,ae,af,s,y,hT,h⟩;obtain⟨au,bk,rfl,h,av⟩:=Ba h;have b:=p.rG H;refine AI 1 Z<|AM<|AS h ?_ ?_<;>intro a6 h
 ·refine A4<|A2<|AM<|A8<|AI 2 Z<|B1 1 Z<|A3 h fun a7 h=>Ag (AA a7)<|A1 1 Z<|Bm Int (fun j=>[(0,(Aac ba0)),(2,No a2),(4,(Aac b2)),(7,No j),(27,No a1.2.2.2.1),(28,No a)]) (fun j wr=>DE e (Ha [.box b2 [Aad a1.1,No a1.2.1,va1_2,No a1.2.2.2.1,.bool a1.2.2.2.2.1,No a1.2.2.2.2.2.1,No a1.2.2.2.2.2.2.1,No a1.2.2.2.2.2.2.2.1,No a1.2.2.2.2.2.2.2.2.1,No a1.2.2.2.2.2.2.2.2.2.1,va1_10,va1_11] 50,.box ba0 [va0_0,f,No a0.2.2] 77,.row f 5 1 (k).length d] O) wr fun Oz=>AL .byte (gz H e wr Oz) va1_2 (a1.2.2.1)/\AL .st (gz H e wr Oz) va1_10 (a1.2.2.2.2.2.2.2.2.2.2.1)/\AL (.int .i64) (gz H e wr Oz) va1_11 (a1.2.2.2.2.2.2.2.2.2.2.2)/\AL AaK (gz H e wr Oz) va0_0 (a0.1)/\A5 .byte (gz H e wr Oz) k d/\Le (fz w (Ha [.box ba0 [va0_0,va0_1,No a0.2.2] 77,.row va0_1 5 1 (a0.2.1).length xsa0_1] O)) (fz wr Oz)/\(C8 a2 k a) j=some bk) ?_ ?_
  ·refine Aq<|Ag (Af Z Aak Z Fv.e)<|Ag (Ae 0 Z p Z)<|Al<|Bi h ?_ ?_<;>intro a8 h
   ·refine Az<|Ag (Af Z Aak Z B4.e)<|Ag (Ae 0 Z p Z)<|A3 h fun a9 h=>Ag (AA a9)<|Ar 1 Z<|A3 h fun ba h=>Ag (AA ba)<|A3 h fun bb h=>Ag (AA bb)<|Ar 1 Z<|AP<|AH _ ⟨p,(ad.mono b),(ae.mono b),(af.mono b),(s.mono b),(y.mono b),hT,h⟩
   refine A4<|AH _ ⟨p,(ad.mono b),(ae.mono b),(af.mono b),(s.mono b),(y.mono b),hT,h⟩
  rintro j bn ⟨ag,aw,ax,ay,az,he48_Ra0_1,hT,h⟩;have o:=ag.rG H;refine Ek (D6 (OI (LG (D6 Gy)))) (fun z0 z=>Le (gz H e z0 (Ha [.box b2 [Aad a1.1,No a1.2.1,va1_2,No a1.2.2.2.1,.bool a1.2.2.2.2.1,No a1.2.2.2.2.2.1,No a1.2.2.2.2.2.2.1,No a1.2.2.2.2.2.2.2.1,No a1.2.2.2.2.2.2.2.2.1,No a1.2.2.2.2.2.2.2.2.2.1,va1_10,va1_11] 50,.box ba0 [va0_0,f,No a0.2.2] 77,.row f 5 1 (k).length d] O)) (hp z)/\z.heap[b2]? = some (.cells [Aad a1.1,No a1.2.1,va1_2,No a1.2.2.2.1,.bool a1.2.2.2.2.1,No a1.2.2.2.2.2.1,No a1.2.2.2.2.2.2.1,No a1.2.2.2.2.2.2.2.1,No a1.2.2.2.2.2.2.2.2.1,No a1.2.2.2.2.2.2.2.2.2.1,va1_10,va1_11].toArray 50 (0,0))/\z.heap[ba0]? = some (.cells [va0_0,f,No a0.2.2].toArray 77 (0,0))) mixed Z (fun g bq a3=>?_);have u:=ag.call a3;have ai:=Bd ag a3;have c:=u.rG H;refine Gz ⟨c.trans (Ao u),u.at (i:=0) Z,u.at (i:=1) Z⟩ fun kI61=>Aw 0 g kI61 Z (fun _ _=>Ad Z) Z<|Aw 1 g kI61 Z (fun _ _=>Ad Z) Z<|Aw 2 g kI61 Z (fun _ _=>AV Z) Z ?_
  refine Aw 3 g kI61 Z (fun _ _=>Af Z Aa7 Z CC.e) Z<|Aw 4 g kI61 Z (fun _ hI=>EB Z hI.2.2 Z) Z<|Aw 5 g kI61 Z (fun _ _=>Ad Z) Z<|Aw 6 g kI61 Z (fun _ _=>Ad Z) Z<|A3 h fun bc h=>Aw 7 g kI61 Z (fun _ _=>Ru Z bc) Z<|Aw 8 g kI61 Z (fun _ _=>EA (Gm _)) Z<|CK 9 Z<|BV [(Go.L.u8 (a2 / 2 ^ j.toNat))] (r:=.byte) (fun _=>Kh _ _) u (.c1 Z .nil) ?_;intro br bs bp aa aj bd;have c:=c.trans (Ac aj);refine AB ⟨c.trans (Ao aa),aa.at (i:=0) Z,aa.at (i:=1) Z⟩ fun kI64=>CK 10 Z<|A3 h fun be h=>?_;have o:=o.trans (Ac ai);refine BL (r:=.byte) 2 k [(Go.L.u8 (a2 / 2 ^ j.toNat))] Z Aag aa Z ((he48_Ra0_1.mono o).mono c) bd be ?_;intro bl bt bf x ak ah;have c:=c.trans (Ac ak);refine AB ⟨c.trans (Ao x),x.at (i:=0) Z,x.at (i:=1) Z⟩ fun kI67=>?_
  refine Aw 11 g kI67 Z (fun _ _=>AV Z) Z<|Aw 12 g kI67 Z (fun _ _=>Af Z Aa7 Z CC.e) Z<|CK 13 Z<|AY 1 Z Z (row_one (x.at (i:=2) Z)) x Z Z fun bu bg ab=>H5 [0,1,2,3,4,5,6,7,8,9,10,11,12]<|Cq<|A9<|A2<|Az<|A3 h fun bh h=>Ag (AA bh)<|Ar 1 Z<|AP ?_;have h:=BW.again h av;have hT:=hT.trans (ai.trans (aj.trans (ak.trans ab)));have ah:=ah.mono (Ac ab);have c:=c.trans (Ac ab);refine AN (_,_,_,_,_) ⟨bg,((aw.mono o).mono c),((ax.mono o).mono c),((ay.mono o).mono c),((az.mono o).mono c),ah,hT,h⟩
 refine Bq<|AK<|AF ?_;have h:=BW.out h av;refine Bj ?_
 cases h
 refine Et ?_;have bi:=p.AR (i:=0) Z;have b:=b.trans (Ac (Ah (i:=0) Z));have hT:=hT.trans (Ah (i:=0) Z);exact⟨va0_0,f,d,Z,bi,hT,(s.mono b),(y.mono b)⟩
def EX(a1:Int)(a2:List Pv)(self:AaI->(Int)->(Pv)->Option (AaI)):(List AaE)×Int×Aae×Int->Option (((List AaE)×Int×Aae×Int)⊕(AaI)):=fun⟨c,d,e,a⟩=>
 if a<(a2.length:Int)then Bb (0<=a/\a<(a2.length:Int)) (Qq8 (self (c,e,d) a1 (a2.getD a.toNat Qq1)) (fun b=>Bb (BH (a+1)) (some (Sum.inl (b.1,b.2.2,b.2.1,(a+1))))))else Qzq Sum.inr (some ((c,e,d)))
def Fq(a1:Int)(a2:List Pv)(self:AaI->(Int)->(Pv)->Option (AaI))(s:(List AaE)×Int×Aae×Int):Option (AaI):=Go.L.run (EX a1 a2 self) s
def El(self:AaI->(Int)->(Pv)->Option (AaI))(a0:AaI)(a1:Int)(a2:List Pv):Option (AaI):=
 (Fq a1 a2 self) (a0.1,a0.2.2,a0.2.1,0)
theorem ME{self:AaI->(Int)->(Pv)->Option (AaI)}(hself:∀{b w:World}{H:PH} (hH:Le H (hp b)) (hU:Jm H) {O:List BN}{a0:AaI}{a1:Int}{a2:Pv}{ba0:Nat}{va0_0:Value}{va0_1:Value}{xsa0_1:Qq5}{va2_2:Value}{va2_3:Value}{va2_4:Value} (hL:AW b (Ha [.box ba0 [va0_0,va0_1,No a0.2.2] 77,.row va0_1 5 1 (a0.2.1).length xsa0_1] O) w) (af:AL AaK (gz H b w (Ha [.box ba0 [va0_0,va0_1,No a0.2.2] 77,.row va0_1 5 1 (a0.2.1).length xsa0_1] O)) va0_0 (a0.1)) (ac:A5 .byte (gz H b w (Ha [.box ba0 [va0_0,va0_1,No a0.2.2] 77,.row va0_1 5 1 (a0.2.1).length xsa0_1] O)) (a0.2.1) xsa0_1) (_ha2_2:AL .byte (gz H b w (Ha [.box ba0 [va0_0,va0_1,No a0.2.2] 77,.row va0_1 5 1 (a0.2.1).length xsa0_1] O)) va2_2 (a2.f.2.2.1)) (_ha2_3:AL .st (gz H b w (Ha [.box ba0 [va0_0,va0_1,No a0.2.2] 77,.row va0_1 5 1 (a0.2.1).length xsa0_1] O)) va2_3 (a2.f.2.2.2.1)) (_ha2_4:AL .tree (gz H b w (Ha [.box ba0 [va0_0,va0_1,No a0.2.2] 77,.row va0_1 5 1 (a0.2.1).length xsa0_1] O)) va2_4 (a2.f.2.2.2.2)) {r:AaI} (h:self a0 a1 a2=some r),Ok prog 29 [Aac ba0,No a1,.agg #[No a2.f.1,No a2.f.2.1,va2_2,va2_3,va2_4]] w (fun v w'=>∃(s:Value) (j:Value) (y1:Qq5),v=.tuple #[]/\AW b (Ha [.box ba0 [s,j,No r.2.2] 77,.row j 5 1 (r.2.1).length y1] O) w'/\Le (fz w (Ha [.box ba0 [va0_0,va0_1,No a0.2.2] 77,.row va0_1 5 1 (a0.2.1).length xsa0_1] O)) (fz w' (Ha [.box ba0 [s,j,No r.2.2] 77,.row j 5 1 (r.2.1).length y1] O))/\AL AaK (gz H b w' (Ha [.box ba0 [s,j,No r.2.2] 77,.row j 5 1 (r.2.1).length y1] O)) s (r.1)/\A5 .byte (gz H b w' (Ha [.box ba0 [s,j,No r.2.2] 77,.row j 5 1 (r.2.1).length y1] O)) (r.2.1) y1)){b w:World}{H:PH}(hH:Le H (hp b))(hU:Jm H){O:List BN}{a0:AaI}{a1:Int}{a2:List Pv}{ba0:Nat}{va0_0 va0_1:Value}{xsa0_1:Qq5}{va2:Value}(hL:AW b (Ha [.box ba0 [va0_0,va0_1,No a0.2.2] 77,.row va0_1 5 1 (a0.2.1).length xsa0_1] O) w)(af:AL AaK (gz H b w (Ha [.box ba0 [va0_0,va0_1,No a0.2.2] 77,.row va0_1 5 1 (a0.2.1).length xsa0_1] O)) va0_0 (a0.1))(ac:A5 .byte (gz H b w (Ha [.box ba0 [va0_0,va0_1,No a0.2.2] 77,.row va0_1 5 1 (a0.2.1).length xsa0_1] O)) (a0.2.1) xsa0_1)(ax:AL .tree (gz H b w (Ha [.box ba0 [va0_0,va0_1,No a0.2.2] 77,.row va0_1 5 1 (a0.2.1).length xsa0_1] O)) va2 a2){r:AaI}(h:El self a0 a1 a2=some r):
  Ok prog 75 [Aac ba0,No a1,va2] w (fun v w'=>∃(s:Value) (j:Value) (y1:Qq5),v=.tuple #[]/\AW b (Ha [.box ba0 [s,j,No r.2.2] 77,.row j 5 1 (r.2.1).length y1] O) w'/\Le (fz w (Ha [.box ba0 [va0_0,va0_1,No a0.2.2] 77,.row va0_1 5 1 (a0.2.1).length xsa0_1] O)) (fz w' (Ha [.box ba0 [s,j,No r.2.2] 77,.row j 5 1 (r.2.1).length y1] O))/\AL AaK (gz H b w' (Ha [.box ba0 [s,j,No r.2.2] 77,.row j 5 1 (r.2.1).length y1] O)) s (r.1)/\A5 .byte (gz H b w' (Ha [.box ba0 [s,j,No r.2.2] 77,.row j 5 1 (r.2.1).length y1] O)) (r.2.1) y1):=by
 refine BC (n:=19) [(0,(Aac ba0)),(1,No a1),(2,va2)] func75 Z Z Z Z ?_;have hT:=Le.refl (fz w (Ha [.box ba0 [va0_0,va0_1,No a0.2.2] 77,.row va0_1 5 1 (a0.2.1).length xsa0_1] O));have y:=hL.rG H;refine B1 1 Z<|Ag (AT (ax.mono y))<|A1 1 Z<|A8 ?_;have an:AW b (Ha [.row va0_1 5 1 (a0.2.1).length xsa0_1,.box ba0 [va0_0,va0_1,No a0.2.2] 77] O) w:=hL.Bn [1] Z;have ag:=AJ [1] hL an Z;obtain⟨ao,h⟩:=Bc h;have y:=y.trans (Ac ag);have hT:=hT.trans ag
 refine Bz ((List AaE)×Int×Aae×Int×Value×Value×Qq5×Nat) (fun⟨z,p,l,a,k,d,c,n⟩=>[(0,(Aac ba0)),(1,No a1),(8,va2),(9,No (a2.length:Int)),(10,No a)]) (fun⟨z,p,l,a,k,d,c,n⟩ wr=>DE b (Ha [.row d 5 1 (l).length c,.box ba0 [k,d,No p] 77] O) wr fun Oz=>AL .tree (gz H b wr Oz) va2 a2/\A5 .byte (gz H b wr Oz) l c/\AL AaK (gz H b wr Oz) k z/\Le (fz w (Ha [.box ba0 [va0_0,va0_1,No a0.2.2] 77,.row va0_1 5 1 (a0.2.1).length xsa0_1] O)) (fz wr Oz)/\FW (EX a1 a2 self) n (z,p,l,a)=some r) (fun⟨z,p,l,a,k,d,c,n⟩=>n) (a0.1,a0.2.2,a0.2.1,0,va0_0,va0_1,xsa0_1,ao) Z ⟨an,(ax.mono y),(ac.mono y),(af.mono y),hT,h⟩ ?_;rintro⟨z,p,l,a,k,d,c,nn20⟩ az ⟨t,ad,ah,ai,hT,h⟩;obtain⟨ao,bb,rfl,h,ap⟩:=Ba h;have e:=t.rG H;refine AI 1 Z<|AM ?_
 refine AS h ?_ ?_<;>intro a3 h
 ·refine A4<|A2<|AM<|A8<|Aq<|A3 h fun aq h=>Bf (ad.mono e) a.toNat (CT aq) (AD aq) ?_;rintro bc _ e26t0 a4;obtain⟨_,_,rfl,rfl,⟨_,_,rfl,rfl,⟨_,_,rfl,⟨e26v2,rfl,e26h2⟩,⟨_,_,rfl,⟨e26v3,rfl,e26h3⟩,⟨e26v4,rfl,e26h4⟩⟩⟩⟩⟩:=Go.E.Rp.Ex e26t0;refine Ag (Ce a4 (Ao t))<|AZ B5.e Z t fun bd ay a5 m _=>A7 0 Z a5 Z (h1:=(BP Z (BP Z (BP e26h2.one (BP e26h3.one (BP e26h4.one Mx)))))) fun a9 aa o=>Al ?_;have g:=aa.rG H;refine Az<|Ar 2 Z<|Ag (Ax 0 Z B5.e aa Z) ?_;have ar:AW b (Ha [.box ba0 [k,d,No p] 77,.row d 5 1 (l).length c,.box ay [No ((a2.getD a.toNat Qq1).f.1),No ((a2.getD a.toNat Qq1).f.2.1),e26v2,e26v3,e26v4] 34] O) a9:=aa.Bn [1,2] Z;have aj:=AJ [1,2] aa ar Z;refine Av h fun ae a6 h=>?_;have e26h2:=e26h2.mono (Ac (m.trans o));have e26h3:=e26h3.mono (Ac (m.trans o));have e26h4:=e26h4.mono (Ac (m.trans o));have e:=e.trans (Ac (m.trans o));have g:=g.trans (Ac aj)
  refine BO (hself (a0:=(z,l,p)) (a1:=a1) (a2:=(a2.getD a.toNat Qq1)) (O:=(Ha [.box ay [No ((a2.getD a.toNat Qq1).f.1),No ((a2.getD a.toNat Qq1).f.2.1),e26v2,e26v3,e26v4] 34] O)) hH hU ar ((ai.mono e).mono g) ((ah.mono e).mono g) (e26h2.mono g) (e26h3.mono g) (e26h4.mono g) a6) ?_;rintro _ ba ⟨ak,ab,y33_1,rfl,a7,al,u,x⟩;refine AP<|A9<|A2<|Az<|A3 h fun a8 h=>Ag (AA a8)<|Ar 1 Z<|AP ?_;have au:=a7.AR (i:=2) Z;have av:AW b (Ha [.row ab 5 1 (ae.2.1).length y33_1,.box ba0 [ak,ab,No ae.2.2] 77] O) ba:=au.Bn [1] Z;have q:=AJ [1] au av Z;have h:=BW.again h ap;have hT:=hT.trans (m.trans (o.trans (aj.trans (al.trans ((Ah (i:=2) Z).trans q)))));have g:=g.trans (Ac (al.trans ((Ah (i:=2) Z).trans q)));have u:=u.mono (Ac ((Ah (i:=2) Z).trans q));have x:=x.mono (Ac ((Ah (i:=2) Z).trans q));refine AN (ae.1,ae.2.2,ae.2.1,(a+1),ak,ab,y33_1,ao) ⟨av,((ad.mono e).mono g),x,u,hT,h⟩
 refine Bq<|AK<|AF ?_;have h:=BW.out h ap;refine Bj ?_
 cases h
 refine Et ?_;have aw:AW b (Ha [.box ba0 [k,d,No p] 77,.row d 5 1 (l).length c] O) az:=t.Bn [1] Z;have am:=AJ [1] t aw Z;have e:=e.trans (Ac am);have hT:=hT.trans am;exact⟨k,d,c,Z,aw,hT,(ai.mono e),(ah.mono e)⟩
def EP(c:List AaE)(d a:Int)(b:List Pv)(e:Aae):Option (((List AaE)×Int×Aae×(List Pv)×Int)⊕(AaI)):=
 Bb (BH (a+1)) (some (Sum.inl (c,d,e,b,(a+1))))
def C0(a0:AaI)(a1:Int)(self:AaI->(Int)->(Pv)->Option (AaI)):(List AaE)×Int×Aae×(List Pv)×Int->Option (((List AaE)×Int×Aae×(List Pv)×Int)⊕(AaI)):=fun⟨c,e,d,b,a⟩=>
 if a<(((a0.1.getD a1.toNat Qq1).2.2.2.2.2.2.2.2.2.2.2).length:Int)then Bb (0<=a/\a<(((a0.1.getD a1.toNat Qq1).2.2.2.2.2.2.2.2.2.2.2).length:Int)) (Bb (0<=a/\a<(((a0.1.getD a1.toNat Qq1).2.2.2.2.2.2.2.2.2.2.1).length:Int)) (if((a0.1.getD a1.toNat Qq1).2.2.2.2.2.2.2.2.2.2.1).getD a.toNat Qq1=([]:Aae)then Bb (0<=((a0.1.getD a1.toNat Qq1).2.2.2.2.2.2.2.2.2.2.2).getD a.toNat Qq1/\((a0.1.getD a1.toNat Qq1).2.2.2.2.2.2.2.2.2.2.2).getD a.toNat Qq1<(c.length:Int)) (Bb (Go.E.Gx 1 (d.length+((c.getD ((((a0.1.getD a1.toNat Qq1).2.2.2.2.2.2.2.2.2.2.2).getD a.toNat Qq1).toNat) Qq1).2.2.1).length)) ((EP c e a b) (d++(c.getD ((((a0.1.getD a1.toNat Qq1).2.2.2.2.2.2.2.2.2.2.2).getD a.toNat Qq1).toNat) Qq1).2.2.1)))else Bb (0<=(0:Int)/\(0:Int)<(b.length:Int)) (Qq8 (self (c,d,e) (((a0.1.getD a1.toNat Qq1).2.2.2.2.2.2.2.2.2.2.2).getD a.toNat Qq1) (b.getD ((0:Int).toNat) Qq1)) (fun f=>Bb (0<=(1:Int)/\(1:Int)<=(b.length:Int)) (Bb (BH (a+1)) (some (Sum.inl (f.1,f.2.2,f.2.1,(b.drop (1:Int).toNat),(a+1)))))))))else Qzq Sum.inr (some ((c,d,e)))
def Bt(a0:AaI)(a1:Int)(self:AaI->(Int)->(Pv)->Option (AaI))(s:(List AaE)×Int×Aae×(List Pv)×Int):Option (AaI):=Go.L.run (C0 a0 a1 self) s
def B3(a0:AaI)(a1:Int)(a2:Pv)(self:AaI->(Int)->(Pv)->Option (AaI))(b:Bool):Option (AaI):=
 if b then Qq8 (Br (a0.1,a0.2.1,(a0.2.2+1)) (a0.1.getD a1.toNat Qq1) a2.f.2.1) (fun d=>some d)else(if(a0.1.getD a1.toNat Qq1).2.1=4 then Bb (Go.E.Gx 1 (a0.2.1.length+a2.f.2.2.1.length)) (some ((a0.1,(a0.2.1++a2.f.2.2.1),(a0.2.2+1))))else(if(a0.1.getD a1.toNat Qq1).2.1=10 then Bb (0<=(a0.1.getD a1.toNat Qq1).2.2.2.2.2.2.2.2.1/\(a0.1.getD a1.toNat Qq1).2.2.2.2.2.2.2.2.1<(a0.1.length:Int)) (Qq8 (Br (a0.1,a0.2.1,(a0.2.2+1)) (a0.1.getD (((a0.1.getD a1.toNat Qq1).2.2.2.2.2.2.2.2.1).toNat) Qq1) (a2.f.2.2.1.length:Int)) (fun a=>Bb (Go.E.Gx 1 (a.2.1.length+a2.f.2.2.1.length)) (some ((a.1,(a.2.1++a2.f.2.2.1),a.2.2)))))else(if(a0.1.getD a1.toNat Qq1).2.1=5 then none else(if(a0.1.getD a1.toNat Qq1).2.1=6 then Bb (0<=(a0.1.getD a1.toNat Qq1).2.2.2.2.2.2.2.2.1/\(a0.1.getD a1.toNat Qq1).2.2.2.2.2.2.2.2.1<(a0.1.length:Int)) (Qq8 (Br (a0.1,a0.2.1,(a0.2.2+1)) (a0.1.getD (((a0.1.getD a1.toNat Qq1).2.2.2.2.2.2.2.2.1).toNat) Qq1) (a2.f.2.2.2.2.length:Int)) (fun e=>Qq8 (El self e ((a0.1.getD a1.toNat Qq1).2.2.2.2.2.2.2.2.2.1) a2.f.2.2.2.2) (fun g=>some g)))else(if(a0.1.getD a1.toNat Qq1).2.1=9 then none else(if(a0.1.getD a1.toNat Qq1).2.1=8 then Bb (BH ((a0.2.2+1)+1)) (Bb (0<=(0:Int)/\(0:Int)<(a2.f.2.2.2.2.length:Int)) (Bb (0<=(a2.f.2.2.2.2.getD ((0:Int).toNat) Qq1).f.2.1/\(a2.f.2.2.2.2.getD ((0:Int).toNat) Qq1).f.2.1<(((a0.1.getD a1.toNat Qq1).2.2.2.2.2.2.2.2.2.2.2).length:Int)) (Bb (0<=(1:Int)/\(1:Int)<(a2.f.2.2.2.2.length:Int)) (Qq8 (self (a0.1,a0.2.1,((a0.2.2+1)+1)) (((a0.1.getD a1.toNat Qq1).2.2.2.2.2.2.2.2.2.2.2).getD (((a2.f.2.2.2.2.getD ((0:Int).toNat) Qq1).f.2.1).toNat) Qq1) (a2.f.2.2.2.2.getD ((1:Int).toNat) Qq1)) (fun c=>some c)))))else(if(a0.1.getD a1.toNat Qq1).2.1=7 then(Bt a0 a1 self) (a0.1,(a0.2.2+1),a0.2.1,a2.f.2.2.2.2,0)else some ((a0.1,a0.2.1,(a0.2.2+1))))))))))
def Bh(self:AaI->(Int)->(Pv)->Option (AaI))(a0:AaI)(a1:Int)(a2:Pv):Option (AaI):=
 Bb (0<=a1/\a1<(a0.1.length:Int)) (Qq8 (C5 a0 (a0.1.getD a1.toNat Qq1) a2) (fun a=>if !a then none else Bb (BH (a0.2.2+1)) (if(a0.1.getD a1.toNat Qq1).2.1=1 then none else(if(a0.1.getD a1.toNat Qq1).2.1=2 then(B3 a0 a1 a2 self) (decide ((a0.1.getD a1.toNat Qq1).2.1=2))else(B3 a0 a1 a2 self) (decide ((a0.1.getD a1.toNat Qq1).2.1=3))))))
theorem K4{self:AaI->(Int)->(Pv)->Option (AaI)}(hself:∀{d w:World}{H:PH} (hH:Le H (hp d)) (hU:Jm H) {O:List BN}{a0:AaI}{a1:Int}{a2:Pv}{ba0:Nat}{va0_0:Value}{va0_1:Value}{xsa0_1:Qq5}{va2_2:Value}{va2_3:Value}{va2_4:Value} (hL:AW d (Ha [.box ba0 [va0_0,va0_1,No a0.2.2] 77,.row va0_1 5 1 (a0.2.1).length xsa0_1] O) w) (a3:AL AaK (gz H d w (Ha [.box ba0 [va0_0,va0_1,No a0.2.2] 77,.row va0_1 5 1 (a0.2.1).length xsa0_1] O)) va0_0 (a0.1)) (a4:A5 .byte (gz H d w (Ha [.box ba0 [va0_0,va0_1,No a0.2.2] 77,.row va0_1 5 1 (a0.2.1).length xsa0_1] O)) (a0.2.1) xsa0_1) (bp:AL .byte (gz H d w (Ha [.box ba0 [va0_0,va0_1,No a0.2.2] 77,.row va0_1 5 1 (a0.2.1).length xsa0_1] O)) va2_2 (a2.f.2.2.1)) (bq:AL .st (gz H d w (Ha [.box ba0 [va0_0,va0_1,No a0.2.2] 77,.row va0_1 5 1 (a0.2.1).length xsa0_1] O)) va2_3 (a2.f.2.2.2.1)) (br:AL .tree (gz H d w (Ha [.box ba0 [va0_0,va0_1,No a0.2.2] 77,.row va0_1 5 1 (a0.2.1).length xsa0_1] O)) va2_4 (a2.f.2.2.2.2)) {r:AaI} (h:self a0 a1 a2=some r),Ok prog 29 [Aac ba0,No a1,.agg #[No a2.f.1,No a2.f.2.1,va2_2,va2_3,va2_4]] w (fun v w'=>∃(u0:Value) (u1:Value) (y1:Qq5),v=.tuple #[]/\AW d (Ha [.box ba0 [u0,u1,No r.2.2] 77,.row u1 5 1 (r.2.1).length y1] O) w'/\Le (fz w (Ha [.box ba0 [va0_0,va0_1,No a0.2.2] 77,.row va0_1 5 1 (a0.2.1).length xsa0_1] O)) (fz w' (Ha [.box ba0 [u0,u1,No r.2.2] 77,.row u1 5 1 (r.2.1).length y1] O))/\AL AaK (gz H d w' (Ha [.box ba0 [u0,u1,No r.2.2] 77,.row u1 5 1 (r.2.1).length y1] O)) u0 (r.1)/\A5 .byte (gz H d w' (Ha [.box ba0 [u0,u1,No r.2.2] 77,.row u1 5 1 (r.2.1).length y1] O)) (r.2.1) y1)){d w:World}{H:PH}(hH:Le H (hp d))(hU:Jm H){O:List BN}{a0:AaI}{a1:Int}{a2:Pv}{ba0:Nat}{va0_0 va0_1:Value}{xsa0_1:Qq5}{va2_2 va2_3 va2_4:Value}(hL:AW d (Ha [.box ba0 [va0_0,va0_1,No a0.2.2] 77,.row va0_1 5 1 (a0.2.1).length xsa0_1] O) w)(a3:AL AaK (gz H d w (Ha [.box ba0 [va0_0,va0_1,No a0.2.2] 77,.row va0_1 5 1 (a0.2.1).length xsa0_1] O)) va0_0 (a0.1))(a4:A5 .byte (gz H d w (Ha [.box ba0 [va0_0,va0_1,No a0.2.2] 77,.row va0_1 5 1 (a0.2.1).length xsa0_1] O)) (a0.2.1) xsa0_1)(bp:AL .byte (gz H d w (Ha [.box ba0 [va0_0,va0_1,No a0.2.2] 77,.row va0_1 5 1 (a0.2.1).length xsa0_1] O)) va2_2 (a2.f.2.2.1))(bq:AL .st (gz H d w (Ha [.box ba0 [va0_0,va0_1,No a0.2.2] 77,.row va0_1 5 1 (a0.2.1).length xsa0_1] O)) va2_3 (a2.f.2.2.2.1))(br:AL .tree (gz H d w (Ha [.box ba0 [va0_0,va0_1,No a0.2.2] 77,.row va0_1 5 1 (a0.2.1).length xsa0_1] O)) va2_4 (a2.f.2.2.2.2)){r:AaI}(h:Bh self a0 a1 a2=some r):
  Ok prog 29 [Aac ba0,No a1,.agg #[No a2.f.1,No a2.f.2.1,va2_2,va2_3,va2_4]] w (fun v w'=>∃(u0:Value) (u1:Value) (y1:Qq5),v=.tuple #[]/\AW d (Ha [.box ba0 [u0,u1,No r.2.2] 77,.row u1 5 1 (r.2.1).length y1] O) w'/\Le (fz w (Ha [.box ba0 [va0_0,va0_1,No a0.2.2] 77,.row va0_1 5 1 (a0.2.1).length xsa0_1] O)) (fz w' (Ha [.box ba0 [u0,u1,No r.2.2] 77,.row u1 5 1 (r.2.1).length y1] O))/\AL AaK (gz H d w' (Ha [.box ba0 [u0,u1,No r.2.2] 77,.row u1 5 1 (r.2.1).length y1] O)) u0 (r.1)/\A5 .byte (gz H d w' (Ha [.box ba0 [u0,u1,No r.2.2] 77,.row u1 5 1 (r.2.1).length y1] O)) (r.2.1) y1):=by
 refine BC (n:=223) [(0,(Aac ba0)),(1,No a1),(2,.agg #[No a2.f.1,No a2.f.2.1,va2_2,va2_3,va2_4])] func29 Z Z Z Z ?_;have hT:=Le.refl (fz w (Ha [.box ba0 [va0_0,va0_1,No a0.2.2] 77,.row va0_1 5 1 (a0.2.1).length xsa0_1] O));have x:=hL.rG H;refine Aq<|Cj (t:=34) Z Z hL fun w2 b2 d1 cc _=>Al<|B1 1 Z<|Ag (AV Z)<|Ag (Af Z Aa7 Z HQ.e)<|Ag (Af Z Aas Z Ho.e)<|Ag (Ae 1 Z d1 Z)<|Ar 1 Z<|A3 h fun fk h=>?_;have x:=x.trans (Ac cc);refine Bf (a3.mono x) a1.toNat (CT fk) (AD fk) ?_;rintro p3 _ ⟨_,_,rfl,rfl,⟨_,_,rfl,rfl,⟨_,_,rfl,⟨e3v2,rfl,e3h2⟩,⟨_,_,rfl,rfl,⟨_,_,rfl,rfl,⟨_,_,rfl,rfl,⟨_,_,rfl,rfl,⟨_,_,rfl,rfl,⟨_,_,rfl,rfl,⟨_,_,rfl,rfl,⟨_,_,rfl,⟨e3v10,rfl,e3h10⟩,⟨e3v11,rfl,e3h11⟩⟩⟩⟩⟩⟩⟩⟩⟩⟩⟩⟩ gs;refine Ag (Ce gs (Ao d1))<|AZ Bl.e Z d1 fun w5 b5 gt ax _=>A7 0 Z gt Z (h1:=(BP Z (BP Z (BP e3h2.one (Uw 7 Z (BP e3h10.one (BP e3h11.one Mx))))))) fun w6 cm ay=>Al<|AM ?_;have g:=cm.rG H;refine B1 1 Z ?_
 refine Ag (Ax 0 Z Bl.e cm Z)<|Ag (Ax 1 Z B5.e cm Z) ?_;have fl:AW d (Ha [.box ba0 [va0_0,va0_1,No a0.2.2] 77,.row va0_1 5 1 (a0.2.1).length xsa0_1,.box b5 [.string ⟨((a0.1.getD a1.toNat Qq1).1).toArray⟩,No ((a0.1.getD a1.toNat Qq1).2.1),e3v2,No ((a0.1.getD a1.toNat Qq1).2.2.2.1),.bool ((a0.1.getD a1.toNat Qq1).2.2.2.2.1),No ((a0.1.getD a1.toNat Qq1).2.2.2.2.2.1),No ((a0.1.getD a1.toNat Qq1).2.2.2.2.2.2.1),No ((a0.1.getD a1.toNat Qq1).2.2.2.2.2.2.2.1),No ((a0.1.getD a1.toNat Qq1).2.2.2.2.2.2.2.2.1),No ((a0.1.getD a1.toNat Qq1).2.2.2.2.2.2.2.2.2.1),e3v10,e3v11] 50,.box b2 [No a2.f.1,No a2.f.2.1,va2_2,va2_3,va2_4] 34] O) w6:=cm.Bn [3,3] Z;have cd:=AJ [3,3] cm fl Z;refine Av h fun x9 gu h=>?_;have e3h2:=e3h2.mono (Ac (ax.trans ay));have e3h10:=e3h10.mono (Ac (ax.trans ay));have e3h11:=e3h11.mono (Ac (ax.trans ay));have x:=x.trans (Ac (ax.trans ay));have g:=g.trans (Ac cd)
 refine BO (Mv (a0:=a0) (a1:=(a0.1.getD a1.toNat Qq1)) (a2:=a2) (O:=(Ha [.box b5 [.string ⟨((a0.1.getD a1.toNat Qq1).1).toArray⟩,No ((a0.1.getD a1.toNat Qq1).2.1),e3v2,No ((a0.1.getD a1.toNat Qq1).2.2.2.1),.bool ((a0.1.getD a1.toNat Qq1).2.2.2.2.1),No ((a0.1.getD a1.toNat Qq1).2.2.2.2.2.1),No ((a0.1.getD a1.toNat Qq1).2.2.2.2.2.2.1),No ((a0.1.getD a1.toNat Qq1).2.2.2.2.2.2.2.1),No ((a0.1.getD a1.toNat Qq1).2.2.2.2.2.2.2.2.1),No ((a0.1.getD a1.toNat Qq1).2.2.2.2.2.2.2.2.2.1),e3v10,e3v11] 50,.box b2 [No a2.f.1,No a2.f.2.1,va2_2,va2_3,va2_4] 34] O)) hH fl ((a3.mono x).mono g) ((a4.mono x).mono g) (e3h2.mono g) (e3h10.mono g) (e3h11.mono g) ((bp.mono x).mono g) ((bq.mono x).mono g) ((br.mono x).mono g) gu) ?_;rintro _ hg ⟨rfl,d2,a5⟩;refine A1 1 Z<|Bi h ?_ ?_<;>intro fm h
 ·cases h
 refine A4<|A2<|B1 1 Z<|Ag (AV Z)<|Ag (Af Z Aa7 Z B4.e)<|Ag (Ae 0 Z d2 Z)<|A3 h fun fn h=>Ag (AA fn)<|Ag (AV Z)<|Ag (Af Z Aa7 Z B4.e)<|AY 0 Z Z Z d2 Z Z fun hh cw a6=>Al<|Aq<|Ag (Af Z Aak Z B4.e)<|Ag (Ae 2 Z cw Z)<|Al<|A8<|AI 2 Z<|AS h ?_ ?_<;>intro fo h
 ·cases h
 refine Bm Bool (fun a7=>[(0,(Aac ba0)),(5,(Aac b2)),(6,(Aac b5)),(37,No ((a0.1.getD a1.toNat Qq1).2.1)),(50,.bool a7)]) (fun a7 wr=>DE d (Ha [.box ba0 [va0_0,va0_1,No (a0.2.2+1)] 77,.row va0_1 5 1 (a0.2.1).length xsa0_1,.box b5 [.string ⟨((a0.1.getD a1.toNat Qq1).1).toArray⟩,No ((a0.1.getD a1.toNat Qq1).2.1),e3v2,No ((a0.1.getD a1.toNat Qq1).2.2.2.1),.bool ((a0.1.getD a1.toNat Qq1).2.2.2.2.1),No ((a0.1.getD a1.toNat Qq1).2.2.2.2.2.1),No ((a0.1.getD a1.toNat Qq1).2.2.2.2.2.2.1),No ((a0.1.getD a1.toNat Qq1).2.2.2.2.2.2.2.1),No ((a0.1.getD a1.toNat Qq1).2.2.2.2.2.2.2.2.1),No ((a0.1.getD a1.toNat Qq1).2.2.2.2.2.2.2.2.2.1),e3v10,e3v11] 50,.box b2 [No a2.f.1,No a2.f.2.1,va2_2,va2_3,va2_4] 34] O) wr fun Oz=>AL AaK (gz H d wr Oz) va0_0 (a0.1)/\A5 .byte (gz H d wr Oz) (a0.2.1) xsa0_1/\AL .byte (gz H d wr Oz) e3v2 ((a0.1.getD a1.toNat Qq1).2.2.1)/\AL .st (gz H d wr Oz) e3v10 ((a0.1.getD a1.toNat Qq1).2.2.2.2.2.2.2.2.2.2.1)/\AL (.int .i64) (gz H d wr Oz) e3v11 ((a0.1.getD a1.toNat Qq1).2.2.2.2.2.2.2.2.2.2.2)/\AL .byte (gz H d wr Oz) va2_2 (a2.f.2.2.1)/\AL .st (gz H d wr Oz) va2_3 (a2.f.2.2.2.1)/\AL .tree (gz H d wr Oz) va2_4 (a2.f.2.2.2.2)/\Le (fz w (Ha [.box ba0 [va0_0,va0_1,No a0.2.2] 77,.row va0_1 5 1 (a0.2.1).length xsa0_1] O)) (fz wr Oz)/\(B3 a0 a1 a2 self) a7=some r) ?_ ?_
 ·refine AI 2 Z<|AS h ?_ ?_<;>intro fp h
  ·refine A4 ?_;have hT:=hT.trans (cc.trans (ax.trans (ay.trans (cd.trans (a5.trans a6)))));have g:=g.trans (Ac (a5.trans a6));refine AH _ ⟨cw,((a3.mono x).mono g),((a4.mono x).mono g),(e3h2.mono g),(e3h10.mono g),(e3h11.mono g),((bp.mono x).mono g),((bq.mono x).mono g),((br.mono x).mono g),hT,h⟩
  refine Az<|Ar 2 Z<|AP ?_;have hT:=hT.trans (cc.trans (ax.trans (ay.trans (cd.trans (a5.trans a6)))));have g:=g.trans (Ac (a5.trans a6));refine AH _ ⟨cw,((a3.mono x).mono g),((a4.mono x).mono g),(e3h2.mono g),(e3h10.mono g),(e3h11.mono g),((bp.mono x).mono g),((bq.mono x).mono g),((br.mono x).mono g),hT,h⟩
 have hT:=hT.trans (cc.trans (ax.trans (ay.trans (cd.trans (a5.trans a6)))));rintro a7 fq ⟨k,aa,he24_Ra0_1,cn,co,a8,a9,d3,ak,hT,h⟩;refine Bi h ?_ ?_<;>intro fr h
 ·have bu:=k.rG H;refine Az<|Ar 1 Z<|Ag (Ax 2 Z Bl.e k Z)<|Ag (Af Z Aaz Z B4.e)<|Ag (Ae 3 Z k Z)<|Av h fun hi fs h=>BO (Gc (a0:=(a0.1,a0.2.1,(a0.2.2+1))) (a1:=(a0.1.getD a1.toNat Qq1)) (a2:=a2.f.2.1) (O:=(Ha [.box b5 [.string ⟨((a0.1.getD a1.toNat Qq1).1).toArray⟩,No ((a0.1.getD a1.toNat Qq1).2.1),e3v2,No ((a0.1.getD a1.toNat Qq1).2.2.2.1),.bool ((a0.1.getD a1.toNat Qq1).2.2.2.2.1),No ((a0.1.getD a1.toNat Qq1).2.2.2.2.2.1),No ((a0.1.getD a1.toNat Qq1).2.2.2.2.2.2.1),No ((a0.1.getD a1.toNat Qq1).2.2.2.2.2.2.2.1),No ((a0.1.getD a1.toNat Qq1).2.2.2.2.2.2.2.2.1),No ((a0.1.getD a1.toNat Qq1).2.2.2.2.2.2.2.2.2.1),e3v10,e3v11] 50,.box b2 [No a2.f.1,No a2.f.2.1,va2_2,va2_3,va2_4] 34] O)) hH hU k (aa.mono bu) (he24_Ra0_1.mono bu) (cn.mono bu) (co.mono bu) (a8.mono bu) fs) ?_;rintro _ hj ⟨em,en,y34_1,rfl,ft,eo,bv,bw⟩;refine AP<|A9 ?_
  cases h
  refine Et ?_;have fu:=ft.AR (i:=2) Z;have fv:=fu.AR (i:=2) Z;have hT:=hT.trans (eo.trans ((Ah (i:=2) Z).trans (Ah (i:=2) Z)));have bv:=bv.mono (Ac ((Ah (i:=2) Z).trans (Ah (i:=2) Z)));have bw:=bw.mono (Ac ((Ah (i:=2) Z).trans (Ah (i:=2) Z)));exact⟨em,en,y34_1,Z,fv,hT,bv,bw⟩
 have a:=k.rG H;refine AI 2 Z<|AS h ?_ ?_<;>intro fw h
 ·refine Ek (D6 Gy) (fun z0 z=>Le (gz H d z0 (Ha [.box ba0 [va0_0,va0_1,No (a0.2.2+1)] 77,.row va0_1 5 1 (a0.2.1).length xsa0_1,.box b5 [.string ⟨((a0.1.getD a1.toNat Qq1).1).toArray⟩,No ((a0.1.getD a1.toNat Qq1).2.1),e3v2,No ((a0.1.getD a1.toNat Qq1).2.2.2.1),.bool ((a0.1.getD a1.toNat Qq1).2.2.2.2.1),No ((a0.1.getD a1.toNat Qq1).2.2.2.2.2.1),No ((a0.1.getD a1.toNat Qq1).2.2.2.2.2.2.1),No ((a0.1.getD a1.toNat Qq1).2.2.2.2.2.2.2.1),No ((a0.1.getD a1.toNat Qq1).2.2.2.2.2.2.2.2.1),No ((a0.1.getD a1.toNat Qq1).2.2.2.2.2.2.2.2.2.1),e3v10,e3v11] 50,.box b2 [No a2.f.1,No a2.f.2.1,va2_2,va2_3,va2_4] 34] O)) (hp z)/\z.heap[ba0]? = some (.cells [va0_0,va0_1,No (a0.2.2+1)].toArray 77 (0,0))/\z.heap[b5]? = some (.cells [.string ⟨((a0.1.getD a1.toNat Qq1).1).toArray⟩,No ((a0.1.getD a1.toNat Qq1).2.1),e3v2,No ((a0.1.getD a1.toNat Qq1).2.2.2.1),.bool ((a0.1.getD a1.toNat Qq1).2.2.2.2.1),No ((a0.1.getD a1.toNat Qq1).2.2.2.2.2.1),No ((a0.1.getD a1.toNat Qq1).2.2.2.2.2.2.1),No ((a0.1.getD a1.toNat Qq1).2.2.2.2.2.2.2.1),No ((a0.1.getD a1.toNat Qq1).2.2.2.2.2.2.2.2.1),No ((a0.1.getD a1.toNat Qq1).2.2.2.2.2.2.2.2.2.1),e3v10,e3v11].toArray 50 (0,0))/\z.heap[b2]? = some (.cells [No a2.f.1,No a2.f.2.1,va2_2,va2_3,va2_4].toArray 34 (0,0))) mixed Z (fun al hk d5=>?_)
  have be:=k.call d5;have c0:=Bd k d5;have am:=be.rG H;refine Gz ⟨am.trans (Ao be),be.at (i:=0) Z,be.at (i:=2) Z,be.at (i:=3) Z⟩ fun kI44=>Aw 0 al kI44 Z (fun _ _=>Ad Z) Z<|Aw 1 al kI44 Z (fun _ _=>Ad Z) Z<|Aw 2 al kI44 Z (fun _ _=>AV Z) Z<|Aw 3 al kI44 Z (fun _ _=>Af Z Aa7 Z CC.e) Z<|Aw 4 al kI44 Z (fun _ hI=>EB Z hI.2.1 Z) Z<|Aw 5 al kI44 Z (fun _ _=>Af Z Aaz Z CC.e) Z<|Aw 6 al kI44 Z (fun _ hI=>EB Z hI.2.2.2 Z) Z<|CK 7 Z<|A3 h fun fx h=>?_;have a:=a.trans (Ac c0);refine BL (r:=.byte) 1 a0.2.1 a2.f.2.2.1 Z Aag be Z ((he24_Ra0_1.mono a).mono am) ((a9.mono a).mono am) fx ?_;intro gv hl fy bf c1 cx;have am:=am.trans (Ac c1);refine AB ⟨am.trans (Ao bf),bf.at (i:=0) Z,bf.at (i:=2) Z,bf.at (i:=3) Z⟩ fun kI47=>Aw 8 al kI47 Z (fun _ _=>AV Z) Z ?_
  refine Aw 9 al kI47 Z (fun _ _=>Af Z Aa7 Z CC.e) Z<|CK 10 Z<|AY 0 Z Z (row_one (bf.at (i:=1) Z)) bf Z Z fun hm f0 ce=>H5 [0,1,2,3,4,5,6,7,8,9]<|Cq<|A9 ?_
  cases h
  refine Et ?_;have f1:=f0.AR (i:=2) Z;have f2:=f1.AR (i:=2) Z;have hT:=hT.trans (c0.trans (c1.trans (ce.trans ((Ah (i:=2) Z).trans (Ah (i:=2) Z)))));have cx:=cx.mono (Ac (ce.trans ((Ah (i:=2) Z).trans (Ah (i:=2) Z))));have am:=am.trans (Ac (ce.trans ((Ah (i:=2) Z).trans (Ah (i:=2) Z))));exact⟨va0_0,gv,fy,Z,f2,hT,((aa.mono a).mono am),cx⟩
 refine AI 2 Z<|AS h ?_ ?_<;>intro f3 h
 ·refine CI (Qqz 0 13 (.tail 13)) mixed V (fun hn d6=>?_);have bg:=k.call d6;have c2:=Bd k d6;refine BJ 2 Z<|B9 Z (AV Z) Z<|B9 Z (Af Z Aa7 Z HQ.e) Z<|B9 Z (Af Z Aas Z Ho.e) Z<|B9 Z (Ae 0 Z bg Z) Z<|B9 Z (Af Z Aak Z B4.e) Z<|B9 Z (Ae 2 Z bg Z) Z<|A3 h fun d7 h=>?_;have a:=a.trans (Ac c2);refine Fl Z Z Z Aat (aa.mono a) (((a0.1.getD a1.toNat Qq1).2.2.2.2.2.2.2.2.1).toNat) (CT d7) (AD d7) Z ?_;rintro ho _ ⟨_,_,rfl,rfl,⟨_,_,rfl,rfl,⟨_,_,rfl,⟨e56v2,rfl,e56h2⟩,⟨_,_,rfl,rfl,⟨_,_,rfl,rfl,⟨_,_,rfl,rfl,⟨_,_,rfl,rfl,⟨_,_,rfl,rfl,⟨_,_,rfl,rfl,⟨_,_,rfl,rfl,⟨_,_,rfl,⟨e56v10,rfl,e56h10⟩,⟨e56v11,rfl,e56h11⟩⟩⟩⟩⟩⟩⟩⟩⟩⟩⟩⟩ f4;refine B9 Z (Ce f4 (Ao bg)) Z<|B9 Z (Af Z Aaz Z CC.e) Z<|B9 Z (Ae 3 Z bg Z) Z<|B9 Z (AT (a9.mono a)) Z<|B8 (fun hq d8=>?_);have f5:=bg.call d8;have ba:=Bd bg d8;refine Av h fun c3 f6 h=>?_
  have e56h2:=e56h2.mono (Ac ba);have e56h10:=e56h10.mono (Ac ba);have e56h11:=e56h11.mono (Ac ba);have a:=a.trans (Ac ba);refine BO (Gc (a0:=(a0.1,a0.2.1,(a0.2.2+1))) (a1:=(a0.1.getD (((a0.1.getD a1.toNat Qq1).2.2.2.2.2.2.2.2.1).toNat) Qq1)) (a2:=(a2.f.2.2.1.length:Int)) (O:=(Ha [.box b5 [.string ⟨((a0.1.getD a1.toNat Qq1).1).toArray⟩,No ((a0.1.getD a1.toNat Qq1).2.1),e3v2,No ((a0.1.getD a1.toNat Qq1).2.2.2.1),.bool ((a0.1.getD a1.toNat Qq1).2.2.2.2.1),No ((a0.1.getD a1.toNat Qq1).2.2.2.2.2.1),No ((a0.1.getD a1.toNat Qq1).2.2.2.2.2.2.1),No ((a0.1.getD a1.toNat Qq1).2.2.2.2.2.2.2.1),No ((a0.1.getD a1.toNat Qq1).2.2.2.2.2.2.2.2.1),No ((a0.1.getD a1.toNat Qq1).2.2.2.2.2.2.2.2.2.1),e3v10,e3v11] 50,.box b2 [No a2.f.1,No a2.f.2.1,va2_2,va2_3,va2_4] 34] O)) hH hU f5 (aa.mono a) (he24_Ra0_1.mono a) e56h2 e56h10 e56h11 f6) ?_;rintro _ hr ⟨cf,cg,y61_1,rfl,d9,c4,bx,bz⟩;refine Al ?_
  refine Ek (D6 Gy) (fun z0 z=>Le (gz H d z0 (Ha [.box ba0 [cf,cg,No c3.2.2] 77,.row cg 5 1 (c3.2.1).length y61_1,.box b5 [.string ⟨((a0.1.getD a1.toNat Qq1).1).toArray⟩,No ((a0.1.getD a1.toNat Qq1).2.1),e3v2,No ((a0.1.getD a1.toNat Qq1).2.2.2.1),.bool ((a0.1.getD a1.toNat Qq1).2.2.2.2.1),No ((a0.1.getD a1.toNat Qq1).2.2.2.2.2.1),No ((a0.1.getD a1.toNat Qq1).2.2.2.2.2.2.1),No ((a0.1.getD a1.toNat Qq1).2.2.2.2.2.2.2.1),No ((a0.1.getD a1.toNat Qq1).2.2.2.2.2.2.2.2.1),No ((a0.1.getD a1.toNat Qq1).2.2.2.2.2.2.2.2.2.1),e3v10,e3v11] 50,.box b2 [No a2.f.1,No a2.f.2.1,va2_2,va2_3,va2_4] 34] O)) (hp z)/\z.heap[ba0]? = some (.cells [cf,cg,No c3.2.2].toArray 77 (0,0))/\z.heap[b5]? = some (.cells [.string ⟨((a0.1.getD a1.toNat Qq1).1).toArray⟩,No ((a0.1.getD a1.toNat Qq1).2.1),e3v2,No ((a0.1.getD a1.toNat Qq1).2.2.2.1),.bool ((a0.1.getD a1.toNat Qq1).2.2.2.2.1),No ((a0.1.getD a1.toNat Qq1).2.2.2.2.2.1),No ((a0.1.getD a1.toNat Qq1).2.2.2.2.2.2.1),No ((a0.1.getD a1.toNat Qq1).2.2.2.2.2.2.2.1),No ((a0.1.getD a1.toNat Qq1).2.2.2.2.2.2.2.2.1),No ((a0.1.getD a1.toNat Qq1).2.2.2.2.2.2.2.2.2.1),e3v10,e3v11].toArray 50 (0,0))/\z.heap[b2]? = some (.cells [No a2.f.1,No a2.f.2.1,va2_2,va2_3,va2_4].toArray 34 (0,0))) mixed Z (fun an hs ea=>?_)
  have bh:=d9.call ea;have bs:=Bd d9 ea;have ao:=bh.rG H;refine Gz ⟨ao.trans (Ao bh),bh.at (i:=0) Z,bh.at (i:=2) Z,bh.at (i:=3) Z⟩ fun kI65=>Aw 0 an kI65 Z (fun _ _=>Ad Z) Z<|Aw 1 an kI65 Z (fun _ _=>Ad Z) Z<|Aw 2 an kI65 Z (fun _ _=>AV Z) Z<|Aw 3 an kI65 Z (fun _ _=>Af Z Aa7 Z CC.e) Z<|Aw 4 an kI65 Z (fun _ hI=>EB Z hI.2.1 Z) Z<|Aw 5 an kI65 Z (fun _ _=>Af Z Aaz Z CC.e) Z<|Aw 6 an kI65 Z (fun _ hI=>EB Z hI.2.2.2 Z) Z<|CK 7 Z<|A3 h fun f7 h=>?_;have a:=a.trans (Ac (c4.trans bs));have bz:=bz.mono (Ac bs);refine BL (r:=.byte) 1 c3.2.1 a2.f.2.2.1 Z Aag bh Z (bz.mono ao) ((a9.mono a).mono ao) f7 ?_;intro gw ht f8 bi c5 cy;have ao:=ao.trans (Ac c5);refine AB ⟨ao.trans (Ao bi),bi.at (i:=0) Z,bi.at (i:=2) Z,bi.at (i:=3) Z⟩ fun kI68=>?_
  refine Aw 8 an kI68 Z (fun _ _=>AV Z) Z<|Aw 9 an kI68 Z (fun _ _=>Af Z Aa7 Z CC.e) Z<|CK 10 Z<|AY 0 Z Z (row_one (bi.at (i:=1) Z)) bi Z Z fun hu f9 ch=>H5 [0,1,2,3,4,5,6,7,8,9]<|Cq<|A9 ?_
  cases h
  refine Et ?_;have ga:=f9.AR (i:=2) Z;have gb:=ga.AR (i:=2) Z;have hT:=hT.trans (c2.trans (ba.trans (c4.trans (bs.trans (c5.trans (ch.trans ((Ah (i:=2) Z).trans (Ah (i:=2) Z))))))));have bx:=bx.mono (Ac bs);have cy:=cy.mono (Ac (ch.trans ((Ah (i:=2) Z).trans (Ah (i:=2) Z))));have ao:=ao.trans (Ac (ch.trans ((Ah (i:=2) Z).trans (Ah (i:=2) Z))));exact⟨cf,gw,f8,Z,gb,hT,(bx.mono ao),cy⟩
 refine AI 2 Z<|AS h ?_ ?_<;>intro gc h
 ·cases h
 refine AI 2 Z<|AS h ?_ ?_<;>intro gd h
 ·refine CI (Qqz 0 13 (.tail 13)) mixed V (fun hv eb=>?_);have bj:=k.call eb;have c6:=Bd k eb;refine BJ 2 Z<|B9 Z (AV Z) Z<|B9 Z (Af Z Aa7 Z HQ.e) Z<|B9 Z (Af Z Aas Z Ho.e) Z<|B9 Z (Ae 0 Z bj Z) Z<|B9 Z (Af Z Aak Z B4.e) Z<|B9 Z (Ae 2 Z bj Z) Z<|A3 h fun ec h=>?_;have a:=a.trans (Ac c6);refine Fl Z Z Z Aat (aa.mono a) (((a0.1.getD a1.toNat Qq1).2.2.2.2.2.2.2.2.1).toNat) (CT ec) (AD ec) Z ?_;rintro hw _ ⟨_,_,rfl,rfl,⟨_,_,rfl,rfl,⟨_,_,rfl,⟨e80v2,rfl,e80h2⟩,⟨_,_,rfl,rfl,⟨_,_,rfl,rfl,⟨_,_,rfl,rfl,⟨_,_,rfl,rfl,⟨_,_,rfl,rfl,⟨_,_,rfl,rfl,⟨_,_,rfl,rfl,⟨_,_,rfl,⟨e80v10,rfl,e80h10⟩,⟨e80v11,rfl,e80h11⟩⟩⟩⟩⟩⟩⟩⟩⟩⟩⟩⟩ ge;refine B9 Z (Ce ge (Ao bj)) Z<|B9 Z (Af Z Aaz Z Ig.e) Z<|B9 Z (Ae 3 Z bj Z) Z<|B9 Z (AT (ak.mono a)) Z<|B8 (fun hx ed=>?_);have gf:=bj.call ed;have bb:=Bd bj ed;refine Av h fun gx gg h=>?_
  have e80h2:=e80h2.mono (Ac bb);have e80h10:=e80h10.mono (Ac bb);have e80h11:=e80h11.mono (Ac bb);have a:=a.trans (Ac bb);refine BO (Gc (a0:=(a0.1,a0.2.1,(a0.2.2+1))) (a1:=(a0.1.getD (((a0.1.getD a1.toNat Qq1).2.2.2.2.2.2.2.2.1).toNat) Qq1)) (a2:=(a2.f.2.2.2.2.length:Int)) (O:=(Ha [.box b5 [.string ⟨((a0.1.getD a1.toNat Qq1).1).toArray⟩,No ((a0.1.getD a1.toNat Qq1).2.1),e3v2,No ((a0.1.getD a1.toNat Qq1).2.2.2.1),.bool ((a0.1.getD a1.toNat Qq1).2.2.2.2.1),No ((a0.1.getD a1.toNat Qq1).2.2.2.2.2.1),No ((a0.1.getD a1.toNat Qq1).2.2.2.2.2.2.1),No ((a0.1.getD a1.toNat Qq1).2.2.2.2.2.2.2.1),No ((a0.1.getD a1.toNat Qq1).2.2.2.2.2.2.2.2.1),No ((a0.1.getD a1.toNat Qq1).2.2.2.2.2.2.2.2.2.1),e3v10,e3v11] 50,.box b2 [No a2.f.1,No a2.f.2.1,va2_2,va2_3,va2_4] 34] O)) hH hU gf (aa.mono a) (he24_Ra0_1.mono a) e80h2 e80h10 e80h11 gg) ?_;rintro _ hy ⟨gy,g0,y85_1,rfl,cz,c7,ee,ef⟩;refine Al<|Az<|Ar 1 Z<|Ag (Af Z Aak Z B4.e)<|Ag (Ae 2 Z cz Z)<|Ag (Af Z Aaz Z Ig.e)<|Ag (Ae 3 Z cz Z)<|Av h fun hz gh h=>?_
  have a:=a.trans (Ac c7);refine BO (ME (hself:=hself) (a0:=gx) (a1:=((a0.1.getD a1.toNat Qq1).2.2.2.2.2.2.2.2.2.1)) (a2:=a2.f.2.2.2.2) (O:=(Ha [.box b5 [.string ⟨((a0.1.getD a1.toNat Qq1).1).toArray⟩,No ((a0.1.getD a1.toNat Qq1).2.1),e3v2,No ((a0.1.getD a1.toNat Qq1).2.2.2.1),.bool ((a0.1.getD a1.toNat Qq1).2.2.2.2.1),No ((a0.1.getD a1.toNat Qq1).2.2.2.2.2.1),No ((a0.1.getD a1.toNat Qq1).2.2.2.2.2.2.1),No ((a0.1.getD a1.toNat Qq1).2.2.2.2.2.2.2.1),No ((a0.1.getD a1.toNat Qq1).2.2.2.2.2.2.2.2.1),No ((a0.1.getD a1.toNat Qq1).2.2.2.2.2.2.2.2.2.1),e3v10,e3v11] 50,.box b2 [No a2.f.1,No a2.f.2.1,va2_2,va2_3,va2_4] 34] O)) hH hU cz ee ef (ak.mono a) gh) ?_;rintro _ h0 ⟨ep,eq,y87_1,rfl,gi,er,b0,b1⟩;refine AP<|A9 ?_
  cases h
  refine Et ?_;have gj:=gi.AR (i:=2) Z;have gk:=gj.AR (i:=2) Z;have hT:=hT.trans (c6.trans (bb.trans (c7.trans (er.trans ((Ah (i:=2) Z).trans (Ah (i:=2) Z))))));have b0:=b0.mono (Ac ((Ah (i:=2) Z).trans (Ah (i:=2) Z)));have b1:=b1.mono (Ac ((Ah (i:=2) Z).trans (Ah (i:=2) Z)));exact⟨ep,eq,y87_1,Z,gk,hT,b0,b1⟩
 refine AI 2 Z<|AS h ?_ ?_<;>intro gl h
 ·cases h
 refine AI 2 Z<|AS h ?_ ?_<;>intro gm h
 ·refine B1 1 Z<|Ag (AV Z)<|Ag (Af Z Aa7 Z B4.e)<|Ag (Ae 0 Z k Z)<|A3 h fun gn h=>Ag (AA gn)<|Ag (AV Z)<|Ag (Af Z Aa7 Z B4.e)<|AY 0 Z Z Z k Z Z fun h1 eg c8=>Al<|Nf (Qqz 0 14 (.tail 14)) mixed V (fun h2 eh=>?_);have aq:=eg.call eh;have c9:=Bd eg eh;refine BJ 1 Z<|B9 Z (Af Z Aak Z E4.e) Z<|B9 Z (Ae 2 Z aq Z) Z<|B9 Z (Af Z Aaz Z Ig.e) Z<|B9 Z (Ae 3 Z aq Z) Z<|A3 h fun da h=>?_;have a:=a.trans (Ac (c8.trans c9));refine Fl Z Z Z Aa3 (ak.mono a) ((0:Int).toNat) (CT da) (AD da) Z ?_;rintro g3 _ e100t0 es;obtain⟨_,_,rfl,rfl,⟨_,_,rfl,rfl,⟨_,_,rfl,⟨e100v2,rfl,e100h2⟩,⟨_,_,rfl,⟨e100v3,rfl,e100h3⟩,⟨e100v4,rfl,e100h4⟩⟩⟩⟩⟩:=Go.E.Rp.Ex e100t0;refine B9 Z (Af Z Aaz Z B4.e) Z ?_;have et:=es.add 1;refine B9 Z (AX et (Ao aq)) Z ?_
  refine A3 h fun db h=>Fl Z Z Z Aam (a8.mono a) (((a2.f.2.2.2.2.getD ((0:Int).toNat) Qq1).f.2.1).toNat) (CT db) (AD db) Z ?_;rintro g4 _ rfl eu;refine B9 Z (AX eu (Ao aq)) Z<|B9 Z (Af Z Aaz Z Ig.e) Z<|B9 Z (Ae 3 Z aq Z) Z<|A3 h fun dc h=>Fl Z Z Z Aa3 (ak.mono a) ((1:Int).toNat) (CT dc) (AD dc) Z ?_;rintro g5 _ e105t0 ev;obtain⟨_,_,rfl,rfl,⟨_,_,rfl,rfl,⟨_,_,rfl,⟨e105v2,rfl,e105h2⟩,⟨_,_,rfl,⟨e105v3,rfl,e105h3⟩,⟨e105v4,rfl,e105h4⟩⟩⟩⟩⟩:=Go.E.Rp.Ex e105t0;refine B9 Z (Ce ev (Ao aq)) Z<|B8 (fun g6 dd=>?_);have ew:=aq.call dd;have ar:=Bd aq dd;refine Av h fun g7 ex h=>?_;have e105h2:=e105h2.mono (Ac ar);have e105h3:=e105h3.mono (Ac ar);have e105h4:=e105h4.mono (Ac ar);have a:=a.trans (Ac ar)
  refine BO (hself (a0:=(a0.1,a0.2.1,((a0.2.2+1)+1))) (a1:=(((a0.1.getD a1.toNat Qq1).2.2.2.2.2.2.2.2.2.2.2).getD (((a2.f.2.2.2.2.getD ((0:Int).toNat) Qq1).f.2.1).toNat) Qq1)) (a2:=(a2.f.2.2.2.2.getD ((1:Int).toNat) Qq1)) (O:=(Ha [.box b5 [.string ⟨((a0.1.getD a1.toNat Qq1).1).toArray⟩,No ((a0.1.getD a1.toNat Qq1).2.1),e3v2,No ((a0.1.getD a1.toNat Qq1).2.2.2.1),.bool ((a0.1.getD a1.toNat Qq1).2.2.2.2.1),No ((a0.1.getD a1.toNat Qq1).2.2.2.2.2.1),No ((a0.1.getD a1.toNat Qq1).2.2.2.2.2.2.1),No ((a0.1.getD a1.toNat Qq1).2.2.2.2.2.2.2.1),No ((a0.1.getD a1.toNat Qq1).2.2.2.2.2.2.2.2.1),No ((a0.1.getD a1.toNat Qq1).2.2.2.2.2.2.2.2.2.1),e3v10,e3v11] 50,.box b2 [No a2.f.1,No a2.f.2.1,va2_2,va2_3,va2_4] 34] O)) hH hU ew (aa.mono a) (he24_Ra0_1.mono a) e105h2 e105h3 e105h4 ex) ?_;rintro _ g8 ⟨ei,ej,y110_1,rfl,ey,ek,bk,bl⟩;refine AP<|A9 ?_
  cases h
  refine Et ?_;have ez:=ey.AR (i:=2) Z;have e0:=ez.AR (i:=2) Z;have hT:=hT.trans (c8.trans (c9.trans (ar.trans (ek.trans ((Ah (i:=2) Z).trans (Ah (i:=2) Z))))));have bk:=bk.mono (Ac ((Ah (i:=2) Z).trans (Ah (i:=2) Z)));have bl:=bl.mono (Ac ((Ah (i:=2) Z).trans (Ah (i:=2) Z)));exact⟨ei,ej,y110_1,Z,e0,hT,bk,bl⟩
 refine AI 2 Z<|AS h ?_ ?_<;>intro e1 h
 ·refine Aq<|Ag (Af Z Aaz Z Ig.e)<|Ag (Ae 3 Z k Z)<|A1 1 Z<|Aq<|Ag (Af Z Aak Z E4.e)<|Ag (Ae 2 Z k Z)<|Ag (AT (a8.mono a))<|A1 1 Z<|A8 ?_;have de:AW d (Ha [.row va0_1 5 1 (a0.2.1).length xsa0_1,.box ba0 [va0_0,va0_1,No (a0.2.2+1)] 77,.box b5 [.string ⟨((a0.1.getD a1.toNat Qq1).1).toArray⟩,No ((a0.1.getD a1.toNat Qq1).2.1),e3v2,No ((a0.1.getD a1.toNat Qq1).2.2.2.1),.bool ((a0.1.getD a1.toNat Qq1).2.2.2.2.1),No ((a0.1.getD a1.toNat Qq1).2.2.2.2.2.1),No ((a0.1.getD a1.toNat Qq1).2.2.2.2.2.2.1),No ((a0.1.getD a1.toNat Qq1).2.2.2.2.2.2.2.1),No ((a0.1.getD a1.toNat Qq1).2.2.2.2.2.2.2.2.1),No ((a0.1.getD a1.toNat Qq1).2.2.2.2.2.2.2.2.2.1),e3v10,e3v11] 50,.box b2 [No a2.f.1,No a2.f.2.1,va2_2,va2_3,va2_4] 34] O) fq:=k.Bn [1] Z;have cp:=AJ [1] k de Z;obtain⟨ci,h⟩:=Bc h;have a:=a.trans (Ac cp);have hT:=hT.trans cp
  refine Bz ((List AaE)×Int×Aae×(List Pv)×Int×Value×Value×Qq5×Value×Nat) (fun⟨ai,ad,af,u,c,p,s,ab,y,n⟩=>[(0,(Aac ba0)),(6,(Aac b5)),(7,y),(184,e3v11),(185,No (((a0.1.getD a1.toNat Qq1).2.2.2.2.2.2.2.2.2.2.2).length:Int)),(186,No c)]) (fun⟨ai,ad,af,u,c,p,s,ab,y,n⟩ wr=>DE d (Ha [.row s 5 1 (af).length ab,.box ba0 [p,s,No ad] 77,.box b5 [.string ⟨((a0.1.getD a1.toNat Qq1).1).toArray⟩,No ((a0.1.getD a1.toNat Qq1).2.1),e3v2,No ((a0.1.getD a1.toNat Qq1).2.2.2.1),.bool ((a0.1.getD a1.toNat Qq1).2.2.2.2.1),No ((a0.1.getD a1.toNat Qq1).2.2.2.2.2.1),No ((a0.1.getD a1.toNat Qq1).2.2.2.2.2.2.1),No ((a0.1.getD a1.toNat Qq1).2.2.2.2.2.2.2.1),No ((a0.1.getD a1.toNat Qq1).2.2.2.2.2.2.2.2.1),No ((a0.1.getD a1.toNat Qq1).2.2.2.2.2.2.2.2.2.1),e3v10,e3v11] 50,.box b2 [No a2.f.1,No a2.f.2.1,va2_2,va2_3,va2_4] 34] O) wr fun Oz=>AL .tree (gz H d wr Oz) y u/\AL (.int .i64) (gz H d wr Oz) e3v11 ((a0.1.getD a1.toNat Qq1).2.2.2.2.2.2.2.2.2.2.2)/\A5 .byte (gz H d wr Oz) af ab/\AL AaK (gz H d wr Oz) p ai/\AL .byte (gz H d wr Oz) e3v2 ((a0.1.getD a1.toNat Qq1).2.2.1)/\AL .st (gz H d wr Oz) e3v10 ((a0.1.getD a1.toNat Qq1).2.2.2.2.2.2.2.2.2.2.1)/\AL .byte (gz H d wr Oz) va2_2 (a2.f.2.2.1)/\AL .st (gz H d wr Oz) va2_3 (a2.f.2.2.2.1)/\AL .tree (gz H d wr Oz) va2_4 (a2.f.2.2.2.2)/\Le (fz w (Ha [.box ba0 [va0_0,va0_1,No a0.2.2] 77,.row va0_1 5 1 (a0.2.1).length xsa0_1] O)) (fz wr Oz)/\FW (C0 a0 a1 self) n (ai,ad,af,u,c)=some r) (fun⟨ai,ad,af,u,c,p,s,ab,y,n⟩=>n) (a0.1,(a0.2.2+1),a0.2.1,a2.f.2.2.2.2,0,va0_0,va0_1,xsa0_1,va2_4,ci) Z ⟨de,(ak.mono a),(a8.mono a),(he24_Ra0_1.mono a),(aa.mono a),(cn.mono a),(co.mono a),(a9.mono a),(d3.mono a),(ak.mono a),hT,h⟩ ?_
  rintro⟨ai,ad,af,u,c,p,s,ab,y,nn158⟩ df ⟨ae,az,bm,b3,bc,b8,bn,b9,ca,cb,hT,h⟩;obtain⟨ci,go,rfl,h,cj⟩:=Ba h;have b:=ae.rG H;refine AI 1 Z<|AM<|AS h ?_ ?_<;>intro e2 h
  ·refine A4<|A2<|AM<|A8<|B1 1 Z<|A3 h fun dg h=>Bf (bm.mono b) c.toNat (CT dg) (AD dg) ?_;rintro g9 _ rfl e3;refine Ag (AX e3 (Ao ae))<|A1 2 Z<|AM<|Aq<|Ag (Af Z Aak Z Cx.e)<|Ag (Ae 2 Z ae Z)<|Ar 1 Z<|A3 h fun dh h=>Bf (bn.mono b) c.toNat (CT dh) (AD dh) ?_;rintro ha _ rfl e4;refine Ag (AX e4 (Ao ae))<|Ag (Ll Z Z)<|Al<|AS h ?_ ?_<;>intro e5 h
   ·refine Bm (Aae×Value×Qq5) (fun⟨bo,bd,au⟩=>[(0,(Aac ba0)),(6,(Aac b5)),(7,y),(184,e3v11),(185,No (((a0.1.getD a1.toNat Qq1).2.2.2.2.2.2.2.2.2.2.2).length:Int)),(186,No c)]) (fun⟨bo,bd,au⟩ wr=>DE d (Ha [.row bd 5 1 (bo).length au,.box ba0 [p,bd,No ad] 77,.box b5 [.string ⟨((a0.1.getD a1.toNat Qq1).1).toArray⟩,No ((a0.1.getD a1.toNat Qq1).2.1),e3v2,No ((a0.1.getD a1.toNat Qq1).2.2.2.1),.bool ((a0.1.getD a1.toNat Qq1).2.2.2.2.1),No ((a0.1.getD a1.toNat Qq1).2.2.2.2.2.1),No ((a0.1.getD a1.toNat Qq1).2.2.2.2.2.2.1),No ((a0.1.getD a1.toNat Qq1).2.2.2.2.2.2.2.1),No ((a0.1.getD a1.toNat Qq1).2.2.2.2.2.2.2.2.1),No ((a0.1.getD a1.toNat Qq1).2.2.2.2.2.2.2.2.2.1),e3v10,e3v11] 50,.box b2 [No a2.f.1,No a2.f.2.1,va2_2,va2_3,va2_4] 34] O) wr fun Oz=>AL .tree (gz H d wr Oz) y u/\AL (.int .i64) (gz H d wr Oz) e3v11 ((a0.1.getD a1.toNat Qq1).2.2.2.2.2.2.2.2.2.2.2)/\A5 .byte (gz H d wr Oz) bo au/\AL AaK (gz H d wr Oz) p ai/\AL .byte (gz H d wr Oz) e3v2 ((a0.1.getD a1.toNat Qq1).2.2.1)/\AL .st (gz H d wr Oz) e3v10 ((a0.1.getD a1.toNat Qq1).2.2.2.2.2.2.2.2.2.2.1)/\AL .byte (gz H d wr Oz) va2_2 (a2.f.2.2.1)/\AL .st (gz H d wr Oz) va2_3 (a2.f.2.2.2.1)/\AL .tree (gz H d wr Oz) va2_4 (a2.f.2.2.2.2)/\Le (fz w (Ha [.box ba0 [va0_0,va0_1,No a0.2.2] 77,.row va0_1 5 1 (a0.2.1).length xsa0_1] O)) (fz wr Oz)/\(EP ai ad c u) bo=some go) ?_ ?_
    ·refine Ek (IB (OI (D6 (OI (LG (D6 (D6 Gy))))))) (fun z0 z=>Le (gz H d z0 (Ha [.row s 5 1 (af).length ab,.box ba0 [p,s,No ad] 77,.box b5 [.string ⟨((a0.1.getD a1.toNat Qq1).1).toArray⟩,No ((a0.1.getD a1.toNat Qq1).2.1),e3v2,No ((a0.1.getD a1.toNat Qq1).2.2.2.1),.bool ((a0.1.getD a1.toNat Qq1).2.2.2.2.1),No ((a0.1.getD a1.toNat Qq1).2.2.2.2.2.1),No ((a0.1.getD a1.toNat Qq1).2.2.2.2.2.2.1),No ((a0.1.getD a1.toNat Qq1).2.2.2.2.2.2.2.1),No ((a0.1.getD a1.toNat Qq1).2.2.2.2.2.2.2.2.1),No ((a0.1.getD a1.toNat Qq1).2.2.2.2.2.2.2.2.2.1),e3v10,e3v11] 50,.box b2 [No a2.f.1,No a2.f.2.1,va2_2,va2_3,va2_4] 34] O)) (hp z)/\z.heap[ba0]? = some (.cells [p,s,No ad].toArray 77 (0,0))/\z.heap[b5]? = some (.cells [.string ⟨((a0.1.getD a1.toNat Qq1).1).toArray⟩,No ((a0.1.getD a1.toNat Qq1).2.1),e3v2,No ((a0.1.getD a1.toNat Qq1).2.2.2.1),.bool ((a0.1.getD a1.toNat Qq1).2.2.2.2.1),No ((a0.1.getD a1.toNat Qq1).2.2.2.2.2.1),No ((a0.1.getD a1.toNat Qq1).2.2.2.2.2.2.1),No ((a0.1.getD a1.toNat Qq1).2.2.2.2.2.2.2.1),No ((a0.1.getD a1.toNat Qq1).2.2.2.2.2.2.2.2.1),No ((a0.1.getD a1.toNat Qq1).2.2.2.2.2.2.2.2.2.1),e3v10,e3v11].toArray 50 (0,0))/\z.heap[b2]? = some (.cells [No a2.f.1,No a2.f.2.1,va2_2,va2_3,va2_4].toArray 34 (0,0))) mixed Z (fun o hb di=>?_)
     have j:=ae.call di;have cq:=Bd ae di;have e:=j.rG H;refine Gz ⟨e.trans (Ao j),j.at (i:=1) Z,j.at (i:=2) Z,j.at (i:=3) Z⟩ fun kI190=>Aw 0 o kI190 Z (fun _ _=>Ad Z) Z<|Aw 1 o kI190 Z (fun _ _=>Ad Z) Z<|Aw 2 o kI190 Z (fun _ _=>AV Z) Z<|Aw 3 o kI190 Z (fun _ _=>Af Z Aa7 Z CC.e) Z<|Aw 4 o kI190 Z (fun _ hI=>EB Z hI.2.1 Z) Z<|Aw 5 o kI190 Z (fun _ _=>Ad Z) Z<|Aw 6 o kI190 Z (fun _ _=>AV Z) Z<|Aw 7 o kI190 Z (fun _ _=>Af Z Aa7 Z HQ.e) Z<|Aw 8 o kI190 Z (fun _ _=>Af Z Aas Z Ho.e) Z<|Aw 9 o kI190 Z (fun _ hI=>EB Z hI.2.1 Z) Z<|Aw 10 o kI190 Z (fun _ _=>Ad Z) Z<|CK 11 Z<|A3 h fun dj h=>?_;have b:=b.trans (Ac cq)
     refine Bf ((bc.mono b).mono e) ((((a0.1.getD a1.toNat Qq1).2.2.2.2.2.2.2.2.2.2.2).getD c.toNat Qq1).toNat) (CT dj) (AD dj) ?_;rintro hc _ ⟨_,_,rfl,rfl,⟨_,_,rfl,rfl,⟨_,_,rfl,⟨e191v2,rfl,e191h2⟩,⟨_,_,rfl,rfl,⟨_,_,rfl,rfl,⟨_,_,rfl,rfl,⟨_,_,rfl,rfl,⟨_,_,rfl,rfl,⟨_,_,rfl,rfl,⟨_,_,rfl,rfl,⟨_,_,rfl,⟨e191v10,rfl,e191h10⟩,⟨e191v11,rfl,e191h11⟩⟩⟩⟩⟩⟩⟩⟩⟩⟩⟩⟩ e6;refine AB ⟨e.trans (Ao j),j.at (i:=1) Z,j.at (i:=2) Z,j.at (i:=3) Z⟩ fun kI193=>Aw 12 o kI193 Z (fun _ _=>Af Z Aak Z CC.e) Z ?_;have e7:=e6.add 2;refine CK 13 Z<|Ag (AX e7 (Ao j))<|AB ⟨e.trans (Ao j),j.at (i:=1) Z,j.at (i:=2) Z,j.at (i:=3) Z⟩ fun kI195=>CK 14 Z<|A3 h fun e8 h=>BL (r:=.byte) 0 af ((ai.getD ((((a0.1.getD a1.toNat Qq1).2.2.2.2.2.2.2.2.2.2.2).getD c.toNat Qq1).toNat) Qq1).2.2.1) Z Aag j Z ((b3.mono b).mono e) e191h2 e8 ?_;intro gp hd e9 aw cr ck;have e:=e.trans (Ac cr)
     refine AB ⟨e.trans (Ao aw),aw.at (i:=1) Z,aw.at (i:=2) Z,aw.at (i:=3) Z⟩ fun kI198=>Aw 15 o kI198 Z (fun _ _=>AV Z) Z<|Aw 16 o kI198 Z (fun _ _=>Af Z Aa7 Z CC.e) Z<|CK 17 Z<|AY 1 Z Z (row_one (aw.at (i:=0) Z)) aw Z Z fun he fa b4=>H5 [0,1,2,3,4,5,6,7,8,9,10,11,12,13,14,15,16]<|Cq ?_;have hT:=hT.trans (cq.trans (cr.trans b4));have ck:=ck.mono (Ac b4);have e:=e.trans (Ac b4);refine AH (_,_,_) ⟨fa,((az.mono b).mono e),((bm.mono b).mono e),ck,((bc.mono b).mono e),((b8.mono b).mono e),((bn.mono b).mono e),((b9.mono b).mono e),((ca.mono b).mono e),((cb.mono b).mono e),hT,h⟩
    rintro⟨bo,bd,au⟩ g1 ⟨dk,dr,ds,el,dt,du,dv,dw,dx,dy,hT,h⟩;refine Bq<|AK<|Bj<|A2 ?_;have ag:=dk.rG H;refine Az<|A3 h fun fb h=>Ag (AA fb)<|Ar 1 Z<|AP ?_;have h:=BW.again h cj;refine AN (ai,ad,bo,u,(c+1),p,bd,au,y,ci) ⟨dk,(dr.mono ag),(ds.mono ag),(el.mono ag),(dt.mono ag),(du.mono ag),(dv.mono ag),(dw.mono ag),(dx.mono ag),(dy.mono ag),hT,h⟩
   refine A4<|A2<|B1 3 Z<|A3 h fun dl h=>Bf (az.mono b) ((0:Int).toNat) (CT dl) (AD dl) ?_;rintro hf _ e204t0 fc;obtain⟨_,_,rfl,rfl,⟨_,_,rfl,rfl,⟨_,_,rfl,⟨e204v2,rfl,e204h2⟩,⟨_,_,rfl,⟨e204v3,rfl,e204h3⟩,⟨e204v4,rfl,e204h4⟩⟩⟩⟩⟩:=Go.E.Rp.Ex e204t0;refine Ag (Ce fc (Ao ae)) ?_;have dm:AW d (Ha [.box ba0 [p,s,No ad] 77,.row s 5 1 (af).length ab,.box b5 [.string ⟨((a0.1.getD a1.toNat Qq1).1).toArray⟩,No ((a0.1.getD a1.toNat Qq1).2.1),e3v2,No ((a0.1.getD a1.toNat Qq1).2.2.2.1),.bool ((a0.1.getD a1.toNat Qq1).2.2.2.2.1),No ((a0.1.getD a1.toNat Qq1).2.2.2.2.2.1),No ((a0.1.getD a1.toNat Qq1).2.2.2.2.2.2.1),No ((a0.1.getD a1.toNat Qq1).2.2.2.2.2.2.2.1),No ((a0.1.getD a1.toNat Qq1).2.2.2.2.2.2.2.2.1),No ((a0.1.getD a1.toNat Qq1).2.2.2.2.2.2.2.2.2.1),e3v10,e3v11] 50,.box b2 [No a2.f.1,No a2.f.2.1,va2_2,va2_3,va2_4] 34] O) df:=ae.Bn [1] Z;have av:=AJ [1] ae dm Z;refine Av h fun b6 fd h=>?_;have e204h2:=e204h2.mono (Ac av);have e204h3:=e204h3.mono (Ac av);have e204h4:=e204h4.mono (Ac av);have b:=b.trans (Ac av)
   refine BO (hself (a0:=(ai,af,ad)) (a1:=(((a0.1.getD a1.toNat Qq1).2.2.2.2.2.2.2.2.2.2.2).getD c.toNat Qq1)) (a2:=(u.getD ((0:Int).toNat) Qq1)) (O:=(Ha [.box b5 [.string ⟨((a0.1.getD a1.toNat Qq1).1).toArray⟩,No ((a0.1.getD a1.toNat Qq1).2.1),e3v2,No ((a0.1.getD a1.toNat Qq1).2.2.2.1),.bool ((a0.1.getD a1.toNat Qq1).2.2.2.2.1),No ((a0.1.getD a1.toNat Qq1).2.2.2.2.2.1),No ((a0.1.getD a1.toNat Qq1).2.2.2.2.2.2.1),No ((a0.1.getD a1.toNat Qq1).2.2.2.2.2.2.2.1),No ((a0.1.getD a1.toNat Qq1).2.2.2.2.2.2.2.2.1),No ((a0.1.getD a1.toNat Qq1).2.2.2.2.2.2.2.2.2.1),e3v10,e3v11] 50,.box b2 [No a2.f.1,No a2.f.2.1,va2_2,va2_3,va2_4] 34] O)) hH hU dm (bc.mono b) (b3.mono b) e204h2 e204h3 e204h4 fd) ?_;rintro _ gq ⟨cs,b7,y208_1,rfl,cl,ct,dz,d0⟩;refine Al<|Az<|Ar 1 Z<|A3 h fun fe h=>?_;have b:=b.trans (Ac ct);refine DQ (az.mono b) fe fun gr ff=>Ar 1 Z<|AP<|A9<|A2 ?_;have ac:=cl.rG H;refine Az<|A3 h fun fg h=>Ag (AA fg)<|Ar 1 Z<|AP ?_
   have dn:AW d (Ha [.row b7 5 1 (b6.2.1).length y208_1,.box ba0 [cs,b7,No b6.2.2] 77,.box b5 [.string ⟨((a0.1.getD a1.toNat Qq1).1).toArray⟩,No ((a0.1.getD a1.toNat Qq1).2.1),e3v2,No ((a0.1.getD a1.toNat Qq1).2.2.2.1),.bool ((a0.1.getD a1.toNat Qq1).2.2.2.2.1),No ((a0.1.getD a1.toNat Qq1).2.2.2.2.2.1),No ((a0.1.getD a1.toNat Qq1).2.2.2.2.2.2.1),No ((a0.1.getD a1.toNat Qq1).2.2.2.2.2.2.2.1),No ((a0.1.getD a1.toNat Qq1).2.2.2.2.2.2.2.2.1),No ((a0.1.getD a1.toNat Qq1).2.2.2.2.2.2.2.2.2.1),e3v10,e3v11] 50,.box b2 [No a2.f.1,No a2.f.2.1,va2_2,va2_3,va2_4] 34] O) gq:=cl.Bn [1] Z;have cu:=AJ [1] cl dn Z;have h:=BW.again h cj;have hT:=hT.trans (av.trans (ct.trans cu));have ac:=ac.trans (Ac cu);refine AN (b6.1,b6.2.2,b6.2.1,(u.drop (1:Int).toNat),(c+1),cs,b7,y208_1,gr,ci) ⟨dn,(ff.mono ac),((bm.mono b).mono ac),(d0.mono ac),(dz.mono ac),((b8.mono b).mono ac),((bn.mono b).mono ac),((b9.mono b).mono ac),((ca.mono b).mono ac),((cb.mono b).mono ac),hT,h⟩
  refine Bq<|AK<|AF ?_;have h:=BW.out h cj;refine Bj<|A9 ?_
  cases h
  refine Et ?_;have fh:=ae.AR (i:=2) Z;have dp:=fh.AR (i:=2) Z;have dq:AW d (Ha [.box ba0 [p,s,No ad] 77,.row s 5 1 (af).length ab] O) df:=dp.Bn [1] Z;have cv:=AJ [1] dp dq Z;have b:=b.trans (Ac ((Ah (i:=2) Z).trans ((Ah (i:=2) Z).trans cv)));have hT:=hT.trans ((Ah (i:=2) Z).trans ((Ah (i:=2) Z).trans cv));exact⟨p,s,ab,Z,dq,hT,(bc.mono b),(b3.mono b)⟩
 refine A4<|A9 ?_
 cases h
 refine Et ?_;have fi:=k.AR (i:=2) Z;have fj:=fi.AR (i:=2) Z;have a:=a.trans (Ac ((Ah (i:=2) Z).trans (Ah (i:=2) Z)));have hT:=hT.trans ((Ah (i:=2) Z).trans (Ah (i:=2) Z));exact⟨va0_0,va0_1,xsa0_1,Z,fj,hT,(aa.mono a),(he24_Ra0_1.mono a)⟩
def DC:Nat->AaI->(Int)->(Pv)->Option (AaI)
 | 0=>fun _ _ _=>none
 | n+1=>Bh (DC n)
def H4:AaI->(Int)->(Pv)->Option (AaI):=DC 1000
theorem L4(n:Nat):∀{a w:World}{H:PH} (hH:Le H (hp a)) (hU:Jm H) {O:List BN}{a0:AaI}{a1:Int}{a2:Pv}{ba0:Nat}{va0_0:Value}{va0_1:Value}{xsa0_1:Qq5}{va2_2:Value}{va2_3:Value}{va2_4:Value} (hL:AW a (Ha [.box ba0 [va0_0,va0_1,No a0.2.2] 77,.row va0_1 5 1 (a0.2.1).length xsa0_1] O) w) (e:AL AaK (gz H a w (Ha [.box ba0 [va0_0,va0_1,No a0.2.2] 77,.row va0_1 5 1 (a0.2.1).length xsa0_1] O)) va0_0 (a0.1)) (d:A5 .byte (gz H a w (Ha [.box ba0 [va0_0,va0_1,No a0.2.2] 77,.row va0_1 5 1 (a0.2.1).length xsa0_1] O)) (a0.2.1) xsa0_1) (g:AL .byte (gz H a w (Ha [.box ba0 [va0_0,va0_1,No a0.2.2] 77,.row va0_1 5 1 (a0.2.1).length xsa0_1] O)) va2_2 (a2.f.2.2.1)) (i:AL .st (gz H a w (Ha [.box ba0 [va0_0,va0_1,No a0.2.2] 77,.row va0_1 5 1 (a0.2.1).length xsa0_1] O)) va2_3 (a2.f.2.2.2.1)) (j:AL .tree (gz H a w (Ha [.box ba0 [va0_0,va0_1,No a0.2.2] 77,.row va0_1 5 1 (a0.2.1).length xsa0_1] O)) va2_4 (a2.f.2.2.2.2)) {r:AaI} (h:DC n a0 a1 a2=some r),Ok prog 29 [Aac ba0,No a1,.agg #[No a2.f.1,No a2.f.2.1,va2_2,va2_3,va2_4]] w (fun v w'=>∃(c:Value) (b:Value) (y1:Qq5),v=.tuple #[]/\AW a (Ha [.box ba0 [c,b,No r.2.2] 77,.row b 5 1 (r.2.1).length y1] O) w'/\Le (fz w (Ha [.box ba0 [va0_0,va0_1,No a0.2.2] 77,.row va0_1 5 1 (a0.2.1).length xsa0_1] O)) (fz w' (Ha [.box ba0 [c,b,No r.2.2] 77,.row b 5 1 (r.2.1).length y1] O))/\AL AaK (gz H a w' (Ha [.box ba0 [c,b,No r.2.2] 77,.row b 5 1 (r.2.1).length y1] O)) c (r.1)/\A5 .byte (gz H a w' (Ha [.box ba0 [c,b,No r.2.2] 77,.row b 5 1 (r.2.1).length y1] O)) (r.2.1) y1):=by
 induction n with
 | zero=>intros;rename_i h;cases h
 | succ n ih=>exact @K4 (DC n) ih
theorem Ma:∀{a w:World}{H:PH} (hH:Le H (hp a)) (hU:Jm H) {O:List BN}{a0:AaI}{a1:Int}{a2:Pv}{ba0:Nat}{va0_0:Value}{va0_1:Value}{xsa0_1:Qq5}{va2_2:Value}{va2_3:Value}{va2_4:Value} (hL:AW a (Ha [.box ba0 [va0_0,va0_1,No a0.2.2] 77,.row va0_1 5 1 (a0.2.1).length xsa0_1] O) w) (e:AL AaK (gz H a w (Ha [.box ba0 [va0_0,va0_1,No a0.2.2] 77,.row va0_1 5 1 (a0.2.1).length xsa0_1] O)) va0_0 (a0.1)) (d:A5 .byte (gz H a w (Ha [.box ba0 [va0_0,va0_1,No a0.2.2] 77,.row va0_1 5 1 (a0.2.1).length xsa0_1] O)) (a0.2.1) xsa0_1) (g:AL .byte (gz H a w (Ha [.box ba0 [va0_0,va0_1,No a0.2.2] 77,.row va0_1 5 1 (a0.2.1).length xsa0_1] O)) va2_2 (a2.f.2.2.1)) (i:AL .st (gz H a w (Ha [.box ba0 [va0_0,va0_1,No a0.2.2] 77,.row va0_1 5 1 (a0.2.1).length xsa0_1] O)) va2_3 (a2.f.2.2.2.1)) (j:AL .tree (gz H a w (Ha [.box ba0 [va0_0,va0_1,No a0.2.2] 77,.row va0_1 5 1 (a0.2.1).length xsa0_1] O)) va2_4 (a2.f.2.2.2.2)) {r:AaI} (h:H4 a0 a1 a2=some r),Ok prog 29 [Aac ba0,No a1,.agg #[No a2.f.1,No a2.f.2.1,va2_2,va2_3,va2_4]] w (fun v w'=>∃(c:Value) (b:Value) (y1:Qq5),v=.tuple #[]/\AW a (Ha [.box ba0 [c,b,No r.2.2] 77,.row b 5 1 (r.2.1).length y1] O) w'/\Le (fz w (Ha [.box ba0 [va0_0,va0_1,No a0.2.2] 77,.row va0_1 5 1 (a0.2.1).length xsa0_1] O)) (fz w' (Ha [.box ba0 [c,b,No r.2.2] 77,.row b 5 1 (r.2.1).length y1] O))/\AL AaK (gz H a w' (Ha [.box ba0 [c,b,No r.2.2] 77,.row b 5 1 (r.2.1).length y1] O)) c (r.1)/\A5 .byte (gz H a w' (Ha [.box ba0 [c,b,No r.2.2] 77,.row b 5 1 (r.2.1).length y1] O)) (r.2.1) y1):=L4 1000
end Go.Proofs.YtnmkjjgmnbmmnaaGreatDoor
end
noncomputable section
namespace Go.Proofs.YtnmkjjgmnbmmnaaGreatDoor
open Go Go.E Go.RowKit Go.L
set_option maxHeartbeats 1000000
set_option maxRecDepth 10000
open _root_.Go.Proofs.Tryz
def IF(_a0:Aae)(_a1:Int×Int):Option Unit:=
 some (())
theorem MF{a w:World}{H:PH}(_hH:Le H (hp a)){O:List BN}{a0:Aae}{a1:Int×Int}{ba0:Nat}{va0_0:Value}{xsa0_0:Qq5}{ba1:Nat}(hL:AW a (Ha [.box ba0 [va0_0] 22,.row va0_0 5 1 (a0).length xsa0_0,.box ba1 [No a1.1,No a1.2] 27] O) w)(_hea0_0:A5 .byte (gz H a w (Ha [.box ba0 [va0_0] 22,.row va0_0 5 1 (a0).length xsa0_0,.box ba1 [No a1.1,No a1.2] 27] O)) a0 xsa0_0){r:Unit}(h:IF a0 a1=some r):
  YX prog 28 [Aac ba0,Aac ba1] .returning .returning w (fun w'=>AW a (Ha [.box ba0 [va0_0] 22,.row va0_0 5 1 (a0).length xsa0_0,.box ba1 [No a1.1,No a1.2] 27] O) w'/\Le (fz w (Ha [.box ba0 [va0_0] 22,.row va0_0 5 1 (a0).length xsa0_0,.box ba1 [No a1.1,No a1.2] 27] O)) (fz w' (Ha [.box ba0 [va0_0] 22,.row va0_0 5 1 (a0).length xsa0_0,.box ba1 [No a1.1,No a1.2] 27] O))):=by
 refine Qc (pv:=.nilIface) (k:=12) [(0,(Aac ba0)),(1,(Aac ba1))] func28 Z Z Z Z Z Z .no ?_;have hT:=Le.refl (fz w (Ha [.box ba0 [va0_0] 22,.row va0_0 5 1 (a0).length xsa0_0,.box ba1 [No a1.1,No a1.2] 27] O));refine A8<|Aq<|Ag Vc<|Al<|Fy<|Az<|Ar 1 Z<|AP<|A9 ?_
 cases h
 refine Et ⟨hL,hT⟩
def JF(a0:(List AaE))(a1:Pv):Option (Aae×Qq6):=
 Qq8 (Dz a0) (fun c=>if c.1=0/\c.2=0 then Qq8 (Cn a1) (fun b=>if b.1=0/\b.2=0 then Qq8 (H4 (a0,([]:Aae),0) (0:Int) a1) (fun a=>if 1000<(a.2.1.length:Int)then none else Qq8 (IF a.2.1 (0,0)) (fun d=>some (a.2.1,(0,0))))else none)else none)
section
variable(w:World)(H:PH)(hH:Le H (hp w)) include hH
theorem O6(hU:Jm H){a0:(List AaE)}{a1:Pv}{b d e g:Value}(aa:AL AaK H b a0)(ab:AL .byte H d (a1.f.2.2.1))(ac:AL .st H e (a1.f.2.2.2.1))(ad:AL .tree H g (a1.f.2.2.2.2)){r:Aae×Qq6}(h:JF a0 a1=some r):
  Qqv 9 [.agg #[b],.agg #[No a1.f.1,No a1.f.2.1,d,e,g]] w (fun v w'=>∃u0,v=.tuple #[u0,.agg #[No r.2.1,No r.2.2]]/\Cv 5 .byte H w w' u0 (r.1)):=by
 refine QN (n:=40) [(0,.agg #[b]),(1,.agg #[No a1.f.1,No a1.f.2.1,d,e,g])] func9 Z Z Z Z ?_;have hL:=AW.start w;refine Aq<|Cj (t:=25) Z Z hL fun w1 b1 bb bq _=>Cj (t:=34) Z Z bb fun w2 b2 bc br _=>AZ CC.e Z bc fun w3 b3 bd bs _=>AZ BB.e Z bd fun w4 b4 ag bt _=>Al<|AM<|Aq<|Ag (Ax 3 Z HQ.e ag Z)<|Av h fun l be h=>A6 ag (Hf _ _ (Ao ag) (hU.mono  Ai) a0 (aa.mono  Ai) be) fun w6 bz bf bu=>AZ BB.e Z bf fun w7 b7 bg bv _=>A7 0 Z bg Z fun w8 y bw=>Al<|Aq<|Ag (Ax 0 Z BB.e y Z)<|Ag (B7 (fun _=>Dx _))<|Ag (MP Mq (OK _ _ _ _))<|Al<|DP h ?_ ?_<;>intro bh h
 ·cases h
 refine A4<|A2<|AM<|Aq<|Ag (Ax 3 Z B5.e y Z)<|Av h fun j ay h=>A6 y (HJ _ _ (Ao y) a1 (ab.mono  Ai) (ac.mono  Ai) (ad.mono  Ai) ay) fun b0 bx a3 bk=>AZ BB.e Z a3 fun b5 q a4 bl _=>A7 0 Z a4 Z fun b6 s bm=>Al<|Aq<|Ag (Ax 0 Z BB.e s Z)<|Ag (B7 (fun _=>Dx _))<|Ag (MP Mq (OK _ _ _ _))<|Al<|DP h ?_ ?_<;>intro a5 h
 ·cases h
 refine A4<|A2<|B1 1 Z<|Tw Z<|Al<|Aq<|Ag (Ax 5 Z HQ.e s Z)<|Ag (B7 (fun _=>Ww _ _))<|Cj (t:=77) Z Z s fun bi z ai bn _=>A1 1 Z<|B1 1 Z<|Ag (Ax 5 Z B5.e ai Z) ?_;obtain⟨aj,bo,u⟩:=CF .byte H 5 ai;have ak:AW w [.box z [b,Aaa,No 0] 77,.row Aaa 5 1 (([]:Aae)).length ([]),.box q [No j.1,No j.2] 27,.box b7 [No l.1,No l.2] 27,.box b4 [No 0,No 0] 27,.box b3 [Aaa] 22,.box b2 [No a1.f.1,No a1.f.2.1,d,e,g] 34,.box b1 [b] 25] bi:=aj.Bn [1] Z;have ap:=AJ [1] aj ak Z;refine Av h fun m a6 h=>?_;have u:=u.mono (Ac ap)
 refine BO (Ma (a0:=(a0,([]:Aae),0)) (a1:=0) (a2:=a1) (O:=[.box q [No j.1,No j.2] 27,.box b7 [No l.1,No l.2] 27,.box b4 [No 0,No 0] 27,.box b3 [Aaa] 22,.box b2 [No a1.f.1,No a1.f.2.1,d,e,g] 34,.box b1 [b] 25]) hH hU ak (aa.mono  Ai) u (ab.mono  Ai) (ac.mono  Ai) (ad.mono  Ai) a6) ?_;rintro _ b8 ⟨o,c,y23_1,rfl,k,bp,bj,a⟩;refine Al<|AM<|B1 1 Z<|Ag (AV Z)<|Ag (Af Z Aa7 Z CC.e)<|Ag (Ae 0 Z k Z)<|Ag (Ng 1 Z k Z)<|A1 1 Z<|AS h ?_ ?_<;>intro a7 h
 ·cases h
 refine A4<|A2<|B1 1 Z<|Ag (AV Z)<|Ag (Af Z Aa7 Z CC.e)<|Ag (Ae 0 Z k Z)<|Ag (B7 (fun _=>Dx _))<|AY 5 Z Z (row_one (k.at (i:=1) Z)) k Z Z fun b9 a8 aq=>A7 4 Z a8 Z fun ax al ar=>Al<|Au ?_;have x:AW w [.row c 5 1 (m.2.1).length y23_1,.box b4 [No 0,No 0] 27,.box z [o,c,No m.2.2] 77,.box q [No j.1,No j.2] 27,.box b7 [No l.1,No l.2] 27,.box b3 [c] 22,.box b2 [No a1.f.1,No a1.f.2.1,d,e,g] 34,.box b1 [b] 25] ax:=al.Bn [4,2] Z;have au:=AJ [4,2] al x Z;have am:AW w [.box b3 [c] 22,.row c 5 1 (m.2.1).length y23_1,.box b4 [No 0,No 0] 27,.box z [o,c,No m.2.2] 77,.box q [No j.1,No j.2] 27,.box b7 [No l.1,No l.2] 27,.box b2 [No a1.f.1,No a1.f.2.1,d,e,g] 34,.box b1 [b] 25] ax:=x.Bn [5] Z;have av:=AJ [5] x am Z;refine Av h fun ca a9 h=>?_;have a:=a.mono (Ac (aq.trans (ar.trans (au.trans av))))
 refine Tx (MF (a0:=m.2.1) (a1:=(0,0)) (O:=[.box z [o,c,No m.2.2] 77,.box q [No j.1,No j.2] 27,.box b7 [No l.1,No l.2] 27,.box b2 [No a1.f.1,No a1.f.2.1,d,e,g] 34,.box b1 [b] 25]) hH am a a9) ?_;rintro cb ⟨p,aw⟩ az frz
 cases h
 have a:=a.mono (Ac aw);exact⟨_,Ul Z Z Aag Z (Bo (i:=0) p Z) (.cell Z Aaj Z BB.e (Bo (i:=2) p Z)) frz,p.ext,_,Z,(p.Hn hH (i:=1) Z a)⟩
end
end Go.Proofs.YtnmkjjgmnbmmnaaGreatDoor
end
noncomputable section
namespace Go.Proofs.YtnmkjjgmnbmmnaaGreatDoor
open Go Go.E Go.RowKit Go.L
abbrev Wr:=List QV×Qq3×Int
abbrev W(o:Qq3)(n:Nat):Wr:=(SF,o,(n:Int))
noncomputable abbrev wN:=DC
theorem LQ(m:Nat)(s:Wr)(k:Int)(v:Pv):wN (m+1) s k v=Bh (wN m) s k v:=Z
theorem Tf(n:Nat):u8 (n:Int)=Qzv n:=by
 unfold u8;apply UInt8.toNat_inj.1;simp;omega
theorem WN(c:UInt8):u8 (c.toNat:Int)=c:=by rw[Tf];simp
theorem X7{o:Qq3}{n:Nat}{r:QV}{c:UInt8}(ho:o.length<=100000)(hk:r.2.1=2)(hs:r.2.2.2.1=1)(hb:r.2.2.2.2.1=true):Br (W o n) r (c.toNat:Int)=some (W (o++[c]) n):=by
 unfold Br Gb;rw[if_neg U];dsimp only;rw[BK (s':=(o++[c],(1:Int))) ?_]
 ·refine BA (m:=some (W (o++[c]) n)) ?_;unfold Cc;dsimp only;rw[if_neg U]
 ·unfold Cc C8;dsimp only;rw[if_pos U,An (h:=(by decide)),if_pos hb,hs,An (h:=(by decide)),An (h:=(by decide)),An (h:=(by decide)),An (h:=(by decide))]
  have e:(c.toNat:Int) / 2 ^ ((8:Int) * ((1 - 1) - 0)).toNat=c.toNat:=by
   rw[show((8:Int) * ((1 - 1) - 0)).toNat=0 from Z];simp
  rw[e,WN,An (h:=(by unfold Gx;simp only[Qxb];omega)),An (h:=(by decide))]
  rfl
theorem Zh{o:Qq3}{n:Nat}{r:QV}{x:Nat}(ho:o.length<=100000)(hx:x<65536)(hk:r.2.1=2)(hs:r.2.2.2.1=2)(hb:r.2.2.2.2.1=true):Br (W o n) r (x:Int)=some (W (o++[Qzv (x / 256),Qzv (x % 256)]) n):=by
 unfold Br Gb;rw[if_neg U];dsimp only;rw[BK (s':=(o++[Qzv (x / 256)],(1:Int))) ?_,BK (s':=(o++[Qzv (x / 256),Qzv (x % 256)],(2:Int))) ?_]
 ·refine BA (m:=some (W (o++[Qzv (x / 256),Qzv (x % 256)]) n)) ?_;unfold Cc;dsimp only;rw[if_neg U]
 ·unfold Cc C8;dsimp only;rw[if_pos U,An (h:=(by decide)),if_pos hb,hs,An (h:=(by decide)),An (h:=(by decide)),An (h:=(by decide)),An (h:=(by decide))]
  have e:u8 ((x:Int) / 2 ^ ((8:Int) * ((2 - 1) - 1)).toNat)=Qzv (x % 256):=by
   rw[show((8:Int) * ((2 - 1) - 1)).toNat=0 from Z];simp only[Int.pow_zero,Int.ediv_one];rw[Tf];apply UInt8.toNat_inj.1;simp
  rw[e,An (h:=(by unfold Gx;simp only[Qzk,Qxb];omega)),An (h:=(by decide))];simp
 ·unfold Cc C8;dsimp only;rw[if_pos U,An (h:=(by decide)),if_pos hb,hs,An (h:=(by decide)),An (h:=(by decide)),An (h:=(by decide)),An (h:=(by decide))]
  have e:u8 ((x:Int) / 2 ^ ((8:Int) * ((2 - 1) - 0)).toNat)=Qzv (x / 256):=by
   rw[show((8:Int) * ((2 - 1) - 0)).toNat=8 from Z,show((x:Int) / 2 ^ 8)=((x / 256:Nat):Int) by omega,Tf]
  rw[e,An (h:=(by unfold Gx;simp only[Qxb];omega)),An (h:=(by decide))]
  rfl
abbrev Wlf:=Wr->Int->Pv->Option Wr
section
variable {self:Wlf}{o:Qq3}{n k:Nat}{r:QV}{v:Pv} (hk:k<19) (hr:SF.getD k Qq1=r) (hn:n<=100000)
include hk hr hn
theorem Yo(h2:r.2.1=2){x:Int}(hv:v=Hm x)(h3:r.2.2.2.2.2.1<=x)(a:x<=r.2.2.2.2.2.2.1):Bh self (W o n) (k:Int) v=Br (W o (n+1)) r x:=by
 subst hv;unfold Bh C5 BR E0 B3;dsimp only;rw[show((k:Nat):Int).toNat=k from Z,hr,Ia,An,if_neg U,if_pos h2,if_pos (by simp[h2])];have b:(Hm x).f.1=1:=Z;have c:(Hm x).f.2.1=x:=Z;rw[b,c,if_pos Z,if_pos h3,Qq9,Qq9,decide_eq_true a,if_neg Qqc,An (h:=(by unfold BH;omega)),if_neg U,if_pos h2,if_pos (by simp[h2])]
 show Qq8 (Br (W o (n+1)) r x) some=_
 cases Br (W o (n+1)) r x <;> rfl
theorem WO(h2:r.2.1=10)(c:r.2.2.2.2.2.2.2.2.1=18){b:Qq3}(hv:v=Jy b)(hb:b.length<65536):Bh self (W o n) (k:Int) v=Qq8 (Br (W o (n+1)) (SF.getD 18 Qq1) (b.length:Int)) (fun x=>Bb (Gx 1 (x.2.1.length+b.length)) (some (x.1,x.2.1++b,x.2.2))):=by
 subst hv;unfold Bh C5 BR DZ E0 B3;dsimp only;have d:(Jy b).f.1=2:=Z;have e:(Jy b).f.2.2.1=b:=Z;have a:SF.getD ((18:Int).toNat) Qq1=([115,105,122,101],2,[],2,true,0,65535,0,0,0,[],[]):=Z;rw[show((k:Nat):Int).toNat=k from Z,hr,Ia,An,if_neg U,if_neg U,if_neg (by simp[h2]),if_neg U,if_pos h2,d,if_pos Z,c,An (h:=(by decide)),a,e];dsimp only;rw[if_pos U,Qq9,Qq9,Qq9,decide_eq_true U,if_neg Qqc,An (h:=(by unfold BH;omega)),if_neg U,if_neg U,if_neg (by simp[h2]),if_neg U,if_pos h2,An (h:=(by decide))]
 rfl
theorem V1(h2:r.2.1=4){b:Qq3}(hv:v=Jy b)(hb:(b.length:Int)=r.2.2.2.1):Bh self (W o n) (k:Int) v=Bb (Gx 1 (o.length+b.length)) (some (W (o++b) (n+1))):=by
 subst hv;unfold Bh C5 BR B3;dsimp only;have a:(Jy b).f.1=2:=Z;have c:(Jy b).f.2.2.1=b:=Z;rw[show((k:Nat):Int).toNat=k from Z,hr,Ia,An,if_neg U,if_neg U,if_neg (by simp[h2]),if_pos h2,a,c,hb,Qq9,if_neg Qqc,An (h:=(by unfold BH;omega)),if_neg U,if_neg U,if_neg (by simp[h2]),if_pos h2]
 rfl
theorem Yp{q:Nat}(h2:r.2.1=6)(a:r.2.2.2.2.2.2.2.2.1=(q:Int))(hq:q<19){l:List Pv}(hv:v=NJ l)(b:(SF.getD q Qq1).2.2.2.2.2.1<=(l.length:Int))(c:(l.length:Int)<=(SF.getD q Qq1).2.2.2.2.2.2.1):
  Bh self (W o n) (k:Int) v=Qq8 (Br (W o (n+1)) (SF.getD q Qq1) (l.length:Int)) (fun x=>El self x r.2.2.2.2.2.2.2.2.2.1 l):=by
 subst hv;unfold Bh C5 BR DZ E0 B3;dsimp only;have d:(NJ l).f.1=3:=Z;have e:(NJ l).f.2.2.2.2=l:=Z;rw[show((k:Nat):Int).toNat=k from Z,hr,Ia,An,if_neg U,if_neg U,if_neg (by simp[h2]),if_neg U,if_neg U,if_neg U,if_pos h2,d,if_pos Z,a,An,show((q:Nat):Int).toNat=q from Z,e,if_pos b,Qq9,Qq9,Qq9,decide_eq_true c,if_neg Qqc,An (h:=(by unfold BH;omega)),if_neg U,if_neg U,if_neg (by simp[h2]),if_neg U,if_neg U,if_neg U,if_pos h2,An]
 show Qq8 (Br (W o (n+1)) (SF.getD q Qq1) (l.length:Int)) (fun x=>Qq8 (El self x r.2.2.2.2.2.2.2.2.2.1 l) some)=_
 refine congrArg _ (funext fun x=>?_)
 cases El self x r.2.2.2.2.2.2.2.2.2.1 l <;> rfl
theorem Yq(h2:r.2.1=8){q:Nat}{x:Pv}(hv:v=NJ [Hm (q:Int),x])(hq:q<r.2.2.2.2.2.2.2.2.2.2.2.length):Bh self (W o n) (k:Int) v=self (W o (n+2)) (r.2.2.2.2.2.2.2.2.2.2.2.getD q Qq1) x:=by
 subst hv;unfold Bh C5 BR B3;dsimp only;have a:(NJ [Hm (q:Int),x]).f.1=3:=Z;have b:(NJ [Hm (q:Int),x]).f.2.2.2.2=[Hm (q:Int),x]:=Z;have c:([Hm (q:Int),x].getD ((0:Int).toNat) Qq1)=Hm (q:Int):=Z;have d:([Hm (q:Int),x].getD ((1:Int).toNat) Qq1)=x:=Z;have e:(Hm (q:Int)).f.1=1:=Z;have g:(Hm (q:Int)).f.2.1=(q:Int):=Z;rw[show((k:Nat):Int).toNat=k from Z,hr,Ia,An,if_neg U,if_neg U,if_neg (by simp[h2]),if_neg U,if_neg U,if_neg U,if_neg U,if_neg U,if_pos h2,a,b,c,d,e,g,if_pos Qqc,An (h:=(by simp)),if_pos Z,An (h:=(by simp)),if_pos U,An (h:=(by simp)),Qq9,decide_eq_true U,if_neg Qqc,An (h:=(by unfold BH;omega)),if_neg U,if_neg U,if_neg (by simp[h2]),if_neg U,if_neg U,if_neg U,if_neg U,if_neg U,if_pos h2,An (h:=(by unfold BH;omega)),An (h:=(by simp)),An,An (h:=(by simp)),show((q:Nat):Int).toNat=q from Z];have h:(n:Int)+1+1=((n+2:Nat):Int):=by omega
 rw[h]
 show Qq8 (self (W o (n+2)) (r.2.2.2.2.2.2.2.2.2.2.2.getD q Qq1) x) some=_
 cases self (W o (n+2)) (r.2.2.2.2.2.2.2.2.2.2.2.getD q Qq1) x <;> rfl
theorem Tg(h2:r.2.1=7){ns:Qq7}{l:List Pv}(hv:v=Om ns l)(hc:Qq8 (Bx r.2.2.2.2.2.2.2.2.2.2.1) (fun x=>Bw x)=some ns)(he:BD ns ns=some true):Bh self (W o n) (k:Int) v=Bt (W o n) (k:Int) self (SF,((n+1:Nat):Int),o,l,0):=by
 subst hv;unfold Bh C5 BR B3;dsimp only;obtain⟨d,c1,c2⟩:=bind_some hc;have a:(Om ns l).f.1=4:=Z;have b:(Om ns l).f.2.2.2.1=ns:=Z;have c:(Om ns l).f.2.2.2.2=l:=Z;rw[show((k:Nat):Int).toNat=k from Z,hr,Ia,An,if_neg U,if_neg U,if_neg (by simp[h2]),if_neg U,if_neg U,if_neg U,if_neg U,if_neg U,if_neg U,c1,Qq9,c2,Qq9,a,b,c,if_pos Z,he,Qq9,Qq9,if_neg Qqc,An (h:=(by unfold BH;omega)),if_neg U,if_neg U,if_neg (by simp[h2]),if_neg U,if_neg U,if_neg U,if_neg U,if_neg U,if_neg U,if_pos h2]
 rfl
omit hk hn in
theorem Yr{l:List Pv}{a j:Nat}{c:Qq3}{q:Int}{b:Qq3}(hj:(j:Int)<(r.2.2.2.2.2.2.2.2.2.2.2.length:Int))(e:(j:Int)<(r.2.2.2.2.2.2.2.2.2.2.1.length:Int))(f:j<100)(hq:r.2.2.2.2.2.2.2.2.2.2.2.getD j Qq1=q)(hnm:r.2.2.2.2.2.2.2.2.2.2.1.getD j Qq1=[])(d:0<=q/\q<19)(hb:(SF.getD q.toNat Qq1).2.2.1=b)(ho:o.length<=100000)(g:b.length<=1000):
  Bt (W c a) (k:Int) self (SF,(n:Int),o,l,(j:Int))=Bt (W c a) (k:Int) self (SF,(n:Int),o++b,l,((j+1:Nat):Int)):=by
 unfold Bt;refine BK ?_;unfold C0 EP;dsimp only;rw[show((k:Nat):Int).toNat=k from Z,hr,show((j:Nat):Int).toNat=j from Z,if_pos hj,An,An,if_pos hnm,hq,Ia,An (h:=d),hb,An (h:=(by unfold Gx;omega)),An (h:=(by unfold BH;omega))]
 rfl
omit hk hn in
theorem Kp{l:List Pv}{a j n':Nat}{b o':Qq3}{q:Int}{p:Pv}(hj:(j:Int)<(r.2.2.2.2.2.2.2.2.2.2.2.length:Int))(d:(j:Int)<(r.2.2.2.2.2.2.2.2.2.2.1.length:Int))(e:j<100)(hq:r.2.2.2.2.2.2.2.2.2.2.2.getD j Qq1=q)(hnm:r.2.2.2.2.2.2.2.2.2.2.1.getD j Qq1≠[])(hs:self (W o n) q p=some (W o' n')):
  Bt (W b a) (k:Int) self (SF,(n:Int),o,p::l,(j:Int))=Bt (W b a) (k:Int) self (SF,(n':Int),o',l,((j+1:Nat):Int)):=by
 unfold Bt;refine BK ?_;unfold C0;dsimp only;have c:(p::l).getD ((0:Int).toNat) Qq1=p:=Z;rw[show((k:Nat):Int).toNat=k from Z,hr,show((j:Nat):Int).toNat=j from Z,if_pos hj,An,An,if_neg hnm,hq,An (h:=(by simp only[Qzj];omega)),c,hs,Qq9,An (h:=(by simp only[Qzj];omega)),An (h:=(by unfold BH;omega))]
 rfl
omit hk hn in
theorem Th{l:List Pv}{a j:Nat}{b:Qq3}(hj:((j:Nat):Int)=(r.2.2.2.2.2.2.2.2.2.2.2.length:Int)):Bt (W b a) (k:Int) self (SF,(n:Int),o,l,(j:Int))=some (W o n):=by
 unfold Bt;refine BA (m:=some (W o n)) ?_;unfold C0;dsimp only;rw[show((k:Nat):Int).toNat=k from Z,hr,if_neg U]
end
noncomputable section
def ZO:Option Bool:=
 Qq8 (Bx []) (fun b=>Qq8 (Bw b) (fun a=>Qq8 (BD a a) (fun _=>Qq8 (B0 (Hm 0)) (fun _=>Qq8 (Gn E2) (fun _=>some true)))))
end
noncomputable section
instance (a0):Mi (Bx a0):=by delta Bx;infer_instance
instance (a0):Mi (DX a0):=by delta DX;infer_instance
instance:Mi (JD):=by delta JD;infer_instance
instance (a0) (s):Mi (Jh a0 s):=by delta Jh;infer_instance
instance (a0) (s):Mi (Lw a0 s):=by delta Lw;infer_instance
instance (a0):Mi (LN a0):=by delta LN;infer_instance
instance (b) (a):Mi (CB b a):=by delta CB;infer_instance
instance (s):Mi (C1 s):=by obtain⟨c,a,b⟩:=s;delta C1;dsimp only;infer_instance
instance (s):Mi (D3 s):=by delta D3;infer_instance
instance (a0):Mi (Bw a0):=by delta Bw;infer_instance
instance:Mi (Dn):=by delta Dn;infer_instance
instance (a0) (a1) (s):Mi (CX a0 a1 s):=by delta CX;infer_instance
instance (a0) (a1) (s):Mi (EF a0 a1 s):=by delta EF;infer_instance
instance (a0) (a1):Mi (BD a0 a1):=by delta BD;infer_instance
instance (a0) (a1):Mi (BQ a0 a1):=by delta BQ;infer_instance
instance (a0):Mi (HF a0):=by delta HF;infer_instance
instance:Mi (G2):=by delta G2;infer_instance
instance (a0) (s):Mi (Gh a0 s):=by delta Gh;infer_instance
instance (a0) (s):Mi (IC a0 s):=by delta IC;infer_instance
instance (a0):Mi (Is a0):=by delta Is;infer_instance
instance (a0):Mi (Fw a0):=by delta Fw;infer_instance
instance:Mi (FD):=by delta FD;infer_instance
instance (a0) (s):Mi (Fj a0 s):=by delta Fj;infer_instance
instance (a0) (s):Mi (Hh a0 s):=by delta Hh;infer_instance
instance (a0) (a):Mi (BI a0 a):=by delta BI;infer_instance
instance (a0) (a):Mi (D2 a0 a):=by delta D2;infer_instance
instance (a0) (a):Mi (Cs a0 a):=by delta Cs;infer_instance
instance (a0) (a):Mi (CS a0 a):=by delta CS;infer_instance
instance (a0):Mi (B0 a0):=by delta B0;infer_instance
instance:Mi (ZO):=by delta ZO;infer_instance
end
theorem Qq{ns ns':Qq7}(h:(inferInstance:Mi (Qq8 (Bx ns) (fun x=>Bw x))).c=some ns'):Qq8 (Bx ns) (fun x=>Bw x)=some ns':=
 (inferInstance:Mi (Qq8 (Bx ns) (fun x=>Bw x))).h _ h
theorem Qr{ns:Qq7}(h:(inferInstance:Mi (BD ns ns)).c=some true):BD ns ns=some true:=(inferInstance:Mi (BD ns ns)).h _ h
section
variable {o:Qq3}{n m:Nat} (ho:o.length<=20000) (hn:n<=20000)
include ho hn
theorem Qs{k:Nat}{c:UInt8}(hk:k<19)(h2:(SF.getD k Qq1).2.1=2)(hs:(SF.getD k Qq1).2.2.2.1=1)(hb:(SF.getD k Qq1).2.2.2.2.1=true)(q1:(SF.getD k Qq1).2.2.2.2.2.1<=(c.toNat:Int))(a:(c.toNat:Int)<=(SF.getD k Qq1).2.2.2.2.2.2.1):wN (m+1) (W o n) (k:Int) (Hm c.toNat)=some (W (o++[c]) (n+1)):=by
 rw[LQ,Yo (r:=SF.getD k Qq1) hk Z U h2 Z q1 a,X7 U h2 hs hb]
theorem R4{c:UInt8}(h1:1<=c.toNat)(h2:c.toNat<=64):wN (m+1) (W o n) 11 (Hm c.toNat)=some (W (o++[c]) (n+1)):=
 Qs (k:=11) ho hn Qqb Z Z Z (show(1:Int)<=_ by omega) (show _<=(64:Int) by omega)
theorem V2{x:Qq3}(hx:x.length<=1000):wN (m+1) (W o n) 17 (Jy x)=some (W (o++rb x) (n+1)):=by
 rw[LQ,show(17:Int)=((17:Nat):Int)from Z,WO (r:=SF.getD 17 Qq1) Qqb Z U Z Z Z U,Zh U U Z Z Z,Qq9];dsimp only;rw[An (h:=(by unfold Gx;simp only[Qzk,Qzj,QzB];omega)),Qxz]
 rfl
theorem Zi{x:Qq3}(hx:x.length=3):wN (m+1) (W o n) 16 (Jy x)=some (W (o++x) (n+1)):=by
 rw[LQ,show(16:Int)=((16:Nat):Int)from Z,V1 (r:=SF.getD 16 Qq1) Qqb Z U Z Z (by rw[hx];rfl),An (h:=(by unfold Gx;omega))]
end
theorem X8{m:Nat}:∀(cs:Qq7) (P:List Pv) (j n:Nat) (o:Qq3),(∀c∈cs,c.length=3)->P.drop j=cs.map Jy->j+cs.length=P.length->o.length+3 * cs.length<=10000->n+cs.length<=9900->P.length<=1000->
  Fq 16 P (wN (m+1)) (SF,(n:Int),o,(j:Int))=some (W (o++cs.flatten) (n+cs.length))
 | [],P,j,n,o,_,_,hj,_,_,_=>by
  unfold Fq;refine BA (m:=some (W (o++[]) (n+0))) ?_;unfold EX;dsimp only;simp only[QzB]at hj;rw[if_neg U,List.append_nil]
  rfl
 | c::cs,P,j,n,o,hc,hP,hj,ho,hn,hl=>by
  have h3:=hc c (List.mem_cons_self ..);simp only[Qzj]at hj hn ho;have hlt:j<P.length:=by omega
  rw[Qz1 hlt,Qxy,List.cons.injEq]at hP;have ih:=X8 (m:=m) cs P (j+1) (n+1) (o++c) (fun c' h'=>hc c' (List.mem_cons_of_mem _ h')) hP.2 U (by rw[Qzk];omega) U hl;have h1:=Zi (o:=o) (n:=n) (m:=m) U U h3;have en:n+1+cs.length=n+(c::cs).length:=by simp only[Qzj];omega
  unfold Fq at ih ⊢;rw[BK (s':=(SF,((n+1:Nat):Int),o++c,((j+1:Nat):Int))) ?_,ih,en,List.flatten_cons,Qxz];unfold EX;dsimp only;have e:P.getD ((j:Int).toNat) Qq1=Jy c:=by rw[<- hP.1];exact(Qz6 _).symm
  rw[if_pos U,An,e,h1,Qq9,An (h:=(by unfold BH;omega))]
  rfl
theorem V3{o:Qq3}{n m:Nat}(ho:o.length<=9000)(hn:n<=9000){k q:Nat}{cs:Qq7}(hk:k<19)(h2:(SF.getD k Qq1).2.1=6)(b:(SF.getD k Qq1).2.2.2.2.2.2.2.2.1=(q:Int))(hq:q<19)(d:(SF.getD k Qq1).2.2.2.2.2.2.2.2.2.1=16)
  (e:(SF.getD q Qq1).2.1=2) (qs:(SF.getD q Qq1).2.2.2.1=1) (qb:(SF.getD q Qq1).2.2.2.2.1=true) (f:(SF.getD q Qq1).2.2.2.2.2.1<=(cs.length:Int)) (g:(cs.length:Int)<=(SF.getD q Qq1).2.2.2.2.2.2.1) (h:cs.length<=200) (hc:∀c∈cs,c.length=3) :
  wN (m+2) (W o n) (k:Int) (NJ (cs.map Jy))=some (W (o++(Qzv cs.length::cs.flatten)) (n+1+cs.length)):=by
 have hm:(cs.map Jy).length=cs.length:=Qzf ..;have a:=X7 (o:=o) (n:=n+1) (c:=Qzv cs.length) U e qs qb;rw[Qp h]at a;have ha:=X8 (m:=m) cs (cs.map Jy) 0 (n+1) (o++[Qzv cs.length]) hc Z (by rw[hm];omega) (by rw[Qzk,Qxb];omega) U (by rw[hm];omega);rw[LQ,Yp (r:=SF.getD k Qq1) hk Z U h2 b hq Z (by rw[hm];exact f) (by rw[hm];exact g),hm,a,Qq9,d];unfold El;dsimp only;rw[show(0:Int)=((0:Nat):Int)from Z,ha,Qxz]
 rfl
section
variable {o:Qq3}{n m:Nat} (ho:o.length<=5000) (hn:n<=5000)
include ho hn
theorem X9{k q0 q1:Nat}{f w g:UInt8}{cs:Qq7}{x:Qq3}(hk:k<19)(h2:(SF.getD k Qq1).2.1=7)(hns:(SF.getD k Qq1).2.2.2.2.2.2.2.2.2.2.1=[GG,E2,Dp,Ko,Ju])(hps:(SF.getD k Qq1).2.2.2.2.2.2.2.2.2.2.2=[(q0:Int),11,11,(q1:Int),17])
  (hf:wN (m+2) (W o (n+1)) (q0:Int) (Hm f.toNat)=some (W (o++[f]) (n+1+1))) (w1:1<=w.toNat) (w2:w.toNat<=64) (a:1<=g.toNat) (b:g.toNat<=64)
  (hc:wN (m+2) (W (o++[f]++[w]++[g]) (n+1+1+1+1)) (q1:Int) (NJ (cs.map Jy))=some (W (o++[f]++[w]++[g]++(Qzv cs.length::cs.flatten)) (n+1+1+1+1+1+cs.length)))
  (c3:∀c∈cs,c.length=3) (cl:cs.length<=200) (hx:x.length<=1000) :
  wN (m+3) (W o n) (k:Int) (Om [GG,E2,Dp,Ko,Ju] [Hm f.toNat,Hm w.toNat,Hm g.toNat,NJ (cs.map Jy),Jy x])=some (W (o++(f::w::g::(Qzv cs.length::cs.flatten++rb x))) (n+1+1+1+1+1+cs.length+1)):=by
 have hfl:=TE c3;rw[LQ,Tg (r:=SF.getD k Qq1) hk Z U h2 Z (by rw[hns];exact Qq V) (Qr V)];rw[show(0:Int)=((0:Nat):Int)from Z,Kp (r:=SF.getD k Qq1) (q:=(q0:Int)) Z (by rw[hps];simp) (by rw[hns];simp) Qqb (by rw[hps];rfl) (by rw[hns];decide) hf];rw[Kp (r:=SF.getD k Qq1) (q:=11) Z (by rw[hps];simp) (by rw[hns];simp) Qqb (by rw[hps];rfl) (by rw[hns];decide) (R4 (by simp only[Qzk,Qzj,QzB];omega) U w1 w2)];rw[Kp (r:=SF.getD k Qq1) (q:=11) Z (by rw[hps];simp) (by rw[hns];simp) Qqb (by rw[hps];rfl) (by rw[hns];decide) (R4 (by simp only[Qzk,Qzj,QzB];omega) U a b)];rw[Kp (r:=SF.getD k Qq1) (q:=(q1:Int)) Z (by rw[hps];simp) (by rw[hns];simp) Qqb (by rw[hps];rfl) (by rw[hns];decide) hc];rw[Kp (r:=SF.getD k Qq1) (q:=17) Z (by rw[hps];simp) (by rw[hns];simp) Qqb (by rw[hps];rfl) (by rw[hns];decide) (V2 (by simp only[Qzk,Qzj,QzB];omega) U hx)];rw[Th (r:=SF.getD k Qq1) Z (by rw[hps];rfl)];simp
theorem XA{k q0:Nat}{f w g:UInt8}{x:Qq3}(hk:k<19)(h2:(SF.getD k Qq1).2.1=7)(hns:(SF.getD k Qq1).2.2.2.2.2.2.2.2.2.2.1=[GG,E2,Dp,Ju])(hps:(SF.getD k Qq1).2.2.2.2.2.2.2.2.2.2.2=[(q0:Int),11,11,17])
  (hf:wN (m+2) (W o (n+1)) (q0:Int) (Hm f.toNat)=some (W (o++[f]) (n+1+1))) (w1:1<=w.toNat) (w2:w.toNat<=64) (a:1<=g.toNat) (b:g.toNat<=64) (hx:x.length<=1000) :
  wN (m+3) (W o n) (k:Int) (Om [GG,E2,Dp,Ju] [Hm f.toNat,Hm w.toNat,Hm g.toNat,Jy x])=some (W (o++(f::w::g::rb x)) (n+1+1+1+1+1)):=by
 rw[LQ,Tg (r:=SF.getD k Qq1) hk Z U h2 Z (by rw[hns];exact Qq V) (Qr V)];rw[show(0:Int)=((0:Nat):Int)from Z,Kp (r:=SF.getD k Qq1) (q:=(q0:Int)) Z (by rw[hps];simp) (by rw[hns];simp) Qqb (by rw[hps];rfl) (by rw[hns];decide) hf];rw[Kp (r:=SF.getD k Qq1) (q:=11) Z (by rw[hps];simp) (by rw[hns];simp) Qqb (by rw[hps];rfl) (by rw[hns];decide) (R4 (by simp only[Qzk,Qzj,QzB];omega) U w1 w2)];rw[Kp (r:=SF.getD k Qq1) (q:=11) Z (by rw[hps];simp) (by rw[hns];simp) Qqb (by rw[hps];rfl) (by rw[hns];decide) (R4 (by simp only[Qzk,Qzj,QzB];omega) U a b)];rw[Kp (r:=SF.getD k Qq1) (q:=17) Z (by rw[hps];simp) (by rw[hns];simp) Qqb (by rw[hps];rfl) (by rw[hns];decide) (V2 (by simp only[Qzk,Qzj,QzB];omega) U hx)];rw[Th (r:=SF.getD k Qq1) Z (by rw[hps];rfl)];simp
theorem Ys{p:Pc}(hp:QD p):∃n',wN (m+3) (W o n) (([3,4,5,6]:Qq4).getD (kx p.1) Qq1) (vb p)=some (W (o++KT p) n'):=by
 obtain⟨f,w,g,cs,x⟩:=p;obtain⟨s,t,b,c,d,h,l,r,i,a⟩:=hp;dsimp only at s t b c d h l r i a ⊢;have hdiv:=Nat.div_add_mod f.toNat 16;unfold vb KT cb;dsimp only;have hkx:kx f=f.toNat / 16:=Z
 by_cases j:kx f<2
 ·rw[if_pos j,if_pos j]
  rcases(by omega:kx f=0\/kx f=1)with e | e
  ·have l:=l U;rw[e]
   exact⟨_,X9 (k:=3) (q0:=7) (q1:=12) ho hn Qqb Z Z Z (Qs (k:=7) U U Qqb Z Z Z (show(0:Int)<=_ by omega) (show _<=(3:Int) by omega)) b c d h
    (V3 (k:=12) (q:=14) (by simp only[Qzk,Qzj,QzB];omega) U Qqb Z Z Qqb Z Z Z Z (show(1:Int)<=_ by omega) (show _<=(2:Int) by omega) U i) i U a⟩
  ·have r:=r U;rw[e]
   exact⟨_,X9 (k:=4) (q0:=8) (q1:=13) ho hn Qqb Z Z Z (Qs (k:=8) U U Qqb Z Z Z (show(16:Int)<=_ by omega) (show _<=(19:Int) by omega)) b c d h
    (V3 (k:=13) (q:=15) (by simp only[Qzk,Qzj,QzB];omega) U Qqb Z Z Qqb Z Z Z Z (show(1:Int)<=_ by omega) (show _<=(16:Int) by omega) U i) i U a⟩
 ·rw[if_neg j,if_neg j]
  rcases(by omega:kx f=2\/kx f=3)with e | e
  ·rw[e];exact⟨_,XA (k:=5) (q0:=9) ho hn Qqb Z Z Z (Qs (k:=9) U U Qqb Z Z Z (show(32:Int)<=_ by omega) (show _<=(35:Int) by omega)) b c d h a⟩
  ·rw[e];exact⟨_,XA (k:=6) (q0:=10) ho hn Qqb Z Z Z (Qs (k:=10) U U Qqb Z Z Z (show(48:Int)<=_ by omega) (show _<=(51:Int) by omega)) b c d h a⟩
end
theorem WQ{o:Qq3}{n m:Nat}(ho:o.length<=5000)(hn:n<=4990){p:Pc}(hp:QD p):∃n',wN (m+4) (W o n) 2 (NJ [Hm ((kx p.1:Nat):Int),vb p])=some (W (o++KT p) n'):=by
 obtain⟨n',h1⟩:=Ys (m:=m) (n:=n+2) ho U hp;have hk:kx p.1<=3:=hp.k;refine⟨n',?_⟩;rw[LQ,show(2:Int)=((2:Nat):Int)from Z,Yq (r:=SF.getD 2 Qq1) Qqb Z U Z Z (show kx p.1<4 by omega)];exact h1
theorem Yt{p:Pc}(hp:QD p):∃n',H4 (SF,[],0) 0 (vF p)=some (W (Kf p) n'):=by
 obtain⟨a,h1⟩:=WQ (m:=995) (o:=[82,65,83,49]) (n:=1) Qqb Qqb hp;have hq':wN 999 (W ([]++[82,65,83,49]) (0+1)) 2 (NJ [Hm ((kx p.1:Nat):Int),vb p])=some (W (Kf p) a):=h1;refine⟨a,?_⟩
 show wN (999+1) (W [] 0) ((0:Nat):Int) (vF p)=_
 unfold vF;rw[LQ,Tg (r:=SF.getD 0 Qq1) Qqb Z Qqb Z Z (Qq V) (Qr V)];rw[show(0:Int)=((0:Nat):Int)from Z,Yr (r:=SF.getD 0 Qq1) (q:=1) (b:=[82,65,83,49]) Z Qqb Qqb Qqb Z Z Qqb Z Qqb Qqb];rw[Kp (r:=SF.getD 0 Qq1) (q:=2) Z Qqb Qqb Qqb Z Qqb hq'];rw[Th (r:=SF.getD 0 Qq1) Z Qqb]
end Go.Proofs.YtnmkjjgmnbmmnaaGreatDoor
end
noncomputable section
namespace Go.L
def zz(a:Int):Nat:=if 0<=a then(2 * a).toNat else(-2 * a - 1).toNat
theorem Zj{a:Int}(h:BH a):zz a<18446744073709551616:=by unfold zz;unfold BH at h;split <;> omega
def NP:Nat->Nat->Qq3
 | 0,_=>[]
 | n+1,u=>if 128<=u then Qzv (u % 128+128)::NP n (u / 128)else[Qzv u]
def R5(u:Nat):Qq3:=NP 10 u
set_option maxRecDepth 20000 in
theorem Zk(u:Nat):u8 (u:Int) ||| 128=Qzv (u % 128+128):=by
 have h:∀b:Fin 256,(Qzv b.val ||| 128)=Qzv (b.val % 128+128):=by decide
 have:=h ⟨u % 256,Nat.mod_lt _ Qqb⟩;dsimp only at this;unfold u8;rw[show((u:Int) % 256).toNat=u % 256 by omega,this]
 congr 2
 omega
theorem V4{u:Nat}:u8 (u:Int)=Qzv u:=by
 unfold u8;rw[show((u:Int) % 256).toNat=u % 256 by omega];apply UInt8.toNat.inj;simp
end Go.L
namespace Go.Proofs.YtnmkjjgmnbmmnaaGreatDoor
open Go Go.L
theorem Sv:∀(n u:Nat) (L:Qq3),u<128 ^ n->L.length+n<=1000->n<=10->1<=n->Go.L.run Gd (L,(u:Int))=some (L++NP n u)
 | 0,_,_,_,_,_,h=>absurd h U
 | n+1,u,L,hu,hL,hn,_=>by
  unfold NP
  by_cases h:128<=u
  ·have h1:1<=n:=by
    rcases Nat.eq_zero_or_pos n with a | a
    ·subst a;simp at hu;omega
    ·exact a
   have e:Gd (L,(u:Int))=some (.inl (L++[Qzv (u % 128+128)],((u / 128:Nat):Int))):=by
    unfold Gd;dsimp only;rw[if_pos U,An (h:=(by unfold Go.E.Gx;simp;omega)),Zk]
    rfl
   rw[BK e,Sv n (u / 128) _ (Nat.div_lt_of_lt_mul (by rw[Nat.pow_succ,Nat.mul_comm]at hu;exact hu)) (by simp;omega) U h1,if_pos h];simp
  ·rw[if_neg h];refine BA (m:=some (L++[Qzv u])) ?_;unfold Gd L2;dsimp only;rw[if_neg U,An (h:=(by unfold Go.E.Gx;simp;omega)),V4]
theorem Yu{x:Int}:IntKind.u64.wrap x=x % 18446744073709551616:=by
 simp only[IntKind.wrap];simp[IntKind.bits,IntKind.signed]
theorem WS{k:Nat}(h:k<2 ^ 64):k ^^^ 18446744073709551615=18446744073709551615 - k:=by
 have h2:(BitVec.ofNat 64 k ^^^ BitVec.allOnes 64).toNat=(~~~ (BitVec.ofNat 64 k)).toNat:=by rw[BitVec.xor_allOnes]
 rw[BitVec.toNat_xor,BitVec.toNat_not,BitVec.toNat_ofNat,BitVec.toNat_allOnes,Nat.mod_eq_of_lt h]at h2;exact h2
theorem Up{a:Int}(h:BH a):GN a=some (R5 (zz a)):=by
 have hz:=Zj h;unfold BH at h;unfold GN;simp only[Yu];rw[An];unfold N2 R5
 have key:((((a % 18446744073709551616 * 2 % 18446744073709551616).toNat ^^^ (a / 9223372036854775808 % 18446744073709551616).toNat:Nat)):Int)=((zz a:Nat):Int):=by
  unfold zz
  by_cases b:0<=a
  ·rw[if_pos b,show a / 9223372036854775808 % 18446744073709551616=0 by omega];simp only[Int.toNat_zero,Nat.xor_zero];omega
  ·rw[if_neg b,show(a / 9223372036854775808 % 18446744073709551616).toNat=18446744073709551615 by omega,WS U];omega
 rw[key,Sv 10 (zz a) [] (Nat.lt_trans hz Qqb) Qqb Qqb Qqb]
 rfl
end Go.Proofs.YtnmkjjgmnbmmnaaGreatDoor
end
noncomputable section
namespace Go.Proofs.YtnmkjjgmnbmmnaaGreatDoor
open Go Go.E Go.RowKit Go.L
set_option maxHeartbeats 1000000
set_option maxRecDepth 10000
open _root_.Go.Proofs.Tryz
def IG(a b:Int)(c:Aae)(d:List Aae):Option (Pv):=
 some ((Pv.mk a b c d ([])))
def Ib(a0:Pv)(b c:Int)(d:Aae)(e:List Aae):Int->Option ((Int)⊕(Pv)):=fun a=>
 if a<(a0.f.2.2.2.2.length:Int)then Bb (0<=a/\a<(a0.f.2.2.2.2.length:Int)) none else Qzq Sum.inr ((IG b c d e))
def KU(a0:Pv)(a b:Int)(c:Aae)(d:List Aae)(s:Int):Option (Pv):=Go.L.run (Ib a0 a b c d) s
def IH(a0:Pv)(a b:Int)(c:Aae)(d:List Aae):Option (Pv):=
 (KU a0 a b c d) (0:Int)
def I4(_self:Pv->Option (Pv))(a0:Pv):Option (Pv):=
 Qq8 (Cl a0.f.2.2.1) (fun a=>Qq8 (Bx a0.f.2.2.2.1) (fun b=>(IH a0) a0.f.1 a0.f.2.1 a b))
def Kq(self:Pv->Option (Pv)):Prop:=∀(w:World) (H:PH) (hH:Le H (hp w)) {a0:Pv}{a:Value}{b:Value}{c:Value} (i:AL .byte H a (a0.f.2.2.1)) (j:AL .st H b (a0.f.2.2.2.1)) (k:AL .tree H c (a0.f.2.2.2.2)) {r:Pv} (h:self a0=some r),Ok prog 23 [.agg #[No a0.f.1,No a0.f.2.1,a,b,c]] w (fun v w'=>Ext w w'/\∃d e g,v=.agg #[No r.f.1,No r.f.2.1,d,e,g]/\AL .byte (un H (nw w w')) d (r.f.2.2.1)/\AL .st (un H (nw w w')) e (r.f.2.2.2.1)/\Cv 34 .tree H w w' g (r.f.2.2.2.2))
def Hz:Nat->Pv->Option (Pv)
 | 0=>fun _=>none
 | n+1=>I4 (Hz n)
def LR:Pv->Option (Pv):=Hz 1000
theorem NK(self:Pv->Option (Pv))(_hself:Kq self):Kq (I4 self):=by
 intro w H hH a0 ab ac z bi am bj r h;refine AG 33 [(0,.agg #[No a0.f.1,No a0.f.2.1,ab,ac,z])] func23 Z fun hL=>Aq<|Cj (t:=34) Z Z hL fun w1 b1 cr c7 _=>AZ B5.e Z cr fun w2 b2 cs c8 _=>Al<|Bm (Int×Int×Aae×(List Aae)×Nat×Value×Value) (fun⟨u,v,x,y,bjb35,l,m⟩=>[(1,(Aac b1)),(2,(Aac b2)),(3,(Aac bjb35))]) (fun⟨u,v,x,y,bjb35,l,m⟩ wr=>DE w [.box bjb35 [No u,No v,l,m,Aaa] 34,.box b2 [No 0,No 0,Aaa,Aaa,Aaa] 34,.box b1 [No a0.f.1,No a0.f.2.1,ab,ac,z] 34] wr fun Oz=>AL .byte (gz H w wr Oz) l x/\AL .st (gz H w wr Oz) m y/\(IH a0) u v x y=some r) ?_ ?_
 ·refine Nf (Qqz 0 6 (.q 7 (.q 8 (.h2 6 (.h2 9 (.q 10 (.h 11 (.tail 12))) 11 (.h 9 (.q 10 (.tail 12)))) 11 (.h 6 (.h 9 (.q 10 (.tail 12)))))))) mixed V (fun dh cj=>?_);have o:=cs.call cj;refine B9 Z (Af Z Aaz Z B4.e) Z<|B9 Z (Ae 1 Z o Z) Z<|B9 Z (Af Z Aaz Z B4.e) Z<|B9 Z (Ae 1 Z o Z) Z<|B9 Z (Af Z Aaz Z CC.e) Z<|B9 Z (Ae 1 Z o Z) Z<|B9 Z (Af Z Aaz Z Cx.e) Z<|B9 Z (Ae 1 Z o Z) Z<|U8 ?_ ?_
  ·refine Av h fun a5 an h=>IQ Z Z Z (fun ct ao=>Ep _ _ (Ao (o.call ao)) (bi.mono  Ai) an) ?_;rintro ct a6 di ao ap ⟨_,rfl,bk⟩;have aq:=o.call ao;have ad:=aq.call ap;have c1:=Bd aq ap;have a:=bk.Dj hH aq ap;refine U8 ?_ ?_
   ·refine Av h fun ai aa h=>IQ Z Z Z (fun cu ae=>Dm _ _ (Ao (ad.call ae)) (am.mono  Ai) aa) ?_;rintro cu b3 dj ae ar ⟨_,rfl,bl⟩;have au:=ad.call ae;have b4:=Bd ad ae;have a:=a.mono (Ac b4);have ck:=au.call ar;have b5:=Bd au ar;have c:=bl.Dj hH au ar;have a:=a.mono (Ac b5);refine B9 Z (B7 (fun _=>LY _ _ _ a.one _ c.one _)) Z<|N7 Z B5.e Z Z ck ?_;intro dk cv bm a7;have a:=a.mono (Ac a7);have c:=c.mono (Ac a7);refine B8 (fun dl bn=>?_);have cl:=bm.call bn;have a8:=Bd bm bn;have a:=a.mono (Ac a8);have c:=c.mono (Ac a8);refine A7 0 Z cl Z (h1:=(BP Z (BP Z (BP a.one (BP c.one (BT Z)))))) ?_;intro dm cm a9;have a:=a.mono (Ac a9);have c:=c.mono (Ac a9);refine AP<|AH (a0.f.1,a0.f.2.1,a5,ai,cv,a6,b3) ⟨cm,a,c,h⟩
   refine Av h fun ai aa h=>N7 Z B5.e Z Z ad ?_;intro dn cw av b6;have a:=a.mono (Ac b6);refine IQ Z Z Z (fun cx af=>Dm _ _ (Ao (av.call af)) (am.mono  Ai) aa) ?_;rintro cx b7 dp af aw ⟨_,rfl,bo⟩;have ax:=av.call af;have b8:=Bd av af;have a:=a.mono (Ac b8);have bp:=ax.call aw;have b9:=Bd ax aw;have e:=bo.Dj hH ax aw;have a:=a.mono (Ac b9);refine B9 Z (B7 (fun _=>LY _ _ _ a.one _ e.one _)) Z<|B8 (fun dq bq=>?_);have cn:=bp.call bq;have ba:=Bd bp bq;have a:=a.mono (Ac ba);have e:=e.mono (Ac ba);refine A7 0 Z cn Z (h1:=(BP Z (BP Z (BP a.one (BP e.one (BT Z)))))) ?_;intro dr co bb;have a:=a.mono (Ac bb);have e:=e.mono (Ac bb);refine AP<|AH (a0.f.1,a0.f.2.1,a5,ai,cw,a6,b7) ⟨co,a,e,h⟩
  refine Av h fun a5 an h=>Av h fun ai aa h=>N7 Z B5.e Z Z o fun ds cy br c2=>IQ Z Z Z (fun cz ay=>Ep _ _ (Ao (br.call ay)) (bi.mono  Ai) an) ?_;rintro cz ca dt ay az ⟨_,rfl,bs⟩;have a1:=br.call ay;have a2:=a1.call az;have c3:=Bd a1 az;have b:=bs.Dj hH a1 az;refine IQ Z Z Z (fun c0 ag=>Dm _ _ (Ao (a2.call ag)) (am.mono  Ai) aa) ?_;rintro c0 cb du ag a3 ⟨_,rfl,bt⟩;have a4:=a2.call ag;have cc:=Bd a2 ag;have b:=b.mono (Ac cc);have bu:=a4.call a3;have cd:=Bd a4 a3;have g:=bt.Dj hH a4 a3;have b:=b.mono (Ac cd);refine B9 Z (B7 (fun _=>LY _ _ _ b.one _ g.one _)) Z<|B8 (fun dv bv=>?_);have cp:=bu.call bv;have bc:=Bd bu bv;have b:=b.mono (Ac bc);have g:=g.mono (Ac bc);refine A7 0 Z cp Z (h1:=(BP Z (BP Z (BP b.one (BP g.one (BT Z)))))) ?_;intro dw cq bd;have b:=b.mono (Ac bd);have g:=g.mono (Ac bd);refine AP ?_
  refine AH (a0.f.1,a0.f.2.1,a5,ai,cy,ca,cb) ⟨cq,b,g,h⟩
 rintro⟨u,v,x,y,bjb35,l,m⟩ c9 ⟨bw,ce,cf,h⟩;refine Bm Unit (fun(_:Unit)=>[(2,(Aac b2)),(3,(Aac bjb35))]) (fun(_:Unit) wr=>DE w [.box bjb35 [No u,No v,l,m,Aaa] 34,.box b2 [No 0,No 0,Aaa,Aaa,Aaa] 34,.box b1 [No a0.f.1,No a0.f.2.1,ab,ac,z] 34] wr fun Oz=>AL .byte (gz H w wr Oz) l x/\AL .st (gz H w wr Oz) m y/\(IG u v x y)=some r) ?_ ?_
 ·refine Aq<|Ag (Af Z Aaz Z Ig.e)<|Ag (Ae 2 Z bw Z)<|Ag (AT bj)<|A1 1 Z<|A8 ?_;obtain⟨bx,h⟩:=Bc h;refine Bz (Int×Nat) (fun⟨d,n⟩=>[(2,(Aac b2)),(3,(Aac bjb35)),(18,z),(19,No (a0.f.2.2.2.2.length:Int)),(20,No d)]) (fun⟨d,n⟩ wr=>DE w [.box bjb35 [No u,No v,l,m,Aaa] 34,.box b2 [No 0,No 0,Aaa,Aaa,Aaa] 34,.box b1 [No a0.f.1,No a0.f.2.1,ab,ac,z] 34] wr fun Oz=>AL .byte (gz H w wr Oz) l x/\AL .st (gz H w wr Oz) m y/\FW (Ib a0 u v x y) n d=some r) (fun⟨d,n⟩=>n) (0,bx) Z ⟨bw,ce,cf,h⟩ ?_;rintro⟨d,nn104⟩ c4 ⟨ah,j,k,h⟩;obtain⟨bx,da,rfl,h,cg⟩:=Ba h;refine AI 1 Z<|AM<|AS h ?_ ?_<;>intro ch h
  ·refine A4<|A2<|AM<|A8<|Aq<|A3 h fun be h=>Bf bj d.toNat (CT be) (AD be) ?_;rintro db _ e108t0 bf;obtain⟨_,_,rfl,rfl,⟨_,_,rfl,rfl,⟨_,_,rfl,⟨e108v2,rfl,e108h2⟩,⟨_,_,rfl,⟨e108v3,rfl,e108h3⟩,⟨e108v4,rfl,e108h4⟩⟩⟩⟩⟩:=Go.E.Rp.Ex e108t0;have c5:=RH.mk e108t0 bf;refine Ag (Ce bf (hH.trans ah.arg))<|AZ B5.e Z ah ?_;intro dc dd ci aj _;have j:=j.mono (Ac aj);have k:=k.mono (Ac aj);refine A7 0 Z ci Z (h1:=(BP Z (BP Z (BP e108h2.one (BP e108h3.one (BP e108h4.one Mx)))))) ?_;intro de c6 ak;have j:=j.mono (Ac ak);have k:=k.mono (Ac ak);refine Al ?_
   cases h
  refine Bq<|AK<|AF ?_;have h:=BW.out h cg;refine Bj<|AH () ⟨ah,j,k,h⟩
 rintro _ df ⟨bz,p,s,h⟩;refine Aq<|Ag (Ax 0 Z B5.e bz Z)<|A7 1 Z bz Z (h1:=(BP Z (BP Z (BP p.one (BP s.one (BT Z)))))) ?_;intro dg bg al;have p:=p.mono (Ac al);have s:=s.mono (Ac al);refine Al<|Au ?_
 cases h
 refine DO (.cell Z Aaz Z B5.e (Bo (i:=1) bg Z)) ⟨bg.ext,_,_,_,Z,(p.mono (GQ hH)),(s.mono (GQ hH)),Cv.nil⟩
theorem OX(n:Nat):Kq (Hz n):=by
 induction n with
 | zero=>unfold Kq;intros;rename_i h;cases h
 | succ n ih=>exact NK (Hz n) ih
section
variable(w:World)(H:PH)(hH:Le H (hp w)) include hH
theorem Qt{a0:Pv}{a b c:Value}(d:AL .byte H a (a0.f.2.2.1))(e:AL .st H b (a0.f.2.2.2.1))(g:AL .tree H c (a0.f.2.2.2.2)){r:Pv}(h:LR a0=some r):Ok prog 23 [.agg #[No a0.f.1,No a0.f.2.1,a,b,c]] w (fun v w'=>Ext w w'/\∃i j k,v=.agg #[No r.f.1,No r.f.2.1,i,j,k]/\AL .byte (un H (nw w w')) i (r.f.2.2.1)/\AL .st (un H (nw w w')) j (r.f.2.2.2.1)/\Cv 34 .tree H w w' k (r.f.2.2.2.2)):=OX 1000 w H hH d e g h
def Mb(a:Option Pv):Option ((Option Pv)×Qq6):=
 some (a,(0,0))
def JG(a1:Qq4):(Option Pv)×Int->Option (((Option Pv)×Int)⊕((Option Pv)×Qq6)):=fun⟨b,a⟩=>
 if a<(a1.length:Int)then Bb (0<=a/\a<(a1.length:Int)) (if a1.getD a.toNat Qq1<0 then none else Bb (b.isSome=true) (if(((b.getD Qq1).f.2.2.2.2).length:Int)<=a1.getD a.toNat Qq1 then none else Bb (0<=a1.getD a.toNat Qq1/\a1.getD a.toNat Qq1<(((b.getD Qq1).f.2.2.2.2).length:Int)) (Bb (BH (a+1)) (some (Sum.inl ((some (((b.getD Qq1).f.2.2.2.2).getD ((a1.getD a.toNat Qq1).toNat) Qq1)),(a+1)))))))else Qzq Sum.inr (Mb b)
def Kr(a1:Qq4)(s:(Option Pv)×Int):Option ((Option Pv)×Qq6):=Go.L.run (JG a1) s
def Oi(a0:Option Pv)(a1:Qq4):Option ((Option Pv)×Qq6):=
 (Kr a1) (a0,0)
theorem QE{a0:Option Pv}{a1:Qq4}{m o:Value}(ab:RH .tree H m a0)(p:AL (.int .i64) H o a1){r:(Option Pv)×Qq6}(h:Oi a0 a1=some r):
  Qqv 22 [m,o] w (fun v w'=>∃u0,v=.tuple #[u0,.agg #[No r.2.1,No r.2.2]]/\RH .tree (un H (nw w w')) u0 (r.1)):=by
 refine AG 37 [(0,m),(1,o)] func22 Z fun hL=>B1 1 Z<|AZ BB.e Z hL fun w1 z ao aq _=>Al<|Bm ((Option Pv)×Value) (fun⟨j,e⟩=>[(0,e),(5,(Aac z))]) (fun⟨j,e⟩ wr=>DE w [.box z [No 0,No 0] 27] wr fun Oz=>RH .tree (gz H w wr Oz) e j/\Mb j=some r) ?_ ?_
 ·refine B1 1 Z<|Ag (AT p)<|A1 1 Z<|A8 ?_;obtain⟨q,h⟩:=Bc h;refine Bz ((Option Pv)×Int×Value×Nat) (fun⟨d,a,c,n⟩=>[(0,c),(5,(Aac z)),(8,o),(9,No (a1.length:Int)),(10,No a)]) (fun⟨d,a,c,n⟩ wr=>DE w [.box z [No 0,No 0] 27] wr fun Oz=>RH .tree (gz H w wr Oz) c d/\FW (JG a1) n (d,a)=some r) (fun⟨d,a,c,n⟩=>n) (a0,0,m,q) Z ⟨ao,(ab.mono  Ai),h⟩ ?_;rintro⟨d,a,c,nn67⟩ ar ⟨k,l,h⟩;obtain⟨q,av,rfl,h,s⟩:=Ba h;refine AI 1 Z<|AM<|AS h ?_ ?_<;>intro ac h
  ·refine A4<|A2<|AM<|A8<|B1 1 Z<|A3 h fun t h=>Bf p a.toNat (CT t) (AD t) ?_;rintro aw _ rfl ad;refine Ag (AX ad (hH.trans k.arg))<|A1 2 Z<|AM<|B1 3 Z<|AQ 17 h ?_ ?_<;>intro b h
   ·iterate 7 refine Ab b ?_
    refine Ag (Ak b Z)<|Al<|Fy ?_
    cases h
   refine Aa b<|Ag (Ad Z)<|Aa b<|Ag (Ad Z)<|Aa b<|A3 h fun ae h=>?_;obtain⟨ax,_,af,e76t0,u⟩:=l.get ae;obtain⟨_,_,rfl,rfl,⟨_,_,rfl,rfl,⟨_,_,rfl,⟨e76v2,rfl,e76h2⟩,⟨_,_,rfl,⟨e76v3,rfl,e76h3⟩,⟨e76v4,rfl,e76h4⟩⟩⟩⟩⟩:=Go.E.Rp.Ex e76t0;subst af;refine Ag (AV Z)<|Aa b<|Ag (Af Z Aaz Z Ig.e) ?_;have ag:=u.add 4;refine Aa b<|Ag (AX ag (Ao k))<|Aa b<|Ag (AT e76h4)<|Aa b<|Ag (Ad Z)<|Ag (Am b Z)<|Al<|AS h ?_ ?_<;>intro ah h
   ·cases h
   refine A4<|A2<|Az<|Ar 1 Z<|Ag (AV Z)<|Ag (Af Z Aaz Z Ig.e) ?_;have ai:=u.add 4;refine Ag (AX ai (Ao k))<|Ar 1 Z<|A3 h fun x h=>Bf e76h4 ((a1.getD a.toNat Qq1).toNat) (CT x) (AD x) ?_;rintro ap _ e83t0 aj;obtain⟨_,_,rfl,rfl,⟨_,_,rfl,rfl,⟨_,_,rfl,⟨e83v2,rfl,e83h2⟩,⟨_,_,rfl,⟨e83v3,rfl,e83h3⟩,⟨e83v4,rfl,e83h4⟩⟩⟩⟩⟩:=Go.E.Rp.Ex e83t0;have ak:=RH.mk e83t0 aj;refine Ar 1 Z<|AP<|A9<|A2<|Az<|A3 h fun al h=>Ag (AA al)<|Ar 1 Z<|AP ?_;have h:=BW.again h s;refine AN (_,_,_,_) ⟨k,ak,h⟩
  refine Bq<|AK<|AF ?_;have h:=BW.out h s;refine Bj<|AH (_,_) ⟨k,l,h⟩
 rintro⟨j,e⟩ au ⟨am,g,h⟩;refine B1 1 Z<|Ag (B7 (fun _=>Dx _))<|Ar 1 Z<|A7 0 Z am Z fun ay y aa=>Al<|Au ?_
 cases h
 refine IS (.tmp Z) (.cell Z Aaj Z BB.e (Bo (i:=0) y Z)) ?_;have g:=g.mono (Ac aa);exact⟨y.ext,_,Z,(g.mono (GQ hH))⟩
def K5(a0:Pv)(a1:Qq4):Option (Pv×Qq6):=
 Qq8 (Cn a0) (fun b=>if b.1=0/\b.2=0 then Qq8 (Oi (some a0) a1) (fun a=>if a.2.1=0/\a.2.2=0 then Bb (a.1.isSome=true) (Qq8 (LR (a.1.getD Qq1)) (fun c=>some (c,(0,0))))else none)else none)
theorem N5{a0:Pv}{a1:Qq4}{k l m o:Value}(u:AL .byte H k (a0.f.2.2.1))(y:AL .st H l (a0.f.2.2.2.1))(z:AL .tree H m (a0.f.2.2.2.2))(ai:AL (.int .i64) H o a1){r:Pv×Qq6}(h:K5 a0 a1=some r):
  Qqv 7 [.agg #[No a0.f.1,No a0.f.2.1,k,l,m],o] w (fun v w'=>∃u0 u1 u2,v=.tuple #[.agg #[No r.1.f.1,No r.1.f.2.1,u0,u1,u2],.agg #[No r.2.1,No r.2.2]]/\AL .byte (un H (nw w w')) u0 (r.1.f.2.2.1)/\AL .st (un H (nw w w')) u1 (r.1.f.2.2.2.1)/\AL .tree (un H (nw w w')) u2 (r.1.f.2.2.2.2)):=by
 refine AG 31 [(0,.agg #[No a0.f.1,No a0.f.2.1,k,l,m]),(1,o)] func7 Z fun hL=>Aq<|Cj (t:=34) Z Z hL fun w1 b1 a3 bh _=>AZ B5.e Z a3 fun w2 b2 a4 bi _=>AZ BB.e Z a4 fun w3 b3 aa bj _=>Al<|AM<|Aq<|Ag (Ax 2 Z B5.e aa Z)<|Av h fun x4 a5 h=>A6 aa (HJ _ _ (Ao aa) a0 (u.mono  Ai) (y.mono  Ai) (z.mono  Ai) a5) fun w5 bn a6 bk=>AZ BB.e Z a6 fun w6 b6 a7 bl _=>A7 0 Z a7 Z fun w7 ah bm=>Al<|Aq<|Ag (Ax 0 Z BB.e ah Z)<|Ag (B7 (fun _=>Dx _))<|Ag (MP Mq (OK _ _ _ _))<|Al<|DP h ?_ ?_<;>intro a8 h
 ·cases h
 refine A4<|A2<|B1 1 Z ?_;obtain⟨p,ba,aj⟩:=N9 (H:=H) 3 ah Z;have ak:=RH.mk (r:=.tree) (x:=a0) (Go.E.Rp.Fa ⟨_,_,Z,Z,⟨_,_,Z,Z,⟨_,_,Z,⟨_,Z,(u.mono  Ai)⟩,⟨_,_,Z,⟨_,Z,(y.mono  Ai)⟩,⟨_,Z,(z.mono  Ai)⟩⟩⟩⟩⟩) aj;refine Av h fun a9 al h=>Bv p (QE _ _ (Ao p) ak (ai.mono  Ai) al) ?_;rintro _ bo ⟨bb,rfl,ab⟩ am an bc;have e:=ab.mono (DN p am);refine Ar 3 Z<|AZ BB.e Z an fun bp bq ao af _=>Ar 1 Z<|A7 0 Z ao Z fun br a ag=>Al<|AM<|Aq<|Ag (Ax 0 Z BB.e a Z)<|Ag (B7 (fun _=>Dx _))<|Ag (MP Mq (OK _ _ _ _))<|Al<|DP h ?_ ?_<;>intro ap h
 ·cases h
 refine A4<|A2<|B1 1 Z<|A3 h fun aq h=>?_;have e:=e.mono (Ac (af.trans ag));obtain⟨bs,_,ar,e19t0,au⟩:=e.get aq;obtain⟨_,_,rfl,rfl,⟨_,_,rfl,rfl,⟨_,_,rfl,⟨e19v2,rfl,e19h2⟩,⟨_,_,rfl,⟨e19v3,rfl,e19h3⟩,⟨e19v4,rfl,e19h4⟩⟩⟩⟩⟩:=Go.E.Rp.Ex e19t0;subst ar;refine Ag (AV Z)<|Ag (Ce au (Ao a))<|Av h fun bt av h=>Bv a (Qt (a0:=(a9.1.getD Qq1)) _ _ (Ao a) e19h2 e19h3 e19h4 av) ?_;rintro _ bu ⟨bd,be,bf,rfl,ac,ad,ae⟩ q aw bg;have b:=ac.mono (DN a q);have c:=ad.mono (DN a q);have d:=ae.Dj hH a q;refine Ag (B7 (fun _=>Dx _))<|A7 3 Z aw Z (h1:=(BP Z (BP Z (BP b.one (BP c.one (BP d.one Mx)))))) fun bv ax g=>A7 2 Z ax Z fun bw s j=>Al<|Au ?_
 cases h
 refine IS (.cell Z Aaz Z B5.e (Bo (i:=3) s Z)) (.cell Z Aaj Z BB.e (Bo (i:=2) s Z)) ?_;have b:=b.mono (Ac (g.trans j));have c:=c.mono (Ac (g.trans j));have d:=d.mono (Ac (g.trans j));exact⟨s.ext,_,_,_,Z,(b.mono (GQ hH)),(c.mono (GQ hH)),(d.mono (GQ hH))⟩
end
end Go.Proofs.YtnmkjjgmnbmmnaaGreatDoor
end
noncomputable section
namespace Go.L
theorem vl1{u:Nat}(h:u<128):(R5 u).length<=1:=by
 unfold R5;rw[NP,if_neg U];exact Qzx _
theorem vl2{u:Nat}(h:u<16384):(R5 u).length<=2:=by
 unfold R5;rw[NP]
 split
 ·rw[NP,if_neg U];exact Qzx _
 ·exact Nat.le_succ _
theorem vl3{u:Nat}(h:u<2097152):(R5 u).length<=3:=by
 unfold R5;rw[NP]
 split
 ·rw[NP]
  split
  ·rw[NP,if_neg U];exact Qzx _
  ·exact Nat.le_succ _
 ·exact Nat.le_add_left 1 2
end Go.L
namespace Go.Proofs.YtnmkjjgmnbmmnaaGreatDoor
open Go Go.E Go.RowKit Go.L
theorem Qu{m:Nat}{k n:Int}{b:Qq3}{ns:Qq7}(h1:b.length<=1000000)(h2:ns.length<=1000000):Hz (m+1) (.mk k n b ns [])=some (.mk k n b ns []):=by
 show I4 (Hz m) (.mk k n b ns [])=_
 unfold I4 IH Bx;have a:(Pv.mk k n b ns []).f.2.2.1=b:=Z;have c:(Pv.mk k n b ns []).f.2.2.2.1=ns:=Z;have d:(Pv.mk k n b ns []).f.2.2.2.2=[]:=Z;rw[a,TC h1,Qq9,c,An (h:=(by unfold Gx;simp only[QzB];omega)),Qq9,List.nil_append];unfold KU;refine BA (m:=some (Pv.mk k n b ns [])) ?_;unfold Ib IG;rw[d,if_neg Qqc]
 rfl
theorem Yv{l:Qq4}(v:Pv)(hl:l.length<1000000:=by decide):BQ l v=some (decide (v.f.1∈l)):=by
 unfold BQ;rw[contains_eq _ hl]
 rfl
theorem XB{v:Pv}(hn:v.f.2.2.2.1=[])(hp:v.f.2.2.2.2.length<=600):BI v false=some 0:=by
 have h2:Fw []=some false:=(inferInstance:Mi (Fw [])).h _ V;unfold BI Hh;rw[if_neg Qqc,if_neg U,hn,h2,Qq9,if_neg Qqc];refine BA (m:=some 0) ?_;unfold Fj FD;rw[hn,if_neg Qqc]
theorem Zl{v:Pv}(hk:v.f.1≠4)(a:v.f.1=3\/v.f.2.2.2.2=[])(hn:v.f.2.2.2.1=[])(hp:v.f.2.2.2.2.length<=600):D2 v false=some 0:=by
 unfold D2;rw[if_neg Qqc];have c:BQ [4] v=some false:=by rw[Yv _];simp[hk]
 by_cases b:0<(v.f.2.2.2.2.length:Int)
 ·have a:v.f.1=3:=a.resolve_right (fun e=>by rw[e]at b;simp at b);rw[if_pos b,Yv _,Qq9,if_neg (by simp[a]),c,Qq9,if_neg Qqc];exact XB hn hp
 ·rw[if_neg b,c,Qq9,if_neg Qqc];exact XB hn hp
theorem V5{v:Pv}(hk:v.f.1≠4)(a:v.f.1=3\/v.f.2.2.2.2=[])(hn:v.f.2.2.2.1=[])(hp:v.f.2.2.2.2.length<=600):Cs v false=some 0:=by
 unfold Cs;rw[if_neg Qqc,hn,if_neg Qqc];exact Zl hk a hn hp
theorem Yw(n:Int):B0 (Hm n)=some 0:=by
 unfold B0 CS;have a:(Hm n).f.1=1:=Z;have d:(Hm n).f.2.1=n:=Z;have b:(Hm n).f.2.2.1=[]:=Z;have c:Cs (Hm n) false=some 0:=V5 (by rw[a];decide) (.inr Z) Z (show(0:Nat)<=600 by omega);rw[Yv _,Qq9,if_neg (by rw[a];decide),d]
 by_cases h:n=0
 ·rw[if_pos h,if_neg Qqc,b,if_neg Qqc,c]
 ·rw[if_neg h,Yv _,Qq9,a,if_neg Qqb,b,if_neg Qqc];exact c
theorem Yx(b:Qq3):B0 (Jy b)=some 0:=by
 unfold B0 CS;have a:(Jy b).f.1=2:=Z;have d:(Jy b).f.2.1=0:=Z;have e:(Jy b).f.2.2.1=b:=Z;have c:Cs (Jy b) false=some 0:=V5 (by rw[a];decide) (.inr Z) Z (show(0:Nat)<=600 by omega);rw[Yv _,Qq9,if_neg (by rw[a];decide),d,if_pos Z,if_neg Qqc,e]
 by_cases h:0<(b.length:Int)
 ·rw[if_pos h,Yv _,Qq9,a];exact c
 ·rw[if_neg h];exact c
theorem V6{l:List Pv}(hl:l.length<=600):B0 (NJ l)=some 0:=by
 unfold B0 CS;have a:(NJ l).f.1=3:=Z;have b:(NJ l).f.2.1=0:=Z;have c:(NJ l).f.2.2.1=[]:=Z;have d:Cs (NJ l) false=some 0:=V5 (by rw[a];decide) (.inl Z) Z hl;rw[Yv _,Qq9,if_neg (by rw[a];decide),b,if_pos Z,if_neg Qqc,c,if_neg Qqc];exact d
def nd:Nat->Pv->Nat
 | 0,_=>0
 | d+1,v=>1+(v.f.2.2.2.2.map (nd d)).sum
def Cd:Nat->Pv->Prop
 | 0,_=>False
 | d+1,v=>B0 v=some 0/\v.f.2.2.2.2.length<=600/\∀p∈v.f.2.2.2.2,Cd d p
theorem V7(f:Pv->Nat)(l:List Pv)(j:Nat):((l.take j).map f).sum<=(l.map f).sum:=by
 conv=>rhs;rw[<- List.take_append_drop j l,List.map_append,List.sum_append]
 omega
theorem R6:∀(d m:Nat) (v:Pv) (a lv:Int),d<=m->Cd d v->0<=a->a+(nd d v:Int)<=600->0<=lv->lv+d<=11->Gq m v a lv=some (a+(nd d v:Int),(0,0))
 | 0,_,_,_,_,_,h,_,_,_,_=>h.elim
 | d+1,0,_,_,_,h,_,_,_,_,_=>by omega
 | d+1,m+1,v,a,lv,hm,⟨h1,h2,h3⟩,ha,hs,hlv,i=>by
  show I3 (Gq m) v a lv=_
  unfold nd at hs ⊢;unfold I3;rw[if_neg U,h1,Qq9,if_pos Z,An (h:=(by unfold BH;omega))];have key:=JP (EM v lv (Gq m)) (fun j=>(a+1+(((v.f.2.2.2.2.take j).map (nd d)).sum:Nat),(j:Int))) v.f.2.2.2.2.length (some (a+1+((v.f.2.2.2.2.map (nd d)).sum:Nat),(0,0))) (fun j hj=>?_) ?_ 0 (Qzb _)
  ·have g:a+1+(((v.f.2.2.2.2.take 0).map (nd d)).sum:Nat)=a+1:=by simp
   rw[g]at key;have e:a+((1+(v.f.2.2.2.2.map (nd d)).sum:Nat):Int)=a+1+((v.f.2.2.2.2.map (nd d)).sum:Nat):=by omega
   rw[e];exact key
  ·have c:=V7 (nd d) v.f.2.2.2.2 (j+1);rw[List.take_succ_eq_append_getElem hj,List.map_append,List.sum_append]at c ⊢;simp only[Qxy,List.map_nil,List.sum_cons,List.sum_nil,Nat.add_zero]at c ⊢;have hp:=R6 d m v.f.2.2.2.2[j] (a+1+(((v.f.2.2.2.2.take j).map (nd d)).sum:Nat)) (lv+1) U (h3 _ (Qxa hj)) U U U U;unfold EM;dsimp only;rw[if_pos U,An,An (h:=(by unfold BH;omega)),show((j:Nat):Int).toNat=j from Z,<- Qz6 (h:=hj) Qq1,hp,Qq9,if_pos ⟨Z,Z⟩,An (h:=(by unfold BH;omega))];refine congrArg some (congrArg Sum.inl (Prod.ext ?_ Z));dsimp only;omega
  ·unfold EM ID;dsimp only;rw[if_neg U,List.take_length]
def nz(n:Int):Nat:=if n<64 then 1 else if n<8192 then 2 else 3
def ed:Nat->Pv->Nat
 | 0,_=>0
 | d+1,v=>if v.f.1=1 then 1+nz v.f.2.1 else if v.f.1=2 then 4+v.f.2.2.1.length else 3+((v.f.2.2.2.2.map (ed d)).sum+(if v.f.1=4 then(v.f.2.2.2.1.map fun s=>1+s.length).sum else 0))
def Ed:Nat->Pv->Prop
 | 0,_=>False
 | d+1,v=>(v.f.1=1/\0<=v.f.2.1/\v.f.2.1<65536)\/(v.f.1=2/\v.f.2.2.1.length<=20000)\/((v.f.1=3\/v.f.1=4/\v.f.2.2.2.1.length=v.f.2.2.2.2.length/\∀s∈v.f.2.2.2.1,s.length<=60)/\v.f.2.2.2.2.length<=600/\∀p∈v.f.2.2.2.2,Ed d p)
theorem O7(n:Int):nz n<=3:=by
 unfold nz
 split
 ·omega
 split <;> omega
theorem Yy{n:Int}(h:n<8192):nz n<=2:=by
 unfold nz
 split
 ·omega
 ·exact Qzx _
theorem QZ{n:Int}(a:0<=n)(h1:n<65536):∃b,GN n=some b/\b.length<=nz n:=by
 refine⟨R5 (zz n),Up (by unfold BH;omega),?_⟩;have e:zz n=(2 * n).toNat:=by unfold zz;rw[if_pos a]
 rw[e];unfold nz
 split
 ·exact vl1 U
 ·split
  ·exact vl2 U
  ·exact vl3 U
theorem XC{b:Qq3}(h:b.length<=20000):∃e,L3 b=some e/\e.length<=nz b.length+b.length:=by
 obtain⟨x,h1,h2⟩:=QZ (n:=(b.length:Int)) U U;refine⟨x++b,?_,by rw[Qzk];omega⟩;unfold L3;have:=O7 (b.length:Int);rw[h1,Qq9,An (h:=(by unfold Gx;omega))]
theorem Ra{α:Type}(f:α->Nat){l:List α}{j:Nat}(h:j<l.length):((l.drop j).map f).sum=f l[j]+((l.drop (j+1)).map f).sum:=by
 rw[Qz1 h,Qxy,List.sum_cons]
theorem Qw{m d:Nat}{v:Pv}(hk:v.f.1=3\/v.f.1=4/\v.f.2.2.2.1.length=v.f.2.2.2.2.length/\∀s∈v.f.2.2.2.1,s.length<=60)(hl:v.f.2.2.2.2.length<=600)
  (hp:∀p∈v.f.2.2.2.2,∃e,Dv m p=some e/\e.length<=ed d p):∀(n j:Nat) (L:Qq3),j+n=v.f.2.2.2.2.length->L.length+(((v.f.2.2.2.2.drop j).map (ed d)).sum+(if v.f.1=4 then((v.f.2.2.2.1.drop j).map fun s=>1+s.length).sum else 0))<=1000000->
  ∃e,EO v (Dv m) (L,(j:Int))=some e/\e.length<=L.length+(((v.f.2.2.2.2.drop j).map (ed d)).sum+(if v.f.1=4 then((v.f.2.2.2.1.drop j).map fun s=>1+s.length).sum else 0))
 | 0,j,L,h,_=>by
  refine⟨L,?_,by omega⟩;unfold EO;refine BA (m:=some L) ?_;unfold Ev HW;dsimp only;rw[if_neg U]
 | n+1,j,L,h,hL=>by
  have hlt:j<v.f.2.2.2.2.length:=by omega
  obtain⟨x,h1,h2⟩:=hp _ (Qxa hlt);rw[Ra (ed d) hlt]at hL ⊢
  rcases hk with h3 | ⟨h3,l,k⟩
  ·have g : ¬v.f.1=4:=by omega
   rw[if_neg g]at hL ⊢;obtain⟨e,c,i⟩:=Qw (.inl h3) hl hp n (j+1) (L++x) U (by rw[if_neg g,Qzk];omega);rw[if_neg g,Qzk]at i;refine⟨e,?_,by omega⟩;unfold EO at c ⊢;rw[BK (s':=(L++x,((j+1:Nat):Int))) ?_,c];unfold Ev EN;dsimp only;rw[if_pos U,An,if_neg g,show((j:Nat):Int).toNat=j from Z,<- Qz6 (h:=hlt) Qq1,h1,Qq9,An (h:=(by unfold Gx;omega)),An (h:=(by unfold BH;omega))]
   rfl
  ·have a:j<v.f.2.2.2.1.length:=by omega
   have o:=k _ (Qxa a);obtain⟨y,y1,y2⟩:=XC (b:=v.f.2.2.2.1[j]) U;have y3:nz (v.f.2.2.2.1[j].length:Int)=1:=by unfold nz;rw[if_pos U]
   rw[if_pos h3,Ra _ a]at hL ⊢;obtain⟨e,c,i⟩:=Qw (.inr ⟨h3,l,k⟩) hl hp n (j+1) (L++y++x) U (by rw[if_pos h3,Qzk,Qzk];omega);rw[if_pos h3,Qzk,Qzk]at i;refine⟨e,?_,by omega⟩;unfold EO at c ⊢;rw[BK (s':=(L++y++x,((j+1:Nat):Int))) ?_,c];unfold Ev EN;dsimp only;rw[if_pos U,An,if_pos h3,show((j:Nat):Int).toNat=j from Z,An,<- Qz6 (h:=a) Qq1,An,y1,Qq9,An (h:=(by unfold Gx;omega)),<- Qz6 (h:=hlt) Qq1,h1,Qq9,An (h:=(by unfold Gx;rw[Qzk];omega)),An (h:=(by unfold BH;omega))]
   rfl
theorem TG(f:Pv->Nat):∀{l:List Pv}{p:Pv},p∈l->f p<=(l.map f).sum
 | q::l,p,h=>by
  rw[Qxy,List.sum_cons]
  rcases QzJ.1 h with rfl | h
  ·omega
  ·have:=TG f h;omega
theorem R7:∀(d m:Nat) (v:Pv),d<=m->Ed d v->ed d v<=100000->∃e,Dv m v=some e/\e.length<=ed d v
 | 0,_,_,_,h,_=>h.elim
 | d+1,0,_,h,_,_=>by omega
 | d+1,m+1,v,hm,h,hs=>by
  have hen:∀x,Dv (m+1) x=EW (Dv m) x:=fun _=>Z;unfold Ed at h;unfold ed at hs ⊢
  rcases h with ⟨h1,h2,h3⟩ | ⟨h1,h2⟩ | ⟨h1,h2,h3⟩
  ·rw[if_pos h1];obtain⟨x,b,c⟩:=QZ (n:=v.f.1) U U;obtain⟨y,y1,y2⟩:=QZ h2 h3;have g:nz v.f.1=1:=by unfold nz;rw[if_pos U]
   have:=O7 v.f.2.1;refine⟨x++y,?_,by rw[Qzk];omega⟩;rw[hen];unfold EW;rw[b,Qq9,if_pos h1,y1,Qq9,An (h:=(by unfold Gx;omega))]
  ·rw[if_neg U,if_pos h1];obtain⟨x,b,c⟩:=QZ (n:=v.f.1) U U;obtain⟨y,y1,y2⟩:=XC h2;have g:nz v.f.1=1:=by unfold nz;rw[if_pos U]
   have y3:=O7 (v.f.2.2.1.length:Int);refine⟨x++y,?_,by rw[Qzk];omega⟩;rw[hen];unfold EW;rw[b,Qq9,if_neg U,if_pos h1,y1,Qq9,An (h:=(by unfold Gx;omega))]
  ·have a : ¬v.f.1=1/\¬v.f.1=2:=by rcases h1 with h1 | ⟨h1,_⟩ <;> omega
   rw[if_neg a.1,if_neg a.2]at hs ⊢;obtain⟨x,b,c⟩:=QZ (n:=v.f.1) (by rcases h1 with h1 | ⟨h1,_⟩ <;> omega) (by rcases h1 with h1 | ⟨h1,_⟩ <;> omega);have g:nz v.f.1=1:=by unfold nz;rw[if_pos (by rcases h1 with h1 | ⟨h1,_⟩ <;> omega)]
   obtain⟨y,y1,y2⟩:=QZ (n:=(v.f.2.2.2.2.length:Int)) U U;have y3:nz (v.f.2.2.2.2.length:Int)<=2:=Yy U;have hsum:∀p∈v.f.2.2.2.2,ed d p<=(v.f.2.2.2.2.map (ed d)).sum:=fun p hp=>TG (ed d) hp;have hp:∀p∈v.f.2.2.2.2,∃e,Dv m p=some e/\e.length<=ed d p:=fun p hp=>R7 d m p U (h3 p hp) (by have:=hsum p hp;omega);obtain⟨e,i,j⟩:=Qw h1 h2 hp v.f.2.2.2.2.length 0 (x++y) U (by simp only[List.drop_zero,Qzk];omega);simp only[List.drop_zero,Qzk]at j;refine⟨e,?_,by omega⟩;rw[hen];unfold EW;rw[b,Qq9,if_neg a.1,if_neg a.2,y1,Qq9,An (h:=(by unfold Gx;omega))];exact i
theorem Sw{v:Pv}{d:Nat}(hd:d<=10)(hc:Cd d v)(hn:nd d v<=600)(he:Ed d v)(hs:ed d v<=4000):Cn v=some (0,0):=by
 have h1:LO v 0 1=some (0+(nd d v:Int),(0,0)):=R6 d 1000 v 0 1 U hc U U U U;obtain⟨e,h2,h3⟩:=R7 d 1000 v U he U;have h2:Lc v=some e:=h2;unfold Cn Ld;rw[h1,Qq9,if_pos ⟨Z,Z⟩,h2,Qq9,if_neg U]
 rfl
theorem R8{v:Pv}{d:Nat}(hd:d<=10)(hc:Cd d v)(hn:nd d v<=600)(he:Ed d v)(hs:ed d v<=100000):∃f,Cn v=some f:=by
 have h1:LO v 0 1=some (0+(nd d v:Int),(0,0)):=R6 d 1000 v 0 1 U hc U U U U;obtain⟨e,h2,h3⟩:=R7 d 1000 v U he U;have h2:Lc v=some e:=h2;unfold Cn Ld;rw[h1,Qq9,if_pos ⟨Z,Z⟩,h2,Qq9]
 split
 ·exact⟨_,Z⟩
 ·exact⟨_,Z⟩
end Go.Proofs.YtnmkjjgmnbmmnaaGreatDoor
end
noncomputable section
namespace Go.Proofs.YtnmkjjgmnbmmnaaGreatDoor
open Go Go.E Go.RowKit Go.L
theorem WT(x:Pv):B0 (Om [TB] [x])=some 0:=(inferInstance:Mi (B0 (Om [TB] [x]))).h _ V
theorem Yz(x y z u v:Pv):B0 (Om [GG,E2,Dp,Ko,Ju] [x,y,z,u,v])=some 0:=(inferInstance:Mi (B0 (Om [GG,E2,Dp,Ko,Ju] [x,y,z,u,v]))).h _ V
theorem Y0(x y z v:Pv):B0 (Om [GG,E2,Dp,Ju] [x,y,z,v])=some 0:=(inferInstance:Mi (B0 (Om [GG,E2,Dp,Ju] [x,y,z,v]))).h _ V
theorem Y1(x y z:Pv):B0 (Om [E2,Dp,NB] [x,y,z])=some 0:=(inferInstance:Mi (B0 (Om [E2,Dp,NB] [x,y,z]))).h _ V
theorem MG{d:Nat}(n:Int):Cd (d+1) (Hm n):=⟨Yw n,Qzb _,fun p hp=>by cases hp⟩
theorem R9{d:Nat}(b:Qq3):Cd (d+1) (Jy b):=⟨Yx b,Qzb _,fun p hp=>by cases hp⟩
theorem MH{d:Nat}{n:Int}(a:0<=n)(h1:n<65536):Ed (d+1) (Hm n):=.inl ⟨Z,a,h1⟩
theorem RA{d:Nat}{b:Qq3}(h:b.length<=20000):Ed (d+1) (Jy b):=.inr (.inl ⟨Z,h⟩)
theorem RB{d:Nat}{ns:Qq7}{l:List Pv}(h1:ns.length=l.length)(h2:∀s∈ns,s.length<=60)(h3:l.length<=600)(a:∀p∈l,Ed d p):Ed (d+1) (Om ns l):=.inr (.inr ⟨.inr ⟨Z,h1,h2⟩,h3,a⟩)
theorem V8{d:Nat}{l:List Pv}(h3:l.length<=600)(a:∀p∈l,Ed d p):Ed (d+1) (NJ l):=.inr (.inr ⟨.inl Z,h3,a⟩)
theorem WU{d:Nat}{cs:Qq7}(h:cs.length<=600):Cd (d+2) (NJ (cs.map Jy)):=by
 refine⟨V6 (by rw[Qzf];exact h),show(cs.map Jy).length<=600 by rw[Qzf];exact h,fun p hp=>?_⟩;obtain⟨c,_,rfl⟩:=List.mem_map.1 (show p∈cs.map Jy from hp);exact R9 c
theorem WV{d:Nat}{cs:Qq7}(h:cs.length<=600)(hc:∀c∈cs,c.length=3):Ed (d+2) (NJ (cs.map Jy)):=by
 refine V8 (by rw[Qzf];exact h) fun p hp=>?_;obtain⟨c,h,rfl⟩:=List.mem_map.1 hp;have:=hc c h;exact RA U
theorem Qx{d:Nat}:∀{cs:Qq7},(∀c∈cs,c.length=3)->((cs.map Jy).map (nd (d+1))).sum=cs.length/\((cs.map Jy).map (ed (d+1))).sum=7 * cs.length
 | [],_=>⟨Z,Z⟩
 | c::cs,h=>by
  obtain⟨h1,h2⟩:=Qx (d:=d) (cs:=cs) fun c' q=>h c' (List.mem_cons_of_mem _ q);have h3:=h c (List.mem_cons_self ..);have a:nd (d+1) (Jy c)=1:=Z;have b:ed (d+1) (Jy c)=4+c.length:=Z;simp only[Qxy,List.sum_cons,h1,h2,a,b,Qzj];omega
theorem P9{p:Pc}(hp:QD p)(h:kx p.1<2):p.2.2.2.1.length<=16:=by
 have h:p.1.toNat / 16<2:=h
 rcases(by omega:p.1.toNat / 16=0\/p.1.toNat / 16=1)with e | e
 ·have:=hp.c0 e;omega
 ·have:=hp.c1 e;omega
theorem Zm{p:Pc}(hp:QD p):Cd 3 (vb p):=by
 unfold vb
 split
 ·rename_i h;have hl:=P9 hp h;refine⟨Yz _ _ _ _ _,show(5:Nat)<=600 by omega,fun q hq=>?_⟩;have hq:q∈[_,_,_,_,_]:=hq;simp only[QzJ,Qz5,or_false]at hq
  rcases hq with rfl | rfl | rfl | rfl | rfl
  ·exact MG _
  ·exact MG _
  ·exact MG _
  ·exact WU U
  ·exact R9 _
 ·refine⟨Y0 _ _ _ _,show(4:Nat)<=600 by omega,fun q hq=>?_⟩;have hq:q∈[_,_,_,_]:=hq;simp only[QzJ,Qz5,or_false]at hq
  rcases hq with rfl | rfl | rfl | rfl
  ·exact MG _
  ·exact MG _
  ·exact MG _
  ·exact R9 _
theorem Zn{p:Pc}(hp:QD p):Cd 5 (vF p):=by
 refine⟨WT _,show(1:Nat)<=600 by omega,fun q hq=>?_⟩;have hq:q∈[_]:=hq;simp only[QzJ,Qz5,or_false]at hq;subst hq;refine⟨V6 Qqc,show(2:Nat)<=600 by omega,fun q hq=>?_⟩;have hq:q∈[_,_]:=hq;simp only[QzJ,Qz5,or_false]at hq
 rcases hq with rfl | rfl
 ·exact MG _
 ·exact Zm hp
theorem Zo{p:Pc}(hp:QD p):Ed 3 (vb p):=by
 have hr:=hp.r;have a1:=p.1.toNat_lt;have a2:=p.2.1.toNat_lt;have a3:=p.2.2.1.toNat_lt;unfold vb
 split
 ·rename_i h;have hl:=P9 hp h;refine RB Z Qqb Qqc fun q hq=>?_;simp only[QzJ,Qz5,or_false]at hq
  rcases hq with rfl | rfl | rfl | rfl | rfl
  ·exact MH U U
  ·exact MH U U
  ·exact MH U U
  ·exact WV U hp.c3
  ·exact RA U
 ·refine RB Z Qqb Qqc fun q hq=>?_;simp only[QzJ,Qz5,or_false]at hq
  rcases hq with rfl | rfl | rfl | rfl
  ·exact MH U U
  ·exact MH U U
  ·exact MH U U
  ·exact RA U
theorem Zp{p:Pc}(hp:QD p):Ed 5 (vF p):=by
 have hk:kx p.1<=3:=hp.k;refine RB Z Qqb Qqc fun q hq=>?_;simp only[QzJ,Qz5,or_false]at hq;subst hq;refine V8 Qqc fun q hq=>?_;simp only[QzJ,Qz5,or_false]at hq
 rcases hq with rfl | rfl
 ·exact MH U U
 ·exact Zo hp
theorem Zq{p:Pc}(hp:QD p):nd 3 (vb p)<=30:=by
 unfold vb
 split
 ·rename_i h;have hl:=P9 hp h;obtain⟨h1,_⟩:=Qx (d:=0) hp.c3;have e:nd 3 (Om [GG,E2,Dp,Ko,Ju] [Hm p.1.toNat,Hm p.2.1.toNat,Hm p.2.2.1.toNat,NJ (p.2.2.2.1.map Jy),Jy p.2.2.2.2])=1+(1+(1+(1+((1+((p.2.2.2.1.map Jy).map (nd (0+1))).sum)+(1+0))))):=Z;rw[e,h1];omega
 ·have e:nd 3 (Om [GG,E2,Dp,Ju] [Hm p.1.toNat,Hm p.2.1.toNat,Hm p.2.2.1.toNat,Jy p.2.2.2.2])=5:=Z;rw[e];omega
theorem Zs{p:Pc}(hp:QD p):ed 3 (vb p)<=1300:=by
 have hr:=hp.r;have a:=O7 (p.1.toNat:Int);have b:=O7 (p.2.1.toNat:Int);have c:=O7 (p.2.2.1.toNat:Int);unfold vb
 split
 ·rename_i h;have hl:=P9 hp h;obtain⟨_,h1⟩:=Qx (d:=0) hp.c3;have e:ed 3 (Om [GG,E2,Dp,Ko,Ju] [Hm p.1.toNat,Hm p.2.1.toNat,Hm p.2.2.1.toNat,NJ (p.2.2.2.1.map Jy),Jy p.2.2.2.2])=3+(((1+nz (p.1.toNat:Int))+((1+nz (p.2.1.toNat:Int))+((1+nz (p.2.2.1.toNat:Int))+((3+(((p.2.2.2.1.map Jy).map (ed (0+1))).sum+0))+((4+p.2.2.2.2.length)+0)))))+31):=Z;rw[e,h1];omega
 ·have e:ed 3 (Om [GG,E2,Dp,Ju] [Hm p.1.toNat,Hm p.2.1.toNat,Hm p.2.2.1.toNat,Jy p.2.2.2.2])=3+(((1+nz (p.1.toNat:Int))+((1+nz (p.2.1.toNat:Int))+((1+nz (p.2.2.1.toNat:Int))+((4+p.2.2.2.2.length)+0))))+24):=Z;rw[e];omega
theorem LS{p:Pc}(hp:QD p):Cn (vF p)=some (0,0):=by
 have c:=Zq hp;have e:=Zs hp;have f:=O7 ((kx p.1:Nat):Int);have a:nd 5 (vF p)=1+((1+(1+(nd 3 (vb p)+0)))+0):=Z;have b:ed 5 (vF p)=3+((3+(((1+nz ((kx p.1:Nat):Int))+(ed 3 (vb p)+0))+0))+0+5):=Z;exact Sw (d:=5) Qqb (Zn hp) (by rw[a];omega) (Zp hp) (by rw[b];omega)
def V9:Pv->Qq4->Option Pv
 | v,[]=>some v
 | v,k::p=>if 0<=k/\k<(v.f.2.2.2.2.length:Int)then V9 (v.f.2.2.2.2.getD k.toNat Qq1) p else none
theorem egd(v:Pv):(some v).getD Qq1=v:=Z
theorem Sx{path:Qq4}(hl:path.length<=1000):∀(d:Qq4) (j:Nat) (v w:Pv),path.drop j=d->j<=path.length->V9 v d=some w->Kr path (some v,(j:Int))=some (some w,(0,0))
 | [],j,v,w,hd,hj,h=>by
  have a:path.length<=j:=by
   rcases QzX j path.length with q | q
   ·rw[Qz1 q]at hd;cases hd
   ·exact q
  obtain rfl:=Option.some.inj h;unfold Kr;refine BA (m:=some (some v,(0,0))) ?_;unfold JG Mb;dsimp only;rw[if_neg U]
 | k::d,j,v,w,hd,hj,h=>by
  have hlt:j<path.length:=by
   rcases QzX j path.length with q | q
   ·exact q
   ·rw[Qxf q]at hd;cases hd
  rw[Qz1 hlt,List.cons.injEq]at hd;unfold V9 at h
  split at h
  ·rename_i hc;have ih:=Sx hl d (j+1) _ w hd.2 U h;unfold Kr at ih ⊢;rw[BK (s':=(some (v.f.2.2.2.2.getD k.toNat Qq1),((j+1:Nat):Int))) ?_,ih];unfold JG;dsimp only;rw[if_pos U,An,show((j:Nat):Int).toNat=j from Z,<- Qz6 (h:=hlt) Qq1,hd.1,egd,if_neg U,An (h:=(by rfl)),if_neg U,An (h:=hc),An (h:=(by unfold BH;omega))]
   rfl
  ·cases h
theorem find_eq{path:Qq4}{v w:Pv}(hl:path.length<=1000)(h:V9 v path=some w):Oi (some v) path=some (some w,(0,0)):=Sx hl path 0 v w Z (Qzb _) h
theorem XD{path:Qq4}{v w:Pv}(hv:Cn v=some (0,0))(hl:path.length<=1000)(h:V9 v path=some w)(hc:LR w=some w):K5 v path=some (w,(0,0)):=by
 unfold K5;rw[hv,Qq9,if_pos ⟨Z,Z⟩,find_eq hl h,Qq9,if_pos ⟨Z,Z⟩,An (h:=(by rfl))]
 show Qq8 (LR w) _=_
 rw[hc]
 rfl
theorem TH{p:Pc}(hp:QD p):K5 (vF p) [0,1,1]=some (Hm p.2.1.toNat,(0,0))/\K5 (vF p) [0,1,2]=some (Hm p.2.2.1.toNat,(0,0)):=by
 constructor
 ·refine XD (LS hp) Qqc ?_ (Qu (m:=999) (Qzb _) (Qzb _));unfold vF vb
  split <;> rfl
 ·refine XD (LS hp) Qqc ?_ (Qu (m:=999) (Qzb _) (Qzb _));unfold vF vb
  split <;> rfl
end Go.Proofs.YtnmkjjgmnbmmnaaGreatDoor
end
noncomputable section
namespace Go.Proofs.YtnmkjjgmnbmmnaaGreatDoor
open Go Go.E Go.RowKit Go.L
set_option maxHeartbeats 1000000
set_option maxRecDepth 10000
open _root_.Go.Proofs.Tryz
def Gr(a1:Int):Option Aae:=
 Bb (BH (0 - 0)) (Bb (BH (a1 - (0 - 0))) (if 0<(a1 - (0 - 0))then Bb (0<(a1 - (0 - 0))/\(a1 - (0 - 0)) * 1<=281474976710656) (some (([]:Aae)))else some ([])))
def FP(_a0:Aae)(a1:Int):Option Aae:=
 if a1<0 then none else(Gr a1)
section
variable(w:World)(H:PH)(hH:Le H (hp w)) include hH
theorem Mc{a0:Aae}{a1:Int}(_:AL .byte H Aaa a0){r:Aae}(h:FP a0 a1=some r):
  Qqv 183 [Aaa,No a1] w (fun v w'=>∃x,v=x/\Cv 5 .byte H w w' x r):=by
 refine AG 27 [(0,Aaa),(1,No a1)] func183 Z fun hL=>AI 1 Z<|Bm Unit (fun(_:Unit)=>[(0,Aaa),(1,No a1)]) (fun(_:Unit) wr=>AW w [] wr/\(Gr a1)=some r) ?_ ?_
 ·refine AI 2 Z<|AS h ?_ ?_<;>intro y h
  ·refine Az ?_
   cases h
  refine A4<|AH () ⟨hL,h⟩
 rintro _ ac ⟨d,h⟩;refine AM<|B1 2 Z<|Ag (Xy Z)<|Ar 1 Z<|Ag (SI Z Aag)<|A3 h fun g h=>Ag (AA g)<|A3 h fun j h=>Ag (AA j)<|A1 1 Z<|AI 2 Z<|AS h ?_ ?_<;>intro l h
 ·refine Az<|Ar 2 Z<|Ag (Xy Z)<|Ag SV<|Ar 1 Z<|A3 h fun ab h=>?_;obtain⟨z,o⟩:=QzD (show 0<=(a1 - (0 - 0)) by omega);refine Wp (k:=.i64) (m:=z) (by rw[<- o];rfl) Aag U U U fun f a c ad p q s t u=>Ar 1 Z<|Ag (SI Z Aag)<|Ag (XO Z) ?_;obtain⟨b,aa⟩:=M4 (v:=.slice (some ⟨f,0,none⟩) 0 a) (e:=5) (sz:=1) (m:=0) (xs:=[]) d p ⟨Z,.inr ⟨f,a,c,Z,q,s,Qzb _,t,by rw[u,Qzy],Z⟩⟩;refine Ar 1 Z<|AP<|A2<|AI 2 Z<|Au ?_
  cases h
  refine Aj Z ⟨b.ext,_,Z,(b.Hn hH (i:=0) Z .nil)⟩
 refine A4<|A2<|AI 2 Z<|Au ?_
 cases h
 refine Aj Z ⟨d.ext,_,Z,Cv.nil⟩
def FE(a:Aae):Option Aae:=
 some a
def DJ(a0:List Aae):Aae×Int->Option ((Aae×Int)⊕(Aae)):=fun⟨b,a⟩=>
 if a<(a0.length:Int)then Bb (0<=a/\a<(a0.length:Int)) (Bb (Go.E.Gx 1 (b.length+(a0.getD a.toNat Qq1).length)) (Bb (BH (a+1)) (some (Sum.inl ((b++a0.getD a.toNat Qq1),(a+1))))))else Qzq Sum.inr (FE b)
def Ea(a0:List Aae)(s:Aae×Int):Option Aae:=Go.L.run (DJ a0) s
def FF(a0:List Aae)(a:Int):Option Aae:=
 Qq8 (FP ([]) a) (fun b=>(Ea a0) (b,0))
def DK(a0:List Aae):Int×Int->Option (Qq6⊕(Aae)):=fun⟨b,a⟩=>
 if a<(a0.length:Int)then Bb (0<=a/\a<(a0.length:Int)) (Bb (BH (b+((a0.getD a.toNat Qq1).length:Int))) (if(b+((a0.getD a.toNat Qq1).length:Int))<0 then none else Bb (BH (a+1)) (some (Sum.inl ((b+((a0.getD a.toNat Qq1).length:Int)),(a+1))))))else Qzq Sum.inr ((FF a0) b)
def Eb(a0:List Aae)(s:Int×Int):Option Aae:=Go.L.run (DK a0) s
def GH(a0:List Aae):Option Aae:=
 (Eb a0) (0,0)
theorem L5{a0:List Aae}{e:Value}(o:AL (.vec .byte) H e a0){r:Aae}(h:GH a0=some r):
  Qqv 146 [e] w (fun v w'=>∃u0,v=u0/\Cv 5 .byte H w w' u0 r):=by
 refine AG 36 [(0,e)] func146 Z fun hL=>AI 1 Z<|AI 1 Z<|Bm Int (fun j=>[(0,e),(3,No j)]) (fun j wr=>AW w [] wr/\(FF a0) j=some r) ?_ ?_
 ·refine B1 1 Z<|Ag (AT o)<|A1 1 Z<|A8 ?_;obtain⟨y,h⟩:=Bc h;refine Bz (Int×Int×Nat) (fun⟨c,b,n⟩=>[(0,e),(3,No c),(9,e),(10,No (a0.length:Int)),(11,No b)]) (fun⟨c,b,n⟩ wr=>AW w [] wr/\FW (DK a0) n (c,b)=some r) (fun⟨c,b,n⟩=>n) (0,0,y) Z ⟨hL,h⟩ ?_;rintro⟨c,b,nn42⟩ a7 ⟨s,h⟩;obtain⟨y,bb,rfl,h,z⟩:=Ba h;refine AI 1 Z<|AM<|AS h ?_ ?_<;>intro al h
  ·refine A4<|A2<|AM<|A8<|Aq<|A3 h fun aa h=>Bf o b.toNat (CT aa) (AD aa) ?_;rintro bc _ ⟨e46v0,rfl,e46h0⟩ am;refine Ag (AX am (hH.trans s.arg))<|A1 1 Z<|B1 2 Z<|Ag (AT e46h0)<|A3 h fun an h=>Ag (AA an)<|A1 1 Z<|AI 2 Z<|AS h ?_ ?_<;>intro ao h
   ·refine Az ?_
    cases h
   refine A4<|A9<|A2<|Az<|A3 h fun ap h=>Ag (AA ap)<|Ar 1 Z<|AP ?_;have h:=BW.again h z;refine AN (_,_,_) ⟨s,h⟩
  refine Bq<|AK<|AF ?_;have h:=BW.out h z;refine Bj<|AH _ ⟨s,h⟩
 rintro j a8 ⟨t,h⟩;refine B1 1 Z<|Av h fun a4 aq h=>Bv t (Mc _ _ (Ao t) (AL.nil _ _) aq) ?_;rintro ah bd ⟨_,rfl,ab⟩ ar ac ai;obtain⟨au,ac,ai,av⟩:=ab.take hH t ar;refine A1 1 Z<|Bm (Aae×Value×Qq5) (fun⟨q,p,k⟩=>[(6,p)]) (fun⟨q,p,k⟩ wr=>DE w [.row p 5 1 (q).length k] wr fun Oz=>A5 .byte (gz H w wr Oz) q k/\FE q=some r) ?_ ?_
 ·refine B1 1 Z<|Ag (AT o)<|A1 1 Z<|A8 ?_;obtain⟨ad,h⟩:=Bc h;refine Bz (Aae×Int×Value×Qq5×Nat) (fun⟨f,a,g,d,n⟩=>[(6,g),(25,e),(26,No (a0.length:Int)),(27,No a)]) (fun⟨f,a,g,d,n⟩ wr=>DE w [.row g 5 1 (f).length d] wr fun Oz=>A5 .byte (gz H w wr Oz) f d/\FW (DJ a0) n (f,a)=some r) (fun⟨f,a,g,d,n⟩=>n) (a4,0,ah,au,ad) Z ⟨ac,av,h⟩ ?_;rintro⟨f,a,g,d,nn92⟩ a9 ⟨u,x,h⟩;obtain⟨ad,be,rfl,h,ae⟩:=Ba h;refine AI 1 Z<|AM<|AS h ?_ ?_<;>intro aw h
  ·refine A4<|A2<|AM<|A8<|Aq<|A3 h fun af h=>Bf o a.toNat (CT af) (AD af) ?_;rintro bf _ ⟨e96v0,rfl,e96h0⟩ ax;refine Ag (AX ax (hH.trans u.arg))<|A1 1 Z<|Az<|Ar 2 Z<|A3 h fun ay h=>BL (r:=.byte) 0 f (a0.getD a.toNat Qq1) Z Aag u Z x (e96h0.mono  Ai) ay fun a5 bg az a1 a6 a2=>Ar 1 Z<|AP<|A9<|A2<|Az<|A3 h fun aj h=>Ag (AA aj)<|Ar 1 Z<|AP ?_;have h:=BW.again h ae;refine AN (_,_,_,_,_) ⟨a1,a2,h⟩
  refine Bq<|AK<|AF ?_;have h:=BW.out h ae;refine Bj<|AH (_,_,_) ⟨u,x,h⟩
 rintro⟨q,p,k⟩ ba ⟨ag,ak,h⟩;refine AI 2 Z<|Au ?_
 cases h
 refine Aj Z ⟨ag.ext,_,Z,(ag.Hn hH (i:=0) Z ak)⟩
end
end Go.Proofs.YtnmkjjgmnbmmnaaGreatDoor
end
noncomputable section
namespace Go.E
open Go Go.RowKit
structure Yb (P:Program) (a:World) (H:PH) (l:Nat) {σ α:Type} (r:Rp α) (J:σ->List BN->PH->Prop) (step:σ->List α->Option σ):Prop where
 mono:∀{s:σ}{R:List BN}{G G':PH},Le G G'->J s R G->J s R G'
 ok:∀{w:World}{O R:List BN}{s s':σ}{x:List α}{v u:Value},AW a (Qzu O R) w->AL r (gz H a w (Qzu O R)) v x->J s R (gz H a w (Qzu O R))->step s x=some s'->
  YieldAt Fence.wide 0 P l #[v,u] w (fun e w'=>e=.returned (.bool true)/\∃R':List BN,AW a (Qzu O R') w'/\Le (fz w (Qzu O R)) (fz w' (Qzu O R'))/\J s' R' (gz H a w' (Qzu O R')))
section
variable {P:Program}{n:Sz}{l:List Oper}{Q:Exit->Act->World->Prop}{L:Env}{w:World}{y:Code}{fuel:Nat}{m:Nat}{done:List Nat}
end
class Y2 (Q:Exit->Act->World->Prop):Prop where
 no:Mo Q
def Rb(P:Program)(j:Nat)(y:Code)(Q:Exit->Act->World->Prop):Exit->Act->World->Prop:=Exit.then (y.wpIn (Fence.wide.inRound j) 0 P Q) Q
instance {P:Program}{l:Nat}{R:Ending->World->Prop}:Y2 (roundPost P l R):=⟨UM⟩
instance {id:Nat}{Q:Exit->Act->World->Prop} [h:Y2 Q]:Y2 (Exit.inBlock id Q):=⟨CP h.no⟩
instance {P:Program}{j:Nat}{y:Code}{Q:Exit->Act->World->Prop} [h:Y2 Q]:Y2 (Rb P j y Q):=⟨fun a w k=>h.no a w k⟩
section
variable {P:Program}{j:Nat}{n:Sz}{Q:Exit->Act->World->Prop}{L:Env}{w:World}{x y:Code}{ops:Array Oper}{α:Type}{A B:Option α}{e:α}{t:Operand}
theorem VA(h:WR P j n x (Rb P j y Q) L w):WR P j n (.seq x y) Q L w:=fun a fr=>wpIn_seq (h a fr)
theorem WW(h:At n Q .normal L w):WR P j n .skip Q L w:=fun a fr=>wpIn_skip (h a fr)
theorem Oj[o:Y2 Q]{id:Nat}{l:List Oper}(hd:l.all (fun o=>!M5 o.op)=true)(h:S P n l.toArray Q l L w):WR P j n (.region id l.toArray false) Q L w:=OJ hd o.no h
theorem RC[Y2 Q]{id:Nat}{l:List Oper}(hd:l.all (fun o=>!M5 o.op)=true)(h:S P n l.toArray (Rb P j y Q) l L w):WR P j n (.seq (.region id l.toArray false) y) Q L w:=VA (Oj hd h)
theorem OY(h:WR P j n y Q L w):S P n ops (Rb P j y Q) [] L w:=fun a fr=>h a fr
theorem O8{k D:Nat}(i:Nat){fn:Func}{R:Value->World->Prop}{b:World}{O:List BN}[Dr](hL:AW b O w)(hi:D5 O i=some (.obj D (.deferred (some []))))
  (h:∀w',AW b (Di O i (.obj D (.deferred none))) w'->Le (fz w O) (fz w' (Di O i (.obj D (.deferred none))))->∀a,Fr ⟨k,[{target:=.collected D,args:=#[]}]⟩ a L->∃v,(results fn a.tmps).run P w'=.ok v w'/\R v w'):At ⟨k,[{target:=.collected D,args:=#[]}]⟩ (UN P fn R) .ret L w:=fun a fr=>by
 show LeavesInM Fence.wide 0 P fn a.tmps (Rq R) a.defers .returning w
 rw[fr.defers];have hp:=hL.putAt (.deferred none) hi;obtain⟨v,h1,h2⟩:=h _ hp.1 hp.2 a fr;exact⟨by simp,.inl ⟨_,_,Z,run_takeDeferred (hL.at hi),v,h1,v,Z,h2⟩⟩
theorem XE[Dr]{a:World}{O:List BN}(_:AW a O w):Le (fz w O) (fz w O):=Le.refl _
theorem CN{a:World}{H:PH}{A O:List BN}(hH:Le H (hp a):=by exact hH):Le (gz H a w (Qzu O A)) (gz H a w (Qzu A O)):=Ac (by rw[Kg (O':=Qzu O A) Qzc];exact Le.refl _)
theorem Hi{a:World}{H:PH}(hH:Le H (hp a)){O O':List BN}(h:O'.Perm O):Le (gz H a w O) (gz H a w O'):=Ac (by rw[Kg h];exact Le.refl _)
theorem Qy{w':World}{A B O:List BN}(h:Le (fz w (Qzu O A)) (fz w' (Qzu O B))):Le (fz w (Qzu A O)) (fz w' (Qzu B O)):=by
 rw[Kg (O':=Qzu A O) Qzc,Kg (O':=Qzu B O) Qzc];exact h
theorem Qz{w':World}{A B O:List BN}(h:Le (fz w (Qzu A O)) (fz w' (Qzu B O))):Le (fz w (Qzu O A)) (fz w' (Qzu O B)):=by
 rw[Kg (O':=Qzu O A) Qzc,Kg (O':=Qzu O B) Qzc];exact h
end
end Go.E
end
noncomputable section
namespace Go.E
open Go Go.RowKit Go.L
section
variable {P:Program}{n:Sz}{ops:Array Oper}{Q:Exit->Act->World->Prop}{rest:List Oper}{L:Env}{w:World}{x y:Operand}{t e:TypeId}{ty d:Nat}{pos:String}{af:Array Edge}{v:Value}{H:PH}
theorem Y3{l:Qq4}{k k':IntKind}{a:Int}{cs:Array Value}{zz:Value}{bt:Nat}(hx:ev L x=some (.agg cs))(hcs:l.map (Value.int k)=cs.toList)[hy:Qqq (ev L y) (some (.int k' a))](ht:P.underlying t=some (.array l.length e))(hu:P.underlying e=some (.int k))[he:Qqx P e zz 1 bt](hm:0<=a/\a<(l.length:Int)):
  Bu P L w (.index t x y) ty (.int k (l.getD a.toNat Qq1)):=by
 intro w' _ ρ hρ dst pos af g;obtain⟨inf,b,d,c,f⟩:=he.e.parts;have i3':inf.size=1:=by rw[c]
 have hlt:a.toNat<l.length:=by omega
 have hc:cs[a.toNat]? = some (.int k (l.getD a.toNat Qq1)):=by
  have h1:cs.toList[a.toNat]? = some (.int k (l.getD a.toNat Qq1)):=by rw[<- hcs];simp[hlt]
  simpa using h1
 simp[execOp,hρ x _ hx,hρ y _ hy.e,Instr.index,asIntOf,run_underlying ht,part,isAgg,run_underlying hu,sizeOf,typeInfo,b,i3',hm,hc]
theorem WX{t e:TypeId}{k:IntKind}{zz:Value}{bt:Nat}(ht:P.underlying t=some (.array 3 e))(he:Zr P e zz 1 bt)(hu:P.underlying e=some (.int k))(a b c a' b' c':Int)(w:World):
  (Op.equalIn 10000 t (.agg #[.int k a,.int k b,.int k c]) (.agg #[.int k a',.int k b',.int k c'])).run P w=.ok (decide (a=a'/\b=b'/\c=c')) w:=by
 obtain⟨inf,d,j,f,l⟩:=he.parts;have hc:P.cellsOf e=1:=by simp[Program.cellsOf,d,f]
 rw[run_equalIn_array w 9999 _ _ ht d,hc];have hr:List.range 3=[0,1,2]:=Z;rw[hr]
 have key:∀dd:Nat,(Op.eqItems (dd+1) e 1 #[.int k a,.int k b,.int k c] #[.int k a',.int k b',.int k c'] [0,1,2]).run P w=.ok (decide (a=a'/\b=b'/\c=c')) w:=by
  intro dd
  by_cases g:a=a' <;> by_cases h:b=b' <;> by_cases i:c=c' <;>
   simp[Op.eqItems,part,isAgg,run_underlying hu,run_equalIn_int w dd _ _ _ _ _ hu,g,h,i]
 exact key 9998
theorem Y4{l:Qq3}(hx:ev L x=some v)(ht:P.underlying t=some (.array 3 e))(hv:AL .byte H v l)(hl:3<=(l.length:Int)):
  ∃p,CJ H p [.int .u8 ((l.getD 0 Qq1).toNat:Int),.int .u8 ((l.getD 1 Qq1).toNat:Int),.int .u8 ((l.getD 2 Qq1).toNat:Int)]/\∀w,Bu P L w (.sliceToArrayPointer t x) ty (.pointer (some p)):=by
 obtain⟨a,cap,h1,h2,h3,d,f⟩:=hv.ex
 cases a with
 | none=>have:=d Z;omega
 | some A=>
  obtain⟨hs,hh⟩:=f A Z (fun q=>by subst q;simp at hl);refine⟨A,⟨hs,fun j u hu=>?_⟩,fun w w' _ ρ hρ dst pos af g=>?_⟩
  ·have hj:j<3:=by
    rcases QzX j 3 with q | q
    ·exact q
    ·rw[List.getElem?_eq_none (by simpa using q)]at hu;cases hu
   obtain⟨c,hc,hcell⟩:=hh j (l.getD j Qq1) (getD_some U);have hc:c=[.int .u8 ((l.getD j Qq1).toNat:Int)]:=hc;have b:=hcell 0 (.int .u8 ((l.getD j Qq1).toNat:Int)) (by rw[hc];rfl);have i:j * (Rp.byte).sz+0=j:=by show j * 1+0=j;omega
   rw[i]at b
   match j,hj with
   | 0,_=>obtain rfl:=Option.some.inj hu;exact b
   | 1,_=>obtain rfl:=Option.some.inj hu;exact b
   | 2,_=>obtain rfl:=Option.some.inj hu;exact b
  ·subst h1;have k : ¬l.length<3:=by omega
   simp[execOp,hρ x _ hx,Instr.arrayAt,run_underlying ht,k]
theorem Y5{l:Qq3}[hx:Qqq (ev L x) (some v)][ht:Qqq (P.underlying t) (some (.array 3 e))](hv:AL .byte H v l)(hl:3<=(l.length:Int))[hn:Qqq (Qzz d n.n) true]
  (h:∀p,CJ H p [.int .u8 ((l.getD 0 Qq1).toNat:Int),.int .u8 ((l.getD 1 Qq1).toNat:Int),.int .u8 ((l.getD 2 Qq1).toNat:Int)]->S P n ops Q rest ((d,.pointer (some p))::L) w):S P n ops Q (⟨some d,.sliceToArrayPointer t x,ty,pos,af,none⟩::rest) L w:=by
 obtain⟨p,h1,h2⟩:=Y4 (P:=P) (ty:=ty) hx.e ht.e hv hl;exact Ag (h2 w) (hn:=⟨hn.e⟩) (h p h1)
theorem VB{p:Addr}{a b c:UInt8}(hp:CJ H p [.int .u8 (a.toNat:Int),.int .u8 (b.toNat:Int),.int .u8 (c.toNat:Int)]):AL .byte H (.slice (some p) 3 3) [a,b,c]:=by
 refine⟨some p,3,Z,Qzx _,by decide,(fun q=>nomatch q),fun A hA _=>?_⟩
 cases hA
 refine⟨hp.1,fun i z hz=>?_⟩;refine⟨[.int .u8 (z.toNat:Int)],Z,fun j u hu=>?_⟩
 have hj:j=0:=by
  rcases Nat.eq_zero_or_pos j with q | q
  ·exact q
  ·rw[List.getElem?_eq_none (show 1<=j from q)]at hu;cases hu
 subst hj;obtain rfl:=Option.some.inj hu;have d:i * (Rp.byte).sz+0=i:=by show i * 1+0=i;omega
 rw[d];refine hp.2 i _ ?_
 match i,hz with
 | 0,hz=>obtain rfl:=Option.some.inj hz;rfl
 | 1,hz=>obtain rfl:=Option.some.inj hz;rfl
 | 2,hz=>obtain rfl:=Option.some.inj hz;rfl
theorem VC{p:Addr}{zz:Value}{bt:Nat}{a b c:UInt8}[hx:Qqq (ev L x) (some (.pointer (some p)))][ht:Qqq (P.underlying t) (some (.array 3 e))][he:Qqx P e zz 1 bt](hp:CJ H p [.int .u8 (a.toNat:Int),.int .u8 (b.toNat:Int),.int .u8 (c.toNat:Int)])[hn:Qqq (Qzz d n.n) true]
  (h:∀v',AL .byte H v' [a,b,c]->S P n ops Q rest ((d,v')::L) w):S P n ops Q (⟨some d,.slice t x none none none,ty,pos,af,none⟩::rest) L w:=by
 obtain⟨inf,f,i,j,k⟩:=he.e.parts;refine Ag (v:=.slice (some p) 3 3) (fun w' _ ρ hρ dst pos af g=>?_) (hn:=⟨hn.e⟩) (h _ (VB hp));simp[execOp,hρ x _ hx.e,Instr.sliceAt,run_underlying ht.e,Instr.sureAddr,Instr.sliceBounds,sizeOf,typeInfo,f,Addr.add_zero']
theorem AL.Zt{α:Type}{r:Rp α}{l:List α}(hv:AL r H v l)(lo hi:Nat)(h1:lo<=hi)(h2:hi<=l.length):∃a cap,v=.slice a l.length cap/\hi<=cap/\AL r H (.slice (if hi=lo then a else a.map (·.add (lo * r.sz))) (hi - lo) (hi - lo)) ((l.drop lo).take (hi - lo)):=by
 obtain⟨a,cap,d,hs⟩:=hv.sub lo hi h1 h2;obtain⟨a',cap',e,j,k,g,m⟩:=hv.ex;have hcc:cap=cap'/\a=a':=by rw[d]at e;cases e;exact⟨Z,Z⟩
 obtain⟨rfl,rfl⟩:=hcc;refine⟨a,cap,d,by omega,?_⟩;obtain⟨b,c2,c,h,n,o,i⟩:=hs.ex;have hlen:((l.drop lo).take (hi - lo)).length=hi - lo:=by simp;omega
 rw[hlen]at c h;refine⟨_,hi - lo,by rw[hlen],by rw[hlen];exact Qzx _,by unfold maxLen at *;omega,fun f=>?_,fun A hA hne=>?_⟩
 ·split at f
  ·omega
  ·cases a with
   | none=>have:=g Z;omega
   | some A=>cases f
 ·have hlt:lo<hi:=by
   rcases QzX lo hi with q | q
   ·exact q
   ·exact absurd (List.length_eq_zero_iff.1 (by rw[hlen];omega)) hne
  rw[if_neg U]at hA;rw[if_neg U]at c
  cases c
  exact i A hA hne
theorem Uq{α:Type}{r:Rp α}{l:List α}{a b c:Operand}{k k' k'':IntKind}{i j:Int}{zz:Value}{bt:Nat}[hx:Qqq (ev L x) (some v)][ha:Qqq (ev L a) (some (.int k i))][hb:Qqq (ev L b) (some (.int k' j))][hc:Qqq (ev L c) (some (.int k'' j))][ht:Qqq (P.underlying t) (some (.slice e))][he:Qqx P e zz r.sz bt](hv:AL r H v l)(hij:0<=i/\i<=j/\j<=(l.length:Int))[hn:Qqq (Qzz d n.n) true]
  (h:∀v',AL r H v' ((l.drop i.toNat).take (j.toNat - i.toNat))->S P n ops Q rest ((d,v')::L) w):S P n ops Q (⟨some d,.slice t x (some a) (some b) (some c),ty,pos,af,none⟩::rest) L w:=by
 obtain⟨inf,f,q,m,s⟩:=he.e.parts;obtain⟨i',rfl⟩:=QzD hij.1;obtain⟨j',rfl⟩:=QzD (show 0<=j by omega);obtain⟨A,cap,o,h1,h2⟩:=hv.Zt i' j' U U;subst o;refine Ag (fun w' _ ρ hρ dst pos af g=>?_) (hn:=⟨hn.e⟩) (h _ h2);have u:(i':Int)<=(j':Int):=by omega
 have y:(j':Int)<=(cap:Int):=by omega
 have p:i'<=j':=by omega
 simp[execOp,hρ x _ hx.e,hρ a _ ha.e,hρ b _ hb.e,hρ c _ hc.e,Instr.sliceAt,run_underlying ht.e,Instr.slice,Instr.sliceBounds,Instr.sliceBound,asIntOf,sizeOf,typeInfo,f,m,h1,p]
theorem Ur{α:Type}{r:Rp α}{l:List α}{b c:Operand}{k' k'':IntKind}{j:Int}{zz:Value}{bt:Nat}[hx:Qqq (ev L x) (some v)][hb:Qqq (ev L b) (some (.int k' j))][hc:Qqq (ev L c) (some (.int k'' j))][ht:Qqq (P.underlying t) (some (.slice e))][he:Qqx P e zz r.sz bt](hv:AL r H v l)(hij:0<=j/\j<=(l.length:Int))[hn:Qqq (Qzz d n.n) true]
  (h:∀v',AL r H v' (l.take j.toNat)->S P n ops Q rest ((d,v')::L) w):S P n ops Q (⟨some d,.slice t x none (some b) (some c),ty,pos,af,none⟩::rest) L w:=by
 obtain⟨inf,a,i,k,m⟩:=he.e.parts;obtain⟨j',rfl⟩:=QzD hij.1;obtain⟨A,cap,f,h1,h2⟩:=hv.Zt 0 j' U U;subst f;have h2:AL r H _ (l.take (j':Int).toNat):=h2;refine Ag (fun w' _ ρ hρ dst pos af g=>?_) (hn:=⟨hn.e⟩) (h _ h2);have o:(j':Int)<=(cap:Int):=by omega
 simp[execOp,hρ x _ hx.e,hρ b _ hb.e,hρ c _ hc.e,Instr.sliceAt,run_underlying ht.e,Instr.slice,Instr.sliceBounds,Instr.sliceBound,asIntOf,sizeOf,typeInfo,a,h1]
end
end Go.E
end
noncomputable section
namespace Go.Proofs.YtnmkjjgmnbmmnaaGreatDoor
open Go Go.E Go.RowKit
theorem Y6:Tryz.prog.eqGuardType Tryz.prog.depth 144=false:=by kernel_rfl
theorem Zu(a b c a' b' c':Int)(w:World):(Op.equalIn 10000 144 (.agg #[.int .u8 a,.int .u8 b,.int .u8 c]) (.agg #[.int .u8 a',.int .u8 b',.int .u8 c'])).run Tryz.prog w=.ok (decide (a=a'/\b=b'/\c=c')) w:=WX Tryz.underlying144 G0.e Tryz.underlying5 a b c a' b' c' w
theorem WY(a b c:Value)(w:World):(Instr.buildSlice 68 1 #[(0,.agg #[a,b,c])]).run Tryz.prog w=.ok (.slice (some ⟨w.heap.size,0,none⟩) 1 1) (w.alloc (.cells #[a,b,c] 144)):=by kernel_rfl
end Go.Proofs.YtnmkjjgmnbmmnaaGreatDoor
end
noncomputable section
namespace Go.E
open Go Go.RowKit
structure Yc (P:Program) (a:World) (H:PH) (l:Nat) {σ α:Type} (r:Rp α) (J:σ->List BN->PH->Prop) (step:σ->List α->Option (σ×Bool)):Prop where
 mono:∀{s:σ}{R:List BN}{G G':PH},Le G G'->J s R G->J s R G'
 ok:∀{w:World}{O R:List BN}{s:σ}{s':σ×Bool}{x:List α}{v:Value},AW a (Qzu O R) w->AL r (gz H a w (Qzu O R)) v x->J s R (gz H a w (Qzu O R))->step s x=some s'->
  YieldAt Fence.wide 0 P l #[v] w (fun e w'=>e=.returned (.bool s'.2)/\∃R':List BN,AW a (Qzu O R') w'/\Le (fz w (Qzu O R)) (fz w' (Qzu O R'))/\J s'.1 R' (gz H a w' (Qzu O R')))
section
variable {P:Program}{n:Sz}{ops:Array Oper}{Q:Exit->Act->World->Prop}{L:Env}{w:World}{rest:List Oper}
theorem Us{d l:Nat}{b:Bool}{fo:Operand}{args:List Operand}{vs:Qq5}{at_:Array TypeId}{ty:TypeId}{pos:String}{af:Array Edge}{R:World->Prop}[hf:Qqq (ev L fo) (some (.func (.yield l) #[] #[]))][ha:Qqq (RJ L args) (some vs)][hn:Qqq (Qzz d n.n) true]
  (hy:YieldAt Fence.wide 0 P l vs.toArray w (fun e w'=>e=.returned (.bool b)/\R w')) (h:∀w',R w'->SY P n ops Q rest ((d,.bool b)::L) w'):SY P n ops Q (⟨some d,.call ⟨.value fo,args.toArray,at_⟩,ty,pos,af,none⟩::rest) L w:=fun a fr=>by
 obtain⟨fn,tmps,assign,body,hrun,hround⟩:=hy;simp only[wpListIn];rw[if_pos (by simp[Region.wanted])];refine⟨fun _ _=>trivial,?_⟩;have f:=fr.Rj.map _ _ ha.e
 have e:(Oper.semAt Fence.wide.round a.eval ⟨some d,.call ⟨.value fo,args.toArray,at_⟩,ty,pos,af,none⟩).run P w=.ok (.round l fn tmps assign body) w:=by
  rw[Oper.semAt_eq _ _ _ (fun c h=>by cases h)];simp[execOp,resolve,fr.Rj fo _ hf.e,Deferred.ofValue,invoke,f,hrun]
 rw[e];refine⟨fun h=>by simp[Fence.wide]at h,hround.mono fun e w' ⟨he,hR⟩=>?_⟩;subst he;exact h w' hR _ (fr.put hn.e)
theorem Sy{rec:Loop}{l k p:Nat}{Lr:Env}{v:Value}{R:Ending->World->Prop}(hps:rec.params = #[p])(fr:Fr ⟨k,[]⟩ ⟨rec.tmps,[]⟩ Lr)(hpk:Qzz p k=true)(hobj:w.heap[l]? = some (.loop rec))
  (h:WR P l ⟨k,[]⟩ rec.assign (XS P l rec.body R) ((p,v)::Lr) w):YieldAt Fence.wide 0 P l #[v] w R:=by
 refine⟨rec.fn,_,rec.assign,rec.body,run_yield hobj (by rw[hps];rfl),roundIn_of_wpIn trivial ?_⟩;rw[hps];have e:((#[p]:Array Tmp).zip #[v]).foldl (fun tmps (x:Tmp×Value)=>tmps.setIfInBounds x.1 x.2) rec.tmps=rec.tmps.setIfInBounds p v:=by simp
 rw[show _=_ from e];exact h _ (fr.put (d:=p) (v:=v) hpk)
theorem RD{l i:Nat}{rec:Loop}{R:Ending->World->Prop}{b:World}{O:List BN}(hL:AW b O w)(hi:D5 O i=some (.obj l (.loop rec)))
  (h:∀w',AW b (Di O i (.obj l (.loop {rec with state:=.done,pending:=some .ret}))) w'->Le (fz w O) (fz w' (Di O i (.obj l (.loop {rec with state:=.done,pending:=some .ret}))))->R (.returned (.bool false)) w'):At n (roundPost P l R) .ret L w:=fun a _=>by
 have h1:=hL.at hi;have hp:=hL.putAt (.loop {rec with state:=.done,pending:=some .ret}) hi;exact⟨_,_,run_endRound (some .ret) h1,h _ hp.1 hp.2⟩
theorem Y7{j:Nat}(h:At n Q .ret L w):WR P j n .ret Q L w:=fun a fr=>wpIn_ret (h a fr)
theorem S0{g:FuncId}{cap:Qq5}{go:Operand}{ps:Array Tmp}{assign body:Code}(hg:ev L go=some (.func (.func g) #[] cap.toArray))(hc:Mk P g){m:World}{O:List BN}(hL:AW m O w)
  (h:∀(a:Act),Fr n a L->∀(fn:FuncId) (l D:Nat) (w1:World) (rec:Loop),rec={state:=.ready,pending:=none,fn,tmps:=a.tmps,params:=ps,assign,body,defers:=D}->
   AW m (.obj l (.loop rec)::.obj D (.deferred (some []))::O) w1->Le (fz w O) (fz w1 (.obj l (.loop rec)::.obj D (.deferred (some []))::O))->
   Calls P g (#[.func (.yield l) #[] #[]]++cap.toArray) w1 (fun e w2=>(∃v,e=.returned v)/\
    ((∃O',AW m (.obj l (.loop rec)::O') w2/\
    ∀
     k,AW m (.obj l (.loop {rec with state:=.exhausted})::O') k->Le (fz w2 (.obj l (.loop rec)::O')) (fz k (.obj l (.loop {rec with state:=.exhausted})::O'))->
     At ⟨n.n,{target:=.collected D,args:=#[]}::n.d⟩ Q .normal L k)\/
    (∃O',AW m (.obj l (.loop {rec with state:=.done,pending:=some .ret})::O') w2/\
    ∀
     k,AW m (.obj l (.loop {rec with state:=.exhausted,pending:=some .ret})::O') k->Le (fz w2 (.obj l (.loop {rec with state:=.done,pending:=some .ret})::O')) (fz k (.obj l (.loop {rec with state:=.exhausted,pending:=some .ret})::O'))->
     At ⟨n.n,{target:=.collected D,args:=#[]}::n.d⟩ Q .ret L k)))):W P n (.rangeFunc go ps assign body) Q L w:=fun a fr=>by
 refine (wpIn_wide (n := 0)).1 (wpIn_rangeFunc fun fn _ => ?_);obtain ⟨fn', c, h1, h2, h3⟩ := hc;have h2' : ¬fn'.name = "runtime.NumGoroutine" := by simpa using h2
 have p:=hL.new (r:=.obj w.heap.size (.deferred (some []))) (Ej w (.deferred (some []))) (show(w.alloc _).heap[w.heap.size]? = _ from World.alloc_heap_new w _) (fun b hb=>by cases hb;exact Qzx _);have f1:=PG hL (r:=.obj w.heap.size (.deferred (some []))) (Ej w (.deferred (some []))) (fun b hb=>by cases hb;exact Qzx _);have hs:(w.alloc (.deferred (some []))).heap.size=w.heap.size+1:=by simp
 have q:=p.new (r:=.obj (w.heap.size+1) (.loop {state:=.ready,pending:=none,fn,tmps:=a.tmps,params:=ps,assign,body,defers:=w.heap.size})) (Ej _ _)
  (by rw[<- hs];exact World.alloc_heap_new _ _) (fun b hb=>by cases hb;exact Nat.le_of_eq hs)
 have f2:=PG p (r:=.obj (w.heap.size+1) (.loop {state:=.ready,pending:=none,fn,tmps:=a.tmps,params:=ps,assign,body,defers:=w.heap.size})) (Ej _ (.loop {state:=.ready,pending:=none,fn,tmps:=a.tmps,params:=ps,assign,body,defers:=w.heap.size}))
  (fun b hb=>by cases hb;exact Nat.le_of_eq hs)
 obtain⟨W1,o⟩:∃W1,W1=(w.alloc (.deferred (some []))).alloc (.loop {state:=.ready,pending:=none,fn,tmps:=a.tmps,params:=ps,assign,body,defers:=w.heap.size}):=⟨_,Z⟩;rw[<- o]at q f2;have hcall:=h a fr fn (w.heap.size+1) w.heap.size W1 _ Z q (f1.trans f2);refine⟨w.heap.size+1,[{target:=.collected w.heap.size,args:=#[]}],W1,{target:=.fn (.func g) cap.toArray,args:=#[.func (.yield (w.heap.size+1)) #[] #[]]},W1,g,#[.func (.yield (w.heap.size+1)) #[] #[]]++cap.toArray,W1,by rw[o];exact run_enterLoop_outer _ _ _ _ _,?_,fun _ _=>trivial,?_,fun e=>by simp[Fence.wide]at e,?_⟩
 ·have hgo:=fr.Rj go _ hg;simp only[resolve,hgo];simp[Deferred.ofValue,Act.eval]
 ·simp[invoke,callFunc,h1,h2',h3]
 ·have ha:Fr ⟨n.n,{target:=.collected w.heap.size,args:=#[]}::n.d⟩ {a with defers:=[{target:=.collected w.heap.size,args:=#[]}]++a.defers} L:=⟨fr.size,by rw[fr.defers];rfl,fr.get⟩;refine(callsIn_wide.2 hcall).mono fun e w2 ⟨⟨v,he⟩,hor⟩=>?_;subst he
  rcases hor with ⟨O',f,hk⟩ | ⟨O',f,hk⟩
  ·have hp:=f.putAt (i:=0) (.loop {state:=.exhausted,pending:=none,fn,tmps:=a.tmps,params:=ps,assign,body,defers:=w.heap.size}) Z;refine⟨none,_,run_endLoop (f.at (i:=0) Z) Qqc,?_⟩;exact hk _ hp.1 hp.2 _ ha
  ·have hp:=f.putAt (i:=0) (.loop {state:=.exhausted,pending:=some .ret,fn,tmps:=a.tmps,params:=ps,assign,body,defers:=w.heap.size}) Z;refine⟨some .ret,_,run_endLoop (f.at (i:=0) Z) Qqc,?_⟩;exact wpIn_ret (hk _ hp.1 hp.2 _ ha)
end
end Go.E
namespace Go.E
open Go Go.RowKit
section
variable {P:Program}{j:Nat}{n:Sz}{Q:Exit->Act->World->Prop}{L:Env}{w:World}{y:Code}
theorem WZ(h:WR P j n y Q L w):At n (Rb P j y Q) .normal L w:=fun a fr=>h a fr
theorem S1(h:At n Q .ret L w):At n (Rb P j y Q) .ret L w:=fun a fr=>h a fr
end
def S2{σ α:Type}(f:σ->List α->Option σ):σ->List α->Option (σ×Bool):=fun s x=>Qq8 (f s x) (fun r=>some (r,true))
theorem Ti{σ α:Type}{f:σ->List α->Option σ}{s:σ}{x:List α}{r0:σ×Bool}(h:S2 f s x=some r0):∃r,f s x=some r/\r0=(r,true):=by
 obtain⟨r,h1,h2⟩:=Go.L.bind_some h;exact⟨r,h1,(Option.some.inj h2).symm⟩
def Rc{σ α:Type}(f:σ->List α->Option (Bool×σ)):σ×Bool->List α->Option ((σ×Bool)×Bool):=fun s x=>if s.2=true then Qq8 (f s.1 x) (fun r=>some ((r.2,r.1),r.1))else none
theorem Tj{σ α:Type}{f:σ->List α->Option (Bool×σ)}{a:σ}{b:Bool}{x:List α}{r0:(σ×Bool)×Bool}(h:Rc f (a,b) x=some r0):b=true/\∃r,f a x=some r/\r0=((r.2,r.1),r.1):=by
 unfold Rc at h
 split at h
 ·rename_i hb;obtain⟨r,h1,h2⟩:=Go.L.bind_some h;exact⟨hb,r,h1,(Option.some.inj h2).symm⟩
 ·cases h
def Y8(rec:Loop)(b:Bool):Loop:=cond b rec {rec with state:=.done,pending:=some .ret}
end Go.E
namespace Go.E
open Go Go.RowKit
section
variable {P:Program}{n:Sz}{L:Env}{w:World}
theorem VD{fn:Func}{q:ResultVar}{v:Value}{a:Act}(hl:fn.results = #[q])(h:Rr P L w q v)(fr:Fr n a L):(results fn a.tmps).run P w=.ok v w:=by
 rw[HN,hl];simp[h.run fr]
theorem Ut{k:Nat}{fn:Func}{R:Value->World->Prop}(h:∀a,Fr ⟨k,[]⟩ a L->∃v,(results fn a.tmps).run P w=.ok v w/\R v w):At ⟨k,[]⟩ (UN P fn R) .ret L w:=fun a fr=>by
 show LeavesInM Fence.wide 0 P fn a.tmps (Rq R) a.defers .returning w
 rw[fr.defers];obtain⟨v,h1,h2⟩:=h a fr;exact⟨v,h1,v,Z,h2⟩
end
end Go.E
namespace Go.E
open Go Go.RowKit
section
variable {P:Program}{n:Sz}{L:Env}{w:World}{a:Act}{α:Type}{A B:Option α}{e:α}{j:Nat}{Q:Exit->Act->World->Prop}{x y:Code}{t:Operand}
theorem MI{fn:Func}{s t b s' t' b':Nat}{u u':Value}{dd dd':TypeDesc}(hl:fn.results = #[.cell s t,.cell s' t'])(h:gt L s=some (.pointer (some ⟨b,0,none⟩)))(ht:P.underlying t=some dd)(hd:Po dd=false)(hp':CJ (hp w) ⟨b,0,none⟩ [u])
  (h2:gt L s'=some (.pointer (some ⟨b',0,none⟩))) (c:P.underlying t'=some dd') (d:Po dd'=false) (e:CJ (hp w) ⟨b',0,none⟩ [u']) (fr:Fr n a L):(results fn a.tmps).run P w=.ok (.tuple #[u,u']) w:=by
 rw[HN,hl];simp[OT fr h ht hd hp',OT fr h2 c d e]
theorem VE{b:Bool}(hc:ev L t=some (.bool b))(h:(if b then A else B)=some e)(ht:b=true->A=some e->WR P j n x Q L w)(hf:b=false->B=some e->WR P j n y Q L w):WR P j n (.cond t x y) Q L w:=fun a fr=>by
 cases b
 ·exact wpIn_cond (t:=false) (fr.Rj t _ hc) (hf Z (by simpa using h) a fr)
 ·exact wpIn_cond (t:=true) (fr.Rj t _ hc) (ht Z (by simpa using h) a fr)
end
end Go.E
end
noncomputable section
namespace Go.L
def Mw{α:Type}(l:List α)(k:Nat):List α:=l.take k++(l.take (min k (l.length - k))++l.drop (k+min k (l.length - k)))
def Q0{α:Type}(l y:List α):List α:=y.take l.length++l.drop y.length
theorem Re{α:Type}{l:List α}{k:Nat}(h:k<=l.length):(Mw l k).length=l.length:=by unfold Mw;simp;omega
theorem S3{α:Type}{l y:List α}:(Q0 l y).length=l.length:=by unfold Q0;simp;omega
end Go.L
namespace Go.E
open Go Go.RowKit Go.L
theorem MJ{α:Type}{r:Rp α}{G:PH}:∀(k:Nat) {l:List α}{xs:Qq5},A5 r G l xs->A5 r G (l.take k) (xs.take (k * r.sz))
 | 0,_,_,h=>by simpa using A5.nil
 | k+1,_,_,.nil=>by simpa using A5.nil
 | k+1,_,_,.cons (c:=c) hc h=>by
  have a:(k+1) * r.sz=c.length+k * r.sz:=by rw[r.len hc,Nat.add_mul];omega
  rw[List.take_succ_cons,a,List.take_append,Qz3 (l:=c) U,Nat.add_sub_cancel_left];exact .cons hc (MJ k h)
theorem VF{i:Int}{n:Nat}(h:0<i/\i<(n:Int)):0<i.toNat/\i.toNat<n:=by omega
def ZP(v p:Value)(n m:Nat):Prop:=∃g cap,v=.slice (some ⟨g,0,none⟩) m cap/\p=.slice (some ⟨g,0,none⟩) n cap
section
variable [Dr] {P:Program}{n:Sz}{ops:Array Oper}{Q:Exit->Act->World->Prop}{L:Env}{w w0:World}{O:List BN}{rest:List Oper}{d:Nat}{ty:TypeId}{pos:String}{af:Array Edge}{x y a:Operand}{v u q p:Value}{t e:TypeId}{H:PH}
omit [Dr] in
theorem PA{w:World}{e:TypeId}{sz m:Nat}{v:Value}{xs:Qq5}(h:w.ownsRow 0 e sz v m xs)(hm:0<m):∃g cap,v=.slice (some ⟨g,0,none⟩) m cap/\m<=cap/\cap<=maxLen:=by
 rcases h.2 with ⟨_,a⟩ | ⟨g,cap,cur,h1,_,_,h2,h3,_⟩
 ·omega
 ·exact⟨g,cap,h1,h2,h3⟩
theorem VG{bt:Nat}{i:Int}{zz:Value}{l:Qq3}{xs:Qq5}{kd:IntKind}(j:Nat)(hx:ev L x=some v)[ha:Qqq (ev L a) (some (.int kd i))](ht:P.underlying t=some (.slice e))[hz:Qqx P e zz 1 bt](hL:AW w0 O w)(hi:D5 O j=some (.row v e 1 l.length xs))(hc:0<=i/\i<(l.length:Int))[hn:Qqq (Qzz d n.n) true]
  (h:∀q',QC v q' 1 i.toNat l.length->S P n ops Q rest ((d,q')::L) w):S P n ops Q (⟨some d,.slice t x (some a) none none,ty,pos,af,none⟩::rest) L w:=by
 obtain⟨inf,b,o,c,p⟩:=hz.e.parts;obtain⟨k,rfl⟩:=QzD hc.1;obtain⟨g,cap,rfl,h1,h2⟩:=PA (hL.at hi) U;have hk:k<l.length:=by omega
 refine Ag (v:=.slice (some ⟨g,k,none⟩) (l.length - k) (cap - k)) (fun w' _ ρ hρ dst pos af gd=>?_) (hn:=⟨hn.e⟩) (h _ (.inr ⟨g,cap,k,Z,Nat.le_of_lt hk,.inl Z,by rw[Qzy];rfl⟩));have f:k<=l.length:=Nat.le_of_lt hk;have m : ¬cap=k:=by omega
 simp[execOp,hρ x _ hx,hρ a _ ha.e,Instr.sliceAt,run_underlying ht,Instr.slice,Instr.sliceBounds,Instr.sliceBound,asIntOf,sizeOf,typeInfo,b,c,f,m,Addr.add_lit]
theorem VH{bt:Nat}{i:Int}{zz:Value}{l:Qq3}{xs:Qq5}{kd:IntKind}(j:Nat)(hx:ev L x=some v)[ha:Qqq (ev L a) (some (.int kd i))](ht:P.underlying t=some (.slice e))[hz:Qqx P e zz 1 bt](hL:AW w0 O w)(hi:D5 O j=some (.row v e 1 l.length xs))(hc:0<=i/\i<(l.length:Int))[hn:Qqq (Qzz d n.n) true]
  (h:∀p',ZP v p' i.toNat l.length->S P n ops Q rest ((d,p')::L) w):S P n ops Q (⟨some d,.slice t x none (some a) none,ty,pos,af,none⟩::rest) L w:=by
 obtain⟨inf,b,m,c,o⟩:=hz.e.parts;obtain⟨k,rfl⟩:=QzD hc.1;obtain⟨g,cap,rfl,h1,h2⟩:=PA (hL.at hi) U;have hk:k<l.length:=by omega
 refine Ag (v:=.slice (some ⟨g,0,none⟩) k cap) (fun w' _ ρ hρ dst pos af gd=>?_) (hn:=⟨hn.e⟩) (h _ ⟨g,cap,Z,Z⟩);have f:k<=cap:=by omega
 simp[execOp,hρ x _ hx,hρ a _ ha.e,Instr.sliceAt,run_underlying ht,Instr.slice,Instr.sliceBounds,Instr.sliceBound,asIntOf,sizeOf,typeInfo,b,c,f,Addr.add_zero']
theorem S4{bt:Nat}{zz:Value}{l l':Qq3}{xs cs:Qq5}{g cap k sLen sCap:Nat}{A:Addr}(j:Nat)(ht:P.underlying t=some (.slice e))(hz:Zr P e zz 1 bt)(hL:AW w0 O w)(hi:D5 O j=some (.row (.slice (some ⟨g,0,none⟩) l.length cap) e 1 l.length xs))
  (hsrc:∀i c,cs[i]? = some c->w.cell? (A.add i)=some c) (hcs:cs.length=Nat.min sLen (l.length - k)) (h1:∀c∈cs,c.oneCell'=true) (hk:k<=l.length) (hl:l'.length=l.length) (he:A5 .byte (gz H w0 w O) l' (xs.take k++(cs++xs.drop (k+cs.length)))) (hH:Le H (hp w0)) :
  ∃w' xs',(∀ty,(Builtin.copy_ #[t,t] ty #[.slice (some ⟨g,k,none⟩) (l.length - k) (cap - k),.slice (some A) sLen sCap]).run P w=.ok (goInt cs.length) w')/\AW w0 (Di O j (.row (.slice (some ⟨g,0,none⟩) l.length cap) e 1 l'.length xs')) w'/\Le (fz w O) (fz w' (Di O j (.row (.slice (some ⟨g,0,none⟩) l.length cap) e 1 l'.length xs')))/\A5 .byte (gz H w0 w' (Di O j (.row (.slice (some ⟨g,0,none⟩) l.length cap) e 1 l'.length xs'))) l' xs':=by
 obtain⟨inf,d,h,f,m⟩:=hz.parts;have hown:w.ownsRow 0 e 1 (.slice (some ⟨g,0,none⟩) l.length cap) l.length xs:=hL.at hi;obtain⟨a,h3⟩:=hown
 rcases h3 with ⟨h3,_⟩ | ⟨g',cap',cur,h3,_,hg,hnc,hcm,hsz,htk⟩
 ·cases h3
 cases h3
 have hcl:cs.length<=l.length - k:=by rw[hcs];exact Nat.min_le_right _ _
 have hfit:k+cs.length<=cur.size:=by omega
 have hr:∀ty,(Builtin.copy_ #[t,t] ty #[.slice (some ⟨g,k,none⟩) (l.length - k) (cap - k),.slice (some A) sLen sCap]).run P w=.ok (goInt cs.length) (w.setRow g (cur.toList.take k++cs++cur.toList.drop (k+cs.length)).toArray):=fun ty=>
  run_copy_row (P:=P) w t t ty e g k (l.length - k) (cap - k) A sLen sCap cur e cs ht (by rw[d];simp[f]) hg hcs hsrc hfit h1
 have hxl:xs.length=l.length:=by rw[a,Qzy]
 have hcur:xs=cur.toList.take l.length:=by rw[<- htk,Qzy]
 have hnew:(cur.toList.take k++cs++cur.toList.drop (k+cs.length)).take l.length=xs.take k++(cs++xs.drop (k+cs.length)):=by
  have hcz:cur.toList.length=cap * 1:=by simpa using hsz
  rw[hcur,Qxz,List.take_append,List.take_append,QzA,show min k cur.toList.length=k by omega,Qz3 (l:=List.take k cur.toList) (by rw[QzA];omega),Qz3 (l:=cs) U,List.take_take,show min k l.length=k by omega,List.drop_take,Nat.sub_sub]
 have hok:BN.ok (w.setRow g (cur.toList.take k++cs++cur.toList.drop (k+cs.length)).toArray) (.row (.slice (some ⟨g,0,none⟩) l.length cap) e 1 l'.length (xs.take k++(cs++xs.drop (k+cs.length)))):=by
  refine⟨?_,.inr ⟨g,cap,_,by rw[hl],Qzb _,setRow_heap w g cur _ e _ hg,by omega,hcm,?_,?_⟩⟩
  ·simp only[Qzk,QzA,QzQ];omega
  ·simp only[List.size_toArray,Qzk,QzA,QzQ,Array.length_toList];omega
  ·rw[hl,Qzy,<- hnew]
 have hgb:=Lk w g (cur.toList.take k++cs++cur.toList.drop (k+cs.length)).toArray;have f1:=hL.LU (w':=w.setRow g (cur.toList.take k++cs++cur.toList.drop (k+cs.length)).toArray) (r':=.row (.slice (some ⟨g,0,none⟩) l.length cap) e 1 l'.length (xs.take k++(cs++xs.drop (k+cs.length)))) hi (Qzx _) hgb hok (fun b hb=>.inl hb);have f2:=Hv (w':=w.setRow g (cur.toList.take k++cs++cur.toList.drop (k+cs.length)).toArray) (r':=.row (.slice (some ⟨g,0,none⟩) l.length cap) e 1 l'.length (xs.take k++(cs++xs.drop (k+cs.length)))) hL hi hgb (fun b hb=>.inl hb);exact⟨_,_,hr,f1,f2,he.mono (Ac f2)⟩
theorem Xa(j:Nat){bt:Nat}{zz:Value}{l yy:Qq3}{xs:Qq5}(hx:ev L x=some v)[hy:Qqq (ev L y) (some u)](ht:P.underlying t=some (.slice e))[hz:Qqx P e zz 1 bt][hn:Qqq (Qzz d n.n) true](hH:Le H (hp w0))(hL:AW w0 O w)(hi:D5 O j=some (.row v e 1 l.length xs))(he:A5 .byte (gz H w0 w O) l xs)(hm:AL .byte (gz H w0 w O) u yy)(h0:0<(l.length:Int)/\0<(yy.length:Int))
  (h:∀w' xs',AW w0 (Di O j (.row v e 1 (Q0 l yy).length xs')) w'->Le (fz w O) (fz w' (Di O j (.row v e 1 (Q0 l yy).length xs')))->A5 .byte (gz H w0 w' (Di O j (.row v e 1 (Q0 l yy).length xs'))) (Q0 l yy) xs'->S P n ops Q rest ((d,.int .i64 (min (l.length:Int) (yy.length:Int)))::L) w') :
  S P n ops Q (⟨some d,.call ⟨.builtin .copy,#[x,y],#[t,t]⟩,ty,pos,af,none⟩::rest) L w:=by
 obtain⟨news,a,hs⟩:=hm.elems;obtain⟨hl,A,cap',rfl,z,aa,b,f⟩:=hs.mono (Ao hL);obtain⟨g,cap,rfl,h1,h2⟩:=PA (hL.at hi) U
 cases A with
 | none=>have:=b Z;omega
 | some A=>
  obtain⟨hspot,hcell⟩:=f A Z U;have m:news.length=yy.length:=by rw[hl];exact Qzy _
  have hcsl:(news.take l.length).length=min l.length yy.length:=by rw[QzA,m]
  have hE:A5 .byte (gz H w0 w O) (Q0 l yy) (xs.take 0++(news.take l.length++xs.drop (0+(news.take l.length).length))):=by
   have o:=MJ (r:=.byte) l.length a;have p:=MC (r:=.byte) yy.length he;rw[show l.length * (Rp.byte).sz=l.length from Qzy _]at o;rw[show yy.length * (Rp.byte).sz=yy.length from Qzy _]at p;rw[List.take_zero,List.nil_append,Nat.zero_add,hcsl];have ab:xs.length=l.length:=by have:=he.len;rw[this];exact Qzy _
   have s:xs.drop (min l.length yy.length)=xs.drop yy.length:=by
    rcases Nat.le_total yy.length l.length with q | q
    ·rw[Nat.min_eq_right q]
    ·rw[Nat.min_eq_left q,Qxf U,Qxf U]
   rw[s];exact o.append p
  obtain⟨w',xs',c1,c2,c3,c4⟩:=S4 (P:=P) (l':=Q0 l yy) (k:=0) (cs:=news.take l.length) (sLen:=yy.length) (sCap:=cap') (A:=A) j ht hz.e hL hi (fun i c hc=>hcell i c (by rw[QxK]at hc;split at hc;exact hc;cases hc)) (by rw[hcsl,Nat.sub_zero];exact Nat.min_comm _ _) (fun c hc=>a.one c (List.mem_of_mem_take hc)) (Qzb _) S3 hE hH
  have hv:goInt (news.take l.length).length=.int .i64 (min (l.length:Int) (yy.length:Int)):=by
   rw[hcsl];unfold goInt;congr 1;omega
  refine E3 (w':=w') hn.e (fun ρ hρ=>?_) (h w' xs' c2 c3 c4);have hr:=c1 ty;rw[hv]at hr;simp only[Nat.sub_zero]at hr;simp[execOp,resolve,invoke,builtin,hρ x _ hx,hρ y _ hy.e,hr]
theorem TI(j:Nat){bt k:Nat}{zz:Value}{l:Qq3}{xs:Qq5}[hx:Qqq (ev L x) (some q)][hy:Qqq (ev L y) (some p)](ht:P.underlying t=some (.slice e))[hz:Qqx P e zz 1 bt][hn:Qqq (Qzz d n.n) true](hH:Le H (hp w0))(hL:AW w0 O w)(hi:D5 O j=some (.row v e 1 l.length xs))(he:A5 .byte (gz H w0 w O) l xs)(hw:QC v q 1 k l.length)(hp':ZP v p k l.length)(s:0<k/\k<l.length)
  (h:∀w' xs',AW w0 (Di O j (.row v e 1 (Mw l k).length xs')) w'->Le (fz w O) (fz w' (Di O j (.row v e 1 (Mw l k).length xs')))->A5 .byte (gz H w0 w' (Di O j (.row v e 1 (Mw l k).length xs'))) (Mw l k) xs'->S P n ops Q rest ((d,.int .i64 (min (k:Int) ((l.length:Int) - k)))::L) w') :
  S P n ops Q (⟨some d,.call ⟨.builtin .copy,#[x,y],#[t,t]⟩,ty,pos,af,none⟩::rest) L w:=by
 have hx:=hx.e
 obtain⟨g,cap,rfl,rfl⟩:=hp'
 have hcap:l.length<=cap:=by
  obtain⟨g',cap',a,b,_⟩:=PA (hL.at hi) U
  cases a;exact b
 rcases hw with ⟨a,_⟩ | ⟨g',cap',o,a,b,f,rfl⟩
 ·cases a
 cases a
 obtain rfl:o=k:=by omega
 have m:xs.length=l.length:=by have:=he.len;rw[this];exact Qzy _
 have hcsl:(xs.take (min o (l.length - o))).length=min o (l.length - o):=by rw[QzA];omega
 have hE:A5 .byte (gz H w0 w O) (Mw l o) (xs.take o++(xs.take (min o (l.length - o))++xs.drop (o+(xs.take (min o (l.length - o))).length))):=by
  have a:=MJ (r:=.byte) o he;have b:=MJ (r:=.byte) (min o (l.length - o)) he;have f:=MC (r:=.byte) (o+min o (l.length - o)) he;rw[show ∀z,z * (Rp.byte).sz=z from fun z=>Qzy z]at a b f;rw[hcsl];exact a.append (b.append f)
 have hsrc:∀i c,(xs.take (min o (l.length - o)))[i]? = some c->w.cell? ((⟨g,0,none⟩:Addr).add i)=some c:=fun i c hc=>by
  rw[QxK]at hc
  split at hc
  ·exact World.ownsRow.cells (hL.at hi) (g:=g) Z i c hc
  ·cases hc
 obtain⟨w',xs',c1,c2,c3,c4⟩:=S4 (P:=P) (l':=Mw l o) (k:=o) (cs:=xs.take (min o (l.length - o))) (sLen:=o) (sCap:=cap) (A:=⟨g,0,none⟩) j ht hz.e hL hi hsrc (by rw[hcsl]) (fun c hc=>he.one c (List.mem_of_mem_take hc)) U (Re U) hE hH
 have hv:goInt (xs.take (min o (l.length - o))).length=.int .i64 (min (o:Int) ((l.length:Int) - o)):=by
  rw[hcsl];unfold goInt;congr 1;omega
 refine E3 (w':=w') hn.e (fun ρ hρ=>?_) (h w' xs' c2 c3 c4);have hr:=c1 ty;rw[hv]at hr;rw[Qzy]at hx;simp[execOp,resolve,invoke,builtin,hρ x _ hx,hρ y _ hy.e,hr]
end
end Go.E
end
