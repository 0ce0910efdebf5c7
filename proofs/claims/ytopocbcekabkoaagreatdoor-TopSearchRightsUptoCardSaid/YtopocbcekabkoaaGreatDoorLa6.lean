/- Texts of a claim, merged. -/
import Derived.Test.YtopocbcekabkoaaGreatDoorLa5
import Derived.KernelRfl
open _root_.Go.Proofs.Tryz renaming underlying3→Ac6,underlying33→Aco,underlying27→Ae1,underlying35→Ae3,underlying26→Ae5,underlying90→Ae7,underlying120→Afi,underlying24→Ahv,underlying32→Ahw,underlying30→AjR,underlying118→Ajn,underlying114→Ajv,underlying25→AkO,underlying53→AkY,underlying28→Akn,underlying55→Alf
open Option renaming bind_some->Qzq,bind->Qq9,map->Qzx
open List renaming getD_eq_getElem?_getD->Qzj,getElem?_eq_getElem->Qzy,length_cons->Qzc,replicate->Qzv,length_map->Qza,length_append->Qzd,range->Qzb,drop_eq_nil_of_le->Qxz,mem_cons->Qze,append_nil->QzZ,length_nil->QzB,length_take->QzC,getElem_mem->Qz3,map_cons->QzA,mem_range->QzE,map_append->Qxc,range_succ->QxC,take_add_one->Qx7,append_assoc->QxB,drop_zero->Qx8,length_pos_iff->Qkv,countP_append->Qk2,pairwise_map->QkX,any_eq_true->Qk5,map_nil->Qk1
open Int renaming toNat_natCast->Qzk
open Nat renaming le_refl->Qzu,zero_le->Qz5,le_trans->Qxy,add_zero->Qxf
open Bool renaming and_eq_true->QzQ,eq_iff_iff->Qz7,true_and->Qkw
open UInt8 renaming ofNat->Qz8
open ByteArray renaming size->Qx6
open Prod renaming ext->Qxw
set_option linter.unusedVariables false
set_option linter.unusedSimpArgs false
set_option linter.unusedSectionVars false
noncomputable section
namespace Go.Proofs.YtopocbcekabkoaaGreatDoor
open Go Go.E Go.RowKit Go.L
set_option maxHeartbeats 1000000
set_option maxRecDepth 10000
open _root_.Go.Proofs.Tryz
def JT(a b:Int):Option Int:=
 if a=3 then if b<2048 then some (0)else Qq9 (Ew b (55296:Int) (57343:Int)) (fun c=>if c then some (0)else if a=4 then Qq9 (Ew b (65536:Int) (1114111:Int)) (fun d=>if !d then some (0)else some a)else some a)else if a=4 then Qq9 (Ew b (65536:Int) (1114111:Int)) (fun e=>if !e then some (0)else some a)else some a
def IC(a0:Abv)(a1 c:Int):Int×Int->Option (Qq7⊕(Int)):=fun⟨b,a⟩=>
 if a<c then AU (Bq (a1+a)) (AU (0<=(a1+a)/\(a1+a)<(a0.length:Int)) (Qq9 (Ew ((a0.getD ((a1+a).toNat) Qq2).toNat:Int) (128:Int) (191:Int)) (fun d=>if !d then Qzx Sum.inr (some (0))else AU (Bq (64 * b)) (AU (Bq ((64 * b)+((a0.getD ((a1+a).toNat) Qq2).toNat:Int))) (AU (Bq (((64 * b)+((a0.getD ((a1+a).toNat) Qq2).toNat:Int)) - 128)) (AU (Bq (a+1)) (some (Sum.inl ((((64 * b)+((a0.getD ((a1+a).toNat) Qq2).toNat:Int)) - 128),(a+1))))))))))else Qzx Sum.inr ((JT c) b)
def ND(a0:Abv)(a1 a:Int)(s:Int×Int):Option Int:=Go.L.run (IC a0 a1 a) s
def Hf(a0:Abv)(a1 a b:Int):Option Int:=
 if a=0 then some (0)else AU (Bq (a1+a)) (if(a0.length:Int)<(a1+a)then some (0)else(ND a0 a1 a) (b,1))
def JU(a0:Abv)(a1 a b:Int):Option Int:=
 Qq9 (Ew ((a0.getD a1.toNat Qq2).toNat:Int) (240:Int) (244:Int)) (fun c=>if c then AU (Bq (((a0.getD a1.toNat Qq2).toNat:Int) - 240)) ((Hf a0 a1) (4:Int) (((a0.getD a1.toNat Qq2).toNat:Int) - 240))else(Hf a0 a1) a b)
def L4(a0:Abv)(a1 a b:Int):Option Int:=
 Qq9 (Ew ((a0.getD a1.toNat Qq2).toNat:Int) (224:Int) (239:Int)) (fun c=>if c then AU (Bq (((a0.getD a1.toNat Qq2).toNat:Int) - 224)) ((JU a0 a1) (3:Int) (((a0.getD a1.toNat Qq2).toNat:Int) - 224))else(JU a0 a1) a b)
def Sj(a0:Abv)(a1:Int):Option Int:=
 AU (0<=a1/\a1<(a0.length:Int)) (Qq9 (Ew ((a0.getD a1.toNat Qq2).toNat:Int) (194:Int) (223:Int)) (fun a=>if a then AU (Bq (((a0.getD a1.toNat Qq2).toNat:Int) - 192)) ((L4 a0 a1) (2:Int) (((a0.getD a1.toNat Qq2).toNat:Int) - 192))else(L4 a0 a1) (0:Int) (0:Int)))
section
variable(w:World)(H:PH)(hH:Le H (hp w)) include hH
theorem Zm{a0:Abv}{a1:Int}{l:Value}(z:AS .byte H l a0){r:Int}(h:Sj a0 a1=some r):
  Qqv 157 [l,No a1] w (fun v w'=>v=No r):=by
 refine A4 79 [(0,l),(1,No a1)] func157 Z fun hL=>A7 1 Z<|Bo 2 Z<|Ax h fun a3 h=>AW z a1.toNat (Cx a3) (AM a3) ?_;rintro p1 _ rfl bf;refine Ag (AT bf (hH.trans hL.arg))<|Ag (Gn (Hz _))<|AA 1 Z<|A7 2 Z<|Bb Qq7 (fun⟨m,o⟩=>[(0,l),(1,No a1),(5,No ((a0.getD a1.toNat Qq2).toNat:Int)),(6,No m),(7,No o)]) (fun⟨m,o⟩ wr=>Bk w [] wr/\(L4 a0 a1) m o=some r) ?_ ?_
 ·refine Bo 1 Z<|A1 h fun ca a4 h=>A9 hL (D0 _ _ (Av hL) a4) fun cb bt ag bk=>Ad<|Bi h ?_ ?_<;>intro a5 h
  ·refine An<|As 1 Z<|Ax h fun a6 h=>Ag (Ay a6)<|As 2 Z<|AE<|A8 (_,_) ⟨ag,h⟩
  refine Au<|A8 (_,_) ⟨ag,h⟩
 rintro⟨m,o⟩ bu ⟨ah,h⟩;refine Bb Qq7 (fun⟨p,q⟩=>[(0,l),(1,No a1),(5,No ((a0.getD a1.toNat Qq2).toNat:Int)),(6,No p),(7,No q)]) (fun⟨p,q⟩ wr=>Bk w [] wr/\(JU a0 a1) p q=some r) ?_ ?_
 ·refine Bo 1 Z<|A1 h fun cc a7 h=>A9 ah (D0 _ _ (Av ah) a7) fun cd bv ai bl=>Ad<|Bi h ?_ ?_<;>intro a8 h
  ·refine An<|As 1 Z<|Ax h fun a9 h=>Ag (Ay a9)<|As 2 Z<|AE<|A8 (_,_) ⟨ai,h⟩
  refine Au<|A8 (_,_) ⟨ai,h⟩
 rintro⟨p,q⟩ bw ⟨aj,h⟩;refine Bb Qq7 (fun⟨e,s⟩=>[(0,l),(1,No a1),(6,No e),(7,No s)]) (fun⟨e,s⟩ wr=>Bk w [] wr/\(Hf a0 a1) e s=some r) ?_ ?_
 ·refine Bo 1 Z<|A1 h fun ce ba h=>A9 aj (D0 _ _ (Av aj) ba) fun cf bx ak bm=>Ad<|Bi h ?_ ?_<;>intro bb h
  ·refine An<|As 1 Z<|Ax h fun bc h=>Ag (Ay bc)<|As 2 Z<|AE<|A8 (_,_) ⟨ak,h⟩
  refine Au<|A8 (_,_) ⟨ak,h⟩
 rintro⟨e,s⟩ bz ⟨aa,h⟩;refine A6<|Bo 3 Z<|Bz 30 h ?_ ?_<;>intro f h
 ·iterate 6 refine Ar f ?_
  refine Ag (AF f Z)<|Ad<|DS<|A7 1 Z<|Aw<|Am ?_
  cases h
  refine Ah Z ⟨aa.ext,Z⟩
 refine Aa f<|Ag (Ai Z)<|Aa f<|Ag (Ai Z)<|Aa f<|Ax h fun bd h=>Ag (Ay bd)<|Aa f<|Ag (Ai Z)<|Aa f<|Ag (AZ z)<|Aa f<|Ag (Ai Z)<|Ag (AG f Z)<|Ad<|AL h ?_ ?_<;>intro be h
 ·refine A7 1 Z<|Aw<|Am ?_
  cases h
  refine Ah Z ⟨aa.ext,Z⟩
 refine Au<|Aq<|A7 2 Z<|Bb Int (fun t=>[(6,No e),(8,No t)]) (fun t wr=>Bk w [] wr/\(JT e) t=some r) ?_ ?_
 ·refine A7 1 Z<|A2 ?_;obtain⟨ab,h⟩:=AR h;refine Bj (Int×Int×Nat) (fun⟨d,c,n⟩=>[(0,l),(1,No a1),(6,No e),(8,No d),(9,No c)]) (fun⟨d,c,n⟩ wr=>Bk w [] wr/\DR (IC a0 a1 e) n (d,c)=some r) (fun⟨d,c,n⟩=>n) (s,1,ab) Z ⟨aa,h⟩ ?_;rintro⟨d,c,nn120⟩ bn ⟨u,h⟩;obtain⟨ab,b0,rfl,h,y⟩:=AQ h;refine A6<|A7 3 Z<|AL h ?_ ?_<;>intro al h
  ·refine Au<|Aq<|A6<|A2<|Bo 3 Z<|Ax h fun am h=>Ag (Ay am)<|Ax h fun ac h=>AW z ((a1+c).toNat) (Cx ac) (AM ac) ?_;rintro b1 _ rfl an;refine Ag (AT an (hH.trans u.arg))<|Ag (Gn (Hz _))<|AA 1 Z<|A6<|Bo 1 Z<|A1 h fun b2 ao h=>A9 u (D0 _ _ (Av u) ao) fun b3 bo ad bg=>AA 1 Z<|Bi h ?_ ?_<;>intro ap h
   ·refine A7 1 Z<|Aw<|Am<|Al<|Am<|Bc ?_;have h:=Bw.out h y;refine Al<|AN ?_
    cases h
    refine Ah Z ⟨ad.ext,Z⟩
   refine Au<|Aq<|An<|As 1 Z<|Ax h fun aq h=>Ag (Ay aq)<|As 1 Z<|Ax h fun ar h=>Ag (Ay ar)<|Ax h fun au h=>Ag (Ay au)<|As 1 Z<|AE<|Az<|Aq<|An<|As 1 Z<|Ax h fun av h=>Ag (Ay av)<|As 1 Z<|AE ?_;have h:=Bw.again h y;refine AD (_,_,_) Z ⟨ad,h⟩
  refine Bf<|A5<|A3 ?_;have h:=Bw.out h y;refine AY<|A8 _ ⟨u,h⟩
 rintro t bp ⟨j,h⟩;refine A6<|Bo 3 Z<|Bz 61 h ?_ ?_<;>intro a h
 ·refine Aa a<|Ag (Ai Z)<|Aa a<|Ag (Ai Z)<|Aa a<|Ag (Ai Z)<|Bz 64 h ?_ ?_<;>intro k h
  ·iterate 2 refine Ar k ?_
   refine Aa a<|Ag (AF k Z)<|Ag (AF a Z)<|As 1 Z ?_
   iterate 3 refine Ar Z ?_
   iterate 3 refine BS ?_
   refine Ar Z<|Ag (AF Z Z)<|Ad<|DS<|A7 1 Z<|Aw<|Am ?_
   cases h
   refine Ah Z ⟨j.ext,Z⟩
  refine Aa k<|Ag (Ai Z)<|Aa k<|A1 h fun b4 aw h=>A9 j (D0 _ _ (Av j) aw) fun b5 bq x bh=>Aa a<|Ag (AG k Z)<|Ag (AF a Z)<|As 1 Z<|Cv 69 h ?_ ?_<;>intro b h
  ·iterate 3 refine Ar b ?_
   iterate 3 refine BS ?_
   refine Ar b<|Ag (AF b Z)<|Ad<|DS<|A7 1 Z<|Aw<|Am ?_
   cases h
   refine Ah Z ⟨x.ext,Z⟩
  refine Aa b<|Ag (Ai Z)<|Aa b<|Ag (Ai Z)<|Aa b<|Ag (Ai Z)<|Bz 72 h ?_ ?_<;>intro g h
  ·refine Aa g<|Ag (Ai Z)<|Aa g<|A1 h fun b6 ax h=>A9 x (D0 _ _ (Av x) ax) fun b7 br ae bi=>Aa g<|Ag (Ai Z)<|Aa b<|Ag (AF g Z)<|Ag (AG b Z)<|Ad<|Bi h ?_ ?_<;>intro ay h
   ·refine A7 1 Z<|Aw<|Am ?_
    cases h
    refine Ah Z ⟨ae.ext,Z⟩
   refine Au<|Aq<|A7 2 Z<|Aw ?_
   cases h
   refine Ah Z ⟨ae.ext,Z⟩
  iterate 3 refine Ar g ?_
  refine Aa b<|Ag (AG g Z)<|Ag (AG b Z)<|Ad<|Co<|Au<|Aq<|A7 2 Z<|Aw ?_
  cases h
  refine Ah Z ⟨x.ext,Z⟩
 iterate 3 refine Ar a ?_
 iterate 2 refine BS ?_
 refine Ar a<|Ag (AG a Z)<|As 1 Z<|Aa Z<|Ag (Ai Z)<|Aa Z<|Ag (Ai Z)<|Aa Z<|Ag (Ai Z)<|Bz 72 h ?_ ?_<;>intro i h
 ·refine Aa i<|Ag (Ai Z)<|Aa i<|A1 h fun b8 az h=>A9 j (D0 _ _ (Av j) az) fun b9 bs af bj=>Aa i<|Ag (Ai Z)<|Aa Z<|Ag (AF i Z)<|Ag (AG Z Z)<|Ad<|Bi h ?_ ?_<;>intro a2 h
  ·refine A7 1 Z<|Aw<|Am ?_
   cases h
   refine Ah Z ⟨af.ext,Z⟩
  refine Au<|Aq<|A7 2 Z<|Aw ?_
  cases h
  refine Ah Z ⟨af.ext,Z⟩
 iterate 3 refine Ar i ?_
 refine Aa Z<|Ag (AG i Z)<|Ag (AG Z Z)<|Ad<|Co<|Au<|Aq<|A7 2 Z<|Aw ?_
 cases h
 refine Ah Z ⟨j.ext,Z⟩
def MR(a0:Abv)(a1:Int):Option Int:=
 AU (0<=a1/\a1<(a0.length:Int)) (Qq9 (Ew ((a0.getD a1.toNat Qq2).toNat:Int) (48:Int) (57:Int)) (fun c=>if c then some (1)else Qq9 (Ew ((a0.getD a1.toNat Qq2).toNat:Int) (97:Int) (122:Int)) (fun d=>if d then some (1)else Qq9 (Ew ((a0.getD a1.toNat Qq2).toNat:Int) (65:Int) (90:Int)) (fun a=>if a then some (1)else Qq9 (Sj a0 a1) (fun b=>some b)))))
theorem RP{a0:Abv}{a1:Int}{c:Value}(e:AS .byte H c a0){r:Int}(h:MR a0 a1=some r):
  Qqv 106 [c,No a1] w (fun v w'=>v=No r):=by
 refine A4 24 [(0,c),(1,No a1)] func106 Z fun hL=>A7 1 Z<|Bo 2 Z<|Ax h fun i h=>AW e a1.toNat (Cx i) (AM i) ?_;rintro p1 _ rfl o;refine Ag (AT o (hH.trans hL.arg))<|Ag (Gn (Hz _))<|AA 1 Z<|A6<|Bo 1 Z<|A1 h fun x3 p h=>A9 hL (D0 _ _ (Av hL) p) fun w4 aa f u=>As 1 Z<|Cv 13 h ?_ ?_<;>intro b h
 ·iterate 2 refine Ar b ?_
  refine Ag (AF b Z)<|As 1 Z ?_
  iterate 2 refine Ar Z ?_
  refine Ag (AF Z Z)<|Ad<|DS<|A7 1 Z<|Aw<|Am ?_
  cases h
  refine Ah Z ⟨f.ext,Z⟩
 refine Aa b<|Ag (Ai Z)<|Aa b<|A1 h fun x8 q h=>A9 f (D0 _ _ (Av f) q) fun w9 ab g x=>Ag (AG b Z)<|As 1 Z<|Cv 17 h ?_ ?_<;>intro a h
 ·iterate 2 refine Ar a ?_
  refine Ag (AF a Z)<|Ad<|DS<|A7 1 Z<|Aw<|Am ?_
  cases h
  refine Ah Z ⟨g.ext,Z⟩
 refine Aa a<|Ag (Ai Z)<|Aa a<|A1 h fun ac j h=>A9 g (D0 _ _ (Av g) j) fun ad y d s=>Ag (AG a Z)<|Ad<|Bi h ?_ ?_<;>intro k h
 ·refine A7 1 Z<|Aw<|Am ?_
  cases h
  refine Ah Z ⟨d.ext,Z⟩
 refine Au<|Aq<|Bo 2 Z<|A1 h fun ae l h=>A9 d (Zm _ _ (Av d) (e.mono  Aj) l) fun af z m t=>AA 1 Z<|Aw ?_
 cases h
 refine Ah Z ⟨m.ext,Z⟩
def K0(c:Abv)(a:Int)(b:UInt8):Option ((Abv×Int)⊕((Abv×Int)⊕((Alx×Int)⊕(Alx)))):=
 AU (Go.E.Fz 1 (c.length+([b]).length)) (AU (Bq (a+1)) (some (Sum.inl ((c++[b]),(a+1)))))
def Ph(a b:Int)(c:Abv):Option ((Abv×Int)⊕((Alx×Int)⊕(Alx))):=
 AU (Bq (a+b)) (some (Sum.inl (c,(a+b))))
def JA(a0:Abv)(b c:Int):Abv×Int->Option ((Abv×Int)⊕((Abv×Int)⊕((Alx×Int)⊕(Alx)))):=fun⟨d,a⟩=>
 AU (Bq (b+c)) (if a<(b+c)then AU (0<=a/\a<(a0.length:Int)) (if(65<=((a0.getD a.toNat Qq2).toNat:Int))/\(((a0.getD a.toNat Qq2).toNat:Int)<=90)then(K0 d a) (a0.getD a.toNat Qq2+(32:UInt8))else(K0 d a) (a0.getD a.toNat Qq2))else Qzx Sum.inr ((Ph b c) d))
def Pj(a0:Abv)(a b:Int)(s:Abv×Int):Option ((Abv×Int)⊕((Alx×Int)⊕(Alx))):=Go.L.run (JA a0 a b) s
def K1(c:Alx)(b:Int)(d:Abv)(a:Int):Option ((Alx×Int)⊕(Alx)):=
 if b<a then AU (Go.E.Fz 32 (c.length+([(d,b,a)]).length)) (AU (Bq (a+1)) (some (Sum.inl ((c++[(d,b,a)]),(a+1)))))else AU (Bq (a+1)) (some (Sum.inl (c,(a+1))))
def Fv(a0:Abv)(d:Alx)(b:Int):Abv×Int->Option ((Abv×Int)⊕((Alx×Int)⊕(Alx))):=fun⟨c,a⟩=>
 if a<(a0.length:Int)then Qq9 (MR a0 a) (fun e=>if 0<e then Qq9 (MR a0 a) (fun f=>(Pj a0 a f) (c,a))else Qzx Sum.inr ((K1 d b) c a))else Qzx Sum.inr ((K1 d b) c a)
def XR(a0:Abv)(b:Alx)(a:Int)(s:Abv×Int):Option ((Alx×Int)⊕(Alx)):=Go.L.run (Fv a0 b a) s
def Pk(a:Alx):Option (Alx):=
 some a
def DJ(a0:Abv):Alx×Int->Option ((Alx×Int)⊕(Alx)):=fun⟨b,a⟩=>
 if a<(a0.length:Int)then(XR a0 b a) (([]:Abv),a)else Qzx Sum.inr (Pk b)
def XS(a0:Abv)(s:Alx×Int):Option (Alx):=Go.L.run (DJ a0) s
def Qw(a0:Abv):Option (Alx):=
 (XS a0) (([]:Alx),0)
theorem SJ{a0:Abv}{aa:Value}(an:AS .byte H aa a0){r:Alx}(h:Qw a0=some r):
  Qqv 60 [aa] w (fun v w'=>∃u0,v=u0/\Cd 118 (.pair .st AlA) H w w' u0 r):=by
 refine A4 69 [(0,aa)] func60 Z fun hL=>A7 1 Z<|Bo 1 Z ?_;obtain⟨cf,ct,cg⟩:=Cp (.pair .st AlA) H 118 hL;refine Ad<|A7 1 Z<|Bb (Alx×Value×Qq6) (fun⟨ao,ak,af⟩=>[(3,ak)]) (fun⟨ao,ak,af⟩ wr=>C5 w [.row ak 118 3 (ao).length af] wr fun Oz=>AK (.pair .st AlA) (gz H w wr Oz) ao af/\Pk ao=some r) ?_ ?_
 ·refine A2 ?_;obtain⟨aq,h⟩:=AR h;refine Bj (Alx×Int×Value×Qq6×Nat) (fun⟨e,d,f,c,n⟩=>[(0,aa),(3,f),(4,No d)]) (fun⟨e,d,f,c,n⟩ wr=>C5 w [.row f 118 3 (e).length c] wr fun Oz=>AK (.pair .st AlA) (gz H w wr Oz) e c/\DR (DJ a0) n (e,d)=some r) (fun⟨e,d,f,c,n⟩=>n) (([]:Alx),0,Aal,[],aq) Z ⟨cf,cg,h⟩ ?_;rintro⟨e,d,f,c,nn352⟩ ci ⟨a4,a,h⟩;obtain⟨aq,a8,rfl,h,ar⟩:=AQ h;refine A6<|Bo 2 Z<|Ag (AZ an)<|AA 1 Z<|AL h ?_ ?_<;>intro bf h
  ·refine Au<|Aq<|A2<|A7 2 Z<|Bo 1 Z ?_;obtain⟨bg,az,bh⟩:=Cp .byte H 5 a4;refine Ad<|Bb (Abv×Int×Value×Qq6) (fun⟨ac,k,al,ag⟩=>[(0,aa),(3,f),(4,No d),(5,No k),(6,al)]) (fun⟨ac,k,al,ag⟩ wr=>C5 w [.row al 5 1 (ac).length ag,.row f 118 3 (e).length c] wr fun Oz=>AK .byte (gz H w wr Oz) ac ag/\AK (.pair .st AlA) (gz H w wr Oz) e c/\(K1 e d) ac k=some a8) ?_ ?_
   ·refine A2 ?_;obtain⟨a2,h⟩:=AR h;have a:=a.mono (Ab az);refine Bj (Abv×Int×Value×Qq6×Nat) (fun⟨ab,g,x,o,n⟩=>[(0,aa),(3,f),(4,No d),(5,No g),(6,x)]) (fun⟨ab,g,x,o,n⟩ wr=>C5 w [.row x 5 1 (ab).length o,.row f 118 3 (e).length c] wr fun Oz=>AK .byte (gz H w wr Oz) ab o/\AK (.pair .st AlA) (gz H w wr Oz) e c/\DR (Fv a0 e d) n (ab,g)=some a8) (fun⟨ab,g,x,o,n⟩=>n) (([]:Abv),d,Aal,[],a2) Z ⟨bg,bh,a,h⟩ ?_;rintro⟨ab,g,x,o,nn510⟩ cj ⟨au,s,a,h⟩;obtain⟨a2,a9,rfl,h,av⟩:=AQ h;refine A6<|Bo 2 Z<|Ag (AZ an)<|As 2 Z<|Bz 19 h ?_ ?_<;>intro y h
    ·refine Aa y<|Ag (Ai Z)<|Aa y<|Ag (Ai Z)<|Aa y<|A1 h fun cu bi h=>A9 au (RP _ _ (Av au) (an.mono  Aj) bi) fun cv ck aw ad=>Aa y<|Ag (Ai Z)<|Ag (AF y Z)<|Ad<|AL h ?_ ?_<;>intro bj h
     ·refine Au<|Aq<|A2<|Bo 2 Z<|A1 h fun ai bk h=>A9 aw (RP _ _ (Av aw) (an.mono  Aj) bk) fun cw cl bl ap=>AA 1 Z<|Bb (Abv×Value×Qq6) (fun⟨aj,ah,ae⟩=>[(0,aa),(3,f),(4,No d),(5,No g),(6,ah),(7,No ai)]) (fun⟨aj,ah,ae⟩ wr=>C5 w [.row ah 5 1 (aj).length ae,.row f 118 3 (e).length c] wr fun Oz=>AK .byte (gz H w wr Oz) aj ae/\AK (.pair .st AlA) (gz H w wr Oz) e c/\(Ph g ai) aj=some a9) ?_ ?_
      ·refine A7 2 Z<|A2 ?_;obtain⟨a3,h⟩:=AR h;have s:=s.mono (Ab (ad.trans ap));have a:=a.mono (Ab (ad.trans ap));refine Bj (Abv×Int×Value×Qq6×Nat) (fun⟨q,j,z,p,n⟩=>[(0,aa),(3,f),(4,No d),(5,No g),(6,z),(7,No ai),(8,No j)]) (fun⟨q,j,z,p,n⟩ wr=>C5 w [.row z 5 1 (q).length p,.row f 118 3 (e).length c] wr fun Oz=>AK .byte (gz H w wr Oz) q p/\AK (.pair .st AlA) (gz H w wr Oz) e c/\DR (JA a0 g ai) n (q,j)=some a9) (fun⟨q,j,z,p,n⟩=>n) (ab,g,x,o,a3) Z ⟨bl,s,a,h⟩ ?_;rintro⟨q,j,z,p,nn576⟩ cm ⟨am,t,a,h⟩;obtain⟨a3,cb,rfl,h,a5⟩:=AQ h;refine A6<|Bo 3 Z<|Ax h fun bm h=>Ag (Ay bm)<|AA 1 Z<|AL h ?_ ?_<;>intro bn h
       ·refine Au<|Aq<|A6<|A2<|Bo 2 Z<|Ax h fun a6 h=>AW an j.toNat (Cx a6) (AM a6) ?_;rintro cx _ rfl bo;refine Ag (AT bo (hH.trans am.arg))<|AA 1 Z<|Bb UInt8 (fun u=>[(0,aa),(3,f),(4,No d),(5,No g),(6,z),(7,No ai),(8,No j),(9,.int .u8 (u.toNat:Int))]) (fun u wr=>C5 w [.row z 5 1 (q).length p,.row f 118 3 (e).length c] wr fun Oz=>AK .byte (gz H w wr Oz) q p/\AK (.pair .st AlA) (gz H w wr Oz) e c/\(K0 q j) u=some cb) ?_ ?_
        ·refine Bo 3 Z<|Ns 2 2 Z Z Z Z Z Z<|Ad<|AL h ?_ ?_<;>intro bp h
         ·refine An<|As 1 Z<|Ag (Aaf 32 Z Z Z)<|As 1 Z<|AE<|A8 _ ⟨am,t,a,h⟩
         refine Au<|A8 _ ⟨am,t,a,h⟩
        rintro u cn ⟨bq,t,a,h⟩;refine An<|As 2 Z<|Bx [u] (r:=.byte) (fun _=>JJ _ _) bq (.c1 Z .nil) fun cy cz co br a1 bs=>Ax h fun bt h=>?_;have t:=t.mono (Ab a1);refine Bp (r:=.byte) 0 q [u] Z Ae1 br Z t bs bt fun cc c0 bu bv ba bw=>As 1 Z<|AE<|Az<|Aq<|An<|As 1 Z<|Ax h fun bx h=>Ag (Ay bx)<|As 1 Z<|AE ?_;have h:=Bw.again h a5;have a:=a.mono (Ab (a1.trans ba));refine AD (_,_,_,_,_) Z ⟨bv,bw,a,h⟩
       refine Bf<|A5<|A3 ?_;have h:=Bw.out h a5;refine AY<|A8 (_,_,_) ⟨am,t,a,h⟩
      have a:=a.mono (Ab (ad.trans ap));rintro⟨aj,ah,ae⟩ cp ⟨bz,bb,a,h⟩;refine An<|As 2 Z<|Ax h fun b0 h=>Ag (Ay b0)<|As 1 Z<|AE<|Az ?_;have h:=Bw.again h av;refine AD (_,_,_,_,_) Z ⟨bz,bb,a,h⟩
     refine Bf<|A5<|A3 ?_;have h:=Bw.out h av;refine AY ?_;have s:=s.mono (Ab ad);have a:=a.mono (Ab ad);refine A8 (_,_,_,_) ⟨aw,s,a,h⟩
    iterate 4 refine Ar y ?_
    refine Ag (AG y Z)<|Ad<|Co<|Bf<|A5<|A3 ?_;have h:=Bw.out h av;refine AY<|A8 (_,_,_,_) ⟨au,s,a,h⟩
   have a:=a.mono (Ab az);rintro⟨ac,k,al,ag⟩ cq ⟨ax,bc,a,h⟩;refine A6<|A7 3 Z<|AL h ?_ ?_<;>intro b1 h
   ·refine An<|As 2 Z<|Ag (NS (ax.MZ hH (i:=0) Z bc) (Le.refl _))<|As 2 Z<|Ag (Ba (fun _=>Zb _ Z _ _ _))<|Bx [(ac,d,k)] (r:=(.pair .st AlA)) (fun _=>Aat _ _ _ _) ax (.c3 ⟨_,_,Z,Z,⟨_,_,Z,Z,Z⟩⟩ .nil) fun c2 c4 cr b2 bd b3=>Ax h fun b4 h=>?_;have a:=a.mono (Ab bd);refine Bp (r:=(.pair .st AlA)) 1 e [(ac,d,k)] Z Ajv b2 Z a b3 b4 fun cd c5 b5 b6 ch ay=>As 1 Z<|AE<|Aq<|An<|As 1 Z<|Ax h fun b7 h=>Ag (Ay b7)<|As 1 Z<|AE<|Az ?_;have b8:=b6.Bl (i:=0) Z;have h:=Bw.again h ar;have ay:=ay.mono (Ab (AB (i:=0) Z));refine AD (_,_,_,_,_) Z ⟨b8,ay,h⟩
   refine Au<|Aq<|An<|As 1 Z<|Ax h fun b9 h=>Ag (Ay b9)<|As 1 Z<|AE<|Az ?_;have ca:=ax.Bl (i:=0) Z;have h:=Bw.again h ar;have a:=a.mono (Ab (AB (i:=0) Z));refine AD (_,_,_,_,_) Z ⟨ca,a,h⟩
  refine Bf<|A5<|A3 ?_;have h:=Bw.out h ar;refine AY<|A8 (_,_,_) ⟨a4,a,h⟩
 rintro⟨ao,ak,af⟩ cs ⟨a7,be,h⟩;refine A7 2 Z<|Aw ?_
 cases h
 refine Ah Z ⟨a7.ext,_,Z,(a7.FV hH (i:=0) Z be)⟩
def L5(a0:Abv):Option Al5:=
 if 64<(a0.length:Int)then Qq9 (N4 (3:Int) (-1:Int)) (fun d=>some ((d.1,d.2)))else AU (a0.length<=9223372036854775807) (Qq9 (Qw a0) (fun a=>if(a.length:Int)=1 then AU (0<=(0:Int)/\(0:Int)<(a.length:Int)) (if(a.getD ((0:Int).toNat) Qq2).1=a0 then some ((0,0))else Qq9 (N4 (6:Int) (-1:Int)) (fun b=>some ((b.1,b.2))))else Qq9 (N4 (6:Int) (-1:Int)) (fun c=>some ((c.1,c.2)))))
theorem TU{a0:Abv}{r:Al5}(h:L5 a0=some r):
  Qqv 103 [Abu a0] w (fun v w'=>v=.agg #[No r.1,No r.2]):=by
 refine A4 24 [(0,(Abu a0))] func103 Z fun hL=>Ao<|AO AI.e Z hL fun w1 b1 d am _=>Ad<|A6<|Bo 1 Z<|Ag (Gq Z)<|AA 1 Z<|AL h ?_ ?_<;>intro aa h
 ·refine Ao<|A1 h fun x4 ab h=>A9 d (Jn _ _ (Av d) ab) fun w5 au ac an=>Ak 0 Z ac Z fun w6 m ao=>Ad<|Aw<|Am ?_
  cases h
  refine BX (.cell Z Ae3 Z AI.e (AP (i:=0) m Z)) ⟨m.ext,Z⟩
 refine Au<|Aq<|Bo 1 Z<|Ax h fun ad h=>AcL (H:=H) d ad fun v8 w8 av e ap ae=>A1 h fun aw o h=>Br e (SJ _ _ (Av e) ae o) ?_;rintro af ax ⟨_,rfl,f⟩ p b ag;have c:=f.Cu hH e p;refine AA 1 Z<|A6<|Bo 1 Z<|Ag (AZ c)<|As 2 Z<|Et 14 h ?_ ?_<;>intro a h
 ·iterate 6 refine Ar a ?_
  refine Ag (AF a Z)<|Ad<|DS<|Ao<|A1 h fun ay q h=>A9 b (Jn _ _ (Av b) q) fun az aq s ah=>Ak 0 Z s Z fun a1 g ai=>Ad<|Aw<|Am ?_
  cases h
  refine BX (.cell Z Ae3 Z AI.e (AP (i:=0) g Z)) ⟨g.ext,Z⟩
 refine Aa a<|Ag (Ai Z)<|Aa a<|Ax h fun j h=>AW c ((0:Int).toNat) (Cx j) (AM j) ?_;rintro a2 _ ⟨_,_,rfl,rfl,⟨_,_,rfl,rfl,rfl⟩⟩ t;refine Aa a<|Ag (Ae Z Ajn Z Dl.e) ?_;have u:=t.add 0;refine Aa a<|Ag (AT u (Av b))<|Aa a<|Ag (Ai Z)<|Aa a<|Ag (Rn Z Z)<|Ag (AG a Z)<|Ad<|BG h ?_ ?_<;>intro x h
 ·refine Ao<|A1 h fun a3 y h=>A9 b (Jn _ _ (Av b) y) fun a4 ar z aj=>Ak 0 Z z Z fun a5 k ak=>Ad<|Aw<|Am ?_
  cases h
  refine BX (.cell Z Ae3 Z AI.e (AP (i:=0) k Z)) ⟨k.ext,Z⟩
 refine Au<|Aq<|Ao<|Ag (Ba (fun _=>B8 _))<|Ak 0 Z b Z fun a6 l al=>Ad<|Aw ?_
 cases h
 refine BX (.cell Z Ae3 Z AI.e (AP (i:=0) l Z)) ⟨l.ext,Z⟩
def NF(a:Int)(b:Alr):Option ((Alr×Int)⊕((Alr×Int)⊕(Alr))):=
 AU (Bq (a+1)) (some (Sum.inl (b,(a+1))))
def L6(c:Alr)(b a:Int)(d:Bool):Option ((Alr×Int)⊕((Alr×Int)⊕(Alr))):=
 if d then AU (Go.E.Fz 16 (c.length+([(b,a)]).length)) ((NF a) (c++[(b,a)]))else(NF a) c
def K2(a1:List Abv)(f:Alr)(d b:Int)(e:Alx):Bool×Int->Option ((Bool×Int)⊕((Alr×Int)⊕((Alr×Int)⊕(Alr)))):=fun⟨c,a⟩=>
 if a<(a1.length:Int)then(if c then AU (Bq (b+a)) (AU (0<=(b+a)/\(b+a)<(e.length:Int)) (AU (0<=a/\a<(a1.length:Int)) (AU (Bq (a+1)) (some (Sum.inl (decide ((e.getD ((b+a).toNat) Qq2).1=a1.getD a.toNat Qq2),(a+1)))))))else AU (Bq (a+1)) (some (Sum.inl (false,(a+1)))))else Qzx Sum.inr ((L6 f d b) c)
def Qx(a1:List Abv)(c:Alr)(a b:Int)(d:Alx)(s:Bool×Int):Option ((Alr×Int)⊕((Alr×Int)⊕(Alr))):=Go.L.run (K2 a1 c a b d) s
def Qy(a:Int)(b:Alr):Option ((Alr×Int)⊕(Alr)):=
 AU (Bq (a+1)) (some (Sum.inl (b,(a+1))))
def K3(a1:List Abv)(b:Int)(c:Alx):Alr×Int->Option ((Alr×Int)⊕((Alr×Int)⊕(Alr))):=fun⟨d,a⟩=>
 AU (Bq (a+(a1.length:Int))) (if(a+(a1.length:Int))<=(c.length:Int)then(Qx a1 d b a c) (true,0)else Qzx Sum.inr ((Qy b) d))
def Qz(a1:List Abv)(a:Int)(b:Alx)(s:Alr×Int):Option ((Alr×Int)⊕(Alr)):=Go.L.run (K3 a1 a b) s
def Q0(a:Alr):Option (Alr):=
 some a
def ID(a0:List Abv)(a1:List Abv):Alr×Int->Option ((Alr×Int)⊕(Alr)):=fun⟨b,a⟩=>
 if a<(a0.length:Int)then AU (0<=a/\a<(a0.length:Int)) (Qq9 (Qw (a0.getD a.toNat Qq2)) (fun c=>(Qz a1 a c) (b,0)))else Qzx Sum.inr (Q0 b)
def Zn(a0:List Abv)(a1:List Abv)(s:Alr×Int):Option (Alr):=Go.L.run (ID a0 a1) s
def NM(a0:List Abv)(a1:List Abv):Option (Alr):=
 (Zn a0 a1) (([]:Alr),0)
theorem Q1{a0 a1:List Abv}{u x:Value}(bj:AS (.vec .byte) H u a0)(az:AS .st H x a1){r:Alr}(h:NM a0 a1=some r):
  Qqv 27 [u,x] w (fun v w'=>∃u0,v=u0/\Cd 120 AlA H w w' u0 r):=by
 refine A4 60 [(0,u),(1,x)] func27 Z fun hL=>A7 1 Z<|Bo 1 Z ?_;obtain⟨ck,cu,cl⟩:=Cp AlA H 120 hL;refine Ad<|Bb (Alr×Value×Qq6) (fun⟨ap,ao,af⟩=>[(5,ao)]) (fun⟨ap,ao,af⟩ wr=>C5 w [.row ao 120 2 (ap).length af] wr fun Oz=>AK AlA (gz H w wr Oz) ap af/\Q0 ap=some r) ?_ ?_
 ·refine A7 1 Z<|A2 ?_;obtain⟨a2,h⟩:=AR h;refine Bj (Alr×Int×Value×Qq6×Nat) (fun⟨z,a,y,p,n⟩=>[(0,u),(1,x),(5,y),(6,No a)]) (fun⟨z,a,y,p,n⟩ wr=>C5 w [.row y 120 2 (z).length p] wr fun Oz=>AK AlA (gz H w wr Oz) z p/\DR (ID a0 a1) n (z,a)=some r) (fun⟨z,a,y,p,n⟩=>n) (([]:Alr),0,Aal,[],a2) Z ⟨ck,cl,h⟩ ?_;rintro⟨z,a,y,p,nn373⟩ cm ⟨ag,ah,h⟩;obtain⟨a2,bk,rfl,h,a5⟩:=AQ h;refine A6<|Bo 2 Z<|Ag (AZ bj)<|AA 1 Z<|AL h ?_ ?_<;>intro bq h
  ·refine Au<|Aq<|Bb (Alr×Value×Qq6) (fun⟨am,ai,aa⟩=>[(0,u),(1,x),(5,ai),(6,No a)]) (fun⟨am,ai,aa⟩ wr=>C5 w [.row ai 120 2 (am).length aa] wr fun Oz=>AK AlA (gz H w wr Oz) am aa/\(Qy a) am=some bk) ?_ ?_
   ·refine A2<|Bo 2 Z<|Ax h fun a6 h=>AW bj a.toNat (Cx a6) (AM a6) ?_;rintro cv _ ⟨e495v0,rfl,e495h0⟩ br;refine Ag (AT br (hH.trans ag.arg))<|A1 h fun ae bs h=>Br ag (SJ _ _ (Av ag) (e495h0.mono  Aj) bs) ?_;rintro o cw ⟨_,rfl,bg⟩ bt bu bl;have bh:=bg.Cu hH ag bt;refine AA 1 Z<|A7 1 Z<|A2 ?_;obtain⟨a3,h⟩:=AR h;have ah:=ah.mono (Ab bl);refine Bj (Alr×Int×Value×Qq6×Nat) (fun⟨j,b,k,g,n⟩=>[(0,u),(1,x),(5,k),(6,No a),(7,o),(8,No b)]) (fun⟨j,b,k,g,n⟩ wr=>C5 w [.row k 120 2 (j).length g] wr fun Oz=>AS (.pair .st AlA) (gz H w wr Oz) o ae/\AK AlA (gz H w wr Oz) j g/\DR (K3 a1 a ae) n (j,b)=some bk) (fun⟨j,b,k,g,n⟩=>n) (z,0,y,p,a3) Z ⟨bu,bh,ah,h⟩ ?_;rintro⟨j,b,k,g,nn555⟩ cn ⟨a7,aq,c,h⟩;obtain⟨a3,a4,rfl,h,a8⟩:=AQ h;refine A6 ?_
    refine Bo 2 Z<|Ag (AZ az)<|Ax h fun bv h=>Ag (Ay bv)<|As 1 Z<|Ag (AZ aq)<|AA 1 Z<|AL h ?_ ?_<;>intro bw h
    ·refine Au<|Aq<|Bb (Alr×Value×Qq6) (fun⟨an,aj,ab⟩=>[(0,u),(1,x),(5,aj),(6,No a),(7,o),(8,No b)]) (fun⟨an,aj,ab⟩ wr=>C5 w [.row aj 120 2 (an).length ab] wr fun Oz=>AS (.pair .st AlA) (gz H w wr Oz) o ae/\AK AlA (gz H w wr Oz) an ab/\(NF b) an=some a4) ?_ ?_
     ·refine A2<|A7 1 Z<|Bb Bool (fun ak=>[(0,u),(1,x),(5,k),(6,No a),(7,o),(8,No b),(9,.bool ak)]) (fun ak wr=>C5 w [.row k 120 2 (j).length g] wr fun Oz=>AS (.pair .st AlA) (gz H w wr Oz) o ae/\AK AlA (gz H w wr Oz) j g/\(L6 j a b) ak=some a4) ?_ ?_
      ·refine A7 1 Z<|A2 ?_;obtain⟨ar,h⟩:=AR h;refine Bj (Bool×Int×Nat) (fun⟨t,d,n⟩=>[(0,u),(1,x),(5,k),(6,No a),(7,o),(8,No b),(9,.bool t),(10,No d)]) (fun⟨t,d,n⟩ wr=>C5 w [.row k 120 2 (j).length g] wr fun Oz=>AS (.pair .st AlA) (gz H w wr Oz) o ae/\AK AlA (gz H w wr Oz) j g/\DR (K2 a1 j a b ae) n (t,d)=some a4) (fun⟨t,d,n⟩=>n) (true,0,ar) Z ⟨a7,aq,c,h⟩ ?_;rintro⟨t,d,nn669⟩ co ⟨au,f,c,h⟩;obtain⟨ar,cx,rfl,h,av⟩:=AQ h;refine A6<|Bo 2 Z<|Ag (AZ az)<|AA 1 Z<|AL h ?_ ?_<;>intro bx h
       ·refine Au<|Aq<|A6<|A2<|LX (Qqz 0 16 (.tail 16)) mixed Qqb (fun cy a9=>?_);have ac:=au.call a9;have al:=AH au a9;refine B9 2 Z<|HO 38 Z (fun e=>?_) (fun e=>?_)
        ·have h:=AcF e h
         iterate 3 refine CM Z (Ai Z) Z Z Z e Z ?_
         refine Ax h fun bz h=>CM Z (Ay bz) Z Z Z e Z<|Ax h fun ba h=>?_;have f:=f.mono (Ab al);refine I2 Z Z Z Z e Z Z Ajv f ((b+d).toNat) (Cx ba) (AM ba) Z ?_;rintro cz _ ⟨_,_,rfl,rfl,⟨_,_,rfl,rfl,rfl⟩⟩ b0;refine CM Z (Ae Z Ajn Z Dl.e) Z Z Z e Z ?_;have b1:=b0.add 0;refine CM Z (AT b1 (Av ac)) Z Z Z e Z ?_
         iterate 2 refine CM Z (Ai Z) Z Z Z e Z ?_
         refine Ax h fun bb h=>I2 Z Z Z Z e Z Z Ae5 az d.toNat (Cx bb) (AM bb) Z ?_;rintro c0 _ rfl b2;refine CM Z (AT b2 (hH.trans ac.arg)) Z Z Z e Z<|CM Z (Kj Z Z) Z Z Z e Z<|B2 Z (AF e Z) Z<|B9 1 Z<|Bt (fun c1 bc=>?_);have b3:=ac.call bc;have aw:=AH ac bc;refine AE<|Az<|Aq<|An<|As 1 Z<|Ax h fun b4 h=>Ag (Ay b4)<|As 1 Z<|AE ?_;have h:=Bw.again h av;have c:=c.mono (Ab (al.trans aw));have f:=f.mono (Ab aw);refine AD (_,_,_) Z ⟨b3,f,c,h⟩
        have h:=AcG e h
        iterate 12 refine NP Z Z Z Z e Z ?_
        refine B2 Z (AG e Z) Z<|B9 1 Z<|Bt (fun c3 bd=>?_);have b5:=ac.call bd;have ax:=AH ac bd;refine AE<|Az<|Aq<|An<|As 1 Z<|Ax h fun b6 h=>Ag (Ay b6)<|As 1 Z<|AE ?_;have h:=Bw.again h av;have f:=f.mono (Ab (al.trans ax));have c:=c.mono (Ab (al.trans ax));refine AD (_,_,_) Z ⟨b5,f,c,h⟩
       refine Bf<|A5<|A3 ?_;have h:=Bw.out h av;refine AY<|A8 _ ⟨au,f,c,h⟩
      rintro ak cp ⟨be,ad,c,h⟩;refine A7 1 Z<|Bi h ?_ ?_<;>intro b7 h
      ·refine An<|As 3 Z<|Ag (Ba (fun _=>Tf _ _ _))<|Bx [(a,b)] (r:=AlA) (fun _=>Zc _ _ _) be (.c2 ⟨_,_,Z,Z,Z⟩ .nil) fun c4 c5 cq b8 ay b9=>Ax h fun ca h=>?_;have c:=c.mono (Ab ay);refine Bp (r:=AlA) 0 j [(a,b)] Z Ae7 b8 Z c b9 ca fun ci c6 cb cc bm cd=>As 1 Z<|AE<|Az ?_;have ad:=ad.mono (Ab (ay.trans bm));refine A8 (_,_,_) ⟨cc,ad,cd,h⟩
      refine Au<|Az<|A8 (_,_,_) ⟨be,ad,c,h⟩
     rintro⟨an,aj,ab⟩ cr ⟨ce,bi,bn,h⟩;refine An<|As 1 Z<|Ax h fun cf h=>Ag (Ay cf)<|As 1 Z<|AE ?_;have h:=Bw.again h a8;refine AD (_,_,_,_,_) Z ⟨ce,bi,bn,h⟩
    refine Bf<|A5<|A3 ?_;have h:=Bw.out h a8;refine AY<|Az<|A8 (_,_,_) ⟨a7,c,h⟩
   rintro⟨am,ai,aa⟩ cs ⟨cg,bo,h⟩;refine An<|As 1 Z<|Ax h fun ch h=>Ag (Ay ch)<|As 1 Z<|AE ?_;have h:=Bw.again h a5;refine AD (_,_,_,_,_) Z ⟨cg,bo,h⟩
  refine Bf<|A5<|A3 ?_;have h:=Bw.out h a5;refine AY<|A8 (_,_,_) ⟨ag,ah,h⟩
 rintro⟨ap,ao,af⟩ ct ⟨bf,bp,h⟩;refine A7 2 Z<|Aw ?_
 cases h
 refine Ah Z ⟨bf.ext,_,Z,(bf.FV hH (i:=0) Z bp)⟩
def Q2(a:Int)(b:Bool):Option ((Bool×Int)⊕(Al6⊕(Qq5))):=
 AU (Bq (a+1)) (some (Sum.inl (b,(a+1))))
def IE(a3 b:Int)(e:Alr)(c:Alr):Bool×Int->Option ((Bool×Int)⊕((Bool×Int)⊕(Al6⊕(Qq5)))):=fun⟨d,a⟩=>
 if a<(c.length:Int)then AU (0<=b/\b<(e.length:Int)) (AU (0<=a/\a<(c.length:Int)) (AU (Bq ((e.getD b.toNat Qq2).2 - (c.getD a.toNat Qq2).2)) (if d then AU (Bq (a+1)) (some (Sum.inl (true,(a+1))))else if((e.getD b.toNat Qq2).2 - (c.getD a.toNat Qq2).2)=0 then AU (Bq (a+1)) (some (Sum.inl (false,(a+1))))else AU (Bq (-a3)) (Qq9 (Ew ((e.getD b.toNat Qq2).2 - (c.getD a.toNat Qq2).2) (-a3) a3) (fun f=>AU (Bq (a+1)) (some (Sum.inl (f,(a+1)))))))))else Qzx Sum.inr ((Q2 b) d)
def TV(a3 a:Int)(b:Alr)(c:Alr)(s:Bool×Int):Option ((Bool×Int)⊕(Al6⊕(Qq5))):=Go.L.run (IE a3 a b c) s
def NG(a:Int)(b:Qq5):Option (Al6⊕(Qq5)):=
 AU (Bq (a+1)) (some (Sum.inl (b,(a+1))))
def NH(b:Qq5)(a:Int)(c:Bool):Option (Al6⊕(Qq5)):=
 if c then AU (Go.E.Fz 8 (b.length+([a]).length)) ((NG a) (b++[a]))else(NG a) b
def K4(a3:Int)(e:Qq5)(c:Int)(d:Alr)(f:Alr):Bool×Int->Option ((Bool×Int)⊕(Al6⊕(Qq5))):=fun⟨a,b⟩=>
 if b<(d.length:Int)then(TV a3 b d f) (a,0)else Qzx Sum.inr ((NH e c) a)
def TW(a3:Int)(b:Qq5)(a:Int)(c:Alr)(d:Alr)(s:Bool×Int):Option (Al6⊕(Qq5)):=Go.L.run (K4 a3 b a c d) s
def Q3(a:Qq5):Option (Qq5):=
 some a
def IF(a0:List Abv)(a1:Abv)(a2:Abv)(a3:Int):Qq5×Int->Option (Al6⊕(Qq5)):=fun⟨b,a⟩=>
 if a<(a0.length:Int)then AU (Bq (a+1)) (AU (0<=a/\a<=(a+1)/\(a+1)<=(a0.length:Int)) (Qq9 (NM ((a0.drop a.toNat).take ((a+1).toNat - a.toNat)) ([a1])) (fun c=>AU (Bq (a+1)) (AU (0<=a/\a<=(a+1)/\(a+1)<=(a0.length:Int)) (Qq9 (NM ((a0.drop a.toNat).take ((a+1).toNat - a.toNat)) ([a2])) (fun d=>(TW a3 b a c d) (false,0)))))))else Qzx Sum.inr (Q3 b)
def TX(a0:List Abv)(a1:Abv)(a2:Abv)(a3:Int)(s:Al6):Option (Qq5):=Go.L.run (IF a0 a1 a2 a3) s
def Sk(a0:List Abv)(a1:Abv)(a2:Abv)(a3:Int):Option (Qq5):=
 (TX a0 a1 a2 a3) (([]:Qq5),0)
theorem Zo{a0:List Abv}{a1 a2:Abv}{a3:Int}{z:Value}(a6:AS (.vec .byte) H z a0){r:Qq5}(h:Sk a0 a1 a2 a3=some r):
  Qqv 28 [z,Abu a1,Abu a2,No a3] w (fun v w'=>∃u0,v=u0/\Cd 3 (.int .i64) H w w' u0 r):=by
 refine A4 80 [(0,z),(1,(Abu a1)),(2,(Abu a2)),(3,No a3)] func28 Z fun hL=>A7 1 Z<|Bo 1 Z ?_;obtain⟨c5,dj,c6⟩:=Cp (.int .i64) H 3 hL;refine Ad<|Bb (Qq5×Value×Qq6) (fun⟨an,ai,ac⟩=>[(9,ai)]) (fun⟨an,ai,ac⟩ wr=>C5 w [.row ai 3 1 (an).length ac] wr fun Oz=>AK (.int .i64) (gz H w wr Oz) an ac/\Q3 an=some r) ?_ ?_
 ·refine A7 1 Z<|A2 ?_;obtain⟨a7,h⟩:=AR h;refine Bj (Qq5×Int×Value×Qq6×Nat) (fun⟨d,a,f,c,n⟩=>[(0,z),(1,(Abu a1)),(2,(Abu a2)),(3,No a3),(9,f),(10,No a)]) (fun⟨d,a,f,c,n⟩ wr=>C5 w [.row f 3 1 (d).length c] wr fun Oz=>AK (.int .i64) (gz H w wr Oz) d c/\DR (IF a0 a1 a2 a3) n (d,a)=some r) (fun⟨d,a,f,c,n⟩=>n) (([]:Qq5),0,Aal,[],a7) Z ⟨c5,c6,h⟩ ?_;rintro⟨d,a,f,c,nn481⟩ c8 ⟨ba,ad,h⟩;obtain⟨a7,a8,rfl,h,bb⟩:=AQ h;refine A6<|Bo 2 Z<|Ag (AZ a6)<|AA 1 Z<|AL h ?_ ?_<;>intro b0 h
  ·refine Au<|Aq<|Bb (Qq5×Value×Qq6) (fun⟨ag,ae,aa⟩=>[(0,z),(1,(Abu a1)),(2,(Abu a2)),(3,No a3),(9,ae),(10,No a)]) (fun⟨ag,ae,aa⟩ wr=>C5 w [.row ae 3 1 (ag).length aa] wr fun Oz=>AK (.int .i64) (gz H w wr Oz) ag aa/\(NG a) ag=some a8) ?_ ?_
   ·refine A2<|Bo 3 Z<|Ax h fun b1 h=>Ag (Ay b1)<|Ax h fun b2 h=>Wu a6 b2 fun dk b3=>As 1 Z<|Bx [a1] (r:=.st) (fun _=>Mw _ Z _) ba (.c1 Z .nil) fun dl dm c9 av br b4=>A1 h fun ao b5 h=>Br av (Q1 _ _ (Av av) (b3.mono  Aj) b4 b5) ?_;rintro t dn ⟨_,rfl,bl⟩ b6 b7 bs;have ah:=bl.Cu hH av b6;refine AA 1 Z<|Bo 3 Z<|Ax h fun b8 h=>Ag (Ay b8)<|Ax h fun b9 h=>Wu a6 b9 fun dp ca=>As 1 Z<|Bx [a2] (r:=.st) (fun _=>Mw _ Z _) b7 (.c1 Z .nil) fun dq dr da aw a4 cb=>A1 h fun ap cc h=>Br aw (Q1 _ _ (Av aw) (ca.mono  Aj) cb cc) ?_;rintro u ds ⟨_,rfl,bm⟩ cd bc a5;have bn:=bm.Cu hH aw cd;refine AA 1 Z ?_;have ax:=bc.rG H;refine A7 1 Z ?_
    refine Bb Bool (fun ab=>[(0,z),(1,(Abu a1)),(2,(Abu a2)),(3,No a3),(9,f),(10,No a),(13,.bool ab)]) (fun ab wr=>C5 w [.row f 3 1 (d).length c] wr fun Oz=>AK (.int .i64) (gz H w wr Oz) d c/\(NH d a) ab=some a8) ?_ ?_
    ·refine A7 1 Z<|A2 ?_;obtain⟨a9,h⟩:=AR h;have ad:=ad.mono (Ab (br.trans (bs.trans (a4.trans a5))));have ah:=ah.mono (Ab (a4.trans a5));refine Bj (Bool×Int×Nat) (fun⟨k,e,n⟩=>[(0,z),(1,(Abu a1)),(2,(Abu a2)),(3,No a3),(9,f),(10,No a),(11,t),(12,u),(13,.bool k),(14,No e)]) (fun⟨k,e,n⟩ wr=>C5 w [.row f 3 1 (d).length c] wr fun Oz=>AS AlA (gz H w wr Oz) t ao/\AS AlA (gz H w wr Oz) u ap/\AK (.int .i64) (gz H w wr Oz) d c/\DR (K4 a3 d a ao ap) n (k,e)=some a8) (fun⟨k,e,n⟩=>n) (false,0,a9) Z ⟨bc,(ah.mono ax),(bn.mono ax),(ad.mono ax),h⟩ ?_;rintro⟨k,e,nn848⟩ db ⟨ay,au,bo,he848_r1,h⟩;obtain⟨a9,bt,rfl,h,bd⟩:=AQ h;refine A6 ?_;have af:=ay.rG H;refine Bo 2 Z<|Ag (AZ (au.mono af))<|AA 1 Z<|AL h ?_ ?_<;>intro ce h
     ·refine Au<|Aq<|Bb Bool (fun x=>[(0,z),(1,(Abu a1)),(2,(Abu a2)),(3,No a3),(9,f),(10,No a),(11,t),(12,u),(13,.bool x),(14,No e)]) (fun x wr=>C5 w [.row f 3 1 (d).length c] wr fun Oz=>AS AlA (gz H w wr Oz) t ao/\AS AlA (gz H w wr Oz) u ap/\AK (.int .i64) (gz H w wr Oz) d c/\(Q2 e) x=some bt) ?_ ?_
      ·refine A2<|A7 1 Z<|A2 ?_;obtain⟨aq,h⟩:=AR h;refine Bj (Bool×Int×Nat) (fun⟨p,g,n⟩=>[(0,z),(1,(Abu a1)),(2,(Abu a2)),(3,No a3),(9,f),(10,No a),(11,t),(12,u),(13,.bool p),(14,No e),(15,No g)]) (fun⟨p,g,n⟩ wr=>C5 w [.row f 3 1 (d).length c] wr fun Oz=>AS AlA (gz H w wr Oz) t ao/\AS AlA (gz H w wr Oz) u ap/\AK (.int .i64) (gz H w wr Oz) d c/\DR (IE a3 e ao ap) n (p,g)=some bt) (fun⟨p,g,n⟩=>n) (k,0,aq) Z ⟨ay,(au.mono af),(bo.mono af),(he848_r1.mono af),h⟩ ?_;rintro⟨p,g,nn943⟩ dc ⟨aj,y,s,he943_r1,h⟩;obtain⟨aq,dt,rfl,h,ak⟩:=AQ h;refine A6 ?_;have b:=aj.rG H;refine Bo 2 Z<|Ag (AZ (s.mono b))<|AA 1 Z<|AL h ?_ ?_<;>intro cf h
       ·refine Au<|Aq<|A6<|A2<|BZ (Qqz 0 12 (.tail 12)) mixed Qqb (fun du be=>?_);have al:=aj.call be;have bu:=AH aj be;refine B9 2 Z<|Ax h fun bf h=>?_;have b:=b.trans (Ab bu);refine CP Z Z Z Ae7 (y.mono b) e.toNat (Cx bf) (AM bf) Z ?_;rintro dv _ ⟨_,_,rfl,rfl,rfl⟩ cg;refine B2 Z (Ae Z Afi Z BB.e) Z ?_;have ch:=cg.add 1;refine B2 Z (AT ch (Av al)) Z<|B9 2 Z<|Ax h fun bg h=>CP Z Z Z Ae7 (s.mono b) g.toNat (Cx bg) (AM bg) Z ?_;rintro dw _ ⟨_,_,rfl,rfl,rfl⟩ ci;refine B2 Z (Ae Z Afi Z BB.e) Z ?_;have cj:=ci.add 1;refine B2 Z (AT cj (Av al)) Z<|Ax h fun ck h=>B2 Z (Ay ck) Z<|B9 1 Z<|Bt (fun dx bh=>?_);have am:=al.call bh;have ar:=AH al bh;refine Ad<|An<|As 2 Z<|Cv 63 h ?_ ?_<;>intro j h
        ·iterate 3 refine Ar j ?_
         iterate 5 refine BS ?_
         refine Ar j<|Ag (AF j Z)<|As 1 Z<|AE<|Az<|Aq<|An<|As 1 Z<|Ax h fun cl h=>Ag (Ay cl)<|As 1 Z<|AE ?_;have h:=Bw.again h ak;have b:=b.trans (Ab ar);refine AD (_,_,_) Z ⟨am,(y.mono b),(s.mono b),(he943_r1.mono b),h⟩
        refine Aa j<|Ag (Ai Z)<|Aa j<|Ag (Ai Z)<|Aa j<|Ag (Ai Z)<|Et 66 h ?_ ?_<;>intro o h
        ·refine Aa o<|Ag (Ai Z)<|Aa o<|Ag (Ai Z)<|Aa o<|Ax h fun cm h=>Ag (AiT cm)<|Aa o<|Ag (Ai Z)<|Aa o<|A1 h fun c2 cn h=>A9 am (D0 _ _ (Av am) cn) fun dy dd co bv=>Aa j<|Ag (AF o Z)<|Ag (AG j Z)<|As 1 Z<|AE<|Az<|Aq<|An<|As 1 Z<|Ax h fun cp h=>Ag (Ay cp)<|As 1 Z ?_;refine AE ?_;have h:=Bw.again h ak;have b:=b.trans (Ab (ar.trans bv));refine AD (_,_,_) Z ⟨co,(y.mono b),(s.mono b),(he943_r1.mono b),h⟩
        iterate 5 refine Ar o ?_
        refine Aa j<|Ag (AG o Z)<|Ag (AG j Z)<|As 1 Z<|AE<|Az<|Aq<|An<|As 1 Z<|Ax h fun cq h=>Ag (Ay cq)<|As 1 Z<|AE ?_;have h:=Bw.again h ak;have b:=b.trans (Ab ar);refine AD (_,_,_) Z ⟨am,(y.mono b),(s.mono b),(he943_r1.mono b),h⟩
       refine Bf<|A5<|A3 ?_;have h:=Bw.out h ak;refine AY<|Az<|A8 _ ⟨aj,(y.mono b),(s.mono b),(he943_r1.mono b),h⟩
      rintro x de ⟨bi,bp,bq,he912_r1,h⟩;have az:=bi.rG H;refine An<|As 1 Z<|Ax h fun cr h=>Ag (Ay cr)<|As 1 Z<|AE ?_;have h:=Bw.again h bd;refine AD (_,_,_) Z ⟨bi,(bp.mono az),(bq.mono az),(he912_r1.mono az),h⟩
     refine Bf<|A5<|A3 ?_;have h:=Bw.out h bd;refine AY<|A8 _ ⟨ay,(he848_r1.mono af),h⟩
    rintro ab df ⟨bj,he783_r1,h⟩;refine A7 1 Z<|Bi h ?_ ?_<;>intro cs h
    ·refine An<|As 2 Z<|Bx [a] (r:=(.int .i64)) (fun _=>FX _ _) bj (.c1 Z .nil) fun dz d0 dg ct bw cu=>Ax h fun cv h=>?_;have he783_r1:=he783_r1.mono (Ab bw);refine Bp (r:=(.int .i64)) 0 d [a] Z Aco ct Z he783_r1 cu cv fun c3 d1 cw cx c7 cy=>As 1 Z<|AE<|Az<|A8 (_,_,_) ⟨cx,cy,h⟩
    refine Au<|Az<|A8 (_,_,_) ⟨bj,he783_r1,h⟩
   rintro⟨ag,ae,aa⟩ dh ⟨cz,bx,h⟩;refine An<|As 1 Z<|Ax h fun c0 h=>Ag (Ay c0)<|As 1 Z<|AE ?_;have h:=Bw.again h bb;refine AD (_,_,_,_,_) Z ⟨cz,bx,h⟩
  refine Bf<|A5<|A3 ?_;have h:=Bw.out h bb;refine AY<|A8 (_,_,_) ⟨ba,ad,h⟩
 rintro⟨an,ai,ac⟩ di ⟨bk,bz,h⟩;refine A7 2 Z<|Aw ?_
 cases h
 refine Ah Z ⟨bk.ext,_,Z,(bk.FV hH (i:=0) Z bz)⟩
def Jf(a0:Qv):Option Int:=
 Qq9 (IY a0.f.2.2.1) (fun a=>if a.1=0 then(if a0.f.1=3 then if((!decide (1<=a0.f.2.2.2.2.1/\a0.f.2.2.2.2.1<=2048))||((decide (a0.f.1=6))&&(decide (a0.f.2.2.2.2.2.1<a0.f.2.2.2.2.1))))then some (4)else(if((decide (a0.f.1=4))&&(decide ((a0.f.2.2.2.1.length:Int)=0)))then some (10)else(if 64<(a0.f.2.2.2.1.length:Int)then some (3)else some (0)))else if((decide (a0.f.1=6))&&(decide (a0.f.2.2.2.2.2.1<a0.f.2.2.2.2.1)))then some (4)else(if((decide (a0.f.1=4))&&(decide ((a0.f.2.2.2.1.length:Int)=0)))then some (10)else(if 64<(a0.f.2.2.2.1.length:Int)then some (3)else some (0))))else some (a.1))
def G6(a0:Qv):Int->Option ((Int)⊕(Int)):=fun a=>
 if a<(a0.f.2.1.length:Int)then AU (0<=a/\a<(a0.f.2.1.length:Int)) (Qq9 (L5 (a0.f.2.1.getD a.toNat Qq2)) (fun b=>if b.1=0 then AU (Bq (a+1)) (some (Sum.inl (a+1)))else Qzx Sum.inr (some (b.1))))else Qzx Sum.inr ((Jf a0))
def OQ(a0:Qv)(s:Int):Option Int:=Go.L.run (G6 a0) s
def D8(a0:Qv):Option Int:=
 (OQ a0) (0:Int)
def ET(a0:Qv):Int->Option ((Int)⊕(Int)):=fun a=>
 if((decide (a<(a0.f.2.2.2.2.2.2.length:Int)))&&(decide (a0.f.1<10)))then AU (0<=a/\a<(a0.f.2.2.2.2.2.2.length:Int)) (if(a0.f.2.2.2.2.2.2.getD a.toNat Qq2).f.1=a0.f.1 then Qzx Sum.inr (some (6))else AU (Bq (a+1)) (some (Sum.inl (a+1))))else Qzx Sum.inr ((D8 a0))
def OR(a0:Qv)(s:Int):Option Int:=Go.L.run (ET a0) s
def Jg(a0:Qv):Option Int:=
 (OR a0) (0:Int)
def L7(a0:Qv):Option Int:=
 if 1<=a0.f.1/\a0.f.1<=10 then AU (0<=a0.f.1/\a0.f.1<11) (AU (0<=a0.f.1/\a0.f.1<11) (if(((!decide ((([0,1,2,2,0,0,0,0,0,0,0]:Qq5).getD a0.f.1.toNat Qq2)<=(a0.f.2.1.length:Int)/\(a0.f.2.1.length:Int)<=(([0,1,16,2,0,0,0,0,0,0,0]:Qq5).getD a0.f.1.toNat Qq2)))||((!decide (5<=a0.f.1/\a0.f.1<=7))&&(!decide (a0.f.2.2.1=([]:Abv)))))||(((!decide (a0.f.1=4))&&(!decide (a0.f.1=7)))&&(decide (0<(a0.f.2.2.2.1.length:Int)))))then some (6)else(if((((!decide (a0.f.1=3))&&(!decide (a0.f.1=6)))&&(!decide (a0.f.2.2.2.2.1=0)))||((!decide (a0.f.1=6))&&(!decide (a0.f.2.2.2.2.2.1=0))))then some (6)else(if(((decide (a0.f.1<8))&&(decide (0<(a0.f.2.2.2.2.2.2.length:Int))))||((decide (a0.f.1=10))&&(!decide ((a0.f.2.2.2.2.2.2.length:Int)=1))))then some (6)else if((decide (8<=a0.f.1/\a0.f.1<=9))&&(decide ((a0.f.2.2.2.2.2.2.length:Int)<2)))then some (6)else(Jg a0)))))else some (5)
theorem TY{a0:Qv}{am an ao:Value}(a2:AS .st H am (a0.f.2.1))(av:AS .byte H an (a0.f.2.2.2.1))(aw:AS .Cy H ao (a0.f.2.2.2.2.2.2)){r:Int}(h:L7 a0=some r):
  Qqv 56 [.agg #[No a0.f.1,am,Abu a0.f.2.2.1,an,No a0.f.2.2.2.2.1,No a0.f.2.2.2.2.2.1,ao]] w (fun v w'=>v=No r):=by
 refine A4 190 [(0,.agg #[No a0.f.1,am,Abu a0.f.2.2.1,an,No a0.f.2.2.2.2.1,No a0.f.2.2.2.2.2.1,ao])] func56 Z fun hL=>Ao<|BM (t:=30) Z Z hL fun w1 b1 bf dh _=>AA 1 Z<|A6<|Ao<|Ag (Ae Z AjR Z BB.e)<|Ag (Af 0 Z bf Z)<|A9 bf (Aa9 _ _ (Av bf)) fun w2 ea cq di=>AA 1 Z<|BG h ?_ ?_<;>intro cy h
 ·refine A7 1 Z<|Aw<|Am ?_
  cases h
  refine Ah Z ⟨cq.ext,Z⟩
 refine Au<|Aq<|Ao<|Ag (Ba (fun _=>HH _ _ _ _ _ _ _ _ _ _ _ _))<|AO AcV.e Z cq fun w6 b6 cz dj _=>Ak 0 Z cz Z fun w7 c0 dk=>Ad<|Ao<|Ag (Ba (fun _=>HH _ _ _ _ _ _ _ _ _ _ _ _))<|AO AcV.e Z c0 fun w8 b8 c1 dl _=>Ak 0 Z c1 Z fun w9 c2 dm=>Ad<|A6<|BZ (Qqz 0 40 (.tail 40)) mixed Qqb (fun eb cr=>?_);have z:=c2.call cr;refine B2 Z (Ae Z AjR Z H3.e) Z<|B2 Z (Af 2 Z z Z) Z<|B2 Z (AZ a2) Z<|B2 Z (Ae Z AjR Z BB.e) Z<|B2 Z (Af 2 Z z Z) Z<|Ax h fun bi h=>B2 Z (Aax Z bi Z) Z ?_
 refine B2 Z (Adb (l:=([0,1,2,2,0,0,0,0,0,0,0]:Qq5)) 1 _ Z Ac6 z Z Z (AM bi)) Z<|B2 Z (Ae Z AjR Z BB.e) Z<|B2 Z (Af 2 Z z Z) Z<|Ax h fun bj h=>B2 Z (Aax Z bj Z) Z<|B2 Z (Adb (l:=([0,1,16,2,0,0,0,0,0,0,0]:Qq5)) 0 _ Z Ac6 z Z Z (AM bj)) Z<|Er Z Z Z (fun ec dn=>Aa9 _ _ (Le.refl _))<|B9 2 Z<|Aaz 10 38 (.bool ((!decide ((([0,1,2,2,0,0,0,0,0,0,0]:Qq5).getD a0.f.1.toNat Qq2)<=(a0.f.2.1.length:Int)/\(a0.f.2.1.length:Int)<=(([0,1,16,2,0,0,0,0,0,0,0]:Qq5).getD a0.f.1.toNat Qq2)))||((!decide (5<=a0.f.1/\a0.f.1<=7))&&(!decide (a0.f.2.2.1=([]:Abv)))))) (fun bk=>?_) ?_
 ·refine HO 28 Z (fun j=>?_) (fun j=>?_)
  ·iterate 5 refine NP Z Z Z Z j Z ?_
   iterate 3 refine ZZ Z Z Z Z Z ?_
   refine NP Z Z Z Z j Z<|B2 Z (AF j Z) Z<|bk.to 9 (XL j) Z Z
  refine CM Z (Ae Z AjR Z BB.e) Z Z Z j Z<|CM Z (Af 2 Z z Z) Z Z Z j Z<|Sf Z Z Z Z j Z Z (fun ed dp=>Aa9 _ _ (Le.refl _)) ?_
  iterate 2 refine CM Z (Ai Z) Z Z Z j Z ?_
  refine Aaz 4 37 (.bool ((!decide (5<=a0.f.1/\a0.f.1<=7))&&(!decide (a0.f.2.2.1=([]:Abv))))) (fun bl=>?_) ?_
  ·refine HO 33 Z (fun ah=>?_) (fun ah=>?_)
   ·refine CM Z (Ae Z AjR Z Dl.e) Z Z Z ah Z<|CM Z (Af 2 Z z Z) Z Z Z ah Z<|CM Z (Rn Z Z) Z Z Z ah Z<|CM Z (AF ah Z) Z Z Z j Z<|bl.to 3 (LM ah) Z Z
   iterate 3 refine NP Z Z Z Z ah Z ?_
   refine CM Z (AG ah Z) Z Z Z j Z<|bl.to 3 (LN ah) Z Z
  refine B2 Z (AG j Z) Z<|bk.to 6 (XM j) Z Z
 refine B9 1 Z<|Aaz 15 54 (.bool (((!decide ((([0,1,2,2,0,0,0,0,0,0,0]:Qq5).getD a0.f.1.toNat Qq2)<=(a0.f.2.1.length:Int)/\(a0.f.2.1.length:Int)<=(([0,1,16,2,0,0,0,0,0,0,0]:Qq5).getD a0.f.1.toNat Qq2)))||((!decide (5<=a0.f.1/\a0.f.1<=7))&&(!decide (a0.f.2.2.1=([]:Abv)))))||(((!decide (a0.f.1=4))&&(!decide (a0.f.1=7)))&&(decide (0<(a0.f.2.2.2.1.length:Int)))))) (fun bm=>?_) ?_
 ·refine HO 39 Z (fun c=>?_) (fun c=>?_)
  ·iterate 4 refine NP Z Z Z Z c Z ?_
   iterate 3 refine ZZ Z Z Z Z Z ?_
   iterate 2 refine NP Z Z Z Z c Z ?_
   iterate 4 refine ZZ Z Z Z Z Z ?_
   refine NP Z Z Z Z c Z<|B2 Z (AF c Z) Z<|bm.to 14 (XL c) Z Z
  refine CM Z (Ae Z AjR Z BB.e) Z Z Z c Z<|CM Z (Af 2 Z z Z) Z Z Z c Z ?_
  iterate 2 refine CM Z (Ai Z) Z Z Z c Z ?_
  refine Aaz 4 47 (.bool ((!decide (a0.f.1=4))&&(!decide (a0.f.1=7)))) (fun bn=>?_) ?_
  ·refine HO 43 Z (fun ai=>?_) (fun ai=>?_)
   ·refine CM Z (Ae Z AjR Z BB.e) Z Z Z ai Z<|CM Z (Af 2 Z z Z) Z Z Z ai Z<|CM Z (Ai Z) Z Z Z ai Z<|CM Z (AF ai Z) Z Z Z c Z<|bn.to 3 (LM ai) Z Z
   iterate 3 refine NP Z Z Z Z ai Z ?_
   refine CM Z (AG ai Z) Z Z Z c Z<|bn.to 3 (LN ai) Z Z
  refine CM Z (Ai Z) Z Z Z c Z<|Aaz 5 53 (.bool (((!decide (a0.f.1=4))&&(!decide (a0.f.1=7)))&&(decide (0<(a0.f.2.2.2.1.length:Int))))) (fun bo=>?_) ?_
  ·refine HO 48 Z (fun ad=>?_) (fun ad=>?_)
   ·refine CM Z (Ae Z AjR Z Fy.e) Z Z Z ad Z<|CM Z (Af 2 Z z Z) Z Z Z ad Z<|CM Z (AZ av) Z Z Z ad Z<|CM Z (Ai Z) Z Z Z ad Z<|CM Z (AF ad Z) Z Z Z c Z<|bo.to 4 (LM ad) Z Z
   iterate 4 refine NP Z Z Z Z ad Z ?_
   refine CM Z (AG ad Z) Z Z Z c Z<|bo.to 4 (LN ad) Z Z
  refine B2 Z (AG c Z) Z<|bm.to 7 (XM c) Z Z
 refine Bt (fun ee cs=>?_);have d:=z.call cs;refine Ad<|Bi h ?_ ?_<;>intro ct h
 ·refine A7 1 Z<|Aw<|Am ?_
  cases h
  refine Ah Z ⟨d.ext,Z⟩
 refine Au<|Aq<|A6<|Ao<|Ag (Ae Z AjR Z BB.e)<|Ag (Af 2 Z d Z)<|As 2 Z<|Jm 4 62 (.bool ((!decide (a0.f.1=3))&&(!decide (a0.f.1=6)))) (fun bp=>?_) ?_
 ·refine D5 (s:=58) Z (fun aj=>?_) (fun aj=>?_)
  ·refine Aa aj<|Ag (Ae Z AjR Z BB.e)<|Aa aj<|Ag (Af 2 Z d Z)<|Aa aj<|Ag (Ai Z)<|Ag (AF aj Z)<|bp.to 3 (LM aj) Z Z
  iterate 3 refine Ar aj ?_
  refine Ag (AG aj Z)<|bp.to 3 (LN aj) Z Z
 refine As 1 Z<|Jm 4 67 (.bool (((!decide (a0.f.1=3))&&(!decide (a0.f.1=6)))&&(!decide (a0.f.2.2.2.2.1=0)))) (fun bq=>?_) ?_
 ·refine D5 (s:=63) Z (fun ak=>?_) (fun ak=>?_)
  ·refine Aa ak<|Ag (Ae Z AjR Z BB.e)<|Aa ak<|Ag (Af 2 Z d Z)<|Aa ak<|Ag (Ai Z)<|Ag (AF ak Z)<|bq.to 3 (LM ak) Z Z
  iterate 3 refine Ar ak ?_
  refine Ag (AG ak Z)<|bq.to 3 (LN ak) Z Z
 refine As 1 Z<|Jm 9 77 (.bool ((((!decide (a0.f.1=3))&&(!decide (a0.f.1=6)))&&(!decide (a0.f.2.2.2.2.1=0)))||((!decide (a0.f.1=6))&&(!decide (a0.f.2.2.2.2.2.1=0))))) (fun br=>?_) ?_
 ·refine D5 (s:=68) Z (fun k=>?_) (fun k=>?_)
  ·iterate 4 refine Ar k ?_
   iterate 3 refine BS ?_
   refine Ar k<|Ag (AF k Z)<|br.to 8 (XL k) Z Z
  refine Aa k<|Ag (Ae Z AjR Z BB.e)<|Aa k<|Ag (Af 2 Z d Z)<|Aa k<|Ag (Ai Z)<|Aa k<|Ag (Ai Z)<|Jm 4 76 (.bool ((!decide (a0.f.1=6))&&(!decide (a0.f.2.2.2.2.2.1=0)))) (fun bs=>?_) ?_
  ·refine D5 (s:=72) Z (fun al=>?_) (fun al=>?_)
   ·refine Aa al<|Ag (Ae Z AjR Z BB.e)<|Aa al<|Ag (Af 2 Z d Z)<|Aa al<|Ag (Ai Z)<|Aa k<|Ag (AF al Z)<|bs.to 3 (LM al) Z Z
   iterate 3 refine Ar al ?_
   refine Aa k<|Ag (AG al Z)<|bs.to 3 (LN al) Z Z
  refine Ag (AG k Z)<|br.to 5 (XM k) Z Z
 refine Ad<|Bi h ?_ ?_<;>intro cu h
 ·refine A7 1 Z<|Aw<|Am ?_
  cases h
  refine Ah Z ⟨d.ext,Z⟩
 refine Au<|Aq<|Bb Unit (fun(_:Unit)=>[(1,(Abo b1))]) (fun(_:Unit) wr=>Bk w [.box b8 [No 0,No 1,No 16,No 2,No 0,No 0,No 0,No 0,No 0,No 0,No 0] 188,.box b6 [No 0,No 1,No 2,No 2,No 0,No 0,No 0,No 0,No 0,No 0,No 0] 188,.box b1 [No a0.f.1,am,Abu a0.f.2.2.1,an,No a0.f.2.2.2.2.1,No a0.f.2.2.2.2.2.1,ao] 30] wr/\(Jg a0)=some r) ?_ ?_
 ·refine Ao<|Ag (Ae Z AjR Z BB.e)<|Ag (Af 2 Z d Z)<|As 2 Z<|Jm 5 86 (.bool ((decide (a0.f.1<8))&&(decide (0<(a0.f.2.2.2.2.2.2.length:Int))))) (fun bt=>?_) ?_
  ·refine D5 (s:=81) Z (fun ae=>?_) (fun ae=>?_)
   ·refine Aa ae<|Ag (Ae Z AjR Z Lj.e)<|Aa ae<|Ag (Af 2 Z d Z)<|Aa ae<|Ag (AZ aw)<|Aa ae<|Ag (Ai Z)<|Ag (AF ae Z)<|bt.to 4 (LM ae) Z Z
   iterate 4 refine Ar ae ?_
   refine Ag (AG ae Z)<|bt.to 4 (LN ae) Z Z
  refine As 1 Z<|Jm 10 97 (.bool (((decide (a0.f.1<8))&&(decide (0<(a0.f.2.2.2.2.2.2.length:Int))))||((decide (a0.f.1=10))&&(!decide ((a0.f.2.2.2.2.2.2.length:Int)=1))))) (fun bu=>?_) ?_
  ·refine D5 (s:=87) Z (fun m=>?_) (fun m=>?_)
   ·iterate 4 refine Ar m ?_
    iterate 4 refine BS ?_
    refine Ar m<|Ag (AF m Z)<|bu.to 9 (XL m) Z Z
   refine Aa m<|Ag (Ae Z AjR Z BB.e)<|Aa m<|Ag (Af 2 Z d Z)<|Aa m<|Ag (Ai Z)<|Aa m<|Ag (Ai Z)<|Jm 5 96 (.bool ((decide (a0.f.1=10))&&(!decide ((a0.f.2.2.2.2.2.2.length:Int)=1)))) (fun bv=>?_) ?_
   ·refine D5 (s:=91) Z (fun af=>?_) (fun af=>?_)
    ·refine Aa af<|Ag (Ae Z AjR Z Lj.e)<|Aa af<|Ag (Af 2 Z d Z)<|Aa af<|Ag (AZ aw)<|Aa af<|Ag (Ai Z)<|Aa m<|Ag (AF af Z)<|bv.to 4 (LM af) Z Z
    iterate 4 refine Ar af ?_
    refine Aa m<|Ag (AG af Z)<|bv.to 4 (LN af) Z Z
   refine Ag (AG m Z)<|bu.to 5 (XM m) Z Z
  refine As 1 Z<|Cv 98 h ?_ ?_<;>intro aa h
  ·iterate 4 refine Ar aa ?_
   iterate 4 refine BS ?_
   refine Ar aa<|Ag (AF aa Z)<|Ad<|DS<|A7 1 Z<|Aw<|AN ?_
   cases h
   refine Ah Z ⟨d.ext,Z⟩
  refine Aa aa<|Ag (Ae Z AjR Z BB.e)<|Aa aa<|Ag (Af 2 Z d Z)<|Aa aa<|A9 d (Aa9 _ _ (Av d)) fun ef dq a3 da=>Aa aa<|Ag (Ai Z)<|Jm 5 107 (.bool ((decide (8<=a0.f.1/\a0.f.1<=9))&&(decide ((a0.f.2.2.2.2.2.2.length:Int)<2)))) (fun bw=>?_) ?_
  ·refine D5 (s:=102) Z (fun ag=>?_) (fun ag=>?_)
   ·refine Aa ag<|Ag (Ae Z AjR Z Lj.e)<|Aa ag<|Ag (Af 2 Z a3 Z)<|Aa ag<|Ag (AZ aw)<|Aa ag<|Ag (Ai Z)<|Aa aa<|Ag (AF ag Z)<|bw.to 4 (LM ag) Z Z
   iterate 4 refine Ar ag ?_
   refine Aa aa<|Ag (AG ag Z)<|bw.to 4 (LN ag) Z Z
  refine Ag (AG aa Z)<|Ad<|Bi h ?_ ?_<;>intro cv h
  ·refine A7 1 Z<|Aw<|AN ?_
   cases h
   refine Ah Z ⟨a3.ext,Z⟩
  refine Au<|A8 () ⟨a3,h⟩
 rintro _ dr ⟨cw,h⟩;refine Bb Unit (fun(_:Unit)=>[(1,(Abo b1))]) (fun(_:Unit) wr=>Bk w [.box b8 [No 0,No 1,No 16,No 2,No 0,No 0,No 0,No 0,No 0,No 0,No 0] 188,.box b6 [No 0,No 1,No 2,No 2,No 0,No 0,No 0,No 0,No 0,No 0,No 0] 188,.box b1 [No a0.f.1,am,Abu a0.f.2.2.1,an,No a0.f.2.2.2.2.1,No a0.f.2.2.2.2.2.1,ao] 30] wr/\(D8 a0)=some r) ?_ ?_
 ·refine A7 1 Z<|A2 ?_;obtain⟨a4,h⟩:=AR h;refine Bj (Int×Nat) (fun⟨x,n⟩=>[(1,(Abo b1)),(5,No x)]) (fun⟨x,n⟩ wr=>Bk w [.box b8 [No 0,No 1,No 16,No 2,No 0,No 0,No 0,No 0,No 0,No 0,No 0] 188,.box b6 [No 0,No 1,No 2,No 2,No 0,No 0,No 0,No 0,No 0,No 0,No 0] 188,.box b1 [No a0.f.1,am,Abu a0.f.2.2.1,an,No a0.f.2.2.2.2.1,No a0.f.2.2.2.2.2.1,ao] 30] wr/\DR (ET a0) n x=some r) (fun⟨x,n⟩=>n) (0,a4) Z ⟨cw,h⟩ ?_;rintro⟨x,nn114⟩ db ⟨aq,h⟩;obtain⟨a4,ds,rfl,h,ay⟩:=AQ h;refine A6<|Bo 1 Z<|Ag (Ae Z AjR Z Lj.e)<|Ag (Af 2 Z aq Z)<|Ag (AZ aw)<|As 2 Z<|Jm 4 118 (.bool ((decide (x<(a0.f.2.2.2.2.2.2.length:Int)))&&(decide (a0.f.1<10)))) (fun a6=>?_) ?_
  ·refine D5 (s:=114) Z (fun y=>?_) (fun y=>?_)
   ·refine Aa y<|Ag (Ae Z AjR Z BB.e)<|Aa y<|Ag (Af 2 Z aq Z)<|Aa y<|Ag (Ai Z)<|Ag (AF y Z)<|a6.to 3 (LM y) Z Z
   iterate 3 refine Ar y ?_
   refine Ag (AG y Z)<|a6.to 3 (LN y) Z Z
  refine Ad<|Bi h ?_ ?_<;>intro bx h
  ·refine Au<|Aq<|A6<|A2<|BZ (Qqz 0 9 (.tail 9)) mixed Qqb (fun dt bz=>?_);have ar:=aq.call bz;refine B2 Z (Ae Z AjR Z Lj.e) Z<|B2 Z (Af 2 Z ar Z) Z<|B9 1 Z<|Ax h fun a7 h=>CP Z Z Z Akn aw x.toNat (Cx a7) (AM a7) Z ?_;rintro du _ e121t0 b0;obtain⟨_,_,rfl,rfl,⟨_,_,rfl,⟨e121v1,rfl,e121h1⟩,⟨_,_,rfl,rfl,⟨_,_,rfl,⟨e121v3,rfl,e121h3⟩,⟨_,_,rfl,rfl,⟨_,_,rfl,rfl,⟨e121v6,rfl,e121h6⟩⟩⟩⟩⟩⟩⟩:=Go.E.Rp.Ev e121t0;refine B2 Z (Ae Z AjR Z BB.e) Z ?_;have b2:=b0.add 0;refine B2 Z (AT b2 (hH.trans ar.arg)) Z<|B2 Z (Ae Z AjR Z BB.e) Z<|B2 Z (Af 2 Z ar Z) Z<|B9 1 Z<|Bt (fun dv b3=>?_);have a8:=ar.call b3;refine Ad<|AL h ?_ ?_<;>intro b4 h
   ·refine A7 1 Z<|Aw<|Al<|Am<|Bc ?_;have h:=Bw.out h ay;refine Al<|AN ?_
    cases h
    refine Ah Z ⟨a8.ext,Z⟩
   refine Au<|Az<|Aq<|An<|As 1 Z<|Ax h fun b5 h=>Ag (Ay b5)<|As 1 Z<|AE ?_;have h:=Bw.again h ay;refine AD (_,_) Z ⟨a8,h⟩
  refine Bf<|A5<|A3 ?_;have h:=Bw.out h ay;refine AY<|A8 () ⟨aq,h⟩
 rintro _ dw ⟨cx,h⟩;refine Bb Unit (fun(_:Unit)=>[(1,(Abo b1))]) (fun(_:Unit) wr=>Bk w [.box b8 [No 0,No 1,No 16,No 2,No 0,No 0,No 0,No 0,No 0,No 0,No 0] 188,.box b6 [No 0,No 1,No 2,No 2,No 0,No 0,No 0,No 0,No 0,No 0,No 0] 188,.box b1 [No a0.f.1,am,Abu a0.f.2.2.1,an,No a0.f.2.2.2.2.1,No a0.f.2.2.2.2.2.1,ao] 30] wr/\(Jf a0)=some r) ?_ ?_
 ·refine A7 1 Z<|A2 ?_;obtain⟨a5,h⟩:=AR h;refine Bj (Int×Nat) (fun⟨ab,n⟩=>[(1,(Abo b1)),(6,No ab)]) (fun⟨ab,n⟩ wr=>Bk w [.box b8 [No 0,No 1,No 16,No 2,No 0,No 0,No 0,No 0,No 0,No 0,No 0] 188,.box b6 [No 0,No 1,No 2,No 2,No 0,No 0,No 0,No 0,No 0,No 0,No 0] 188,.box b1 [No a0.f.1,am,Abu a0.f.2.2.1,an,No a0.f.2.2.2.2.1,No a0.f.2.2.2.2.2.1,ao] 30] wr/\DR (G6 a0) n ab=some r) (fun⟨ab,n⟩=>n) (0,a5) Z ⟨cx,h⟩ ?_;rintro⟨ab,nn179⟩ dc ⟨ap,h⟩;obtain⟨a5,dx,rfl,h,az⟩:=AQ h;refine A6<|Bo 1 Z<|Ag (Ae Z AjR Z H3.e)<|Ag (Af 2 Z ap Z)<|Ag (AZ a2)<|AA 1 Z<|AL h ?_ ?_<;>intro b7 h
  ·refine Au<|Aq<|A6<|A2<|Ao<|Ag (Ae Z AjR Z H3.e)<|Ag (Af 2 Z ap Z)<|As 1 Z<|Ax h fun a9 h=>AW a2 ab.toNat (Cx a9) (AM a9) ?_;rintro dy _ rfl b9;refine Ag (AT b9 (hH.trans ap.arg))<|A1 h fun dz ca h=>A9 ap (TU _ _ (Av ap) ca) fun d0 dd cb c3=>AO AI.e Z cb fun d1 d2 cc c4 _=>Ak 0 Z cc Z fun d3 au c5=>Ad<|Ao<|Ag (Ae Z Ae3 Z BB.e)<|Ag (Af 0 Z au Z)<|AA 1 Z<|BG h ?_ ?_<;>intro cd h
   ·refine Ao<|Ag (Ae Z Ae3 Z BB.e)<|Ag (Af 0 Z au Z)<|AA 1 Z<|Aw<|Al<|Am<|Bc ?_;have h:=Bw.out h az;refine Al<|AN ?_
    cases h
    refine Ah Z ⟨au.ext,Z⟩
   refine Au<|Az<|Aq<|An<|As 1 Z<|Ax h fun ce h=>Ag (Ay ce)<|As 1 Z<|AE ?_;have cf:=au.Bl (i:=0) Z;have h:=Bw.again h az;refine AD (_,_) Z ⟨cf,h⟩
  refine Bf<|A5<|A3 ?_;have h:=Bw.out h az;refine AY<|A8 () ⟨ap,h⟩
 rintro _ de ⟨a1,h⟩;refine A6<|Ao<|Ag (Ae Z AjR Z Dl.e)<|Ag (Af 2 Z a1 Z)<|A1 h fun d4 cg h=>A9 a1 (Rw _ _ (Av a1) cg) fun d5 df ch c6=>AO AI.e Z ch fun d6 d7 ci c7 _=>Ak 0 Z ci Z fun d8 a c8=>Ad<|Ao<|Ag (Ae Z Ae3 Z BB.e)<|Ag (Af 0 Z a Z)<|AA 1 Z<|BG h ?_ ?_<;>intro cj h
 ·refine Ao<|Ag (Ae Z Ae3 Z BB.e)<|Ag (Af 0 Z a Z)<|AA 1 Z<|Aw<|Am ?_
  cases h
  refine Ah Z ⟨a.ext,Z⟩
 refine Au<|Aq<|A6<|Ao<|Ag (Ae Z AjR Z BB.e)<|Ag (Af 3 Z a Z)<|As 2 Z<|Bz 159 h ?_ ?_<;>intro ac h
 ·refine Aa ac<|Ag (Ae Z AjR Z BB.e)<|Aa ac<|Ag (Af 3 Z a Z)<|Aa ac<|A9 a (Aa9 _ _ (Av a)) fun d9 dg o c9=>Aa ac<|Ag (Ai Z)<|Ag (AF ac Z)<|As 1 Z<|Jm 11 176 (.bool ((!decide (1<=a0.f.2.2.2.2.1/\a0.f.2.2.2.2.1<=2048))||((decide (a0.f.1=6))&&(decide (a0.f.2.2.2.2.2.1<a0.f.2.2.2.2.1))))) (fun ba=>?_) ?_
  ·refine D5 (s:=165) Z (fun b=>?_) (fun b=>?_)
   ·iterate 4 refine Ar b ?_
    iterate 5 refine BS ?_
    refine Ar b<|Ag (AF b Z)<|ba.to 10 (XL b) Z Z
   refine Aa b<|Ag (Ae Z AjR Z BB.e)<|Aa b<|Ag (Af 3 Z o Z)<|Aa b<|Ag (Ai Z)<|Aa b<|Ag (Ai Z)<|Jm 6 175 (.bool ((decide (a0.f.1=6))&&(decide (a0.f.2.2.2.2.2.1<a0.f.2.2.2.2.1)))) (fun bb=>?_) ?_
   ·refine D5 (s:=169) Z (fun e=>?_) (fun e=>?_)
    ·refine Aa e<|Ag (Ae Z AjR Z BB.e)<|Aa e<|Ag (Af 3 Z o Z)<|Aa e<|Ag (Ae Z AjR Z BB.e)<|Aa e<|Ag (Af 3 Z o Z)<|Aa e<|Ag (Ai Z)<|Aa b<|Ag (AF e Z)<|bb.to 5 (LM e) Z Z
    iterate 5 refine Ar e ?_
    refine Aa b<|Ag (AG e Z)<|bb.to 5 (LN e) Z Z
   refine Ag (AG b Z)<|ba.to 5 (XM b) Z Z
  refine Ad<|Bi h ?_ ?_<;>intro ck h
  ·refine A7 1 Z<|Aw<|Am ?_
   cases h
   refine Ah Z ⟨o.ext,Z⟩
  refine Au<|Aq<|A6<|Ao<|Ag (Ae Z AjR Z BB.e)<|Ag (Af 3 Z o Z)<|As 2 Z<|Jm 5 185 (.bool ((decide (a0.f.1=4))&&(decide ((a0.f.2.2.2.1.length:Int)=0)))) (fun bc=>?_) ?_
  ·refine D5 (s:=180) Z (fun p=>?_) (fun p=>?_)
   ·refine Aa p<|Ag (Ae Z AjR Z Fy.e)<|Aa p<|Ag (Af 3 Z o Z)<|Aa p<|Ag (AZ av)<|Aa p<|Ag (Ai Z)<|Ag (AF p Z)<|bc.to 4 (LM p) Z Z
   iterate 4 refine Ar p ?_
   refine Ag (AG p Z)<|bc.to 4 (LN p) Z Z
  refine Ad<|Bi h ?_ ?_<;>intro cl h
  ·refine A7 1 Z<|Aw<|Am ?_
   cases h
   refine Ah Z ⟨o.ext,Z⟩
  refine Au<|Aq<|A6<|Ao<|Ag (Ae Z AjR Z Fy.e)<|Ag (Af 3 Z o Z)<|Ag (AZ av)<|AA 1 Z<|AL h ?_ ?_<;>intro cm h
  ·refine A7 1 Z<|Aw<|Am ?_
   cases h
   refine Ah Z ⟨o.ext,Z⟩
  refine Au<|Aq<|A7 1 Z<|Aw ?_
  cases h
  refine Ah Z ⟨o.ext,Z⟩
 iterate 4 refine Ar ac ?_
 refine Ag (AG ac Z)<|As 1 Z<|Aa Z<|Ag (Ae Z AjR Z BB.e)<|Aa Z<|Ag (Af 3 Z a Z)<|Aa Z<|Ag (Ai Z)<|Aa Z<|Ag (Ai Z)<|Jm 6 175 (.bool ((decide (a0.f.1=6))&&(decide (a0.f.2.2.2.2.2.1<a0.f.2.2.2.2.1)))) (fun bd=>?_) ?_
 ·refine D5 (s:=169) Z (fun g=>?_) (fun g=>?_)
  ·refine Aa g<|Ag (Ae Z AjR Z BB.e)<|Aa g<|Ag (Af 3 Z a Z)<|Aa g<|Ag (Ae Z AjR Z BB.e)<|Aa g<|Ag (Af 3 Z a Z)<|Aa g<|Ag (Ai Z)<|Aa Z<|Ag (AF g Z)<|bd.to 5 (LM g) Z Z
  iterate 5 refine Ar g ?_
  refine Aa Z<|Ag (AG g Z)<|bd.to 5 (LN g) Z Z
 refine Ag (AG Z Z)<|Ad<|Bi h ?_ ?_<;>intro cn h
 ·refine A7 1 Z<|Aw<|Am ?_
  cases h
  refine Ah Z ⟨a.ext,Z⟩
 refine Au<|Aq<|A6<|Ao<|Ag (Ae Z AjR Z BB.e)<|Ag (Af 3 Z a Z)<|As 2 Z<|Jm 5 185 (.bool ((decide (a0.f.1=4))&&(decide ((a0.f.2.2.2.1.length:Int)=0)))) (fun be=>?_) ?_
 ·refine D5 (s:=180) Z (fun u=>?_) (fun u=>?_)
  ·refine Aa u<|Ag (Ae Z AjR Z Fy.e)<|Aa u<|Ag (Af 3 Z a Z)<|Aa u<|Ag (AZ av)<|Aa u<|Ag (Ai Z)<|Ag (AF u Z)<|be.to 4 (LM u) Z Z
  iterate 4 refine Ar u ?_
  refine Ag (AG u Z)<|be.to 4 (LN u) Z Z
 refine Ad<|Bi h ?_ ?_<;>intro co h
 ·refine A7 1 Z<|Aw<|Am ?_
  cases h
  refine Ah Z ⟨a.ext,Z⟩
 refine Au<|Aq<|A6<|Ao<|Ag (Ae Z AjR Z Fy.e)<|Ag (Af 3 Z a Z)<|Ag (AZ av)<|AA 1 Z<|AL h ?_ ?_<;>intro cp h
 ·refine A7 1 Z<|Aw<|Am ?_
  cases h
  refine Ah Z ⟨a.ext,Z⟩
 refine Au<|Aq<|A7 1 Z<|Aw ?_
 cases h
 refine Ah Z ⟨a.ext,Z⟩
end
def L8(a:Int):Option Al2:=
 some (a,(0,0))
def FC(a0:Qv)(a2:Int)(self:Qv->Int->Int->Option Al2):Int×Int->Option (Qq7⊕Al2):=fun⟨b,a⟩=>
 if a<(a0.f.2.2.2.2.2.2.length:Int)then AU (0<=a/\a<(a0.f.2.2.2.2.2.2.length:Int)) (AU (Bq (a2+1)) (Qq9 (self (a0.f.2.2.2.2.2.2.getD a.toNat Qq2) b (a2+1)) (fun c=>if c.2.1=0 then AU (Bq (a+1)) (some (Sum.inl (c.1,(a+1))))else Qzx Sum.inr (some (0,(c.2.1,c.2.2))))))else Qzx Sum.inr (L8 b)
def Q4(a0:Qv)(a2:Int)(self:Qv->Int->Int->Option Al2)(s:Int×Int):Option Al2:=Go.L.run (FC a0 a2 self) s
def Hv(self:Qv->Int->Int->Option Al2)(a0:Qv)(a1 a2:Int):Option Al2:=
 if(40<=a1)\/(8<a2)then Qq9 (N4 (2:Int) a1) (fun b=>some (0,(b.1,b.2)))else Qq9 (L7 a0) (fun c=>if c=0 then AU (Bq (a1+1)) ((Q4 a0 a2 self) ((a1+1),0))else Qq9 (N4 c a1) (fun a=>some (0,(a.1,a.2))))
def HD(self:Qv->Int->Int->Option Al2):Prop:=∀(w:World) (H:PH) (hH:Le H (hp w)) {a0:Qv}{a1:Int}{a2:Int}{a:Value}{b:Value}{c:Value} (d:AS .st H a (a0.f.2.1)) (e:AS .byte H b (a0.f.2.2.2.1)) (g:AS .Cy H c (a0.f.2.2.2.2.2.2)) {r:Al2} (h:self a0 a1 a2=some r),Ok prog 24 [.agg #[No a0.f.1,a,Abu a0.f.2.2.1,b,No a0.f.2.2.2.2.1,No a0.f.2.2.2.2.2.1,c],No a1,No a2] w (fun v w'=>Ext w w'/\v=.tuple #[No r.1,.agg #[No r.2.1,No r.2.2]])
def EU:Nat->Qv->Int->Int->Option Al2
 | 0=>fun _ _ _=>none
 | n+1=>Hv (EU n)
def On:Qv->Int->Int->Option Al2:=EU 1000
theorem Q5(self:Qv->Int->Int->Option Al2)(hself:HD self):HD (Hv self):=by
 intro w H hH a0 a1 a2 g j k ag ah l r h;unfold HD at hself;refine A4 56 [(0,.agg #[No a0.f.1,g,Abu a0.f.2.2.1,j,No a0.f.2.2.2.2.1,No a0.f.2.2.2.2.2.1,k]),(1,No a1),(2,No a2)] func24 Z fun hL=>Ao<|BM (t:=30) Z Z hL fun w1 b1 ay bf _=>As 1 Z<|AO AI.e Z ay fun w2 b2 e bg _=>Ad<|A6<|Bo 3 Z<|Ab3 2 2 Z Z Z Z Z Z<|Ad<|AL h ?_ ?_<;>intro az h
 ·refine Bo 1 Z<|A1 h fun x5 a3 h=>A9 e (Jn _ _ (Av e) a3) fun w6 br a4 bh=>As 1 Z<|Ak 0 Z a4 Z fun w7 af bi=>Ad<|Aw<|Am ?_
  cases h
  refine Bv (.tmp Z) (.cell Z Ae3 Z AI.e (AP (i:=0) af Z)) ⟨af.ext,Z⟩
 refine Au<|Aq<|A6<|Ao<|Ag (AJ 1 Z Fj.e e Z)<|A1 h fun x9 a5 h=>A9 e (TY (a0:=a0) _ _ (Av e) (ag.mono  Aj) (ah.mono  Aj) (l.mono  Aj) a5) fun bs bj m a9=>AA 1 Z<|A7 2 Z<|BG h ?_ ?_<;>intro aj h
 ·refine Bo 2 Z<|A1 h fun bt ak h=>A9 m (Jn _ _ (Av m) ak) fun bu bk al ba=>As 1 Z<|Ak 0 Z al Z fun bv x bb=>Ad<|Aw<|Am ?_
  cases h
  refine Bv (.tmp Z) (.cell Z Ae3 Z AI.e (AP (i:=0) x Z)) ⟨x.ext,Z⟩
 refine Au<|Aq<|Bo 1 Z<|Ax h fun am h=>Ag (Ay am)<|AA 1 Z<|Bb Int (fun d=>[(7,(Abo b2)),(9,No d)]) (fun d wr=>Bk w [.box b2 [No 0,No 0] 35,.box b1 [No a0.f.1,g,Abu a0.f.2.2.1,j,No a0.f.2.2.2.2.1,No a0.f.2.2.2.2.2.1,k] 30] wr/\L8 d=some r) ?_ ?_
 ·refine A7 1 Z<|A2 ?_;obtain⟨y,h⟩:=AR h;refine Bj (Int×Int×Nat) (fun⟨b,a,n⟩=>[(2,No a2),(3,(Abo b1)),(7,(Abo b2)),(9,No b),(10,No a)]) (fun⟨b,a,n⟩ wr=>Bk w [.box b2 [No 0,No 0] 35,.box b1 [No a0.f.1,g,Abu a0.f.2.2.1,j,No a0.f.2.2.2.2.1,No a0.f.2.2.2.2.2.1,k] 30] wr/\DR (FC a0 a2 self) n (b,a)=some r) (fun⟨b,a,n⟩=>n) ((a1+1),0,y) Z ⟨m,h⟩ ?_;rintro⟨b,a,nn86⟩ bl ⟨c,h⟩;obtain⟨y,bw,rfl,h,o⟩:=AQ h;refine A6<|Bo 1 Z<|Ag (Ae Z AjR Z Lj.e)<|Ag (Af 1 Z c Z)<|Ag (AZ l)<|AA 1 Z<|AL h ?_ ?_<;>intro an h
  ·refine Au<|Aq<|A6<|A2<|Ao<|Ag (Ae Z AjR Z Lj.e)<|Ag (Af 1 Z c Z)<|As 1 Z<|Ax h fun z h=>AW l a.toNat (Cx z) (AM z) ?_;rintro bx _ e90t0 ao;obtain⟨_,_,rfl,rfl,⟨_,_,rfl,⟨e90v1,rfl,e90h1⟩,⟨_,_,rfl,rfl,⟨_,_,rfl,⟨e90v3,rfl,e90h3⟩,⟨_,_,rfl,rfl,⟨_,_,rfl,rfl,⟨e90v6,rfl,e90h6⟩⟩⟩⟩⟩⟩⟩:=Go.E.Rp.Ev e90t0;refine Ag (BI ao (hH.trans c.arg))<|As 2 Z<|Ax h fun ap h=>Ag (Ay ap)<|A1 h fun a6 aq h=>A9 c (hself _ _ (Av c) (e90h1.mono  Aj) (e90h3.mono  Aj) (e90h6.mono  Aj) aq) fun bz bm ar bc=>As 3 Z<|AO AI.e Z ar fun b0 b3 au bd _=>As 1 Z<|Ak 0 Z au Z fun b4 p be=>Ad<|A6<|Ao<|Ag (Ae Z Ae3 Z BB.e)<|Ag (Af 0 Z p Z)<|AA 1 Z<|BG h ?_ ?_<;>intro av h
   ·refine BZ (.q 0 (.q 1 (.tail 2))) mixed Qqb (fun b5 aw=>?_);have s:=p.call aw;refine B2 Z (AJ 0 Z AI.e s Z) Z<|B9 1 Z<|Bt (fun bn ab=>?_);have ac:=s.call ab;refine Ak 1 Z ac Z fun bo u a7=>Ad<|Aw<|Am<|Al<|Am<|Bc ?_;have h:=Bw.out h o;refine Al<|AN ?_
    cases h
    refine Bv (.tmp Z) (.cell Z Ae3 Z AI.e (AP (i:=1) u Z)) ⟨u.ext,Z⟩
   refine Au<|Aq<|An<|As 2 Z<|AE<|Az<|Aq<|An<|As 1 Z<|Ax h fun ad h=>Ag (Ay ad)<|As 1 Z<|AE ?_;have ae:=p.Bl (i:=0) Z;have h:=Bw.again h o;refine AD (_,_,_) Z ⟨ae,h⟩
  refine Bf<|A5<|A3 ?_;have h:=Bw.out h o;refine AY<|A8 _ ⟨c,h⟩
 rintro d bp ⟨ax,h⟩;refine Bo 1 Z<|Ag (Ba (fun _=>B8 _))<|As 1 Z<|Ak 0 Z ax Z fun bq v a8=>Ad<|Aw ?_
 cases h
 refine Bv (.tmp Z) (.cell Z Ae3 Z AI.e (AP (i:=0) v Z)) ⟨v.ext,Z⟩
theorem S8(n:Nat):HD (EU n):=by
 induction n with
 | zero=>unfold HD;intros;rename_i h;cases h
 | succ n ih=>exact Q5 (EU n) ih
section
variable(w:World)(H:PH)(hH:Le H (hp w)) include hH
theorem TZ{a0:Qv}{a1 a2:Int}{a b c:Value}(d:AS .st H a (a0.f.2.1))(e:AS .byte H b (a0.f.2.2.2.1))(g:AS .Cy H c (a0.f.2.2.2.2.2.2)){r:Al2}(h:On a0 a1 a2=some r):Ok prog 24 [.agg #[No a0.f.1,a,Abu a0.f.2.2.1,b,No a0.f.2.2.2.2.1,No a0.f.2.2.2.2.2.1,c],No a1,No a2] w (fun v w'=>Ext w w'/\v=.tuple #[No r.1,.agg #[No r.2.1,No r.2.2]]):=S8 1000 w H hH d e g h
def I9(c:Abv)(a b:Int):Option ((Abv×Int)⊕(Abv)):=
 AU (Bq (48+b)) (AU (Go.E.Fz 1 (([(Go.L.u8 (48+b))]).length+c.length)) (AU (-9223372036854775808<=a/\a<=9223372036854775807/\0<(10:Int)) (some (Sum.inl (([(Go.L.u8 (48+b))]++c),(Int.tdiv a (10:Int)))))))
def Nn(a0:Int)(a:Abv):Option Abv:=
 if a0<0 then AU (Go.E.Fz 1 (([(45:UInt8)]).length+a.length)) (some (([(45:UInt8)]++a)))else some a
def EW(a0:Int):Abv×Int->Option ((Abv×Int)⊕(Abv)):=fun⟨b,a⟩=>
 if a=0 then Qzx Sum.inr ((Nn a0) b)else AU (-9223372036854775808<=a/\a<=9223372036854775807/\0<(10:Int)) (if(Int.tmod a (10:Int))<0 then AU (Bq (-(Int.tmod a (10:Int)))) ((I9 b a) (-(Int.tmod a (10:Int))))else(I9 b a) (Int.tmod a (10:Int)))
def QN(a0:Int)(s:Abv×Int):Option Abv:=Go.L.run (EW a0) s
def JV(a0:Int):Option Abv:=
 if a0=0 then some (([48]:Abv))else(QN a0) (([]:Abv),a0)
theorem Np{a0:Int}{r:Abv}(h:JV a0=some r):
  Qqv 57 [No a0] w (fun v w'=>v=(Abu r)):=by
 refine A4 32 [(0,No a0)] func57 Z fun hL=>A7 1 Z<|A6<|A7 2 Z<|AL h ?_ ?_<;>intro az h
 ·refine A7 1 Z<|Aw<|Am ?_
  cases h
  refine Ah Z ⟨hL.ext,Z⟩
 refine Au<|Aq<|A7 1 Z<|Bb (Abv×Value×Qq6) (fun⟨k,o,g⟩=>[(0,No a0),(3,o)]) (fun⟨k,o,g⟩ wr=>C5 w [.row o 5 1 (k).length g] wr fun Oz=>AK .byte (gz H w wr Oz) k g/\(Nn a0) k=some r) ?_ ?_
 ·refine A7 2 Z<|A2 ?_;obtain⟨ad,a3,ae⟩:=Cp .byte H 5 hL;obtain⟨u,h⟩:=AR h;refine Bj (Abv×Int×Value×Qq6×Nat) (fun⟨e,a,f,b,n⟩=>[(0,No a0),(3,f),(4,No a)]) (fun⟨e,a,f,b,n⟩ wr=>C5 w [.row f 5 1 (e).length b] wr fun Oz=>AK .byte (gz H w wr Oz) e b/\DR (EW a0) n (e,a)=some r) (fun⟨e,a,f,b,n⟩=>n) (([]:Abv),a0,Aal,[],u) Z ⟨ad,ae,h⟩ ?_;rintro⟨e,a,f,b,nn64⟩ a6 ⟨p,c,h⟩;obtain⟨u,a1,rfl,h,x⟩:=AQ h;refine A6<|A7 2 Z<|BG h ?_ ?_<;>intro af h
  ·refine Au<|Aq<|A6<|A2<|Bo 1 Z<|Ax h fun ag h=>Ag (AjL Z Z ag)<|AA 1 Z<|Bb Int (fun d=>[(0,No a0),(3,f),(4,No a),(5,No d)]) (fun d wr=>C5 w [.row f 5 1 (e).length b] wr fun Oz=>AK .byte (gz H w wr Oz) e b/\(I9 e a) d=some a1) ?_ ?_
   ·refine A7 2 Z<|AL h ?_ ?_<;>intro ah h
    ·refine An<|As 1 Z<|Ax h fun ai h=>Ag (AiT ai)<|As 1 Z<|AE<|A8 _ ⟨p,c,h⟩
    refine Au<|A8 _ ⟨p,c,h⟩
   rintro d a7 ⟨aj,c,h⟩;refine An<|As 1 Z<|Ax h fun ak h=>Ag (Ay ak)<|Ag (Gn (KK _))<|Rl [(Go.L.u8 (48+d))] (r:=.byte) (fun _=>JJ _ _) (B4 1) hH aj (.c1 Z .nil) fun bc bd a8 y ab q=>As 1 Z ?_;have c:=c.mono (Ab ab);have al:=y.Cu hH (i:=1) Z c;have am:=y.Bl (i:=1) Z;refine Ax h fun an h=>?_;have q:=q.mono (Ab (AB (i:=1) Z));refine Bp (r:=.byte) 0 [(Go.L.u8 (48+d))] e Z Ae1 am Z q al an fun a2 be ao ap a4 aq=>As 1 Z<|AE<|Az<|Aq<|An<|As 1 Z<|Ax h fun ar h=>Ag (AjK ar)<|As 1 Z<|AE ?_;have h:=Bw.again h x;refine AD (_,_,_,_,_) Z ⟨ap,aq,h⟩
  refine Bf<|A5<|A3 ?_;have h:=Bw.out h x;refine AY<|A8 (_,_,_) ⟨p,c,h⟩
 rintro⟨k,o,g⟩ a9 ⟨s,j,h⟩;refine A6<|A7 2 Z<|AL h ?_ ?_<;>intro au h
 ·refine An<|Rl [(45:UInt8)] (r:=.byte) (fun _=>JJ _ _) (B4 1) hH s (.c1 Z .nil) fun bf bg ba z ac t=>As 1 Z ?_;have j:=j.mono (Ab ac);have av:=z.Cu hH (i:=1) Z j;have aw:=z.Bl (i:=1) Z;refine Ax h fun ax h=>?_;have t:=t.mono (Ab (AB (i:=1) Z));refine Bp (r:=.byte) 0 [(45:UInt8)] k Z Ae1 aw Z t av ax fun bh bi bb aa a5 ay=>As 1 Z<|AE<|Aq<|Bo 1 Z<|Ag (NS (aa.MZ hH (i:=0) Z ay) (Le.refl _))<|AA 1 Z<|Aw ?_
  cases h
  refine Ah Z ⟨aa.ext,Z⟩
 refine Au<|Aq<|Bo 1 Z<|Ag (NS (s.MZ hH (i:=0) Z j) (Le.refl _))<|AA 1 Z<|Aw ?_
 cases h
 refine Ah Z ⟨s.ext,Z⟩
def HE(a0:Abv)(b:Abv)(a:Int)(c:Bool):Option ((Abv×Int)⊕(Abv)):=
 if c then AU (0<=a/\a<(a0.length:Int)) (AU (Go.E.Fz 1 (b.length+([a0.getD a.toNat Qq2]).length)) (AU (Bq (a+1)) (some (Sum.inl ((b++[a0.getD a.toNat Qq2]),(a+1))))))else AU (0<=a/\a<(a0.length:Int)) (AU (0<=((a0.getD a.toNat Qq2).toNat:Int)/\((a0.getD a.toNat Qq2).toNat:Int)<=9223372036854775807/\0<(16:Int)) (Qq9 (IA (((a0.getD a.toNat Qq2).toNat:Int) / (16:Int))) (fun d=>AU (0<=a/\a<(a0.length:Int)) (AU (0<=((a0.getD a.toNat Qq2).toNat:Int)/\((a0.getD a.toNat Qq2).toNat:Int)<=9223372036854775807/\0<(16:Int)) (Qq9 (IA (((a0.getD a.toNat Qq2).toNat:Int) % (16:Int))) (fun e=>AU (Go.E.Fz 1 (b.length+([(92:UInt8),d,e]).length)) (AU (Bq (a+1)) (some (Sum.inl ((b++[(92:UInt8),d,e]),(a+1)))))))))))
def Oo(a:Abv):Option Abv:=
 AU (Go.E.Fz 1 (a.length+([(39:UInt8)]).length)) (some ((a++[(39:UInt8)])))
def GQ(a0:Abv):Abv×Int->Option ((Abv×Int)⊕(Abv)):=fun⟨b,a⟩=>
 if a<(a0.length:Int)then AU (0<=a/\a<(a0.length:Int)) (if 32<=((a0.getD a.toNat Qq2).toNat:Int)/\((a0.getD a.toNat Qq2).toNat:Int)<=126 then AU (0<=a/\a<(a0.length:Int)) (if((a0.getD a.toNat Qq2).toNat:Int)=39 then(HE a0 b a) false else AU (0<=a/\a<(a0.length:Int)) ((HE a0 b a) (!decide (((a0.getD a.toNat Qq2).toNat:Int)=92))))else(HE a0 b a) false)else Qzx Sum.inr (Oo b)
def RQ(a0:Abv)(s:Abv×Int):Option Abv:=Go.L.run (GQ a0) s
def MT(a0:Abv):Option Abv:=
 (RQ a0) ([(39:UInt8)],0)
theorem RR{a0:Abv}{u:Value}(k:AS .byte H u a0){r:Abv}(h:MT a0=some r):
  Qqv 58 [u] w (fun v w'=>v=(Abu r)):=by
 refine A4 60 [(0,u)] func58 Z fun hL=>A7 1 Z<|Ao<|Rl [(39:UInt8)] (r:=.byte) (fun _=>JJ _ _) (B4 1) hH hL (.c1 Z .nil) fun v1 w1 bw bx cd bz=>AA 1 Z<|Bb (Abv×Value×Qq6) (fun⟨y,z,p⟩=>[(3,z)]) (fun⟨y,z,p⟩ wr=>C5 w [.row z 5 1 (y).length p] wr fun Oz=>AK .byte (gz H w wr Oz) y p/\Oo y=some r) ?_ ?_
 ·refine A7 1 Z<|A2 ?_;obtain⟨aa,h⟩:=AR h;refine Bj (Abv×Int×Value×Qq6×Nat) (fun⟨c,a,g,d,n⟩=>[(0,u),(3,g),(4,No a)]) (fun⟨c,a,g,d,n⟩ wr=>C5 w [.row g 5 1 (c).length d] wr fun Oz=>AK .byte (gz H w wr Oz) c d/\DR (GQ a0) n (c,a)=some r) (fun⟨c,a,g,d,n⟩=>n) ([(39:UInt8)],0,v1,bw,aa) Z ⟨bx,bz,h⟩ ?_;rintro⟨c,a,g,d,nn148⟩ b3 ⟨s,b,h⟩;obtain⟨aa,bs,rfl,h,ab⟩:=AQ h;refine A6<|Bo 2 Z<|Ag (AZ k)<|AA 1 Z<|AL h ?_ ?_<;>intro az h
  ·refine Au<|Aq<|A6<|A2<|Bb Bool (fun j=>[(0,u),(3,g),(4,No a),(31,.bool j)]) (fun j wr=>C5 w [.row g 5 1 (c).length d] wr fun Oz=>AK .byte (gz H w wr Oz) c d/\(HE a0 c a) j=some bs) ?_ ?_
   ·refine An<|As 2 Z<|Ax h fun ai h=>AW k a.toNat (Cx ai) (AM ai) ?_;rintro ce _ rfl a1;refine Ag (AT a1 (hH.trans s.arg))<|Ag (Gn (Hz _))<|A9 s (Aa9 _ _ (Av s)) fun cf b4 o x=>As 1 Z<|Bz 18 h ?_ ?_<;>intro e h
    ·refine Aa e<|Ag (Ai Z)<|Aa e<|Ag (Ai Z)<|Aa e<|Ax h fun aj h=>AW k a.toNat (Cx aj) (AM aj) ?_;rintro cg _ rfl a2;refine Aa e<|Ag (AT a2 (hH.trans o.arg))<|Aa e<|Ag (Ai Z)<|Ag (AF e Z)<|As 1 Z<|Et 25 h ?_ ?_<;>intro f h
     ·refine Aa f<|Ag (Ai Z)<|Aa f<|Ag (Ai Z)<|Aa f<|Ax h fun ak h=>AW k a.toNat (Cx ak) (AM ak) ?_;rintro ch _ rfl a3;refine Aa f<|Ag (AT a3 (hH.trans o.arg))<|Aa f<|Ag (Ai Z)<|Ag (AF f Z)<|AE ?_;have b:=b.mono (Ab x);refine A8 _ ⟨o,b,h⟩
     iterate 5 refine Ar f ?_
     refine Ag (AG f Z)<|AE ?_;have b:=b.mono (Ab x);refine A8 _ ⟨o,b,h⟩
    iterate 5 refine Ar e ?_
    refine Ag (AG e Z)<|As 1 Z ?_
    iterate 5 refine Ar Z ?_
    refine Ag (AG Z Z)<|AE ?_;have b:=b.mono (Ab x);refine A8 _ ⟨o,b,h⟩
   rintro j b5 ⟨t,b,h⟩;refine Bi h ?_ ?_<;>intro a4 h
   ·refine An<|As 3 Z<|Ax h fun al h=>AW k a.toNat (Cx al) (AM al) ?_;rintro ci _ rfl a5;refine Ag (AT a5 (hH.trans t.arg))<|Bx [a0.getD a.toNat Qq2] (r:=.byte) (fun _=>JJ _ _) t (.c1 Z .nil) fun cj ck b6 a6 av a7=>Ax h fun a8 h=>?_;have b:=b.mono (Ab av);refine Bp (r:=.byte) 0 c [a0.getD a.toNat Qq2] Z Ae1 a6 Z b a7 a8 fun bt cl a9 ba b0 bb=>As 1 Z<|AE<|Az<|Aq<|An<|As 1 Z<|Ax h fun bc h=>Ag (Ay bc)<|As 1 Z<|AE ?_;have h:=Bw.again h ab;refine AD (_,_,_,_,_) Z ⟨ba,bb,h⟩
   refine LX (Qqz 0 15 (.h 15 (.tail 16))) mixed Qqb (fun cm am=>?_);have ac:=t.call am;have aw:=AH t am;refine B9 3 Z<|Ax h fun an h=>CP Z Z Z Ae1 k a.toNat (Cx an) (AM an) Z ?_;rintro cn _ rfl bd;refine B2 Z (AT bd (hH.trans ac.arg)) Z<|B2 Z (Gn (Hz _)) Z<|Ax h fun be h=>B2 Z (Akx be) Z<|A1 h fun ag bf h=>Er Z Z Z (fun co b7=>P5 _ _ (Le.refl _) bf)<|B9 2 Z<|Ax h fun ao h=>CP Z Z Z Ae1 k a.toNat (Cx ao) (AM ao) Z ?_;rintro cp _ rfl bg;refine B2 Z (AT bg (hH.trans ac.arg)) Z<|B2 Z (Gn (Hz _)) Z<|Ax h fun ap h=>B2 Z (Aky Z Z ⟨ap.1,ap.2.2⟩) Z<|A1 h fun ah bh h=>Er Z Z Z (fun cq b8=>P5 _ _ (Le.refl _) bh) ?_
   refine Rm [(92:UInt8),ag,ah] (r:=.byte) Z Z (fun _=>AcX _ _ _ _) Z (B4 3) hH ac (.c1 Z (.c1 Z (.c1 Z .nil))) fun cr cs b9 aq ax ad=>Bt (fun ct ar=>?_);have bi:=aq.call ar;have af:=AH aq ar;refine Ax h fun bj h=>?_;have b:=b.mono (Ab (aw.trans (ax.trans af)));have ad:=ad.mono (Ab af);refine Bp (r:=.byte) 0 c [(92:UInt8),ag,ah] Z Ae1 bi Z b ad bj fun bu cu bk bl b1 bm=>As 1 Z<|AE<|Az<|Aq<|An<|As 1 Z<|Ax h fun bn h=>Ag (Ay bn)<|As 1 Z<|AE ?_;have h:=Bw.again h ab;refine AD (_,_,_,_,_) Z ⟨bl,bm,h⟩
  refine Bf<|A5<|A3 ?_;have h:=Bw.out h ab;refine AY<|A8 (_,_,_) ⟨s,b,h⟩
 rintro⟨y,z,p⟩ cv ⟨bv,ae,h⟩;refine Bo 1 Z<|Bx [(39:UInt8)] (r:=.byte) (fun _=>JJ _ _) bv (.c1 Z .nil) fun cw cx ca bo ay bp=>Ax h fun bq h=>?_;have ae:=ae.mono (Ab ay);refine Bp (r:=.byte) 0 y [(39:UInt8)] Z Ae1 bo Z ae bp bq fun cy cz cb au b2 br=>Ag (NS (au.MZ hH (i:=0) Z br) (Le.refl _))<|AA 1 Z<|Aw ?_
 cases h
 refine Ah Z ⟨au.ext,Z⟩
end
def Hg(a1:Qv)(a:Int):Option Bool:=
 some (((decide (a=(a1.f.2.2.2.2.2.2.length:Int)))||((decide (a1.f.1=9))&&(decide (0<a)))))
def GH(a0:Abv×Pv)(a1:Qv)(self:(Abv×Pv)->Qv->Option Bool):Int×Int->Option (Qq7⊕(Bool)):=fun⟨b,a⟩=>
 if a<(a1.f.2.2.2.2.2.2.length:Int)then AU (0<=a/\a<(a1.f.2.2.2.2.2.2.length:Int)) (Qq9 (self a0 (a1.f.2.2.2.2.2.2.getD a.toNat Qq2)) (fun c=>if c then AU (Bq (b+1)) (AU (Bq (a+1)) (some (Sum.inl ((b+1),(a+1)))))else AU (Bq (a+1)) (some (Sum.inl (b,(a+1))))))else Qzx Sum.inr ((Hg a1) b)
def JB(a0:Abv×Pv)(a1:Qv)(self:(Abv×Pv)->Qv->Option Bool)(s:Int×Int):Option Bool:=Go.L.run (GH a0 a1 self) s
def Ef(a0:Abv×Pv)(a1:Qv)(self:(Abv×Pv)->Qv->Option Bool)(a:Bool):Option Bool:=
 if a then Qq9 (NM ([a0.1]) a1.f.2.1) (fun b=>some (decide (0<(b.length:Int))))else(if a1.f.1=3 then AU (0<=(0:Int)/\(0:Int)<(a1.f.2.1.length:Int)) (AU (0<=(1:Int)/\(1:Int)<(a1.f.2.1.length:Int)) (Qq9 (Sk ([a0.1]) (a1.f.2.1.getD ((0:Int).toNat) Qq2) (a1.f.2.1.getD ((1:Int).toNat) Qq2) a1.f.2.2.2.2.1) (fun c=>some (decide (0<(c.length:Int))))))else(if a1.f.1=4 then Qq9 (RO a0.1 a1.f.2.2.2.1) (fun d=>some (decide (0<(d.length:Int))))else(if a1.f.1=5 then Qq9 (NC a0.2 a1.f.2.2.1) (fun e=>some e)else(if a1.f.1=6 then Qq9 (L3 a0.2 a1.f.2.2.1 a1.f.2.2.2.2.1 a1.f.2.2.2.2.2.1) (fun g=>some g)else(if a1.f.1=7 then Qq9 (M4 a0.2 a1.f.2.2.1 a1.f.2.2.2.1) (fun h=>some h)else(if a1.f.1=10 then AU (0<=(0:Int)/\(0:Int)<(a1.f.2.2.2.2.2.2.length:Int)) (Qq9 (self a0 (a1.f.2.2.2.2.2.2.getD ((0:Int).toNat) Qq2)) (fun i=>some (!i)))else(JB a0 a1 self) (0,0)))))))
def E5(self:(Abv×Pv)->Qv->Option Bool)(a0:Abv×Pv)(a1:Qv):Option Bool:=
 if a1.f.1=1 then(Ef a0 a1 self) (decide (a1.f.1=1))else(Ef a0 a1 self) (decide (a1.f.1=2))
def JC(self:(Abv×Pv)->Qv->Option Bool):Prop:=∀(w:World) (H:PH) (hH:Le H (hp w)) {a0:Abv×Pv}{a1:Qv}{a:Value}{b:Value}{c:Value}{d:Value}{e:Value}{g:Value}{i:Value} (j:AS .byte H a (a0.1)) (k:AS .byte H b (a0.2.f.2.2.1)) (l:AS .st H c (a0.2.f.2.2.2.1)) (m:AS .tree H d (a0.2.f.2.2.2.2)) (n:AS .st H e (a1.f.2.1)) (o:AS .byte H g (a1.f.2.2.2.1)) (p:AS .Cy H i (a1.f.2.2.2.2.2.2)) {r:Bool} (h:self a0 a1=some r),Ok prog 12 [.agg #[a,No a0.2.f.1,No a0.2.f.2.1,b,c,d],.agg #[No a1.f.1,e,Abu a1.f.2.2.1,g,No a1.f.2.2.2.2.1,No a1.f.2.2.2.2.2.1,i]] w (fun v w'=>Ext w w'/\v=.bool r)
def G7:Nat->(Abv×Pv)->Qv->Option Bool
 | 0=>fun _ _=>none
 | n+1=>E5 (G7 n)
def Q6:(Abv×Pv)->Qv->Option Bool:=G7 1000
theorem RS(self:(Abv×Pv)->Qv->Option Bool)(hself:JC self):JC (E5 self):=by
 intro w H hH a0 a1 ac ad ae af ag ah ai v x y z ao az aj r h;unfold JC at hself;refine A4 113 [(0,.agg #[ac,No a0.2.f.1,No a0.2.f.2.1,ad,ae,af]),(1,.agg #[No a1.f.1,ag,Abu a1.f.2.2.1,ah,No a1.f.2.2.2.2.1,No a1.f.2.2.2.2.2.1,ai])] func12 Z fun hL=>Ao<|BM (t:=53) Z Z hL fun w1 b1 cv c9 _=>BM (t:=30) Z Z cv fun w2 b2 bv da _=>AA 1 Z<|Ao<|Ag (Ae Z AkY Z Fy.e)<|Ag (Af 1 Z bv Z)<|Bx [a0.1] (r:=(.vec .byte)) (fun _=>Mx _ v.one _) bv (.c1 ⟨_,Z,(v.mono  Aj)⟩ .nil) fun v3 w3 dj a3 db bw=>AA 1 Z<|A6<|Ao<|Ag (Ae Z AjR Z BB.e)<|Ag (Af 0 Z a3 Z)<|Ad<|A2 ?_
 refine Bb Bool (fun u=>[(2,(Abo b1)),(3,(Abo b2)),(5,v3),(12,No a1.f.1),(13,.bool u)]) (fun u wr=>C5 w [.box b2 [No a1.f.1,ag,Abu a1.f.2.2.1,ah,No a1.f.2.2.2.2.1,No a1.f.2.2.2.2.2.1,ai] 30,.box b1 [ac,No a0.2.f.1,No a0.2.f.2.1,ad,ae,af] 53] wr fun Oz=>AS (.vec .byte) (gz H w wr Oz) v3 ([a0.1])/\(Ef a0 a1 self) u=some r) ?_ ?_
 ·refine A7 2 Z<|AL h ?_ ?_<;>intro bz h
  ·refine Au<|A8 _ ⟨a3,bw,h⟩
  refine An<|As 2 Z<|AE<|A8 _ ⟨a3,bw,h⟩
 rintro u dk ⟨a,c,h⟩;refine Bi h ?_ ?_<;>intro b0 h
 ·refine Bo 1 Z<|Ag (Ae Z AjR Z H3.e)<|Ag (Af 0 Z a Z)<|A1 h fun dl b3 h=>Br a (Q1 _ _ (Av a) c (ao.mono  Aj) b3) ?_;rintro cz dm ⟨_,rfl,a4⟩ b4 b5 bh;have a5:=a4.Cu hH a b4;have c:=c.mono (Ab bh);refine Ag (AZ a5)<|AA 2 Z<|Aw<|Al<|Am ?_
  cases h
  refine Ah Z ⟨b5.ext,Z⟩
 refine A7 2 Z<|AL h ?_ ?_<;>intro b6 h
 ·refine BZ (Qqz 0 11 (.h 11 (Qqz 12 3 (.tail 15)))) mixed Qqb (fun dn a6=>?_);have m:=a.call a6;have bi:=AH a a6;have c:=c.mono (Ab bi);refine B9 1 Z<|B2 Z (Ae Z AjR Z H3.e) Z<|B2 Z (Af 0 Z m Z) Z<|Ax h fun a7 h=>CP Z Z Z Ae5 ao ((0:Int).toNat) (Cx a7) (AM a7) Z ?_;rintro dp _ rfl b7;refine B2 Z (AT b7 (hH.trans m.arg)) Z<|B2 Z (Ae Z AjR Z H3.e) Z<|B2 Z (Af 0 Z m Z) Z<|Ax h fun a8 h=>CP Z Z Z Ae5 ao ((1:Int).toNat) (Cx a8) (AM a8) Z ?_;rintro dq _ rfl b8;refine B2 Z (AT b8 (hH.trans m.arg)) Z<|B2 Z (Ae Z AjR Z BB.e) Z<|B2 Z (Af 0 Z m Z) Z<|A1 h fun dr b9 h=>BC Z Z Z (fun cx aa=>Zo _ _ (Av (m.call aa)) (c.mono (Ab (AH m aa))) b9) ?_;rintro cx c0 ds aa ap ⟨_,rfl,a9⟩;have aq:=m.call aa;have bj:=AH m aa;have c:=c.mono (Ab bj)
  have ba:=aq.call ap;have bk:=AH aq ap;have ab:=a9.Cu hH aq ap;have c:=c.mono (Ab bk);refine B2 Z (AZ ab) Z<|B9 2 Z<|Bt (fun dt bb=>?_);have ca:=ba.call bb;have ar:=AH ba bb;have c:=c.mono (Ab ar);have ab:=ab.mono (Ab ar);refine Ad<|Aw<|Al<|Am ?_
  cases h
  refine Ah Z ⟨ca.ext,Z⟩
 refine A7 2 Z<|AL h ?_ ?_<;>intro cb h
 ·refine Ao<|Ag (Ae Z AkY Z Fy.e)<|Ag (Af 1 Z a Z)<|Ag (Ae Z AjR Z Fy.e)<|Ag (Af 0 Z a Z)<|A1 h fun du cc h=>Br a (Xb _ _ (Av a) (v.mono  Aj) (az.mono  Aj) cc) ?_;rintro c2 dv ⟨_,rfl,bc⟩ cd ce c3;have bd:=bc.Cu hH a cd;refine Ag (AZ bd)<|AA 2 Z<|Aw<|Al<|Am ?_
  cases h
  refine Ah Z ⟨ce.ext,Z⟩
 refine A7 2 Z<|AL h ?_ ?_<;>intro cf h
 ·refine Ao<|Ag (Ae Z AkY Z EK.e)<|Ag (GS 1 5 Z EK.e a Z Z)<|Ag (Ae Z AjR Z Dl.e)<|Ag (Af 0 Z a Z)<|A1 h fun dw cg h=>A9 a (VK (a0:=a0.2) _ _ (Av a) (x.mono  Aj) (y.mono  Aj) (z.mono  Aj) cg) fun dx dc ch c4=>AA 1 Z<|Aw<|Al<|Am ?_
  cases h
  refine Ah Z ⟨ch.ext,Z⟩
 refine A7 2 Z<|AL h ?_ ?_<;>intro ci h
 ·refine Ao<|Ag (Ae Z AkY Z EK.e)<|Ag (GS 1 5 Z EK.e a Z Z)<|Ag (Ae Z AjR Z Dl.e)<|Ag (Af 0 Z a Z)<|Ag (Ae Z AjR Z BB.e)<|Ag (Af 0 Z a Z)<|Ag (Ae Z AjR Z BB.e)<|Ag (Af 0 Z a Z)<|A1 h fun dy cj h=>A9 a (TT (a0:=a0.2) _ _ (Av a) (x.mono  Aj) (y.mono  Aj) (z.mono  Aj) cj) fun dz dd ck c5=>AA 1 Z<|Aw<|Al<|Am ?_
  cases h
  refine Ah Z ⟨ck.ext,Z⟩
 refine A7 2 Z<|AL h ?_ ?_<;>intro cl h
 ·refine Ao<|Ag (Ae Z AkY Z EK.e)<|Ag (GS 1 5 Z EK.e a Z Z)<|Ag (Ae Z AjR Z Dl.e)<|Ag (Af 0 Z a Z)<|Ag (Ae Z AjR Z Fy.e)<|Ag (Af 0 Z a Z)<|A1 h fun d0 cm h=>A9 a (UH (a0:=a0.2) _ _ (Av a) (x.mono  Aj) (y.mono  Aj) (z.mono  Aj) (az.mono  Aj) cm) fun d1 de cn c6=>AA 1 Z<|Aw<|Al<|Am ?_
  cases h
  refine Ah Z ⟨cn.ext,Z⟩
 refine A7 2 Z<|AL h ?_ ?_<;>intro co h
 ·refine BZ (Qqz 0 8 (.tail 8)) mixed Qqb (fun cy cp=>?_);have i:=a.call cp;refine B2 Z (AJ 1 Z Aar.e i Z) Z<|B2 Z (Ae Z AjR Z Lj.e) Z<|B2 Z (Af 0 Z i Z) Z<|Ax h fun be h=>CP Z Z Z Akn aj ((0:Int).toNat) (Cx be) (AM be) Z ?_;rintro d2 _ e59t0 cq;obtain⟨_,_,rfl,rfl,⟨_,_,rfl,⟨e59v1,rfl,e59h1⟩,⟨_,_,rfl,rfl,⟨_,_,rfl,⟨e59v3,rfl,e59h3⟩,⟨_,_,rfl,rfl,⟨_,_,rfl,rfl,⟨e59v6,rfl,e59h6⟩⟩⟩⟩⟩⟩⟩:=Go.E.Rp.Ev e59t0;refine B2 Z (BI cq (hH.trans i.arg)) Z<|A1 h fun d3 cr h=>?_;have bl:=(fun(bx:World) (p:Ext cy bx)=>hself bx _ (Le.refl _) ((v.mono (hH.trans i.arg)).mono p.le) ((x.mono (hH.trans i.arg)).mono p.le) ((y.mono (hH.trans i.arg)).mono p.le) ((z.mono (hH.trans i.arg)).mono p.le) ((e59h1.mono (hH.trans i.arg)).mono p.le) ((e59h3.mono (hH.trans i.arg)).mono p.le) ((e59h6.mono (hH.trans i.arg)).mono p.le) cr);refine Er Z Z Z bl<|B9 2 Z<|Bt (fun d4 cs=>?_);have ct:=i.call cs;refine Ad<|Aw<|Al<|Am ?_
  cases h
  refine Ah Z ⟨ct.ext,Z⟩
 refine Au<|Az<|Aq<|A7 1 Z<|Bb Int (fun j=>[(3,(Abo b2)),(6,No j)]) (fun j wr=>Bk w [.box b2 [No a1.f.1,ag,Abu a1.f.2.2.1,ah,No a1.f.2.2.2.2.1,No a1.f.2.2.2.2.2.1,ai] 30,.box b1 [ac,No a0.2.f.1,No a0.2.f.2.1,ad,ae,af] 53] wr/\(Hg a1) j=some r) ?_ ?_
 ·refine A7 1 Z<|A2 ?_;obtain⟨ak,h⟩:=AR h;refine Bj (Int×Int×Nat) (fun⟨e,g,n⟩=>[(2,(Abo b1)),(3,(Abo b2)),(6,No e),(7,No g)]) (fun⟨e,g,n⟩ wr=>Bk w [.box b2 [No a1.f.1,ag,Abu a1.f.2.2.1,ah,No a1.f.2.2.2.2.1,No a1.f.2.2.2.2.2.1,ai] 30,.box b1 [ac,No a0.2.f.1,No a0.2.f.2.1,ad,ae,af] 53] wr/\DR (GH a0 a1 self) n (e,g)=some r) (fun⟨e,g,n⟩=>n) (0,0,ak) Z ⟨a,h⟩ ?_;rintro⟨e,g,nn128⟩ c7 ⟨al,h⟩;obtain⟨ak,df,rfl,h,am⟩:=AQ h;refine A6<|Bo 1 Z<|Ag (Ae Z AjR Z Lj.e)<|Ag (Af 0 Z al Z)<|Ag (AZ aj)<|AA 1 Z<|AL h ?_ ?_<;>intro bm h
  ·refine Au<|Aq<|A6<|A2<|BZ (Qqz 0 7 (.tail 7)) mixed Qqb (fun cu bn=>?_);have d:=al.call bn;refine B2 Z (AJ 1 Z Aar.e d Z) Z<|B2 Z (Ae Z AjR Z Lj.e) Z<|B2 Z (Af 0 Z d Z) Z<|B9 1 Z<|Ax h fun au h=>CP Z Z Z Akn aj g.toNat (Cx au) (AM au) Z ?_;rintro dg _ e134t0 bo;obtain⟨_,_,rfl,rfl,⟨_,_,rfl,⟨e134v1,rfl,e134h1⟩,⟨_,_,rfl,rfl,⟨_,_,rfl,⟨e134v3,rfl,e134h3⟩,⟨_,_,rfl,rfl,⟨_,_,rfl,rfl,⟨e134v6,rfl,e134h6⟩⟩⟩⟩⟩⟩⟩:=Go.E.Rp.Ev e134t0;refine B2 Z (BI bo (hH.trans d.arg)) Z<|A1 h fun dh bp h=>?_;have bf:=(fun(bg:World) (o:Ext cu bg)=>hself bg _ (Le.refl _) ((v.mono (hH.trans d.arg)).mono o.le) ((x.mono (hH.trans d.arg)).mono o.le) ((y.mono (hH.trans d.arg)).mono o.le) ((z.mono (hH.trans d.arg)).mono o.le) ((e134h1.mono (hH.trans d.arg)).mono o.le) ((e134h3.mono (hH.trans d.arg)).mono o.le) ((e134h6.mono (hH.trans d.arg)).mono o.le) bp);refine Er Z Z Z bf<|Bt (fun di bq=>?_);have av:=d.call bq;refine Ad ?_
   refine Bi h ?_ ?_<;>intro br h
   ·refine An<|As 1 Z<|Ax h fun bs h=>Ag (Ay bs)<|As 1 Z<|AE<|Az<|Aq<|An<|As 1 Z<|Ax h fun bt h=>Ag (Ay bt)<|As 1 Z<|AE ?_;have h:=Bw.again h am;refine AD (_,_,_) Z ⟨av,h⟩
   refine Au<|Az<|Aq<|An<|As 1 Z<|Ax h fun bu h=>Ag (Ay bu)<|As 1 Z<|AE ?_;have h:=Bw.again h am;refine AD (_,_,_) Z ⟨av,h⟩
  refine Bf<|A5<|A3 ?_;have h:=Bw.out h am;refine AY<|A8 _ ⟨al,h⟩
 rintro j c8 ⟨an,h⟩;refine Bo 1 Z<|Ag (Ae Z AjR Z Lj.e)<|Ag (Af 0 Z an Z)<|Ag (AZ aj)<|As 2 Z<|Jm 8 112 (.bool ((decide (j=(a1.f.2.2.2.2.2.2.length:Int)))||((decide (a1.f.1=9))&&(decide (0<j))))) (fun aw=>?_) ?_
 ·refine D5 (s:=104) Z (fun b=>?_) (fun b=>?_)
  ·iterate 4 refine Ar b ?_
   iterate 2 refine BS ?_
   refine Ar b<|Ag (AF b Z)<|aw.to 7 (XL b) Z Z
  refine Aa b<|Ag (Ae Z AjR Z BB.e)<|Aa b<|Ag (Af 0 Z an Z)<|Aa b<|Ag (Ai Z)<|Aa b<|Ag (Ai Z)<|Jm 3 111 (.bool ((decide (a1.f.1=9))&&(decide (0<j)))) (fun ax=>?_) ?_
  ·refine D5 (s:=108) Z (fun k=>?_) (fun k=>?_)
   ·refine Aa k<|Ag (Ai Z)<|Aa k<|Ag (Ai Z)<|Aa b<|Ag (AF k Z)<|ax.to 2 (LM k) Z Z
   iterate 2 refine Ar k ?_
   refine Aa b<|Ag (AG k Z)<|ax.to 2 (LN k) Z Z
  refine Ag (AG b Z)<|aw.to 5 (XM b) Z Z
 refine AA 1 Z<|Aw ?_
 cases h
 refine Ah Z ⟨an.ext,Z⟩
theorem Ua(n:Nat):JC (G7 n):=by
 induction n with
 | zero=>unfold JC;intros;rename_i h;cases h
 | succ n ih=>exact RS (G7 n) ih
section
variable(w:World)(H:PH)(hH:Le H (hp w)) include hH
theorem VL{a0:Abv×Pv}{a1:Qv}{a b c d e g i:Value}(j:AS .byte H a (a0.1))(k:AS .byte H b (a0.2.f.2.2.1))(l:AS .st H c (a0.2.f.2.2.2.1))(m:AS .tree H d (a0.2.f.2.2.2.2))(n:AS .st H e (a1.f.2.1))(o:AS .byte H g (a1.f.2.2.2.1))(p:AS .Cy H i (a1.f.2.2.2.2.2.2)){r:Bool}(h:Q6 a0 a1=some r):Ok prog 12 [.agg #[a,No a0.2.f.1,No a0.2.f.2.1,b,c,d],.agg #[No a1.f.1,e,Abu a1.f.2.2.1,g,No a1.f.2.2.2.2.1,No a1.f.2.2.2.2.2.1,i]] w (fun v w'=>Ext w w'/\v=.bool r):=Ua 1000 w H hH j k l m n o p h
end
def Iv(a:Abv):Option Abv:=
 AU (([(34:UInt8)]).length+a.length<=9223372036854775807) (AU (([(34:UInt8)]++a).length+([(34:UInt8)]).length<=9223372036854775807) (some ((([(34:UInt8)]++a)++[(34:UInt8)]))))
def Db(a0:Qv):Abv×Int->Option ((Abv×Int)⊕(Abv)):=fun⟨b,a⟩=>
 if a<(a0.f.2.1.length:Int)then AU (b.length+([32]:Abv).length<=9223372036854775807) (AU (0<=a/\a<(a0.f.2.1.length:Int)) (AU ((b++([32]:Abv)).length+(a0.f.2.1.getD a.toNat Qq2).length<=9223372036854775807) (AU (Bq (a+1)) (some (Sum.inl (((b++([32]:Abv))++a0.f.2.1.getD a.toNat Qq2),(a+1)))))))else Qzx Sum.inr (Iv b)
def Iw(a0:Qv)(s:Abv×Int):Option Abv:=Go.L.run (Db a0) s
def Ix(a0:Qv)(self2:(List Qv)->Abv->Int->Int->Option Abv):Option Abv:=
 Qq9 (self2 a0.f.2.2.2.2.2.2 ([]:Abv) (8:Int) (9:Int)) (fun a=>AU (([33]:Abv).length+a.length<=9223372036854775807) (some ((([33]:Abv)++a))))
def Hw(_self1:Qv->Option Abv)(self2:(List Qv)->Abv->Int->Int->Option Abv)(a0:Qv):Option Abv:=
 if a0.f.1=1 then AU (0<=(0:Int)/\(0:Int)<(a0.f.2.1.length:Int)) (some (a0.f.2.1.getD ((0:Int).toNat) Qq2))else(if a0.f.1=2 then AU (0<=(0:Int)/\(0:Int)<(a0.f.2.1.length:Int)) ((Iw a0) (a0.f.2.1.getD ((0:Int).toNat) Qq2,1))else(if a0.f.1=3 then AU (0<=(0:Int)/\(0:Int)<(a0.f.2.1.length:Int)) (AU ((a0.f.2.1.getD ((0:Int).toNat) Qq2).length+([126]:Abv).length<=9223372036854775807) (Qq9 (JV a0.f.2.2.2.2.1) (fun a=>AU ((a0.f.2.1.getD ((0:Int).toNat) Qq2++([126]:Abv)).length+a.length<=9223372036854775807) (AU (((a0.f.2.1.getD ((0:Int).toNat) Qq2++([126]:Abv))++a).length+([126]:Abv).length<=9223372036854775807) (AU (0<=(1:Int)/\(1:Int)<(a0.f.2.1.length:Int)) (AU ((((a0.f.2.1.getD ((0:Int).toNat) Qq2++([126]:Abv))++a)++([126]:Abv)).length+(a0.f.2.1.getD ((1:Int).toNat) Qq2).length<=9223372036854775807) (some (((((a0.f.2.1.getD ((0:Int).toNat) Qq2++([126]:Abv))++a)++([126]:Abv))++a0.f.2.1.getD ((1:Int).toNat) Qq2)))))))))else(if a0.f.1=4 then Qq9 (MT a0.f.2.2.2.1) (fun e=>some e)else(if a0.f.1=5 then AU (([47]:Abv).length+a0.f.2.2.1.length<=9223372036854775807) (some ((([47]:Abv)++a0.f.2.2.1)))else(if a0.f.1=6 then AU (([47]:Abv).length+a0.f.2.2.1.length<=9223372036854775807) (AU ((([47]:Abv)++a0.f.2.2.1).length+([61]:Abv).length<=9223372036854775807) (Qq9 (JV a0.f.2.2.2.2.1) (fun b=>AU (((([47]:Abv)++a0.f.2.2.1)++([61]:Abv)).length+b.length<=9223372036854775807) (AU ((((([47]:Abv)++a0.f.2.2.1)++([61]:Abv))++b).length+([46,46]:Abv).length<=9223372036854775807) (Qq9 (JV a0.f.2.2.2.2.2.1) (fun c=>AU (((((([47]:Abv)++a0.f.2.2.1)++([61]:Abv))++b)++([46,46]:Abv)).length+c.length<=9223372036854775807) (some ((((((([47]:Abv)++a0.f.2.2.1)++([61]:Abv))++b)++([46,46]:Abv))++c)))))))))else(if a0.f.1=7 then AU (([47]:Abv).length+a0.f.2.2.1.length<=9223372036854775807) (AU ((([47]:Abv)++a0.f.2.2.1).length+([61]:Abv).length<=9223372036854775807) (Qq9 (MT a0.f.2.2.2.1) (fun d=>AU (((([47]:Abv)++a0.f.2.2.1)++([61]:Abv)).length+d.length<=9223372036854775807) (some ((((([47]:Abv)++a0.f.2.2.1)++([61]:Abv))++d))))))else(if a0.f.1=8 then Qq9 (self2 a0.f.2.2.2.2.2.2 ([38]:Abv) (9:Int) (0:Int)) (fun g=>some g)else(if a0.f.1=9 then Qq9 (self2 a0.f.2.2.2.2.2.2 ([124]:Abv) (0:Int) (0:Int)) (fun h=>some h)else(Ix a0 self2)))))))))
theorem Q7{self1:Qv->Option Abv}{self2:(List Qv)->Abv->Int->Int->Option Abv}(_hself1:∀(w:World) (H:PH) (hH:Le H (hp w)) {a0:Qv}{c:Value}{e:Value}{g:Value} (i:AS .st H c (a0.f.2.1)) (x:AS .byte H e (a0.f.2.2.2.1)) (s:AS .Cy H g (a0.f.2.2.2.2.2.2)) {r:Abv} (h:self1 a0=some r),Ok prog 25 [.agg #[No a0.f.1,c,Abu a0.f.2.2.1,e,No a0.f.2.2.2.2.1,No a0.f.2.2.2.2.2.1,g]] w (fun v w'=>Ext w w'/\v=(Abu r)))(hself2:∀(w:World) (H:PH) (hH:Le H (hp w)) {a0:List Qv}{a1:Abv}{a2:Int}{a3:Int}{c:Value} (i:AS .Cy H c a0) {r:Abv} (h:self2 a0 a1 a2 a3=some r),Ok prog 59 [c,Abu a1,No a2,No a3] w (fun v w'=>Ext w w'/\v=(Abu r)))(w:World)(H:PH)(hH:Le H (hp w)){a0:Qv}{c e g:Value}(i:AS .st H c (a0.f.2.1))(x:AS .byte H e (a0.f.2.2.2.1))(s:AS .Cy H g (a0.f.2.2.2.2.2.2)){r:Abv}(h:Hw self1 self2 a0=some r):
  Ok prog 25 [.agg #[No a0.f.1,c,Abu a0.f.2.2.1,e,No a0.f.2.2.2.2.1,No a0.f.2.2.2.2.2.1,g]] w (fun v w'=>Ext w w'/\v=(Abu r)):=by
 refine A4 107 [(0,.agg #[No a0.f.1,c,Abu a0.f.2.2.1,e,No a0.f.2.2.2.2.1,No a0.f.2.2.2.2.2.1,g])] func25 Z fun hL=>Ao<|BM (t:=30) Z Z hL fun w1 b1 a cv _=>AA 1 Z<|Bb Unit (fun(_:Unit)=>[(1,(Abo b1))]) (fun(_:Unit) wr=>Bk w [.box b1 [No a0.f.1,c,Abu a0.f.2.2.1,e,No a0.f.2.2.2.2.1,No a0.f.2.2.2.2.2.1,g] 30] wr/\(Ix a0 self2)=some r) ?_ ?_
 ·refine Ao<|Ag (Ae Z AjR Z BB.e)<|Ag (Af 0 Z a Z)<|Ad<|A2<|A7 2 Z<|AL h ?_ ?_<;>intro ai h
  ·refine Ao<|Ag (Ae Z AjR Z H3.e)<|Ag (Af 0 Z a Z)<|Ax h fun z h=>AW i ((0:Int).toNat) (Cx z) (AM z) ?_;rintro cw _ rfl aj;refine Ag (AT aj (hH.trans a.arg))<|AA 1 Z<|Aw<|Al<|AN ?_
   cases h
   refine Ah Z ⟨a.ext,Z⟩
  refine A7 2 Z<|AL h ?_ ?_<;>intro ak h
  ·refine Ao<|Ag (Ae Z AjR Z H3.e)<|Ag (Af 0 Z a Z)<|Ax h fun aa h=>AW i ((0:Int).toNat) (Cx aa) (AM aa) ?_;rintro cx _ rfl al;refine Ag (AT al (hH.trans a.arg))<|AA 1 Z<|Bb Abv (fun k=>[(3,(Abu k))]) (fun k wr=>Bk w [.box b1 [No a0.f.1,c,Abu a0.f.2.2.1,e,No a0.f.2.2.2.2.1,No a0.f.2.2.2.2.2.1,g] 30] wr/\Iv k=some r) ?_ ?_
   ·refine A7 1 Z<|A2 ?_;obtain⟨y,h⟩:=AR h;refine Bj (Abv×Int×Nat) (fun⟨d,b,n⟩=>[(1,(Abo b1)),(3,(Abu d)),(4,No b)]) (fun⟨d,b,n⟩ wr=>Bk w [.box b1 [No a0.f.1,c,Abu a0.f.2.2.1,e,No a0.f.2.2.2.2.1,No a0.f.2.2.2.2.2.1,g] 30] wr/\DR (Db a0) n (d,b)=some r) (fun⟨d,b,n⟩=>n) (a0.f.2.1.getD ((0:Int).toNat) Qq2,1,y) Z ⟨a,h⟩ ?_;rintro⟨d,b,nn149⟩ cj ⟨m,h⟩;obtain⟨y,cy,rfl,h,ab⟩:=AQ h;refine A6<|Bo 1 Z<|Ag (Ae Z AjR Z H3.e)<|Ag (Af 0 Z m Z)<|Ag (AZ i)<|AA 1 Z<|AL h ?_ ?_<;>intro am h
    ·refine Au<|Aq<|A6<|A2<|An<|As 1 Z<|Ax h fun an h=>Ag (D7 an)<|Ag (Ae Z AjR Z H3.e)<|Ag (Af 0 Z m Z)<|As 1 Z<|Ax h fun ac h=>AW i b.toNat (Cx ac) (AM ac) ?_;rintro cz _ rfl ao;refine Ag (AT ao (hH.trans m.arg))<|Ax h fun ap h=>Ag (D7 ap)<|As 1 Z<|AE<|Az<|Aq<|An<|As 1 Z<|Ax h fun aq h=>Ag (Ay aq)<|As 1 Z<|AE ?_;have h:=Bw.again h ab;refine AD (_,_,_) Z ⟨m,h⟩
    refine Bf<|A5<|A3 ?_;have h:=Bw.out h ab;refine AY<|A8 _ ⟨m,h⟩
   rintro k ck ⟨ar,h⟩;refine Ao<|Bx [(34:UInt8)] (r:=.byte) (fun _=>JJ _ _) ar (.c1 Z .nil) fun c0 c2 cl ad cd au=>Ag (NS au (Av ad))<|As 1 Z<|Ax h fun av h=>Ag (D7 av)<|Bx [(34:UInt8)] (r:=.byte) (fun _=>JJ _ _) ad (.c1 Z .nil) fun c3 c4 cm ae ce aw=>Ag (NS aw (Av ae))<|Ax h fun ax h=>Ag (D7 ax)<|AA 1 Z<|Aw<|Al<|AN ?_
   cases h
   refine Ah Z ⟨ae.ext,Z⟩
  refine A7 2 Z<|AL h ?_ ?_<;>intro ay h
  ·refine BZ (Qqz 0 16 (.tail 16)) mixed Qqb (fun c5 az=>?_);have j:=a.call az;refine B2 Z (Ae Z AjR Z H3.e) Z<|B2 Z (Af 0 Z j Z) Z<|Ax h fun af h=>CP Z Z Z Ae5 i ((0:Int).toNat) (Cx af) (AM af) Z ?_;rintro c6 _ rfl a4;refine B2 Z (AT a4 (hH.trans j.arg)) Z<|Ax h fun a5 h=>B2 Z (D7 a5) Z<|B2 Z (Ae Z AjR Z BB.e) Z<|B2 Z (Af 0 Z j Z) Z<|A1 h fun c7 a6 h=>Er Z Z Z (fun c8 cn=>Np _ _ (Le.refl _) a6)<|Ax h fun a7 h=>B2 Z (D7 a7) Z<|Ax h fun a8 h=>B2 Z (D7 a8) Z<|B2 Z (Ae Z AjR Z H3.e) Z<|B2 Z (Af 0 Z j Z) Z<|Ax h fun ag h=>CP Z Z Z Ae5 i ((1:Int).toNat) (Cx ag) (AM ag) Z ?_;rintro c9 _ rfl a9;refine B2 Z (AT a9 (hH.trans j.arg)) Z<|Ax h fun ba h=>?_
   refine B2 Z (D7 ba) Z<|B9 1 Z<|Bt (fun da bb=>?_);have bc:=j.call bb;refine Ad<|Aw<|Al<|AN ?_
   cases h
   refine Ah Z ⟨bc.ext,Z⟩
  refine A7 2 Z<|AL h ?_ ?_<;>intro bd h
  ·refine Ao<|Ag (Ae Z AjR Z Fy.e)<|Ag (Af 0 Z a Z)<|A1 h fun db be h=>A9 a (RR _ _ (Av a) (x.mono  Aj) be) fun dc co bf cf=>AA 1 Z<|Aw<|Al<|AN ?_
   cases h
   refine Ah Z ⟨bf.ext,Z⟩
  refine A7 2 Z<|AL h ?_ ?_<;>intro bg h
  ·refine Ao<|Ag (Ae Z AjR Z Dl.e)<|Ag (Af 0 Z a Z)<|Ax h fun bh h=>Ag (D7 bh)<|AA 1 Z<|Aw<|Al<|AN ?_
   cases h
   refine Ah Z ⟨a.ext,Z⟩
  refine A7 2 Z<|AL h ?_ ?_<;>intro bi h
  ·refine BZ (Qqz 0 14 (.tail 14)) mixed Qqb (fun dd bj=>?_);have o:=a.call bj;refine B2 Z (Ae Z AjR Z Dl.e) Z<|B2 Z (Af 0 Z o Z) Z<|Ax h fun bk h=>B2 Z (D7 bk) Z<|Ax h fun bl h=>B2 Z (D7 bl) Z<|B2 Z (Ae Z AjR Z BB.e) Z<|B2 Z (Af 0 Z o Z) Z<|A1 h fun de bm h=>Er Z Z Z (fun df cp=>Np _ _ (Le.refl _) bm)<|Ax h fun bn h=>B2 Z (D7 bn) Z<|Ax h fun bo h=>B2 Z (D7 bo) Z<|B2 Z (Ae Z AjR Z BB.e) Z<|B2 Z (Af 0 Z o Z) Z<|A1 h fun dg bp h=>Er Z Z Z (fun dh cq=>Np _ _ (Le.refl _) bp)<|Ax h fun bq h=>B2 Z (D7 bq) Z<|B9 1 Z<|Bt (fun di br=>?_);have bs:=o.call br;refine Ad<|Aw<|Al<|AN ?_
   cases h
   refine Ah Z ⟨bs.ext,Z⟩
  refine A7 2 Z<|AL h ?_ ?_<;>intro bt h
  ·refine BZ (Qqz 0 9 (.tail 9)) mixed Qqb (fun dj bu=>?_);have p:=a.call bu;refine B2 Z (Ae Z AjR Z Dl.e) Z<|B2 Z (Af 0 Z p Z) Z<|Ax h fun bv h=>B2 Z (D7 bv) Z<|Ax h fun bw h=>B2 Z (D7 bw) Z<|B2 Z (Ae Z AjR Z Fy.e) Z<|B2 Z (Af 0 Z p Z) Z<|A1 h fun dk bx h=>Er Z Z Z (fun dl bz=>RR _ _ (Le.refl _) ((x.mono (hH.trans p.arg)).mono bz.le) bx)<|Ax h fun b0 h=>B2 Z (D7 b0) Z<|B9 1 Z<|Bt (fun dm b2=>?_);have b3:=p.call b2;refine Ad<|Aw<|Al<|AN ?_
   cases h
   refine Ah Z ⟨b3.ext,Z⟩
  refine A7 2 Z<|AL h ?_ ?_<;>intro b4 h
  ·refine Ao<|Ag (Ae Z AjR Z Lj.e)<|Ag (Af 0 Z a Z)<|A1 h fun dn b5 h=>A9 a (hself2 _ _ (Av a) (s.mono  Aj) b5) fun dp cr b6 cg=>AA 1 Z<|Aw<|Al<|AN ?_
   cases h
   refine Ah Z ⟨b6.ext,Z⟩
  refine A7 2 Z<|AL h ?_ ?_<;>intro b7 h
  ·refine Ao<|Ag (Ae Z AjR Z Lj.e)<|Ag (Af 0 Z a Z)<|A1 h fun dq b8 h=>A9 a (hself2 _ _ (Av a) (s.mono  Aj) b8) fun dr cs b9 ch=>AA 1 Z<|Aw<|Al<|AN ?_
   cases h
   refine Ah Z ⟨b9.ext,Z⟩
  refine Au<|Az<|A8 () ⟨a,h⟩
 rintro _ ct ⟨u,h⟩;refine Ao<|Ag (Ae Z AjR Z Lj.e)<|Ag (Af 0 Z u Z)<|A1 h fun ds ca h=>A9 u (hself2 _ _ (Av u) (s.mono  Aj) ca) fun dt cu cb ci=>Ax h fun cc h=>Ag (D7 cc)<|AA 1 Z<|Aw ?_
 cases h
 refine Ah Z ⟨cb.ext,Z⟩
def Fw(a0:List Qv)(a:Int)(b:Abv)(self1:Qv->Option Abv)(d:Bool):Option ((Abv×Int)⊕(Abv)):=
 if d then AU (b.length+([40]:Abv).length<=9223372036854775807) (AU (0<=a/\a<(a0.length:Int)) (Qq9 (self1 (a0.getD a.toNat Qq2)) (fun c=>AU ((b++([40]:Abv)).length+c.length<=9223372036854775807) (AU (((b++([40]:Abv))++c).length+([41]:Abv).length<=9223372036854775807) (AU (Bq (a+1)) (some (Sum.inl ((((b++([40]:Abv))++c)++([41]:Abv)),(a+1)))))))))else AU (0<=a/\a<(a0.length:Int)) (Qq9 (self1 (a0.getD a.toNat Qq2)) (fun e=>AU (b.length+e.length<=9223372036854775807) (AU (Bq (a+1)) (some (Sum.inl ((b++e),(a+1)))))))
def Fx(a0:List Qv)(a2 a3 a:Int)(self1:Qv->Option Abv)(b:Abv):Option ((Abv×Int)⊕(Abv)):=
 AU (0<=a/\a<(a0.length:Int)) (if(a0.getD a.toNat Qq2).f.1=a2 then(Fw a0 a b self1) true else AU (0<=a/\a<(a0.length:Int)) ((Fw a0 a b self1) (decide ((a0.getD a.toNat Qq2).f.1=a3))))
def Hh(a:Abv):Option Abv:=
 some a
def Cg(a0:List Qv)(a1:Abv)(a2 a3:Int)(self1:Qv->Option Abv):Abv×Int->Option ((Abv×Int)⊕(Abv)):=fun⟨b,a⟩=>
 if a<(a0.length:Int)then(if 0<a then AU (b.length+a1.length<=9223372036854775807) ((Fx a0 a2 a3 a self1) (b++a1))else(Fx a0 a2 a3 a self1) b)else Qzx Sum.inr (Hh b)
def MU(a0:List Qv)(a1:Abv)(a2 a3:Int)(self1:Qv->Option Abv)(s:Abv×Int):Option Abv:=Go.L.run (Cg a0 a1 a2 a3 self1) s
def Jh(self1:Qv->Option Abv)(_self2:(List Qv)->Abv->Int->Int->Option Abv)(a0:List Qv)(a1:Abv)(a2 a3:Int):Option Abv:=
 (MU a0 a1 a2 a3 self1) (([]:Abv),0)
theorem RT{self1:Qv->Option Abv}{self2:(List Qv)->Abv->Int->Int->Option Abv}(hself1:∀(w:World) (H:PH) (hH:Le H (hp w)) {a0:Qv}{e:Value}{x:Value}{y:Value} (j:AS .st H e (a0.f.2.1)) (_h0_1:AS .byte H x (a0.f.2.2.2.1)) (_h0_2:AS .Cy H y (a0.f.2.2.2.2.2.2)) {r:Abv} (h:self1 a0=some r),Ok prog 25 [.agg #[No a0.f.1,e,Abu a0.f.2.2.1,x,No a0.f.2.2.2.2.1,No a0.f.2.2.2.2.2.1,y]] w (fun v w'=>Ext w w'/\v=(Abu r)))(_hself2:∀(w:World) (H:PH) (hH:Le H (hp w)) {a0:List Qv}{a1:Abv}{a2:Int}{a3:Int}{e:Value} (j:AS .Cy H e a0) {r:Abv} (h:self2 a0 a1 a2 a3=some r),Ok prog 59 [e,Abu a1,No a2,No a3] w (fun v w'=>Ext w w'/\v=(Abu r)))(w:World)(H:PH)(hH:Le H (hp w)){a0:List Qv}{a1:Abv}{a2 a3:Int}{e:Value}(j:AS .Cy H e a0){r:Abv}(h:Jh self1 self2 a0 a1 a2 a3=some r):
  Ok prog 59 [e,Abu a1,No a2,No a3] w (fun v w'=>Ext w w'/\v=(Abu r)):=by
 refine A4 55 [(0,e),(1,(Abu a1)),(2,No a2),(3,No a3)] func59 Z fun hL=>A7 1 Z<|A7 1 Z<|Bb Abv (fun k=>[(9,(Abu k))]) (fun k wr=>Bk w [] wr/\Hh k=some r) ?_ ?_
 ·refine A7 1 Z<|A2 ?_;obtain⟨m,h⟩:=AR h;refine Bj (Abv×Int×Nat) (fun⟨c,a,n⟩=>[(0,e),(1,(Abu a1)),(2,No a2),(3,No a3),(9,(Abu c)),(10,No a)]) (fun⟨c,a,n⟩ wr=>Bk w [] wr/\DR (Cg a0 a1 a2 a3 self1) n (c,a)=some r) (fun⟨c,a,n⟩=>n) (([]:Abv),0,m) Z ⟨hL,h⟩ ?_;rintro⟨c,a,nn123⟩ a5 ⟨o,h⟩;obtain⟨m,z,rfl,h,p⟩:=AQ h;refine A6<|Bo 2 Z<|Ag (AZ j)<|AA 1 Z<|AL h ?_ ?_<;>intro aa h
  ·refine Au<|Aq<|A6<|A2<|Bb Abv (fun d=>[(0,e),(1,(Abu a1)),(2,No a2),(3,No a3),(9,(Abu d)),(10,No a)]) (fun d wr=>Bk w [] wr/\(Fx a0 a2 a3 a self1) d=some z) ?_ ?_
   ·refine A7 2 Z<|AL h ?_ ?_<;>intro ab h
    ·refine An<|As 2 Z<|Ax h fun ac h=>Ag (D7 ac)<|As 1 Z<|AE<|A8 _ ⟨o,h⟩
    refine Au<|A8 _ ⟨o,h⟩
   rintro d a6 ⟨l,h⟩;refine Bb Bool (fun g=>[(0,e),(1,(Abu a1)),(2,No a2),(3,No a3),(9,(Abu d)),(10,No a),(37,.bool g)]) (fun g wr=>Bk w [] wr/\(Fw a0 a d self1) g=some z) ?_ ?_
   ·refine An<|As 2 Z<|Ax h fun q h=>AW j a.toNat (Cx q) (AM q) ?_;rintro ba _ e153t0 ad;obtain⟨_,_,rfl,rfl,⟨_,_,rfl,⟨e153v1,rfl,e153h1⟩,⟨_,_,rfl,rfl,⟨_,_,rfl,⟨e153v3,rfl,e153h3⟩,⟨_,_,rfl,rfl,⟨_,_,rfl,rfl,⟨e153v6,rfl,e153h6⟩⟩⟩⟩⟩⟩⟩:=Go.E.Rp.Ev e153t0;refine Ag (Ae Z AjR Z BB.e) ?_;have ae:=ad.add 0;refine Ag (AT ae (hH.trans l.arg))<|As 3 Z<|Bz 29 h ?_ ?_<;>intro b h
    ·iterate 7 refine Ar b ?_
     refine Ag (AF b Z)<|AE<|A8 _ ⟨l,h⟩
    refine Aa b<|Ag (Ai Z)<|Aa b<|Ag (Ai Z)<|Aa b<|Ax h fun s h=>AW j a.toNat (Cx s) (AM s) ?_;rintro bb _ e159t0 af;obtain⟨_,_,rfl,rfl,⟨_,_,rfl,⟨e159v1,rfl,e159h1⟩,⟨_,_,rfl,rfl,⟨_,_,rfl,⟨e159v3,rfl,e159h3⟩,⟨_,_,rfl,rfl,⟨_,_,rfl,rfl,⟨e159v6,rfl,e159h6⟩⟩⟩⟩⟩⟩⟩:=Go.E.Rp.Ev e159t0;refine Aa b<|Ag (Ae Z AjR Z BB.e) ?_;have ag:=af.add 0;refine Aa b<|Ag (AT ag (hH.trans l.arg))<|Aa b<|Ag (Ai Z)<|Aa b<|Ag (Ai Z)<|Ag (AG b Z)<|AE<|A8 _ ⟨l,h⟩
   rintro g a7 ⟨i,h⟩;refine Bi h ?_ ?_<;>intro ah h
   ·refine An<|As 1 Z<|Ax h fun ai h=>Ag (D7 ai)<|As 2 Z<|Ax h fun t h=>AW j a.toNat (Cx t) (AM t) ?_;rintro bc _ e166t0 aj;obtain⟨_,_,rfl,rfl,⟨_,_,rfl,⟨e166v1,rfl,e166h1⟩,⟨_,_,rfl,rfl,⟨_,_,rfl,⟨e166v3,rfl,e166h3⟩,⟨_,_,rfl,rfl,⟨_,_,rfl,rfl,⟨e166v6,rfl,e166h6⟩⟩⟩⟩⟩⟩⟩:=Go.E.Rp.Ev e166t0;refine Ag (BI aj (hH.trans i.arg))<|A1 h fun aw ak h=>A9 i (hself1 (a0:=(a0.getD a.toNat Qq2)) _ _ (Av i) (e166h1.mono  Aj) (e166h3.mono  Aj) (e166h6.mono  Aj) ak) fun bd a8 al az=>Ax h fun am h=>Ag (D7 am)<|Ax h fun an h=>Ag (D7 an)<|As 1 Z<|AE<|Az<|Aq<|An<|As 1 Z<|Ax h fun ao h=>Ag (Ay ao)<|As 1 Z<|AE ?_;have h:=Bw.again h p;refine AD (_,_,_) Z ⟨al,h⟩
   refine An<|As 3 Z<|Ax h fun u h=>AW j a.toNat (Cx u) (AM u) ?_;rintro be _ e174t0 ap;obtain⟨_,_,rfl,rfl,⟨_,_,rfl,⟨e174v1,rfl,e174h1⟩,⟨_,_,rfl,rfl,⟨_,_,rfl,⟨e174v3,rfl,e174h3⟩,⟨_,_,rfl,rfl,⟨_,_,rfl,rfl,⟨e174v6,rfl,e174h6⟩⟩⟩⟩⟩⟩⟩:=Go.E.Rp.Ev e174t0;refine Ag (BI ap (hH.trans i.arg))<|A1 h fun ax aq h=>A9 i (hself1 (a0:=(a0.getD a.toNat Qq2)) _ _ (Av i) (e174h1.mono  Aj) (e174h3.mono  Aj) (e174h6.mono  Aj) aq) fun bf a9 ar a4=>Ax h fun au h=>Ag (D7 au)<|As 1 Z<|AE<|Az<|Aq<|An<|As 1 Z<|Ax h fun av h=>Ag (Ay av)<|As 1 Z<|AE ?_;have h:=Bw.again h p;refine AD (_,_,_) Z ⟨ar,h⟩
  refine Bf<|A5<|A3 ?_;have h:=Bw.out h p;refine AY<|A8 _ ⟨o,h⟩
 rintro k bg ⟨ay,h⟩;refine A7 2 Z<|Aw ?_
 cases h
 refine Ah Z ⟨ay.ext,Z⟩
def BW:Nat->(Qv->Option Abv)×((List Qv)->Abv->Int->Int->Option Abv)
 | 0=>(fun _=>none,fun _ _ _ _=>none)
 | n+1=>(Hw ((BW n).1) ((BW n).2),Jh ((BW n).1) ((BW n).2))
def Oq:Qv->Option Abv:=(BW 1000).1
theorem QZ(n:Nat):(∀(w:World) (H:PH) (hH:Le H (hp w)) {a0:Qv}{a:Value}{b:Value}{c:Value} (d:AS .st H a (a0.f.2.1)) (e:AS .byte H b (a0.f.2.2.2.1)) (g:AS .Cy H c (a0.f.2.2.2.2.2.2)) {r:Abv} (h:((BW n).1) a0=some r),Ok prog 25 [.agg #[No a0.f.1,a,Abu a0.f.2.2.1,b,No a0.f.2.2.2.2.1,No a0.f.2.2.2.2.2.1,c]] w (fun v w'=>Ext w w'/\v=(Abu r)))/\(∀(w:World) (H:PH) (hH:Le H (hp w)) {a0:List Qv}{a1:Abv}{a2:Int}{a3:Int}{a:Value} (d:AS .Cy H a a0) {r:Abv} (h:((BW n).2) a0 a1 a2 a3=some r),Ok prog 59 [a,Abu a1,No a2,No a3] w (fun v w'=>Ext w w'/\v=(Abu r))):=by
 induction n with
 | zero=>exact⟨(by intros;rename_i h;cases h),(by intros;rename_i h;cases h)⟩
 | succ n ih=>exact⟨Q7 ih.1 ih.2,RT ih.1 ih.2⟩
section
variable(w:World)(H:PH)(hH:Le H (hp w)) include hH
theorem Ub{a0:Qv}{a b c:Value}(d:AS .st H a (a0.f.2.1))(e:AS .byte H b (a0.f.2.2.2.1))(g:AS .Cy H c (a0.f.2.2.2.2.2.2)){r:Abv}(h:Oq a0=some r):Ok prog 25 [.agg #[No a0.f.1,a,Abu a0.f.2.2.1,b,No a0.f.2.2.2.2.1,No a0.f.2.2.2.2.2.1,c]] w (fun v w'=>Ext w w'/\v=(Abu r)):=(QZ 1000).1 w H hH d e g h
def KH(a0:Qv):Option Al5:=
 Qq9 (On a0 (0:Int) (1:Int)) (fun a=>if a.2.1=0 then Qq9 (Oq a0) (fun c=>if 200<(c.length:Int)then Qq9 (N4 (14:Int) (-1:Int)) (fun b=>some ((b.1,b.2)))else some ((a.2.1,a.2.2)))else some ((a.2.1,a.2.2)))
theorem Tm{a0:Qv}{d e g:Value}(j:AS .st H d (a0.f.2.1))(k:AS .byte H e (a0.f.2.2.2.1))(l:AS .Cy H g (a0.f.2.2.2.2.2.2)){r:Al5}(h:KH a0=some r):
  Qqv 8 [.agg #[No a0.f.1,d,Abu a0.f.2.2.1,e,No a0.f.2.2.2.2.1,No a0.f.2.2.2.2.2.1,g]] w (fun v w'=>v=.agg #[No r.1,No r.2]):=by
 refine A4 21 [(0,.agg #[No a0.f.1,d,Abu a0.f.2.2.1,e,No a0.f.2.2.2.2.1,No a0.f.2.2.2.2.2.1,g])] func8 Z fun hL=>Ao<|BM (t:=30) Z Z hL fun w1 b1 z ak _=>AO AI.e Z z fun w2 b2 m al _=>Ad<|Ao<|Ag (AJ 1 Z Fj.e m Z)<|A1 h fun x3 aa h=>A9 m (TZ (a0:=a0) _ _ (Av m) (j.mono  Aj) (k.mono  Aj) (l.mono  Aj) aa) fun w4 ar ab am=>As 3 Z<|AO AI.e Z ab fun w5 b5 ac an _=>As 1 Z<|Ak 0 Z ac Z fun w6 b ao=>Ad<|A6<|Ao<|Ag (Ae Z Ae3 Z BB.e)<|Ag (Af 0 Z b Z)<|As 2 Z<|Bz 13 h ?_ ?_<;>intro a h
 ·refine Aa a<|Ag (AJ 2 Z Fj.e b Z)<|Aa a<|A1 h fun x9 ad h=>A9 b (Ub (a0:=a0) _ _ (Av b) (j.mono  Aj) (k.mono  Aj) (l.mono  Aj) ad) fun au ap c ae=>Aa a<|Ag (Gq Z)<|Aa a<|Ag (Ai Z)<|Ag (AF a Z)<|Ad<|AL h ?_ ?_<;>intro u h
  ·refine An<|A1 h fun av x h=>A9 c (Jn _ _ (Av c) x) fun aw aq y af=>Ak 0 Z y Z fun ax o ag=>AE<|Aq<|Ao<|Ag (AJ 0 Z AI.e o Z)<|Ak 1 Z o Z fun ay p ah=>Ad<|Aw ?_
   cases h
   refine BX (.cell Z Ae3 Z AI.e (AP (i:=1) p Z)) ⟨p.ext,Z⟩
  refine Au<|Aq<|Ao<|Ag (AJ 0 Z AI.e c Z)<|Ak 1 Z c Z fun az q ai=>Ad<|Aw ?_
  cases h
  refine BX (.cell Z Ae3 Z AI.e (AP (i:=1) q Z)) ⟨q.ext,Z⟩
 iterate 4 refine Ar a ?_
 refine Ag (AG a Z)<|Ad<|Co<|Au<|Aq<|Ao<|Ag (AJ 0 Z AI.e b Z)<|Ak 1 Z b Z fun a1 s aj=>Ad<|Aw ?_
 cases h
 refine BX (.cell Z Ae3 Z AI.e (AP (i:=1) s Z)) ⟨s.ext,Z⟩
def Mp(a:List Bool):Option ((List Bool)):=
 some a
def Ji(a0:Qq5)(a1:Int):(List Bool)×Int->Option (((List Bool)×Int)⊕((List Bool))):=fun⟨b,a⟩=>
 if a<(a0.length:Int)then AU (0<=a/\a<(a0.length:Int)) (AU (Bq (a1 - 1)) (if 0<=(a0.getD a.toNat Qq2)/\(a0.getD a.toNat Qq2)<=(a1 - 1)then AU (0<=a/\a<(a0.length:Int)) (AU (0<=a0.getD a.toNat Qq2/\a0.getD a.toNat Qq2<(b.length:Int)) (AU (Bq (a+1)) (some (Sum.inl ((b.set ((a0.getD a.toNat Qq2).toNat) true),(a+1))))))else AU (Bq (a+1)) (some (Sum.inl (b,(a+1))))))else Qzx Sum.inr (Mp b)
def PL(a0:Qq5)(a1:Int)(s:(List Bool)×Int):Option ((List Bool)):=Go.L.run (Ji a0 a1) s
def IG(a0:Qq5)(a1:Int):Option ((List Bool)):=
 AU (0<=a1/\((1:Nat):Int) * a1<=281474976710656/\a1<=9223372036854775807) ((PL a0 a1) ((Qzv a1.toNat (false:Bool)),0))
theorem JW{a0:Qq5}{a1:Int}{f:Value}(m:AS (.int .i64) H f a0){r:(List Bool)}(h:IG a0 a1=some r):
  Qqv 10 [f,No a1] w (fun v w'=>∃u0,v=u0/\Cd 4 .bool H w w' u0 r):=by
 refine A4 29 [(0,f),(1,No a1)] func10 Z fun hL=>A7 1 Z<|Bo 1 Z<|Ax h fun an h=>YS (r:=.bool) (z:=(false:Bool)) Alf (fun _=>Z) hH hL an fun y w1 ao ap au aq=>AA 1 Z<|Bb ((List Bool)×Qq6) (fun⟨l,e⟩=>[(5,y)]) (fun⟨l,e⟩ wr=>C5 w [.row y 4 1 (l).length e] wr fun Oz=>AK .bool (gz H w wr Oz) l e/\Mp l=some r) ?_ ?_
 ·refine A7 1 Z<|A2 ?_;obtain⟨q,h⟩:=AR h;refine Bj ((List Bool)×Int×Qq6×Nat) (fun⟨d,a,b,n⟩=>[(0,f),(1,No a1),(5,y),(6,No a)]) (fun⟨d,a,b,n⟩ wr=>C5 w [.row y 4 1 (d).length b] wr fun Oz=>AK .bool (gz H w wr Oz) d b/\DR (Ji a0 a1) n (d,a)=some r) (fun⟨d,a,b,n⟩=>n) ((Qzv a1.toNat (false:Bool)),0,ao,q) Z ⟨ap,aq,h⟩ ?_;rintro⟨d,a,b,nn65⟩ av ⟨g,c,h⟩;obtain⟨q,ay,rfl,h,o⟩:=AQ h;refine A6<|Bo 2 Z<|Ag (AZ m)<|AA 1 Z<|AL h ?_ ?_<;>intro ab h
  ·refine Au<|Aq<|A6<|A2<|Bo 2 Z<|Ax h fun t h=>AW m a.toNat (Cx t) (AM t) ?_;rintro az _ rfl ac;refine Ag (AT ac (hH.trans g.arg))<|As 1 Z<|Ax h fun ad h=>Ag (Ay ad)<|A9 g (Aa9 _ _ (Av g)) fun a2 aw k s=>Ad<|AL h ?_ ?_<;>intro ae h
   ·refine An<|As 3 Z<|Ax h fun u h=>AW m a.toNat (Cx u) (AM u) ?_;rintro a3 _ rfl af;refine Ag (AT af (hH.trans k.arg))<|Ax h fun p h=>Ki 0 Z Alf ZO.e k Z ((a0.getD a.toNat Qq2).toNat) (Cx p) (AM p) ?_;intro a4 ag;have c:=c.mono (Ab s);refine Kl 0 ((a0.getD a.toNat Qq2).toNat) true Z Z hH k Z c ag (AM p) Z fun a5 ah ai ar aj=>AE<|Az<|Aq<|An<|As 1 Z<|Ax h fun ak h=>Ag (Ay ak)<|As 1 Z<|AE ?_;have h:=Bw.again h o;refine AD (_,_,_,_) Z ⟨ai,aj,h⟩
   refine Au<|Az<|Aq<|An<|As 1 Z<|Ax h fun al h=>Ag (Ay al)<|As 1 Z<|AE ?_;have h:=Bw.again h o;have c:=c.mono (Ab s);refine AD (_,_,_,_) Z ⟨k,c,h⟩
  refine Bf<|A5<|A3 ?_;have h:=Bw.out h o;refine AY<|A8 (_,_) ⟨g,c,h⟩
 rintro⟨l,e⟩ ax ⟨x,aa,h⟩;refine A7 2 Z<|Aw ?_
 cases h
 refine Ah Z ⟨x.ext,_,Z,(x.FV hH (i:=0) Z aa)⟩
def Pm(a:Int):Option ((Int)⊕(Bool)):=
 AU (Bq (a+1)) (some (Sum.inl (a+1)))
def Pn(a:Int)(b:Bool):Option ((Int)⊕(Bool)):=
 if !b then Qzx Sum.inr (some false)else(Pm a)
def L9(a0:Qq5)(a1:Qq5)(b:Int):Bool×Int->Option ((Bool×Int)⊕((Int)⊕(Bool))):=fun⟨c,a⟩=>
 if a<(a1.length:Int)then(if c then AU (Bq (a+1)) (some (Sum.inl (true,(a+1))))else AU (0<=b/\b<(a0.length:Int)) (AU (0<=a/\a<(a1.length:Int)) (AU (Bq (a+1)) (some (Sum.inl (decide (a0.getD b.toNat Qq2=a1.getD a.toNat Qq2),(a+1)))))))else Qzx Sum.inr ((Pn b) c)
def SK(a0:Qq5)(a1:Qq5)(a:Int)(s:Bool×Int):Option ((Int)⊕(Bool)):=Go.L.run (L9 a0 a1 a) s
def Po:Option Bool:=
 some true
def LA(a0:Qq5)(a1:Qq5):Int->Option ((Int)⊕(Bool)):=fun a=>
 if a<(a0.length:Int)then(SK a0 a1 a) (false,0)else Qzx Sum.inr Po
def SL(a0:Qq5)(a1:Qq5)(s:Int):Option Bool:=Go.L.run (LA a0 a1) s
def Q8(a0:Qq5)(a1:Qq5):Option Bool:=
 (SL a0 a1) (0:Int)
theorem XT{a0 a1:Qq5}{e f:Value}(z:AS (.int .i64) H e a0)(aa:AS (.int .i64) H f a1){r:Bool}(h:Q8 a0 a1=some r):
  Qqv 13 [e,f] w (fun v w'=>v=.bool r):=by
 refine A4 34 [(0,e),(1,f)] func13 Z fun hL=>A7 1 Z<|Bb Unit (fun(_:Unit)=>[]) (fun(_:Unit) wr=>Bk w [] wr/\Po=some r) ?_ ?_
 ·refine A7 1 Z<|A2 ?_;obtain⟨m,h⟩:=AR h;refine Bj (Int×Nat) (fun⟨a,n⟩=>[(0,e),(1,f),(5,No a)]) (fun⟨a,n⟩ wr=>Bk w [] wr/\DR (LA a0 a1) n a=some r) (fun⟨a,n⟩=>n) (0,m) Z ⟨hL,h⟩ ?_;rintro⟨a,nn141⟩ aq ⟨p,h⟩;obtain⟨m,o,rfl,h,j⟩:=AQ h;refine A6<|Bo 2 Z<|Ag (AZ z)<|AA 1 Z<|AL h ?_ ?_<;>intro ab h
  ·refine Au<|Aq<|Bb Unit (fun(_:Unit)=>[(0,e),(1,f),(5,No a)]) (fun(_:Unit) wr=>Bk w [] wr/\(Pm a)=some o) ?_ ?_
   ·refine A2<|A7 1 Z<|Bb Bool (fun g=>[(0,e),(1,f),(5,No a),(6,.bool g)]) (fun g wr=>Bk w [] wr/\(Pn a) g=some o) ?_ ?_
    ·refine A7 1 Z<|A2 ?_;obtain⟨k,h⟩:=AR h;refine Bj (Bool×Int×Nat) (fun⟨d,c,n⟩=>[(0,e),(1,f),(5,No a),(6,.bool d),(7,No c)]) (fun⟨d,c,n⟩ wr=>Bk w [] wr/\DR (L9 a0 a1 a) n (d,c)=some o) (fun⟨d,c,n⟩=>n) (false,0,k) Z ⟨p,h⟩ ?_;rintro⟨d,c,nn240⟩ ar ⟨t,h⟩;obtain⟨k,aw,rfl,h,l⟩:=AQ h;refine A6<|Bo 2 Z<|Ag (AZ aa)<|AA 1 Z<|AL h ?_ ?_<;>intro ac h
     ·refine Au<|Aq<|A6<|A2<|LX (Qqz 0 13 (.tail 13)) mixed Qqb (fun ax ad=>?_);have i:=t.call ad;refine B9 2 Z<|HO 21 Z (fun b=>?_) (fun b=>?_)
      ·have h:=AcF b h
       iterate 9 refine NP Z Z Z Z b Z ?_
       refine B2 Z (AF b Z) Z<|B9 1 Z<|Bt (fun ay ae=>?_);have af:=i.call ae;refine AE<|Az<|Aq<|An<|As 1 Z<|Ax h fun ag h=>Ag (Ay ag)<|As 1 Z<|AE ?_;have h:=Bw.again h l;refine AD (_,_,_) Z ⟨af,h⟩
      have h:=AcG b h
      iterate 2 refine CM Z (Ai Z) Z Z Z b Z ?_
      refine Ax h fun u h=>I2 Z Z Z Z b Z Z Aco z a.toNat (Cx u) (AM u) Z ?_;rintro az _ rfl ah;refine CM Z (AT ah (hH.trans i.arg)) Z Z Z b Z ?_
      iterate 2 refine CM Z (Ai Z) Z Z Z b Z ?_
      refine Ax h fun x h=>I2 Z Z Z Z b Z Z Aco aa c.toNat (Cx x) (AM x) Z ?_;rintro a2 _ rfl ai;refine CM Z (AT ai (hH.trans i.arg)) Z Z Z b Z<|CM Z (Ai Z) Z Z Z b Z<|B2 Z (AG b Z) Z<|B9 1 Z<|Bt (fun a3 aj=>?_);have ak:=i.call aj;refine AE<|Az<|Aq<|An<|As 1 Z<|Ax h fun al h=>Ag (Ay al)<|As 1 Z<|AE ?_;have h:=Bw.again h l;refine AD (_,_,_) Z ⟨ak,h⟩
     refine Bf<|A5<|A3 ?_;have h:=Bw.out h l;refine AY<|A8 _ ⟨t,h⟩
    rintro g au ⟨y,h⟩;refine A7 2 Z<|Bi h ?_ ?_<;>intro am h
    ·refine A7 1 Z<|Aw<|Al<|AN<|Bc ?_;have h:=Bw.out h j;refine Al<|AN ?_
     cases h
     refine Ah Z ⟨y.ext,Z⟩
    refine Au<|Az<|A8 () ⟨y,h⟩
   rintro _ av ⟨an,h⟩;refine An<|As 1 Z<|Ax h fun ao h=>Ag (Ay ao)<|As 1 Z<|AE ?_;have h:=Bw.again h j;refine AD (_,_) Z ⟨an,h⟩
  refine Bf<|A5<|A3 ?_;have h:=Bw.out h j;refine AY<|A8 () ⟨p,h⟩
 rintro _ a4 ⟨ap,h⟩;refine A7 1 Z<|Aw ?_
 cases h
 refine Ah Z ⟨ap.ext,Z⟩
def Iy(a:Qq5)(c _c458:Int)(b:Qq5):Option Bool:=
 if c=0 then Qq9 (Q8 a b) (fun d=>some d)else some false
def Gd(a0:(List Alp))(a1:List (Abv×Pv))(a2:Qv)(a3:(List Abv)×Int)(a4:Int)(c:Qq5)(e:Alq×Qq7):Option Bool:=
 Qq9 (CR a0 (a3.1,a4)) (fun a=>if a.2.1=0 then Qq9 (IG a.1 (a1.length:Int)) (fun d=>Qq9 (CD e.1 a2 d) (fun b=>(Iy c) b.2.1 b.2.2 b.1))else(if 3652059<a4 then some (decide ((a.1.length:Int)=0))else some false))
def Ge(a0:(List Alp))(a1:List (Abv×Pv))(a2:Qv)(a3:(List Abv)×Int)(a4 b:Int)(a:Qq5)(h:Alq×Qq7)(c:Qq5):Option Bool:=
 if b=0 then Qq9 (KY a c) (fun d=>if !d then if b=0 then Qq9 (KY a c) (fun e=>some e)else some false else if a4<a3.2 then(if b=0 then Qq9 (KY a c) (fun f=>some f)else some false)else(Gd a0 a1 a2 a3 a4 a h))else if b=0 then Qq9 (KY a c) (fun g=>some g)else some false
def FD(a0:(List Alp))(a1:List (Abv×Pv))(a2:Qv)(a3:(List Abv)×Int)(a4 e:Int)(d:Qq5)(b:Al3)(g:Alq×Qq7):Qq5×Int->Option (Al6⊕(Bool)):=fun⟨c,a⟩=>
 if a<(b.1.length:Int)then AU (0<=a/\a<(b.1.length:Int)) (AU (Bq ((a1.length:Int) - 1)) (if 0<=(b.1.getD a.toNat Qq2)/\(b.1.getD a.toNat Qq2)<=((a1.length:Int) - 1)then AU (0<=a/\a<(b.1.length:Int)) (AU (0<=b.1.getD a.toNat Qq2/\b.1.getD a.toNat Qq2<(a1.length:Int)) (Qq9 (Q6 (a1.getD ((b.1.getD a.toNat Qq2).toNat) Qq2) a2) (fun f=>if f then AU (0<=a/\a<(b.1.length:Int)) (AU (Go.E.Fz 8 (c.length+([b.1.getD a.toNat Qq2]).length)) (AU (Bq (a+1)) (some (Sum.inl ((c++[b.1.getD a.toNat Qq2]),(a+1))))))else AU (Bq (a+1)) (some (Sum.inl (c,(a+1)))))))else Qzx Sum.inr (some false)))else Qzx Sum.inr ((Ge a0 a1 a2 a3 a4 e d g) c)
def LC(a0:(List Alp))(a1:List (Abv×Pv))(a2:Qv)(a3:(List Abv)×Int)(a4 b:Int)(a:Qq5)(c:Al3)(d:Alq×Qq7)(s:Al6):Option Bool:=Go.L.run (FD a0 a1 a2 a3 a4 b a c d) s
def Iz(a0:(List Alp))(a1:List (Abv×Pv))(a2:Qv)(a3:(List Abv)×Int)(a4:Int)(c:Al3)(d:Alq×Qq7)(b _c180:Int)(a:Qq5):Option Bool:=
 (LC a0 a1 a2 a3 a4 b a c d) (([]:Qq5),0)
def I0(a0:(List Alp))(a1:List (Abv×Pv))(a2:Qv)(a3:(List Abv)×Int)(a4:Int)(c:Al3)(d:Alq×Qq7):Option Bool:=
 Qq9 (IG c.1 (a1.length:Int)) (fun b=>Qq9 (CD d.1 a2 b) (fun a=>(Iz a0 a1 a2 a3 a4 c d) a.2.1 a.2.2 a.1))
def Ct(a0:(List Alp))(a1:List (Abv×Pv))(a2:Qv)(a3:(List Abv)×Int)(a4:Int)(c:Al3)(b:Alq×Qq7)(a:Bool):Option Bool:=
 if a then(if c.2.1=0 then if b.2.1=0 then some true else Qq9 (C8 b.1) (fun d=>some (decide (d=0)))else if(c.1.length:Int)=0 then if b.2.1=0 then some true else Qq9 (C8 b.1) (fun e=>some (decide (e=0)))else some false)else(I0 a0 a1 a2 a3 a4 c b)
def Dw(a0:(List Alp))(a1:List (Abv×Pv))(a2:Qv)(a3:(List Abv)×Int)(a4:Int)(a:Al3)(b:Alq×Qq7):Option Bool:=
 if a.2.1=0 then if b.2.1=0 then if(a1.length:Int)=(a0.length:Int)then Qq9 (KH a2) (fun c=>(Ct a0 a1 a2 a3 a4 a b) (!decide (c.1=0)))else(Ct a0 a1 a2 a3 a4 a b) true else(Ct a0 a1 a2 a3 a4 a b) true else(Ct a0 a1 a2 a3 a4 a b) true
def Hx(a0:(List Alp))(a1:List (Abv×Pv))(a2:Qv)(a3:(List Abv)×Int)(a4:Int):Option Bool:=
 Qq9 (CR a0 a3) (fun d=>Qq9 (Hd a1) (fun e=>Qq9 (Hd ([([],(Pv.mk (1:Int) (0:Int) ([]) ([]) ([])))])) (fun a=>Qq9 (CD a.1 (Qv.mk (5:Int) ([]) ([42,42]:Abv) ([]) (0:Int) (0:Int) ([])) ([true])) (fun b=>if a.2.1=0 then if b.2.1=0 then Qq9 (KY b.1 ([0])) (fun c=>if !c then some false else(Dw a0 a1 a2 a3 a4 d e))else some false else some false))))
theorem Q9(hU:HG H){a0:(List Alp)}{a1:List (Abv×Pv)}{a2:Qv}{a3:(List Abv)×Int}{a4:Int}{au bj av aw ax ay:Value}(gn:AS AlE H au a0)(dn:AS (.pair (.vec .byte) .tree) H bj a1)(ck:AS .st H av (a2.f.2.1))(cl:AS .byte H aw (a2.f.2.2.2.1))(cm:AS .Cy H ax (a2.f.2.2.2.2.2.2))(go:AS .st H ay (a3.1)){r:Bool}(h:Hx a0 a1 a2 a3 a4=some r):
  Qqv 3 [.agg #[au],bj,.agg #[No a2.f.1,av,Abu a2.f.2.2.1,aw,No a2.f.2.2.2.2.1,No a2.f.2.2.2.2.2.1,ax],.agg #[ay,No a3.2],No a4] w (fun v w'=>v=.bool r):=by
 refine A4 209 [(0,.agg #[au]),(1,bj),(2,.agg #[No a2.f.1,av,Abu a2.f.2.2.1,aw,No a2.f.2.2.2.2.1,No a2.f.2.2.2.2.2.1,ax]),(3,.agg #[ay,No a3.2]),(4,No a4)] func3 Z fun hL=>Ao<|BM (t:=24) Z Z hL fun w1 b1 mv nw _=>BM (t:=30) Z Z mv fun w2 b2 mw nx _=>BM (t:=32) Z Z mw fun w3 b3 fw ny _=>AA 1 Z<|Ao<|Ag (AJ 2 Z AjD.e fw Z)<|Ag (AJ 0 Z AjE.e fw Z)<|A1 h fun x4 mx h=>Br fw (MK (a0:=a0) (a1:=a3) _ _ (Av fw) (gn.mono  Aj) (go.mono  Aj) mx) ?_;rintro _ w5 ⟨bk,rfl,jl⟩ my mz nz;have e3:=jl.Cu hH fw my;refine As 3 Z<|AO AI.e Z mz fun w6 b6 m0 lg _=>As 1 Z<|Ak 0 Z m0 Z fun w7 fx lh=>Ad<|Bo 1 Z<|A1 h fun g m1 h=>Br fx (QL _ _ (Av fx) (hU.mono  Aj) (dn.mono  Aj) m1) ?_;rintro _ w9 ⟨aa,ab,ac,rfl,jm,jn,jo⟩ ig m2 li;have ee:=jm.mono (Kk hH fx ig);have ef:=jn.mono (Kk hH fx ig);have eg:=jo.Cu hH fx ig;refine As 3 Z ?_
 refine AO Me.e Z m2 fun pw az lj eh _=>AO AI.e Z lj fun px c0 lk ei _=>Ak 1 Z lk Z (a:=(CB Z (CB ee.one (CB Z (CB ef.one (CB eg.one Ps)))))) fun py ll ej=>Ak 0 Z ll Z fun pz ih ek=>Ad ?_;have dp:=ih.rG H;refine Ao<|Ag (Ba (fun _=>AdL _ _ Z _))<|AO Fj.e Z ih fun p0 ea lm jp _=>Ak 0 Z lm Z fun p1 ln jq=>Ad<|Ao<|Ag (Ba (fun _=>AhD _ _))<|Ag (Ba (fun _=>AhE _ _ _ _ _ _))<|Bx ([([],(Pv.mk (1:Int) (0:Int) ([]) ([]) ([])))]) (r:=(.pair (.vec .byte) .tree)) (fun _=>AhG _ _ _ _ _ _ _) ln (.c6 ⟨_,_,Z,⟨_,Z,AS.nil _ _⟩,(Go.E.Rp.Eu ⟨_,_,Z,Z,⟨_,_,Z,Z,⟨_,_,Z,⟨_,Z,AS.nil _ _⟩,⟨_,_,Z,⟨_,Z,AS.nil _ _⟩,⟨_,Z,AS.nil _ _⟩⟩⟩⟩⟩)⟩ .nil) fun p2 p3 n0 es jr lo=>A1 h fun d lp h=>Br es (QL _ _ (Av es) (hU.mono  Aj) lo lp) ?_;rintro _ p4 ⟨s,u,x,rfl,ii,ij,ik⟩ gp lq js;have cn:=ii.mono (Kk hH es gp);have co:=ij.mono (Kk hH es gp)
 have cp:=ik.Cu hH es gp;refine As 3 Z<|AO Me.e Z lq fun p5 eb lr el _=>AO AI.e Z lr fun p6 ec ls em _=>Ak 1 Z ls Z (a:=(CB Z (CB cn.one (CB Z (CB co.one (CB cp.one Ps)))))) fun p7 lt en=>Ak 0 Z lt Z fun p8 e4 eo=>Ad ?_;have ah:=e4.rG H;refine Ao<|Ag (AJ 1 Z Me.e e4 Z)<|Ag (AJ 2 Z Fj.e e4 Z)<|Bx [true] (r:=.bool) (fun _=>AhL _ _) e4 (.c1 Z .nil) fun p9 qa n1 gq jt lu=>A1 h fun an lv h=>?_;have cn:=cn.mono (Ab (el.trans (em.trans (en.trans eo))));have co:=co.mono (Ab (el.trans (em.trans (en.trans eo))));have cp:=cp.mono (Ab (el.trans (em.trans (en.trans eo))));have ah:=ah.trans (Ab jt);refine Br gq (CO (a0:=d.1) (a1:=(Qv.mk (5:Int) ([]) ([42,42]:Abv) ([]) (0:Int) (0:Int) ([]))) _ _ (Av gq) (hU.mono  Aj) (cn.mono ah) (co.mono ah) (cp.mono ah) (AS.nil _ _) (AS.nil _ _) (AS.nil _ _) lu lv) ?_;rintro _ qb ⟨nf,rfl,il⟩ lw lx ju;have et:=il.Cu hH gq lw
 refine As 3 Z<|AO AI.e Z lx fun qc ed ly gs _=>As 1 Z<|Ak 0 Z ly Z fun qd eu gt=>Ad ?_
 refine Bb Unit (fun(_:Unit)=>[(1,bj),(4,No a4),(5,(Abo b1)),(7,(Abo b2)),(8,(Abo b3)),(11,bk),(12,(Abo b6)),(13,(Abo az)),(14,(Abo c0))]) (fun(_:Unit) wr=>C5 w [.box ed [No an.2.1,No an.2.2] 35,.box ec [No d.2.1,No d.2.2] 35,.box eb [No d.1.1.1,s,No d.1.2.1.1,u,x] 46,.box ea [No 5,Aal,.string ⟨(([42,42]:Abv)).toArray⟩,Aal,No 0,No 0,Aal] 30,.box c0 [No g.2.1,No g.2.2] 35,.box az [No g.1.1.1,aa,No g.1.2.1.1,ab,ac] 46,.box b6 [No x4.2.1,No x4.2.2] 35,.box b3 [ay,No a3.2] 32,.box b2 [No a2.f.1,av,Abu a2.f.2.2.1,aw,No a2.f.2.2.2.2.1,No a2.f.2.2.2.2.2.1,ax] 30,.box b1 [au] 24] wr fun Oz=>AS (.int .i64) (gz H w wr Oz) bk (x4.1)/\AS (.pair .st (.vec AlA)) (gz H w wr Oz) s (d.1.1.2)/\AS Al9 (gz H w wr Oz) u (d.1.2.1.2)/\AS AlB (gz H w wr Oz) x (d.1.2.2)/\AS (.pair .st (.vec AlA)) (gz H w wr Oz) aa (g.1.1.2)/\AS Al9 (gz H w wr Oz) ab (g.1.2.1.2)/\AS AlB (gz H w wr Oz) ac (g.1.2.2)/\(Dw a0 a1 a2 a3 a4 x4 g)=some r) ?_ ?_
 ·refine Ao<|Ag (Ae Z Ae3 Z BB.e)<|Ag (Af 1 Z eu Z)<|As 2 Z<|Et 57 h ?_ ?_<;>intro c5 h
  ·iterate 3 refine Ar c5 ?_
   refine Ag (AF c5 Z)<|As 1 Z ?_
   iterate 4 refine Ar Z ?_
   refine Ag (AF Z Z)<|Ad<|DS<|A7 1 Z<|Aw<|AN ?_
   cases h
   refine Ah Z ⟨eu.ext,Z⟩
  refine Aa c5<|Ag (Ae Z Ae3 Z BB.e)<|Aa c5<|Ag (Af 0 Z eu Z)<|Aa c5<|Ag (Ai Z)<|Ag (AG c5 Z)<|As 1 Z<|Et 62 h ?_ ?_<;>intro cq h
  ·iterate 4 refine Ar cq ?_
   refine Ag (AF cq Z)<|Ad<|DS<|A7 1 Z<|Aw<|AN ?_
   cases h
   refine Ah Z ⟨eu.ext,Z⟩
  refine Aa cq<|Ag (Ai Z)<|Aa cq<|Bx [0] (r:=(.int .i64)) (fun _=>FX _ _) eu (.c1 Z .nil) fun qe qf n2 im gu lz=>Aa cq<|A1 h fun qg l0 h=>?_;have et:=et.mono (Ab (gs.trans (gt.trans gu)));refine A9 im (Lm _ _ (Av im) et lz l0) fun qh n3 io jv=>Aa cq<|Ag (Ai Z)<|Ag (AG cq Z)<|Ad<|Bi h ?_ ?_<;>intro l1 h
  ·refine A7 1 Z<|Aw<|AN ?_
   cases h
   refine Ah Z ⟨io.ext,Z⟩
  refine Au ?_;have e3:=e3.mono (Ab (lg.trans (lh.trans (li.trans (eh.trans (ei.trans (ej.trans ek)))))));have ee:=ee.mono (Ab (eh.trans (ei.trans (ej.trans ek))));have ef:=ef.mono (Ab (eh.trans (ei.trans (ej.trans ek))));have eg:=eg.mono (Ab (eh.trans (ei.trans (ej.trans ek))));have dp:=dp.trans (Ab (jp.trans (jq.trans (jr.trans (js.trans (el.trans (em.trans (en.trans eo))))))));have ah:=ah.trans (Ab (ju.trans (gs.trans (gt.trans (gu.trans jv)))));refine A8 () ⟨io,((e3.mono dp).mono ah),(cn.mono ah),(co.mono ah),(cp.mono ah),((ee.mono dp).mono ah),((ef.mono dp).mono ah),((eg.mono dp).mono ah),h⟩
 rintro _ n4 ⟨bl,c7,c8,c9,da,db,dc,dd,h⟩
 refine Bb Unit (fun(_:Unit)=>[(1,bj),(4,No a4),(5,(Abo b1)),(7,(Abo b2)),(8,(Abo b3)),(11,bk),(13,(Abo az))]) (fun(_:Unit) wr=>C5 w [.box ed [No an.2.1,No an.2.2] 35,.box ec [No d.2.1,No d.2.2] 35,.box eb [No d.1.1.1,s,No d.1.2.1.1,u,x] 46,.box ea [No 5,Aal,.string ⟨(([42,42]:Abv)).toArray⟩,Aal,No 0,No 0,Aal] 30,.box c0 [No g.2.1,No g.2.2] 35,.box az [No g.1.1.1,aa,No g.1.2.1.1,ab,ac] 46,.box b6 [No x4.2.1,No x4.2.2] 35,.box b3 [ay,No a3.2] 32,.box b2 [No a2.f.1,av,Abu a2.f.2.2.1,aw,No a2.f.2.2.2.2.1,No a2.f.2.2.2.2.2.1,ax] 30,.box b1 [au] 24] wr fun Oz=>AS (.int .i64) (gz H w wr Oz) bk (x4.1)/\AS (.pair .st (.vec AlA)) (gz H w wr Oz) s (d.1.1.2)/\AS Al9 (gz H w wr Oz) u (d.1.2.1.2)/\AS AlB (gz H w wr Oz) x (d.1.2.2)/\AS (.pair .st (.vec AlA)) (gz H w wr Oz) aa (g.1.1.2)/\AS Al9 (gz H w wr Oz) ab (g.1.2.1.2)/\AS AlB (gz H w wr Oz) ac (g.1.2.2)/\(I0 a0 a1 a2 a3 a4 x4 g)=some r) ?_ ?_
 ·refine Bb Bool (fun cu=>[(1,bj),(4,No a4),(5,(Abo b1)),(7,(Abo b2)),(8,(Abo b3)),(11,bk),(12,(Abo b6)),(13,(Abo az)),(14,(Abo c0)),(89,.bool cu)]) (fun cu wr=>C5 w [.box ed [No an.2.1,No an.2.2] 35,.box ec [No d.2.1,No d.2.2] 35,.box eb [No d.1.1.1,s,No d.1.2.1.1,u,x] 46,.box ea [No 5,Aal,.string ⟨(([42,42]:Abv)).toArray⟩,Aal,No 0,No 0,Aal] 30,.box c0 [No g.2.1,No g.2.2] 35,.box az [No g.1.1.1,aa,No g.1.2.1.1,ab,ac] 46,.box b6 [No x4.2.1,No x4.2.2] 35,.box b3 [ay,No a3.2] 32,.box b2 [No a2.f.1,av,Abu a2.f.2.2.1,aw,No a2.f.2.2.2.2.1,No a2.f.2.2.2.2.2.1,ax] 30,.box b1 [au] 24] wr fun Oz=>AS (.int .i64) (gz H w wr Oz) bk (x4.1)/\AS (.pair .st (.vec AlA)) (gz H w wr Oz) s (d.1.1.2)/\AS Al9 (gz H w wr Oz) u (d.1.2.1.2)/\AS AlB (gz H w wr Oz) x (d.1.2.2)/\AS (.pair .st (.vec AlA)) (gz H w wr Oz) aa (g.1.1.2)/\AS Al9 (gz H w wr Oz) ab (g.1.2.1.2)/\AS AlB (gz H w wr Oz) ac (g.1.2.2)/\(Ct a0 a1 a2 a3 a4 x4 g) cu=some r) ?_ ?_
  ·have e:=bl.rG H;refine An<|Ag (Ae Z Ae3 Z BB.e)<|Ag (Af 6 Z bl Z)<|As 2 Z<|Et 71 h ?_ ?_<;>intro bv h
   ·iterate 3 refine Ar bv ?_
    refine Ag (AF bv Z)<|As 1 Z ?_
    iterate 6 refine Ar Z ?_
    refine Ag (AF Z Z)<|As 1 Z ?_
    iterate 4 refine Ar Z ?_
    refine Ag (AF Z Z)<|AE<|A8 _ ⟨bl,(c7.mono e),(c8.mono e),(c9.mono e),(da.mono e),(db.mono e),(dc.mono e),(dd.mono e),h⟩
   refine Aa bv<|Ag (Ae Z Ae3 Z BB.e)<|Aa bv<|Ag (Af 4 Z bl Z)<|Aa bv<|Ag (Ai Z)<|Ag (AG bv Z)<|As 1 Z<|Et 76 h ?_ ?_<;>intro aj h
   ·iterate 6 refine Ar aj ?_
    refine Ag (AF aj Z)<|As 1 Z ?_
    iterate 4 refine Ar Z ?_
    refine Ag (AF Z Z)<|AE<|A8 _ ⟨bl,(c7.mono e),(c8.mono e),(c9.mono e),(da.mono e),(db.mono e),(dc.mono e),(dd.mono e),h⟩
   refine Aa aj<|Ag (Ai Z)<|Aa aj<|Ag (AZ dn)<|Aa aj<|Ag (Ae Z Ahv Z AbE.e)<|Aa aj<|Ag (Af 9 Z bl Z)<|Aa aj<|Ag (AZ gn)<|Aa aj<|Ag (Ai Z)<|Ag (AG aj Z)<|As 1 Z<|Et 84 h ?_ ?_<;>intro a8 h
   ·iterate 4 refine Ar a8 ?_
    refine Ag (AF a8 Z)<|AE<|A8 _ ⟨bl,(c7.mono e),(c8.mono e),(c9.mono e),(da.mono e),(db.mono e),(dc.mono e),(dd.mono e),h⟩
   refine Aa a8<|Ag (AJ 8 Z Fj.e bl Z)<|Aa a8<|A1 h fun l2 jw h=>A9 bl (Tm (a0:=a2) _ _ (Av bl) (ck.mono  Aj) (cl.mono  Aj) (cm.mono  Aj) jw) fun n5 ng jx ip=>Aa a8<|Ag (Aju Z Ae3 Z Ac6 Z Z)<|Aa a8<|Ag (Ai Z)<|Ag (AG a8 Z)<|AE ?_;have e:=e.trans (Ab ip);refine A8 _ ⟨jx,(c7.mono e),(c8.mono e),(c9.mono e),(da.mono e),(db.mono e),(dc.mono e),(dd.mono e),h⟩
  rintro cu nh ⟨y,e2,hi,hj,hk,dq,dr,ds,h⟩;refine Bi h ?_ ?_<;>intro jy h
  ·have bw:=y.rG H;refine Ao<|Ag (Ae Z Ae3 Z BB.e)<|Ag (Af 6 Z y Z)<|As 2 Z<|Bz 93 h ?_ ?_<;>intro bx h
   ·iterate 3 refine Ar bx ?_
    refine Ag (AF bx Z)<|As 1 Z<|Aa Z<|Ag (Ae Z Ae3 Z BB.e)<|Aa Z<|Ag (Af 4 Z y Z)<|Aa Z<|Ag (Ai Z)<|Aa Z<|Ag (Ai Z)<|Bz 102 h ?_ ?_<;>intro bz h
    ·iterate 3 refine Ar bz ?_
     refine Aa Z<|Ag (AF bz Z)<|Ag (AF Z Z)<|AA 1 Z<|Aw<|AN ?_
     cases h
     refine Ah Z ⟨y.ext,Z⟩
    refine Aa bz<|Ag (AJ 5 Z Me.e y Z)<|Aa bz<|A1 h fun n6 jz h=>A9 y (FA _ _ (Av y) g.1 (dq.mono bw) (dr.mono bw) (ds.mono bw) jz) fun n7 ni j0 m3=>Aa bz<|Ag (Ai Z)<|Aa Z<|Ag (AG bz Z)<|Ag (AF Z Z)<|AA 1 Z<|Aw<|AN ?_
    cases h
    refine Ah Z ⟨j0.ext,Z⟩
   refine Aa bx<|Ag (Ai Z)<|Aa bx<|Ag (AZ (e2.mono bw))<|Aa bx<|Ag (Ai Z)<|Ag (AG bx Z)<|As 1 Z<|Bz 98 h ?_ ?_<;>intro ad h
   ·refine Aa ad<|Ag (Ae Z Ae3 Z BB.e)<|Aa ad<|Ag (Af 4 Z y Z)<|Aa ad<|Ag (Ai Z)<|Aa ad<|Ag (Ai Z)<|Bz 102 h ?_ ?_<;>intro b0 h
    ·iterate 3 refine Ar b0 ?_
     refine Aa ad<|Ag (AF b0 Z)<|Ag (AF ad Z)<|AA 1 Z<|Aw<|AN ?_
     cases h
     refine Ah Z ⟨y.ext,Z⟩
    refine Aa b0<|Ag (AJ 5 Z Me.e y Z)<|Aa b0<|A1 h fun n8 j1 h=>A9 y (FA _ _ (Av y) g.1 (dq.mono bw) (dr.mono bw) (ds.mono bw) j1) fun n9 nj j2 m4=>Aa b0<|Ag (Ai Z)<|Aa ad<|Ag (AG b0 Z)<|Ag (AF ad Z)<|AA 1 Z<|Aw<|AN ?_
    cases h
    refine Ah Z ⟨j2.ext,Z⟩
   iterate 4 refine Ar ad ?_
   iterate 3 refine BS ?_
   refine Ar ad<|Ag (AG ad Z)<|AA 1 Z<|Aw<|AN ?_
   cases h
   refine Ah Z ⟨y.ext,Z⟩
  refine Au<|A8 () ⟨y,e2,hi,hj,hk,dq,dr,ds,h⟩
 rintro _ oa ⟨gr,cr,ev,ew,ex,bo,bp,bq,h⟩
 refine Bb (Int×Int×Qq5×Nat×Value) (fun⟨bm,cs,p,bjb178,o⟩=>[(1,bj),(4,No a4),(5,(Abo b1)),(7,(Abo b2)),(8,(Abo b3)),(11,bk),(13,(Abo az)),(20,o),(21,(Abo bjb178))]) (fun⟨bm,cs,p,bjb178,o⟩ wr=>C5 w [.box bjb178 [No bm,No cs] 35,.box ed [No an.2.1,No an.2.2] 35,.box ec [No d.2.1,No d.2.2] 35,.box eb [No d.1.1.1,s,No d.1.2.1.1,u,x] 46,.box ea [No 5,Aal,.string ⟨(([42,42]:Abv)).toArray⟩,Aal,No 0,No 0,Aal] 30,.box c0 [No g.2.1,No g.2.2] 35,.box az [No g.1.1.1,aa,No g.1.2.1.1,ab,ac] 46,.box b6 [No x4.2.1,No x4.2.2] 35,.box b3 [ay,No a3.2] 32,.box b2 [No a2.f.1,av,Abu a2.f.2.2.1,aw,No a2.f.2.2.2.2.1,No a2.f.2.2.2.2.2.1,ax] 30,.box b1 [au] 24] wr fun Oz=>AS (.int .i64) (gz H w wr Oz) bk (x4.1)/\AS (.int .i64) (gz H w wr Oz) o p/\AS (.pair .st (.vec AlA)) (gz H w wr Oz) s (d.1.1.2)/\AS Al9 (gz H w wr Oz) u (d.1.2.1.2)/\AS AlB (gz H w wr Oz) x (d.1.2.2)/\AS (.pair .st (.vec AlA)) (gz H w wr Oz) aa (g.1.1.2)/\AS Al9 (gz H w wr Oz) ab (g.1.2.1.2)/\AS AlB (gz H w wr Oz) ac (g.1.2.2)/\(Iz a0 a1 a2 a3 a4 x4 g) bm cs p=some r) ?_ ?_
 ·have a:=gr.rG H;refine LX (Qqz 0 5 (.h2 5 (.h2 6 (Qqz 7 3 (.h 10 (.q 11 (.tail 12)))) 10 (.h 6 (Qqz 7 3 (.q 11 (.tail 12))))) 10 (.h 5 (.h 6 (Qqz 7 3 (.q 11 (.tail 12))))))) mixed Qqb (fun ob gv=>?_);have b4:=gr.call gv;have fy:=AH gr gv;refine B2 Z (AJ 5 Z Me.e b4 Z) Z<|B2 Z (AJ 8 Z Fj.e b4 Z) Z<|B9 2 Z<|B2 Z (AZ dn) Z<|V1 ?_ ?_
  ·refine A1 h fun l3 e5 h=>?_;have a:=a.trans (Ab fy);refine BC Z Z Z (fun l4 de=>JW _ _ (Av (b4.call de)) ((cr.mono a).mono (Ab (AH b4 de))) e5) ?_;rintro l4 m5 oc de e6 ⟨_,rfl,hl⟩;have e7:=b4.call de;have fz:=AH b4 de;have a9:=e7.call e6;have f0:=AH e7 e6;have cv:=hl.Cu hH e7 e6;refine V1 ?_ ?_
   ·refine A1 h fun a5 df h=>?_;have a:=a.trans (Ab (fz.trans f0));refine BC Z Z Z (fun l5 ba=>CO _ _ (Av (a9.call ba)) (hU.mono  Aj) ((bo.mono a).mono (Ab (AH a9 ba))) ((bp.mono a).mono (Ab (AH a9 ba))) ((bq.mono a).mono (Ab (AH a9 ba))) (ck.mono  Aj) (cl.mono  Aj) (cm.mono  Aj) (cv.mono (Ab (AH a9 ba))) df) ?_;rintro l5 _ od ba e8 ⟨iq,rfl,hm⟩;have e9:=a9.call ba;have ir:=AH a9 ba;have j3:=e9.call e8;have is:=AH e9 e8;have dt:=hm.Cu hH e9 e8;refine B9 3 Z<|JH Z AI.e Z Z j3 fun oe l6 gw f1=>B9 1 Z<|Bt (fun og gx=>?_);have j4:=gw.call gx;have f2:=AH gw gx;refine Ak 0 Z j4 Z fun oh j5 f3=>AE ?_;have a:=a.trans (Ab (ir.trans (is.trans (f1.trans (f2.trans f3)))));have dt:=dt.mono (Ab (f1.trans (f2.trans f3)))
    refine A8 (_,_,_,_,_) ⟨j5,(cr.mono a),dt,(ev.mono a),(ew.mono a),(ex.mono a),(bo.mono a),(bp.mono a),(bq.mono a),h⟩
   refine A1 h fun a5 df h=>JH Z AI.e Z Z a9 ?_;intro oi l7 b5 f4;have a:=a.trans (Ab (fz.trans (f0.trans f4)));have cv:=cv.mono (Ab f4);refine BC Z Z Z (fun l8 bb=>CO _ _ (Av (b5.call bb)) (hU.mono  Aj) ((bo.mono a).mono (Ab (AH b5 bb))) ((bp.mono a).mono (Ab (AH b5 bb))) ((bq.mono a).mono (Ab (AH b5 bb))) (ck.mono  Aj) (cl.mono  Aj) (cm.mono  Aj) (cv.mono (Ab (AH b5 bb))) df) ?_;rintro l8 _ oj bb fa ⟨it,rfl,hn⟩;have fb:=b5.call bb;have iu:=AH b5 bb;have gy:=fb.call fa;have iv:=AH fb fa;have du:=hn.Cu hH fb fa;refine B9 4 Z<|Bt (fun ok g0=>?_);have j6:=gy.call g0;have f5:=AH gy g0;refine Ak 0 Z j6 Z fun ol j7 f6=>AE ?_;have a:=a.trans (Ab (iu.trans (iv.trans (f5.trans f6))));have du:=du.mono (Ab (f5.trans f6))
   refine A8 (_,_,_,_,_) ⟨j7,(cr.mono a),du,(ev.mono a),(ew.mono a),(ex.mono a),(bo.mono a),(bp.mono a),(bq.mono a),h⟩
  refine A1 h fun l3 e5 h=>A1 h fun a5 df h=>JH Z AI.e Z Z b4 ?_;intro om l9 ep iw;have a:=a.trans (Ab (fy.trans iw));refine BC Z Z Z (fun ma dg=>JW _ _ (Av (ep.call dg)) ((cr.mono a).mono (Ab (AH ep dg))) e5) ?_;rintro ma m6 oo dg fc ⟨_,rfl,ho⟩;have fd:=ep.call dg;have ix:=AH ep dg;have b7:=fd.call fc;have iy:=AH fd fc;have hq:=ho.Cu hH fd fc;have a:=a.trans (Ab (ix.trans iy));refine BC Z Z Z (fun mb bc=>CO _ _ (Av (b7.call bc)) (hU.mono  Aj) ((bo.mono a).mono (Ab (AH b7 bc))) ((bp.mono a).mono (Ab (AH b7 bc))) ((bq.mono a).mono (Ab (AH b7 bc))) (ck.mono  Aj) (cl.mono  Aj) (cm.mono  Aj) (hq.mono (Ab (AH b7 bc))) df) ?_;rintro mb _ op bc fe ⟨iz,rfl,hr⟩;have ff:=b7.call bc;have i0:=AH b7 bc;have g1:=ff.call fe;have i1:=AH ff fe;have dv:=hr.Cu hH ff fe;refine B9 4 Z<|Bt (fun oq g2=>?_);have j8:=g1.call g2;have f7:=AH g1 g2
  refine Ak 0 Z j8 Z fun os j9 f8=>AE ?_;have a:=a.trans (Ab (i0.trans (i1.trans (f7.trans f8))));have dv:=dv.mono (Ab (f7.trans f8));refine A8 (_,_,_,_,_) ⟨j9,(cr.mono a),dv,(ev.mono a),(ew.mono a),(ex.mono a),(bo.mono a),(bp.mono a),(bq.mono a),h⟩
 rintro⟨bm,cs,p,bjb178,o⟩ nk ⟨g3,hs,f9,ht,hu,hv,hw,hx,hy,h⟩;have ak:=g3.rG H;refine Bo 1 Z ?_;obtain⟨ka,i2,kb⟩:=Cp (.int .i64) H 3 g3;refine Ad ?_
 refine Bb (Qq5×Value×Qq6) (fun⟨b8,cw,am⟩=>[(1,bj),(4,No a4),(5,(Abo b1)),(7,(Abo b2)),(8,(Abo b3)),(13,(Abo az)),(20,o),(21,(Abo bjb178)),(22,cw)]) (fun⟨b8,cw,am⟩ wr=>C5 w [.row cw 3 1 (b8).length am,.box bjb178 [No bm,No cs] 35,.box ed [No an.2.1,No an.2.2] 35,.box ec [No d.2.1,No d.2.2] 35,.box eb [No d.1.1.1,s,No d.1.2.1.1,u,x] 46,.box ea [No 5,Aal,.string ⟨(([42,42]:Abv)).toArray⟩,Aal,No 0,No 0,Aal] 30,.box c0 [No g.2.1,No g.2.2] 35,.box az [No g.1.1.1,aa,No g.1.2.1.1,ab,ac] 46,.box b6 [No x4.2.1,No x4.2.2] 35,.box b3 [ay,No a3.2] 32,.box b2 [No a2.f.1,av,Abu a2.f.2.2.1,aw,No a2.f.2.2.2.2.1,No a2.f.2.2.2.2.2.1,ax] 30,.box b1 [au] 24] wr fun Oz=>AS (.int .i64) (gz H w wr Oz) o p/\AK (.int .i64) (gz H w wr Oz) b8 am/\AS (.pair .st (.vec AlA)) (gz H w wr Oz) s (d.1.1.2)/\AS Al9 (gz H w wr Oz) u (d.1.2.1.2)/\AS AlB (gz H w wr Oz) x (d.1.2.2)/\AS (.pair .st (.vec AlA)) (gz H w wr Oz) aa (g.1.1.2)/\AS Al9 (gz H w wr Oz) ab (g.1.2.1.2)/\AS AlB (gz H w wr Oz) ac (g.1.2.2)/\(Ge a0 a1 a2 a3 a4 bm p g) b8=some r) ?_ ?_
 ·refine A7 1 Z<|A2 ?_;obtain⟨fg,h⟩:=AR h;have ak:=ak.trans (Ab i2)
  refine Bj (Qq5×Int×Value×Qq6×Nat) (fun⟨bn,k,b9,a6,n⟩=>[(1,bj),(4,No a4),(5,(Abo b1)),(7,(Abo b2)),(8,(Abo b3)),(11,bk),(13,(Abo az)),(20,o),(21,(Abo bjb178)),(22,b9),(23,No k)]) (fun⟨bn,k,b9,a6,n⟩ wr=>C5 w [.row b9 3 1 (bn).length a6,.box bjb178 [No bm,No cs] 35,.box ed [No an.2.1,No an.2.2] 35,.box ec [No d.2.1,No d.2.2] 35,.box eb [No d.1.1.1,s,No d.1.2.1.1,u,x] 46,.box ea [No 5,Aal,.string ⟨(([42,42]:Abv)).toArray⟩,Aal,No 0,No 0,Aal] 30,.box c0 [No g.2.1,No g.2.2] 35,.box az [No g.1.1.1,aa,No g.1.2.1.1,ab,ac] 46,.box b6 [No x4.2.1,No x4.2.2] 35,.box b3 [ay,No a3.2] 32,.box b2 [No a2.f.1,av,Abu a2.f.2.2.1,aw,No a2.f.2.2.2.2.1,No a2.f.2.2.2.2.2.1,ax] 30,.box b1 [au] 24] wr fun Oz=>AS (.int .i64) (gz H w wr Oz) bk (x4.1)/\AS (.int .i64) (gz H w wr Oz) o p/\AK (.int .i64) (gz H w wr Oz) bn a6/\AS (.pair .st (.vec AlA)) (gz H w wr Oz) s (d.1.1.2)/\AS Al9 (gz H w wr Oz) u (d.1.2.1.2)/\AS AlB (gz H w wr Oz) x (d.1.2.2)/\AS (.pair .st (.vec AlA)) (gz H w wr Oz) aa (g.1.1.2)/\AS Al9 (gz H w wr Oz) ab (g.1.2.1.2)/\AS AlB (gz H w wr Oz) ac (g.1.2.2)/\DR (FD a0 a1 a2 a3 a4 bm p x4 g) n (bn,k)=some r) (fun⟨bn,k,b9,a6,n⟩=>n) (([]:Qq5),0,Aal,[],fg) Z ⟨ka,(hs.mono ak),(f9.mono ak),kb,(ht.mono ak),(hu.mono ak),(hv.mono ak),(hw.mono ak),(hx.mono ak),(hy.mono ak),h⟩ ?_
  rintro⟨bn,k,b9,a6,nn321⟩ nl ⟨dh,ao,dw,ey,dx,dy,dz,d0,d1,d2,h⟩;obtain⟨fg,ot,rfl,h,eq⟩:=AQ h;refine A6 ?_;have c:=dh.rG H;refine Bo 2 Z<|Ag (AZ (ao.mono c))<|AA 1 Z<|AL h ?_ ?_<;>intro kc h
  ·refine Au<|Aq<|A6<|A2<|A6<|Bo 2 Z<|Ax h fun g4 h=>AW (ao.mono c) k.toNat (Cx g4) (AM g4) ?_;rintro ou _ rfl kd;refine Ag (AT kd (Av dh))<|As 1 Z<|Ag (AZ dn)<|Ax h fun ke h=>Ag (Ay ke)<|A9 dh (Aa9 _ _ (Av dh)) fun ov nm fh i3=>AA 1 Z<|BG h ?_ ?_<;>intro kf h
   ·refine A7 1 Z<|Aw<|Am<|Al<|Am<|Bc ?_;have h:=Bw.out h eq;refine Al<|AN ?_
    cases h
    refine Ah Z ⟨fh.ext,Z⟩
   refine Au<|Aq<|BZ (Qqz 0 9 (.tail 9)) mixed Qqb (fun mc g5=>?_);have ae:=fh.call g5;have i4:=AH fh g5;refine B9 3 Z<|Ax h fun g6 h=>?_;have c:=c.trans (Ab (i3.trans i4));refine CP Z Z Z Aco (ao.mono c) k.toNat (Cx g6) (AM g6) Z ?_;rintro ow _ rfl kg;refine B2 Z (AT kg (Av ae)) Z<|Ax h fun g7 h=>CP Z Z Z AkO dn ((x4.1.getD k.toNat Qq2).toNat) (Cx g7) (AM g7) Z ?_;rintro ox _ ⟨_,_,rfl,⟨e337v0,rfl,e337h0⟩,e337t1⟩ kh;obtain⟨_,_,rfl,rfl,⟨_,_,rfl,rfl,⟨_,_,rfl,⟨e337v3,rfl,e337h3⟩,⟨_,_,rfl,⟨e337v4,rfl,e337h4⟩,⟨e337v5,rfl,e337h5⟩⟩⟩⟩⟩:=Go.E.Rp.Mb e337t1;refine B2 Z (BI kh (hH.trans ae.arg)) Z<|B2 Z (AJ 10 Z Fj.e ae Z) Z<|A1 h fun oy ki h=>?_
   have i5:=(fun(i6:World) (ca:Ext mc i6)=>VL i6 _ (Le.refl _) ((e337h0.mono (hH.trans ae.arg)).mono ca.le) ((e337h3.mono (hH.trans ae.arg)).mono ca.le) ((e337h4.mono (hH.trans ae.arg)).mono ca.le) ((e337h5.mono (hH.trans ae.arg)).mono ca.le) ((ck.mono (hH.trans ae.arg)).mono ca.le) ((cl.mono (hH.trans ae.arg)).mono ca.le) ((cm.mono (hH.trans ae.arg)).mono ca.le) ki);refine Er Z Z Z i5<|Bt (fun oz g8=>?_);have fi:=ae.call g8;have ga:=AH ae g8;refine Ad<|Bi h ?_ ?_<;>intro kj h
   ·refine An<|As 3 Z<|Ax h fun g9 h=>?_;have c:=c.trans (Ab ga);refine AW (ao.mono c) k.toNat (Cx g9) (AM g9) ?_;rintro o0 _ rfl kk;refine Ag (AT kk (Av fi))<|Bx [x4.1.getD k.toNat Qq2] (r:=(.int .i64)) (fun _=>FX _ _) fi (.c1 Z .nil) fun o1 o2 nn kl i7 km=>Ax h fun kn h=>?_;have c:=c.trans (Ab i7);refine Bp (r:=(.int .i64)) 0 bn [x4.1.getD k.toNat Qq2] Z Aco kl Z (ey.mono c) km kn fun md o3 ko kp i8 kq=>As 1 Z<|AE<|Az<|Aq<|An<|As 1 Z<|Ax h fun kr h=>Ag (Ay kr)<|As 1 Z<|AE ?_;have h:=Bw.again h eq;have c:=c.trans (Ab i8);refine AD (_,_,_,_,_) Z ⟨kp,(ao.mono c),(dw.mono c),kq,(dx.mono c),(dy.mono c),(dz.mono c),(d0.mono c),(d1.mono c),(d2.mono c),h⟩
   refine Au<|Az<|Aq<|An<|As 1 Z<|Ax h fun ks h=>Ag (Ay ks)<|As 1 Z<|AE ?_;have h:=Bw.again h eq;have c:=c.trans (Ab ga);refine AD (_,_,_,_,_) Z ⟨fi,(ao.mono c),(dw.mono c),(ey.mono c),(dx.mono c),(dy.mono c),(dz.mono c),(d0.mono c),(d1.mono c),(d2.mono c),h⟩
  refine Bf<|A5<|A3 ?_;have h:=Bw.out h eq;refine AY<|A8 (_,_,_) ⟨dh,(dw.mono c),(ey.mono c),(dx.mono c),(dy.mono c),(dz.mono c),(d0.mono c),(d1.mono c),(d2.mono c),h⟩
 rintro⟨b8,cw,am⟩ no ⟨al,br,ai,hz,h0,h1,h3,h4,h5,h⟩
 refine Bb Unit (fun(_:Unit)=>[(1,bj),(4,No a4),(5,(Abo b1)),(7,(Abo b2)),(8,(Abo b3)),(13,(Abo az)),(20,o)]) (fun(_:Unit) wr=>C5 w [.row cw 3 1 (b8).length am,.box bjb178 [No bm,No cs] 35,.box ed [No an.2.1,No an.2.2] 35,.box ec [No d.2.1,No d.2.2] 35,.box eb [No d.1.1.1,s,No d.1.2.1.1,u,x] 46,.box ea [No 5,Aal,.string ⟨(([42,42]:Abv)).toArray⟩,Aal,No 0,No 0,Aal] 30,.box c0 [No g.2.1,No g.2.2] 35,.box az [No g.1.1.1,aa,No g.1.2.1.1,ab,ac] 46,.box b6 [No x4.2.1,No x4.2.2] 35,.box b3 [ay,No a3.2] 32,.box b2 [No a2.f.1,av,Abu a2.f.2.2.1,aw,No a2.f.2.2.2.2.1,No a2.f.2.2.2.2.2.1,ax] 30,.box b1 [au] 24] wr fun Oz=>AS (.int .i64) (gz H w wr Oz) o p/\AK (.int .i64) (gz H w wr Oz) b8 am/\AS (.pair .st (.vec AlA)) (gz H w wr Oz) s (d.1.1.2)/\AS Al9 (gz H w wr Oz) u (d.1.2.1.2)/\AS AlB (gz H w wr Oz) x (d.1.2.2)/\AS (.pair .st (.vec AlA)) (gz H w wr Oz) aa (g.1.1.2)/\AS Al9 (gz H w wr Oz) ab (g.1.2.1.2)/\AS AlB (gz H w wr Oz) ac (g.1.2.2)/\(Gd a0 a1 a2 a3 a4 p g)=some r) ?_ ?_
 ·have j:=al.rG H;refine Ao<|Ag (Ae Z Ae3 Z BB.e)<|Ag (Af 1 Z al Z)<|As 2 Z<|Et 152 h ?_ ?_<;>intro bd h
  ·iterate 4 refine Ar bd ?_
   refine Ag (AF bd Z)<|As 1 Z ?_
   iterate 4 refine Ar Z ?_
   refine Ag (AF Z Z)<|Ad<|DS<|Ao<|Ag (Ae Z Ae3 Z BB.e)<|Ag (Af 1 Z al Z)<|As 2 Z<|Bz 167 h ?_ ?_<;>intro cb h
   ·refine Aa cb<|Ag (Ai Z)<|Aa cb<|Ag (Ai Z)<|Aa cb<|A1 h fun o4 kt h=>A9 al (Lm _ _ (Le.refl _) ((br.mono j).mono (Av al)) (al.MZ hH (i:=0) Z (ai.mono j)) kt) fun o5 np ku m7=>Ag (AF cb Z)<|AA 1 Z<|Aw<|AN ?_
    cases h
    refine Ah Z ⟨ku.ext,Z⟩
   iterate 3 refine Ar cb ?_
   refine Ag (AG cb Z)<|AA 1 Z<|Aw<|AN ?_
   cases h
   refine Ah Z ⟨al.ext,Z⟩
  refine Aa bd<|Ag (Ai Z)<|Aa bd<|Ag (Ai Z)<|Aa bd<|A1 h fun o6 kv h=>A9 al (Lm _ _ (Le.refl _) ((br.mono j).mono (Av al)) (al.MZ hH (i:=0) Z (ai.mono j)) kv) fun o7 nq af ez=>Aa bd<|Ag (Ai Z)<|Ag (AG bd Z)<|As 1 Z<|Cv 158 h ?_ ?_<;>intro be h
  ·iterate 4 refine Ar be ?_
   refine Ag (AF be Z)<|Ad<|DS<|Ao<|Ag (Ae Z Ae3 Z BB.e)<|Ag (Af 1 Z af Z)<|As 2 Z<|Bz 167 h ?_ ?_<;>intro cc h
   ·refine Aa cc<|Ag (Ai Z)<|Aa cc<|Ag (Ai Z)<|Aa cc<|A1 h fun o8 kw h=>?_;have j:=j.trans (Ab ez);refine A9 af (Lm _ _ (Le.refl _) ((br.mono j).mono (Av af)) (af.MZ hH (i:=0) Z (ai.mono j)) kw) fun o9 nr kx m8=>Ag (AF cc Z)<|AA 1 Z<|Aw<|AN ?_
    cases h
    refine Ah Z ⟨kx.ext,Z⟩
   iterate 3 refine Ar cc ?_
   refine Ag (AG cc Z)<|AA 1 Z<|Aw<|AN ?_
   cases h
   refine Ah Z ⟨af.ext,Z⟩
  refine Aa be<|Ag (Ai Z)<|Aa be<|Ag (Ae Z Ahw Z BB.e)<|Aa be<|Ag (Af 9 Z af Z)<|Aa be<|Ag (Ai Z)<|Ag (AG be Z)<|Ad<|AL h ?_ ?_<;>intro ky h
  ·refine Ao<|Ag (Ae Z Ae3 Z BB.e)<|Ag (Af 1 Z af Z)<|As 2 Z<|Bz 167 h ?_ ?_<;>intro cd h
   ·refine Aa cd<|Ag (Ai Z)<|Aa cd<|Ag (Ai Z)<|Aa cd<|A1 h fun pa kz h=>?_;have j:=j.trans (Ab ez);refine A9 af (Lm _ _ (Le.refl _) ((br.mono j).mono (Av af)) (af.MZ hH (i:=0) Z (ai.mono j)) kz) fun pb ns k0 m9=>Ag (AF cd Z)<|AA 1 Z<|Aw<|AN ?_
    cases h
    refine Ah Z ⟨k0.ext,Z⟩
   iterate 3 refine Ar cd ?_
   refine Ag (AG cd Z)<|AA 1 Z<|Aw<|AN ?_
   cases h
   refine Ah Z ⟨af.ext,Z⟩
  refine Au ?_;have j:=j.trans (Ab ez);refine A8 () ⟨af,(br.mono j),(ai.mono j),(hz.mono j),(h0.mono j),(h1.mono j),(h3.mono j),(h4.mono j),(h5.mono j),h⟩
 rintro _ nt ⟨cx,d3,ai,d4,d5,d6,ap,aq,ar,h⟩;have b:=cx.rG H;refine Ao<|Ag (AJ 11 Z AjD.e cx Z)<|Ag (Ae Z Ahw Z H3.e)<|Ag (Af 9 Z cx Z)<|As 1 Z<|Ag (Ba (fun _=>AdM _ go.one _ _))<|A1 h fun i9 k1 h=>Br cx (MK (a0:=a0) (a1:=(a3.1,a4)) _ _ (Av cx) (gn.mono  Aj) (go.mono  Aj) k1) ?_;rintro _ pc ⟨na,rfl,h6⟩ k2 k3 e0;have z:=h6.Cu hH cx k2;refine As 3 Z<|AO AI.e Z k3 fun pd me k4 bt _=>As 1 Z<|Ak 0 Z k4 Z fun pe di bu=>Ad<|A6<|Ao<|Ag (Ae Z Ae3 Z BB.e)<|Ag (Af 0 Z di Z)<|AA 1 Z<|BG h ?_ ?_<;>intro k5 h
 ·refine Bo 3 Z<|Bz 186 h ?_ ?_<;>intro ce h
  ·refine Aa ce<|Ag (Ai Z)<|Aa ce ?_;have z:=z.mono (Ab (bt.trans bu));refine Ag (AZ z)<|Aa ce<|Ag (Ai Z)<|Ag (AF ce Z)<|AA 1 Z<|Aw<|Am ?_
   cases h
   refine Ah Z ⟨di.ext,Z⟩
  iterate 3 refine Ar ce ?_
  refine Ag (AG ce Z)<|AA 1 Z<|Aw<|Am ?_
  cases h
  refine Ah Z ⟨di.ext,Z⟩
 refine Au<|Aq ?_
 refine Bb (Int×Int×Qq5×Nat×Value) (fun⟨fj,fk,cy,bjb456,cf⟩=>[(20,o),(26,cf),(27,(Abo bjb456))]) (fun⟨fj,fk,cy,bjb456,cf⟩ wr=>C5 w [.box bjb456 [No fj,No fk] 35,.box me [No i9.2.1,No i9.2.2] 35,.row cw 3 1 (b8).length am,.box bjb178 [No bm,No cs] 35,.box ed [No an.2.1,No an.2.2] 35,.box ec [No d.2.1,No d.2.2] 35,.box eb [No d.1.1.1,s,No d.1.2.1.1,u,x] 46,.box ea [No 5,Aal,.string ⟨(([42,42]:Abv)).toArray⟩,Aal,No 0,No 0,Aal] 30,.box c0 [No g.2.1,No g.2.2] 35,.box az [No g.1.1.1,aa,No g.1.2.1.1,ab,ac] 46,.box b6 [No x4.2.1,No x4.2.2] 35,.box b3 [ay,No a3.2] 32,.box b2 [No a2.f.1,av,Abu a2.f.2.2.1,aw,No a2.f.2.2.2.2.1,No a2.f.2.2.2.2.2.1,ax] 30,.box b1 [au] 24] wr fun Oz=>AS (.int .i64) (gz H w wr Oz) o p/\AS (.int .i64) (gz H w wr Oz) cf cy/\AK (.int .i64) (gz H w wr Oz) b8 am/\AS (.pair .st (.vec AlA)) (gz H w wr Oz) s (d.1.1.2)/\AS Al9 (gz H w wr Oz) u (d.1.2.1.2)/\AS AlB (gz H w wr Oz) x (d.1.2.2)/\AS (.pair .st (.vec AlA)) (gz H w wr Oz) aa (g.1.1.2)/\AS Al9 (gz H w wr Oz) ab (g.1.2.1.2)/\AS AlB (gz H w wr Oz) ac (g.1.2.2)/\(Iy p) fj fk cy=some r) ?_ ?_
 ·refine LX (Qqz 0 5 (.h2 5 (.h2 6 (Qqz 7 3 (.h 10 (.q 11 (.tail 12)))) 10 (.h 6 (Qqz 7 3 (.q 11 (.tail 12))))) 10 (.h 5 (.h 6 (Qqz 7 3 (.q 11 (.tail 12))))))) mixed Qqb (fun pf ha=>?_);have cg:=di.call ha;have ct:=AH di ha;refine B2 Z (AJ 8 Z Me.e cg Z) Z<|B2 Z (AJ 11 Z Fj.e cg Z) Z<|B9 2 Z<|B2 Z (AZ dn) Z<|V1 ?_ ?_
  ·refine A1 h fun mf fl h=>?_;have z:=z.mono (Ab (bt.trans (bu.trans ct)));refine BC Z Z Z (fun mg dj=>JW _ _ (Av (cg.call dj)) (z.mono (Ab (AH cg dj))) fl) ?_;rintro mg nb pg dj fm ⟨_,rfl,h7⟩;have fn:=cg.call dj;have gb:=AH cg dj;have bf:=fn.call fm;have gc:=AH fn fm;have cz:=h7.Cu hH fn fm;refine V1 ?_ ?_
   ·refine A1 h fun a7 dk h=>?_;have b:=b.trans (Ab (e0.trans (bt.trans (bu.trans (ct.trans (gb.trans gc))))));refine BC Z Z Z (fun mh bg=>CO _ _ (Av (bf.call bg)) (hU.mono  Aj) ((ap.mono b).mono (Ab (AH bf bg))) ((aq.mono b).mono (Ab (AH bf bg))) ((ar.mono b).mono (Ab (AH bf bg))) (ck.mono  Aj) (cl.mono  Aj) (cm.mono  Aj) (cz.mono (Ab (AH bf bg))) dk) ?_;rintro mh _ ph bg fo ⟨ja,rfl,h8⟩;have fp:=bf.call bg;have jb:=AH bf bg;have k6:=fp.call fo;have jc:=AH fp fo;have d7:=h8.Cu hH fp fo;refine B9 3 Z<|JH Z AI.e Z Z k6 fun pi mi hb gd=>B9 1 Z<|Bt (fun pj hc=>?_);have k7:=hb.call hc;have ge:=AH hb hc;refine Ak 0 Z k7 Z fun pk k8 gf=>AE ?_;have b:=b.trans (Ab (jb.trans (jc.trans (gd.trans (ge.trans gf)))));have d7:=d7.mono (Ab (gd.trans (ge.trans gf)))
    refine A8 (_,_,_,_,_) ⟨k8,(d3.mono b),d7,(ai.mono b),(d4.mono b),(d5.mono b),(d6.mono b),(ap.mono b),(aq.mono b),(ar.mono b),h⟩
   refine A1 h fun a7 dk h=>JH Z AI.e Z Z bf ?_;intro pl mj ch gg;have b:=b.trans (Ab (e0.trans (bt.trans (bu.trans (ct.trans (gb.trans (gc.trans gg)))))));have cz:=cz.mono (Ab gg);refine BC Z Z Z (fun ml bh=>CO _ _ (Av (ch.call bh)) (hU.mono  Aj) ((ap.mono b).mono (Ab (AH ch bh))) ((aq.mono b).mono (Ab (AH ch bh))) ((ar.mono b).mono (Ab (AH ch bh))) (ck.mono  Aj) (cl.mono  Aj) (cm.mono  Aj) (cz.mono (Ab (AH ch bh))) dk) ?_;rintro ml _ pm bh fq ⟨jd,rfl,h9⟩;have fr:=ch.call bh;have je:=AH ch bh;have hd:=fr.call fq;have jf:=AH fr fq;have d8:=h9.Cu hH fr fq;refine B9 4 Z<|Bt (fun pn he=>?_);have k9:=hd.call he;have gh:=AH hd he;refine Ak 0 Z k9 Z fun po la gi=>AE ?_;have b:=b.trans (Ab (je.trans (jf.trans (gh.trans gi))));have d8:=d8.mono (Ab (gh.trans gi))
   refine A8 (_,_,_,_,_) ⟨la,(d3.mono b),d8,(ai.mono b),(d4.mono b),(d5.mono b),(d6.mono b),(ap.mono b),(aq.mono b),(ar.mono b),h⟩
  refine A1 h fun mf fl h=>A1 h fun a7 dk h=>JH Z AI.e Z Z cg ?_;intro pp mm er gj;have z:=z.mono (Ab (bt.trans (bu.trans (ct.trans gj))));refine BC Z Z Z (fun mn dl=>JW _ _ (Av (er.call dl)) (z.mono (Ab (AH er dl))) fl) ?_;rintro mn nc pq dl fs ⟨_,rfl,ia⟩;have ft:=er.call dl;have jg:=AH er dl;have ci:=ft.call fs;have jh:=AH ft fs;have ib:=ia.Cu hH ft fs;have b:=b.trans (Ab (e0.trans (bt.trans (bu.trans (ct.trans (gj.trans (jg.trans jh)))))));refine BC Z Z Z (fun mo bi=>CO _ _ (Av (ci.call bi)) (hU.mono  Aj) ((ap.mono b).mono (Ab (AH ci bi))) ((aq.mono b).mono (Ab (AH ci bi))) ((ar.mono b).mono (Ab (AH ci bi))) (ck.mono  Aj) (cl.mono  Aj) (cm.mono  Aj) (ib.mono (Ab (AH ci bi))) dk) ?_;rintro mo _ pr bi fu ⟨ji,rfl,ic⟩;have fv:=ci.call bi;have jj:=AH ci bi;have hf:=fv.call fu;have jk:=AH fv fu;have d9:=ic.Cu hH fv fu;refine B9 4 Z ?_
  refine Bt (fun ps hg=>?_);have lb:=hf.call hg;have gk:=AH hf hg;refine Ak 0 Z lb Z fun pt lc gl=>AE ?_;have b:=b.trans (Ab (jj.trans (jk.trans (gk.trans gl))));have d9:=d9.mono (Ab (gk.trans gl));refine A8 (_,_,_,_,_) ⟨lc,(d3.mono b),d9,(ai.mono b),(d4.mono b),(d5.mono b),(d6.mono b),(ap.mono b),(aq.mono b),(ar.mono b),h⟩
 rintro⟨fj,fk,cy,bjb456,cf⟩ nu ⟨dm,ie,gm,he460_r218,mp,mq,mr,ms,mt,mu,h⟩;have hh:=dm.rG H;refine Ao<|Ag (Ae Z Ae3 Z BB.e)<|Ag (Af 0 Z dm Z)<|As 2 Z<|Bz 204 h ?_ ?_<;>intro cj h
 ·refine Aa cj<|Ag (Ai Z)<|Aa cj<|Ag (Ai Z)<|Aa cj<|A1 h fun pu ld h=>A9 dm (XT _ _ (Av dm) (ie.mono hh) (gm.mono hh) ld) fun pv nv lf nd=>Ag (AF cj Z)<|AA 1 Z<|Aw ?_
  cases h
  refine Ah Z ⟨lf.ext,Z⟩
 iterate 3 refine Ar cj ?_
 refine Ag (AG cj Z)<|AA 1 Z<|Aw ?_
 cases h
 refine Ah Z ⟨dm.ext,Z⟩
end
end Go.Proofs.YtopocbcekabkoaaGreatDoor
end
noncomputable section
namespace Go.L
def SM:Qq4->Qq4->Qq8
 | cur,[]=>[cur]
 | cur,c::s=>if c=47 then cur::SM [] s else SM (cur++[c]) s
theorem Zp:∀(s cur:Qq4),SM cur s=(cur++(SM [] s).headD [])::(SM [] s).tail
 | [],cur=>by simp[SM]
 | c::s,cur=>by
  unfold SM
  by_cases h:c=47
  ·rw[if_pos h,if_pos h];simp
  ·rw[if_neg h,if_neg h,Zp s (cur++[c]),Zp s ([]++[c])];simp
theorem Zq:∀(s cur:Qq4),(SM cur s).length<=s.length+1
 | [],_=>by simp[SM]
 | c::s,cur=>by
  unfold SM
  split
  ·have:=Zq s [];simp only[Qzc];omega
  ·have:=Zq s (cur++[c]);simp only[Qzc];omega
def Vm:Qq8->Nat
 | []=>0
 | x::l=>x.length+1+Vm l
theorem Zs:∀(s cur:Qq4),Vm (SM cur s)=cur.length+s.length+1
 | [],cur=>by simp[SM,Vm]
 | c::s,cur=>by
  unfold SM
  split
  ·unfold Vm;rw[Zs s []];simp only[Qzc,QzB];omega
  ·rw[Zs s];simp only[Qzd,Qzc,QzB];omega
theorem Xc:∀s:Qq4,Lib.splitK [47] 0 (s.count 47) s=SM [] s
 | []=>rfl
 | c::s=>by
  have ih:=Xc s
  have hi:Lib.index (c::s) [47]=if c==47 then 0 else if Lib.index s [47] == -1 then -1 else Lib.index s [47]+1:=by
   rw[Lib.index_one,Lib.index_one];rfl
  by_cases h:c=47
  ·subst h;rw[List.count_cons_self];unfold Lib.splitK SM;rw[hi];simp[ih]
  ·have hb:(c==47)=false:=by simpa using h
   rw[List.count_cons_of_ne (fun e=>h e)]
   have hp:SM [] (c::s)=([c]++(SM [] s).headD [])::(SM [] s).tail:=by
    conv=>lhs;unfold SM
    rw[if_neg h,Zp s ([]++[c])];rfl
   rw[hp,<- ih]
   cases hk:s.count 47 with
   | zero=>rfl
   | succ k=>
    unfold Lib.splitK;rw[hi,hb]
    by_cases a:(Lib.index s [47] == -1)=true
    ·simp[a]
    ·have hge : -1<=Lib.index s [47]:=Lib.index_ge s [47];have h2:0<=Lib.index s [47]:=by have:Lib.index s [47]≠-1:=fun e=>a (by simp[e]);omega
     obtain⟨i,b⟩:=Int.eq_ofNat_of_zero_le h2;have h3:((i:Int)+1 == -1)=false:=by simp;omega
     have d:((i:Int) == -1)=false:=by simp
     rw[b]at a ⊢;simp[h3,d,show((i:Int)+1).toNat=i+1 by omega]
def sl(s:Qq4):Qq8:=if s=[]then[]else SM [] s
theorem Zt(s:Qq4):(sl s).length<=s.length+1:=by unfold sl;split;simp;exact Zq s []
theorem AfG(s:Qq4):Vm (sl s)<=s.length+1:=by unfold sl;split;simp[Vm];rw[Zs];simp
theorem Zu:∀{l:Qq8}{x:Qq4},x∈l->x.length<Vm l
 | y::l,x,h=>by
  unfold Vm
  rcases Qze.1 h with rfl | h
  ·omega
  ·have:=Zu h;omega
def ZP(c:UInt8):Bool:=decide ((97<=c.toNat/\c.toNat<=122)\/(48<=c.toNat/\c.toNat<=57)\/c.toNat=45\/c.toNat=95\/c.toNat=46)
def Tx(s:Qq4):Bool:=decide (1<=s.length/\s.length<=32/\97<=(s.getD 0 Qq2).toNat/\(s.getD 0 Qq2).toNat<=122)&&s.all ZP
def wr(w:Bool):Int->Qq8->Int
 | _,[]=>-1
 | a,x::l=>if(Tx x||decide (x=[35])||(w&&(decide (x=[42])||decide (x=[42,42]))))=true then wr w (a+x.length+1) l else a
theorem drop_cons{α:Type}[Inhabited α]{l:List α}{i:Nat}(h:i<l.length):l.drop i=l.getD i Qq2::l.drop (i+1):=by
 rw[List.drop_eq_getElem_cons h];simp[Qzj,Qzy h]
theorem C3{α:Type}[Inhabited α]{l:List α}{i:Nat}(h:i<l.length):l.getD i Qq2∈l:=by
 rw[Qzj,Qzy h];exact Qz3 h
end Go.L
namespace Go.Proofs.YtopocbcekabkoaaGreatDoor
open Go Go.L
theorem Xd{s:Qq4}(h:s.length<4294967281):JL s=some (sl s):=by
 unfold JL sl
 by_cases hs:s=[]
 ·rw[if_pos hs,if_pos hs]
 ·rw[if_neg hs,if_neg hs];unfold strings_Split U3;rw[Ac ⟨h,Z,Z,Z⟩]
  show some (pieces s)=some (SM [] s)
  unfold pieces Lib.split;rw[Lib.count_one,Xc]
theorem XU{s:Qq4}(hs:s.length<=1000000000000):∀(d i f:Nat) (L:Qq8),i+d=s.length->f<=i->L.length<=i->
  Go.L.run (DD s) (L,(f:Int),(i:Int))=some (L++SM ((s.drop f).take (i - f)) (s.drop i)):=by
 intro d
 induction d with
 | zero=>
  intro i f L hi hf hL
  have a:DD s (L,(f:Int),(i:Int))=some (.inl (L++[(s.drop f).take (i - f)],((i+1:Nat):Int),((i+1:Nat):Int))):=by
   unfold DD;simp only[Qzk];rw[if_pos U,if_pos U,Ac U,Ac (by unfold Go.E.Fz;simp;omega),Ac (by unfold Bq;omega),Ac (by unfold Bq;omega)]
   rfl
  rw[Bh a,AV (m:=some (L++[(s.drop f).take (i - f)]))]
  ·rw[Qxz (by omega:s.length<=i)];rfl
  ·unfold DD;dsimp only;rw[if_neg U]
   rfl
 | succ d ih=>
  intro i f L hi hf hL;have hil:i<s.length:=by omega
  have hd:=drop_cons hil
  by_cases hc:s.getD i Qq2=47
  ·have a:DD s (L,(f:Int),(i:Int))=some (.inl (L++[(s.drop f).take (i - f)],((i+1:Nat):Int),((i+1:Nat):Int))):=by
    unfold DD;simp only[Qzk];rw[if_pos U,if_neg U,Ac U,if_pos (by rw[hc];rfl),Ac U,Ac (by unfold Go.E.Fz;simp;omega),Ac (by unfold Bq;omega),Ac (by unfold Bq;omega)]
    rfl
   rw[Bh a,ih (i+1) (i+1) _ U (Qzu _) (by simp;omega),hd]
   conv=>rhs;unfold SM
   rw[if_pos hc,Nat.sub_self,List.take_zero,QxB]
   rfl
  ·have a:DD s (L,(f:Int),(i:Int))=some (.inl (L,(f:Int),((i+1:Nat):Int))):=by
    unfold DD;simp only[Qzk];rw[if_pos U,if_neg U,Ac U,if_neg (fun e=>hc (UInt8.toNat.inj (show(s.getD i Qq2).toNat=47 by omega))),Ac (by unfold Bq;omega)]
    rfl
   rw[Bh a,ih (i+1) f _ U U U,hd]
   conv=>rhs;unfold SM
   rw[if_neg hc]
   congr 2
   rw[show i+1 - f=(i - f)+1 by omega,Qx7,List.getElem?_drop,show f+(i - f)=i by omega,Qzy hil];simp[Qzj,Qzy hil]
theorem UI{s:Qq4}(hs:s.length<=1000000000000):Mf s=some (sl s):=by
 unfold Mf sl
 split
 ·rfl
 ·have:=XU hs s.length 0 0 [] U (Qzu _) (Qzu _);exact this
theorem AbR{s:Qq4}(hs:s.length<=1000000000000):∀(d i:Nat),i+d=s.length->1<=i->Go.L.run (Dk s) (i:Int)=some ((s.drop i).all ZP&&decide (1<=s.length/\s.length<=32)):=by
 intro d
 induction d with
 | zero=>
  intro i hi h;refine AV ?_;unfold Dk NZ Ew;rw[if_neg U,Qxz (by omega:s.length<=i)];simp only[Qzq,Option.map_some,List.all_nil,Qkw]
  congr 2
  rw[decide_eq_decide];omega
 | succ d ih=>
  intro i hi h;have hil:i<s.length:=by omega
  rw[drop_cons hil,List.all_cons]
  have hstep:Dk s (i:Int)=if ZP (s.getD i Qq2)then some (.inl ((i+1:Nat):Int))else some (.inr false):=by
   unfold Dk Ew ZP;rw[if_pos U,Ac U,Qzk];have hk:Bq ((i:Int)+1):=by unfold Bq;omega
   have hz : ¬((i:Int)=0):=by omega
   simp only[Qzq,Ac hk,if_neg hz];generalize (s.getD i Qq2).toNat=c;have j:(decide ((97:Int)<=(c:Int)/\(c:Int)<=122))=decide (97<=c/\c<=122):=by rw[decide_eq_decide];omega
   have k:(decide ((48:Int)<=(c:Int)/\(c:Int)<=57))=decide (48<=c/\c<=57):=by rw[decide_eq_decide];omega
   rw[j,k]
   by_cases a:97<=c/\c<=122
   ·simp[a]
   ·by_cases b:48<=c/\c<=57
    ·simp[a,b]
    ·by_cases e:c=45
     ·subst e;simp
     ·by_cases f:c=95
      ·subst f;simp
      ·by_cases g:c=46
       ·subst g;simp
       ·have k3' : ¬((c:Int)=45):=by omega
        have k4' : ¬((c:Int)=95):=by omega
        have k5' : ¬((c:Int)=46):=by omega
        simp[a,b,e,f,g,k3',k4',k5']
  by_cases hn:ZP (s.getD i Qq2)=true
  ·rw[if_pos hn]at hstep;rw[Bh hstep,ih (i+1) U U,hn,Qkw]
  ·rw[if_neg hn]at hstep;have hn':ZP (s.getD i Qq2)=false:=by simpa using hn
   rw[AV (m:=some false) hstep,hn',Bool.false_and,Bool.false_and]
theorem AdW{s:Qq4}(hs:s.length<=1000000000000):OH s=some (Tx s):=by
 unfold OH Rv
 by_cases b:s=[]
 ·subst b;refine AV ?_
  rfl
 ·have hl:0<s.length:=Qkv.2 b;have hd:s=s.getD 0 Qq2::s.drop 1:=by have:=drop_cons hl;simpa using this
  by_cases hc:97<=(s.getD 0 Qq2).toNat/\(s.getD 0 Qq2).toNat<=122
  ·have a:Dk s (0:Int)=some (.inl ((1:Nat):Int)):=by
    unfold Dk Ew;rw[if_pos U,Ac U];simp only[Qzq,Int.toNat_zero];have hh:(decide ((97:Int)<=((s.getD 0 Qq2).toNat:Int)/\((s.getD 0 Qq2).toNat:Int)<=122))=true:=by rw[decide_eq_true_eq];omega
    rw[hh,if_neg Qqc,Ac (by unfold Bq;omega)]
    rfl
   rw[Bh a,AbR hs (s.length - 1) 1 U (Qzu _)];unfold Tx;have hn:ZP (s.getD 0 Qq2)=true:=by unfold ZP;rw[decide_eq_true_eq];exact .inl hc
   have ha:s.all ZP=(s.drop 1).all ZP:=by conv=>lhs;rw[hd,List.all_cons,hn,Qkw]
   rw[ha,Bool.and_comm]
   congr 2
   rw[decide_eq_decide]
   constructor
   ·intro h;exact⟨h.1,h.2,hc.1,hc.2⟩
   ·intro h;exact⟨h.1,h.2.1⟩
  ·have a:Dk s (0:Int)=some (.inr false):=by
    unfold Dk Ew;rw[if_pos U,Ac U];simp only[Qzq,Int.toNat_zero];have hh:(decide ((97:Int)<=((s.getD 0 Qq2).toNat:Int)/\((s.getD 0 Qq2).toNat:Int)<=122))=false:=by rw[decide_eq_false_iff_not];omega
    rw[hh]
    rfl
   rw[AV (m:=some false) a];unfold Tx;rw[show(decide (1<=s.length/\s.length<=32/\97<=(s.getD 0 Qq2).toNat/\(s.getD 0 Qq2).toNat<=122))=false by rw[decide_eq_false_iff_not];intro h;exact hc ⟨h.2.2.1,h.2.2.2⟩]
   rfl
theorem Yt(l:Qq4)(k:Nat):((ByteArray.mk l.toArray).get! k).toNat=(l.getD k Qq2).toNat:=by
 simp[ByteArray.get!,Qzj,getElem!_def]
 cases l[k]? <;> rfl
theorem AhU{l:Qq4}{p:Nat}(h:(l.getD p Qq2).toNat<128):Utf8.decode ⟨l.toArray⟩ p=((l.getD p Qq2).toNat,1):=by
 unfold Utf8.decode;simp only[Qxf,Yt];rw[if_pos h]
theorem AfH{l:Qq4}{p:Nat}(h : ¬(l.getD p Qq2).toNat<128):128<=(Utf8.decode ⟨l.toArray⟩ p).1:=by
 unfold Utf8.decode;simp only[Qxf,Yt];rw[if_neg h]
 split
 ·split
  ·rename_i h2;simpa using h2
  ·decide
 ·split
  ·split
   ·rename_i h2;simp only[ge_iff_le,QzQ,decide_eq_true_eq]at h2;show 128<=_;omega
   ·decide
  ·split
   ·split
    ·rename_i h2;simp only[ge_iff_le,QzQ,decide_eq_true_eq]at h2;show 128<=_;omega
    ·decide
   ·decide
theorem AfI(c:UInt8):Zf c.toNat = !(ZP c):=by
 unfold Zf ZP;generalize c.toNat=n;rw[Qz7];simp;omega
theorem AfJ{a:Qq4}:∀(f p:Nat),a.length<=p+f->(0<=Lib.idxFuncFrom Zf true ⟨a.toArray⟩ f p↔(a.drop p).all ZP=false)
 | 0,p,h=>by
  rw[Qxz U];simp[Lib.idxFuncFrom]
 | f+1,p,h=>by
  have hsz:(ByteArray.mk a.toArray).size=a.length:=by simp[Qx6]
  unfold Lib.idxFuncFrom;rw[hsz]
  by_cases hp:p<a.length
  ·rw[if_pos hp,drop_cons hp,List.all_cons]
   by_cases hc:(a.getD p Qq2).toNat<128
   ·rw[AhU hc];simp only[AfI]
    by_cases hn:ZP (a.getD p Qq2)=true
    ·rw[hn,if_neg Qqc,Qkw];exact AfJ f (p+1) U
    ·have hn':ZP (a.getD p Qq2)=false:=by simpa using hn
     rw[hn',if_pos Qqc];simp
   ·have hb:Zf (Utf8.decode ⟨a.toArray⟩ p).1=true:=by
     have:=AfH hc;unfold Zf;simp;omega
    have hn:ZP (a.getD p Qq2)=false:=by
     unfold ZP;rw[decide_eq_false_iff_not];omega
    rw[hb,if_pos Z,hn];simp
  ·rw[if_neg hp,Qxz U];simp
theorem AdX(a:Qq4):Zg a=some (!(a.all ZP)):=by
 unfold Zg Lib.idxFunc
 congr 1
 have:=AfJ (a:=a) (ByteArray.mk a.toArray).size 0 (by simp[Qx6]);rw[Qx8]at this;rw[Qz7,decide_eq_true_eq,this];simp
theorem Uc(s:Qq4):Jq s=some (Tx s):=by
 unfold Jq Tx
 by_cases a:s=[]
 ·subst a;rfl
 ·have hl:0<s.length:=Qkv.2 a;rw[if_neg a]
  by_cases b:(32:Int)<(s.length:Int)
  ·rw[if_pos b,show decide (1<=s.length/\s.length<=32/\97<=(s.getD 0 Qq2).toNat/\(s.getD 0 Qq2).toNat<=122)=false by rw[decide_eq_false_iff_not];omega]
   rfl
  ·rw[if_neg b,Ac U,Int.toNat_zero]
   by_cases h2:((s.getD 0 Qq2).toNat:Int)<97
   ·rw[if_pos h2,show decide (1<=s.length/\s.length<=32/\97<=(s.getD 0 Qq2).toNat/\(s.getD 0 Qq2).toNat<=122)=false by rw[decide_eq_false_iff_not];omega]
    rfl
   ·rw[if_neg h2,Ac U]
    by_cases h3:122<((s.getD 0 Qq2).toNat:Int)
    ·rw[if_pos h3,show decide (1<=s.length/\s.length<=32/\97<=(s.getD 0 Qq2).toNat/\(s.getD 0 Qq2).toNat<=122)=false by rw[decide_eq_false_iff_not];omega]
     rfl
    ·rw[if_neg h3,AdX,show decide (1<=s.length/\s.length<=32/\97<=(s.getD 0 Qq2).toNat/\(s.getD 0 Qq2).toNat<=122)=true by rw[decide_eq_true_eq];omega];simp
theorem AdY{w:Bool}{l:Qq8}(hl:Vm l<=1000000000000):∀(d i a:Nat),i+d=l.length->a+Vm (l.drop i)<=2000000000000->
  Go.L.run (Gs w l) ((a:Int),(i:Int))=some (wr w (a:Int) (l.drop i)):=by
 intro d
 induction d with
 | zero=>
  intro i a hi ha;rw[Qxz U];refine AV ?_;unfold Gs;dsimp only;rw[if_neg U]
  rfl
 | succ d ih=>
  intro i a hi ha;have hil:i<l.length:=by omega
  have hlt:l.length<=1000000000000:=by
   have:∀m:Qq8,m.length<=Vm m:=fun m=>by
    induction m with
    | nil=>exact Qz5 _
    | cons x m ih=>simp only[Qzc,Vm];omega
   exact Qxy (this l) hl
  have hx:=Zu (C3 hil);rw[drop_cons hil]at ha ⊢;unfold wr;unfold Vm at ha;generalize hX:l.getD i Qq2=x at *;have c:Bq ((a:Int)+(x.length:Int)):=by unfold Bq;omega
  have e:Bq ((a:Int)+(x.length:Int)+1):=by unfold Bq;omega
  have f:Bq ((i:Int)+1):=by unfold Bq;omega
  have b:0<=(i:Int)/\(i:Int)<(l.length:Int):=by omega
  have hgo:Go.L.run (Gs w l) ((a:Int)+(x.length:Int)+1,(i:Int)+1)=some (wr w ((a:Int)+(x.length:Int)+1) (l.drop (i+1))):=by
   have:=ih (i+1) (a+x.length+1) U U
   simpa using this
  have hb:Gs w l ((a:Int),(i:Int))=if(Tx x||decide (x=[35])||(w&&(decide (x=[42])||decide (x=[42,42]))))=true then some (.inl ((a:Int)+(x.length:Int)+1,(i:Int)+1))else some (.inr (a:Int)):=by
   unfold Gs;simp only[Qzk,hX];rw[if_pos U,Ac b,AdW U];simp only[Qzq,Ac b,Ac c,Ac e,Ac f]
   cases hn:Tx x <;> by_cases g:x=[35] <;> cases w <;> by_cases h2:x=[42] <;> by_cases h3:x=[42,42] <;> simp_all
  by_cases hc:(Tx x||decide (x=[35])||(w&&(decide (x=[42])||decide (x=[42,42]))))=true
  ·rw[if_pos hc]at hb ⊢;rw[Bh hb,hgo]
  ·rw[if_neg hc]at hb ⊢;exact AV (m:=some (a:Int)) hb
theorem AfK{s:Qq4}(hs:s.length<=100000000000)(w:Bool):Oa s w=some (wr w 0 (sl s)):=by
 unfold Oa;rw[UI U,Qzq];have a:=AfG s;have:=AdY (w:=w) (l:=sl s) U (sl s).length 0 0 U (by simp;omega);rw[Qx8]at this;exact this
def pf(s:Qq4):Int×Int:=if 64<s.length then(3,-1)else if 0<=wr true 0 (sl s)then(1,wr true 0 (sl s))else(0,0)
theorem AdZ(s:Qq4):IY s=some (pf s):=by
 unfold IY pf
 by_cases h:64<s.length
 ·rw[if_pos U,if_pos h];rfl
 ·rw[if_neg U,if_neg h,AfK U];simp only[Qzq]
  split <;> rfl
theorem Aea{l:Qq8}(hl:Vm l<=1000000000000):∀(d i a:Nat),i+d=l.length->a+Vm (l.drop i)<=2000000000000->
  Go.L.run (EL l) ((a:Int),(i:Int))=some (if 0<=wr true (a:Int) (l.drop i)then(1,wr true (a:Int) (l.drop i))else(0,0)):=by
 intro d
 induction d with
 | zero=>
  intro i a hi ha;rw[Qxz U];refine AV ?_;unfold EL;dsimp only;rw[if_neg U]
  rfl
 | succ d ih=>
  intro i a hi ha;have hil:i<l.length:=by omega
  have hlt:l.length<=1000000000000:=by
   have:∀m:Qq8,m.length<=Vm m:=fun m=>by
    induction m with
    | nil=>exact Qz5 _
    | cons x m ih=>simp only[Qzc,Vm];omega
   exact Qxy (this l) hl
  have hx:=Zu (C3 hil);rw[drop_cons hil]at ha ⊢;unfold wr;unfold Vm at ha;generalize hX:l.getD i Qq2=x at *;have b:Bq ((x.length:Int)+1):=by unfold Bq;omega
  have c:Bq ((a:Int)+((x.length:Int)+1)):=by unfold Bq;omega
  have e:Bq ((i:Int)+1):=by unfold Bq;omega
  have f:0<=(i:Int)/\(i:Int)<(l.length:Int):=by omega
  have hgo:Go.L.run (EL l) ((a:Int)+((x.length:Int)+1),(i:Int)+1)=some (if 0<=wr true ((a:Int)+(x.length:Int)+1) (l.drop (i+1))then(1,wr true ((a:Int)+(x.length:Int)+1) (l.drop (i+1)))else(0,0)):=by
   have:=ih (i+1) (a+x.length+1) U U;rw[show((a:Int)+((x.length:Int)+1))=((a+x.length+1:Nat):Int) by omega,show((a:Int)+(x.length:Int)+1)=((a+x.length+1:Nat):Int) by omega];exact this
  have hb:EL l ((a:Int),(i:Int))=if(Tx x||decide (x=[35])||(true&&(decide (x=[42])||decide (x=[42,42]))))=true then some (.inl ((a:Int)+((x.length:Int)+1),(i:Int)+1))else some (.inr (1,(a:Int))):=by
   unfold EL;simp only[Qzk,hX];rw[if_pos U,Ac f,Uc];simp only[Qzq,Ac b,Ac c,Ac e]
   cases hn:Tx x <;> by_cases g:x=[35] <;> by_cases h2:x=[42] <;> by_cases h3:x=[42,42] <;> simp_all [DK]
  by_cases hc:(Tx x||decide (x=[35])||(true&&(decide (x=[42])||decide (x=[42,42]))))=true
  ·rw[if_pos hc]at hb ⊢;rw[Bh hb,hgo]
  ·rw[if_neg hc]at hb ⊢;rw[if_pos U];exact AV (m:=some (1,(a:Int))) hb
theorem Sl(s:Qq4):HR s=some (pf s):=by
 unfold HR pf
 by_cases h:64<s.length
 ·rw[if_pos U,if_pos h];rfl
 ·rw[if_neg U,if_neg h,Xd U,Qzq];have a:=AfG s;have:=Aea (l:=sl s) U (sl s).length 0 0 U (by simp;omega);rw[Qx8]at this;exact this
end Go.Proofs.YtopocbcekabkoaaGreatDoor
end
noncomputable section
namespace Go.L
def zz(a:Int):Nat:=if 0<=a then(2 * a).toNat else(-2 * a - 1).toNat
theorem AkH{a:Int}(h:Bq a):zz a<18446744073709551616:=by unfold zz;unfold Bq at h;split <;> omega
def Xe:Nat->Nat->Qq4
 | 0,_=>[]
 | n+1,u=>if 128<=u then Qz8 (u % 128+128)::Xe n (u / 128)else[Qz8 u]
def OC(u:Nat):Qq4:=Xe 10 u
theorem Yu:∀n u,(Xe n u).length<=n
 | 0,_=>by simp[Xe]
 | n+1,u=>by
  unfold Xe
  split
  ·have:=Yu n (u / 128);simp only[Qzc];omega
  ·simp
theorem Eg(u:Nat):(OC u).length<=10:=Yu 10 u
set_option maxRecDepth 20000 in
theorem AkI(u:Nat):u8 (u:Int) ||| 128=Qz8 (u % 128+128):=by
 have h:∀b:Fin 256,(Qz8 b.val ||| 128)=Qz8 (b.val % 128+128):=by decide
 have:=h ⟨u % 256,Nat.mod_lt _ Qqc⟩;dsimp only at this;unfold u8;rw[show((u:Int) % 256).toNat=u % 256 by omega,this]
 congr 2
 omega
theorem AfL{u:Nat}:u8 (u:Int)=Qz8 u:=by
 unfold u8;rw[show((u:Int) % 256).toNat=u % 256 by omega];apply UInt8.toNat.inj;simp
end Go.L
namespace Go.Proofs.YtopocbcekabkoaaGreatDoor
open Go Go.L
theorem AaA:∀(n u:Nat) (L:Qq4),u<128 ^ n->L.length+n<=1000->n<=10->1<=n->Go.L.run GO (L,(u:Int))=some (L++Xe n u)
 | 0,_,_,_,_,_,h=>absurd h U
 | n+1,u,L,hu,hL,hn,_=>by
  unfold Xe
  by_cases h:128<=u
  ·have b:1<=n:=by
    rcases Nat.eq_zero_or_pos n with a | a
    ·subst a;simp at hu;omega
    ·exact a
   have e:GO (L,(u:Int))=some (.inl (L++[Qz8 (u % 128+128)],((u / 128:Nat):Int))):=by
    unfold GO;dsimp only;rw[if_pos U,Ac (by unfold Go.E.Fz;simp;omega),AkI]
    rfl
   rw[Bh e,AaA n (u / 128) _ (Nat.div_lt_of_lt_mul (by rw[Nat.pow_succ,Nat.mul_comm]at hu;exact hu)) (by simp;omega) U b,if_pos h];simp
  ·rw[if_neg h];refine AV (m:=some (L++[Qz8 u])) ?_;unfold GO Oc;dsimp only;rw[if_neg U,Ac (by unfold Go.E.Fz;simp;omega),AfL]
theorem AjQ{x:Int}:IntKind.u64.wrap x=x % 18446744073709551616:=by
 simp only[IntKind.wrap];simp[IntKind.bits,IntKind.signed]
theorem AhV{k:Nat}(h:k<2 ^ 64):k ^^^ 18446744073709551615=18446744073709551615 - k:=by
 have h2:(BitVec.ofNat 64 k ^^^ BitVec.allOnes 64).toNat=(~~~ (BitVec.ofNat 64 k)).toNat:=by rw[BitVec.xor_allOnes]
 rw[BitVec.toNat_xor,BitVec.toNat_not,BitVec.toNat_ofNat,BitVec.toNat_allOnes,Nat.mod_eq_of_lt h]at h2;exact h2
theorem Gm{a:Int}(h:Bq a):Df a=some (OC (zz a)):=by
 have hz:=AkH h;unfold Bq at h;unfold Df;simp only[AjQ];rw[Ac U];unfold R3 OC
 have key:((((a % 18446744073709551616 * 2 % 18446744073709551616).toNat ^^^ (a / 9223372036854775808 % 18446744073709551616).toNat:Nat)):Int)=((zz a:Nat):Int):=by
  unfold zz
  by_cases b:0<=a
  ·rw[if_pos b,show a / 9223372036854775808 % 18446744073709551616=0 by omega];simp only[Int.toNat_zero,Nat.xor_zero];omega
  ·rw[if_neg b,show(a / 9223372036854775808 % 18446744073709551616).toNat=18446744073709551615 by omega,AhV U];omega
 rw[key,AaA 10 (zz a) [] (Nat.lt_trans hz Qqc) Qqc Qqc Qqc]
 rfl
end Go.Proofs.YtopocbcekabkoaaGreatDoor
end
noncomputable section
namespace Go.L
structure Tn (v:Pv):Prop where
 kind:v.f.1=1\/v.f.1=2\/v.f.1=3\/v.f.1=4
 num:v.f.1=1\/v.f.2.1=0
 bytes:v.f.1=2\/v.f.2.2.1=[]
 names:v.f.1=4\/v.f.2.2.2.1=[]
 parts:v.f.1=3\/v.f.1=4\/v.f.2.2.2.2=[]
 same:v.f.1=4->v.f.2.2.2.1.length=v.f.2.2.2.2.length
 many:v.f.2.2.2.2.length<=600
 Tx:∀x∈v.f.2.2.2.1,Tx x=true
 nd:v.f.2.2.2.1.Nodup
def Vd:Nat->Pv->Prop
 | 0,_=>False
 | d+1,v=>Tn v/\∀p∈v.f.2.2.2.2,Vd d p
def Sm(B:Nat):Nat->Pv->Prop
 | 0,_=>True
 | d+1,v=>v.f.2.2.1.length<=B/\v.f.2.2.2.1.length<=B/\v.f.2.2.2.2.length<=B/\(∀x∈v.f.2.2.2.1,x.length<=B)/\Bq v.f.1/\Bq v.f.2.1/\∀p∈v.f.2.2.2.2,Sm B d p
def nodes:Nat->Pv->Nat
 | 0,_=>0
 | d+1,v=>1+(v.f.2.2.2.2.map (nodes d)).sum
end Go.L
namespace Go.Proofs.YtopocbcekabkoaaGreatDoor
open Go Go.L
theorem AfM{l:Qq5}(hl:l.length<=1000)(a:Int):BH l a=some (decide (a∈l)):=by
 have key:∀(d i:Nat),i+d=l.length->∃r,Go.L.run (Bs l a) (i:Int)=some r/\(0<=r↔a∈l.drop i):=by
  intro d
  induction d with
  | zero=>
   intro i hi;refine⟨-1,AV (m:=some (-1)) ?_,by rw[Qxz U];simp⟩;unfold Bs DY;rw[if_neg U]
  | succ d ih=>
   intro i hi;have hil:i<l.length:=by omega
   rw[drop_cons hil]
   have hb:Bs l a (i:Int)=if a=l.getD i Qq2 then some (.inr (i:Int))else some (.inl ((i+1:Nat):Int)):=by
    unfold Bs;rw[if_pos U,Ac U,Qzk,Ac (by unfold Bq;omega)]
    rfl
   by_cases h:a=l.getD i Qq2
   ·rw[if_pos h]at hb;exact⟨_,AV (m:=some (i:Int)) hb,by rw[h];simp⟩
   ·rw[if_neg h]at hb;obtain⟨r,b,h2⟩:=ih (i+1) U;refine⟨r,by rw[Bh hb,b],h2.trans ?_⟩;rw[Qze];exact⟨.inr,fun hh=>hh.resolve_left h⟩
 unfold BH Fp F2;obtain⟨r,b,h2⟩:=key l.length 0 U;rw[show((0:Int))=((0:Nat):Int)from Z,b,Qzq];rw[Qx8]at h2
 congr 1
 rw[Qz7,decide_eq_true_eq,decide_eq_true_eq];exact h2
theorem AaB{l:Qq8}(hl:l.length<=1000000000000)(a:Qq4):C6 l a=some (decide (a∈l)):=by
 have key:∀(d i:Nat),i+d=l.length->∃r,Go.L.run (Cc l a) (i:Int)=some r/\(0<=r↔a∈l.drop i):=by
  intro d
  induction d with
  | zero=>
   intro i hi;refine⟨-1,AV (m:=some (-1)) ?_,by rw[Qxz U];simp⟩;unfold Cc Fq;rw[if_neg U]
  | succ d ih=>
   intro i hi;have hil:i<l.length:=by omega
   rw[drop_cons hil]
   have hb:Cc l a (i:Int)=if a=l.getD i Qq2 then some (.inr (i:Int))else some (.inl ((i+1:Nat):Int)):=by
    unfold Cc;rw[if_pos U,Ac U,Qzk,Ac (by unfold Bq;omega)]
    rfl
   by_cases h:a=l.getD i Qq2
   ·rw[if_pos h]at hb;exact⟨_,AV (m:=some (i:Int)) hb,by rw[h];simp⟩
   ·rw[if_neg h]at hb;obtain⟨r,b,h2⟩:=ih (i+1) U;refine⟨r,by rw[Bh hb,b],h2.trans ?_⟩;rw[Qze];exact⟨.inr,fun hh=>hh.resolve_left h⟩
 unfold C6 Gu HJ;obtain⟨r,b,h2⟩:=key l.length 0 U;rw[show((0:Int))=((0:Nat):Int)from Z,b,Qzq];rw[Qx8]at h2
 congr 1
 rw[Qz7,decide_eq_true_eq,decide_eq_true_eq];exact h2
theorem AbS{l:Qq8}(hl:l.length<=1000000000000):Gk l=some (l.any fun x=>!Tx x):=by
 have key:∀(d i:Nat),i+d=l.length->∃r,Go.L.run (DW l) (i:Int)=some r/\(0<=r↔(l.drop i).any (fun x=>!Tx x)=true):=by
  intro d
  induction d with
  | zero=>
   intro i hi;refine⟨-1,AV (m:=some (-1)) ?_,by rw[Qxz U];simp⟩;unfold DW Ka;rw[if_neg U]
  | succ d ih=>
   intro i hi;have hil:i<l.length:=by omega
   rw[drop_cons hil]
   have hb:DW l (i:Int)=if(!Tx (l.getD i Qq2))=true then some (.inr (i:Int))else some (.inl ((i+1:Nat):Int)):=by
    unfold DW Lp;rw[if_pos U,Ac U,Qzk,Uc,Ac (by unfold Bq;omega)]
    rfl
   by_cases h:(!Tx (l.getD i Qq2))=true
   ·rw[if_pos h]at hb;exact⟨_,AV (m:=some (i:Int)) hb,by rw[List.any_cons,h];simp⟩
   ·rw[if_neg h]at hb;obtain⟨r,a,h2⟩:=ih (i+1) U;refine⟨r,by rw[Bh hb,a],h2.trans ?_⟩;have hf:(!Tx (l.getD i Qq2))=false:=by simpa using h
    rw[List.any_cons,hf,Bool.false_or]
 unfold Gk Mg Nx;obtain⟨r,a,h2⟩:=key l.length 0 U;rw[show((0:Int))=((0:Nat):Int)from Z,a,Qzq];rw[Qx8]at h2
 congr 1
 rw[Qz7,decide_eq_true_eq];exact h2
theorem Adg{l:Qq8}(hl:l.length<=1000000000000):∀(d i:Nat),i+d=l.length->(l.take i).Nodup->∃c,Go.L.run (D1 l) (i:Int)=some c/\(c=0->l.Nodup)
 | 0,i,hi,hn=>by
  refine⟨0,AV (m:=some 0) ?_,fun _=>?_⟩
  ·unfold D1 HU;rw[if_neg U]
  ·rwa [List.take_of_length_le U]at hn
 | d+1,i,hi,hn=>by
  have hil:i<l.length:=by omega
  have hb:D1 l (i:Int)=if l.getD i Qq2∈l.take i then some (.inr 8)else some (.inl ((i+1:Nat):Int)):=by
   unfold D1;rw[if_pos U,Ac U,Ac U,Qzk,AaB (by rw[QzC];omega),Qzq,Ac (by unfold Bq;omega)]
   by_cases h:l.getD i Qq2∈l.take i <;> simp[h]
  by_cases h:l.getD i Qq2∈l.take i
  ·rw[if_pos h]at hb;exact⟨8,AV (m:=some 8) hb,fun hc=>by cases hc⟩
  ·rw[if_neg h]at hb
   obtain⟨c,f,h2⟩:=Adg hl d (i+1) U (by
    rw[Qx7,Qzy hil];have e:l[i]=l.getD i Qq2:=by rw[Qzj,Qzy hil];rfl
    rw[e];exact List.nodup_append.2 ⟨hn,List.pairwise_singleton _ _,fun a ha b hb e=>by rw[Option.toList_some,List.mem_singleton]at hb;subst hb;subst e;exact h ha⟩)
   exact⟨c,by rw[Bh hb,f],h2⟩
theorem AkJ(a b:Int)(c:Qq4){ns:Qq8}(hn:ns.length<=1000000000000)(ps:List Pv)(fl:Bool):∃r,BN a b c ns ps fl=some r/\(r=0->fl=false/\ps.length<=600/\(∀x∈ns,Tx x=true)/\ns.Nodup):=by
 unfold BN
 cases fl with
 | true=>exact⟨6,Z,fun h=>by cases h⟩
 | false=>
  rw[if_neg Qqc]
  by_cases d:(600:Int)<(ps.length:Int)
  ·rw[if_pos d];exact⟨14,Z,fun h=>by cases h⟩
  ·rw[if_neg d,AbS hn,Qzq]
   by_cases h2:(ns.any fun x=>!Tx x)=true
   ·rw[if_pos h2];exact⟨7,Z,fun h=>by cases h⟩
   ·rw[if_neg h2];obtain⟨r,h3,e⟩:=Adg hn ns.length 0 U Qqd;refine⟨r,h3,fun h=>⟨Z,by omega,fun x hx=>?_,e h⟩⟩
    cases hk:Tx x with
    | true=>rfl
    | false=>exact absurd (Qk5.2 ⟨x,hx,by simp[hk]⟩) h2
theorem vc1(l:Qq5)(v:Pv)(hl:l.length<=1000:=by decide):Cq l v=some (decide (v.f.1∈l),v):=by
 unfold Cq;rw[AfM hl]
 rfl
set_option maxHeartbeats 4000000 in
theorem Zv(v:Pv)(hn:v.f.2.2.2.1.length<=1000000000000):∃c,FI v=some c/\(c=0->Tn v):=by
 have fin:∀fl:Bool,(fl=false->(v.f.1=1\/v.f.1=2\/v.f.1=3\/v.f.1=4)/\(v.f.1=1\/v.f.2.1=0)/\(v.f.1=2\/v.f.2.2.1=[])/\(v.f.1=4\/v.f.2.2.2.1=[])/\(v.f.1=3\/v.f.1=4\/v.f.2.2.2.2=[])/\(v.f.1=4->v.f.2.2.2.1.length=v.f.2.2.2.2.length))->
   ∃c,BN v.f.1 v.f.2.1 v.f.2.2.1 v.f.2.2.2.1 v.f.2.2.2.2 fl=some c/\(c=0->Tn v):=by
  intro fl hfl;obtain⟨r,d,h2⟩:=AkJ v.f.1 v.f.2.1 v.f.2.2.1 hn v.f.2.2.2.2 fl;refine⟨r,d,fun hr=>?_⟩;obtain⟨e,g,i,j⟩:=h2 hr;obtain⟨m,o,p,q,s,t⟩:=hfl e;exact⟨m,o,p,q,s,t,g,i,j⟩
 have a:=vc1 [1,2,3,4] v;have u:=vc1 [1] v;have w:=vc1 [2] v;have x:=vc1 [3,4] v;have y:=vc1 [4] v
 by_cases hk:v.f.1=1\/v.f.1=2\/v.f.1=3\/v.f.1=4
 ·have ev:Pv.mk v.f.1 v.f.2.1 v.f.2.2.1 v.f.2.2.2.1 v.f.2.2.2.2=v:=by cases v;rfl
  unfold FI Gy Gx Gw;simp only[a,u,w,x,y,ev,Qzq];generalize v.f.1=k at *;generalize v.f.2.1=n at *;generalize v.f.2.2.1=b at *;generalize v.f.2.2.2.1=ns at *;generalize v.f.2.2.2.2=ps at *
  have hb:b=[]\/(0:Int)<(b.length:Int):=by cases b with
   | nil=>exact .inl Z
   | cons _ _=>exact .inr (by simp only[Qzc];omega)
  have hm:ns=[]\/(0:Int)<(ns.length:Int):=by cases ns with
   | nil=>exact .inl Z
   | cons _ _=>exact .inr (by simp only[Qzc];omega)
  have hp:ps=[]\/(0:Int)<(ps.length:Int):=by cases ps with
   | nil=>exact .inl Z
   | cons _ _=>exact .inr (by simp only[Qzc];omega)
  rcases hk with rfl | rfl | rfl | rfl <;> by_cases hz:n=0 <;> rcases hb with rfl | hb <;> rcases hm with rfl | hm <;> rcases hp with rfl | hp <;>
   simp +decide only[*,if_true,if_false,QzB,Bool.not_true,Bool.not_false,Bool.false_eq_true,decide_true,decide_false,Int.lt_irrefl,Int.natCast_zero] <;>
   (refine fin _ fun hfl=>?_) <;> simp_all <;> omega
 ·refine⟨5,?_,fun h=>by cases h⟩;unfold FI;rw[a,Qzq];rw[if_pos (by simp[hk])]
end Go.Proofs.YtopocbcekabkoaaGreatDoor
end
noncomputable section
namespace Go.L
open Go
theorem RU{ρ:Type}{b:Int->Option (Int⊕ρ)}{P:ρ->Prop}(Q:Nat->Prop)(n:Nat)(hstep:∀i,i<n->(b (i:Int)=some (.inl ((i+1:Nat):Int))/\Q i)\/∃r,b (i:Int)=some (.inr r)/\P r)
  (hend:(∀i,i<n->Q i)->∃r,b (n:Int)=some (.inr r)/\P r):∃r,run b 0=some r/\P r:=by
 have key:∀(d i:Nat),i+d=n->(∀j,j<i->Q j)->∃r,run b (i:Int)=some r/\P r:=by
  intro d
  induction d with
  | zero=>
   intro i hi hq;obtain rfl:i=n:=by omega
   obtain⟨r,a,h2⟩:=hend hq;exact⟨r,AV (m:=some r) a,h2⟩
  | succ d ih=>
   intro i hi hq
   rcases hstep i U with ⟨a,h2⟩ | ⟨r,a,h2⟩
   ·rw[Bh a]
    exact ih (i+1) U fun j hj=>by
     by_cases e:j=i
     ·subst e;exact h2
     ·exact hq j U
   ·exact⟨r,AV (m:=some r) a,h2⟩
 exact key n 0 U fun j hj=>absurd hj (Nat.not_lt_zero j)
theorem GJ{i:Nat}(h:i<=1000000000:=by omega):Bq ((i:Int)+1):=by unfold Bq;omega
end Go.L
namespace Go.Proofs.YtopocbcekabkoaaGreatDoor
open Go Go.L
abbrev EN:Type:=Qq4×Int×Int×Int×Int×(Nat->UInt8)×(List (Qq4×Int))×Qq8×Int×Int×Int×(Int×(Nat->UInt8)×(List (Nat->UInt8)))
theorem AhW{l:List (Qq4×Int)}(hl:l.length<=1000000)(x:Qq4×Int):∃b,Cw l x=some b:=by
 unfold Cw FJ Hp
 obtain⟨r,h,_⟩:=RU (fun _=>True) l.length (b:=Cr l x) (P:=fun _=>True) (fun i hi=>by
  unfold Cr;rw[if_pos U,Ac U,Ac  GJ]
  split
  ·exact .inr ⟨_,Z,trivial⟩
  ·exact .inl ⟨Z,trivial⟩) (fun _=>by
  unfold Cr ED;rw[if_neg U];exact⟨_,Z,trivial⟩)
 rw[h];exact⟨_,Z⟩
theorem AbT{l:List (Qq4×Int)}(hl:l.length<=1000000):∃c,FZ l=some c:=by
 unfold FZ JY
 obtain⟨r,h,_⟩:=RU (fun _=>True) l.length (b:=Dg l) (P:=fun _=>True) (fun i hi=>by
  obtain⟨b,hb⟩:=AhW (l:=l.take i) (by rw[QzC];omega) (l.getD i Qq2);have hb':Cw (l.take i) ((l.getD i Qq2).1,(l.getD i Qq2).2)=some b:=hb;unfold Dg Dp;rw[if_pos U,Ac U,Qzk,Uc,Qzq,Qzq,Ac U]
  first | rw[hb',Qzq] | rw[hb,Qzq]
  rw[Ac  GJ]
  repeat' split
  all_goals first | exact .inr ⟨_,Z,trivial⟩ | exact .inl ⟨Z,trivial⟩) (fun _=>by
  unfold Dg GM;rw[if_neg U];exact⟨_,Z,trivial⟩)
 exact⟨r,h⟩
theorem Yv{l:Qq8}(hl:l.length<=1000000):∃c,EF l=some c:=by
 unfold EF Ks
 obtain⟨r,h,_⟩:=RU (fun _=>True) l.length (b:=Dy l) (P:=fun _=>True) (fun i hi=>by
  unfold Dy;rw[if_pos U,Ac U,Qzk,Uc,Qzq,Ac  GJ]
  by_cases a:(0:Int)<(i:Int)
  ·rw[if_pos a,Ac (by unfold Bq;omega),Ac U]
   repeat' split
   all_goals first | exact .inr ⟨_,Z,trivial⟩ | exact .inl ⟨Z,trivial⟩
  ·rw[if_neg a]
   repeat' split
   all_goals first | exact .inr ⟨_,Z,trivial⟩ | exact .inl ⟨Z,trivial⟩) (fun _=>by
  unfold Dy Hj;rw[if_neg U];exact⟨_,Z,trivial⟩)
 exact⟨r,h⟩
theorem AbU{l:List EN}(hl:l.length<=1000000)(e:EN):∃b,BP l e=some b:=by
 unfold BP D2 EY
 obtain⟨r,h,_⟩:=RU (fun _=>True) l.length (b:=BL l e) (P:=fun _=>True) (fun i hi=>by
  unfold BL HY;rw[if_pos U,Ac U,Ac  GJ]
  split
  ·rw[Qzq]
   split
   ·exact .inr ⟨_,Z,trivial⟩
   ·exact .inl ⟨Z,trivial⟩
  ·exact .inl ⟨Z,trivial⟩) (fun _=>by
  unfold BL CU;rw[if_neg U];exact⟨_,Z,trivial⟩)
 rw[h];exact⟨_,Z⟩
theorem AfN(m:Int×(Nat->UInt8)×(List (Nat->UInt8))):∃f,MI m=some f:=by
 unfold MI MH
 repeat' split
 all_goals exact⟨_,Z⟩
theorem AfO{l:List EN}(hl:l.length<=1000000)(e:EN)(b:Bool):∃c,CX e l b=some c:=by
 obtain⟨f,hf⟩:=AfN e.2.2.2.2.2.2.2.2.2.2.2;obtain⟨x,hx⟩:=AbU hl e;unfold CX Dp;rw[hf,hx];simp only[Qzq]
 repeat' split
 all_goals exact⟨_,Z⟩
theorem AfP{l:List EN}(hl:l.length<=1000000)(e:EN):∃c,GV e l=some c/\(c=0->e.2.2.2.2.2.2.1.length<=4/\e.2.2.2.2.2.2.2.1.length<=4):=by
 unfold GV Dp;rw[Uc];simp only[Qzq]
 by_cases d:(4:Int)<(e.2.2.2.2.2.2.1.length:Int)
 ·rw[if_pos d]
  repeat' split
  all_goals exact⟨_,Z,fun h=>absurd h Qqc⟩
 by_cases h2:(4:Int)<(e.2.2.2.2.2.2.2.1.length:Int)
 ·rw[if_neg d,if_pos h2]
  repeat' split
  all_goals exact⟨_,Z,fun h=>absurd h Qqc⟩
 rw[if_neg d,if_neg h2]
 have hk:∃c,F5 e l=some c:=by
  obtain⟨a,ha⟩:=AbT (l:=e.2.2.2.2.2.2.1) U;obtain⟨b,hb⟩:=Yv (l:=e.2.2.2.2.2.2.2.1) U;unfold F5;rw[ha,hb];simp only[Qzq]
  repeat' split
  all_goals first | exact AfO hl e _ | exact⟨_,Z⟩
 obtain⟨c,hc⟩:=hk;rw[hc]
 repeat' split
 all_goals first | exact⟨_,Z,fun h=>absurd h Qqc⟩ | exact⟨c,Z,fun _=>⟨by omega,by omega⟩⟩
theorem AjS{l:List EN}(hl:l.length<=1000000):∃m,Hr l=some m:=by
 unfold Hr Lt;refine⟨(Qzb l.length).foldl (fun m j=>Dm ((l.getD j Qq2).1,(l.getD j Qq2).2.1) (j:Int) m) [],BR (fun i=>(((Qzb i).foldl (fun m j=>Dm ((l.getD j Qq2).1,(l.getD j Qq2).2.1) (j:Int) m) []),(i:Int))) l.length (fun i hi=>?_) ?_ 0⟩
 ·unfold F4 Kb;simp only;rw[if_pos U,Ac U,Qzq,Ac  GJ,Qzk,QxC,List.foldl_append]
  rfl
 ·unfold F4 HX;simp only;rw[if_neg U]
theorem AjT(l:List EN):∃f,HZ l=some f/\(f=(0,0)/\l.length<=60/\(∀i,i<l.length->(l.getD i Qq2).2.2.2.2.2.2.2.1.length<=4)\/f.1≠0):=by
 unfold HZ LQ CH
 by_cases hl:(60:Int)<(l.length:Int)
 ·rw[if_pos hl];exact⟨(2,-1),Z,.inr Qqc⟩
 rw[if_neg hl];refine RU (fun i=>(l.getD i Qq2).2.2.2.2.2.2.1.length<=4/\(l.getD i Qq2).2.2.2.2.2.2.2.1.length<=4) l.length (fun i hi=>?_) (fun hq=>?_)
 ·obtain⟨c,hc,b⟩:=AfP (l:=l.take i) (by rw[QzC];omega) (l.getD i Qq2);unfold Gb CH;rw[if_pos U,Ac U,Ac U,Qzk,hc,Qzq,Ac  GJ]
  by_cases a:c=0
  ·rw[if_pos a];exact .inl ⟨Z,b a⟩
  ·rw[if_neg a];exact .inr ⟨(c,(i:Int)),Z,.inr a⟩
 ·obtain⟨m,hm⟩:=AjS (l:=l) U;unfold Gb IM;rw[if_neg U,hm,Qzq]
  have:∃f,IL l m 0=some f/\(f=(0,0)\/f.1≠0):=by
   unfold IL;refine RU (fun _=>True) l.length (fun i hi=>?_) (fun _=>?_)
   ·have b:=(hq i hi).1;unfold Ga LP;rw[if_pos U,Ac U]
    have:∃x,run (Ez l (i:Int) m) 0=some x/\(x=.inl ((i+1:Nat):Int)\/∃f:Int×Int,x=.inr f/\f.1≠0):=by
     refine RU (fun _=>True) ((l.getD i Qq2).2.2.2.2.2.2.1.length) (fun j hj=>?_) (fun _=>?_)
     ·unfold Ez CH;simp only[Qzk];rw[if_pos U,Ac U,Ac  GJ]
      split
      ·exact .inr ⟨.inr (22,(i:Int)),Z,.inr ⟨_,Z,show(22:Int)≠0 by decide⟩⟩
      ·exact .inl ⟨Z,trivial⟩
     ·unfold Ez IK;simp only[Qzk];rw[if_neg U,Ac  GJ];exact⟨.inl ((i+1:Nat):Int),Z,.inl Z⟩
    obtain⟨x,hx,rfl | ⟨f,rfl,hf⟩⟩:=this
    ·exact .inl ⟨hx,trivial⟩
    ·exact .inr ⟨f,hx,.inr hf⟩
   ·unfold Ga IJ;rw[if_neg U];exact⟨(0,0),Z,.inl Z⟩
  obtain⟨f,hf,h⟩:=this;rw[hf];exact⟨f,Z,h.imp (fun e=>⟨e,by omega,fun i hi=>(hq i hi).2⟩) id⟩
theorem Aeb(g:Qq8):(∃f:Int×Int,f.1≠0/\∀d,EG (g,d)=some f)\/g.length<=4/\∀d,EG (g,d)=some (if 1<=d/\d<=3652059 then(0,0)else(4,-2)):=by
 unfold EG CH Dp
 by_cases a:(4:Int)<(g.length:Int)
 ·exact .inl ⟨(2,-2),by decide,fun d=>by rw[if_pos a];rfl⟩
 obtain⟨c,hc⟩:=Yv (l:=g) U
 by_cases b:c=0
 ·refine .inr ⟨by omega,fun d=>?_⟩;simp only[if_neg a,hc,Qzq,if_pos b]
  by_cases hd:1<=d/\d<=3652059
  ·rw[decide_eq_true hd,if_pos hd];rfl
  ·rw[decide_eq_false hd,if_neg hd];rfl
 ·exact .inl ⟨(c,-2),b,fun d=>by simp only[if_neg a,hc,Qzq,if_neg b]⟩
def Ud(g:Qq8)(d:Int)(e:EN):Bool:=decide (e.2.2.2.2.2.2.2.2.1<=d)&&(decide (e.2.2.2.2.2.2.2.1.length=0)||e.2.2.2.2.2.2.2.1.any fun x=>decide (x∈g))
theorem AbV{g:Qq8}{d d':Int}(h:d<=d'){e:EN}(hs:Ud g d e=true):Ud g d' e=true:=by
 unfold Ud at *;rw[QzQ,decide_eq_true_iff]at *;exact⟨by omega,hs.2⟩
theorem Aec{l g:Qq8}(hl:l.length<=4)(hg:g.length<=4)(d:Int):CL l (g,d)=some (l.any fun x=>decide (x∈g)):=by
 unfold CL EP GL
 obtain⟨r,h,hr⟩:=RU (fun i=>¬l.getD i Qq2∈g) l.length (b:=Cf l (g,d)) (P:=fun r=>decide ((0:Int)<=r)=l.any fun x=>decide (x∈g)) (fun i hi=>by
  unfold Cf KQ;rw[if_pos U,Ac U,AaB (by simp only;omega),Qzq,Qzq,Ac  GJ,Qzk];have hm:l.getD i Qq2∈l:=by rw[Qzj,Qzy hi];exact Qz3 _
  by_cases hx:l.getD i Qq2∈g
  ·rw[decide_eq_true hx,if_pos Z];refine .inr ⟨(i:Int),Z,?_⟩;rw[decide_eq_true U];exact(Qk5.2 ⟨_,hm,decide_eq_true hx⟩).symm
  ·rw[decide_eq_false hx,if_neg Bool.false_ne_true];exact .inl ⟨Z,hx⟩) (fun hq=>by
  unfold Cf Eo;rw[if_neg U];refine⟨-1,Z,?_⟩;rw[decide_eq_false U];refine(Bool.eq_false_iff.2 fun h=>?_).symm;obtain⟨x,hx,hxg⟩:=Qk5.1 h;obtain⟨i,hi,e⟩:=List.getElem_of_mem hx;refine hq i hi ?_;rw[Qzj,Qzy hi];rw[<- e]at hxg;exact of_decide_eq_true hxg)
 rw[h,Qzq,hr]
theorem AjU{e:EN}{g:Qq8}(he:e.2.2.2.2.2.2.2.1.length<=4)(hg:g.length<=4)(d:Int):JM e (g,d)=some (Ud g d e):=by
 unfold JM Ud;rw[Aec he hg]
 by_cases a:e.2.2.2.2.2.2.2.2.1<=d
 ·rw[if_pos a,decide_eq_true a,Qkw]
  by_cases h2:e.2.2.2.2.2.2.2.1.length=0
  ·rw[if_pos U,decide_eq_true h2];rfl
  ·rw[if_neg U,decide_eq_false h2];rfl
 ·rw[if_neg a,decide_eq_false a];rfl
def Ot(l:List EN)(g:Qq8)(d:Int):Qq5:=((Qzb l.length).filter fun i=>Ud g d (l.getD i Qq2)).map fun i:Nat=>(i:Int)
theorem AjV(l:List EN)(g:Qq8):(∃f:Int×Int,f.1≠0/\∀d,CR l (g,d)=some ([],f))\/l.length<=60/\∀d,CR l (g,d)=some (if 1<=d/\d<=3652059 then(Ot l g d,(0,0))else([],(4,-2))):=by
 obtain⟨f,hf,⟨rfl,b,c⟩ | a⟩:=AjT l
 ·rcases Aeb g with ⟨f,a,hf'⟩ | ⟨hg,hr⟩
  ·refine .inl ⟨f,a,fun d=>?_⟩;unfold CR;rw[hf,Qzq,if_pos ⟨Z,Z⟩,hf',Qzq,if_neg (fun h=>a h.1)]
  ·refine .inr ⟨b,fun d=>?_⟩;unfold CR;rw[hf,Qzq,if_pos ⟨Z,Z⟩,hr,Qzq]
   by_cases hd:1<=d/\d<=3652059
   ·rw[if_pos hd,if_pos ⟨Z,Z⟩,if_pos hd];unfold MJ;refine BR (fun i=>(((Qzb i).filter fun j=>Ud g d (l.getD j Qq2)).map (fun j:Nat=>(j:Int)),(i:Int))) l.length (fun i hi=>?_) ?_ 0
    ·have hlen:((Qzb i).filter fun j=>Ud g d (l.getD j Qq2)).length<=i:=by
      have:=List.length_filter_le (fun j=>Ud g d (l.getD j Qq2)) (Qzb i)
      rwa [List.length_range]at this
     unfold GA;simp only;rw[if_pos U,Ac U,Qzk,AjU (c i hi) hg,Qzq,QxC,List.filter_append,List.filter_cons,List.filter_nil,Qxc,Ac  GJ]
     by_cases hs:Ud g d (l.getD i Qq2)=true
     ·rw[if_pos hs,if_pos hs,Ac (by unfold Go.E.Fz;simp only[Qza,Qzc,QzB];omega),QzA,Qk1];exact congrArg some (congrArg Sum.inl (Qxw Z (show(i:Int)+1=((i+1:Nat):Int) by omega)))
     ·rw[if_neg hs,if_neg hs,Qk1,QzZ,Ac  GJ];exact congrArg some (congrArg Sum.inl (Qxw Z (show(i:Int)+1=((i+1:Nat):Int) by omega)))
    ·unfold GA Jx;simp only;rw[if_neg U]
     rfl
   ·rw[if_neg hd,if_neg (fun h=>absurd h.1 (show ¬(4:Int)=0 by decide)),if_neg hd]
 ·refine .inl ⟨f,a,fun d=>?_⟩;unfold CR;rw[hf,Qzq,if_neg (fun h=>a h.1)]
end Go.Proofs.YtopocbcekabkoaaGreatDoor
end
noncomputable section
namespace Go.L
open Go
theorem PM:∀l m:Qq4,Lib.compareBytes l m<0↔Op.bytesLess l m=true
 | [],[]=>by simp[Lib.compareBytes,Op.bytesLess]
 | [],_::_=>by simp[Lib.compareBytes,Op.bytesLess]
 | _::_,[]=>by simp[Lib.compareBytes,Op.bytesLess]
 | a::l,b::m=>by
  have ih:=PM l m;unfold Lib.compareBytes Op.bytesLess
  by_cases c:a<b
  ·rw[if_pos c];simp[c]
  ·rw[if_neg c]
   by_cases h2:b<a
   ·have hne:a≠b:=fun e=>by subst e;exact c h2
    rw[if_pos h2];simp[c,hne]
   ·have e:a=b:=TN c h2;rw[if_neg h2,ih];simp[c,e]
def lcp:Qq4->Qq4->Nat
 | a::l,b::m=>if a=b then lcp l m+1 else 0
 | _,_=>0
section
variable (a:Qq4)
theorem Aed:(AdU a).Perm (RM a.length):=List.mergeSort_perm _ _
theorem MV:(CV a).Perm (iota a.length):=by
 unfold CV;rw[<- Ys];exact(Aed a).map _
theorem M5:(CV a).length=a.length:=by rw[(MV a).length_eq,Hb]
theorem AfQ{n:Nat}{x:Int}:x∈iota n↔0<=x/\x<n:=by
 unfold iota;rw[List.mem_map]
 constructor
 ·rintro⟨i,hi,rfl⟩;have:=QzE.1 hi;omega
 ·intro h;exact⟨x.toNat,QzE.2 U,by omega⟩
theorem Xf{x:Int}:x∈CV a↔0<=x/\x<a.length:=by rw[(MV a).mem_iff,AfQ]
theorem AbW(n:Nat):(iota n).Nodup:=by
 unfold iota List.Nodup;rw[QkX];exact List.pairwise_lt_range.imp fun h=>by omega
theorem Zw:(CV a).Nodup:=(MV a).symm.nodup (AbW _)
theorem SN:(CV a).Pairwise fun x y=>Lib.compareBytes (a.drop x.toNat) (a.drop y.toNat)<0:=by
 have hO:=Adf (fun x:Fin (a.length+1)=>a.drop x.val)
 have h:=List.pairwise_mergeSort (le:=fun x y=>!(Go.Proofs.ltOf (Ol a)) y x) (fun x y z b h2=>by
   simp only[Bool.not_eq_true']at *;exact hO.ntrans z y x h2 b) (fun x y=>by
   have:=MM (a.drop y.val) (a.drop x.val)
   by_cases h:Lib.compareBytes (a.drop y.val) (a.drop x.val)<0
   ·have h' : ¬Lib.compareBytes (a.drop x.val) (a.drop y.val)<0:=by omega
    simp[Go.Proofs.ltOf,Ol,h']
   ·simp[Go.Proofs.ltOf,Ol,h]) (RM a.length)
 have hn:(AdU a).Nodup:=by
  have:=Zw a;unfold CV List.Nodup at this;rw[QkX]at this;exact this.imp fun h e=>h (by rw[e])
 unfold CV;rw[QkX];have h2:=List.Pairwise.and h hn;refine h2.imp fun {x y} ⟨h3,c⟩=>?_
 replace h3 : ¬Lib.compareBytes (a.drop y.val) (a.drop x.val)<0:=by
  intro hc;have:Go.Proofs.ltOf (Ol a) y x=true:=by simp[Go.Proofs.ltOf,Ol,hc]
  rw[this]at h3;cases h3
 simp only[Qzk];have s:=MM (a.drop x.val) (a.drop y.val)
 rcases Int.lt_trichotomy (Lib.compareBytes (a.drop x.val) (a.drop y.val)) 0 with h | h | h
 ·exact h
 ·exact absurd (TR a x y (decide_eq_false (show ¬Lib.compareBytes (a.drop x.val) (a.drop y.val)<0 by omega)) (decide_eq_false h3)) c
 ·omega
end
def pre(l p:Qq4):Bool:=decide (l.take p.length=p)
def fs(a p:Qq4):Nat->Nat×Nat
 | 0=>(0,0)
 | k+1=>if pre (a.drop k) p then((fs a p k).1,(fs a p k).2+1)else if Op.bytesLess (a.drop k) p then((fs a p k).1+1,(fs a p k).2)else fs a p k
theorem AhX(a p:Qq4)(k:Nat):fs a p (k+1)=if pre (a.drop k) p then((fs a p k).1,(fs a p k).2+1)else if Op.bytesLess (a.drop k) p then((fs a p k).1+1,(fs a p k).2)else fs a p k:=Z
end Go.L
end
noncomputable section
namespace Go.Proofs.YtopocbcekabkoaaGreatDoor
open Go Go.L
theorem Aee{a:Qq4}(h:a.length<=2048):NA a=some (CV a):=by
 unfold NA;rw[Ac U];unfold QK;have hst:∀k,k<=a.length->(((iota k)++Qzv (a.length - k) 0).length=a.length):=fun k hk=>by rw[Qzd,Hb,List.length_replicate];omega
 have c:=BR (b:=ES a) (m:=some (CV a)) (fun k=>((iota k)++Qzv (a.length - k) 0,((k:Nat):Int))) a.length (fun k hk=>?_) ?_ 0
 ·simpa[iota]using c
 ·show ES a (_,_)=_
  unfold ES;dsimp only;have:=hst k U;rw[if_pos (by rw[List.length_replicate];omega),Ac (by rw[this];omega),Ac (by unfold Bq;omega),Qzk]
  congr 3
  have d:a.length - k=(a.length - (k+1))+1:=by omega
  rw[d,List.replicate_succ,List.set_append_right _ _ (by rw[Hb];exact Qzu _),Hb,Nat.sub_self,List.set_cons_zero];unfold iota;rw[QxC,Qxc,QxB]
  rfl
 ·show ES a (_,_)=_
  unfold ES Nj;dsimp only;rw[if_neg (by rw[List.length_replicate];omega),Nat.sub_self,List.replicate_zero,QzZ,Ac ⟨Z,by omega⟩]
theorem Aef(a:Qq4):NB a=some (if a.length<=2048 then(CV a,(0,0))else([],(3,-1))):=by
 unfold NB
 by_cases h:a.length<=2048
 ·rw[if_neg U,if_pos h,Aee h];rfl
 ·rw[if_pos U,if_neg h];rfl
theorem AbX{a p:Qq4}{i:Nat}(ha:a.length<=2048)(hp:p.length<=2048)(hi:i<=a.length):OO a (i:Int) p=some (pre (a.drop i) p):=by
 unfold OO pre;rw[Ac (by unfold Bq;omega)]
 by_cases h:i+p.length<=a.length
 ·rw[if_pos U,Ac (by unfold Bq;omega),Ac U,Qzk,show((i:Int)+(p.length:Int)).toNat - i=p.length by omega]
  rfl
 ·rw[if_neg U]
  have : ¬(a.drop i).take p.length=p:=fun e=>by
   have:=congrArg List.length e;rw[QzC,List.length_drop]at this;omega
  simp[this]
end Go.Proofs.YtopocbcekabkoaaGreatDoor
end
noncomputable section
namespace Go.L
open Go
theorem Xg(c d:UInt8)(p l:Qq4):pre (d::l) (c::p)=(decide (d=c)&&pre l p):=by
 unfold pre;simp only[Qzc,List.take_succ_cons,List.cons.injEq];rw[Qz7];simp
theorem pre_nil(l:Qq4):pre l []=true:=by simp[pre]
theorem Ue(c:UInt8)(p:Qq4):pre [] (c::p)=false:=by simp[pre]
theorem Uf:∀(p x:Qq4),pre x p=true->Op.bytesLess x p=false
 | [],x,_=>by cases x <;> rfl
 | c::p,[],h=>by rw[Ue]at h;cases h
 | c::p,d::x,h=>by
  rw[Xg]at h;simp only[QzQ,decide_eq_true_eq]at h;obtain⟨rfl,h⟩:=h;have:=Uf p x h;have hd : ¬d<d:=fun h=>by have:=UInt8.lt_iff_toNat_lt.1 h;omega
  simp[Op.bytesLess,this,hd]
theorem Vn:∀(p x y:Qq4),Op.bytesLess x p=false->Op.bytesLess x y=true->pre y p=true->pre x p=true
 | [],x,_,_,_,_=>pre_nil x
 | c::p,[],_,h,_,_=>by simp[Op.bytesLess]at h
 | c::p,_::_,[],_,_,h=>by rw[Ue]at h;cases h
 | c::p,d::x,e::y,a,h2,h3=>by
  rw[Xg]at h3 ⊢;simp only[QzQ,decide_eq_true_eq]at h3;obtain⟨rfl,h3⟩:=h3;simp only[Op.bytesLess,Bool.or_eq_false_iff,Bool.and_eq_false_iff,Bool.or_eq_true,QzQ,decide_eq_true_eq,decide_eq_false_iff_not,beq_iff_eq]at a h2
  rcases h2 with h2 | ⟨rfl,h2⟩
  ·exact absurd h2 a.1
  ·have b:Op.bytesLess x p=false:=by
    rcases a.2 with h | h
    ·simp at h
    ·exact h
   simp[Vn p x y b h2 h3]
def cls(p l:Qq4):Nat:=if pre l p then 1 else if Op.bytesLess l p then 0 else 2
theorem AaC{p x y:Qq4}(h:Lib.compareBytes x y<0):cls p x<=cls p y:=by
 have hxy:=(PM x y).1 h;unfold cls
 by_cases hy:pre y p=true
 ·rw[if_pos hy]
  by_cases hx:pre x p=true
  ·rw[if_pos hx];exact Qzu _
  ·rw[if_neg hx]
   by_cases hl:Op.bytesLess x p=true
   ·rw[if_pos hl];omega
   ·exact absurd (Vn p x y (by simpa using hl) hxy hy) hx
 ·rw[if_neg hy]
  by_cases hl:Op.bytesLess y p=true
  ·have hxp:Op.bytesLess x p=true:=(PM _ _).1 (P9 _ _ _ h ((PM _ _).2 hl));have hx : ¬pre x p=true:=fun hx=>by rw[Uf p x hx]at hxp;cases hxp
   rw[if_neg hx,if_pos hxp];omega
  ·rw[if_neg hl]
   split
   ·omega
   ·split <;> omega
theorem Sn:∀(l:List Nat) (c i:Nat),l.Pairwise (·<=·)->i<l.length->(l.getD i 0<c↔i<l.countP (· < c))
 | [],_,_,_,h=>by cases h
 | x::l,c,i,hp,hi=>by
  have hq:=List.pairwise_cons.1 hp
  by_cases hx:x<c
  ·rw[List.countP_cons_of_pos (by simpa using hx)]
   cases i with
   | zero=>simp[hx]
   | succ i=>
    have:=Sn l c i hq.2 (by simpa using hi);simp only[List.getD_cons_succ];omega
  ·rw[List.countP_cons_of_neg (by simpa using hx)]
   have a:l.countP (· < c)=0:=by
    rw[List.countP_eq_zero];intro y hy;have:=hq.1 y hy;simp;omega
   rw[a]
   cases i with
   | zero=>simp[hx]
   | succ i=>
    simp only[Qzc]at hi
    have hm:l.getD i 0∈l:=by
     rw[Qzj,Qzy U];exact Qz3 _
    have:=hq.1 _ hm;simp only[List.getD_cons_succ];omega
theorem Aeg(n:Nat):iota (n+1)=iota n++[(n:Int)]:=by simp[iota,QxC]
theorem AaD(a p:Qq4):∀k,((iota k).map fun x=>cls p (a.drop x.toNat)).countP (· < 1)=(fs a p k).1/\((iota k).map fun x=>cls p (a.drop x.toNat)).countP (· < 2)=(fs a p k).1+(fs a p k).2
 | 0=>by simp[iota,fs]
 | k+1=>by
  obtain⟨b,h2⟩:=AaD a p k;rw[Aeg,Qxc,Qk2,Qk2,b,h2,AhX];simp only[QzA,Qk1,List.countP_singleton,Qzk];unfold cls
  by_cases hp:pre (a.drop k) p=true
  ·rw[if_pos hp,if_pos hp];simp;omega
  ·rw[if_neg hp,if_neg hp]
   by_cases hl:Op.bytesLess (a.drop k) p=true
   ·rw[if_pos hl,if_pos hl];simp;omega
   ·rw[if_neg hl,if_neg hl];simp
theorem found(a p:Qq4){i:Nat}(hi:i<a.length):pre (a.drop ((CV a).getD i Qq2).toNat) p=decide ((fs a p a.length).1<=i/\i<(fs a p a.length).1+(fs a p a.length).2):=by
 have hlen:i<((CV a).map fun x=>cls p (a.drop x.toNat)).length:=by rw[Qza,M5];exact hi
 have hasc:((CV a).map fun x=>cls p (a.drop x.toNat)).Pairwise (·<=·):=by
  rw[QkX];exact(SN a).imp fun h=>AaC h
 have hperm:=(MV a).map fun x=>cls p (a.drop x.toNat);obtain⟨c1,c2⟩:=AaD a p a.length;have a1:=Sn _ 1 i hasc hlen;have a2:=Sn _ 2 i hasc hlen;rw[hperm.countP_eq,c1]at a1;rw[hperm.countP_eq,c2]at a2
 have hg:((CV a).map fun x=>cls p (a.drop x.toNat)).getD i 0=cls p (a.drop ((CV a).getD i Qq2).toNat):=by
  rw[Qzj,Qzy hlen,Qzj,Qzy (by rw[M5];exact hi)];simp
 rw[hg]at a1 a2;rw[Qz7,decide_eq_true_eq]
 have hc:pre (a.drop ((CV a).getD i Qq2).toNat) p=true↔¬cls p (a.drop ((CV a).getD i Qq2).toNat)<1/\cls p (a.drop ((CV a).getD i Qq2).toNat)<2:=by
  generalize a.drop ((CV a).getD i Qq2).toNat=l;unfold cls
  by_cases hp:pre l p=true
  ·rw[if_pos hp];simp[hp]
  ·rw[if_neg hp]
   split <;> simp[hp]
 rw[hc,a1,a2];omega
end Go.L
end
noncomputable section
namespace Go.Proofs.YtopocbcekabkoaaGreatDoor
open Go Go.L
def seen(a:Qq4)(k:Nat):List Bool:=(Qzb a.length).map fun x:Nat=>decide ((x:Int)∈(CV a).take k)
end Go.Proofs.YtopocbcekabkoaaGreatDoor
end
noncomputable section
namespace Go.L
open Go
def rmx(a:Qq4)(i:Nat):Nat->Nat
 | 0=>0
 | k+1=>max (rmx a i k) (lcp (a.drop i) (a.drop (i+1+k)))
def tw(a:Qq4):Nat->Nat×Nat
 | 0=>(0,0)
 | k+1=>if(tw a k).2<rmx a k (a.length - (k+1))then(k,rmx a k (a.length - (k+1)))else tw a k
end Go.L
end
