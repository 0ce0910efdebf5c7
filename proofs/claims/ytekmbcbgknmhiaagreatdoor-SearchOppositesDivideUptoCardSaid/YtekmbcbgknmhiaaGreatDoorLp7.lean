/- Texts of a claim, merged. -/
import Derived.Test.YtekmbcbgknmhiaaGreatDoorLp6
import Derived.KernelRfl
open _root_.Go.Proofs.Tryz renaming underlying28→Aji
open Option renaming bind->Qq4,bind_some->Qq6,map->Qq7,bind_assoc->Qkv,toList_some->Qjz
open List renaming getD_eq_getElem?_getD->Qq9,getElem?_eq_getElem->Qzw,replicate->Qzz,length_map->Qzk,length_cons->Qzj,length_append->Qzu,range->Qzv,getElem?_eq_some_iff->QzC,mem_cons_of_mem->QzB,mem_cons->Qzy,mem_singleton->QzX,drop_eq_nil_of_le->Qz5,mem_cons_self->QzA,mem_append->Qze,length_nil->Qzf,length_take->QzK,pairwise_cons->Qz0,map_cons->Qzd,take_of_length_le->Qxz,append_nil->QzZ,length_drop->QzJ,getElem?_drop->Qxj,getElem?_eq_none->Qxe,getElem_mem->Qxx,mem_map->Qz4,getElem?_map->Qxv,mem_range->Qz7,take_add_one->QxX,length_singleton->QxD,flatMap_cons->Qxc,map_append->Qxd,nil_append->Qxw,length_range->QxB,getElem?_cons_zero->Qx8,cons_append->QxQ,length->Qxy,mergeSort_perm->Qkz,append_assoc->QxZ,countP_cons->Qx3,take_length->Qx4,pairwise_singleton->QkZ,drop_drop->Qkw,countP_append->Qke,pairwise_map->Qkk,range_succ->Qx2,countP_eq_zero->QkK,map_congr_left->Qkq,pairwise_mergeSort->QkC,drop_zero->QxE,mem_iff_getElem?->Qk9,pairwise_append->Qjq,ext_getElem?->Qkb,range'->QxJ,map_map->Qx0,getElem?_append_left->Qkf,countP_congr->Qk1,countP_singleton->Qk7,countP_le_length->Qk8,length_set->QkQ,mem_filter->Qk0,getElem?_range->QkD,exists_cons_of_ne_nil->QkE,pairwise_iff_getElem->Qjk,getElem?_take_of_lt->Qjj,nodup_append->Qk6
open Int renaming toNat_natCast->Qq8,lt_trichotomy->Qkc
open Prod renaming fst->Qq5,snd->QzQ
open Nat renaming le_refl->Qzx,le_trans->Qz2,add_zero->Qxq,zero_le->Qz6,lt_or_ge->Qxk,add_sub_cancel->Qkx,mul_le_mul_right->Qky,add_mul->Qx7
open Bool renaming and_eq_true->Qzb,false_eq_true->Qz1,eq_iff_iff->QzD,or_eq_true->Qz9,false_ne_true->Qkj,not_false->Qx9
open UInt8 renaming lt_iff_toNat_lt->Qxf,ofNat->QzE
set_option linter.unusedVariables false
set_option linter.unusedSimpArgs false
set_option linter.unusedSectionVars false
noncomputable section
namespace Go.Proofs.YtekmbcbgknmhiaaGreatDoor
open Go Go.E Go.RowKit Go.L
set_option maxHeartbeats 1000000
set_option maxRecDepth 10000
open _root_.Go.Proofs.Tryz
def GK(c:(List Int)×(Int×Int))(d:(List Int)×(Int×Int))(a b:Int):Option Bool:=
 if a=(c.1.length:Int) then some (decide (b=(d.1.length:Int))) else some false
def E2(a2:List Bool)(b a:Int)(c d:Bool)(e:Int):Option ((Int×Int×Int) ⊕ (Bool)):=
 if(bif c then d else false) then Qq7 Sum.inr (some false) else if c then AO (0<=a/\a<(a2.length:Int)) (if(true !=(a2.getD a.toNat Qq2)) then Qq7 Sum.inr (some false) else AO (Bw (a+1)) (some (Sum.inl (b,e,(a+1))))) else AO (0<=a/\a<(a2.length:Int)) (if(d !=(a2.getD a.toNat Qq2)) then Qq7 Sum.inr (some false) else AO (Bw (a+1)) (some (Sum.inl (b,e,(a+1)))))
def E3(a2:List Bool)(a c:Int)(d b:Bool)(e:Int):Option ((Int×Int×Int) ⊕ (Bool)):=
 if b then AO (Bw (a+1)) ((E2 a2 e c d b) (a+1)) else(E2 a2 e c d b) a
def Dv(a2:List Bool)(a c d:Int)(b e:Bool):Option ((Int×Int×Int) ⊕ (Bool)):=
 if b then AO (Bw (a+1)) ((E3 a2 c d b e) (a+1)) else(E3 a2 c d b e) a
def Dw(a2:List Bool)(c a b:Int)(e:(List Int)×(Int×Int))(d:Bool):Option ((Int×Int×Int) ⊕ (Bool)):=
 if a<(e.1.length:Int) then AO (0<=a/\a<(e.1.length:Int)) ((Dv a2 c a b d) (decide (e.1.getD a.toNat Qq2=b))) else(Dv a2 c a b d) false
def Dm(a0:List (Ac3×Pv))(a2:List Bool)(d:(List Int)×(Int×Int))(e:(List Int)×(Int×Int)):Int×Int×Int->Option ((Int×Int×Int) ⊕ (Bool)):=fun⟨a,c,b⟩=>
 if b<(a0.length:Int) then(if a<(d.1.length:Int) then AO (0<=a/\a<(d.1.length:Int)) ((Dw a2 a c b e) (decide (d.1.getD a.toNat Qq2=b))) else(Dw a2 a c b e) false) else Qq7 Sum.inr ((GK d e) a c)
def GL(a0:List (Ac3×Pv))(a2:List Bool)(a:(List Int)×(Int×Int))(b:(List Int)×(Int×Int))(s:Int×Int×Int):Option Bool:=Go.L.run (Dm a0 a2 a b) s
def GM(a0:List (Ac3×Pv))(a2:List Bool)(a:(List Int)×(Int×Int))(b:(List Int)×(Int×Int)):Option Bool:=
 (GL a0 a2 a b) (0,0,0)
def Ca(a0:List (Ac3×Pv))(a2:List Bool)(b:(List Int)×(Int×Int))(a:(List Int)×(Int×Int))(c:Bool):Option Bool:=
 if c then(if b.2.1=0 then if a.2.1=0 then if(a2.length:Int)=(a0.length:Int) then some true else AO (Bw ((b.1.length:Int)+(a.1.length:Int))) (some (decide (((b.1.length:Int)+(a.1.length:Int))=0))) else if(a.1.length:Int)=0 then if(a2.length:Int)=(a0.length:Int) then some true else AO (Bw ((b.1.length:Int)+(a.1.length:Int))) (some (decide (((b.1.length:Int)+(a.1.length:Int))=0))) else some false else if(b.1.length:Int)=0 then if a.2.1=0 then if(a2.length:Int)=(a0.length:Int) then some true else AO (Bw ((b.1.length:Int)+(a.1.length:Int))) (some (decide (((b.1.length:Int)+(a.1.length:Int))=0))) else if(a.1.length:Int)=0 then if(a2.length:Int)=(a0.length:Int) then some true else AO (Bw ((b.1.length:Int)+(a.1.length:Int))) (some (decide (((b.1.length:Int)+(a.1.length:Int))=0))) else some false else some false) else(GM a0 a2 b a)
def E4(a0:List (Ac3×Pv))(a1:Qv)(a2:List Bool)(a:AjN×(Int×Int)):Option Bool:=
 Qq4 (Cw ((a.1.1.1,a.1.1.2),(a.1.2.1.1,a.1.2.1.2),a.1.2.2) a1 a2) (fun b=>Qq4 (Cw ((a.1.1.1,a.1.1.2),(a.1.2.1.1,a.1.2.1.2),a.1.2.2) (Qv.mk (10:Int) ([]) ([]:Ac3) ([]) (0:Int) (0:Int) ([a1])) a2) (fun c=>if b.2.1=0 then if c.2.1=0 then(Ca a0 a2 b c) (!decide ((a2.length:Int)=(a0.length:Int))) else(Ca a0 a2 b c) true else(Ca a0 a2 b c) true))
def HW(a0:List (Ac3×Pv))(a1:Qv)(a2:List Bool):Option Bool:=
 Qq4 (Jt a0) (fun a=>Qq4 L2 (fun b=>if !b then Qq4 L2 (fun c=>if c then Qq4 (BO ((a.1.1.1,a.1.1.2),(a.1.2.1.1,a.1.2.1.2),a.1.2.2)) (fun d=>some (decide (d=0))) else some false) else if a.2.1=0 then(E4 a0 a1 a2 a) else Qq4 L2 (fun e=>if e then Qq4 (BO ((a.1.1.1,a.1.1.2),(a.1.2.1.1,a.1.2.1.2),a.1.2.2)) (fun f=>some (decide (f=0))) else some false)))
section
variable(w:World)(H:PH)(hH:Le H (hp w)) include hH
theorem MY(hU:Gj H){a0:List (Ac3×Pv)}{a1:Qv}{a2:List Bool}{a8 ax ay az a9:Value}(bv:AH (.pair (.vec .byte) .tree) H a8 a0)(dy:AH .st H ax (a1.f.2.1))(dz:AH .byte H ay (a1.f.2.2.2.1))(d0:AH .B1 H az (a1.f.2.2.2.2.2.2))(bd:AH .bool H a9 a2){r:Bool}(h:HW a0 a1 a2=some r):
  Qqv 7 [a8,.agg #[No a1.f.1,ax,Ab5 a1.f.2.2.1,ay,No a1.f.2.2.2.2.1,No a1.f.2.2.2.2.2.1,az],a9] w (fun v w'=>v=.bool r):=by
 refine A1 161 [(0,a8),(1,.agg #[No a1.f.1,ax,Ab5 a1.f.2.2.1,ay,No a1.f.2.2.2.2.1,No a1.f.2.2.2.2.2.1,az]),(2,a9)] func7 Z fun hL=>Ak<|CB (t:=26) Z Z hL fun w1 b1 de fs _=>A7 1 Z<|Bu 1 Z<|Ax h fun a fd h=>Bk de (PQ _ _ (Ao de) (hU.mono  Ah) (bv.mono  Ah) fd) ?_;rintro _ w3 ⟨s,u,x,rfl,d6,d7,d8⟩ d1 fe ft;have aj:=d6.mono (Er de d1);have ak:=d7.mono (Er de d1);have al:=d8.Dz hH de d1;refine Aq 3 Z<|AA KH.e Z fe fun w4 b4 ff be _=>AA AG.e Z ff fun w5 b5 fg bf _=>Ag 1 Z fg Z (a:=(Br Z (Br aj.one (Br Z (Br ak.one (Br al.one K9)))))) fun w6 fh bg=>Ag 0 Z fh Z fun w7 d2 bh=>Ac ?_
 refine Bt Unit (fun(_:Unit)=>[(0,a8),(2,a9),(4,(AaD b1)),(7,(AaD b4))]) (fun(_:Unit) wr=>Fl w [.box b5 [No a.2.1,No a.2.2] 28,.box b4 [No a.1.1.1,s,No a.1.2.1.1,u,x] 52,.box b1 [No a1.f.1,ax,Ab5 a1.f.2.2.1,ay,No a1.f.2.2.2.2.1,No a1.f.2.2.2.2.2.1,az] 26] wr fun Oz=>AH (.pair .st (.vec AjW)) (gz H w wr Oz) s (a.1.1.2)/\AH AjU (gz H w wr Oz) u (a.1.2.1.2)/\AH AjV (gz H w wr Oz) x (a.1.2.2)/\(E4 a0 a1 a2 a)=some r) ?_ ?_
 ·have ac:=d2.rG H;refine Ak<|Ax h fun f5 eu h=>AF d2 (PE _ _ (Ao d2) (hU.mono  Ah) eu) fun f6 fu b8 c5=>Aq 2 Z<|ED 25 h ?_ ?_<;>intro bw h
  ·iterate 3 refine An bw ?_
   refine Aj (AB bw Z)<|Ac<|EO<|Ak<|Ax h fun f7 ev h=>AF b8 (PE _ _ (Ao b8) (hU.mono  Ah) ev) fun f8 fv c6 d9=>Aq 1 Z<|ED 31 h ?_ ?_<;>intro bx h
   ·refine Ab bx<|Aj (A4 1 Z KH.e c6 Z)<|Ab bx<|Ax h fun f9 ew h=>?_;have aj:=aj.mono (Aa (be.trans (bf.trans (bg.trans bh))));have ak:=ak.mono (Aa (be.trans (bf.trans (bg.trans bh))));have al:=al.mono (Aa (be.trans (bf.trans (bg.trans bh))));have ac:=ac.trans (Aa (c5.trans d9));refine AF c6 (DP _ _ (Ao c6) (((a.1.1.1,a.1.1.2),(a.1.2.1.1,a.1.2.1.2),a.1.2.2)) (aj.mono ac) (ak.mono ac) (al.mono ac) ew) fun ga fw ex fi=>Ab bx<|Aj (Ai Z)<|Aj (AB bx Z)<|A7 1 Z<|Ay<|Bh ?_
    cases h
    refine Am Z ⟨ex.ext,Z⟩
   iterate 3 refine An bx ?_
   refine Aj (AM bx Z)<|A7 1 Z<|Ay<|Bh ?_
   cases h
   refine Am Z ⟨c6.ext,Z⟩
  refine Ab bw<|Aj (Ae Z Aji Z CO.e)<|Ab bw<|Aj (Af 0 Z b8 Z)<|Ab bw<|Aj (Ai Z)<|Aj (AM bw Z)<|Ac<|CP h ?_ ?_<;>intro ey h
  ·refine Ak<|Ax h fun gb ez h=>AF b8 (PE _ _ (Ao b8) (hU.mono  Ah) ez) fun gc fx c8 ea=>Aq 1 Z<|ED 31 h ?_ ?_<;>intro bz h
   ·refine Ab bz<|Aj (A4 1 Z KH.e c8 Z)<|Ab bz<|Ax h fun gd e0 h=>?_;have aj:=aj.mono (Aa (be.trans (bf.trans (bg.trans bh))));have ak:=ak.mono (Aa (be.trans (bf.trans (bg.trans bh))));have al:=al.mono (Aa (be.trans (bf.trans (bg.trans bh))));have ac:=ac.trans (Aa (c5.trans ea));refine AF c8 (DP _ _ (Ao c8) (((a.1.1.1,a.1.1.2),(a.1.2.1.1,a.1.2.1.2),a.1.2.2)) (aj.mono ac) (ak.mono ac) (al.mono ac) e0) fun ge fy e1 fj=>Ab bz<|Aj (Ai Z)<|Aj (AB bz Z)<|A7 1 Z<|Ay<|Bh ?_
    cases h
    refine Am Z ⟨e1.ext,Z⟩
   iterate 3 refine An bz ?_
   refine Aj (AM bz Z)<|A7 1 Z<|Ay<|Bh ?_
   cases h
   refine Am Z ⟨c8.ext,Z⟩
  refine Aw ?_;have aj:=aj.mono (Aa (be.trans (bf.trans (bg.trans bh))));have ak:=ak.mono (Aa (be.trans (bf.trans (bg.trans bh))));have al:=al.mono (Aa (be.trans (bf.trans (bg.trans bh))));have ac:=ac.trans (Aa c5);refine A8 () ⟨b8,(aj.mono ac),(ak.mono ac),(al.mono ac),h⟩
 rintro _ fz ⟨b9,bm,bn,bo,h⟩;have g:=b9.rG H;refine Ak<|Aj (A4 1 Z KH.e b9 Z)<|Aj (A4 2 Z B8.e b9 Z)<|Aq 1 Z<|Ax h fun j e2 h=>Bk b9 (Ij _ _ (Ao b9) (hU.mono  Ah) (((a.1.1.1,a.1.1.2),(a.1.2.1.1,a.1.2.1.2),a.1.2.2)) a1 (bm.mono g) (bn.mono g) (bo.mono g) (dy.mono  Ah) (dz.mono  Ah) (d0.mono  Ah) (bd.mono  Ah) e2) ?_;rintro _ gf ⟨m,rfl,d3⟩ e3 e4 eb;have af:=d3.Dz hH b9 e3;refine Aq 3 Z<|AA AG.e Z e4 fun gg b0 e5 ce _=>Aq 1 Z<|Ag 0 Z e5 Z fun gh df cf=>Ac<|Ak<|Aj (A4 2 Z KH.e df Z)<|Aj (A4 3 Z B8.e df Z)<|B7 [a1] (r:=.B1) (fun _=>Nx _ _ _ _ _ _ _ _) df (.c7 (Go.E.Rp.H4 ⟨_,_,Z,Z,⟨_,_,Z,⟨_,Z,(dy.mono  Ah)⟩,⟨_,_,Z,Z,⟨_,_,Z,⟨_,Z,(dz.mono  Ah)⟩,⟨_,_,Z,Z,⟨_,_,Z,Z,⟨_,Z,(d0.mono  Ah)⟩⟩⟩⟩⟩⟩⟩) .nil) ?_;intro gi gj f0 dg cg d4
 refine Aj (AT (fun _=>N8 _ _ d4.one _))<|Aq 1 Z<|Ax h fun i e6 h=>?_;have g:=g.trans (Aa (eb.trans (ce.trans (cf.trans cg))));refine Bk dg (Ij _ _ (Ao dg) (hU.mono  Ah) (((a.1.1.1,a.1.1.2),(a.1.2.1.1,a.1.2.1.2),a.1.2.2)) ((Qv.mk (10:Int) ([]) ([]:Ac3) ([]) (0:Int) (0:Int) ([a1]))) (bm.mono g) (bn.mono g) (bo.mono g) (AH.nil _ _) (AH.nil _ _) d4 (bd.mono  Ah) e6) ?_;rintro _ gk ⟨o,rfl,d5⟩ e7 e8 bp;have ag:=d5.Dz hH dg e7;refine Aq 3 Z<|AA AG.e Z e8 fun gl b2 e9 a3 _=>Aq 1 Z<|Ag 0 Z e9 Z fun gm ci a4=>Ac ?_
 refine Bt Unit (fun(_:Unit)=>[(0,a8),(2,a9),(9,m),(11,o)]) (fun(_:Unit) wr=>Fl w [.box b2 [No i.2.1,No i.2.2] 28,.box b0 [No j.2.1,No j.2.2] 28,.box b5 [No a.2.1,No a.2.2] 28,.box b4 [No a.1.1.1,s,No a.1.2.1.1,u,x] 52,.box b1 [No a1.f.1,ax,Ab5 a1.f.2.2.1,ay,No a1.f.2.2.2.2.1,No a1.f.2.2.2.2.2.1,az] 26] wr fun Oz=>AH (.int .i64) (gz H w wr Oz) m (j.1)/\AH (.int .i64) (gz H w wr Oz) o (i.1)/\AH (.pair .st (.vec AjW)) (gz H w wr Oz) s (a.1.1.2)/\AH AjU (gz H w wr Oz) u (a.1.2.1.2)/\AH AjV (gz H w wr Oz) x (a.1.2.2)/\(GM a0 a2 j i)=some r) ?_ ?_
 ·refine Bt Bool (fun bq=>[(0,a8),(2,a9),(9,m),(10,(AaD b0)),(11,o),(12,(AaD b2)),(66,.bool bq)]) (fun bq wr=>Fl w [.box b2 [No i.2.1,No i.2.2] 28,.box b0 [No j.2.1,No j.2.2] 28,.box b5 [No a.2.1,No a.2.2] 28,.box b4 [No a.1.1.1,s,No a.1.2.1.1,u,x] 52,.box b1 [No a1.f.1,ax,Ab5 a1.f.2.2.1,ay,No a1.f.2.2.2.2.1,No a1.f.2.2.2.2.2.1,az] 26] wr fun Oz=>AH (.int .i64) (gz H w wr Oz) m (j.1)/\AH (.int .i64) (gz H w wr Oz) o (i.1)/\AH (.pair .st (.vec AjW)) (gz H w wr Oz) s (a.1.1.2)/\AH AjU (gz H w wr Oz) u (a.1.2.1.2)/\AH AjV (gz H w wr Oz) x (a.1.2.2)/\(Ca a0 a2 j i) bq=some r) ?_ ?_
  ·refine Au<|Aj (Ae Z Aji Z CO.e)<|Aj (Af 1 Z ci Z)<|Aq 2 Z<|Iw 55 h ?_ ?_<;>intro bi h
   ·iterate 3 refine An bi ?_
    refine Aj (AB bi Z)<|Aq 1 Z ?_
    iterate 5 refine An Z ?_
    refine Aj (AB Z Z)<|AL ?_;have af:=af.mono (Aa (ce.trans (cf.trans (cg.trans (bp.trans (a3.trans a4))))));have g:=g.trans (Aa (bp.trans (a3.trans a4)));have ag:=ag.mono (Aa (a3.trans a4));refine A8 _ ⟨ci,af,ag,(bm.mono g),(bn.mono g),(bo.mono g),h⟩
   refine Ab bi<|Aj (Ae Z Aji Z CO.e)<|Ab bi<|Aj (Af 0 Z ci Z)<|Ab bi<|Aj (Ai Z)<|Aj (AM bi Z)<|Aq 1 Z<|Iw 60 h ?_ ?_<;>intro a5 h
   ·iterate 5 refine An a5 ?_
    refine Aj (AB a5 Z)<|AL ?_;have af:=af.mono (Aa (ce.trans (cf.trans (cg.trans (bp.trans (a3.trans a4))))));have g:=g.trans (Aa (bp.trans (a3.trans a4)));have ag:=ag.mono (Aa (a3.trans a4));refine A8 _ ⟨ci,af,ag,(bm.mono g),(bn.mono g),(bo.mono g),h⟩
   refine Ab a5<|Aj (Ai Z)<|Ab a5<|Aj (Bc bd)<|Ab a5<|Aj (Ai Z)<|Ab a5<|Aj (Bc bv)<|Ab a5<|Aj (Ai Z)<|Aj (AM a5 Z)<|AL ?_;have af:=af.mono (Aa (ce.trans (cf.trans (cg.trans (bp.trans (a3.trans a4))))));have g:=g.trans (Aa (bp.trans (a3.trans a4)));have ag:=ag.mono (Aa (a3.trans a4));refine A8 _ ⟨ci,af,ag,(bm.mono g),(bn.mono g),(bo.mono g),h⟩
  rintro bq fk ⟨p,a6,ai,dn,dp,dq,h⟩;refine B3 h ?_ ?_<;>intro ec h
  ·have ah:=p.rG H;refine Ak<|Aj (Ae Z Aji Z CO.e)<|Aj (Af 1 Z p Z)<|Aq 2 Z<|BT 70 h ?_ ?_<;>intro bj h
   ·iterate 3 refine An bj ?_
    refine Aj (AB bj Z)<|Aq 1 Z<|Ab Z<|Aj (Ae Z Aji Z CO.e)<|Ab Z<|Aj (Af 0 Z p Z)<|Ab Z<|Aj (Ai Z)<|Ab Z<|Aj (Ai Z)<|BT 79 h ?_ ?_<;>intro bk h
    ·iterate 3 refine An bk ?_
     refine Ab Z<|Aj (AB bk Z)<|Aj (AB Z Z)<|Aq 1 Z<|Ab Z<|Aj (Ai Z)<|Ab Z<|Aj (Bc bd)<|Ab Z<|Aj (Ai Z)<|Ab Z<|Aj (Bc bv)<|Ab Z<|Aj (Ai Z)<|Ab Z<|Aj (Ai Z)<|BT 91 h ?_ ?_<;>intro am h
     ·iterate 6 refine An am ?_
      refine Ab Z<|Aj (AB am Z)<|Aj (AB Z Z)<|A7 1 Z<|Ay<|Bh ?_
      cases h
      refine Am Z ⟨p.ext,Z⟩
     refine Ab am<|Aj (Ai Z)<|Ab am<|Aj (Bc (a6.mono ah))<|Ab am<|Aj (Ai Z)<|Ab am<|Aj (Bc (ai.mono ah))<|Ab am<|Az h fun ed h=>Aj (A5 ed)<|Ab am<|Aj (Ai Z)<|Ab Z<|Aj (AM am Z)<|Aj (AB Z Z)<|A7 1 Z<|Ay<|Bh ?_
     cases h
     refine Am Z ⟨p.ext,Z⟩
    refine Ab bk<|Aj (Ai Z)<|Ab bk<|Aj (Bc (ai.mono ah))<|Ab bk<|Aj (Ai Z)<|Ab Z<|Aj (AM bk Z)<|Aj (AB Z Z)<|Aq 1 Z<|BT 85 h ?_ ?_<;>intro y h
    ·refine Ab y<|Aj (Ai Z)<|Ab y<|Aj (Bc bd)<|Ab y<|Aj (Ai Z)<|Ab y<|Aj (Bc bv)<|Ab y<|Aj (Ai Z)<|Ab y<|Aj (Ai Z)<|BT 91 h ?_ ?_<;>intro an h
     ·iterate 6 refine An an ?_
      refine Ab y<|Aj (AB an Z)<|Aj (AB y Z)<|A7 1 Z<|Ay<|Bh ?_
      cases h
      refine Am Z ⟨p.ext,Z⟩
     refine Ab an<|Aj (Ai Z)<|Ab an<|Aj (Bc (a6.mono ah))<|Ab an<|Aj (Ai Z)<|Ab an<|Aj (Bc (ai.mono ah))<|Ab an<|Az h fun ee h=>Aj (A5 ee)<|Ab an<|Aj (Ai Z)<|Ab y<|Aj (AM an Z)<|Aj (AB y Z)<|A7 1 Z<|Ay<|Bh ?_
     cases h
     refine Am Z ⟨p.ext,Z⟩
    iterate 6 refine An y ?_
    iterate 6 refine Jj ?_
    refine An y<|Aj (AM y Z)<|A7 1 Z<|Ay<|Bh ?_
    cases h
    refine Am Z ⟨p.ext,Z⟩
   refine Ab bj<|Aj (Ai Z)<|Ab bj<|Aj (Bc (a6.mono ah))<|Ab bj<|Aj (Ai Z)<|Aj (AM bj Z)<|Aq 1 Z<|BT 75 h ?_ ?_<;>intro aa h
   ·refine Ab aa<|Aj (Ae Z Aji Z CO.e)<|Ab aa<|Aj (Af 0 Z p Z)<|Ab aa<|Aj (Ai Z)<|Ab aa<|Aj (Ai Z)<|BT 79 h ?_ ?_<;>intro bl h
    ·iterate 3 refine An bl ?_
     refine Ab aa<|Aj (AB bl Z)<|Aj (AB aa Z)<|Aq 1 Z<|Ab Z<|Aj (Ai Z)<|Ab Z<|Aj (Bc bd)<|Ab Z<|Aj (Ai Z)<|Ab Z<|Aj (Bc bv)<|Ab Z<|Aj (Ai Z)<|Ab Z<|Aj (Ai Z)<|BT 91 h ?_ ?_<;>intro ao h
     ·iterate 6 refine An ao ?_
      refine Ab Z<|Aj (AB ao Z)<|Aj (AB Z Z)<|A7 1 Z<|Ay<|Bh ?_
      cases h
      refine Am Z ⟨p.ext,Z⟩
     refine Ab ao<|Aj (Ai Z)<|Ab ao<|Aj (Bc (a6.mono ah))<|Ab ao<|Aj (Ai Z)<|Ab ao<|Aj (Bc (ai.mono ah))<|Ab ao<|Az h fun ef h=>Aj (A5 ef)<|Ab ao<|Aj (Ai Z)<|Ab Z<|Aj (AM ao Z)<|Aj (AB Z Z)<|A7 1 Z<|Ay<|Bh ?_
     cases h
     refine Am Z ⟨p.ext,Z⟩
    refine Ab bl<|Aj (Ai Z)<|Ab bl<|Aj (Bc (ai.mono ah))<|Ab bl<|Aj (Ai Z)<|Ab aa<|Aj (AM bl Z)<|Aj (AB aa Z)<|Aq 1 Z<|BT 85 h ?_ ?_<;>intro z h
    ·refine Ab z<|Aj (Ai Z)<|Ab z<|Aj (Bc bd)<|Ab z<|Aj (Ai Z)<|Ab z<|Aj (Bc bv)<|Ab z<|Aj (Ai Z)<|Ab z<|Aj (Ai Z)<|BT 91 h ?_ ?_<;>intro ap h
     ·iterate 6 refine An ap ?_
      refine Ab z<|Aj (AB ap Z)<|Aj (AB z Z)<|A7 1 Z<|Ay<|Bh ?_
      cases h
      refine Am Z ⟨p.ext,Z⟩
     refine Ab ap<|Aj (Ai Z)<|Ab ap<|Aj (Bc (a6.mono ah))<|Ab ap<|Aj (Ai Z)<|Ab ap<|Aj (Bc (ai.mono ah))<|Ab ap<|Az h fun eg h=>Aj (A5 eg)<|Ab ap<|Aj (Ai Z)<|Ab z<|Aj (AM ap Z)<|Aj (AB z Z)<|A7 1 Z<|Ay<|Bh ?_
     cases h
     refine Am Z ⟨p.ext,Z⟩
    iterate 6 refine An z ?_
    iterate 6 refine Jj ?_
    refine An z<|Aj (AM z Z)<|A7 1 Z<|Ay<|Bh ?_
    cases h
    refine Am Z ⟨p.ext,Z⟩
   iterate 4 refine An aa ?_
   iterate 3 refine Jj ?_
   refine An aa<|Aj (AM aa Z)<|Aq 1 Z ?_
   iterate 6 refine An Z ?_
   iterate 6 refine Jj ?_
   refine An Z<|Aj (AM Z Z)<|A7 1 Z<|Ay<|Bh ?_
   cases h
   refine Am Z ⟨p.ext,Z⟩
  refine Aw<|A8 () ⟨p,a6,ai,dn,dp,dq,h⟩
 rintro _ fl ⟨dh,dr,ds,dt,du,dv,h⟩;have b3:=dh.rG H;refine AJ 2 Z<|Bt (Int×Int) (fun⟨br,bs⟩=>[(9,m),(11,o),(13,No br),(14,No bs)]) (fun⟨br,bs⟩ wr=>Fl w [.box b2 [No i.2.1,No i.2.2] 28,.box b0 [No j.2.1,No j.2.2] 28,.box b5 [No a.2.1,No a.2.2] 28,.box b4 [No a.1.1.1,s,No a.1.2.1.1,u,x] 52,.box b1 [No a1.f.1,ax,Ab5 a1.f.2.2.1,ay,No a1.f.2.2.2.2.1,No a1.f.2.2.2.2.2.1,az] 26] wr fun Oz=>AH (.int .i64) (gz H w wr Oz) m (j.1)/\AH (.int .i64) (gz H w wr Oz) o (i.1)/\AH (.pair .st (.vec AjW)) (gz H w wr Oz) s (a.1.1.2)/\AH AjU (gz H w wr Oz) u (a.1.2.1.2)/\AH AjV (gz H w wr Oz) x (a.1.2.2)/\(GK j i) br bs=some r) ?_ ?_
 ·refine AJ 1 Z<|A3 ?_;obtain⟨c9,h⟩:=Ba h;refine B6 (Int×Int×Int×Nat) (fun⟨d,c,b,n⟩=>[(0,a8),(2,a9),(9,m),(11,o),(13,No d),(14,No c),(15,No b)]) (fun⟨d,c,b,n⟩ wr=>Fl w [.box b2 [No i.2.1,No i.2.2] 28,.box b0 [No j.2.1,No j.2.2] 28,.box b5 [No a.2.1,No a.2.2] 28,.box b4 [No a.1.1.1,s,No a.1.2.1.1,u,x] 52,.box b1 [No a1.f.1,ax,Ab5 a1.f.2.2.1,ay,No a1.f.2.2.2.2.1,No a1.f.2.2.2.2.2.1,az] 26] wr fun Oz=>AH (.int .i64) (gz H w wr Oz) m (j.1)/\AH (.int .i64) (gz H w wr Oz) o (i.1)/\AH (.pair .st (.vec AjW)) (gz H w wr Oz) s (a.1.1.2)/\AH AjU (gz H w wr Oz) u (a.1.2.1.2)/\AH AjV (gz H w wr Oz) x (a.1.2.2)/\HG (Dm a0 a2 j i) n (d,c,b)=some r) (fun⟨d,c,b,n⟩=>n) (0,0,0,c9) Z ⟨dh,(dr.mono b3),(ds.mono b3),(dt.mono b3),(du.mono b3),(dv.mono b3),h⟩ ?_
  rintro⟨d,c,b,nn342⟩ fm ⟨b6,bc,ca,cb,cc,cd,h⟩;obtain⟨c9,da,rfl,h,bt⟩:=AY h;refine AD ?_;have k:=b6.rG H;refine Bu 2 Z<|Aj (Bc bv)<|A7 1 Z<|AP h ?_ ?_<;>intro eh h
  ·refine Aw<|As<|AD<|A3<|Bt Bool (fun q=>[(0,a8),(2,a9),(9,m),(11,o),(13,No d),(14,No c),(15,No b),(16,.bool q)]) (fun q wr=>Fl w [.box b2 [No i.2.1,No i.2.2] 28,.box b0 [No j.2.1,No j.2.2] 28,.box b5 [No a.2.1,No a.2.2] 28,.box b4 [No a.1.1.1,s,No a.1.2.1.1,u,x] 52,.box b1 [No a1.f.1,ax,Ab5 a1.f.2.2.1,ay,No a1.f.2.2.2.2.1,No a1.f.2.2.2.2.2.1,az] 26] wr fun Oz=>AH (.int .i64) (gz H w wr Oz) m (j.1)/\AH (.int .i64) (gz H w wr Oz) o (i.1)/\AH (.pair .st (.vec AjW)) (gz H w wr Oz) s (a.1.1.2)/\AH AjU (gz H w wr Oz) u (a.1.2.1.2)/\AH AjV (gz H w wr Oz) x (a.1.2.2)/\(Dw a2 d c b i) q=some da) ?_ ?_
   ·refine Au<|Aq 2 Z<|Aj (Bc (bc.mono k))<|Aq 2 Z<|BT 110 h ?_ ?_<;>intro aq h
    ·refine Ab aq<|Aj (Ai Z)<|Ab aq<|Aj (Ai Z)<|Ab aq<|Az h fun di h=>Bf (bc.mono k) d.toNat (Gy di) (AW di) ?_;rintro f1 _ rfl ei;refine Ab aq<|Aj (Bl ei (Ao b6))<|Ab aq<|Aj (Ai Z)<|Ab aq<|Aj (Ai Z)<|Aj (AB aq Z)<|Aq 1 Z<|AL<|A8 _ ⟨b6,(bc.mono k),(ca.mono k),(cb.mono k),(cc.mono k),(cd.mono k),h⟩
    iterate 6 refine An aq ?_
    refine Aj (AM aq Z)<|Aq 1 Z<|AL<|A8 _ ⟨b6,(bc.mono k),(ca.mono k),(cb.mono k),(cc.mono k),(cd.mono k),h⟩
   rintro q fn ⟨ch,cl,bu,cm,cn,co,h⟩;refine Bt Bool (fun ad=>[(0,a8),(2,a9),(9,m),(11,o),(13,No d),(14,No c),(15,No b),(16,.bool q),(17,.bool ad)]) (fun ad wr=>Fl w [.box b2 [No i.2.1,No i.2.2] 28,.box b0 [No j.2.1,No j.2.2] 28,.box b5 [No a.2.1,No a.2.2] 28,.box b4 [No a.1.1.1,s,No a.1.2.1.1,u,x] 52,.box b1 [No a1.f.1,ax,Ab5 a1.f.2.2.1,ay,No a1.f.2.2.2.2.1,No a1.f.2.2.2.2.2.1,az] 26] wr fun Oz=>AH (.int .i64) (gz H w wr Oz) m (j.1)/\AH (.int .i64) (gz H w wr Oz) o (i.1)/\AH (.pair .st (.vec AjW)) (gz H w wr Oz) s (a.1.1.2)/\AH AjU (gz H w wr Oz) u (a.1.2.1.2)/\AH AjV (gz H w wr Oz) x (a.1.2.2)/\(Dv a2 d c b q) ad=some da) ?_ ?_
   ·have ab:=ch.rG H;refine Au<|Aq 2 Z<|Aj (Bc (bu.mono ab))<|Aq 2 Z<|BT 122 h ?_ ?_<;>intro ar h
    ·refine Ab ar<|Aj (Ai Z)<|Ab ar<|Aj (Ai Z)<|Ab ar<|Az h fun dj h=>Bf (bu.mono ab) c.toNat (Gy dj) (AW dj) ?_;rintro f2 _ rfl ej;refine Ab ar<|Aj (Bl ej (Ao ch))<|Ab ar<|Aj (Ai Z)<|Ab ar<|Aj (Ai Z)<|Aj (AB ar Z)<|Aq 1 Z<|AL<|A8 _ ⟨ch,(cl.mono ab),(bu.mono ab),(cm.mono ab),(cn.mono ab),(co.mono ab),h⟩
    iterate 6 refine An ar ?_
    refine Aj (AM ar Z)<|Aq 1 Z<|AL<|A8 _ ⟨ch,(cl.mono ab),(bu.mono ab),(cm.mono ab),(cn.mono ab),(co.mono ab),h⟩
   rintro ad fo ⟨db,cp,cq,cr,cs,ct,h⟩;refine Bt Int (fun ae=>[(0,a8),(2,a9),(9,m),(11,o),(13,No ae),(14,No c),(15,No b),(16,.bool q),(17,.bool ad)]) (fun ae wr=>Fl w [.box b2 [No i.2.1,No i.2.2] 28,.box b0 [No j.2.1,No j.2.2] 28,.box b5 [No a.2.1,No a.2.2] 28,.box b4 [No a.1.1.1,s,No a.1.2.1.1,u,x] 52,.box b1 [No a1.f.1,ax,Ab5 a1.f.2.2.1,ay,No a1.f.2.2.2.2.1,No a1.f.2.2.2.2.2.1,az] 26] wr fun Oz=>AH (.int .i64) (gz H w wr Oz) m (j.1)/\AH (.int .i64) (gz H w wr Oz) o (i.1)/\AH (.pair .st (.vec AjW)) (gz H w wr Oz) s (a.1.1.2)/\AH AjU (gz H w wr Oz) u (a.1.2.1.2)/\AH AjV (gz H w wr Oz) x (a.1.2.2)/\(E3 a2 c b q ad) ae=some da) ?_ ?_
   ·have au:=db.rG H;refine AJ 1 Z<|B3 h ?_ ?_<;>intro ek h
    ·refine Au<|Aq 1 Z<|Az h fun el h=>Aj (A5 el)<|Aq 1 Z<|AL<|A8 _ ⟨db,(cp.mono au),(cq.mono au),(cr.mono au),(cs.mono au),(ct.mono au),h⟩
    refine Aw<|A8 _ ⟨db,(cp.mono au),(cq.mono au),(cr.mono au),(cs.mono au),(ct.mono au),h⟩
   rintro ae fp ⟨dc,cu,cv,cw,cx,cy,h⟩;refine Bt Int (fun a7=>[(0,a8),(2,a9),(9,m),(11,o),(13,No ae),(14,No a7),(15,No b),(16,.bool q),(17,.bool ad)]) (fun a7 wr=>Fl w [.box b2 [No i.2.1,No i.2.2] 28,.box b0 [No j.2.1,No j.2.2] 28,.box b5 [No a.2.1,No a.2.2] 28,.box b4 [No a.1.1.1,s,No a.1.2.1.1,u,x] 52,.box b1 [No a1.f.1,ax,Ab5 a1.f.2.2.1,ay,No a1.f.2.2.2.2.1,No a1.f.2.2.2.2.2.1,az] 26] wr fun Oz=>AH (.int .i64) (gz H w wr Oz) m (j.1)/\AH (.int .i64) (gz H w wr Oz) o (i.1)/\AH (.pair .st (.vec AjW)) (gz H w wr Oz) s (a.1.1.2)/\AH AjU (gz H w wr Oz) u (a.1.2.1.2)/\AH AjV (gz H w wr Oz) x (a.1.2.2)/\(E2 a2 ae b q ad) a7=some da) ?_ ?_
   ·have av:=dc.rG H;refine AJ 1 Z<|B3 h ?_ ?_<;>intro em h
    ·refine Au<|Aq 1 Z<|Az h fun en h=>Aj (A5 en)<|Aq 1 Z<|AL<|A8 _ ⟨dc,(cu.mono av),(cv.mono av),(cw.mono av),(cx.mono av),(cy.mono av),h⟩
    refine Aw<|A8 _ ⟨dc,(cu.mono av),(cv.mono av),(cw.mono av),(cx.mono av),(cy.mono av),h⟩
   rintro a7 fq ⟨ba,cz,c0,c1,c2,c3,h⟩;have aw:=ba.rG H;refine Bu 2 Z<|Sc 1 1 Z Z Z Z Z Z Z<|Aq 1 Z<|ED 140 h ?_ ?_<;>intro e h
   ·iterate 2 refine An e ?_
    refine Jj ?_
    iterate 6 refine An e ?_
    refine Aj (AB e Z)<|Ac<|EO<|AJ 1 Z<|Ay<|Av<|Ar<|BG ?_;have h:=Cg.out h bt;refine Av<|Bh ?_
    cases h
    refine Am Z ⟨ba.ext,Z⟩
   refine Ab e<|Aj (Ai Z)<|Ab e<|Aj (Ai Z)<|ED 142 h ?_ ?_<;>intro b7 h
   ·refine An b7<|Ab e<|Aj (AB b7 Z)<|Ab e<|Aj (Ai Z)<|Ab e<|Aj (Ai Z)<|Ab e<|Az h fun dk h=>Bf bd b.toNat (Gy dk) (AW dk) ?_;rintro f3 _ rfl eo;refine Ab e<|Aj (Bl eo (hH.trans ba.arg))<|Ab e<|Aj (Ahf Z Z)<|Aj (AM e Z)<|Ac<|B3 h ?_ ?_<;>intro ep h
    ·refine AJ 1 Z<|Ay<|Av<|Ar<|BG ?_;have h:=Cg.out h bt;refine Av<|Bh ?_
     cases h
     refine Am Z ⟨ba.ext,Z⟩
    refine Aw<|A2<|As<|Au<|Aq 1 Z<|Az h fun eq h=>Aj (A5 eq)<|Aq 1 Z<|AL ?_;have h:=Cg.again h bt;refine AN (_,_,_,_) Z ⟨ba,(cz.mono aw),(c0.mono aw),(c1.mono aw),(c2.mono aw),(c3.mono aw),h⟩
   refine Ab b7<|Aj (Ai Z)<|Ab e<|Aj (AM b7 Z)<|Ab e<|Aj (Ai Z)<|Ab e<|Aj (Ai Z)<|Ab e<|Az h fun dl h=>Bf bd b.toNat (Gy dl) (AW dl) ?_;rintro f4 _ rfl er;refine Ab e<|Aj (Bl er (hH.trans ba.arg))<|Ab e<|Aj (Ahf Z Z)<|Aj (AM e Z)<|Ac<|B3 h ?_ ?_<;>intro es h
   ·refine AJ 1 Z<|Ay<|Av<|Ar<|BG ?_;have h:=Cg.out h bt;refine Av<|Bh ?_
    cases h
    refine Am Z ⟨ba.ext,Z⟩
   refine Aw<|A2<|As<|Au<|Aq 1 Z<|Az h fun et h=>Aj (A5 et)<|Aq 1 Z<|AL ?_;have h:=Cg.again h bt;refine AN (_,_,_,_) Z ⟨ba,(cz.mono aw),(c0.mono aw),(c1.mono aw),(c2.mono aw),(c3.mono aw),h⟩
  refine B4<|AE<|A6 ?_;have h:=Cg.out h bt;refine Bi<|A8 (_,_) ⟨b6,(bc.mono k),(ca.mono k),(cb.mono k),(cc.mono k),(cd.mono k),h⟩
 rintro⟨br,bs⟩ fr ⟨dd,dw,dx,fa,fb,fc,h⟩;have dm:=dd.rG H;refine Bu 2 Z<|Aj (Bc (dw.mono dm))<|Aq 2 Z<|BT 155 h ?_ ?_<;>intro bb h
 ·refine Ab bb<|Aj (Ai Z)<|Ab bb<|Aj (Ai Z)<|Ab bb<|Aj (Bc (dx.mono dm))<|Ab bb<|Aj (Ai Z)<|Aj (AB bb Z)<|A7 1 Z<|Ay ?_
  cases h
  refine Am Z ⟨dd.ext,Z⟩
 iterate 4 refine An bb ?_
 refine Aj (AM bb Z)<|A7 1 Z<|Ay ?_
 cases h
 refine Am Z ⟨dd.ext,Z⟩
end
end Go.Proofs.YtekmbcbgknmhiaaGreatDoor
end
noncomputable section
namespace Go.L
open Go
theorem Abt(f g:Nat->Bool)(i d:Nat):SS (i+d) f g=SS i f g++((QxJ i d).filter fun j=>f j&&g j).map fun j:Nat=>(j:Int):=by
 unfold SS;rw [<- Qxd,<- List.filter_append,List.range_eq_range',List.range_eq_range',<- List.range'_append_1,Nat.zero_add]
theorem V5(f g:Nat->Bool)(i:Nat):SS (i+1) f g=SS i f g++(if f i&&g i then[(i:Int)] else[]):=by
 rw [Abt]
 congr 1
 show(List.filter _ [i]).map _=_
 rw [List.filter_cons,List.filter_nil]
 cases f i&&g i <;> rfl
theorem Aet{n i:Nat}(h:i<n)(f g:Nat->Bool):((SS i f g).length<(SS n f g).length/\(SS n f g).getD (SS i f g).length Qq2=(i:Int))↔(f i&&g i)=true:=by
 obtain⟨d,rfl⟩:∃ d,n=i+1+d:=⟨n - (i+1),by omega⟩;rw [Abt f g (i+1) d,V5]
 cases hc:f i&&g i with
 | true=>simp
 | false=>
  simp only [Qz1,if_false,QzZ,iff_false];rintro⟨b,h2⟩;rw [Qzu] at b;rw [Qq9,List.getElem?_append_right (Qzx _),Nat.sub_self] at h2
  cases hl:((QxJ (i+1) d).filter fun j=>f j&&g j).map (fun j:Nat=>(j:Int)) with
  | nil=>rw [hl] at b;simp at b
  | cons a r=>
   rw [hl] at h2;have h3:a=(i:Int):=h2;have ha:a∈((QxJ (i+1) d).filter fun j=>f j&&g j).map (fun j:Nat=>(j:Int)):=by rw [hl];exact QzA ..
   obtain⟨j,hj,rfl⟩:=Qz4.1 ha;have:=(List.mem_range'_1.1 (Qk0.1 hj).1).1;omega
end Go.L
namespace Go.Proofs.YtekmbcbgknmhiaaGreatDoor
open Go Go.L
theorem Zb{l:List (List UInt8×Pv)}(hl:l.length<=64){vis:List Bool}(hv:vis.length=l.length)(f:Nat->Bool){e e':Int×Int}:∀ (d i:Nat),i+d=l.length->
  GL l vis (SS l.length f (fun j=>vis.getD j Qq2),e) (SS l.length (fun j=>!f j) (fun j=>vis.getD j Qq2),e') (((SS i f (fun j=>vis.getD j Qq2)).length:Int),((SS i (fun j=>!f j) (fun j=>vis.getD j Qq2)).length:Int),(i:Int))=some true
 | 0,i,h=>by
  obtain rfl:i=l.length:=by omega
  refine AQ (m:=some true) ?_;unfold Dm GK;simp only;rw [if_neg U];simp
 | d+1,i,h=>by
  have hi:i<l.length:=by omega
  have c:=Aet hi f fun j=>vis.getD j Qq2;have h2:=Aet hi (fun j=>!f j) fun j=>vis.getD j Qq2;have o:=XY l.length f fun j=>vis.getD j Qq2;have p:=XY l.length (fun j=>!f j) fun j=>vis.getD j Qq2;have q:=XY i f fun j=>vis.getD j Qq2;have r:=XY i (fun j=>!f j) fun j=>vis.getD j Qq2
  have s1:((SS (i+1) f fun j=>vis.getD j Qq2).length:Int)=(SS i f fun j=>vis.getD j Qq2).length+(if f i&&vis.getD i Qq2 then 1 else 0):=by
   rw [V5,Qzu]
   cases f i&&vis.getD i Qq2 <;> simp
  have n:((SS (i+1) (fun j=>!f j) fun j=>vis.getD j Qq2).length:Int)=(SS i (fun j=>!f j) fun j=>vis.getD j Qq2).length+(if !f i&&vis.getD i Qq2 then 1 else 0):=by
   rw [V5,Qzu]
   cases !f i&&vis.getD i Qq2 <;> simp
  have ih:=Zb hl hv f (e:=e) (e':=e') d (i+1) U;rw [s1,n] at ih;have hvi:vis.getD ((i:Int)).toNat Qq2=vis.getD i Qq2:=by rw [Qq8]
  generalize SS l.length f (fun j=>vis.getD j Qq2)=A at *;generalize SS l.length (fun j=>!f j) (fun j=>vis.getD j Qq2)=B at *;generalize (SS i f fun j=>vis.getD j Qq2).length=a at *;generalize (SS i (fun j=>!f j) fun j=>vis.getD j Qq2).length=b at *
  have g:∀ (x y:Bool),x=(f i&&vis.getD i Qq2)->y=(!f i&&vis.getD i Qq2)->Dv vis (a:Int) (b:Int) (i:Int) x y=some (.inl ((a:Int)+(if f i&&vis.getD i Qq2 then 1 else 0),(b:Int)+(if !f i&&vis.getD i Qq2 then 1 else 0),((i+1:Nat):Int))):=fun x y hx hy=>by
   subst hx hy;unfold Dv E3 E2;rw [hvi]
   cases f i <;> cases vis.getD i Qq2 <;> simp only [Bool.not_true,Qx9,Bool.true_and,Bool.false_and,Qz1,if_true,if_false,cond_true,cond_false,bne_self_eq_false,Int.add_zero]
   ·rw [Ad U,Ad (by unfold Bw;omega)];rfl
   ·rw [Ad (by unfold Bw;omega),Ad U,Ad (by unfold Bw;omega)];rfl
   ·rw [Ad U,Ad (by unfold Bw;omega)];rfl
   ·rw [Ad (by unfold Bw;omega),Ad U,Ad (by unfold Bw;omega)];rfl
  have k:∀ x:Bool,x=(f i&&vis.getD i Qq2)->Dw vis (a:Int) (b:Int) (i:Int) (B,e') x=some (.inl ((a:Int)+(if f i&&vis.getD i Qq2 then 1 else 0),(b:Int)+(if !f i&&vis.getD i Qq2 then 1 else 0),((i+1:Nat):Int))):=fun x hx=>by
   unfold Dw;simp only
   by_cases hb:b<B.length
   ·rw [if_pos U,Ad U];refine g _ _ hx ?_;rw [Qq8,QzD,decide_eq_true_eq,<- h2];exact⟨fun h=>⟨hb,h⟩,fun h=>h.2⟩
   ·rw [if_neg U];refine g _ _ hx ?_;rw [QzD,<- h2];exact⟨fun h=>absurd h Qkj,fun h=>absurd h.1 hb⟩
  have hb:Dm l vis (A,e) (B,e') ((a:Int),(b:Int),(i:Int))=some (.inl ((a:Int)+(if f i&&vis.getD i Qq2 then 1 else 0),(b:Int)+(if !f i&&vis.getD i Qq2 then 1 else 0),((i+1:Nat):Int))):=by
   unfold Dm;simp only;rw [if_pos U]
   by_cases ha:a<A.length
   ·rw [if_pos U,Ad U];refine k _ ?_;rw [Qq8,QzD,decide_eq_true_eq,<- c];exact⟨fun h=>⟨ha,h⟩,fun h=>h.2⟩
   ·rw [if_neg U];refine k _ ?_;rw [QzD,<- c];exact⟨fun h=>absurd h Qkj,fun h=>absurd h.1 ha⟩
  unfold GL at ih ⊢;rw [Bg hb];exact ih
theorem AhX{f:Qv->Nat->Bool}{q:Qv}{d:Nat}(hv:Vq (d+1) (.mk 10 [] [] [] 0 0 [q]))(i:Nat):I9 f (d+1) (.mk 10 [] [] [] 0 0 [q]) i = !I9 f (d+1) q i:=by
 have a:=Aer f d (.mk 10 [] [] [] 0 0 [q]) i;rw [Qf] at a;simp only at a;rw [if_neg (show ¬ (10:Int)<8 by decide),if_pos True.intro] at a;rw [a,Aes d q i (hv.2 q (QzX.2 Z))]
 rfl
theorem AhY{l:List (List UInt8×Pv)}(hl:l.length<=64){x:LIB×(Int×Int)}(hx:x.1.2.2.length=l.length){f:Qv->Nat->Bool}(hf:Fnd x.1 f){q:Qv}(hq:Sq q){vis:List Bool}:E4 l q vis x=some true:=by
 have hq':Sq (.mk 10 [] [] [] 0 0 [q]):=Sq.mk Qqd fun s hs=>by obtain rfl:=QzX.1 hs;exact hq
 have c:=Abs U hf hq (vis:=vis);have h2:=Abs U hf hq' (vis:=vis);unfold E4
 show Qq4 (Cw x.1 q vis) (fun r=>Qq4 (Cw x.1 (.mk 10 [] [] [] 0 0 [q]) vis) _)=_
 rw [c,Qq6,h2,Qq6];rw [hx]
 have i:∀ (a b:List Int×(Int×Int)),(a.2.1≠0->a.1=[])->(b.2.1≠0->b.1=[])->(vis.length≠l.length->a.1=[]/\b.1=[])->Ca l vis a b true=some true:=fun a b ha hb hv=>by
  unfold Ca;simp only [if_true];have la:a.2.1≠0->((a.1.length:Int)=0):=fun h=>by rw [ha h];rfl
  have lb:b.2.1≠0->((b.1.length:Int)=0):=fun h=>by rw [hb h];rfl
  have lv : ¬ (vis.length:Int)=(l.length:Int)->Go.L.AO (Go.L.Bw ((a.1.length:Int)+(b.1.length:Int))) (some (decide (((a.1.length:Int)+(b.1.length:Int))=(0:Int))))=some true:=fun h=>by
   obtain⟨d,e⟩:=hv U;rw [d,e]
   rfl
  by_cases c:a.2.1=0
  ·rw [if_pos c]
   by_cases h2:b.2.1=0
   ·rw [if_pos h2]
    by_cases h3:(vis.length:Int)=(l.length:Int)
    ·rw [if_pos h3]
    ·rw [if_neg h3,lv h3]
   ·rw [if_neg h2,if_pos (lb h2)]
    by_cases h3:(vis.length:Int)=(l.length:Int)
    ·rw [if_pos h3]
    ·rw [if_neg h3,lv h3]
  ·rw [if_neg c,if_pos (la c)]
   by_cases h2:b.2.1=0
   ·rw [if_pos h2]
    by_cases h3:(vis.length:Int)=(l.length:Int)
    ·rw [if_pos h3]
    ·rw [if_neg h3,lv h3]
   ·rw [if_neg h2,if_pos (lb h2)]
    by_cases h3:(vis.length:Int)=(l.length:Int)
    ·rw [if_pos h3]
    ·rw [if_neg h3,lv h3]
 obtain⟨a1,a2,a3⟩:=Abr (n:=l.length) (f:=f) (vis:=vis) (q:=q);obtain⟨k,m,o⟩:=Abr (n:=l.length) (f:=f) (vis:=vis) (q:=.mk 10 [] [] [] 0 0 [q]);generalize Wt l.length f vis q=ra at *;generalize Wt l.length f vis (.mk 10 [] [] [] 0 0 [q])=rb at *
 by_cases ha:ra.2.1=0
 ·rw [if_pos ha]
  by_cases hb:rb.2.1=0
  ·rw [if_pos hb];obtain⟨t,d,hv⟩:=a3 ha;obtain⟨p,e,_⟩:=o hb;rw [decide_eq_true U];unfold Ca GM;simp only [Bool.not_true,Qz1,if_false];have hev:=Acp (n:=l.length) (g:=fun j=>vis.getD j Qq2) (AhX (f:=f) (Aeq p).1);rw [d,e,hev];exact Zb hl hv (I9 f 8 q) l.length 0 U
  ·rw [if_neg hb];exact i _ _ a1 k fun h=>⟨a2 h,m h⟩
 ·rw [if_neg ha];exact i _ _ a1 k fun h=>⟨a2 h,m h⟩
end Go.Proofs.YtekmbcbgknmhiaaGreatDoor
end
noncomputable section
namespace Go.L
open Go
theorem Pa:∀ l m:List UInt8,Lib.compareBytes l m<0↔Op.bytesLess l m=true
 | [],[]=>by simp [Lib.compareBytes,Op.bytesLess]
 | [],_::_=>by simp [Lib.compareBytes,Op.bytesLess]
 | _::_,[]=>by simp [Lib.compareBytes,Op.bytesLess]
 | a::l,b::m=>by
  have ih:=Pa l m;unfold Lib.compareBytes Op.bytesLess
  by_cases c:a<b
  ·rw [if_pos c];simp [c]
  ·rw [if_neg c]
   by_cases h2:b<a
   ·have hne:a≠b:=fun e=>by subst e;exact c h2
    rw [if_pos h2];simp [c,hne]
   ·have e:a=b:=S4 c h2;rw [if_neg h2,ih];simp [c,e]
def lcp:List UInt8->List UInt8->Nat
 | a::l,b::m=>if a=b then lcp l m+1 else 0
 | _,_=>0
section
variable (a:List UInt8)
theorem Acr:(Aah a).Perm (PO a.length):=Qkz _ _
theorem MZ:(DH a).Perm (iota a.length):=by
 unfold DH;rw [<- WQ];exact(Acr a).map _
theorem MM:(DH a).length=a.length:=by rw [(MZ a).length_eq,I6]
theorem Aeu{n:Nat}{x:Int}:x∈iota n↔0<=x/\x<n:=by
 unfold iota;rw [Qz4]
 constructor
 ·rintro⟨i,hi,rfl⟩;have:=Qz7.1 hi;omega
 ·intro h;exact⟨x.toNat,Qz7.2 U,by omega⟩
theorem V6{x:Int}:x∈DH a↔0<=x/\x<a.length:=by rw [(MZ a).mem_iff,Aeu]
theorem Aap(n:Nat):(iota n).Nodup:=by
 unfold iota List.Nodup;rw [Qkk];exact List.pairwise_lt_range.imp fun h=>by omega
theorem XZ:(DH a).Nodup:=(MZ a).symm.nodup (Aap _)
theorem RC:(DH a).Pairwise fun x y=>Lib.compareBytes (a.drop x.toNat) (a.drop y.toNat)<0:=by
 have hO:=Abn (fun x:Fin (a.length+1)=>a.drop x.val)
 have h:=QkC (le:=fun x y=>!(Go.Proofs.ltOf (K5 a)) y x) (fun x y z b h2=>by
   simp only [Bool.not_eq_true'] at *;exact hO.ntrans z y x h2 b) (fun x y=>by
   have:=KN (a.drop y.val) (a.drop x.val)
   by_cases h:Lib.compareBytes (a.drop y.val) (a.drop x.val)<0
   ·have h' : ¬ Lib.compareBytes (a.drop x.val) (a.drop y.val)<0:=by omega
    simp [Go.Proofs.ltOf,K5,h']
   ·simp [Go.Proofs.ltOf,K5,h]) (PO a.length)
 have hn:(Aah a).Nodup:=by
  have:=XZ a;unfold DH List.Nodup at this;rw [Qkk] at this;exact this.imp fun h e=>h (by rw [e])
 unfold DH;rw [Qkk];have h2:=List.Pairwise.and h hn;refine h2.imp fun {x y} ⟨h3,c⟩=>?_
 replace h3 : ¬ Lib.compareBytes (a.drop y.val) (a.drop x.val)<0:=by
  intro hc;have:Go.Proofs.ltOf (K5 a) y x=true:=by simp [Go.Proofs.ltOf,K5,hc]
  rw [this] at h3;cases h3
 simp only [Qq8];have s:=KN (a.drop x.val) (a.drop y.val)
 rcases Qkc (Lib.compareBytes (a.drop x.val) (a.drop y.val)) 0 with h | h | h
 ·exact h
 ·exact absurd (P4 a x y (decide_eq_false (show ¬ Lib.compareBytes (a.drop x.val) (a.drop y.val)<0 by omega)) (decide_eq_false h3)) c
 ·omega
end
def pre(l p:List UInt8):Bool:=decide (l.take p.length=p)
def fs(a p:List UInt8):Nat->Nat×Nat
 | 0=>(0,0)
 | k+1=>if pre (a.drop k) p then((fs a p k).1,(fs a p k).2+1) else if Op.bytesLess (a.drop k) p then((fs a p k).1+1,(fs a p k).2) else fs a p k
theorem Agu(a p:List UInt8)(k:Nat):fs a p (k+1)=if pre (a.drop k) p then((fs a p k).1,(fs a p k).2+1) else if Op.bytesLess (a.drop k) p then((fs a p k).1+1,(fs a p k).2) else fs a p k:=Z
end Go.L
end
noncomputable section
namespace Go.Proofs.YtekmbcbgknmhiaaGreatDoor
open Go Go.L
theorem Acs{a:List UInt8}(h:a.length<=2048):Kv a=some (DH a):=by
 unfold Kv;rw [Ad U];unfold La;have hst:∀ k,k<=a.length->(((iota k)++Qzz (a.length - k) 0).length=a.length):=fun k hk=>by rw [Qzu,I6,List.length_replicate];omega
 have c:=Fb (b:=Em a) (m:=some (DH a)) (fun k=>((iota k)++Qzz (a.length - k) 0,((k:Nat):Int))) a.length (fun k hk=>?_) ?_ 0
 ·simpa [iota] using c
 ·show Em a (_,_)=_
  unfold Em;dsimp only;have:=hst k U;rw [if_pos (by rw [List.length_replicate];omega),Ad (by rw [this];omega),Ad (by unfold Bw;omega),Qq8]
  congr 3
  have d:a.length - k=(a.length - (k+1))+1:=by omega
  rw [d,List.replicate_succ,List.set_append_right _ _ (by rw [I6];exact Qzx _),I6,Nat.sub_self,List.set_cons_zero];unfold iota;rw [Qx2,Qxd,QxZ]
  rfl
 ·show Em a (_,_)=_
  unfold Em Iu;dsimp only;rw [if_neg (by rw [List.length_replicate];omega),Nat.sub_self,List.replicate_zero,QzZ,Ad ⟨Z,by omega⟩]
theorem Acu(a:List UInt8):Kw a=some (if a.length<=2048 then(DH a,(0,0)) else([],(3,-1))):=by
 unfold Kw
 by_cases h:a.length<=2048
 ·rw [if_neg U,if_pos h,Acs h];rfl
 ·rw [if_pos U,if_neg h];rfl
end Go.Proofs.YtekmbcbgknmhiaaGreatDoor
end
noncomputable section
namespace Go.L
open Go
theorem V7(c d:UInt8)(p l:List UInt8):pre (d::l) (c::p)=(decide (d=c)&&pre l p):=by
 unfold pre;simp only [Qzj,List.take_succ_cons,List.cons.injEq];rw [QzD];simp
theorem pre_nil(l:List UInt8):pre l []=true:=by simp [pre]
theorem SC(c:UInt8)(p:List UInt8):pre [] (c::p)=false:=by simp [pre]
theorem SD:∀ (p x:List UInt8),pre x p=true->Op.bytesLess x p=false
 | [],x,_=>by cases x <;> rfl
 | c::p,[],h=>by rw [SC] at h;cases h
 | c::p,d::x,h=>by
  rw [V7] at h;simp only [Qzb,decide_eq_true_eq] at h;obtain⟨rfl,h⟩:=h;have:=SD p x h;have hd : ¬ d<d:=fun h=>by have:=Qxf.1 h;omega
  simp [Op.bytesLess,this,hd]
theorem TQ:∀ (p x y:List UInt8),Op.bytesLess x p=false->Op.bytesLess x y=true->pre y p=true->pre x p=true
 | [],x,_,_,_,_=>pre_nil x
 | c::p,[],_,h,_,_=>by simp [Op.bytesLess] at h
 | c::p,_::_,[],_,_,h=>by rw [SC] at h;cases h
 | c::p,d::x,e::y,a,h2,h3=>by
  rw [V7] at h3 ⊢;simp only [Qzb,decide_eq_true_eq] at h3;obtain⟨rfl,h3⟩:=h3;simp only [Op.bytesLess,Bool.or_eq_false_iff,Bool.and_eq_false_iff,Qz9,Qzb,decide_eq_true_eq,decide_eq_false_iff_not,beq_iff_eq] at a h2
  rcases h2 with h2 | ⟨rfl,h2⟩
  ·exact absurd h2 a.1
  ·have b:Op.bytesLess x p=false:=by
    rcases a.2 with h | h
    ·simp at h
    ·exact h
   simp [TQ p x y b h2 h3]
def cls(p l:List UInt8):Nat:=if pre l p then 1 else if Op.bytesLess l p then 0 else 2
theorem Zc{p x y:List UInt8}(h:Lib.compareBytes x y<0):cls p x<=cls p y:=by
 have hxy:=(Pa x y).1 h;unfold cls
 by_cases hy:pre y p=true
 ·rw [if_pos hy]
  by_cases hx:pre x p=true
  ·rw [if_pos hx];exact Qzx _
  ·rw [if_neg hx]
   by_cases hl:Op.bytesLess x p=true
   ·rw [if_pos hl];omega
   ·exact absurd (TQ p x y (by simpa using hl) hxy hy) hx
 ·rw [if_neg hy]
  by_cases hl:Op.bytesLess y p=true
  ·have hxp:Op.bytesLess x p=true:=(Pa _ _).1 (N9 _ _ _ h ((Pa _ _).2 hl));have hx : ¬ pre x p=true:=fun hx=>by rw [SD p x hx] at hxp;cases hxp
   rw [if_neg hx,if_pos hxp];omega
  ·rw [if_neg hl]
   split
   ·omega
   ·split <;> omega
theorem Rj:∀ (l:List Nat) (c i:Nat),l.Pairwise (·<=·)->i<l.length->(l.getD i 0<c↔i<l.countP (· < c))
 | [],_,_,_,h=>by cases h
 | x::l,c,i,hp,hi=>by
  have hq:=Qz0.1 hp
  by_cases hx:x<c
  ·rw [List.countP_cons_of_pos (by simpa using hx)]
   cases i with
   | zero=>simp [hx]
   | succ i=>
    have:=Rj l c i hq.2 (by simpa using hi);simp only [List.getD_cons_succ];omega
  ·rw [List.countP_cons_of_neg (by simpa using hx)]
   have a:l.countP (· < c)=0:=by
    rw [QkK];intro y hy;have:=hq.1 y hy;simp;omega
   rw [a]
   cases i with
   | zero=>simp [hx]
   | succ i=>
    simp only [Qzj] at hi
    have hm:l.getD i 0∈l:=by
     rw [Qq9,Qzw U];exact Qxx _
    have:=hq.1 _ hm;simp only [List.getD_cons_succ];omega
theorem Acv(n:Nat):iota (n+1)=iota n++[(n:Int)]:=by simp [iota,Qx2]
theorem Zd(a p:List UInt8):∀ k,((iota k).map fun x=>cls p (a.drop x.toNat)).countP (· < 1)=(fs a p k).1/\((iota k).map fun x=>cls p (a.drop x.toNat)).countP (· < 2)=(fs a p k).1+(fs a p k).2
 | 0=>by simp [iota,fs]
 | k+1=>by
  obtain⟨b,h2⟩:=Zd a p k;rw [Acv,Qxd,Qke,Qke,b,h2,Agu];simp only [Qzd,List.map_nil,Qk7,Qq8];unfold cls
  by_cases hp:pre (a.drop k) p=true
  ·rw [if_pos hp,if_pos hp];simp;omega
  ·rw [if_neg hp,if_neg hp]
   by_cases hl:Op.bytesLess (a.drop k) p=true
   ·rw [if_pos hl,if_pos hl];simp;omega
   ·rw [if_neg hl,if_neg hl];simp
theorem found(a p:List UInt8){i:Nat}(hi:i<a.length):pre (a.drop ((DH a).getD i Qq2).toNat) p=decide ((fs a p a.length).1<=i/\i<(fs a p a.length).1+(fs a p a.length).2):=by
 have hlen:i<((DH a).map fun x=>cls p (a.drop x.toNat)).length:=by rw [Qzk,MM];exact hi
 have hasc:((DH a).map fun x=>cls p (a.drop x.toNat)).Pairwise (·<=·):=by
  rw [Qkk];exact(RC a).imp fun h=>Zc h
 have hperm:=(MZ a).map fun x=>cls p (a.drop x.toNat);obtain⟨c1,c2⟩:=Zd a p a.length;have a1:=Rj _ 1 i hasc hlen;have a2:=Rj _ 2 i hasc hlen;rw [hperm.countP_eq,c1] at a1;rw [hperm.countP_eq,c2] at a2
 have hg:((DH a).map fun x=>cls p (a.drop x.toNat)).getD i 0=cls p (a.drop ((DH a).getD i Qq2).toNat):=by
  rw [Qq9,Qzw hlen,Qq9,Qzw (by rw [MM];exact hi)];simp
 rw [hg] at a1 a2;rw [QzD,decide_eq_true_eq]
 have hc:pre (a.drop ((DH a).getD i Qq2).toNat) p=true↔¬ cls p (a.drop ((DH a).getD i Qq2).toNat)<1/\cls p (a.drop ((DH a).getD i Qq2).toNat)<2:=by
  generalize a.drop ((DH a).getD i Qq2).toNat=l;unfold cls
  by_cases hp:pre l p=true
  ·rw [if_pos hp];simp [hp]
  ·rw [if_neg hp]
   split <;> simp [hp]
 rw [hc,a1,a2];omega
def rmx(a:List UInt8)(i:Nat):Nat->Nat
 | 0=>0
 | k+1=>max (rmx a i k) (lcp (a.drop i) (a.drop (i+1+k)))
def tw(a:List UInt8):Nat->Nat×Nat
 | 0=>(0,0)
 | k+1=>if(tw a k).2<rmx a k (a.length - (k+1)) then(k,rmx a k (a.length - (k+1))) else tw a k
theorem V8(x y:UInt8)(l m:List UInt8):Lib.compareBytes (x::l) (y::m)<0↔x.toNat<y.toNat\/x.toNat=y.toNat/\Lib.compareBytes l m<0:=by
 show(if x<y then(-1:Int) else if y<x then 1 else Lib.compareBytes l m)<0↔_
 by_cases a:x<y
 ·rw [if_pos a];have:=Qxf.1 a;exact⟨fun _=>.inl this,fun _=>by decide⟩
 ·rw [if_neg a];have h1' : ¬ x.toNat<y.toNat:=fun h=>a (Qxf.2 h)
  by_cases h2:y<x
  ·rw [if_pos h2];have:=Qxf.1 h2;exact⟨fun h=>absurd h Qqc,fun h=>by omega⟩
  ·rw [if_neg h2];have h2' : ¬ y.toNat<x.toNat:=fun h=>h2 (Qxf.2 h);exact⟨fun h=>.inr ⟨by omega,h⟩,fun h=>by rcases h with h | h;exact absurd h h1';exact h.2⟩
def lt(a:List UInt8)(x y:Nat):Bool:=decide (Lib.compareBytes (a.drop x) (a.drop y)<0)
theorem Ya(a:List UInt8)(x:Nat):lt a x x=false:=by
 unfold lt;rw [Vs];decide
theorem Aev{a:List UInt8}{x y:Nat}(h:lt a x y=true):lt a y x=false:=by
 unfold lt at *;have:=of_decide_eq_true h;have:=KN (a.drop x) (a.drop y);exact decide_eq_false U
def op(a:List UInt8):List Nat:=a.length::(DH a).map Int.toNat
theorem Fj(a:List UInt8):(op a).length=a.length+1:=by simp [op,MM]
theorem SE(a:List UInt8):(op a).Perm (Qzv (a.length+1)):=by
 have h:=(MZ a).map Int.toNat
 have e:(iota a.length).map Int.toNat=Qzv a.length:=by
  unfold iota;rw [Qx0]
  conv=>rhs;rw [<- List.map_id (Qzv a.length)]
  rfl
 rw [e] at h;unfold op;rw [Qx2];exact(h.cons a.length).trans (List.perm_append_comm (l₁:=[a.length]))
theorem Tw(a:List UInt8):(op a).Pairwise fun x y=>lt a x y=true:=by
 unfold op;refine Qz0.2 ⟨fun y hy=>?_,?_⟩
 ·obtain⟨z,hz,rfl⟩:=Qz4.1 hy;have hz:=(V6 a).1 hz;unfold lt;rw [List.drop_length]
  cases hd:a.drop z.toNat with
  | nil=>have:=congrArg Qxy hd;rw [QzJ] at this;simp at this;omega
  | cons b l=>rfl
 ·rw [Qkk];exact(RC a).imp fun h=>decide_eq_true h
theorem V9{α:Type}(f:α->α->Bool)(irr:∀ x,f x x=false)(asy:∀ x y,f x y=true->f y x=false):∀ (l:List α),l.Pairwise (fun x y=>f x y=true)->∀ r (h:r<l.length),l.countP (fun x=>f x l[r])=r
 | x::l,hp,0,_=>by
  have hx:=(Qz0.1 hp).1;simp only [List.getElem_cons_zero,Qx3,irr];rw [QkK.2 (fun y hy=>by rw [asy _ _ (hx y hy)];decide)]
  rfl
 | x::l,hp,r+1,h=>by
  have h':r<l.length:=by simpa using h
  have hx:=(Qz0.1 hp).1;have ih:=V9 f irr asy l (Qz0.1 hp).2 r h';simp only [List.getElem_cons_succ,Qx3,ih,hx l[r] (Qxx h')]
  rfl
theorem Agv(a:List UInt8){r:Nat}(h:r<(op a).length):(op a).countP (fun x=>lt a x (op a)[r])=r:=V9 (lt a) (Ya a) (fun _ _=>Aev) _ (Tw a) r h
theorem WZ(a:List UInt8){r:Nat}(h:r<(op a).length):(op a)[r]<=a.length:=by
 have:=(SE a).mem_iff.1 (Qxx h);have:=Qz7.1 this;omega
theorem Abu{a:List UInt8}{p:Nat}(h:p<=a.length):∃ r,∃ hr:r<(op a).length,(op a)[r]=p:=by
 have hm:p∈op a:=(SE a).mem_iff.2 (Qz7.2 U);obtain⟨r,hr,e⟩:=List.getElem_of_mem hm;exact⟨r,hr,e⟩
theorem Aew(a:List UInt8){k r:Nat}(hk:k<(op a).length)(hr:r<(op a).length):lt a (op a)[k] (op a)[r]=true↔k<r:=by
 have hp:=Qjk.1 (Tw a)
 rcases Nat.lt_trichotomy k r with h | h | h
 ·exact⟨fun _=>h,fun _=>hp k r hk hr h⟩
 ·subst h;rw [Ya];exact⟨fun h=>(by cases h),fun h=>by omega⟩
 ·rw [Aev (hp r k hr hk h)];exact⟨fun h=>(by cases h),fun h=>by omega⟩
theorem Aex{a:List UInt8}{k r:Nat}(hk:k<(op a).length)(hr:r<(op a).length)(h:(op a)[k]=(op a)[r]):k=r:=by
 have b:=Aew a hk hr;have h2:=Aew a hr hk;rw [h,Ya] at b;rw [h,Ya] at h2;simp only [Qz1,false_iff] at b h2;omega
def ID(a:List UInt8)(q:Nat):Int:=if q=0 then -1 else((a.getD (q - 1) Qq2).toNat:Int)
def sym(a:List UInt8):List Int:=(op a).map (ID a)
theorem EZ(a:List UInt8):(sym a).length=a.length+1:=by rw [sym,Qzk,Fj]
theorem MN(a:List UInt8){r:Nat}(h:r<(op a).length):(sym a).getD r Qq2=ID a (op a)[r]:=by
 unfold sym;rw [Qq9,Qxv,Qzw h];rfl
theorem N4(a:List UInt8)(q:Nat):0<=ID a q↔1<=q:=by unfold ID;split <;> omega
theorem Aey(a:List UInt8)(q:Nat):ID a q<256:=by
 unfold ID;split
 ·omega
 ·have:=(a.getD (q - 1) Qq2).toNat_lt;omega
theorem Lo{a:List UInt8}{q:Nat}(b:1<=q)(h:q<=a.length):a.drop (q - 1)=a.getD (q - 1) Qq2::a.drop q:=by
 rw [List.drop_eq_getElem_cons (by omega:q - 1<a.length),Qq9,Qzw (by omega:q - 1<a.length),show q - 1+1=q by omega];rfl
def Ze(s:List Int)(r:Nat):Nat:=1+(Qzv s.length).countP fun k=>decide (0<=s.getD k Qq2/\(s.getD k Qq2<s.getD r Qq2\/s.getD k Qq2=s.getD r Qq2/\k<r))
def QJ(s:List Int):List Int:=(Qzv s.length).map fun r=>if s.getD r Qq2<0 then 0 else(Ze s r:Int)
theorem Zf(s:List Int):(QJ s).length=s.length:=by simp [QJ]
theorem VA(s:List Int){r:Nat}(h:r<s.length):(QJ s).getD r Qq2=if s.getD r Qq2<0 then 0 else(Ze s r:Int):=by
 unfold QJ;rw [Qq9,Qxv,QkD h];rfl
theorem Acw{α β:Type}[Inhabited β](l:List α)(d:α)(f:α->Bool):(Qzv l.length).countP (fun k=>f (l.getD k d))=l.countP f:=by
 have e:l=(Qzv l.length).map fun k=>l.getD k d:=by
  apply List.ext_getElem
  ·simp
  ·intro k a h2;rw [List.getElem_map,List.getElem_range,Qq9,Qzw a];rfl
 conv=>rhs;rw [e,List.countP_map]
 rfl
theorem Xa(a:List UInt8)(g:Nat->Bool):(Qzv (sym a).length).countP (fun k=>g ((op a).getD k 0))=(Qzv (a.length+1)).countP g:=by
 have h:=Acw (β:=Nat) (op a) 0 g;rw [Fj] at h;rw [EZ,h,(SE a).countP_eq]
theorem SF(n:Nat)(g:Nat->Bool)(a:g 0=false):(Qzv (n+1)).countP g=(Qzv n).countP fun q=>g (q+1):=by
 rw [List.range_succ_eq_map,Qx3,List.countP_map,a];rfl
theorem opD{a:List UInt8}{k:Nat}(h:k<(op a).length):(op a).getD k 0=(op a)[k]:=by rw [Qq9,Qzw h];rfl
theorem Agw{a:List UInt8}{r r':Nat}(hr:r<(op a).length)(hr':r'<(op a).length)(hp:(op a)[r]=(op a)[r']+1):Ze (sym a) r=r':=by
 have hle:=WZ a hr;generalize hq':(op a)[r']=p' at *;have d:(op a).countP (fun x=>lt a x p')=r':=by have:=Agv a hr';rw [hq'] at this;exact this
 rw [(SE a).countP_eq,Qx2,Qke,Qk7] at d
 have hend:lt a a.length p'=true:=by
  unfold lt;rw [List.drop_length]
  cases hd:a.drop p' with
  | nil=>have:=congrArg Qxy hd;rw [QzJ] at this;simp at this;omega
  | cons b l=>rfl
 rw [hend,if_pos Z] at d
 have e:(Qzv (sym a).length).countP (fun k=>decide (0<=(sym a).getD k Qq2/\((sym a).getD k Qq2<(sym a).getD r Qq2\/(sym a).getD k Qq2=(sym a).getD r Qq2/\k<r)))=(Qzv (sym a).length).countP (fun k=>(fun q=>decide (1<=q)&&lt a (q - 1) p') ((op a).getD k 0)):=by
  apply Qk1;intro k hk;have hk:k<(op a).length:=by have:=Qz7.1 hk;rw [EZ] at this;rw [Fj];exact this
  have hkl:=WZ a hk;rw [MN a hk,MN a hr,opD hk,hp];have hlt:=Aew a hk hr;rw [hp] at hlt;generalize (op a)[k]=q at *;simp only [decide_eq_true_eq,Qzb];rw [N4,<- hlt];rw [hp] at hle
  constructor
  ·rintro⟨c,h2⟩;refine⟨c,?_⟩;have hd:=Lo c hkl;have hd':=Lo (q:=p'+1) U hle;rw [Qkx] at hd';unfold lt;rw [hd,hd'];refine decide_eq_true ((V8 _ _ _ _).2 ?_);unfold ID at h2;rw [if_neg U,if_neg U,Qkx] at h2
   rcases h2 with h2 | ⟨h2,h3⟩
   ·exact .inl U
   ·exact .inr ⟨by omega,of_decide_eq_true h3⟩
  ·rintro⟨c,h2⟩;refine⟨c,?_⟩;have hd:=Lo c hkl;have hd':=Lo (q:=p'+1) U hle;rw [Qkx] at hd';unfold lt at h2;rw [hd,hd'] at h2;unfold ID;rw [if_neg U,if_neg U,Qkx]
   rcases(V8 _ _ _ _).1 (of_decide_eq_true h2) with h | ⟨h,h'⟩
   ·exact .inl U
   ·exact .inr ⟨by omega,decide_eq_true h'⟩
 unfold Ze;rw [e,Xa a (fun q=>decide (1<=q)&&lt a (q - 1) p'),SF _ _ Qqd]
 have f:(Qzv a.length).countP (fun q=>decide (1<=q+1)&&lt a (q+1 - 1) p')=(Qzv a.length).countP (fun x=>lt a x p'):=by
  apply Qk1;intro k _;simp
 rw [f];omega
end Go.L
end
noncomputable section
namespace Go.L
open Go
def Xb(s:List Int)(c:Int)(k r:Nat):Bool:=decide (0<=s.getD r Qq2/\(s.getD r Qq2<c\/s.getD r Qq2=c/\r<k))
def LB(s:List Int)(c:Int)(k:Nat):List Int:=(Qzv s.length).map fun r=>if Xb s c k r then(Ze s r:Int) else 0
def NX(s:List Int)(c:Int)(k:Nat):Nat:=1+(Qzv s.length).countP (Xb s c k)
theorem Pb(s:List Int)(c:Int)(k:Nat):(LB s c k).length=s.length:=by simp [LB]
theorem AiK(s:List Int)(c:Int)(k:Nat):NX s c k<=1+s.length:=by
 unfold NX;have:=Qk8 (p:=Xb s c k) (l:=Qzv s.length);rw [QxB] at this;omega
theorem AhZ{s:List Int}{k:Nat}:NX s (s.getD k Qq2) k=Ze s k:=Z
theorem Zg(s:List Int){c:Int}(hc:0<=c)(k r:Nat):Xb s c (k+1) r=(Xb s c k r||decide (r=k/\s.getD k Qq2=c)):=by
 unfold Xb;rw [QzD];simp only [Qz9,decide_eq_true_eq]
 constructor
 ·rintro⟨a,h2 | ⟨h2,h3⟩⟩
  ·exact .inl ⟨a,.inl h2⟩
  ·by_cases h:r=k
   ·subst h;exact .inr ⟨Z,h2⟩
   ·exact .inl ⟨a,.inr ⟨h2,by omega⟩⟩
 ·rintro(⟨a,h2 | ⟨h2,h3⟩⟩ | ⟨rfl,h⟩)
  ·exact⟨a,.inl h2⟩
  ·exact⟨a,.inr ⟨h2,by omega⟩⟩
  ·exact⟨by omega,.inr ⟨h,by omega⟩⟩
theorem Abv{s:List Int}{c:Int}(hc:0<=c){k:Nat}(hk:k<s.length):LB s c (k+1)=if s.getD k Qq2=c then(LB s c k).set k (NX s c k) else LB s c k:=by
 apply Qkb;intro r
 by_cases hr:r<s.length
 ·have b:(LB s c (k+1))[r]? = some (if Xb s c (k+1) r then(Ze s r:Int) else 0):=by simp [LB,hr]
  have a:(LB s c k)[r]? = some (if Xb s c k r then(Ze s r:Int) else 0):=by simp [LB,hr]
  rw [b,Zg s hc]
  by_cases h:s.getD k Qq2=c
  ·rw [if_pos h,List.getElem?_set,Pb,a]
   by_cases hkr:k=r
   ·subst hkr;rw [if_pos Z,if_pos hk];have:(Xb s c k k||decide (k=k/\s.getD k Qq2=c))=true:=by rw [decide_eq_true (⟨Z,h⟩:k=k/\s.getD k Qq2=c),Bool.or_true]
    rw [this,if_pos Z,<- AhZ,h]
   ·rw [if_neg hkr];have:decide (r=k/\s.getD k Qq2=c)=false:=decide_eq_false (fun e=>hkr e.1.symm);rw [this,Bool.or_false]
  ·rw [if_neg h,a];have:decide (r=k/\s.getD k Qq2=c)=false:=decide_eq_false (fun e=>h e.2);rw [this,Bool.or_false]
 ·rw [Qxe (by rw [Pb];omega)]
  split
  ·rw [Qxe (by rw [QkQ,Pb];omega)]
  ·rw [Qxe (by rw [Pb];omega)]
theorem Abw{s:List Int}{c:Int}(hc:0<=c){k:Nat}(hk:k<s.length):NX s c (k+1)=if s.getD k Qq2=c then NX s c k+1 else NX s c k:=by
 unfold NX
 have e:(Qzv s.length).countP (Xb s c (k+1))=(Qzv s.length).countP (Xb s c k)+(Qzv s.length).countP (fun r=>decide (r=k/\s.getD k Qq2=c)):=by
  generalize Qzv s.length=l
  induction l with
  | nil=>rfl
  | cons r l ih=>
   rw [Qx3,Qx3,Qx3,ih,Zg s hc]
   by_cases h:r=k/\s.getD k Qq2=c
   ·have h2:Xb s c k r=false:=by
     unfold Xb;rw [h.1,h.2];exact decide_eq_false U
    rw [h2,decide_eq_true h];simp only [Bool.or_true,if_true,Qz1,if_false];omega
   ·rw [decide_eq_false h,Bool.or_false];simp only [Qz1,if_false];omega
 rw [e]
 by_cases h:s.getD k Qq2=c
 ·rw [if_pos h]
  have:(Qzv s.length).countP (fun r=>decide (r=k/\s.getD k Qq2=c))=1:=by
   have a:(Qzv s.length).countP (fun r=>decide (r=k/\s.getD k Qq2=c))=(Qzv s.length).count k:=by
    unfold List.count;apply Qk1;intro r _;rw [decide_eq_true_eq,beq_iff_eq];exact⟨fun e=>e.1,fun e=>⟨e,h⟩⟩
   rw [a,List.nodup_range.count,if_pos (Qz7.2 hk)]
  omega
 ·rw [if_neg h];have:(Qzv s.length).countP (fun r=>decide (r=k/\s.getD k Qq2=c))=0:=QkK.2 (fun r _=>by rw [decide_eq_false (fun e:r=k/\s.getD k Qq2=c=>h e.2)];decide);omega
theorem Zh(s:List Int)(c:Int){r:Nat}(hr:r<s.length):Xb s c s.length r=Xb s (c+1) 0 r:=by
 unfold Xb;rw [QzD];simp only [decide_eq_true_eq];omega
theorem Agx(s:List Int)(c:Int):LB s c s.length=LB s (c+1) 0:=by
 unfold LB;apply Qkq;intro r hr;rw [Zh s c (Qz7.1 hr)]
theorem Agy(s:List Int)(c:Int):NX s c s.length=NX s (c+1) 0:=by
 unfold NX;rw [Qk1 fun r hr=>by rw [Zh s c (Qz7.1 hr)]]
theorem Agz(s:List Int):LB s 0 0=Qzz s.length 0:=by
 unfold LB
 rw [Qkq (g:=fun _=>(0:Int)) (fun r _=>by
  have:Xb s 0 0 r=false:=decide_eq_false U;rw [this];rfl)]
 rw [List.map_const',QxB]
theorem Ag0(s:List Int):NX s 0 0=1:=by
 unfold NX
 rw [QkK.2 (fun r _=>by
  have:Xb s 0 0 r=false:=decide_eq_false U;rw [this];decide)]
theorem Aia{s:List Int}(h:∀ r,r<s.length->s.getD r Qq2<256):LB s 256 0=QJ s:=by
 unfold LB QJ;apply Qkq;intro r hr;have:=h r (Qz7.1 hr)
 by_cases a:s.getD r Qq2<0
 ·have e:Xb s 256 0 r=false:=decide_eq_false U;rw [e,if_pos a];rfl
 ·have e:Xb s 256 0 r=true:=decide_eq_true U;rw [e,if_neg a];rfl
def wlk(s B:List Int):Nat->List Int->Nat->(List Int×List Int×List Int)×Bool
 | 0,A,r=>((s,B,A.set r 0),decide (s.getD r Qq2 = -1))
 | i+1,A,r=>if s.getD r Qq2 = -1 then(([],[],[]),false) else wlk s B i (A.set r ((i+1:Nat):Int)) (B.getD r Qq2).toNat
end Go.L
namespace Go.Proofs.YtekmbcbgknmhiaaGreatDoor
open Go Go.L
theorem Aaq{s:List Int}{c:Nat}(hl:s.length<=2049)(hc:c<256):
  Hw s (c:Int) (LB s c 0,(NX s c 0:Int),0)=some (.inl (LB s ((c+1:Nat):Int) 0,(NX s ((c+1:Nat):Int) 0:Int),((c+1:Nat):Int))):=by
 have a:(0:Int)<=(c:Int):=by omega
 refine Fb (b:=Di s (c:Int)) (fun k=>(LB s c k,(NX s c k:Int),(k:Int))) s.length (fun k hk=>?_) ?_ 0
 ·unfold Di;simp only;have:=AiK s c k;rw [if_pos U,Ad U,Qq8]
  by_cases h:s.getD k Qq2=(c:Int)
  ·rw [if_pos h,Ad (by rw [Pb];omega),Ad (by constructor <;> omega),Ad (by constructor <;> omega),Abv a hk,if_pos h,Abw a hk,if_pos h]
   rfl
  ·rw [if_neg h,Ad (by constructor <;> omega),Abv a hk,if_neg h,Abw a hk,if_neg h]
   rfl
 ·unfold Di;simp only;rw [if_neg U];unfold F8;rw [Ad (by constructor <;> omega),Agx,Agy]
  rfl
theorem Xc{s B:List Int}(hl:s.length<=2049)(hB:B.length=s.length)(hr:∀ r,r<s.length->0<=B.getD r Qq2/\B.getD r Qq2<s.length):∀ (i:Nat) (A:List Int) (r:Nat),i<=s.length->A.length=s.length->r<s.length->
  FB s s B (A,(r:Int),(i:Int))=some (wlk s B i A r)
 | 0,A,r,_,hA,h=>by
  refine AQ (b:=C4 s s B) (m:=some _) ?_;unfold C4;simp only;rw [if_neg U];unfold FA F9;rw [Ad U,Ad U,Qq8]
  rfl
 | i+1,A,r,hi,hA,h=>by
  have hb:C4 s s B (A,(r:Int),((i+1:Nat):Int))=if s.getD r Qq2 = -1 then some (.inr (([],[],[]),false)) else some (.inl (A.set r ((i+1:Nat):Int),(((B.getD r Qq2).toNat:Nat):Int),(i:Int))):=by
   unfold C4;simp only;rw [if_pos U,Ad U,Ad U,Qq8]
   split
   ·rfl
   ·rw [Ad U,Ad (by constructor <;> omega),Int.toNat_of_nonneg (hr r h).1,show((i+1:Nat):Int) - 1=(i:Int) by omega]
  unfold FB wlk
  by_cases a:s.getD r Qq2 = -1
  ·rw [if_pos a] at hb ⊢;exact AQ (m:=some _) hb
  ·rw [if_neg a] at hb ⊢;rw [Bg hb];have:=hr r h;exact Xc hl hB hr i _ _ U (by rw [QkQ];exact hA) U
theorem Aez{s:List Int}(a:0<s.length)(hl:s.length<=2049)(hs:∀ r,r<s.length->s.getD r Qq2<256)(hr:∀ r,r<s.length->(QJ s).getD r Qq2<s.length):
  Ey s=some (wlk s (QJ s) (s.length - 1) (Qzz s.length 0) 0):=by
 have e:((s.length:Int) - 1+1).toNat=s.length:=by omega
 unfold Ey;rw [Ad (by constructor <;> omega),Ad (by constructor <;> omega),Ad (by constructor <;> omega),Ad U,Ad U,e];unfold FD;have hpos:∀ r,r<s.length->0<=(QJ s).getD r Qq2/\(QJ s).getD r Qq2<s.length:=fun r h=>⟨by rw [VA s h];split <;> omega,hr r h⟩
 have key:=Fb (b:=Dj s s (Qzz s.length 0)) (m:=some (wlk s (QJ s) (s.length - 1) (Qzz s.length 0) 0)) (fun c=>(LB s c 0,(NX s c 0:Int),(c:Int))) 256 (fun c hc=>by
  unfold Dj;simp only;rw [if_pos U];exact Aaq hl hc) (by
  unfold Dj;simp only;rw [if_neg U];unfold FC;have:=Xc hl (Zf s) hpos (s.length - 1) (Qzz s.length 0) 0 U Qqd a;rw [show LB s ((256:Nat):Int) 0=QJ s from Aia hs];rw [show(s.length:Int) - 1=((s.length - 1:Nat):Int) by omega];exact congrArg (Qq7 Sum.inr) this) 0 (hi:=(by omega))
 rw [show LB s ((0:Nat):Int) 0=Qzz s.length 0 from Agz s,show NX s ((0:Nat):Int) 0=1 from Ag0 s] at key;exact key
end Go.Proofs.YtekmbcbgknmhiaaGreatDoor
end
noncomputable section
namespace Go.L
open Go
theorem Zi{a:List UInt8}{r r':Nat}(hr:r<(op a).length)(hr':r'<(op a).length)(hp:(op a)[r]=(op a)[r']+1):(QJ (sym a)).getD r Qq2=(r':Int):=by
 rw [VA _ (by rw [EZ,<- Fj];exact hr),MN a hr];have h:0<=ID a (op a)[r]:=(N4 a _).2 U;rw [if_neg U,Agw hr hr' hp]
theorem Ag1{a:List UInt8}{r:Nat}(h:r<(sym a).length):(QJ (sym a)).getD r Qq2<(sym a).length:=by
 have hr:r<(op a).length:=by rw [Fj,<- EZ];exact h
 by_cases b:(op a)[r]=0
 ·rw [VA _ h,MN a hr,b];have:ID a 0<0:=by unfold ID;rw [if_pos Z];decide
  rw [if_pos this];omega
 ·have hle:=WZ a hr;obtain⟨r',hr',e⟩:=Abu (a:=a) (p:=(op a)[r] - 1) U;rw [Zi hr hr' U];rw [Fj,<- EZ] at hr';omega
theorem Aib{a:List UInt8}{r:Nat}(h:r<(sym a).length):(sym a).getD r Qq2<256:=by
 rw [MN a (by rw [Fj,<- EZ];exact h)];exact Aey a _
def opI(a:List UInt8):List Int:=(op a).map fun x:Nat=>(x:Int)
theorem VB(a:List UInt8):(opI a).length=a.length+1:=by rw [opI,Qzk,Fj]
theorem Zj(a:List UInt8):∀ (p:Nat) (A:List Int) (r:Nat) (hr:r<(op a).length),(op a)[r]=p->A.length=a.length+1->(∀ k (hk:k<(op a).length),p<(op a)[k]->A[k]? = some (((op a)[k]:Nat):Int))->
  wlk (sym a) (QJ (sym a)) p A r=((sym a,QJ (sym a),opI a),true)
 | 0,A,r,hr,hp,hA,hk=>by
  have d:A.set r 0=opI a:=by
   apply Qkb;intro k
   by_cases hkl:k<(op a).length
   ·have e:(opI a)[k]? = some (((op a)[k]:Nat):Int):=by simp [opI,hkl]
    rw [List.getElem?_set,e]
    by_cases h:r=k
    ·subst h;rw [if_pos Z,if_pos (by rw [hA,<- Fj];exact hr),hp];rfl
    ·rw [if_neg h];refine hk k hkl (Nat.pos_of_ne_zero fun f=>h (Aex hr hkl (by rw [hp,f])))
   ·rw [Qxe (by rw [QkQ,hA,<- Fj];omega),Qxe (by rw [VB,<- Fj];omega)]
  unfold wlk;rw [d,MN a hr,hp]
  rfl
 | p+1,A,r,hr,hp,hA,hk=>by
  have hle:=WZ a hr;obtain⟨r',hr',e⟩:=Abu (a:=a) (p:=p) U;have hn:0<=ID a (p+1):=(N4 a _).2 U;unfold wlk;rw [MN a hr,hp,if_neg U,Zi hr hr' U,Qq8];refine Zj a p _ r' hr' e (by rw [QkQ];exact hA) fun k b g=>?_;rw [List.getElem?_set]
  by_cases h:r=k
  ·subst h;rw [if_pos Z,if_pos (by rw [hA,<- Fj];exact hr),hp]
  ·rw [if_neg h];refine hk k b ?_
   rcases Qxk (p+1) (op a)[k] with c | c
   ·exact c
   ·exact absurd (Aex hr b U) h
theorem Ag2(a:List UInt8):(op a)[0]'(by rw [Fj];omega)=a.length:=Z
def idx(a:List UInt8):List Int×List Int×List Int:=(sym a,QJ (sym a),opI a)
end Go.L
namespace Go.Proofs.YtekmbcbgknmhiaaGreatDoor
open Go Go.L
theorem Acx{a:List UInt8}(h:a.length<=2048):Ey (sym a)=some (idx a,true):=by
 rw [Aez (by rw [EZ];omega) (by rw [EZ];omega) (fun _=>Aib) (fun _=>Ag1),EZ,Qkx];rw [Zj a a.length _ 0 (by rw [Fj];omega) (Ag2 a) Qqd (fun k hk h=>by have:=WZ a hk;omega)]
 rfl
theorem Ag3{x:Int}{l:List Int}(h:l.length<=2048):E9 [[x],l]=some (x::l):=by
 have a:∀ s:Int×Int,G3 [[x],l] s=Go.L.run (BB [[x],l]) s:=fun _=>Z;have hn:(([[x],l]:List (List Int)).length:Int)=2:=Z;have b:∀ s:List Int×Int,EI [[x],l] s=Go.L.run (BA [[x],l]) s:=fun _=>Z
 have a1:BB [[x],l] (0,0)=some (.inl (1,1)):=by
  unfold BB;rfl
 have a2:BB [[x],l] (1,1)=some (.inl (1+(l.length:Int),2)):=by
  unfold BB;simp only;have e:([[x],l]:List (List Int)).getD (1:Int).toNat Qq2=l:=Z;rw [hn,if_pos Qqc,Ad Qqc,e,Ad (by constructor <;> omega),if_neg U,Ad (by constructor <;> omega)]
  rfl
 have c:BA [[x],l] ([],0)=some (.inl ([x],1)):=by
  unfold BA;rfl
 have d:BA [[x],l] ([x],1)=some (.inl (x::l,2)):=by
  unfold BA;simp only;have e:([[x],l]:List (List Int)).getD (1:Int).toNat Qq2=l:=Z;rw [hn,if_pos Qqc,Ad Qqc,e,Ad (by simp only [QxD];constructor <;> omega),Ad Qqc]
  rfl
 have f:BA [[x],l] (x::l,2)=(some (x::l)).map .inr:=by
  unfold BA;simp only;rw [hn,if_neg Qqc];rfl
 have a3:BB [[x],l] (1+(l.length:Int),2)=(some (x::l)).map .inr:=by
  unfold BB;simp only;rw [hn,if_neg Qqc];unfold EJ Hi FE;rw [if_neg U,Ad Qqc,Ad (by constructor <;> omega),if_pos U,Ad U]
  show Qq7 Sum.inr (EI [[x],l] ([],0))=_
  rw [b,Bg c,Bg d,AQ f]
 unfold E9;rw [a,Bg a1,Bg a2,AQ a3]
theorem Ae0(a:List UInt8):opI a=(a.length:Int)::DH a:=by
 unfold opI op;rw [Qzd,Qx0]
 congr 1
 conv=>rhs;rw [<- List.map_id (DH a)]
 apply Qkq;intro x hx;have:=(V6 a).1 hx
 show((x.toNat:Nat):Int)=x
 omega
theorem Ag4(a:List UInt8){r:Nat}(h:r<(op a).length):(opI a).getD r Qq2=(((op a)[r]:Nat):Int):=by
 unfold opI;rw [Qq9,Qxv,Qzw h];rfl
theorem VC(a:List UInt8):JD a=some (if a.length<=2048 then(idx a,(0,0)) else(([],[],[]),(3,-1))):=by
 unfold JD;rw [Acu]
 by_cases h:a.length<=2048
 ·rw [if_pos h,if_pos h];rw [Qq6,if_pos ⟨Z,Z⟩,Ad (by constructor <;> omega),Ad U,Ag3 (by rw [MM];exact h),Qq6,<- Ae0];have hl:=VB a;have ho:=Fj a
  have key:=Fb (b:=FF a (opI a)) (m:=some (idx a,((0:Int),(0:Int)))) (fun k=>((sym a).take k,(k:Int))) (a.length+1) (fun k hk=>by
   unfold FF;simp only;have hk':k<(op a).length:=by omega
   have hle:=WZ a hk';have htk:((sym a).take k).length=k:=by rw [QzK,EZ];omega
   have hs:(sym a).take (k+1)=(sym a).take k++[ID a (op a)[k]]:=by
    rw [QxX];have:(sym a)[k]? = some (ID a (op a)[k]):=by simp [sym,hk']
    rw [this];rfl
   rw [if_pos U,Ad U,Qq8,Ag4 a hk']
   by_cases c:(op a)[k]=0
   ·rw [c] at hs ⊢;rw [if_pos (show((0:Nat):Int)=0 from Z),Ad (by rw [htk];simp only [QxD];constructor <;> omega),Ad (by constructor <;> omega),hs]
    rfl
   ·rw [if_neg U,Ad (by constructor <;> omega),Ad U,Ad (by rw [htk];simp only [QxD];constructor <;> omega),Ad (by constructor <;> omega),hs];have d:(((op a)[k]:Int) - 1).toNat=(op a)[k] - 1:=by omega
    unfold ID;rw [if_neg c,d]
    rfl) (by
   unfold FF;simp only;rw [if_neg U,Qxz (by rw [EZ];omega)];unfold Jd;rw [Acx h]
   rfl) 0 (hi:=(by omega))
  exact key
 ·rw [if_neg h,if_neg h];rfl
end Go.Proofs.YtekmbcbgknmhiaaGreatDoor
end
noncomputable section
namespace Go.Proofs.YtekmbcbgknmhiaaGreatDoor
open Go Go.L
theorem Ae1{a:List UInt8}(hs:a.length<=2048):Jk a=some (YY a,(0,0)):=by
 unfold Jk;rw [if_neg U,TN U]
 rfl
theorem Aar{a:List UInt8}(hs:2048<a.length):Jk a=some ([],(3,-1)):=by
 unfold Jk;rw [if_pos U]
 rfl
end Go.Proofs.YtekmbcbgknmhiaaGreatDoor
end
noncomputable section
namespace Go.L
open Go Go.Proofs.YtekmbcbgknmhiaaGreatDoor
abbrev Mp:=Int×Int
abbrev HM:=List (List UInt8×List Mp)
section
variable {κ β:Type} [DecidableEq κ]
theorem VD(d:β)(k k':κ)(y:β):∀ M:List (κ×β),BW d k' (FY k y M)=if k'=k then y else BW d k' M
 | []=>by
  unfold FY BW
  by_cases h:k'=k
  ·rw [if_pos h,if_pos h]
  ·rw [if_neg h,if_neg h];rfl
 | (a,z)::l=>by
  unfold FY
  by_cases h:k=a
  ·rw [if_pos h];subst h
   by_cases b:k'=k
   ·simp only [BW];rw [if_pos b,if_pos b]
   ·simp only [BW];rw [if_neg b,if_neg b,if_neg b]
  ·rw [if_neg h];simp only [BW];rw [VD d k k' y l]
   by_cases b:k'=a
   ·rw [if_pos b,if_pos b,if_neg (fun e=>h (e.symm.trans b))]
   ·rw [if_neg b,if_neg b]
theorem Tx(k:κ)(y:β):∀ M:List (κ×β),(FY k y M).map Qq5=if k∈M.map Qq5 then M.map Qq5 else M.map Qq5++[k]
 | []=>by simp [FY]
 | (a,z)::l=>by
  unfold FY
  by_cases h:k=a
  ·rw [if_pos h];simp [h]
  ·rw [if_neg h,Qzd,Tx k y l,Qzd]
   by_cases b:k∈l.map Qq5
   ·rw [if_pos b,if_pos (QzB _ b)]
   ·rw [if_neg b,if_neg (by simp only [Qzy,not_or];exact⟨h,b⟩)]
    rfl
theorem Ty(d:β)(k:κ):∀ M:List (κ×β),k∉M.map Qq5->BW d k M=d
 | [],_=>rfl
 | (a,z)::l,h=>by
  simp only [Qzd,Qzy,not_or] at h;unfold BW;rw [if_neg h.1];exact Ty d k l h.2
end
def Nj(M:HM)(p:List UInt8×Mp):HM:=FY p.1 (BW [] p.1 M++[p.2]) M
def NV(P:List (List UInt8×Mp))(w:List UInt8):List Mp:=(P.filter fun p=>p.1=w).map QzQ
theorem add_get(w:List UInt8):∀ (P:List (List UInt8×Mp)) (M:HM),BW [] w (P.foldl Nj M)=BW [] w M++NV P w
 | [],M=>by simp [NV]
 | p::P,M=>by
  rw [List.foldl_cons,add_get w P];unfold Nj;rw [VD];unfold NV
  by_cases h:w=p.1
  ·subst h;simp
  ·rw [if_neg h];rw [List.filter_cons_of_neg (by simpa using fun e=>h e.symm)]
theorem VE:∀ (P:List (List UInt8×Mp)) (M:HM) (k:List UInt8),k∈(P.foldl Nj M).map Qq5↔k∈M.map Qq5\/k∈P.map Qq5
 | [],M,k=>by simp
 | p::P,M,k=>by
  rw [List.foldl_cons,VE P];unfold Nj;rw [Tx]
  by_cases h:p.1∈M.map Qq5
  ·rw [if_pos h,Qzd,Qzy]
   constructor
   ·rintro(a | a)
    ·exact .inl a
    ·exact .inr (.inr a)
   ·rintro(a | a | a)
    ·exact .inl a
    ·exact .inl (a ▸ h)
    ·exact .inr a
  ·rw [if_neg h,Qzd,Qzy,Qze,QzX]
   constructor
   ·rintro((a | a) | a)
    ·exact .inl a
    ·exact .inr (.inl a)
    ·exact .inr (.inr a)
   ·rintro(a | a | a)
    ·exact .inl (.inl a)
    ·exact .inl (.inr a)
    ·exact .inr a
theorem Tz:∀ (P:List (List UInt8×Mp)) (M:HM),(M.map Qq5).Nodup->((P.foldl Nj M).map Qq5).Nodup
 | [],_,h=>h
 | p::P,M,h=>by
  rw [List.foldl_cons];refine Tz P _ ?_;unfold Nj;rw [Tx]
  by_cases c:p.1∈M.map Qq5
  ·rw [if_pos c];exact h
  ·rw [if_neg c];refine Qk6.2 ⟨h,by simp,fun a ha b hb e=>?_⟩;rw [QzX] at hb;exact c (hb ▸ e ▸ ha)
theorem PF(P:List (List UInt8×Mp))(w:List UInt8):(NV P w).length<=P.length:=by
 unfold NV;rw [Qzk];exact List.length_filter_le _ _
def Im(i:Int)(l:List W):List (List UInt8×Mp):=(l.zipIdx).map fun x=>(x.1.1,(i,((x.2:Nat):Int)))
theorem Na(i:Int)(l:List W):(Im i l).length=l.length:=by unfold Im;rw [Qzk,List.length_zipIdx]
theorem TR(i:Int)(l:List W)(k:Nat)(hk:k<l.length):(Im i l)[k]? = some ((l.getD k Qq2).1,(i,(k:Int))):=by
 unfold Im;rw [Qxv,List.getElem?_zipIdx,Qzw hk,Qq9,Qzw hk];simp
theorem Yb(i:Int)(l:List W)(k:Nat)(hk:k<l.length)(M:HM):((Im i l).take (k+1)).foldl Nj M=Nj (((Im i l).take k).foldl Nj M) ((l.getD k Qq2).1,(i,(k:Int))):=by
 rw [QxX,TR i l k hk,List.foldl_append]
 rfl
def H7:Nat->List (List UInt8)->List (List UInt8×Mp)
 | _,[]=>[]
 | i,t::r=>Im (i:Int) (YY t)++H7 (i+1) r
theorem Xd:∀ (i:Nat) (r:List (List UInt8)),(∀ t∈r,t.length<=2048)->(H7 i r).length<=r.length * 2049
 | _,[],_=>by simp [H7]
 | i,t::r,h=>by
  unfold H7;rw [Qzu,Na,Qzj];have a:=XN t;have h2:=Xd (i+1) r (fun x hx=>h x (QzB _ hx));have h3:=h t (QzA ..);omega
end Go.L
namespace Go.L
def N5:Nat->List (List UInt8)->Option Nat
 | _,[]=>none
 | i,t::r=>if 2048<t.length then some i else N5 (i+1) r
end Go.L
namespace Go.Proofs.YtekmbcbgknmhiaaGreatDoor
open Go Go.L
theorem Ae2(i:Nat)(l:List W)(M:HM)(hl:l.length<=3000)(hi:i<=100)(hM:∀ w,(BW [] w M).length<=1000000):
  Ke (i:Int) (l,(0,0)) (M,0)=some (.inl ((Im (i:Int) l).foldl Nj M,((i+1:Nat):Int))):=by
 unfold Ke
 have key:=Fb (b:=Hc (i:Int) (l,(0,0))) (m:=some (.inl ((Im (i:Int) l).foldl Nj M,((i+1:Nat):Int)))) (fun k=>(((Im (i:Int) l).take k).foldl Nj M,((k:Nat):Int))) l.length (fun k hk=>by
  unfold Hc;simp only
  have a:(BW [] (l.getD k Qq2).1 (((Im (i:Int) l).take k).foldl Nj M)).length<=1003000:=by
   rw [add_get,Qzu];have h2:=PF ((Im (i:Int) l).take k) (l.getD k Qq2).1;rw [QzK,Na] at h2;have h3:=hM (l.getD k Qq2).1;omega
  rw [if_pos U,Ad ⟨by omega,by omega⟩,Qq8,Ad (by constructor <;> omega),Ad (by constructor <;> omega),Yb (i:Int) l k hk M]
  rfl) (by
  unfold Hc Kd;simp only;rw [if_neg U,Ad (by constructor <;> omega),Qxz (by rw [Na];exact Qzx _)]
  congr 3) 0 (hi:=(by omega))
 exact key
theorem Xe(items:List (List UInt8))(hn:items.length<=64):∀ (r:List (List UInt8)) (i:Nat) (M:HM),items.drop i=r->i<=items.length->(∀ w,(BW [] w M).length<=i * 3000)->
  run (EM items) (M,(i:Int))=match N5 i r with | some j=>some ((0,[]),(3,(j:Int))) | none=>HR items ((H7 i r).foldl Nj M)
 | [],i,M,hd,hi,hM=>by
  have hlen:=congrArg Qxy hd;rw [QzJ,Qzf] at hlen;unfold N5 H7;refine AQ ?_;unfold EM;simp only;rw [if_neg U]
  rfl
 | t::r,i,M,hd,hi,hM=>by
  have hlen:=congrArg Qxy hd;rw [QzJ,Qzj] at hlen
  have hg:items.getD i Qq2=t:=by
   have:=congrArg (·[0]?) hd;simp only [Qxj,Qx8,Qxq] at this;rw [Qq9,this]
   rfl
  have hd':items.drop (i+1)=r:=by rw [<- Qkw,hd];rfl
  unfold N5
  by_cases h:2048<t.length
  ·rw [if_pos h];refine AQ ?_;unfold EM;simp only;rw [if_pos U,Ad ⟨by omega,by omega⟩,Qq8,hg,Aar h,Qq6,if_neg Qqd]
   rfl
  ·rw [if_neg h];have hw:=XN t
   have hb:EM items (M,(i:Int))=some (.inl ((Im (i:Int) (YY t)).foldl Nj M,((i+1:Nat):Int))):=by
    unfold EM;simp only;rw [if_pos U,Ad ⟨by omega,by omega⟩,Qq8,hg,Ae1 U,Qq6,if_pos ⟨Z,Z⟩];exact Ae2 i (YY t) M U U (fun w=>by have:=hM w;omega)
   rw [Bg hb,Xe items hn r (i+1) _ hd' U (fun w=>by
    rw [add_get,Qzu];have a:=PF (Im (i:Int) (YY t)) w;rw [Na] at a;have h2:=hM w;omega)]
   have e:(H7 i (t::r)).foldl Nj M=(H7 (i+1) r).foldl Nj ((Im (i:Int) (YY t)).foldl Nj M):=by
    rw [H7,List.foldl_append]
   rw [e]
theorem Acy(items:List (List UInt8)):Jl items=if 64<items.length then some ((0,[]),(2,-1)) else match N5 0 items with | some j=>some ((0,[]),(3,(j:Int))) | none=>HR items ((H7 0 items).foldl Nj []):=by
 unfold Jl
 by_cases h:64<items.length
 ·rw [if_pos U,if_pos h]
  rfl
 ·rw [if_neg U,if_neg h];exact Xe items U items 0 [] Z U (fun w=>by simp [BW])
end Go.Proofs.YtekmbcbgknmhiaaGreatDoor
end
noncomputable section
namespace Go.L
open Go Go.Proofs.YtekmbcbgknmhiaaGreatDoor
theorem VF{cur:List UInt8}{fr at' n:Nat}(h:cur.length<=n):∀ w∈fin cur fr at',w.1.length<=n:=by
 intro w hw;unfold fin at hw
 split at hw
 ·cases hw
 ·rw [QzX.1 hw];exact h
theorem VG{a:List UInt8}:∀ (f at':Nat) (cur:List UInt8) (fr:Nat),at'<=a.length->cur.length<=at'->∀ w∈V0 a f at' cur fr,w.1.length<=a.length
 | 0,at',cur,fr,h,hc=>VF U
 | f+1,at',cur,fr,h,hc=>by
  intro w hw;unfold V0 at hw
  split at hw
  ·rename_i b
   split at hw
   ·rcases Qze.1 hw with hw | hw
    ·exact VF U w hw
    ·exact VG f (at'+1) [] (at'+1) U Qqd w hw
   ·exact VG f _ _ fr (QD b) (by rw [Qzu,XJ b];omega) w hw
  ·exact VF U w hw
theorem Zk(a:List UInt8):∀ w∈YY a,w.1.length<=a.length:=VG _ 0 [] 0 (Qz6 _) (Qzx _)
theorem VH:∀ (i:Nat) (r:List (List UInt8)),(∀ t∈r,t.length<=2048)->∀ k∈(H7 i r).map Qq5,k.length<=2048
 | _,[],_,k,hk=>by cases hk
 | i,t::r,h,k,hk=>by
  unfold H7 at hk;rw [Qxd] at hk
  rcases Qze.1 hk with hk | hk
  ·obtain⟨x,hx,rfl⟩:=Qz4.1 hk;unfold Im at hx;obtain⟨y,hy,rfl⟩:=Qz4.1 hx
   have a:y.1∈YY t:=by
    have:=List.mem_zipIdx' hy;rw [this.2];exact Qxx _
   exact Qz2 (Zk t y.1 a) (h t (QzA ..))
  ·exact VH (i+1) r (fun x hx=>h x (QzB _ hx)) k hk
def Rx(M:HM):HM:=((M.map Qq5).mergeSort leB).map fun k=>(k,BW [] k M)
theorem Zl(M:HM):(Rx M).length=M.length:=by unfold Rx;rw [Qzk,List.length_mergeSort,Qzk]
end Go.L
namespace Go.Proofs.YtekmbcbgknmhiaaGreatDoor
open Go Go.L
theorem Aas(n:Int)(M:HM)(hf:S5 M)(hm:M.length<=1000000):Lz n M=HQ n (Rx M):=by
 unfold Lz M5;rw [Ad hf,Qq6];unfold LQ;have hl:((M.map Qq5).mergeSort leB).length=M.length:=by rw [List.length_mergeSort,Qzk]
 have key:=Fb (b:=Hb n M ((M.map Qq5).mergeSort leB)) (m:=HQ n (Rx M)) (fun k=>((Rx M).take k,((k:Nat):Int))) M.length (fun k hk=>by
  unfold Hb;simp only
  have a:(Rx M).take (k+1)=(Rx M).take k++[(((M.map Qq5).mergeSort leB).getD k Qq2,BW [] (((M.map Qq5).mergeSort leB).getD k Qq2) M)]:=by
   rw [QxX]
   congr 1
   unfold Rx;rw [Qxv,Qq9,Qzw U]
   rfl
  have h2:((Rx M).take k).length<=1000000:=by rw [QzK];omega
  rw [if_pos U,Ad ⟨by omega,by omega⟩,Qq8,Ad (by rw [QxD];constructor <;> omega),Ad (by constructor <;> omega),a]
  rfl) (by
  unfold Hb;simp only;rw [if_neg U,Qxz (by rw [Zl];exact Qzx _)]) 0 (hi:=(by omega))
 exact key
end Go.Proofs.YtekmbcbgknmhiaaGreatDoor
namespace Go.L
open Go
def QK(n:Nat):Nat:=if n=0 then 0 else n.log2+1
theorem Yc{n k:Nat}(h:n<2 ^ k):QK n<=k:=by
 unfold QK
 split
 ·omega
 ·rename_i a;have:=(Nat.log2_lt a).2 h;omega
theorem Zm{n k:Nat}(h:2 ^ k<=n):QK n=QK (n / 2 ^ k)+k:=by
 have hp:0<2 ^ k:=Nat.two_pow_pos k;have hn:n≠0:=by omega
 have hm:n / 2 ^ k≠0:=by
  have:=Nat.div_pos h hp;omega
 unfold QK;rw [if_neg hn,if_neg hm]
 have a:n.log2<=(n / 2 ^ k).log2+k:=by
  have h2:n / 2 ^ k<2 ^ ((n / 2 ^ k).log2+1):=Nat.lt_log2_self
  have h3:n<2 ^ ((n / 2 ^ k).log2+1+k):=by
   rw [Nat.pow_add];exact(Nat.div_lt_iff_lt_mul hp).1 h2
  have:=(Nat.log2_lt hn).2 h3;omega
 have h2:(n / 2 ^ k).log2+k<=n.log2:=by
  rw [Nat.le_log2 hn,Nat.pow_add];exact Qz2 (Qky _ (Nat.log2_self_le hm)) (Nat.div_mul_le_self n (2 ^ k))
 omega
end Go.L
namespace Go.Proofs.YtekmbcbgknmhiaaGreatDoor
open Go Go.L
theorem Ajp:∀ i:Fin 256,DX ((i.val:Nat):Int) 0=some ((QK i.val:Nat):Int):=by decide +kernel
theorem Ae3{s:Nat}(hs:s<256){c:Int}(b:0<=c)(d:c<=100):DX (s:Int) c=some (c+((QK s:Nat):Int)):=by
 have h:=Ajp ⟨s,hs⟩;have hb:QK s<=8:=Yc U;simp only at h;unfold DX at h ⊢;obtain⟨a,h⟩:=G6 h;obtain⟨_,h⟩:=G6 h;have hT:=Option.some.inj h;rw [Int.zero_add] at hT;rw [Ad a,hT,Ad (by constructor <;> omega)]
theorem Ae4{n:Nat}(hn:n<16777216):Ir (n:Int)=some ((QK n:Nat):Int):=by
 unfold Ir Gm Gl;rw [if_neg U]
 by_cases a:65536<=n
 ·have e:(n:Int) / 65536=((n / 65536:Nat):Int):=by omega
  rw [if_pos U,Ad (by constructor <;> omega),e,if_neg U,Ae3 U U U,Zm (n:=n) (k:=16) U]
  congr 1
  show 16+((QK (n / 65536):Nat):Int)=((QK (n / 65536)+16:Nat):Int)
  omega
 ·rw [if_neg U]
  by_cases h2:256<=n
  ·have e:(n:Int) / 256=((n / 256:Nat):Int):=by omega
   rw [if_pos U,Ad (by constructor <;> omega),e,Ae3 U U U,Zm (n:=n) (k:=8) U]
   congr 1
   show 8+((QK (n / 256):Nat):Int)=((QK (n / 256)+8:Nat):Int)
   omega
  ·rw [if_neg U,Ae3 U U U,Int.zero_add]
def gzw(n:Nat):Nat:=if n=0 then 0 else 2 * QK n - 1
theorem Ae5{n:Nat}(hn:n<16777216):GG (n:Int)=some ((gzw n:Nat):Int):=by
 unfold GG gzw KL
 by_cases h:n=0
 ·rw [if_pos U,if_pos h];rfl
 ·have hb:QK n<=24:=Yc U;have hp:1<=QK n:=by unfold QK;rw [if_neg h];omega
  have hw:IntKind.u64.wrap (n:Int)=(n:Int):=by simp [IntKind.wrap,IntKind.signed,IntKind.bits];omega
  rw [if_neg U,if_neg h,hw,Ae4 hn,Qq6,Qq6,Ad (by constructor <;> omega),Ad (by constructor <;> omega)]
  congr 1
  omega
theorem Aic{n k:Nat}(h:n<2 ^ k)(_hk:1<=k):gzw n<=2 * k - 1:=by
 unfold gzw;have:=Yc h
 split <;> omega
end Go.Proofs.YtekmbcbgknmhiaaGreatDoor
end
noncomputable section
namespace Go.L
open Go Go.Proofs.YtekmbcbgknmhiaaGreatDoor
section
variable {σ ρ α:Type}
theorem M8{b:σ->Option (σ ⊕ ρ)}{s:σ}{m:Option α}{k:α->Option (σ ⊕ ρ)}{R:α->Option ρ}(h:b s=m.bind k)(hs:∀ x,b s=k x->run b s=R x):run b s=m.bind R:=by
 cases m with
 | none=>exact AQ (m:=none) h
 | some x=>exact hs x h
theorem bcg{β:Type}{m:Option α}{f g:α->Option β}(h:∀ x,f x=g x):m.bind f=m.bind g:=congrArg _ (funext h)
def fm(f:Int->σ->Option σ):List Int->σ->Option σ
 | [],c=>some c
 | n::r,c=>(f n c).bind (fm f r)
theorem Aat(f:Int->σ->Option σ):∀ (l r:List Int) (c:σ),fm f (l++r) c=(fm f l c).bind (fm f r)
 | [],_,_=>rfl
 | n::l,r,c=>by
  show(f n c).bind (fm f (l++r))=((f n c).bind (fm f l)).bind (fm f r)
  rw [Qkv];refine bcg fun x=>Aat f l r x
end
def Pc:Mp->List Mp->List Int
 | _,[]=>[]
 | p,h::r=>(if h.1=p.1 then[1,h.2 - p.2] else[1+h.1 - p.1,h.2+1])++Pc h r
def TS(b:UInt8):Int:=(b.toNat:Int)+1
def Yd(e:List UInt8×List Mp):List Int:=(e.1.length:Int)::(e.1.map TS++((e.2.length:Int)::Pc (0,-1) e.2))
def RD(x:Int×HM):List Int:=(x.1+1)::((x.2.length:Int)+1)::x.2.flatMap Yd
def HB(h:Mp):Prop:=0<=h.1/\h.1<=1000000000/\-1<=h.2/\h.2<=1000000000
def EB(e:List UInt8×List Mp):Prop:=e.1.length<=1000000000/\e.2.length<=1000000000/\∀ h∈e.2,HB h
end Go.L
namespace Go.Proofs.YtekmbcbgknmhiaaGreatDoor
open Go Go.L
theorem Ae6{a:Int×HM}{i:Nat}(hi:i<1000000000){H:List Mp}(hH:H.length<=1000000000)(he:(a.2.getD i Qq2).2=H):∀ (r:List Mp) (j:Nat) (p:Mp) (c:Int),H.drop j=r->j<=H.length->HB p->(∀ h∈r,HB h)->
  run (BQ a (i:Int)) (p.1,p.2,c,(j:Int))=(fm AZ (Pc p r) c).bind fun c=>some (.inl (c,((i+1:Nat):Int)))
 | [],j,p,c,hd,hj,hp,hr=>by
  have hlen:=congrArg Qxy hd;rw [QzJ,Qzf] at hlen
  show _=some (Sum.inl (c,((i+1:Nat):Int)))
  refine AQ ?_;unfold BQ F2;simp only;rw [Qq8,he,if_neg U,Ad (by constructor <;> omega)]
  congr 3
 | h::r,j,p,c,hd,hj,hp,hr=>by
  have hlen:=congrArg Qxy hd;rw [QzJ,Qzj] at hlen
  have hg:H.getD j Qq2=h:=by
   have:=congrArg (·[0]?) hd;simp only [Qxj,Qx8,Qxq] at this;rw [Qq9,this]
   rfl
  have hd':H.drop (j+1)=r:=by rw [<- Qkw,hd];rfl
  obtain⟨b,h2,h3,d⟩:=hr h (QzA ..);obtain⟨e,f,g,k⟩:=hp;have ej:((j:Nat):Int)+1=((j+1:Nat):Int):=by omega
  have ih:=fun c=>Ae6 hi hH he r (j+1) h c hd' U ⟨b,h2,h3,d⟩ (fun x hx=>hr x (QzB _ hx));unfold Pc;rw [Aat,Qkv]
  by_cases hs:h.1=p.1
  ·rw [if_pos hs]
   show _=Qq4 (Qq4 (AZ 1 c) (fun x=>Qq4 (AZ (h.2 - p.2) x) some)) _
   rw [Qkv]
   have hb:BQ a (i:Int) (p.1,p.2,c,(j:Int))=Qq4 (AZ 1 c) (fun x=>Qq4 (AZ (h.2 - p.2) x) (fun y=>some (.inl (h.1,h.2,y,((j+1:Nat):Int))))):=by
    unfold BQ;simp only;rw [Qq8,he,if_pos U,Ad ⟨by omega,by omega⟩,Qq8,hg,if_pos hs,ej];refine bcg fun x=>?_;rw [Ad (by constructor <;> omega)];refine bcg fun y=>?_;rw [Ad (by constructor <;> omega)]
   refine M8 hb fun x hx=>?_;rw [Qkv];refine M8 hx fun y hy=>?_;rw [Bg hy];exact ih y
  ·rw [if_neg hs]
   show _=Qq4 (Qq4 (AZ (1+h.1 - p.1) c) (fun x=>Qq4 (AZ (h.2+1) x) some)) _
   rw [Qkv]
   have hb:BQ a (i:Int) (p.1,p.2,c,(j:Int))=Qq4 (AZ (1+h.1 - p.1) c) (fun x=>Qq4 (AZ (h.2+1) x) (fun y=>some (.inl (h.1,h.2,y,((j+1:Nat):Int))))):=by
    unfold BQ;simp only;rw [Qq8,he,if_pos U,Ad ⟨by omega,by omega⟩,Qq8,hg,if_neg hs,Ad (by constructor <;> omega),Ad (by constructor <;> omega),ej];refine bcg fun x=>?_;rw [Ad (by constructor <;> omega)];refine bcg fun y=>?_;rw [Ad (by constructor <;> omega)]
   refine M8 hb fun x hx=>?_;rw [Qkv];refine M8 hx fun y hy=>?_;rw [Bg hy];exact ih y
theorem Ae7{a:Int×HM}{i:Nat}(hi:i<1000000000){w:List UInt8}{H:List Mp}(hw:w.length<=1000000000)(hH:H.length<=1000000000)(he:a.2.getD i Qq2=(w,H))(hb:∀ h∈H,HB h):∀ (r:List UInt8) (j:Nat) (c:Int),w.drop j=r->j<=w.length->
  run (C2 a (i:Int)) (c,(j:Int))=(fm AZ (r.map TS++((H.length:Int)::Pc (0,-1) H)) c).bind fun c=>some (.inl (c,((i+1:Nat):Int)))
 | [],j,c,hd,hj=>by
  have hlen:=congrArg Qxy hd;rw [QzJ,Qzf] at hlen;refine AQ ?_;have d:(a.2.getD i Qq2).1=w:=by rw [he]
  have e:(a.2.getD i Qq2).2=H:=by rw [he]
  unfold C2 F3 Hq;simp only;rw [Qq8,d,e,if_neg U]
  congr 1
  show _=Qq4 (Qq4 (AZ (H.length:Int) c) (fm AZ (Pc (0,-1) H))) _
  rw [Qkv];refine bcg fun x=>Ae6 hi hH e H 0 (0,-1) x Z (Qz6 _) ⟨by decide,by decide,by decide,by decide⟩ hb
 | b::r,j,c,hd,hj=>by
  have hlen:=congrArg Qxy hd;rw [QzJ,Qzj] at hlen
  have hg:w.getD j Qq2=b:=by
   have:=congrArg (·[0]?) hd;simp only [Qxj,Qx8,Qxq] at this;rw [Qq9,this]
   rfl
  have hd':w.drop (j+1)=r:=by rw [<- Qkw,hd];rfl
  have ej:((j:Nat):Int)+1=((j+1:Nat):Int):=by omega
  have d:(a.2.getD i Qq2).1=w:=by rw [he]
  have f:=b.toNat_lt
  show _=Qq4 (Qq4 (AZ (TS b) c) (fm AZ (r.map TS++((H.length:Int)::Pc (0,-1) H)))) _
  rw [Qkv]
  have hbody:C2 a (i:Int) (c,(j:Int))=Qq4 (AZ (TS b) c) (fun x=>some (.inl (x,((j+1:Nat):Int)))):=by
   unfold C2;simp only;rw [Qq8,d,if_pos U,Ad ⟨by omega,by omega⟩,Qq8,hg,Ad (by constructor <;> omega),ej];refine bcg fun x=>?_;rw [Ad (by constructor <;> omega)]
  refine M8 hbody fun x hx=>?_;rw [Bg hx];exact Ae7 hi hw hH he hb r (j+1) x hd' U
theorem Ae8{a:Int×HM}(hn:a.2.length<1000000000):∀ (r:HM) (i:Nat) (c:Int),a.2.drop i=r->i<=a.2.length->(∀ e∈r,EB e)->
  run (C3 a) (c,(i:Int))=fm AZ (r.flatMap Yd) c
 | [],i,c,hd,hi,_=>by
  have hlen:=congrArg Qxy hd;rw [QzJ,Qzf] at hlen;refine AQ (m:=some c) ?_;unfold C3;simp only;rw [if_neg U]
 | e::r,i,c,hd,hi,hE=>by
  have hlen:=congrArg Qxy hd;rw [QzJ,Qzj] at hlen
  have hg:a.2.getD i Qq2=e:=by
   have:=congrArg (·[0]?) hd;simp only [Qxj,Qx8,Qxq] at this;rw [Qq9,this]
   rfl
  have hd':a.2.drop (i+1)=r:=by rw [<- Qkw,hd];rfl
  obtain⟨w,H⟩:=e;obtain⟨hw,hH,hB⟩:=hE _ (QzA ..);simp only at hw hH hB;rw [Qxc,Aat]
  show _=Qq4 (Qq4 (AZ (w.length:Int) c) (fm AZ (w.map TS++((H.length:Int)::Pc (0,-1) H)))) _
  rw [Qkv]
  have hbody:C3 a (c,(i:Int))=Qq4 (AZ (w.length:Int) c) (fun x=>(fm AZ (w.map TS++((H.length:Int)::Pc (0,-1) H)) x).bind fun c=>some (.inl (c,((i+1:Nat):Int)))):=by
   have b:(a.2.getD i Qq2).1=w:=by rw [hg]
   unfold C3 Hr;simp only;rw [Qq8,b,if_pos U,Ad ⟨by omega,by omega⟩];refine bcg fun x=>?_;rw [Ad U];exact Ae7 U hw hH hg hB w 0 x Z (Qz6 _)
  refine M8 hbody fun x hx=>M8 hx fun y hy=>?_;rw [Bg hy];exact Ae8 hn r (i+1) y hd' U (fun z hz=>hE z (QzB _ hz))
theorem Aid{a:Int×HM}(b:0<=a.1/\a.1<=1000000000)(hn:a.2.length<1000000000)(hE:∀ e∈a.2,EB e)(c:Int):FO a c=fm AZ (RD a) c:=by
 unfold FO;rw [Ad (by constructor <;> omega)]
 show _=Qq4 (AZ (a.1+1) c) (fun x=>Qq4 (AZ ((a.2.length:Int)+1) x) (fm AZ (a.2.flatMap Yd)))
 refine bcg fun x=>?_;rw [Ad (by constructor <;> omega)];refine bcg fun y=>?_;unfold Hs;exact Ae8 hn a.2 0 y Z (Qz6 _) hE
end Go.Proofs.YtekmbcbgknmhiaaGreatDoor
end
noncomputable section
namespace Go.L
open Go Go.Proofs.YtekmbcbgknmhiaaGreatDoor
theorem Abx:∀ x y:List UInt8,Op.bytesLess x y=decide (x<y)
 | [],[]=>by simp [Op.bytesLess]
 | _::_,[]=>by simp [Op.bytesLess]
 | [],_::_=>by simp [Op.bytesLess]
 | a::x,b::y=>by
  rw [Op.bytesLess,Abx x y];simp only [List.cons_lt_cons_iff]
  by_cases c:a<b <;> by_cases h2:a=b <;> by_cases h3:x<y <;> simp [c,h2,h3]
theorem Xf{a b:UInt8}(c : ¬ a<b)(h2 : ¬ b<a):a=b:=by
 apply UInt8.toNat.inj;rw [Qxf] at c h2;omega
theorem Aau:∀ l m:List UInt8,Lib.compareBytes l m<0↔l<m
 | [],[]=>by simp [Lib.compareBytes]
 | [],_::_=>by simp [Lib.compareBytes]
 | _::_,[]=>by simp [Lib.compareBytes]
 | a::l,b::m=>by
  have ih:=Aau l m;unfold Lib.compareBytes;rw [List.cons_lt_cons_iff]
  by_cases c:a<b
  ·rw [if_pos c];simp [c]
  ·rw [if_neg c]
   by_cases h2:b<a
   ·have hne:a≠b:=fun e=>by subst e;exact c h2
    rw [if_pos h2];simp [c,hne]
   ·have e:a=b:=Xf c h2;rw [if_neg h2,ih];simp [e]
theorem T0:∀ l m:List UInt8,Lib.compareBytes l m=0↔l=m
 | [],[]=>by simp [Lib.compareBytes]
 | [],_::_=>by simp [Lib.compareBytes]
 | _::_,[]=>by simp [Lib.compareBytes]
 | a::l,b::m=>by
  have ih:=T0 l m;unfold Lib.compareBytes
  by_cases c:a<b
  ·have hne:a≠b:=fun e=>by subst e;rw [Qxf] at c;omega
   rw [if_pos c];simp [hne]
  ·rw [if_neg c]
   by_cases h2:b<a
   ·have hne:a≠b:=fun e=>by subst e;exact c h2
    rw [if_pos h2];simp [hne]
   ·have e:a=b:=Xf c h2;rw [if_neg h2,ih];simp [e]
theorem Lp(l:List UInt8): ¬ l<l:=by
 rw [<- decide_eq_false_iff_not,<- Abx]
 induction l with
 | nil=>rfl
 | cons a l ih=>unfold Op.bytesLess;simp [ih]
abbrev Inc(l:List (List UInt8)):Prop:=l.Pairwise (· < ·)
theorem Inc.nodup{l:List (List UInt8)}(h:Inc l):l.Nodup:=by
 refine List.Pairwise.imp ?_ h;intro a b hab e;subst e;exact Lp a hab
theorem Ae9{l:List (List UInt8)}(h:l.Nodup):Inc (l.mergeSort leB):=by
 have tr:∀ a b c:List UInt8,leB a b=true->leB b c=true->leB a c=true:=fun a b c d h2=>by simp only [leB,decide_eq_true_eq] at *;exact List.le_trans d h2
 have to:∀ a b:List UInt8,(leB a b||leB b a)=true:=fun a b=>by simp only [leB,Qz9,decide_eq_true_eq];exact List.le_total a b
 have d:(l.mergeSort leB).Pairwise fun a b=>leB a b=true:=QkC tr to l;have h2:(l.mergeSort leB).Nodup:=(Qkz l leB).nodup_iff.2 h;refine(d.and h2).imp fun {a b} hab=>?_;have h3:=of_decide_eq_true hab.1
 rcases List.le_iff_lt_or_eq.1 h3 with h | h
 ·exact h
 ·exact absurd h hab.2
theorem Aby{w:List UInt8}{hs:List Mp}:∀ (es:HM) (i:Nat),es[i]? = some (w,hs)->(∀ k,k<i->(es.getD k Qq2).1≠w)->BW [] w es=hs
 | [],i,h,_=>by simp at h
 | e::es,0,h,_=>by
  simp only [Qx8,Option.some.injEq] at h;subst h
  show(if w=w then hs else _)=hs
  rw [if_pos Z]
 | e::es,i+1,h,hk=>by
  have a:e.1≠w:=hk 0 U
  show(if w=e.1 then e.2 else BW [] w es)=hs
  rw [if_neg (fun x=>a x.symm)];exact Aby es i (by simpa using h) (fun k hk'=>by have:=hk (k+1) U;simpa using this)
theorem Zn(w:List UInt8)(f:List UInt8->List Mp):∀ K:List (List UInt8),BW [] w (K.map fun k=>(k,f k))=if w∈K then f w else[]
 | []=>by simp [BW]
 | k::K=>by
  show(if w=k then f k else BW [] w (K.map fun k=>(k,f k)))=_
  rw [Zn w f K]
  by_cases h:w=k
  ·subst h;simp
  ·rw [if_neg h];simp [h]
theorem AeA(M:HM)(w:List UInt8):BW [] w (Rx M)=BW [] w M:=by
 unfold Rx;rw [Zn]
 by_cases h:w∈(M.map Qq5).mergeSort leB
 ·rw [if_pos h]
 ·rw [if_neg h,Ty];exact fun h'=>h ((Qkz _ _).mem_iff.2 h')
theorem Acz(M:HM):(Rx M).map Qq5=(M.map Qq5).mergeSort leB:=by
 unfold Rx;rw [Qx0];exact List.map_id' _
end Go.L
namespace Go.Proofs.YtekmbcbgknmhiaaGreatDoor
open Go Go.L
theorem Zo(e:List UInt8×List Mp)(w:List UInt8):Gt e w=some (Lib.compareBytes e.1 w):=Z
theorem Aie{i j:Nat}(hi:i<=1000000000)(hj:j<=1000000000):IntKind.i64.wrap (IntKind.u64.wrap ((i:Int)+(j:Int)) / 2)=(((i+j) / 2:Nat):Int):=by
 have a:IntKind.u64.wrap ((i:Int)+(j:Int))=((i+j:Nat):Int):=by simp [IntKind.wrap,IntKind.signed,IntKind.bits];omega
 rw [a];simp [IntKind.wrap,IntKind.signed,IntKind.bits];omega
theorem Ac0{es:HM}(hn:es.length<=1000000000)(w:List UInt8)(hs:Inc (es.map Qq5)):
  Bm es w=some ((((es.map Qq5).countP fun k=>decide (k<w):Nat):Int),decide (w∈es.map Qq5)):=by
 have hk:∀ k,k<es.length->(es.map Qq5)[k]? = some (es.getD k Qq2).1:=fun k h=>by
  rw [Qxv,Qzw h,Qq9,Qzw h];rfl
 have mono:∀ a b,a<b->b<es.length->(es.getD a Qq2).1<(es.getD b Qq2).1:=fun a b hab hb=>by
  have:=Qjk.1 hs a b (by rw [Qzk];omega) (by rw [Qzk];omega) hab;have m:=Qzw (l:=es.map Qq5) (i:=a) (by rw [Qzk];omega);have n:=Qzw (l:=es.map Qq5) (i:=b) (by rw [Qzk];omega);rw [hk a U] at m;rw [hk b hb] at n;rw [Option.some.inj m,Option.some.inj n];exact this
 -- how many keys are less, once the place is known
 have cnt:∀ i,i<=es.length->(∀ k,k<i->(es.getD k Qq2).1<w)->(∀ k,i<=k->k<es.length->¬ (es.getD k Qq2).1<w)->(es.map Qq5).countP (fun k=>decide (k<w))=i:=fun i hi f h2=>by
  have e:es.map Qq5=(es.map Qq5).take i++(es.map Qq5).drop i:=(List.take_append_drop _ _).symm;rw [e,Qke,List.countP_eq_length.2,QkK.2,QzK,Qzk]
  ·omega
  ·intro x hx;obtain⟨k,c⟩:=Qk9.1 hx;rw [Qxj] at c
   have hlt:i+k<es.length:=by
    have:=(QzC.1 c).1;rw [Qzk] at this;exact this
   rw [hk _ hlt] at c;rw [<- Option.some.inj c]
   simpa using h2 (i+k) U hlt
  ·intro x hx;obtain⟨k,c⟩:=Qk9.1 hx
   have hlt:k<i:=by
    have:=(QzC.1 c).1;rw [QzK] at this;omega
   rw [Qjj hlt,hk _ U] at c;rw [<- Option.some.inj c]
   simpa using f k hlt
 unfold Bm BC;refine AaM (fun s=>∃ i j:Nat,s=((i:Int),(j:Int))/\i<=j/\j<=es.length/\(∀ k,k<i->(es.getD k Qq2).1<w)/\(∀ k,j<=k->k<es.length->¬ (es.getD k Qq2).1<w)) (fun s=>(s.2 - s.1).toNat) ?_ (s:=((0:Int),(es.length:Int))) ⟨0,es.length,Z,Qz6 _,Qzx _,fun k h=>by omega,fun k f h2=>by omega⟩;rintro _ ⟨i,j,rfl,hij,hj,f,h2⟩;unfold Bs;simp only
 by_cases h:i<j
 ·left
  rw [if_pos U,Ad (by constructor <;> omega),Aie U U,Ad ⟨by omega,by omega⟩,Qq8,Zo,Qq6];have hm:(i+j) / 2<es.length:=by omega
  by_cases hc:(es.getD ((i+j) / 2) Qq2).1<w
  ·rw [if_pos ((Aau _ _).2 hc),Ad (by constructor <;> omega)];refine⟨_,Z,⟨(i+j) / 2+1,j,by congr 1,by omega,hj,fun k hk'=>?_,h2⟩,by simp only;omega⟩
   rcases Qxk k ((i+j) / 2) with hlt | hge
   ·exact List.lt_trans (mono _ _ hlt hm) hc
   ·obtain rfl:k=(i+j) / 2:=by omega
    exact hc
  ·rw [if_neg (fun x=>hc ((Aau _ _).1 x))];refine⟨_,Z,⟨i,(i+j) / 2,Z,by omega,by omega,f,fun k c d hl=>?_⟩,by simp only;omega⟩
   rcases Qxk ((i+j) / 2) k with hlt | hge
   ·exact hc (List.lt_trans (mono _ _ hlt d) hl)
   ·obtain rfl:k=(i+j) / 2:=by omega
    exact hc hl
 ·right
  obtain rfl:i=j:=by omega
  rw [if_neg U,cnt i hj f h2]
  congr 1
  unfold Bx
  by_cases h3:i<es.length
  ·rw [if_pos U,Ad ⟨by omega,by omega⟩,Qq8,Zo,Qq6]
   congr 2
   by_cases g:(es.getD i Qq2).1=w
   ·rw [decide_eq_true ((T0 _ _).2 g),decide_eq_true];rw [<- g];exact Qk9.2 ⟨i,hk i h3⟩
   ·rw [decide_eq_false (fun x=>g ((T0 _ _).1 x)),decide_eq_false];intro hmem;obtain⟨k,c⟩:=Qk9.1 hmem
    have hkl:k<es.length:=by
     have:=(QzC.1 c).1;rw [Qzk] at this;exact this
    rw [hk k hkl] at c;have d:=Option.some.inj c
    rcases Nat.lt_trichotomy k i with hlt | he | hgt
    ·exact Lp w (by have:=f k hlt;rw [d] at this;exact this)
    ·subst he;exact g d
    ·have o:=mono i k hgt hkl;rw [d] at o;exact h2 i (Qzx _) h3 o
  ·rw [if_neg U]
   congr 2
   rw [eq_comm,decide_eq_false_iff_not];intro hmem;obtain⟨k,c⟩:=Qk9.1 hmem
   have hkl:k<es.length:=by
    have:=(QzC.1 c).1;rw [Qzk] at this;exact this
   rw [hk k hkl] at c;have:=f k U;rw [Option.some.inj c] at this;exact Lp w this
theorem PG{n:Int}{es:HM}(hn:es.length<=1000000000)(w:List UInt8)(hs:Inc (es.map Qq5)):DD (n,es) w=some (BW [] w es):=by
 unfold DD;simp only;rw [Ac0 hn w hs,Qq6];simp only
 by_cases h:w∈es.map Qq5
 ·rw [decide_eq_true h,if_neg Qqc]
  have hc:(es.map Qq5).countP (fun k=>decide (k<w))<es.length:=by
   rcases Qxk ((es.map Qq5).countP (fun k=>decide (k<w))) (es.map Qq5).length with a | a
   ·rw [Qzk] at a;exact a
   ·have h2:=Nat.le_antisymm Qk8 a;exact absurd (of_decide_eq_true (List.countP_eq_length.1 h2 w h)) (Lp w)
  rw [Ad ⟨by omega,by omega⟩,Qq8]
  congr 1
  -- the place of w
  obtain⟨l,r,hlr⟩:=List.append_of_mem h;have hinc:=hs;rw [hlr] at hinc;have hl:∀ x∈l,x<w:=fun x hx=>(Qjq.1 hinc).2.2 x hx w (QzA ..);have hr:∀ x∈r,¬ x<w:=fun x hx hxw=>Lp w (List.lt_trans ((Qz0.1 (Qjq.1 hinc).2.1).1 x hx) hxw)
  have hcnt:(es.map Qq5).countP (fun k=>decide (k<w))=l.length:=by
   rw [hlr,Qke,Qx3,List.countP_eq_length.2 (fun x hx=>decide_eq_true (hl x hx)),QkK.2 (fun x hx=>by simpa using hr x hx),if_neg (by simp [Lp w])]
   rfl
  rw [hcnt] at hc ⊢;have hget:(es.map Qq5)[l.length]? = some w:=by rw [hlr];simp
  rw [Qxv,Qzw hc] at hget;refine(Aby es l.length (hs:=(es.getD l.length Qq2).2) ?_ (fun k hk=>?_)).symm
  ·rw [Qzw hc,Qq9,Qzw hc];simp only [Option.map_some,Option.some.injEq] at hget;rw [<- hget]
   rfl
  ·intro hw;have a:(es.map Qq5)[k]? = l[k]?:=by rw [hlr,Qkf hk]
   rw [Qxv,Qzw U,Qzw hk] at a;rw [Qq9,Qzw U] at hw;simp only [Option.map_some,Option.some.injEq] at a;have h2:=hl l[k] (Qxx _);rw [<- a] at h2;simp only [Option.getD_some] at hw;rw [hw] at h2;exact Lp w h2
 ·rw [decide_eq_false h,if_pos Qqc,Ty [] w es h]
/- Lists that are equal. -/
end Go.Proofs.YtekmbcbgknmhiaaGreatDoor
end
noncomputable section
namespace Go.L
open Go
theorem AeB{l r:List UInt8}{k:Nat}(h:k<l.length):bt (l++r) k=bt l k:=by
 unfold bt;rw [Qq9,Qq9,Qkf h]
def Ch(x:List UInt8):Prop:=x≠[]/\x.map Ju=x/\∀ r,MJ (x++r)=x.length
theorem Abz:∀ c:Fin 256,asc c.val=true->asc (Ju (QzE c.val)).toNat=true/\Ju (Ju (QzE c.val))=Ju (QzE c.val):=by decide +kernel
theorem Ag5{l r:List UInt8}(h:PR l≠0):PR (l.take (PR l)++r)=PR l:=by
 have hc:∀ k,cont l k=true->k<l.length:=fun k h=>(of_decide_eq_true h).1
 have key:∀ n,PR l=n->1<n->n<=l.length->(∀ k,k<n->bt (l.take n++r) k=bt l k)/\(∀ k,k<n->cont (l.take n++r) k=cont l k):=by
  intro n _ _ hn;have hl:(l.take n).length=n:=by rw [QzK];omega
  have hb:∀ k,k<n->bt (l.take n++r) k=bt l k:=fun k hk=>by
   rw [AeB U];unfold bt;rw [Qq9,Qq9,Qjj hk]
  refine⟨hb,fun k hk=>?_⟩;unfold cont;rw [hb k hk,Qzu,hl]
  congr 1
  apply propext
  constructor <;> (rintro⟨_,h2⟩;exact⟨by omega,h2⟩)
 have h':=h;unfold PR at h'
 split at h'
 ·rename_i hA
  split at h'
  ·rename_i a;have e:PR l=2:=by unfold PR;rw [if_pos hA,if_pos a]
   obtain⟨hb,hk⟩:=key 2 e Qqc (hc 1 a);rw [e];unfold PR;rw [hb 0 Qqc,hk 1 Qqc,if_pos hA,if_pos a]
  ·exact absurd Z h'
 ·rename_i hA
  split at h'
  ·rename_i hB
   split at h'
   ·rename_i a;have e:PR l=3:=by unfold PR;rw [if_neg hA,if_pos hB,if_pos a]
    obtain⟨hb,hk⟩:=key 3 e Qqc (hc 2 a.2.1);rw [e];unfold pt3 at a;unfold PR pt3;rw [hb 0 Qqc,hb 1 Qqc,hb 2 Qqc,hk 1 Qqc,hk 2 Qqc,if_neg hA,if_pos hB,if_pos a]
   ·exact absurd Z h'
  ·rename_i hB
   split at h'
   ·rename_i hC
    split at h'
    ·rename_i a;have e:PR l=4:=by unfold PR;rw [if_neg hA,if_neg hB,if_pos hC,if_pos a]
     obtain⟨hb,hk⟩:=key 4 e Qqc (hc 3 a.2.2.1);rw [e];unfold pt4 at a;unfold PR pt4;rw [hb 0 Qqc,hb 1 Qqc,hb 2 Qqc,hb 3 Qqc,hk 1 Qqc,hk 2 Qqc,hk 3 Qqc,if_neg hA,if_neg hB,if_pos hC,if_pos a]
    ·exact absurd Z h'
   ·exact absurd Z h'
theorem Aif{l:List UInt8}(hne:l≠[])(h:MJ l≠0):Ch ((l.take (MJ l)).map Ju):=by
 have hl:=Aai l hne;have hlen:((l.take (MJ l)).map Ju).length=MJ l:=by rw [Qzk,QzK];omega
 refine⟨fun e=>by rw [e] at hlen;exact h hlen.symm,?_,fun r=>?_⟩
 all_goals
  by_cases ha:asc (bt l 0)=true
 ·obtain⟨c,m,rfl⟩:=QkE hne;have e:MJ (c::m)=1:=by unfold MJ;rw [if_pos ha]
  have:=(Abz ⟨c.toNat,c.toNat_lt⟩ ha).2;rw [e];simp only [UInt8.ofNat_toNat] at this;simp [this]
 ·have e:MJ l=PR l:=by unfold MJ;rw [if_neg ha]
  rw [e] at h ⊢;rw [U0 h,U0 h]
 ·obtain⟨c,m,rfl⟩:=QkE hne;have e:MJ (c::m)=1:=by unfold MJ;rw [if_pos ha]
  have:=(Abz ⟨c.toNat,c.toNat_lt⟩ ha).1;simp only [UInt8.ofNat_toNat] at this;rw [hlen,e]
  show MJ (Ju c::r)=1
  unfold MJ;rw [if_pos (show asc (bt (Ju c::r) 0)=true from this)]
 ·have e:MJ l=PR l:=by unfold MJ;rw [if_neg ha]
  rw [hlen];rw [e] at h hl ⊢;rw [U0 h]
  have a:bt (l.take (PR l)++r) 0=bt l 0:=by
   rw [AeB (by rw [QzK];omega)];unfold bt;rw [Qq9,Qq9,Qjj U]
  unfold MJ;rw [a,if_neg ha];exact Ag5 h
def Lw(t:List UInt8):Prop:=∃ cs:List (List UInt8),t=cs.flatten/\∀ x∈cs,Ch x
theorem Lw.nil:Lw []:=⟨[],Z,by simp⟩
theorem Lw.snoc{t x:List UInt8}(h:Lw t)(hx:Ch x):Lw (t++x):=by
 obtain⟨cs,rfl,hc⟩:=h;refine⟨cs++[x],by simp,fun y hy=>?_⟩
 rcases Qze.1 hy with hy | hy
 ·exact hc y hy
 ·rw [QzX.1 hy];exact hx
def Wok(n:Nat)(w:W):Prop:=Lw w.1/\w.1≠[]/\0<=w.2.1/\w.2.1<w.2.2/\w.2.2<=(n:Int)
theorem Aav{n:Nat}{cur:List UInt8}{fr at':Nat}(hc:Lw cur)(h:cur=[]\/fr<at')(hn:at'<=n):∀ w∈fin cur fr at',Wok n w:=by
 intro w hw;unfold fin at hw
 split at hw
 ·cases hw
 ·rename_i hne;rw [QzX.1 hw];have:=h.resolve_left hne;exact⟨hc,hne,by show(0:Int)<=(fr:Int);omega,by show(fr:Int)<(at':Int);omega,by show(at':Int)<=(n:Int);omega⟩
theorem Aaw{a:List UInt8}:∀ (f at':Nat) (cur:List UInt8) (fr:Nat),at'<=a.length->Lw cur->(cur=[]\/fr<at')->fr<=at'->∀ w∈V0 a f at' cur fr,Wok a.length w
 | 0,at',cur,fr,h,hc,hf,_=>Aav hc hf h
 | f+1,at',cur,fr,h,hc,hf,hle=>by
  intro w hw;unfold V0 at hw
  split at hw
  ·rename_i b
   split at hw
   ·rcases Qze.1 hw with hw | hw
    ·exact Aav hc hf h w hw
    ·exact Aaw f (at'+1) [] (at'+1) U Lw.nil (.inl Z) (Qzx _) w hw
   ·rename_i h2;exact Aaw f _ _ fr (QD b) (hc.snoc (Aif (U1 b) h2)) (.inr U) U w hw
  ·exact Aav hc hf h w hw
theorem Aig(a:List UInt8):∀ w∈YY a,Wok a.length w:=Aaw _ 0 [] 0 (Qz6 _) Lw.nil (.inl Z) (Qzx _)
end Go.L
end
noncomputable section
namespace Go.L
open Go Go.Proofs.YtekmbcbgknmhiaaGreatDoor
theorem M9{α:Type}[Inhabited α]{l:List α}{i:Nat}{x:α}{r:List α}(h:l.drop i=x::r):l.getD i Qq2=x/\l.drop (i+1)=r/\i<l.length:=by
 have hlen:=congrArg Qxy h;rw [QzJ,Qzj] at hlen;refine⟨?_,by rw [<- Qkw,h];rfl,by omega⟩;have:=congrArg (·[0]?) h;simp only [Qxj,Qx8,Qxq] at this;rw [Qq9,this]
 rfl
theorem NW{α:Type}{l:List α}{i:Nat}(h:l.drop i=[]):l.length<=i:=by
 have hlen:=congrArg Qxy h;rw [QzJ,Qzf] at hlen;omega
def E(items:List (List UInt8)):HM:=Rx ((H7 0 items).foldl Nj [])
theorem AeC(items:List (List UInt8)):(E items).map Qq5=(((H7 0 items).foldl Nj []).map Qq5).mergeSort leB:=Acz _
theorem AiL(items:List (List UInt8)):Inc ((E items).map Qq5):=by
 rw [AeC];exact Ae9 (Tz _ [] List.nodup_nil)
theorem AiM(items:List (List UInt8))(k:List UInt8):k∈(E items).map Qq5↔k∈(H7 0 items).map Qq5:=by
 rw [AeC,(Qkz _ _).mem_iff,VE];simp
theorem Xg(items:List (List UInt8))(w:List UInt8):BW [] w (E items)=NV (H7 0 items) w:=by
 unfold E;rw [AeA,add_get]
 rfl
theorem AeD{items:List (List UInt8)}{e:List UInt8×List Mp}(h:e∈E items):e.2=NV (H7 0 items) e.1:=by
 unfold E Rx at h;obtain⟨k,_,rfl⟩:=Qz4.1 h;simp only;rw [add_get]
 rfl
theorem Zp(k:List UInt8)(y:List Mp):∀ M:HM,(FY k y M).length<=M.length+1
 | []=>by simp [FY]
 | (a,z)::l=>by
  unfold FY
  split
  ·simp
  ·have:=Zp k y l;simp only [Qzj];omega
theorem Ye:∀ (P:List (List UInt8×Mp)) (M:HM),(P.foldl Nj M).length<=M.length+P.length
 | [],M=>by simp
 | p::P,M=>by
  rw [List.foldl_cons,Qzj];have a:=Ye P (Nj M p);have h2:(Nj M p).length<=M.length+1:=Zp _ _ M;omega
theorem AeE(items:List (List UInt8)):(E items).length<=(H7 0 items).length:=by
 unfold E;rw [Zl];have:=Ye (H7 0 items) [];rw [Qzf] at this;omega
theorem Wu(i:Int)(l:List W):Im i l=(Qzv l.length).map fun k=>((l.getD k Qq2).1,(i,((k:Nat):Int))):=by
 apply Qkb;intro k
 by_cases h:k<l.length
 ·rw [TR i l k h,Qxv,QkD h];rfl
 ·rw [Qxe (by rw [Na];omega),Qxe (by rw [Qzk,QxB];omega)]
theorem Oo{i:Int}{l:List W}{p:List UInt8×Mp}(h:p∈Im i l):p.2.1=i/\0<=p.2.2/\p.2.2<(l.length:Int)/\∃ w∈l,w.1=p.1:=by
 rw [Wu] at h;obtain⟨k,hk,rfl⟩:=Qz4.1 h;rw [Qz7] at hk;refine⟨Z,by simp only;omega,by simp only;omega,l.getD k Qq2,?_,Z⟩;rw [Qq9,Qzw hk];exact Qxx _
theorem J0:∀ (i:Nat) (r:List (List UInt8)) (m:Nat),(∀ t∈r,t.length<=m)->∀ p∈H7 i r,(i:Int)<=p.2.1/\p.2.1<((i+r.length:Nat):Int)/\0<=p.2.2/\p.2.2<=(m:Int)/\p.1≠[]/\p.1.length<=m
 | _,[],_,_,p,hp=>by cases hp
 | i,t::r,m,h,p,hp=>by
  unfold H7 at hp
  rcases Qze.1 hp with hp | hp
  ·obtain⟨d,h2,h3,w,a,b⟩:=Oo hp;have c:=Aig t w a;have e:=Zk t w a;have f:=XN t;have g:=h t (QzA ..);rw [Qzj];exact⟨by omega,by omega,h2,by omega,b ▸ c.2.1,b ▸ U⟩
  ·have:=J0 (i+1) r m (fun x hx=>h x (QzB _ hx)) p hp;rw [Qzj];exact⟨by omega,by omega,this.2.2⟩
theorem MA{P:List (List UInt8×Mp)}{w:List UInt8}{h:Mp}:h∈NV P w↔(w,h)∈P:=by
 unfold NV;rw [Qz4]
 constructor
 ·rintro⟨p,hp,rfl⟩;rw [Qk0] at hp;obtain⟨a,h2⟩:=hp;have h2:=of_decide_eq_true h2;rw [<- h2];exact a
 ·intro a;exact⟨(w,h),Qk0.2 ⟨a,decide_eq_true Z⟩,Z⟩
theorem Ajr{items:List (List UInt8)}(hn:items.length<=64){m:Nat}(ht:∀ t∈items,t.length<=m){e:List UInt8×List Mp}(h:e∈E items):
  e.1≠[]/\e.1.length<=m/\e.2.length<=(H7 0 items).length/\∀ x∈e.2,0<=x.1/\x.1<=63/\0<=x.2/\x.2<=(m:Int):=by
 have hk:e.1∈(H7 0 items).map Qq5:=(AiM items e.1).1 (List.mem_map_of_mem h);obtain⟨p,hp,hpe⟩:=Qz4.1 hk;have a:=J0 0 items m ht p hp;rw [hpe] at a;refine⟨a.2.2.2.2.1,a.2.2.2.2.2,?_,fun x hx=>?_⟩
 ·rw [AeD h];exact PF _ _
 ·rw [AeD h,MA] at hx;have h2:=J0 0 items m ht _ hx;simp only at h2;exact⟨by omega,by omega,h2.2.2.1,h2.2.2.2.1⟩
def gs(l:List Int):Nat:=(l.map fun n=>gzw n.toNat).sum
theorem Ab0(n:Int)(l:List Int):gs (n::l)=gzw n.toNat+gs l:=by simp [gs]
theorem Ahx{b:Nat}:∀ {l:List Int},(∀ n∈l,gzw n.toNat<=b)->gs l<=l.length * b
 | [],_=>by simp [gs]
 | n::l,h=>by
  rw [Ab0,Qzj,Nat.succ_mul];have a:=h n (QzA ..);have h2:=Ahx (l:=l) (fun x hx=>h x (QzB _ hx));omega
theorem Zq{m:Int}(hm:0<=m):∀ (p:Mp) (l:List Mp),0<=p.1->-1<=p.2->(∀ x∈l,0<=x.1/\x.1<=63/\0<=x.2/\x.2<=m)->∀ n∈Pc p l,n<=m+64
 | _,[],_,_,_,n,hn=>by cases hn
 | p,h::r,a,h2,hl,n,hn=>by
  obtain⟨a1,a2,a3,a4⟩:=hl h (QzA ..);unfold Pc at hn
  rcases Qze.1 hn with hn | hn
  ·split at hn
   ·simp only [Qzy,List.not_mem_nil,or_false] at hn;omega
   ·simp only [Qzy,List.not_mem_nil,or_false] at hn;omega
  ·exact Zq hm h r a1 U (fun x hx=>hl x (QzB _ hx)) n hn
theorem Xh:∀ (p:Mp) (l:List Mp),(Pc p l).length=2 * l.length
 | _,[]=>rfl
 | p,h::r=>by
  unfold Pc;rw [Qzu,Xh h r,Qzj]
  split <;> simp <;> omega
theorem AeF{e:HM}{b:Nat}:(∀ x∈e,(Yd x).length<=b)->(e.flatMap Yd).length<=e.length * b:=by
 induction e with
 | nil=>intro _;simp
 | cons x e ih=>
  intro h;rw [Qxc,Qzu,Qzj,Nat.succ_mul];have a:=h x (QzA ..);have h2:=ih (fun y hy=>h y (QzB _ hy));omega
end Go.L
namespace Go.Proofs.YtekmbcbgknmhiaaGreatDoor
open Go Go.L
theorem Ac1{n:Int}(hn:n<16777216):GG n=some ((gzw n.toNat:Nat):Int):=by
 by_cases h:0<=n
 ·obtain⟨k,rfl⟩:=Int.eq_ofNat_of_zero_le h;rw [Qq8];exact Ae5 U
 ·unfold GG;rw [if_pos U,Int.toNat_of_nonpos U]
  rfl
theorem AeG{n:Int}(hn:n<16777216):gzw n.toNat<=47:=Aic (k:=24) U Qqc
theorem Ac2{n:Int}(hn:n<16777216){c:Int}(a:0<=c)(b:c<=1000000000000000000):AZ n c=some (c+((gzw n.toNat:Nat):Int)):=by
 unfold AZ;have:=AeG hn;rw [Ac1 hn,Qq6,Ad (by constructor <;> omega)]
theorem Zs:∀ (l:List Int) (c:Int),(∀ n∈l,n<16777216)->0<=c->c+(gs l:Int)<=1000000000000000000->fm AZ l c=some (c+(gs l:Int))
 | [],c,_,_,_=>by
  show some c=_
  congr 1
  have:gs []=0:=Z;omega
 | n::l,c,h,a,b=>by
  rw [Ab0] at b ⊢
  show(AZ n c).bind (fm AZ l)=_
  rw [Ac2 (h n (QzA ..)) a U,Qq6,Zs l _ (fun x hx=>h x (QzB _ hx)) U U]
  congr 1
  omega
theorem T1{items:List (List UInt8)}(hn:items.length<=64)(ht:∀ t∈items,t.length<=2048):(H7 0 items).length<=131136:=by
 have a:=Xd 0 items ht;omega
theorem AeH{items:List (List UInt8)}(hn:items.length<=64)(ht:∀ t∈items,t.length<=2048):(∀ n∈RD ((items.length:Int),E items),n<16777216)/\gs (RD ((items.length:Int),E items))<=1000000000000000/\∀ e∈E items,EB e:=by
 have hp:=T1 hn ht;have he:=AeE items
 have a:∀ e∈E items,(∀ n∈Yd e,n<16777216)/\(Yd e).length<=300000/\EB e:=fun e h=>by
  obtain⟨_,a2,a3,a4⟩:=Ajr hn ht h;refine⟨fun n hn'=>?_,?_,?_⟩
  ·unfold Yd at hn'
   rcases Qzy.1 hn' with rfl | hn'
   ·omega
   rcases Qze.1 hn' with hn' | hn'
   ·obtain⟨b,_,rfl⟩:=Qz4.1 hn';have:=b.toNat_lt;unfold TS;omega
   rcases Qzy.1 hn' with rfl | hn'
   ·omega
   ·have:=Zq (m:=2048) Qqc (0,-1) e.2 Qqc Qqc a4 n hn';omega
  ·unfold Yd;rw [Qzj,Qzu,Qzk,Qzj,Xh];omega
  ·exact⟨by omega,by omega,fun x hx=>by have:=a4 x hx;exact⟨by omega,by omega,by omega,by omega⟩⟩
 have h2:∀ n∈RD ((items.length:Int),E items),n<16777216:=fun n hn'=>by
  unfold RD at hn';simp only at hn'
  rcases Qzy.1 hn' with rfl | hn'
  ·omega
  rcases Qzy.1 hn' with rfl | hn'
  ·omega
  ·obtain⟨e,c,d⟩:=List.mem_flatMap.1 hn';exact(a e c).1 n d
 refine⟨h2,?_,fun e h=>(a e h).2.2⟩;have h3:=Ahx (b:=47) (fun n hn'=>AeG (h2 n hn'))
 have f:(RD ((items.length:Int),E items)).length<=2+(E items).length * 300000:=by
  unfold RD;have:=AeF (e:=E items) (b:=300000) (fun x hx=>(a x hx).2.1);simp only [Qzj];omega
 omega
theorem Zt{items:List (List UInt8)}(hn:items.length<=64)(ht:∀ t∈items,t.length<=2048)(hl:N5 0 items=none):
  Jl items=if 131072<gs (RD ((items.length:Int),E items)) then some ((0,[]),(14,-1)) else some (((items.length:Int),E items),(0,0)):=by
 have hp:=T1 hn ht;obtain⟨b,h2,h3⟩:=AeH hn ht;have he:=AeE items;have hm:=Ye (H7 0 items) [];rw [Qzf] at hm;rw [Acy,if_neg U,hl];simp only;unfold HR;rw [Aas _ _ ⟨Tz _ [] List.nodup_nil,fun x hx=>?_,by omega⟩ U]
 ·unfold HQ;have c:Rx ((H7 0 items).foldl Nj [])=E items:=Z;rw [c,Aid (a:=((items.length:Int),E items)) ⟨by simp only;omega,by simp only;omega⟩ (by simp only;omega) h3,Zs _ _ b U U,Qq6,Int.zero_add]
  by_cases h:131072<gs (RD ((items.length:Int),E items))
  ·rw [if_pos U,if_pos h];rfl
  ·rw [if_neg U,if_neg h];rfl
 ·rw [VE] at hx;have:=VH 0 items ht x (hx.resolve_left Qqd);unfold maxLen;omega
def total(items:List (List UInt8)):Nat:=(items.map Qxy).sum
theorem Xi{t:List UInt8}:∀ {items:List (List UInt8)},t∈items->t.length<=total items
 | [],h=>by cases h
 | x::r,h=>by
  have e:total (x::r)=x.length+total r:=by simp [total]
  rcases Qzy.1 h with rfl | h
  ·omega
  ·have:=Xi h;omega
end Go.Proofs.YtekmbcbgknmhiaaGreatDoor
end
noncomputable section
namespace Go.L
def zz(a:Int):Nat:=if 0<=a then(2 * a).toNat else(-2 * a - 1).toNat
theorem AiN{a:Int}(h:Bw a):zz a<18446744073709551616:=by unfold zz;unfold Bw at h;split <;> omega
def VI:Nat->Nat->List UInt8
 | 0,_=>[]
 | n+1,u=>if 128<=u then QzE (u % 128+128)::VI n (u / 128) else[QzE u]
def Pd(u:Nat):List UInt8:=VI 10 u
theorem Xj:∀ n u,(VI n u).length<=n
 | 0,_=>by simp [VI]
 | n+1,u=>by
  unfold VI
  split
  ·have:=Xj n (u / 128);simp only [Qzj];omega
  ·simp
theorem GN(u:Nat):(Pd u).length<=10:=Xj 10 u
set_option maxRecDepth 20000 in
theorem AiO(u:Nat):u8 (u:Int) ||| 128=QzE (u % 128+128):=by
 have h:∀ b:Fin 256,(QzE b.val ||| 128)=QzE (b.val % 128+128):=by decide
 have:=h ⟨u % 256,Nat.mod_lt _ Qqc⟩;dsimp only at this;unfold u8;rw [show((u:Int) % 256).toNat=u % 256 by omega,this]
 congr 2
 omega
theorem AeI{u:Nat}:u8 (u:Int)=QzE u:=by
 unfold u8;rw [show((u:Int) % 256).toNat=u % 256 by omega];apply UInt8.toNat.inj;simp
end Go.L
namespace Go.Proofs.YtekmbcbgknmhiaaGreatDoor
open Go Go.L
theorem Zu:∀ (n u:Nat) (L:List UInt8),u<128 ^ n->L.length+n<=1000->n<=10->1<=n->Go.L.run FU (L,(u:Int))=some (L++VI n u)
 | 0,_,_,_,_,_,h=>absurd h U
 | n+1,u,L,hu,hL,hn,_=>by
  unfold VI
  by_cases h:128<=u
  ·have b:1<=n:=by
    rcases Nat.eq_zero_or_pos n with a | a
    ·subst a;simp at hu;omega
    ·exact a
   have e:FU (L,(u:Int))=some (.inl (L++[QzE (u % 128+128)],((u / 128:Nat):Int))):=by
    unfold FU;dsimp only;rw [if_pos U,Ad (by unfold Go.E.Io;simp;omega),AiO]
    rfl
   rw [Bg e,Zu n (u / 128) _ (Nat.div_lt_of_lt_mul (by rw [Nat.pow_succ,Nat.mul_comm] at hu;exact hu)) (by simp;omega) U b,if_pos h];simp
  ·rw [if_neg h];refine AQ (m:=some (L++[QzE u])) ?_;unfold FU JW;dsimp only;rw [if_neg U,Ad (by unfold Go.E.Io;simp;omega),AeI]
theorem Aih{x:Int}:IntKind.u64.wrap x=x % 18446744073709551616:=by
 simp only [IntKind.wrap];simp [IntKind.bits,IntKind.signed]
theorem Ag6{k:Nat}(h:k<2 ^ 64):k ^^^ 18446744073709551615=18446744073709551615 - k:=by
 have h2:(BitVec.ofNat 64 k ^^^ BitVec.allOnes 64).toNat=(~~~ (BitVec.ofNat 64 k)).toNat:=by rw [BitVec.xor_allOnes]
 rw [BitVec.toNat_xor,BitVec.toNat_not,BitVec.toNat_ofNat,BitVec.toNat_allOnes,Nat.mod_eq_of_lt h] at h2;exact h2
theorem Ji{a:Int}(h:Bw a):DZ a=some (Pd (zz a)):=by
 have hz:=AiN h;unfold Bw at h;unfold DZ;simp only [Aih];rw [Ad U];unfold LL Pd
 have key:((((a % 18446744073709551616 * 2 % 18446744073709551616).toNat ^^^ (a / 9223372036854775808 % 18446744073709551616).toNat:Nat)):Int)=((zz a:Nat):Int):=by
  unfold zz
  by_cases b:0<=a
  ·rw [if_pos b,show a / 9223372036854775808 % 18446744073709551616=0 by omega];simp only [Int.toNat_zero,Nat.xor_zero];omega
  ·rw [if_neg b,show(a / 9223372036854775808 % 18446744073709551616).toNat=18446744073709551615 by omega,Ag6 U];omega
 rw [key,Zu 10 (zz a) [] (Nat.lt_trans hz Qqc) Qqc Qqc Qqc]
 rfl
end Go.Proofs.YtekmbcbgknmhiaaGreatDoor
end
noncomputable section
namespace Go.L
structure T2 (v:Pv):Prop where
 kind:v.f.1=1\/v.f.1=2\/v.f.1=3\/v.f.1=4
 num:v.f.1=1\/v.f.2.1=0
 bytes:v.f.1=2\/v.f.2.2.1=[]
 names:v.f.1=4\/v.f.2.2.2.1=[]
 parts:v.f.1=3\/v.f.1=4\/v.f.2.2.2.2=[]
 same:v.f.1=4->v.f.2.2.2.1.length=v.f.2.2.2.2.length
 many:v.f.2.2.2.2.length<=600
 S8:∀ x∈v.f.2.2.2.1,S8 x=true
 nd:v.f.2.2.2.1.Nodup
def Vd:Nat->Pv->Prop
 | 0,_=>False
 | d+1,v=>T2 v/\∀ p∈v.f.2.2.2.2,Vd d p
def Sm(B:Nat):Nat->Pv->Prop
 | 0,_=>True
 | d+1,v=>v.f.2.2.1.length<=B/\v.f.2.2.2.1.length<=B/\v.f.2.2.2.2.length<=B/\(∀ x∈v.f.2.2.2.1,x.length<=B)/\Bw v.f.1/\Bw v.f.2.1/\∀ p∈v.f.2.2.2.2,Sm B d p
def nodes:Nat->Pv->Nat
 | 0,_=>0
 | d+1,v=>1+(v.f.2.2.2.2.map (nodes d)).sum
end Go.L
namespace Go.Proofs.YtekmbcbgknmhiaaGreatDoor
open Go Go.L
theorem AeJ{l:List Int}(hl:l.length<=1000)(a:Int):BD l a=some (decide (a∈l)):=by
 have key:∀ (d i:Nat),i+d=l.length->∃ r,Go.L.run (Be l a) (i:Int)=some r/\(0<=r↔a∈l.drop i):=by
  intro d
  induction d with
  | zero=>
   intro i hi;refine⟨-1,AQ (m:=some (-1)) ?_,by rw [Qz5 U];simp⟩;unfold Be Dc;rw [if_neg U]
  | succ d ih=>
   intro i hi;have hil:i<l.length:=by omega
   rw [drop_cons hil]
   have hb:Be l a (i:Int)=if a=l.getD i Qq2 then some (.inr (i:Int)) else some (.inl ((i+1:Nat):Int)):=by
    unfold Be;rw [if_pos U,Ad U,Qq8,Ad (by unfold Bw;omega)]
    rfl
   by_cases h:a=l.getD i Qq2
   ·rw [if_pos h] at hb;exact⟨_,AQ (m:=some (i:Int)) hb,by rw [h];simp⟩
   ·rw [if_neg h] at hb;obtain⟨r,b,h2⟩:=ih (i+1) U;refine⟨r,by rw [Bg hb,b],h2.trans ?_⟩;rw [Qzy];exact⟨.inr,fun hh=>hh.resolve_left h⟩
 unfold BD DV DK;obtain⟨r,b,h2⟩:=key l.length 0 U;rw [show((0:Int))=((0:Nat):Int) from Z,b,Qq6];rw [QxE] at h2
 congr 1
 rw [QzD,decide_eq_true_eq,decide_eq_true_eq];exact h2
theorem AeK{l:List (List UInt8)}(hl:l.length<=1000000000000)(a:List UInt8):C1 l a=some (decide (a∈l)):=by
 have key:∀ (d i:Nat),i+d=l.length->∃ r,Go.L.run (BK l a) (i:Int)=some r/\(0<=r↔a∈l.drop i):=by
  intro d
  induction d with
  | zero=>
   intro i hi;refine⟨-1,AQ (m:=some (-1)) ?_,by rw [Qz5 U];simp⟩;unfold BK Dt;rw [if_neg U]
  | succ d ih=>
   intro i hi;have hil:i<l.length:=by omega
   rw [drop_cons hil]
   have hb:BK l a (i:Int)=if a=l.getD i Qq2 then some (.inr (i:Int)) else some (.inl ((i+1:Nat):Int)):=by
    unfold BK;rw [if_pos U,Ad U,Qq8,Ad (by unfold Bw;omega)]
    rfl
   by_cases h:a=l.getD i Qq2
   ·rw [if_pos h] at hb;exact⟨_,AQ (m:=some (i:Int)) hb,by rw [h];simp⟩
   ·rw [if_neg h] at hb;obtain⟨r,b,h2⟩:=ih (i+1) U;refine⟨r,by rw [Bg hb,b],h2.trans ?_⟩;rw [Qzy];exact⟨.inr,fun hh=>hh.resolve_left h⟩
 unfold C1 DW E0;obtain⟨r,b,h2⟩:=key l.length 0 U;rw [show((0:Int))=((0:Nat):Int) from Z,b,Qq6];rw [QxE] at h2
 congr 1
 rw [QzD,decide_eq_true_eq,decide_eq_true_eq];exact h2
theorem Aii{l:List (List UInt8)}(hl:l.length<=1000000000000):HA l=some (l.any fun x=>!S8 x):=by
 have key:∀ (d i:Nat),i+d=l.length->∃ r,Go.L.run (Ds l) (i:Int)=some r/\(0<=r↔(l.drop i).any (fun x=>!S8 x)=true):=by
  intro d
  induction d with
  | zero=>
   intro i hi;refine⟨-1,AQ (m:=some (-1)) ?_,by rw [Qz5 U];simp⟩;unfold Ds Hd;rw [if_neg U]
  | succ d ih=>
   intro i hi;have hil:i<l.length:=by omega
   rw [drop_cons hil]
   have hb:Ds l (i:Int)=if(!S8 (l.getD i Qq2))=true then some (.inr (i:Int)) else some (.inl ((i+1:Nat):Int)):=by
    unfold Ds I1;rw [if_pos U,Ad U,Qq8,Abo,Ad (by unfold Bw;omega)]
    rfl
   by_cases h:(!S8 (l.getD i Qq2))=true
   ·rw [if_pos h] at hb;exact⟨_,AQ (m:=some (i:Int)) hb,by rw [List.any_cons,h];simp⟩
   ·rw [if_neg h] at hb;obtain⟨r,a,h2⟩:=ih (i+1) U;refine⟨r,by rw [Bg hb,a],h2.trans ?_⟩;have hf:(!S8 (l.getD i Qq2))=false:=by simpa using h
    rw [List.any_cons,hf,Bool.false_or]
 unfold HA IX IM;obtain⟨r,a,h2⟩:=key l.length 0 U;rw [show((0:Int))=((0:Nat):Int) from Z,a,Qq6];rw [QxE] at h2
 congr 1
 rw [QzD,decide_eq_true_eq];exact h2
theorem Ab1{l:List (List UInt8)}(hl:l.length<=1000000000000):∀ (d i:Nat),i+d=l.length->(l.take i).Nodup->∃ c,Go.L.run (DE l) (i:Int)=some c/\(c=0->l.Nodup)
 | 0,i,hi,hn=>by
  refine⟨0,AQ (m:=some 0) ?_,fun _=>?_⟩
  ·unfold DE HO;rw [if_neg U]
  ·rwa [Qxz U] at hn
 | d+1,i,hi,hn=>by
  have hil:i<l.length:=by omega
  have hb:DE l (i:Int)=if l.getD i Qq2∈l.take i then some (.inr 8) else some (.inl ((i+1:Nat):Int)):=by
   unfold DE;rw [if_pos U,Ad U,Ad U,Qq8,AeK (by rw [QzK];omega),Qq6,Ad (by unfold Bw;omega)]
   by_cases h:l.getD i Qq2∈l.take i <;> simp [h]
  by_cases h:l.getD i Qq2∈l.take i
  ·rw [if_pos h] at hb;exact⟨8,AQ (m:=some 8) hb,fun hc=>by cases hc⟩
  ·rw [if_neg h] at hb
   obtain⟨c,f,h2⟩:=Ab1 hl d (i+1) U (by
    rw [QxX,Qzw hil];have e:l[i]=l.getD i Qq2:=by rw [Qq9,Qzw hil];rfl
    rw [e];exact Qk6.2 ⟨hn,QkZ _ _,fun a ha b hb e=>by rw [Qjz,QzX] at hb;subst hb;subst e;exact h ha⟩)
   exact⟨c,by rw [Bg hb,f],h2⟩
theorem AiP(a b:Int)(c:List UInt8){ns:List (List UInt8)}(hn:ns.length<=1000000000000)(ps:List Pv)(fl:Bool):∃ r,BN a b c ns ps fl=some r/\(r=0->fl=false/\ps.length<=600/\(∀ x∈ns,S8 x=true)/\ns.Nodup):=by
 unfold BN
 cases fl with
 | true=>exact⟨6,Z,fun h=>by cases h⟩
 | false=>
  rw [if_neg Qqc]
  by_cases d:(600:Int)<(ps.length:Int)
  ·rw [if_pos d];exact⟨14,Z,fun h=>by cases h⟩
  ·rw [if_neg d,Aii hn,Qq6]
   by_cases h2:(ns.any fun x=>!S8 x)=true
   ·rw [if_pos h2];exact⟨7,Z,fun h=>by cases h⟩
   ·rw [if_neg h2];obtain⟨r,h3,e⟩:=Ab1 hn ns.length 0 U Qqd;refine⟨r,h3,fun h=>⟨Z,by omega,fun x hx=>?_,e h⟩⟩
    cases hk:S8 x with
    | true=>rfl
    | false=>exact absurd (List.any_eq_true.2 ⟨x,hx,by simp [hk]⟩) h2
theorem vc1(l:List Int)(hl:l.length<=1000)(v:Pv):Cu l v=some (decide (v.f.1∈l),v):=by
 unfold Cu;rw [AeJ hl]
 rfl
set_option maxHeartbeats 4000000 in
theorem Yf(v:Pv)(hn:v.f.2.2.2.1.length<=1000000000000):∃ c,GY v=some c/\(c=0->T2 v):=by
 have fin:∀ fl:Bool,(fl=false->(v.f.1=1\/v.f.1=2\/v.f.1=3\/v.f.1=4)/\(v.f.1=1\/v.f.2.1=0)/\(v.f.1=2\/v.f.2.2.1=[])/\(v.f.1=4\/v.f.2.2.2.1=[])/\(v.f.1=3\/v.f.1=4\/v.f.2.2.2.2=[])/\(v.f.1=4->v.f.2.2.2.1.length=v.f.2.2.2.2.length))->
   ∃ c,BN v.f.1 v.f.2.1 v.f.2.2.1 v.f.2.2.2.1 v.f.2.2.2.2 fl=some c/\(c=0->T2 v):=by
  intro fl hfl;obtain⟨r,d,h2⟩:=AiP v.f.1 v.f.2.1 v.f.2.2.1 hn v.f.2.2.2.2 fl;refine⟨r,d,fun hr=>?_⟩;obtain⟨e,g,i,j⟩:=h2 hr;obtain⟨m,o,p,q,s,t⟩:=hfl e;exact⟨m,o,p,q,s,t,g,i,j⟩
 have a:=vc1 [1,2,3,4] Qqc v;have u:=vc1 [1] Qqc v;have w:=vc1 [2] Qqc v;have x:=vc1 [3,4] Qqc v;have y:=vc1 [4] Qqc v
 by_cases hk:v.f.1=1\/v.f.1=2\/v.f.1=3\/v.f.1=4
 ·have ev:Pv.mk v.f.1 v.f.2.1 v.f.2.2.1 v.f.2.2.2.1 v.f.2.2.2.2=v:=by cases v;rfl
  unfold GY Gq Gp Gn;simp only [a,u,w,x,y,ev,Qq6];generalize v.f.1=k at *;generalize v.f.2.1=n at *;generalize v.f.2.2.1=b at *;generalize v.f.2.2.2.1=ns at *;generalize v.f.2.2.2.2=ps at *
  have hb:b=[]\/(0:Int)<(b.length:Int):=by cases b with
   | nil=>exact .inl Z
   | cons _ _=>exact .inr (by simp only [Qzj];omega)
  have hm:ns=[]\/(0:Int)<(ns.length:Int):=by cases ns with
   | nil=>exact .inl Z
   | cons _ _=>exact .inr (by simp only [Qzj];omega)
  have hp:ps=[]\/(0:Int)<(ps.length:Int):=by cases ps with
   | nil=>exact .inl Z
   | cons _ _=>exact .inr (by simp only [Qzj];omega)
  rcases hk with rfl | rfl | rfl | rfl <;> by_cases hz:n=0 <;> rcases hb with rfl | hb <;> rcases hm with rfl | hm <;> rcases hp with rfl | hp <;>
   simp +decide only [*,if_true,if_false,Qzf,Bool.not_true,Qx9,Qz1,decide_true,decide_false,Int.lt_irrefl,Int.natCast_zero] <;>
   (refine fin _ fun hfl=>?_) <;> simp_all <;> omega
 ·refine⟨5,?_,fun h=>by cases h⟩;unfold GY;rw [a,Qq6];rw [if_pos (by simp [hk])]
end Go.Proofs.YtekmbcbgknmhiaaGreatDoor
end
noncomputable section
namespace Go.Proofs.YtekmbcbgknmhiaaGreatDoor
open Go Go.L
abbrev En:Type:=Lf×List Int
end Go.Proofs.YtekmbcbgknmhiaaGreatDoor
end
noncomputable section
namespace Go.L
def VJ{α:Type}(f:List α->Bool):List α->Bool
 | []=>f []
 | y::q=>f (y::q)||VJ f q
def fits:List (List UInt8)->List (List UInt8)->Bool
 | [],q=>decide (q.length=0)
 | x::p,q=>if x=[42,42] then VJ (fun r=>fits p r) q else match q with
  | []=>false
  | y::q'=>(decide (x=[42])||decide (x=y))&&fits p q'
def kp(l:List (List UInt8))(j:Nat):Bool:=decide (j=0\/¬ (l.getD j Qq2=[42,42]/\l.getD (j - 1) Qq2=[42,42]))
def kept(l:List (List UInt8))(m:Nat):List (List UInt8):=((Qzv m).filter (kp l)).map fun j=>l.getD j Qq2
theorem T3(l:List (List UInt8))(m:Nat):kept l (m+1)=kept l m++if kp l m then[l.getD m Qq2] else[]:=by
 unfold kept;rw [Qx2,List.filter_append,Qxd]
 congr 1
 by_cases h:kp l m=true <;> simp [h]
theorem AeL(l:List (List UInt8))(m:Nat):(kept l m).length<=m:=by
 unfold kept;rw [Qzk];exact Qz2 (List.length_filter_le _ _) Qqd
theorem VK{l:List (List UInt8)}{m:Nat}(hm:m<=l.length)(h:∀ j,j<m->kp l j=true):kept l m=l.take m:=by
 induction m with
 | zero=>rfl
 | succ m ih=>
  rw [T3,ih U (fun j hj=>h j U),h m U,if_pos Z,QxX,Qzw (by omega:m<l.length)];simp [Qq9,Qzw (by omega:m<l.length)]
end Go.L
namespace Go.Proofs.YtekmbcbgknmhiaaGreatDoor
open Go Go.L
theorem Ag7{self:List (List UInt8)->List (List UInt8)->Option Bool}{p q:List (List UInt8)}{x:List UInt8}(hq:q.length<=1000000000000)(hs:∀ r:List (List UInt8),r.length<=q.length->self p r=some (fits p r)):
  ∀ (d i:Nat),i+d=q.length->Go.L.run (Cy (x::p) q self) (i:Int)=some (VJ (fun r=>fits p r) (q.drop i)):=by
 have hend:Go.L.run (Cy (x::p) q self) ((q.length+1:Nat):Int)=some false:=by
  refine AQ (m:=some false) ?_;unfold Cy GC;rw [if_neg U]
 have hb:∀ i:Nat,i<=q.length->Cy (x::p) q self (i:Int)=if fits p (q.drop i) then some (.inr true) else some (.inl ((i+1:Nat):Int)):=by
  intro i hi;unfold Cy;have a:((x::p).drop (1:Int).toNat)=p:=Z;rw [if_pos U,Ad (by simp only [Qzj];omega),Ad U,a,Qq8,hs _ Qqd,Qq6,Ad (by unfold Bw;omega)]
  rfl
 intro d
 induction d with
 | zero=>
  intro i hi;obtain rfl:i=q.length:=by omega
  have h:=hb q.length (Qzx _);rw [Qz5 (Qzx _)] at h ⊢;unfold VJ
  by_cases hf:fits p []=true
  ·rw [if_pos hf] at h;rw [AQ (m:=some true) h,hf]
  ·rw [if_neg hf] at h;rw [Bg h,hend]
   simpa using hf
 | succ d ih=>
  intro i hi;have h:=hb i U;rw [drop_cons (by omega:i<q.length)] at h ⊢;unfold VJ
  by_cases hf:fits p (q.getD i Qq2::q.drop (i+1))=true
  ·rw [if_pos hf] at h;rw [AQ (m:=some true) h,hf]
   rfl
  ·rw [if_neg hf] at h;rw [Bg h,ih (i+1) U];have:fits p (q.getD i Qq2::q.drop (i+1))=false:=by simpa using hf
   rw [this,Bool.false_or]
theorem Ab2:∀ (p:List (List UInt8)) (n:Nat) (q:List (List UInt8)),p.length<n->q.length<=1000000000000->EE n p q=some (fits p q)
 | [],0,_,h,_=>by simp at h
 | _::_,0,_,h,_=>by simp at h
 | [],n+1,q,_,hq=>by
  show DJ (EE n) [] q=_
  unfold DJ fits;rw [if_pos (show((([]:List (List UInt8)).length:Nat):Int)=0 from Z)]
  congr 1
  rw [decide_eq_decide];omega
 | x::p,n+1,q,hp,hq=>by
  show DJ (EE n) (x::p) q=_
  have ih:∀ r:List (List UInt8),r.length<=q.length->EE n p r=some (fits p r):=fun r hr=>Ab2 p n r (by simp at hp;omega) U;unfold DJ fits;have hg:(x::p).getD ((0:Int).toNat) Qq2=x:=Z;rw [if_neg (by simp only [Qzj];omega),Ad (by simp only [Qzj];omega),hg]
  by_cases hx:x=[42,42]
  ·rw [if_pos hx,if_pos hx,Ad (by unfold Bw;omega)];exact Ag7 (x:=x) hq ih q.length 0 U
  ·rw [if_neg hx,if_neg hx];unfold GD
   cases q with
   | nil=>rfl
   | cons y q'=>
    have b:(0:Int)<((y::q').length:Int):=by simp only [Qzj];omega
    have h2:(0:Int)<=0/\(0:Int)<((x::p).length:Int):=by simp only [Qzj];omega
    have h3:(0:Int)<=1/\(1:Int)<=((x::p).length:Int):=by simp only [Qzj];omega
    have c:(0:Int)<=1/\(1:Int)<=((y::q').length:Int):=by simp only [Qzj];omega
    have d:(0:Int)<=0/\(0:Int)<((y::q').length:Int):=by simp only [Qzj];omega
    have e:(x::p).drop (1:Int).toNat=p:=Z;have f:(y::q').drop (1:Int).toNat=q':=Z;have g:(y::q').getD ((0:Int).toNat) Qq2=y:=Z;rw [if_pos b];simp only [Ad h2,Ad h3,Ad c,Ad d,hg,e,f,g,ih q' Qqd,Qq6]
    by_cases a:x=[42]
    ·rw [if_pos a];simp [a]
    ·rw [if_neg a]
     by_cases i:x=y <;> simp [a,i]
theorem Ab3(a b:List UInt8):Gk a b=some (decide (a=[42,42]/\b=[42,42])):=by
 unfold Gk
 by_cases h:a=[42,42] <;> simp [h]
def col(l:List (List UInt8)):List (List UInt8):=kept l l.length
theorem Ag8(l:List (List UInt8)):(col l).length<=l.length:=AeL l l.length
theorem AiR{l:List (List UInt8)}(hl:l.length<=1000000000000){a:Nat}(e:1<=a)(hk:a<l.length)(hall:∀ j,j<a->kp l j=true)(hno:kp l a=false):
  Co (a:Int) (l,(a:Int),(1:Int))=some (.inr (col l)):=by
 unfold Co;refine AaM (fun s=>∃ (m:List (List UInt8)) (k b:Nat),s=(m,(k:Int),(b:Int))/\m.length=l.length/\m.drop (a+b - 1)=l.drop (a+b - 1)/\m.take k=kept l (a+b)/\k=(kept l (a+b)).length/\k<=a+b - 1/\1<=b/\a+b<=l.length) (fun s=>l.length - s.2.2.toNat) ?_ ?_
 ·rintro _ ⟨m,k,b,rfl,hm,hd,ht,hkl,hkk,h2,hle⟩;have hdl:(m.drop a).length=l.length - a:=by rw [QzJ,hm]
  by_cases hc:a+b<l.length
  ·left
   have c:(m.drop a).getD b Qq2=l.getD (a+b) Qq2:=by
    have:(m.drop (a+b - 1))[1]? = (l.drop (a+b - 1))[1]?:=by rw [hd]
    rw [Qxj,Qxj,show a+b - 1+1=a+b by omega] at this;rw [Qq9,Qq9,Qxj,this]
   have d:(m.drop a).getD (b - 1) Qq2=l.getD (a+b - 1) Qq2:=by
    have:(m.drop (a+b - 1))[0]? = (l.drop (a+b - 1))[0]?:=by rw [hd]
    rw [Qxj,Qxj,Qxq] at this;rw [Qq9,Qq9,Qxj,show a+(b - 1)=a+b - 1 by omega,this]
   have hks:=T3 l (a+b)
   by_cases hp:kp l (a+b)=true
   ·refine⟨(m.set k (l.getD (a+b) Qq2),((k+1:Nat):Int),((b+1:Nat):Int)),?_,⟨_,k+1,b+1,Z,by rw [QkQ,hm],?_,?_,?_,by omega,by omega,by omega⟩,by simp only [Qq8];omega⟩
    ·unfold BF;dsimp only;rw [Qq8,if_pos U,Ad U,Ad (by unfold Bw;omega),Ad U,Qq8,show((b:Int) - 1).toNat=b - 1 by omega,c,d,Ab3,Qq6]
     have hx:decide (l.getD (a+b) Qq2=[42,42]/\l.getD (a+b - 1) Qq2=[42,42])=false:=by
      unfold kp at hp;rw [decide_eq_true_eq] at hp;rw [decide_eq_false_iff_not]
      rcases hp with hp | hp
      ·omega
      ·exact hp
     rw [hx,if_pos Qqc,Ad U,Ad U,Ad (by unfold Bw;omega),Ad (by unfold Bw;omega),Qq8]
     rfl
    ·rw [show a+(b+1) - 1=a+b by omega,List.drop_set_of_lt U];have:(m.drop (a+b - 1)).drop 1=(l.drop (a+b - 1)).drop 1:=by rw [hd]
     rwa [Qkw,Qkw,show a+b - 1+1=a+b by omega] at this
    ·rw [show a+(b+1)=a+b+1 by omega,hks,if_pos hp,QxX,List.take_set_of_le (Qzx _),ht,List.getElem?_set_self U]
     rfl
    ·rw [show a+(b+1)=a+b+1 by omega,hks,if_pos hp,Qzu,<- hkl];rfl
   ·have hp':kp l (a+b)=false:=by simpa using hp
    refine⟨(m,(k:Int),((b+1:Nat):Int)),?_,⟨m,k,b+1,Z,hm,?_,?_,?_,by omega,by omega,by omega⟩,by simp only [Qq8];omega⟩
    ·unfold BF;dsimp only;rw [Qq8,if_pos U,Ad U,Ad (by unfold Bw;omega),Ad U,Qq8,show((b:Int) - 1).toNat=b - 1 by omega,c,d,Ab3,Qq6]
     have hx:decide (l.getD (a+b) Qq2=[42,42]/\l.getD (a+b - 1) Qq2=[42,42])=true:=by
      unfold kp at hp';rw [decide_eq_false_iff_not] at hp';rw [decide_eq_true_eq];exact Decidable.not_not.1 (fun hh=>hp' (.inr hh))
     rw [hx,if_neg Qqc,Ad (by unfold Bw;omega)]
     rfl
    ·rw [show a+(b+1) - 1=a+b by omega];have:(m.drop (a+b - 1)).drop 1=(l.drop (a+b - 1)).drop 1:=by rw [hd]
     rwa [Qkw,Qkw,show a+b - 1+1=a+b by omega] at this
    ·rw [show a+(b+1)=a+b+1 by omega,hks,hp']
     simpa using ht
    ·rw [show a+(b+1)=a+b+1 by omega,hks,hp']
     simpa using hkl
  ·right
   have he:a+b=l.length:=by omega
   unfold BF Cn;dsimp only;rw [Qq8,if_neg U,Qq8,Ad U,Ad (by simp;omega)]
   congr 1
   have htl:(m.take k).length=k:=by rw [QzK];omega
   rw [show(m.take k++Qzz (m.length - k) ([]:List UInt8)).take k=m.take k by rw [List.take_append_of_le_length U,Qxz U],ht,he]
   rfl
 ·have hks:=T3 l a;have hka:=VK (l:=l) (m:=a) U hall;refine⟨l,a,1,Z,Z,Z,?_,?_,by omega,by omega,by omega⟩
  ·rw [hks,hno,hka];simp
  ·rw [hks,hno,hka];simp;omega
theorem Aij{l:List (List UInt8)}(hl:l.length<=1000000000000):∀ (d k:Nat),k+d=l.length->1<=k->(∀ j,j<k->kp l j=true)->Go.L.run Bo (l,(k:Int))=some (col l):=by
 intro d
 induction d with
 | zero=>
  intro k hk a hall;refine AQ (m:=some (col l)) ?_;unfold Bo Cq;dsimp only;rw [if_neg U];unfold col;rw [VK (Qzx _) (fun j hj=>hall j U),Qx4]
 | succ d ih=>
  intro k hk a hall
  by_cases hp:kp l k=true
  ·have hb:Bo (l,(k:Int))=some (.inl (l,((k+1:Nat):Int))):=by
    unfold Bo;dsimp only;rw [if_pos U,Ad U,Ad (by unfold Bw;omega),Ad U,Qq8,show((k:Int) - 1).toNat=k - 1 by omega,Ab3,Qq6]
    have hx:decide (l.getD k Qq2=[42,42]/\l.getD (k - 1) Qq2=[42,42])=false:=by
     unfold kp at hp;rw [decide_eq_true_eq] at hp;rw [decide_eq_false_iff_not]
     rcases hp with hp | hp
     ·omega
     ·exact hp
    rw [hx,if_neg Qqc];unfold Cp;rw [Ad (by unfold Bw;omega)]
    rfl
   rw [Bg hb];refine ih (k+1) U U (fun j hj=>?_)
   rcases Nat.lt_succ_iff_lt_or_eq.1 hj with h | rfl
   ·exact hall j h
   ·exact hp
  ·have hp':kp l k=false:=by simpa using hp
   refine AQ (m:=some (col l)) ?_;unfold Bo;dsimp only;rw [if_pos U,Ad U,Ad (by unfold Bw;omega),Ad U,Qq8,show((k:Int) - 1).toNat=k - 1 by omega,Ab3,Qq6]
   have hx:decide (l.getD k Qq2=[42,42]/\l.getD (k - 1) Qq2=[42,42])=true:=by
    unfold kp at hp';rw [decide_eq_false_iff_not] at hp';rw [decide_eq_true_eq];exact Decidable.not_not.1 (fun hh=>hp' (.inr hh))
   rw [hx,if_pos Z,Ad U,AiR hl a U hall hp']
   rfl
theorem AeM{l:List (List UInt8)}(hl:l.length<=1000000000000):Cc l=some (col l):=by
 unfold Cc
 have a:∀ j,j<1->kp l j=true:=fun j hj=>by
  have:j=0:=by omega
  subst this;unfold kp;simp
 by_cases h:(l.length:Int)<2
 ·rw [if_pos h];unfold col;rw [VK (Qzx _) (fun j hj=>a j U),Qx4]
 ·rw [if_neg h];exact Aij hl (l.length - 1) 1 U (Qzx _) a
theorem RV{a b:List UInt8}(ha:a.length<900)(hb:b.length<4294967281):DT a b=some (fits (col (sl a)) (sl b)):=by
 unfold DT;have hla:=Aeb a;have hlb:=Aeb b;have:=Ag8 (sl a);rw [V3 U,Qq6,AeM U,Qq6,V3 U,Qq6];have hf:LI (col (sl a)) (sl b)=some (fits (col (sl a)) (sl b)):=Ab2 (col (sl a)) 1000 (sl b) U U;rw [hf]
 rfl
theorem Yg(a:List UInt8):(pf a).1=0->pf a=(0,0)/\a.length<=64:=by
 unfold pf
 split
 ·intro h;simp at h
 ·split
  ·intro h;simp at h
  ·intro _;exact⟨Z,by omega⟩
end Go.Proofs.YtekmbcbgknmhiaaGreatDoor
end
noncomputable section
namespace Go.L
def VL(s:List UInt8):List UInt8:=Pd (zz (s.length:Int))++s
def Aax(l:List Int):List UInt8:=Pd (zz (l.length:Int))++l.flatMap fun i=>Pd (zz i)
end Go.L
namespace Go.Proofs.YtekmbcbgknmhiaaGreatDoor
open Go Go.L
def SG(e:En):List UInt8:=[VL e.1.1,Pd (zz e.1.2.1),Pd (zz e.1.2.2.1),VL e.1.2.2.2,Aax e.2].flatten
def Ab4(n:Int)(es:List En):List UInt8:=Pd (zz n)++(Pd (zz (es.length:Int))++es.flatMap SG)
def EnS(e:En):Prop:=e.1.1.length<=2000000/\Bw e.1.2.1/\Bw e.1.2.2.1/\e.1.2.2.2.length<=2000000/\(∀ z∈e.2,Bw z)/\e.2.length<=1000000
theorem Pe(l:List Int):(l.flatMap fun i=>Pd (zz i)).length<=10 * l.length:=by
 induction l with
 | nil=>simp
 | cons a l ih=>rw [Qxc,Qzu,Qzj];have:=GN (zz a);omega
theorem Oq{α β:Type}[Inhabited α](f:α->List β){l:List α}{i:Nat}(h:i<l.length):(l.take (i+1)).flatMap f=(l.take i).flatMap f++f (l.getD i Qq2):=by
 rw [QxX,Qzw h,Qjz,List.flatMap_append];simp [Qq9,Qzw h]
theorem Ag9{l:List Int}(h:∀ z∈l,Bw z)(hl:l.length<=1000000):JB l=some (Aax l):=by
 unfold JB;rw [Ji (by unfold Bw;omega),Qq6];unfold Kq;have b:=GN (zz (l.length:Int));refine Fb (fun i=>(Pd (zz (l.length:Int))++(l.take i).flatMap (fun i=>Pd (zz i)),((i:Nat):Int))) l.length (fun i hi=>?_) ?_ 0 |> fun hh=>by simpa using hh
 ·unfold GP;dsimp only;have a:=Pe (l.take i);have h2:=GN (zz (l.getD i Qq2));rw [QzK] at a;rw [if_pos U,Ad U,Qq8,Ji (h _ (Et hi)),Qq6,Ad (by unfold Go.E.Io;simp only [Qzu];omega),Ad (by unfold Bw;omega),Oq _ hi,QxZ]
  rfl
 ·unfold GP IZ;dsimp only;rw [if_neg U,Qx4]
  rfl
theorem RE{α:Type}:∀ (L:List (List α)) (i:Nat),(L.take i).flatten.length<=L.flatten.length
 | [],i=>by simp
 | x::L,0=>by simp
 | x::L,i+1=>by have:=RE L i;simp only [List.take_succ_cons,List.flatten_cons,Qzu];omega
theorem Ml{α:Type}{L:List (List α)}{i:Nat}(h:i<L.length):(L.take (i+1)).flatten=(L.take i).flatten++L.getD i Qq2:=by
 rw [QxX,Qzw h,Qjz,List.flatten_append];simp [Qq9,Qzw h]
theorem AgA{n:Int}(h:0<=n/\n<=1000000000000):E5 [] n=some []:=by
 unfold E5 EH;rw [if_neg U,Ad (by unfold Bw;omega),Ad (by unfold Bw;omega)]
 split
 ·rw [Ad U]
 ·rfl
theorem Ac4{L:List (List UInt8)}(hL:L.length<=1000)(ht:L.flatten.length<=1000000000000):DL L=some L.flatten:=by
 have hx:∀ i,i<L.length->(L.take i).flatten.length+(L.getD i Qq2).length<=1000000000000:=fun i hi=>by
  have a:=RE L (i+1);rw [Ml hi,Qzu] at a;omega
 have b:De L (L.flatten.length:Int)=some L.flatten:=by
  unfold De;rw [AgA U,Qq6];unfold Fw;refine Fb (fun i=>((L.take i).flatten,((i:Nat):Int))) L.length (fun i hi=>?_) ?_ 0
  ·unfold CQ;dsimp only;have:=hx i hi;rw [if_pos U,Ad U,Qq8,Ad (by unfold Go.E.Io;omega),Ad (by unfold Bw;omega),Ml hi]
   rfl
  ·unfold CQ Eb;dsimp only;rw [if_neg U,Qx4]
 unfold DL Fx;refine Fb (fun i=>(((L.take i).flatten.length:Int),((i:Nat):Int))) L.length (fun i hi=>?_) ?_ 0
 ·unfold CR;dsimp only;have:=hx i hi;rw [if_pos U,Ad U,Qq8,Ad (by unfold Bw;omega),if_neg U,Ad (by unfold Bw;omega),Ml hi,Qzu]
  rfl
 ·unfold CR;dsimp only;rw [if_neg U,Qx4,b]
theorem Rk{e:En}(h:EnS e):(SG e).length<=20000000:=by
 obtain⟨a,_,_,b,_,c⟩:=h;unfold SG VL Aax;simp only [List.flatten_cons,List.flatten_nil,Qzu,Qzf];have:=Pe e.2;have:=GN (zz (e.1.1.length:Int));have:=GN (zz e.1.2.1);have:=GN (zz e.1.2.2.1);have:=GN (zz (e.1.2.2.2.length:Int));have:=GN (zz (e.2.length:Int));omega
theorem Zv{s:List UInt8}(h:s.length<=2000000):HP s=some (VL s):=by
 unfold HP VL;have:=GN (zz (s.length:Int));rw [Ji (by unfold Bw;omega),Qq6,Ad (by unfold Go.E.Io;omega)]
theorem AgB{e:En}(h:EnS e):Ka e=some (SG e):=by
 have hl:=Rk h;obtain⟨a,h2,h3,b,c,d⟩:=h;unfold Ka;rw [Ad U,Zv a,Qq6,Ji h2,Qq6,Ji h3,Qq6,Ad U,Zv b,Qq6,Ag9 c d,Qq6,Ac4 Qqd (by unfold SG at hl;omega)]
 rfl
theorem NY{α β:Type}(f:α->List β)(B:Nat):∀ {l:List α},(∀ x∈l,(f x).length<=B)->(l.flatMap f).length<=l.length * B
 | [],_=>by simp
 | x::l,h=>by
  rw [Qxc,Qzu,Qzj,Qx7];have:=h x (.head _);have:=NY f B fun y hy=>h y (.tail _ hy);omega
theorem AeN{n:Int}{es:List En}(hn:Bw n)(hl:es.length<=1000000)(h:∀ e∈es,EnS e):Gr (n,es)=some (Ab4 n es):=by
 have ht:=NY SG 20000000 (l:=es) fun x hx=>Rk (h x hx);have b:=GN (zz (es.length:Int));have c:=GN (zz n)
 have hw:Ly es=some (Pd (zz (es.length:Int))++es.flatMap SG):=by
  unfold Ly;rw [Ji (by unfold Bw;omega),Qq6];unfold LP;refine Fb (fun i=>(Pd (zz (es.length:Int))++(es.take i).flatMap SG,((i:Nat):Int))) es.length (fun i hi=>?_) ?_ 0 |> fun hh=>by simpa using hh
  ·unfold Is;dsimp only;have a:=NY SG 20000000 (l:=es.take i) fun x hx=>Rk (h x (List.mem_of_mem_take hx));rw [QzK] at a;have d:=Rk (h _ (Et hi));have f:min i es.length * 20000000<=1000000 * 20000000:=Qky _ U;rw [if_pos U,Ad U,Qq8]
   show(Ka (es.getD i Qq2)).bind _=_
   rw [AgB (h _ (Et hi)),Qq6,Ad (by unfold Go.E.Io;simp only [Qzu];omega),Ad (by unfold Bw;omega),Oq _ hi,QxZ]
   rfl
  ·unfold Is Kb;dsimp only;rw [if_neg U,Qx4]
 unfold Gr;dsimp only;have g:es.length * 20000000<=1000000 * 20000000:=Qky _ hl;rw [Ji hn,Qq6,hw,Qq6,Ad (by unfold Go.E.Io;simp only [Qzu];omega)]
 rfl
structure EV (n:Int) (e:En):Prop where
 path:e.1.1.length<=330/\¬ 0<=wr false 0 (sl e.1.1)
 kind:1<=e.1.2.1/\e.1.2.1<=4
 num:e.1.2.2.1=0\/e.1.2.1=1
 text:e.1.2.2.2=[]\/e.1.2.1=2
 ne:e.2≠[]
 items:∀ z∈e.2,0<=z/\z<n
 inc:e.2.Pairwise (fun a b=>a<b)
end Go.Proofs.YtekmbcbgknmhiaaGreatDoor
end
noncomputable section
namespace Go.L
def Ap{α:Type}(m m':Option α):Prop:=∀ r,m=some r->m'=some r
theorem apR{α:Type}(m:Option α):Ap m m:=fun _ h=>h
theorem apB{α β:Type}{m m':Option α}{f f':α->Option β}(h:Ap m m')(k:∀ x,Ap (f x) (f' x)):Ap (Qq4 m f) (Qq4 m' f'):=fun r e=>by
 obtain⟨x,a,h2⟩:=bind_some e;rw [h x a,Qq6];exact k x r h2
theorem apC{α:Type}{p:Prop}[Decidable p]{m m':Option α}(h:Ap m m'):Ap (Go.L.AO p m) (Go.L.AO p m'):=fun r e=>by
 obtain⟨a,h2⟩:=G6 e;rw [Ad a];exact h r h2
theorem apI{α:Type}{p:Prop}[Decidable p]{a b a' b':Option α}(h:Ap a a')(k:Ap b b'):Ap (if p then a else b) (if p then a' else b'):=fun r e=>by
 by_cases hp:p
 ·rw [if_pos hp] at e ⊢;exact h r e
 ·rw [if_neg hp] at e ⊢;exact k r e
theorem apM{α β:Type}{f:α->β}{m m':Option α}(h:Ap m m'):Ap (Qq7 f m) (Qq7 f m'):=fun r e=>by
 cases m with
 | none=>cases e
 | some x=>rw [h x Z];exact e
theorem apO{α β:Type}{x:Option α}{ex ex':Option β}{k k':α->Option β}(h:Ap ex ex')(hk:∀ y,Ap (k y) (k' y)):Ap (Go.L.ZG x ex k) (Go.L.ZG x ex' k'):=by
 cases x with
 | none=>exact h
 | some y=>exact hk y
theorem Ap.HG{σ ρ:Type}{b b':σ->Option (σ ⊕ ρ)}(h:∀ s,Ap (b s) (b' s)):∀ (n:Nat) (s:σ),Ap (HG b n s) (HG b' n s)
 | 0,_=>fun _ e=>by cases e
 | n+1,s=>fun r e=>by
  obtain⟨m,x,hm,a,h2⟩:=AY e;obtain rfl:n=m:=by omega
  rw [Go.L.HG,h s x a]
  cases x with
  | inl s'=>exact Ap.HG h n s' r h2
  | inr y=>exact congrArg some h2
theorem Ap.run{σ ρ:Type}{b b':σ->Option (σ ⊕ ρ)}(h:∀ s,Ap (b s) (b' s))(n:Nat)(s:σ):Ap (Go.L.HG b n s) (Go.L.run b' s):=fun r e=>Xv (Ap.HG h n s r e)
class Mi {α:Type} (m:Option α) where
 c:Option α
 h:Ap c m
noncomputable instance {α:Type} (x:α):Mi (some x):=⟨some x,apR _⟩
noncomputable instance {α:Type}:Mi (none:Option α):=⟨none,apR _⟩
noncomputable instance iB {α β:Type} (m:Option α) (f:α->Option β) [i:Mi m] [j:∀ x,Mi (f x)]:Mi (Qq4 m f):=⟨Qq4 i.c fun x=>(j x).c,apB i.h fun x=>(j x).h⟩
noncomputable instance iC {α:Type} (p:Prop) [Decidable p] (m:Option α) [i:Mi m]:Mi (Go.L.AO p m):=⟨Go.L.AO p i.c,apC i.h⟩
noncomputable instance iI {α:Type} (p:Prop) [Decidable p] (a b:Option α) [i:Mi a] [j:Mi b]:Mi (if p then a else b):=⟨if p then i.c else j.c,apI i.h j.h⟩
noncomputable instance {α β:Type} (f:α->β) (m:Option α) [i:Mi m]:Mi (Qq7 f m):=⟨Qq7 f i.c,apM i.h⟩
noncomputable instance {α β:Type} (x:Option α) (ex:Option β) (k:α->Option β) [i:Mi ex] [j:∀ y,Mi (k y)]:Mi (Go.L.ZG x ex k):=⟨Go.L.ZG x i.c fun y=>(j y).c,apO i.h fun y=>(j y).h⟩
noncomputable instance {σ ρ:Type} (b:σ->Option (σ ⊕ ρ)) (s:σ) [i:∀ s,Mi (b s)]:Mi (Go.L.run b s):=⟨Go.L.HG (fun s=>(i s).c) 300 s,Ap.run (fun s=>(i s).h) 300 s⟩
end Go.L
namespace Go.L
def Ac5{α:Type}(le:α->α->Bool)(a:α):List α->List α
 | []=>[a]
 | b::l=>if le a b then a::b::l else b::Ac5 le a l
def isB{α:Type}(le:α->α->Bool):List α->List α
 | []=>[]
 | a::l=>Ac5 le a (isB le l)
section
variable {α:Type} {le:α->α->Bool}
theorem T5(a:α):∀ l:List α,(Ac5 le a l).Perm (a::l)
 | []=>.refl _
 | b::l=>by
  unfold Ac5
  split
  ·exact .refl _
  ·exact((T5 a l).cons b).trans (.swap a b l)
theorem Zw:∀ l:List α,(isB le l).Perm l
 | []=>.refl _
 | a::l=>(T5 a _).trans ((Zw l).cons a)
theorem TT(htr:∀ a b c,le a b=true->le b c=true->le a c=true)(hto:∀ a b,le a b=true\/le b a=true)(a:α):∀ l:List α,l.Pairwise (fun x y=>le x y=true)->(Ac5 le a l).Pairwise fun x y=>le x y=true
 | [],_=>QkZ _ _
 | b::l,h=>by
  unfold Ac5
  split
  ·rename_i d;refine .cons (fun x hx=>?_) h
   rcases Qzy.1 hx with rfl | hx
   ·exact d
   ·exact htr _ _ _ d ((Qz0.1 h).1 x hx)
  ·rename_i d;have h2:le b a=true:=by rcases hto a b with h | h;exact absurd h d;exact h
   refine .cons (fun x hx=>?_) (TT htr hto a l (Qz0.1 h).2)
   rcases Qzy.1 ((T5 a l).mem_iff.1 hx) with rfl | hx
   ·exact h2
   ·exact(Qz0.1 h).1 x hx
theorem RW(htr:∀ a b c,le a b=true->le b c=true->le a c=true)(hto:∀ a b,le a b=true\/le b a=true):∀ l:List α,(isB le l).Pairwise fun x y=>le x y=true
 | []=>.nil
 | a::l=>TT htr hto a _ (RW htr hto l)
theorem Xk(has:∀ a b,le a b=true->le b a=true->a=b):∀ {l m:List α},l.Perm m->l.Pairwise (fun x y=>le x y=true)->m.Pairwise (fun x y=>le x y=true)->l=m
 | [],m,hp,_,_=>hp.nil_eq
 | a::l,m,hp,hl,hm=>by
  cases m with
  | nil=>exact absurd hp.symm.nil_eq Qqd
  | cons b m=>
   obtain⟨d,e⟩:=Qz0.1 hl;obtain⟨f,g⟩:=Qz0.1 hm
   have hab:a=b:=by
    rcases Qzy.1 (hp.mem_iff.1 (.head _)) with c | c
    ·exact c
    ·rcases Qzy.1 (hp.mem_iff.2 (.head _)) with h2 | h2
     ·exact h2.symm
     ·exact has a b (d b h2) (f a c)
   subst hab;rw [Xk has hp.cons_inv e g]
theorem Yh(htr:∀ a b c,le a b=true->le b c=true->le a c=true)(hto:∀ a b,le a b=true\/le b a=true)(has:∀ a b,le a b=true->le b a=true->a=b)(l:List α):isB le l=l.mergeSort le:=
 Xk has ((Zw l).trans (Qkz l _).symm) (RW htr hto l) (QkC htr (fun a b=>by simpa using hto a b) l)
end
def isS(l:List (List UInt8)):List (List UInt8):=isB (fun x y=>decide (x<=y)) l
def isI(l:List Int):List Int:=isB (fun x y=>decide (x<=y)) l
def isL(l:List Lf):List Lf:=isB (fun x y=>!(Go.Proofs.ltOf MW) y x) l
theorem VM(l:List Int):isI l=Go.E.M0 l:=Yh (fun a b c d h2=>by simp only [decide_eq_true_eq] at *;omega) (fun a b=>by simp only [decide_eq_true_eq];omega) (fun a b d h2=>by simp only [decide_eq_true_eq] at *;omega) l
theorem VN(l:List (List UInt8)):isS l=Go.E.Ajn l:=Yh (fun a b c d h2=>by simp only [decide_eq_true_eq] at *;exact List.le_trans d h2) (fun a b=>by simp only [decide_eq_true_eq];exact List.le_total a b) (fun a b d h2=>by simp only [decide_eq_true_eq] at *;exact List.le_antisymm d h2) l
theorem AeO(l:List Lf):isL l=M1 l:=by
 have hlt:∀ a b,(!(Go.Proofs.ltOf MW) b a)=true↔¬ MW b a<0:=fun a b=>by simp [Go.Proofs.ltOf]
 refine Yh (fun a b c e h2=>?_) (fun a b=>?_) (fun a b e h2=>?_) l
 ·rw [hlt] at *;intro h3;have s1:=Oh.swap a b
  rcases Qkc (MW a b) 0 with d | d | d
  ·exact h2 (Oh.trans c a b h3 d)
  ·rw [Oh.zero a b d] at h3;exact h2 h3
  ·omega
 ·rw [hlt,hlt];have s1:=Oh.swap a b;omega
 ·exact Oh.parts a b (by simpa using h2) (by simpa using e)
end Go.L
namespace Go.Proofs.YtekmbcbgknmhiaaGreatDoor
open Go Go.E Go.L
def VO(l:List (Lf×List Int)):Option (List Lf):=Go.L.AO (Go.E.Io 48 l.length) (some (isL (l.map Qq5)))
theorem Zx(l:List (Lf×List Int)):VO l=Re l:=by unfold VO Re;rw [AeO]
noncomputable instance (l:List (Lf×List Int)):Mi (Re l):=⟨VO l,by rw [Zx];exact apR _⟩
end Go.Proofs.YtekmbcbgknmhiaaGreatDoor
end
noncomputable section
namespace Go.L
section
variable {α:Type} {le:α->α->Prop}
theorem Pf[Inhabited α][DecidableEq α](hre:∀ a,le a a)(htr:∀ a b c,le a b->le b c->le a c)(has:∀ a b,le a b->le b a->a=b)(d:Array α)(hs:∀ i j,i<j->j<d.size->le d[i]! d[j]!):∀ m,m<=d.size->
  (Lib.compactUpTo d m).Pairwise (fun a b=>le a b/\a≠b)/\(∀ x,x∈Lib.compactUpTo d m↔∃ j,j<m/\x=d[j]!)
 | 0,_=>⟨by simp [Lib.compactUpTo],fun x=>by simp [Lib.compactUpTo]⟩
 | m+1,hm=>by
  obtain⟨f,h2⟩:=Pf hre htr has d hs m U;rw [Lib.compactUpTo_succ]
  by_cases hk:Lib.keeps d m=true
  ·rw [if_pos hk];refine⟨Qjq.2 ⟨f,QkZ _ _,fun a ha b hb=>?_⟩,fun x=>?_⟩
   ·rw [QzX] at hb;subst hb;obtain⟨j,hj,rfl⟩:=(h2 a).1 ha;refine⟨hs j m hj U,fun e=>?_⟩;unfold Lib.keeps at hk;rw [decide_eq_true_eq] at hk
    rcases hk with hk | hk
    ·omega
    ·refine hk (has _ _ ?_ ?_)
     ·by_cases hjm:j=m - 1
      ·rw [<- e,hjm];exact hre _
      ·rw [<- e];exact hs j (m - 1) U U
     ·exact hs (m - 1) m U U
   ·rw [Qze,h2,QzX]
    constructor
    ·rintro(⟨j,hj,rfl⟩ | rfl)
     ·exact⟨j,by omega,Z⟩
     ·exact⟨m,by omega,Z⟩
    ·rintro⟨j,hj,rfl⟩
     by_cases hjm:j=m
     ·subst hjm;exact .inr Z
     ·exact .inl ⟨j,by omega,Z⟩
  ·have hk' : ¬ (m=0\/d[m]!≠d[m - 1]!):=by
    unfold Lib.keeps at hk
    simpa using hk
   rw [if_neg hk,QzZ];refine⟨f,fun x=>(h2 x).trans ?_⟩
   constructor
   ·rintro⟨j,hj,rfl⟩;exact⟨j,by omega,Z⟩
   ·rintro⟨j,hj,rfl⟩
    by_cases hjm:j=m
    ·subst hjm;have e:d[j]! = d[j - 1]!:=Decidable.not_not.1 fun h=>hk' (.inr h);have g:j≠0:=fun h=>hk' (.inl h);exact⟨j - 1,by omega,e⟩
    ·exact⟨j,by omega,Z⟩
theorem Yi[Inhabited α][DecidableEq α](hre:∀ a,le a a)(htr:∀ a b c,le a b->le b c->le a c)(has:∀ a b,le a b->le b a->a=b){l:List α}(hs:l.Pairwise le):(Lib.compact l).Pairwise (fun a b=>le a b/\a≠b)/\∀ x,x∈Lib.compact l↔x∈l:=by
 have hget:∀ i,i<l.length->l.toArray[i]! = l.getD i Qq2:=fun i hi=>by simp [hi]
 have:=Pf hre htr has l.toArray (fun i j hij hj=>by
  have hj':j<l.length:=by simpa using hj
  have hi':i<l.length:=by omega
  have:=Qjk.1 hs i j hi' hj' hij
  simpa [hi',hj'] using this) l.length Qqd
 refine⟨this.1,fun x=>(this.2 x).trans ?_⟩
 constructor
 ·rintro⟨j,hj,rfl⟩;simp [hj]
 ·intro hx;obtain⟨j,hj,rfl⟩:=List.getElem_of_mem hx;exact⟨j,hj,by simp [hj]⟩
end
theorem T6(l:List Int):(Go.E.M0 l).Perm l:=Qkz l _
theorem Zy(l:List Int):(Go.E.M0 l).Pairwise (fun x y=>x<=y):=by
 have:=QkC (le:=fun x y:Int=>decide (x<=y)) (fun a b c d h2=>by simp only [decide_eq_true_eq] at *;omega) (fun a b=>by simpa using Int.le_total a b) l;exact this.imp fun h=>by simpa using h
def QL(l:List Int):List Int:=Lib.compact (Go.E.M0 l)
theorem Rl(l:List Int):(QL l).Pairwise (fun a b=>a<=b/\a≠b)/\∀ x,x∈QL l↔x∈l:=by
 have:=Yi (le:=fun a b:Int=>a<=b) Int.le_refl (fun _ _ _=>Int.le_trans) (fun _ _=>Int.le_antisymm) (Zy l);exact⟨this.1,fun x=>(this.2 x).trans (T6 l).mem_iff⟩
end Go.L
end
noncomputable section
namespace Go.L
section
variable {κ β:Type} [DecidableEq κ]
theorem T7(d:β)(k k':κ)(y:β):∀ M:List (κ×β),BW d k' (FY k y M)=if k'=k then y else BW d k' M
 | []=>by simp only [FY,BW]
 | (a,z)::M=>by
  unfold FY
  by_cases h:k=a
  ·subst h;rw [if_pos Z];unfold BW
   by_cases h2:k'=k
   ·rw [if_pos h2,if_pos h2]
   ·rw [if_neg h2,if_neg h2];rw [if_neg h2]
  ·rw [if_neg h];unfold BW;rw [T7 d k k' y M]
   by_cases h2:k'=a
   ·rw [if_pos h2,if_neg (fun e=>h (e.symm.trans h2)),if_pos h2]
   ·rw [if_neg h2,if_neg h2]
theorem SH{k:κ}(y:β):∀ {M:List (κ×β)},k∈M.map Qq5->(FY k y M).map Qq5=M.map Qq5
 | [],h=>by cases h
 | (a,z)::M,h=>by
  unfold FY
  by_cases hk:k=a
  ·subst hk;rw [if_pos Z];rfl
  ·rw [if_neg hk];simp only [Qzd,Qzy] at h ⊢;rw [SH y (h.resolve_left hk)]
theorem SI{k:κ}(y:β):∀ {M:List (κ×β)},k∉M.map Qq5->FY k y M=M++[(k,y)]
 | [],_=>rfl
 | (a,z)::M,h=>by
  unfold FY;simp only [Qzd,Qzy,not_or] at h;rw [if_neg h.1,SI y h.2]
  rfl
end
def PI(k:Lf)(i:Int)(M:List (Lf×List Int)):List (Lf×List Int):=FY k (BW [] k M++[i]) M
end Go.L
namespace Go.Proofs.YtekmbcbgknmhiaaGreatDoor
open Go Go.L
structure GI (n:Int) (es:List En):Prop where
 n0:0<=n
 n64:n<=64
 ev:∀ e∈es,EV n e
 sz:∀ e∈es,EnS e
 len:es.length<=1000000
 inc:es.Pairwise (fun a b=>MW a.1 b.1<0)
def Pg(M:List (Lf×List Int)):List En:=(M1 (M.map Qq5)).map fun k=>(k,QL (BW [] k M))
def MS(M:List (Lf×List Int)):Prop:=M.length<=1000000/\∀ k∈M.map Qq5,k.1.length<=2000000/\Bw k.2.1/\Bw k.2.2.1/\k.2.2.2.length<=2000000/\(BW [] k M).length<=1000000/\∀ z∈BW [] k M,Bw z
theorem NZ(l:List Lf):(M1 l).Perm l:=Qkz l _
theorem Zz(l:List Int):(QL l).length<=l.length:=Qz2 (Go.E.Vr _) (Nat.le_of_eq (T6 l).length_eq)
theorem AeP{M:List (Lf×List Int)}(h:MS M):∀ e∈Pg M,EnS e:=by
 intro e he;obtain⟨k,hk,rfl⟩:=Qz4.1 he;obtain⟨a,h2,h3,b,c,d⟩:=h.2 k ((NZ _).mem_iff.1 hk);exact⟨a,h2,h3,b,fun z hz=>d z (((Rl _).2 z).1 hz),Qz2 (Zz _) c⟩
theorem Z0(M:List (Lf×List Int)):(Pg M).length=M.length:=by unfold Pg;rw [Qzk,Q6,Qzk]
def Aay(n:Int)(M:List (Lf×List Int)):(Int×List En)×(Int×Int):=if 16384<(Ab4 n (Pg M)).length then((0,[]),(14,-1)) else((n,Pg M),(0,0))
theorem AeQ{n:Int}{M:List (Lf×List Int)}(hn:Bw n)(h:MS M):Hp n M=some (Aay n M):=by
 unfold Hp Re;have hM:=h.1;rw [Ad (by unfold Go.E.Io;omega),Qq6];unfold KX
 have a:GZ n (Pg M)=some (Aay n M):=by
  unfold GZ DI Aay;rw [AeN hn (by rw [Z0];exact hM) (AeP h),Qq6]
  by_cases hc:16384<(Ab4 n (Pg M)).length
  ·rw [if_pos U,if_pos hc];rfl
  ·rw [if_neg U,if_neg hc]
 have hkl:(M1 (M.map Qq5)).length=M.length:=by rw [Q6,Qzk]
 refine Fb (fun i=>(((M1 (M.map Qq5)).take i).map (fun k=>(k,QL (BW [] k M))),((i:Nat):Int))) (M1 (M.map Qq5)).length (fun i hi=>?_) ?_ 0
 ·obtain⟨c,h2,h3,d,e,f⟩:=h.2 _ ((NZ _).mem_iff.1 (Et hi))
  have ht:((M1 (M.map Qq5)).take (i+1)).map (fun k=>(k,QL (BW [] k M)))=((M1 (M.map Qq5)).take i).map (fun k=>(k,QL (BW [] k M)))++[((M1 (M.map Qq5)).getD i Qq2,QL (BW [] ((M1 (M.map Qq5)).getD i Qq2) M))]:=by
   rw [QxX,Qzw hi,Qjz,Qxd];simp [Qq9,Qzw hi]
  rw [ht];unfold Gs Fc;dsimp only;rw [if_pos U,Ad U,Qq8];generalize (M1 (M.map Qq5)).getD i Qq2=k at *;have b:((k.1,k.2.1,k.2.2.1,k.2.2.2):Lf)=k:=Z;simp only [b];rw [Ad (by unfold Go.E.Io;simp only [Qzf];show(0+(BW [] k M).length) * 8<=_/\_;omega),Qq6]
  show Go.L.AO (([]++BW [] k M).length<_) _=_
  rw [Qxw,Ad U,Ad (by rw [(T6 _).length_eq];omega),Ad (by unfold Go.E.Io;simp only [Qzk,QzK,Qzj,Qzf];omega),Ad (by unfold Bw;omega)]
  rfl
 ·unfold Gs;dsimp only;rw [if_neg U,Qx4];exact congrArg (Qq7 Sum.inr) a
def Bd(N:Nat)(M:List (Lf×List Int)):Prop:=∀ k,(BW [] k M).length<=N
end Go.Proofs.YtekmbcbgknmhiaaGreatDoor
end
noncomputable section
namespace Go.L
def jn:List (List UInt8)->List UInt8
 | []=>[]
 | x::l=>if l=[] then x else x++47::jn l
theorem VP:∀ {l:List (List UInt8)},l≠[]->(jn l).length+1=TO l
 | x::l,_=>by
  unfold jn TO
  by_cases h:l=[]
  ·subst h;simp [TO]
  ·have:=VP h;rw [if_neg h,Qzu,Qzj];omega
theorem Xl:∀ (x cur s:List UInt8),47∉x->RA cur (x++47::s)=(cur++x)::RA [] s
 | [],cur,s,_=>by simp [RA]
 | c::x,cur,s,h=>by
  have hc:c≠47:=fun e=>h (by rw [e];exact .head _);simp only [QxQ,RA,if_neg hc];rw [Xl x (cur++[c]) s (fun hh=>h (.tail _ hh))];simp
theorem Z1:∀ (x cur:List UInt8),47∉x->RA cur x=[cur++x]
 | [],cur,_=>by simp [RA]
 | c::x,cur,h=>by
  have hc:c≠47:=fun e=>h (by rw [e];exact .head _);simp only [RA,if_neg hc];rw [Z1 x (cur++[c]) (fun hh=>h (.tail _ hh))];simp
theorem AeR:∀ {l:List (List UInt8)},l≠[]->(∀ x∈l,47∉x)->RA [] (jn l)=l
 | x::l,_,h=>by
  unfold jn
  by_cases hl:l=[]
  ·subst hl;rw [if_pos Z,Z1 x [] (h x (.head _))];simp
  ·rw [if_neg hl,Xl x [] _ (h x (.head _)),AeR hl (fun y hy=>h y (.tail _ hy))];simp
theorem AiT{l:List (List UInt8)}(hne:∀ x∈l,x≠[])(h:∀ x∈l,47∉x):sl (jn l)=l:=by
 unfold sl
 cases l with
 | nil=>simp [jn]
 | cons x l=>
  have:jn (x::l)≠[]:=by
   unfold jn;have:=hne x (.head _)
   split
   ·exact this
   ·simp
  rw [if_neg this,AeR Qqd h]
def stp(x:List UInt8):Bool:=S8 x||decide (x=[35])
theorem Aaz{x:List UInt8}(h:stp x=true):x≠[]/\47∉x/\x≠[42]/\x≠[42,42]:=by
 unfold stp at h;rw [Qz9,decide_eq_true_eq] at h
 rcases h with h | rfl
 ·unfold S8 at h;rw [Qzb,decide_eq_true_eq] at h;obtain⟨a,h2⟩:=h;have hall:=List.all_eq_true.1 h2;refine⟨fun e=>by subst e;simp at a,fun hh=>?_,fun e=>by subst e;simp at a,fun e=>by subst e;simp at a⟩;have:=hall 47 hh
  revert this;decide
 ·decide
theorem AiU{w:Bool}{l:List (List UInt8)}:∀ {a:Int},(∀ x∈l,(stp x||(w&&(decide (x=[42])||decide (x=[42,42]))))=true)->wr w a l = -1:=by
 induction l with
 | nil=>intro a _;rfl
 | cons y l ih=>
  intro a h;unfold wr;have:=h y (.head _);unfold stp at this;rw [if_pos this];exact ih (fun x hx=>h x (.tail _ hx))
end Go.L
end
noncomputable section
namespace Go.L
theorem AeS{α:Type}[Inhabited α](f:α->Nat){l:List α}{i:Nat}(h:i<l.length):((l.drop i).map f).sum=f (l.getD i Qq2)+((l.drop (i+1)).map f).sum:=by rw [drop_cons h];simp
end Go.L
namespace Go.Proofs.YtekmbcbgknmhiaaGreatDoor
open Go Go.L
theorem Z2{d:Nat}{v:Pv}{a2:Int}{self:Pv->Int->Int->Option (Int×(Int×Int))}(hlen:v.f.2.2.2.2.length<=1000)(ha:Bw (a2+1))
  (hs:∀ p∈v.f.2.2.2.2,∀ m:Int,0<=m->∃ r,self p m (a2+1)=some r/\((r.2=(0,0)/\Vd d p/\r.1=m+(nodes d p:Nat)/\r.1<=600)\/r.2.1≠0)) :
  ∀ (k i:Nat) (m:Int),i+k=v.f.2.2.2.2.length->0<=m->m<=600->∃ r,Go.L.run (CH v a2 self) (m,(i:Int))=some r/\((r.2=(0,0)/\(∀ p∈v.f.2.2.2.2.drop i,Vd d p)/\r.1=m+(((v.f.2.2.2.2.drop i).map (nodes d)).sum:Nat)/\r.1<=600)\/r.2.1≠0)
 | 0,i,m,hi,a,b=>by
  refine⟨(m,0,0),AQ (m:=some (m,0,0)) ?_,.inl ⟨Z,?_⟩⟩
  ·unfold CH He;dsimp only;rw [if_neg U]
  ·rw [Qz5 U];exact⟨by simp,by simp,b⟩
 | k+1,i,m,hi,a,b=>by
  have hil:i<v.f.2.2.2.2.length:=by omega
  obtain⟨r,c,h2⟩:=hs _ (Et hil) m a
  rcases h2 with ⟨hr,e,g,h⟩ | hr
  ·have hb:CH v a2 self (m,(i:Int))=some (.inl (r.1,((i+1:Nat):Int))):=by
    unfold CH;dsimp only;rw [if_pos U,Ad U,Ad ha,Qq8,c,Qq6,if_pos (by rw [hr];exact⟨Z,Z⟩),Ad (by unfold Bw;omega)]
    rfl
   obtain⟨q,j,l⟩:=Z2 hlen ha hs k (i+1) r.1 U U h;refine⟨q,by rw [Bg hb,j],?_⟩
   rcases l with ⟨hq,n,o,s⟩ | hq
   rotate_left
   ·exact .inr hq
   rw [drop_cons hil];refine .inl ⟨hq,fun p hp=>?_,?_,s⟩
   ·rcases Qzy.1 hp with rfl | hp
    ·exact e
    ·exact n p hp
   ·rw [Qzd,List.sum_cons,o,g];omega
  ·refine⟨(0,r.2.1,r.2.2),AQ (m:=some (0,r.2.1,r.2.2)) ?_,.inr hr⟩;unfold CH;dsimp only;rw [if_pos U,Ad U,Ad ha,Qq8,c,Qq6,if_neg (fun hh=>hr hh.1)]
theorem AeT{B:Nat}(hB:B<=100000000000):∀ (d n:Nat) (v:Pv) (m:Int),d<n->Sm B d v->d<=10->0<=m->∃ r,Fo n v m (11 - (d:Int))=some r/\((r.2=(0,0)/\Vd d v/\r.1=m+(nodes d v:Nat)/\r.1<=600)\/r.2.1≠0)
 | _,0,_,_,h,_,_,_=>absurd h U
 | 0,n+1,v,m,_,_,_,_=>by
  refine⟨(0,2,m),?_,.inr Qqd⟩
  show Ek (Fo n) v m _=_
  unfold Ek;rw [if_pos (by right;omega)]
  rfl
 | d+1,n+1,v,m,hn,hs,hd,hm=>by
  obtain⟨s1,l,o,s,t,u,e⟩:=hs
  show ∃ r,Ek (Fo n) v m _=some r/\_
  unfold Ek
  by_cases g:(600:Int)<=m
  ·rw [if_pos (.inl g)];exact⟨(0,2,m),Z,.inr Qqd⟩
  ·rw [if_neg U];obtain⟨c,h2,h3⟩:=Yf v U;rw [h2,Qq6]
   by_cases hc:c=0
   ·rw [if_pos hc,Ad (by unfold Bw;omega)];have hok:=h3 hc
    obtain⟨r,i,j⟩:=Z2 (d:=d) (v:=v) (a2:=11 - ((d+1:Nat):Int)) (self:=Fo n) (by have:=hok.many;omega) (by unfold Bw;omega)
     (fun p hp q hq=>by
      have:=AeT hB d n p q U (e p hp) U hq
      rwa [show(11:Int) - ((d+1:Nat):Int)+1=11 - (d:Int) by omega]) v.f.2.2.2.2.length 0 (m+1) U U U
    refine⟨r,i,?_⟩
    rcases j with ⟨hr,a,b,k⟩ | hr
    rotate_left
    ·exact .inr hr
    rw [QxE] at a b;refine .inl ⟨hr,⟨hok,a⟩,?_,k⟩;rw [b];unfold nodes;omega
   ·rw [if_neg hc];exact⟨(0,c,m),Z,.inr hc⟩
theorem Z3{B:Nat}(hB:B<=100000000000){b:List UInt8}(h:b.length<=B):HP b=some (Pd (zz (b.length:Int))++b):=by
 unfold HP;have:=GN (zz (b.length:Int));rw [Ji (by unfold Bw;omega),Qq6,Ad (by unfold Go.E.Io;omega)]
theorem VQ{B d:Nat}(hB:B<=100000000000){v:Pv}{self:Pv->Option (List UInt8)}(hlen:v.f.2.2.2.2.length<=600)(hsame:v.f.1=4->v.f.2.2.2.1.length=v.f.2.2.2.2.length)(hnm:∀ x∈v.f.2.2.2.1,x.length<=32)
  (hnod:((v.f.2.2.2.2).map (nodes d)).sum<=600)
  (hs:∀ p∈v.f.2.2.2.2,∃ b,self p=some b/\b.length+42<=nodes d p * (B+100)) :
  ∀ (k i:Nat) (L:List UInt8) (C:Nat),i+k=v.f.2.2.2.2.length->C<=700->L.length+42+(((v.f.2.2.2.2.drop i).map (nodes d)).sum) * (B+100)<=C * (B+100)->∃ b,Go.L.run (Ce v self) (L,(i:Int))=some b/\b.length+42<=C * (B+100)
 | 0,i,L,C,hi,hC,hL=>by
  refine⟨L,AQ (m:=some L) ?_,by omega⟩;unfold Ce GH;dsimp only;rw [if_neg U]
 | k+1,i,L,C,hi,hC,hL=>by
  have hil:i<v.f.2.2.2.2.length:=by omega
  obtain⟨b,h,h2⟩:=hs _ (Et hil);rw [AeS _ hil,Qx7] at hL;have hCB:C * (B+100)<=700 * (100000000000+100):=Nat.mul_le_mul hC U
  have a:∀ M:List UInt8,M.length+b.length+42+((v.f.2.2.2.2.drop (i+1)).map (nodes d)).sum * (B+100)<=C * (B+100)->Ea v (i:Int) self M=some (.inl (M++b,((i+1:Nat):Int))):=by
   intro M hM;unfold Ea;rw [Qq8,h,Qq6,Ad (by unfold Go.E.Io;omega),Ad (by unfold Bw;omega)]
   rfl
  by_cases c:v.f.1=4
  ·have hin:i<v.f.2.2.2.1.length:=by rw [hsame c];exact hil
   have hx:=hnm _ (Et hin);have hv:=GN (zz ((v.f.2.2.2.1.getD i Qq2).length:Int))
   have hb:Ce v self (L,(i:Int))=some (.inl ((L++(Pd (zz ((v.f.2.2.2.1.getD i Qq2).length:Int))++v.f.2.2.2.1.getD i Qq2))++b,((i+1:Nat):Int))):=by
    unfold Ce;dsimp only;rw [if_pos U,Ad U,if_pos c,Ad U,Qq8,Ad U,Z3 (B:=32) Qqc hx,Qq6,Ad (by unfold Go.E.Io;simp only [Qzu];omega)];exact a _ (by simp only [Qzu];omega)
   obtain⟨q,e,g⟩:=VQ hB hlen hsame hnm hnod hs k (i+1) _ C U hC (show((L++(Pd (zz ((v.f.2.2.2.1.getD i Qq2).length:Int))++v.f.2.2.2.1.getD i Qq2))++b).length+42+_<=_ by simp only [Qzu];omega);exact⟨q,by rw [Bg hb,e],g⟩
  ·have hb:Ce v self (L,(i:Int))=some (.inl (L++b,((i+1:Nat):Int))):=by
    unfold Ce;dsimp only;rw [if_pos U,Ad U,if_neg c];exact a _ U
   obtain⟨q,e,g⟩:=VQ hB hlen hsame hnm hnod hs k (i+1) _ C U hC (show(L++b).length+42+_<=_ by simp only [Qzu];omega);exact⟨q,by rw [Bg hb,e],g⟩
theorem AgC{x:List UInt8}(h:S8 x=true):x.length<=32:=by
 unfold S8 at h;rw [Qzb,decide_eq_true_eq] at h;omega
theorem Ac6{d:Nat}{l:List Pv}{p:Pv}(h:p∈l):nodes d p<=(l.map (nodes d)).sum:=by
 induction l with
 | nil=>cases h
 | cons a l ih=>
  rw [Qzd,List.sum_cons]
  rcases Qzy.1 h with rfl | h
  ·omega
  ·have:=ih h;omega
theorem AeU{B:Nat}(hB:B<=100000000000):∀ (d n:Nat) (v:Pv),d<=n->Sm B d v->Vd d v->nodes d v<=600->∃ b,Fv n v=some b/\b.length+42<=nodes d v * (B+100)
 | 0,_,_,_,_,h,_=>h.elim
 | d+1,0,_,h,_,_,_=>absurd h U
 | d+1,n+1,v,hn,hs,hv,hnod=>by
  obtain⟨s1,k,l,m,e,g,i⟩:=hs;obtain⟨hok,hvp⟩:=hv;unfold nodes at hnod
  show ∃ b,Fu (Fv n) v=some b/\_
  unfold Fu;have o:=GN (zz v.f.1);have q:=GN (zz v.f.2.1);have r:=GN (zz (v.f.2.2.1.length:Int));have s:=GN (zz (v.f.2.2.2.2.length:Int));have hN:1 * (B+100)<=nodes (d+1) v * (B+100):=Qky _ (by unfold nodes;omega);rw [Ji e,Qq6]
  by_cases a:v.f.1=1
  ·rw [if_pos a,Ji g,Qq6,Ad (by unfold Go.E.Io;omega)];exact⟨_,Z,by simp only [Qzu];omega⟩
  ·rw [if_neg a]
   by_cases c:v.f.1=2
   ·rw [if_pos c,Z3 hB s1,Qq6,Ad (by unfold Go.E.Io;simp only [Qzu];omega)];exact⟨_,Z,by simp only [Qzu];omega⟩
   ·have hmany:=hok.many;rw [if_neg c,Ji (by unfold Bw;omega),Qq6,Ad (by unfold Go.E.Io;omega)]
    obtain⟨b,j,h2⟩:=VQ (d:=d) hB (v:=v) (self:=Fv n) hok.many hok.same (fun x hx=>AgC (hok.S8 x hx)) U
     (fun p hp=>AeU hB d n p U (i p hp) (hvp p hp) (by have:=Ac6 (d:=d) hp;omega)) v.f.2.2.2.2.length 0 (Pd (zz v.f.1)++Pd (zz (v.f.2.2.2.2.length:Int))) ((v.f.2.2.2.2.map (nodes d)).sum+1) U U
     (by rw [QxE,Qx7];simp only [Qzu];omega)
    refine⟨b,j,?_⟩;unfold nodes
    rwa [Nat.add_comm 1]
theorem TU{B:Nat}(hB:B<=100000000000){v:Pv}(hs:Sm B 10 v):∃ f,EG v=some f/\((f=(0,0)/\Vd 10 v/\nodes 10 v<=600)\/f.1≠0):=by
 obtain⟨r,d,h2⟩:=AeT hB 10 1000 v 0 U hs U (Int.le_refl _);have h1':MV v 0 1=some r:=d;unfold EG LN;rw [h1',Qq6]
 rcases h2 with ⟨hr,a,e,g⟩ | hr
 ·rw [if_pos (by rw [hr];exact⟨Z,Z⟩)];obtain⟨b,h3,i⟩:=AeU hB 10 1000 v U hs a U;have h3':LM v=some b:=h3;rw [h3',Qq6]
  by_cases c:(4000:Int)<(b.length:Int)
  ·rw [if_pos c];exact⟨(14,-1),Z,.inr Qqd⟩
  ·rw [if_neg c];exact⟨(0,0),Z,.inl ⟨Z,a,by omega⟩⟩
 ·rw [if_neg (fun h=>hr h.1)];exact⟨r.2,Z,.inr hr⟩
end Go.Proofs.YtekmbcbgknmhiaaGreatDoor
end
noncomputable section
namespace Go.L
def QM{σ α:Type}(step:σ->α->Option σ):σ->List α->Option σ
 | s,[]=>some s
 | s,x::l=>(step s x).bind fun s'=>QM step s' l
theorem SJ{σ α:Type}{step:σ->α->Option σ}:∀ (l m:List α) (s:σ),QM step s (l++m)=(QM step s l).bind fun s'=>QM step s' m
 | [],_,_=>rfl
 | x::l,m,s=>by
  simp only [QxQ,QM]
  cases step s x with
  | none=>rfl
  | some s'=>exact SJ l m s'
def cst(v:Pv)(i:Nat):List UInt8:=if v.f.1=4 then v.f.2.2.2.1.getD i Qq2 else[35]
def lvs:Nat->Pv->List (List UInt8)->List Lf
 | 0,_,_=>[]
 | d+1,v,p=>(jn p,v.f.1,v.f.2.1,v.f.2.2.1)::(QxJ 0 v.f.2.2.2.2.length).flatMap fun i=>lvs d (v.f.2.2.2.2.getD i Qq2) (p++[cst v i])
theorem AeV{α:Type}[Inhabited α](l:List α):(QxJ 0 l.length).map (fun i=>l.getD i Qq2)=l:=by
 rw [<- List.range_eq_range'];apply List.ext_getElem
 ·simp
 ·intro i a h2;simp [Qq9,h2]
theorem Yj:∀ (d:Nat) (v:Pv) (p:List (List UInt8)),(lvs d v p).length=nodes d v
 | 0,_,_=>rfl
 | d+1,v,p=>by
  unfold lvs nodes;rw [Qzj,List.length_flatMap,Nat.add_comm]
  congr 2
  conv=>rhs;rw [<- AeV v.f.2.2.2.2]
  rw [Qx0];apply Qkq;intro i _;exact Yj d _ _
theorem AgD:∀ p:List (List UInt8),Lib.join p [47]=jn p
 | []=>rfl
 | x::l=>by
  have key:∀ (l:List (List UInt8)) (x:List UInt8),jn (x::l)=x++Lib.joinTail [47] l:=by
   intro l
   induction l with
   | nil=>intro x;simp [jn,Lib.joinTail]
   | cons y l ih=>
    intro x;unfold jn;rw [if_neg Qqd,ih y];simp [Lib.joinTail]
  rw [Lib.join_cons,key]
def POk(p:List (List UInt8)):Prop:=∀ x∈p,stp x=true
theorem AgE{x:List UInt8}(h:stp x=true):x.length<=32:=by
 unfold stp at h;rw [Qz9,decide_eq_true_eq] at h
 rcases h with h | rfl
 ·unfold S8 at h;rw [Qzb,decide_eq_true_eq] at h;omega
 ·decide
theorem POk.TO{p:List (List UInt8)}(h:POk p):TO p<=33 * p.length:=by
 induction p with
 | nil=>simp [Go.L.TO]
 | cons x p ih=>
  have:=AgE (h x (.head _));have:=ih fun y hy=>h y (.tail _ hy);unfold Go.L.TO;simp only [Qzj];omega
theorem POk.VP{p:List (List UInt8)}(h:POk p):(jn p).length<=33 * p.length:=by
 by_cases a:p=[]
 ·subst a;simp [jn]
 ·have:=Go.L.VP a;have:=h.TO;omega
theorem POk.snoc{p:List (List UInt8)}(h:POk p){x:List UInt8}(hx:stp x=true):POk (p++[x]):=fun y hy=>by
 rcases Qze.1 hy with hy | hy
 ·exact h y hy
 ·rw [QzX] at hy;subst hy;exact hx
theorem AeW{v:Pv}(h:T2 v){i:Nat}(hi:i<v.f.2.2.2.2.length):stp (cst v i)=true:=by
 unfold cst
 by_cases a:v.f.1=4
 ·rw [if_pos a];have:=h.S8 _ (Et (by rw [h.same a];exact hi));unfold stp;rw [this];rfl
 ·rw [if_neg a];decide
theorem POk.nil{p:List (List UInt8)}(h:POk p):jn p=[]↔p=[]:=by
 constructor
 ·intro hj
  cases p with
  | nil=>rfl
  | cons x p=>
   have:=(Aaz (h x (.head _))).1;unfold jn at hj
   split at hj
   ·exact absurd hj this
   ·simp at hj
 ·rintro rfl;rfl
end Go.L
namespace Go.Proofs.YtekmbcbgknmhiaaGreatDoor
open Go Go.L
section
variable {σ:Type} {step:σ->Lf->Option σ}
theorem Ab6{v:Pv}{p:List (List UInt8)}{self:Pv->List (List UInt8)->σ->Option σ}{d:Nat}(hv:T2 v)(hp:p.length<=20)(hs:∀ i s,i<v.f.2.2.2.2.length->self (v.f.2.2.2.2.getD i Qq2) (p++[cst v i]) s=QM step s (lvs d (v.f.2.2.2.2.getD i Qq2) (p++[cst v i]))):
  ∀ (k i:Nat) (s:σ),i+k=v.f.2.2.2.2.length->Go.L.run (CI v p self) ((i:Int),s)=QM step s ((QxJ i k).flatMap fun i=>lvs d (v.f.2.2.2.2.getD i Qq2) (p++[cst v i]))
 | 0,i,s,hi=>by
  refine AQ (m:=some s) ?_;unfold CI;dsimp only;rw [if_neg U]
 | k+1,i,s,hi=>by
  have hil:i<v.f.2.2.2.2.length:=by omega
  have hmany:=hv.many;rw [List.range'_succ,Qxc,SJ,<- hs i s hil]
  have hk:∀ x,x=cst v i->DF v p (i:Int) self x s=(self (v.f.2.2.2.2.getD i Qq2) (p++[cst v i]) s).bind fun s'=>some (.inl (((i+1:Nat):Int),s')):=by
   rintro x rfl;unfold DF Dd;rw [Ad (by unfold Go.E.Io;simp;omega),Qq6,Ad (by unfold Go.E.Io;simp;omega),Qq8,Qxw];refine congrArg (Qq4 _) (funext fun x=>?_);rw [Ad (by unfold Bw;omega)]
   rfl
  have hb:CI v p self ((i:Int),s)=(self (v.f.2.2.2.2.getD i Qq2) (p++[cst v i]) s).bind fun s'=>some (.inl (((i+1:Nat):Int),s')):=by
   unfold CI;dsimp only;rw [if_pos U,Ad U]
   by_cases a:v.f.1=4
   ·have:=hv.same a;rw [if_pos a,Ad U,Qq8];exact hk _ (by unfold cst;rw [if_pos a])
   ·rw [if_neg a];exact hk _ (by unfold cst;rw [if_neg a])
  cases hc:self (v.f.2.2.2.2.getD i Qq2) (p++[cst v i]) s with
  | none=>
   rw [hc] at hb;exact AQ (m:=none) hb
  | some s'=>
   rw [hc] at hb;rw [Bg hb];exact Ab6 hv hp hs k (i+1) s' U
theorem AiV:∀ (d n:Nat) (v:Pv) (p:List (List UInt8)) (s:σ),d<=n->Vd d v->POk p->p.length+d<=20->FV step n v p s=QM step s (lvs d v p)
 | 0,_,_,_,_,_,h,_,_=>h.elim
 | d+1,0,_,_,_,h,_,_,_=>absurd h U
 | d+1,n+1,v,p,s,hn,hv,hp,hl=>by
  obtain⟨hok,hvp⟩:=hv
  show EU step (FV step n) v p s=_
  unfold EU Sv lvs;have:=hp.VP;rw [AgD,Ad U,Qq6]
  show(step s (jn p,v.f.1,v.f.2.1,v.f.2.2.1)).bind _=(step s (jn p,v.f.1,v.f.2.1,v.f.2.2.1)).bind _
  congr 1
  funext s'
  exact Ab6 hok U (fun i s hi=>AiV d n _ _ s U (hvp _ (Et hi)) (hp.snoc (AeW hok hi)) (by simp;omega)) v.f.2.2.2.2.length 0 s' U
theorem Ac7{v:Pv}(hv:Vd 10 v)(s:σ):JA step v [] s=QM step s (lvs 10 v []):=AiV 10 1000 v [] s U hv (fun x hx=>by cases hx) Qqd
end
end Go.Proofs.YtekmbcbgknmhiaaGreatDoor
end
noncomputable section
namespace Go.L
def II(P:List (Lf×Int))(M:List (Lf×List Int)):List (Lf×List Int):=P.foldl (fun M p=>PI p.1 p.2 M) M
theorem Z4(P Q:List (Lf×Int))(M:List (Lf×List Int)):II (P++Q) M=II Q (II P M):=List.foldl_append
theorem AeX(k k':Lf)(i z:Int)(M:List (Lf×List Int)):z∈BW [] k' (PI k i M)↔z∈BW [] k' M\/(k'=k/\z=i):=by
 unfold PI;rw [T7]
 by_cases h:k'=k
 ·subst h;simp
 ·simp [h]
theorem Ac8(k k':Lf)(i:Int)(M:List (Lf×List Int)):k'∈(PI k i M).map Qq5↔k'=k\/k'∈M.map Qq5:=by
 unfold PI
 by_cases h:k∈M.map Qq5
 ·rw [SH _ h];exact⟨.inr,fun hh=>by rcases hh with rfl | hh;exact h;exact hh⟩
 ·rw [SI _ h];simp only [Qxd,Qzd,List.map_nil,Qze,QzX];exact⟨fun hh=>hh.symm,fun hh=>hh.symm⟩
theorem Aa0(k:Lf)(i:Int){M:List (Lf×List Int)}(h:(M.map Qq5).Nodup):((PI k i M).map Qq5).Nodup:=by
 unfold PI
 by_cases hk:k∈M.map Qq5
 ·rw [SH _ hk];exact h
 ·rw [SI _ hk,Qxd]
  exact Qk6.2 ⟨h,QkZ _ _,fun a ha b hb e=>by
   simp only [Qzd,List.map_nil,QzX] at hb;subst hb;subst e;exact hk ha⟩
theorem VR(k:Lf)(z:Int):∀ (P:List (Lf×Int)) (M:List (Lf×List Int)),z∈BW [] k (II P M)↔z∈BW [] k M\/(k,z)∈P
 | [],M=>by simp [II]
 | p::P,M=>by
  show z∈BW [] k (II P (PI p.1 p.2 M))↔_
  rw [VR k z P,AeX,Qzy,or_assoc];have:(k=p.1/\z=p.2)↔(k,z)=p:=⟨fun h=>Prod.ext h.1 h.2,fun h=>by rw [<- h];exact⟨Z,Z⟩⟩;rw [this]
theorem Rm(k:Lf):∀ (P:List (Lf×Int)) (M:List (Lf×List Int)),k∈(II P M).map Qq5↔k∈M.map Qq5\/∃ z,(k,z)∈P
 | [],M=>by simp [II]
 | p::P,M=>by
  show k∈(II P (PI p.1 p.2 M)).map Qq5↔_
  rw [Rm k P,Ac8]
  constructor
  ·rintro((rfl | h) | ⟨z,h⟩)
   ·exact .inr ⟨p.2,.head _⟩
   ·exact .inl h
   ·exact .inr ⟨z,.tail _ h⟩
  ·rintro(h | ⟨z,h⟩)
   ·exact .inl (.inr h)
   ·rcases Qzy.1 h with rfl | h
    ·exact .inl (.inl Z)
    ·exact .inr ⟨z,h⟩
theorem VS:∀ (P:List (Lf×Int)) {M:List (Lf×List Int)},(M.map Qq5).Nodup->((II P M).map Qq5).Nodup
 | [],_,h=>h
 | p::P,_,h=>VS P (Aa0 p.1 p.2 h)
theorem Z5(k:Lf)(i:Int)(M:List (Lf×List Int))(k':Lf):(BW [] k' (PI k i M)).length<=(BW [] k' M).length+1:=by
 unfold PI;rw [T7]
 split
 ·rename_i h;subst h;simp
 ·omega
theorem Aa1(k:Lf)(i:Int)(M:List (Lf×List Int)):(PI k i M).length<=M.length+1:=by
 unfold PI
 by_cases h:k∈M.map Qq5
 ·have:=congrArg Qxy (SH (BW [] k M++[i]) h);rw [Qzk,Qzk] at this;omega
 ·rw [SI _ h];simp
theorem Z6(k:Lf):∀ (P:List (Lf×Int)) (M:List (Lf×List Int)),(BW [] k (II P M)).length<=(BW [] k M).length+P.length
 | [],M=>by simp [II]
 | p::P,M=>by
  have a:=Z6 k P (PI p.1 p.2 M);have h2:=Z5 p.1 p.2 M k
  show(BW [] k (II P (PI p.1 p.2 M))).length<=_
  rw [Qzj];omega
theorem VT:∀ (P:List (Lf×Int)) (M:List (Lf×List Int)),(II P M).length<=M.length+P.length
 | [],M=>by simp [II]
 | p::P,M=>by
  have a:=VT P (PI p.1 p.2 M);have h2:=Aa1 p.1 p.2 M
  show(II P (PI p.1 p.2 M)).length<=_
  rw [Qzj];omega
end Go.L
namespace Go.Proofs.YtekmbcbgknmhiaaGreatDoor
open Go Go.L
theorem AeY{P:List (Lf×Int)}{e:En}:e∈Pg (II P [])↔(∃ z,(e.1,z)∈P)/\e.2=QL (BW [] e.1 (II P [])):=by
 unfold Pg;rw [Qz4]
 constructor
 ·rintro⟨k,hk,rfl⟩;have:=(Rm k P []).1 ((NZ _).mem_iff.1 hk);simp only [List.map_nil,List.not_mem_nil,false_or] at this;exact⟨this,Z⟩
 ·rintro⟨a,h2⟩;exact⟨e.1,(NZ _).mem_iff.2 ((Rm e.1 P []).2 (.inr a)),Prod.ext Z h2.symm⟩
def PJ:Int->List Pv->List (Lf×Int)
 | _,[]=>[]
 | i,v::l=>((lvs 10 v []).map fun x=>(x,i))++PJ (i+1) l
theorem VU:∀ (i:Int) (a b:List Pv),PJ i (a++b)=PJ i a++PJ (i+a.length) b
 | i,[],b=>by simp [PJ]
 | i,v::a,b=>by
  simp only [QxQ,PJ,QxZ];rw [VU (i+1) a b];simp only [Qzj];rw [show i+1+(a.length:Int)=i+((a.length+1:Nat):Int) by omega]
theorem Ab7:∀ {i:Int} {a:List Pv} {p:Lf×Int},p∈PJ i a↔∃ j:Nat,j<a.length/\p.2=i+j/\p.1∈lvs 10 (a.getD j Qq2) []
 | _,[],p=>by simp [PJ]
 | i,v::a,p=>by
  simp only [PJ,Qze,Qz4];rw [Ab7]
  constructor
  ·rintro(⟨x,hx,rfl⟩ | ⟨j,b,h2,h3⟩)
   ·exact⟨0,by simp,by simp,hx⟩
   ·exact⟨j+1,by simp;omega,by omega,h3⟩
  ·rintro⟨j,b,h2,h3⟩
   cases j with
   | zero=>exact .inl ⟨p.1,h3,Prod.ext Z (by simpa using h2.symm)⟩
   | succ j=>exact .inr ⟨j,by simpa using b,by omega,h3⟩
theorem Yk:∀ (i:Int) {a:List Pv},(∀ v∈a,nodes 10 v<=600)->(PJ i a).length<=600 * a.length
 | _,[],_=>by simp [PJ]
 | i,v::a,h=>by
  simp only [PJ,Qzu,Qzk,Qzj];have b:=Yk (i+1) fun v hv=>h v (.tail _ hv);have h2:=h v (.head _);rw [Yj];omega
theorem VV(i:Int):∀ (l:List Lf) (M:List (Lf×List Int)) (N:Nat),Bd N M->N+l.length<=1000000000->QM (Kp i) M l=some (II (l.map fun x=>(x,i)) M)
 | [],_,_,_,_=>rfl
 | x::l,M,N,hM,hN=>by
  rw [Qzj] at hN;unfold QM;have hx:=hM x
  have e:Kp i M x=some (PI x i M):=by
   unfold Kp;rw [Ad (by unfold Go.E.Io;omega)]
   rfl
  rw [e,Qq6,VV i l (PI x i M) (N+1) (fun k=>by have:=Z5 x i M k;have:=hM k;omega) U]
  rfl
def Wv(a:List Pv):Prop:=∀ v∈a,EG v=some (0,0)/\Vd 10 v/\nodes 10 v<=600
theorem Ab8(P:List (Lf×Int)):Bd P.length (II P []):=fun k=>by have:=Z6 k P [];simpa [BW] using this
theorem Xm{B:Nat}(hB:B<=100000000000){a:List Pv}(hl:a.length<=64)(hs:∀ v∈a,Sm B 10 v):∀ (k i:Nat),i+k=a.length->Wv (a.take i)->
  (∃ j f,j<a.length/\EG (a.getD j Qq2)=some f/\f.1≠0/\Wv (a.take j)/\Go.L.run (Df a) (II (PJ 0 (a.take i)) [],(i:Int))=some ((0,[]),(f.1,(j:Int))))\/
  (Wv a/\Go.L.run (Df a) (II (PJ 0 (a.take i)) [],(i:Int))=Hp (a.length:Int) (II (PJ 0 a) []))
 | 0,i,hi,hv=>by
  right
  rw [Qxz U] at hv ⊢;refine⟨hv,?_⟩
  have e:Df a (II (PJ 0 a) [],(i:Int))=(Hp (a.length:Int) (II (PJ 0 a) [])).map Sum.inr:=by
   unfold Df J4;dsimp only;rw [if_neg U]
   cases Hp (a.length:Int) (II (PJ 0 a) []) <;> rfl
  exact AQ e
 | k+1,i,hi,hv=>by
  have hil:i<a.length:=by omega
  obtain⟨f,b,h2⟩:=TU hB (hs _ (Et hil))
  have htk:a.take (i+1)=a.take i++[a.getD i Qq2]:=by
   rw [QxX,Qzw hil];simp [Qq9,Qzw hil]
  rcases h2 with ⟨rfl,h3,c⟩ | hf
  ·have hlen:=Yk 0 fun v hvm=>(hv v hvm).2.2;rw [QzK] at hlen
   have hadd:PJ 0 (a.take (i+1))=PJ 0 (a.take i)++(lvs 10 (a.getD i Qq2) []).map fun x=>(x,(i:Int)):=by
    rw [htk,VU];simp only [PJ,QzZ,QzK];rw [show(0:Int)+((min i a.length:Nat):Int)=(i:Int) by omega]
   have hb:Df a (II (PJ 0 (a.take i)) [],(i:Int))=some (.inl (II (PJ 0 (a.take (i+1))) [],((i+1:Nat):Int))):=by
    unfold Df;dsimp only;rw [if_pos U,Ad U,Qq8,b,Qq6,if_pos ⟨Z,Z⟩,Ac7 h3,VV (i:Int) _ _ _ (Ab8 _) (by rw [Yj];omega),Qq6,Ad (by unfold Bw;omega),hadd,Z4]
    rfl
   rw [Bg hb];refine Xm hB hl hs k (i+1) U ?_;rw [htk];intro v hvm
   rcases Qze.1 hvm with h | h
   ·exact hv v h
   ·rw [QzX] at h;subst h;exact⟨b,h3,c⟩
  ·left
   refine⟨i,f,hil,b,hf,hv,AQ (m:=some ((0,[]),(f.1,(i:Int)))) ?_⟩;unfold Df DI;dsimp only;rw [if_pos U,Ad U,Qq8,b,Qq6,if_neg (fun h=>hf h.1)]
   rfl
theorem Ab9:∀ (d:Nat) (v:Pv) (p:List (List UInt8)) {x:Lf},Vd d v->POk p->x∈lvs d v p->∃ (q:List (List UInt8)) (u:Pv),x=(jn q,u.f.1,u.f.2.1,u.f.2.2.1)/\POk q/\q.length+1<=p.length+d/\T2 u/\∀ B,Sm B d v->Bw u.f.1/\Bw u.f.2.1/\u.f.2.2.1.length<=B
 | 0,_,_,_,h,_,_=>h.elim
 | d+1,v,p,x,hv,hp,hx=>by
  obtain⟨hok,hvp⟩:=hv;unfold lvs at hx
  rcases Qzy.1 hx with rfl | hx
  ·exact⟨p,v,Z,hp,by omega,hok,fun B hB=>⟨hB.2.2.2.2.1,hB.2.2.2.2.2.1,hB.1⟩⟩
  ·obtain⟨i,hi,hxi⟩:=List.mem_flatMap.1 hx
   have hil:i<v.f.2.2.2.2.length:=by
    have:=List.mem_range'_1.1 hi;omega
   obtain⟨q,u,a,h2,h3,b,c⟩:=Ab9 d _ _ (hvp _ (Et hil)) (hp.snoc (AeW hok hil)) hxi;refine⟨q,u,a,h2,by simp at h3;omega,b,fun B hB=>c B (hB.2.2.2.2.2.2 _ (Et hil))⟩
theorem AgF{v:Pv}{x:Lf}(hv:Vd 10 v)(hs:Sm 1048576 10 v)(hx:x∈lvs 10 v []):(x.1.length<=330/\¬ 0<=wr false 0 (sl x.1))/\(1<=x.2.1/\x.2.1<=4)/\(x.2.2.1=0\/x.2.1=1)/\(x.2.2.2=[]\/x.2.1=2)/\Bw x.2.2.1/\x.2.2.2.length<=1048576:=by
 obtain⟨q,u,rfl,h2,h3,a,b⟩:=Ab9 10 v [] hv (fun y hy=>by cases hy) hx;obtain⟨e,c,d⟩:=b _ hs;have hj:=h2.VP;simp only [Qzf] at h3;refine⟨⟨by show(jn q).length<=330;omega,?_⟩,?_,?_,?_,c,d⟩
 ·show ¬ 0<=wr false 0 (sl (jn q))
  rw [AiT (fun y hy=>(Aaz (h2 y hy)).1) (fun y hy=>(Aaz (h2 y hy)).2.1),AiU (fun y hy=>by rw [h2 y hy];rfl)]
  decide
 ·show 1<=u.f.1/\u.f.1<=4
  rcases a.kind with h | h | h | h <;> omega
 ·show u.f.2.1=0\/u.f.1=1
  exact a.num.symm
 ·show u.f.2.2.1=[]\/u.f.1=2
  exact a.bytes.symm
theorem AgG{P:List (Lf×Int)}(hP:P.length<=1000000)(h:∀ p∈P,p.1.1.length<=2000000/\Bw p.1.2.1/\Bw p.1.2.2.1/\p.1.2.2.2.length<=2000000/\Bw p.2):MS (II P []):=by
 refine⟨by have:=VT P [];simp at this;omega,fun k hk=>?_⟩
 rcases(Rm k P []).1 hk with a | ⟨z,hz⟩
 ·cases a
 ·obtain⟨b,h2,h3,c,_⟩:=h _ hz;refine⟨b,h2,h3,c,by have:=Ab8 P k;omega,fun y hy=>?_⟩
  rcases(VR k y P []).1 hy with a | hy
  ·simp [BW] at a
  ·exact(h _ hy).2.2.2.2
theorem Z7{l:List Lf}(h:l.Nodup):(M1 l).Pairwise (fun a b=>MW a b<0):=by
 have hsorted:(M1 l).Pairwise fun x y=>(!(Go.Proofs.ltOf MW) y x)=true:=by
  rw [<- AeO];have hlt:∀ a b,(!(Go.Proofs.ltOf MW) b a)=true↔¬ MW b a<0:=fun a b=>by simp [Go.Proofs.ltOf]
  refine RW (fun a b c f h2=>?_) (fun a b=>?_) l
  ·rw [hlt] at *;intro h3;have s1:=Oh.swap a b
   rcases Qkc (MW a b) 0 with d | d | d
   ·exact h2 (Oh.trans c a b h3 d)
   ·rw [Oh.zero a b d] at h3;exact h2 h3
   ·omega
  ·rw [hlt,hlt];have s1:=Oh.swap a b;omega
 have hn:(M1 l).Nodup:=(NZ l).nodup_iff.2 h;refine(List.pairwise_and_iff.2 ⟨hsorted,hn⟩).imp fun {a b} hab=>?_;obtain⟨f,h2⟩:=hab;have h1' : ¬ MW b a<0:=by simpa [Go.Proofs.ltOf] using f
 have s1:=Oh.swap a b;have:MW a b≠0:=fun e=>h2 (Oh.zero a b e);omega
theorem Z8{a:List Pv}(hl:a.length<=64)(hv:Wv a)(hs:∀ v∈a,Sm 1048576 10 v):GI (a.length:Int) (Pg (II (PJ 0 a) []))/\MS (II (PJ 0 a) []):=by
 have hlen:=Yk 0 fun v hvm=>(hv v hvm).2.2
 have hp:∀ p∈PJ 0 a,((p.1.1.length<=330/\¬ 0<=wr false 0 (sl p.1.1))/\(1<=p.1.2.1/\p.1.2.1<=4)/\(p.1.2.2.1=0\/p.1.2.1=1)/\(p.1.2.2.2=[]\/p.1.2.1=2)/\Bw p.1.2.2.1/\p.1.2.2.2.length<=1048576)/\0<=p.2/\p.2<a.length:=fun p hpm=>by
  obtain⟨j,c,h2,h3⟩:=Ab7.1 hpm;exact⟨AgF (hv _ (Et c)).2.1 (hs _ (Et c)) h3,by omega,by omega⟩
 have hMS:MS (II (PJ 0 a) []):=AgG U fun p hpm=>by
  obtain⟨⟨c,h2,h3,m,d,n⟩,o,q⟩:=hp p hpm;exact⟨by omega,by unfold Bw;omega,d,by omega,by unfold Bw;omega⟩
 refine⟨⟨by omega,by omega,fun e he=>?_,AeP hMS,by rw [Z0];exact hMS.1,?_⟩,hMS⟩
 ·obtain⟨⟨z,hz⟩,h2⟩:=AeY.1 he;obtain⟨⟨f,g,i,k,r,s⟩,t,u⟩:=hp _ hz
  have hm:∀ y,y∈e.2↔(e.1,y)∈PJ 0 a:=fun y=>by
   rw [h2,(Rl _).2,VR];simp [BW]
  refine⟨f,g,i,k,fun l=>?_,fun y hy=>?_,?_⟩
  ·have:=(hm z).2 hz;rw [l] at this
   cases this
  ·exact(hp _ ((hm y).1 hy)).2
  ·rw [h2];exact(Rl _).1.imp fun {a b} h=>by omega
 ·unfold Pg;rw [Qkk];exact Z7 (VS _ Qqd)
theorem Z9{a:List Pv}(hs:∀ v∈a,Sm 1048576 10 v):∃ r,Kr a=some r/\((64<a.length/\r=((0,[]),(2,-1)))\/
  (a.length<=64/\∃ j f,j<a.length/\EG (a.getD j Qq2)=some f/\f.1≠0/\Wv (a.take j)/\r=((0,[]),(f.1,(j:Int))))\/
  (a.length<=64/\Wv a/\r=Aay (a.length:Int) (II (PJ 0 a) []))):=by
 unfold Kr DI
 by_cases h:64<a.length
 ·rw [if_pos U];exact⟨_,Z,.inl ⟨h,Z⟩⟩
 ·rw [if_neg U];unfold KY
  rcases Xm (B:=1048576) U U hs a.length 0 U (fun v hv=>by simp at hv) with ⟨j,f,b,h2,h3,c,d⟩ | ⟨b,h2⟩
  ·exact⟨_,d,.inr (.inl ⟨by omega,j,f,b,h2,h3,c,Z⟩)⟩
  ·refine⟨Aay (a.length:Int) (II (PJ 0 a) []),?_,.inr (.inr ⟨by omega,b,Z⟩)⟩;have:=h2.trans (AeQ (by unfold Bw;omega) (Z8 U b hs).2);exact this
end Go.Proofs.YtekmbcbgknmhiaaGreatDoor
end
noncomputable section
namespace Go.Proofs.YtekmbcbgknmhiaaGreatDoor
open Go Go.L
def Sd(d:List UInt8×Pv):Prop:=d.1.length<=1048576/\Sm 1048576 10 d.2
theorem VW(i:Nat)(l:List (List UInt8)):(∀ t∈l,t.length<=2048)->N5 i l=none:=by
 induction l generalizing i with
 | nil=>intro _;rfl
 | cons a l ih=>
  intro h;have:=h a (QzA ..);unfold N5;rw [if_neg U];exact ih _ fun t ht=>h t (QzB _ ht)
theorem AeZ{items:List (List UInt8)}(hn:items.length<=64)(ht:∀ t∈items,t.length<=2048):∃ r,Jl items=some r:=by
 have hl:=VW 0 items ht;rw [Zt hn ht hl]
 split
 ·exact⟨_,Z⟩
 ·exact⟨_,Z⟩
def SK:((Int×(List ((List UInt8)×(List (Int×Int)))))×(Int×(List (((List UInt8)×Int×Int×(List UInt8))×(List Int))))×(List (((List Int))×(List Int)×(List Int)))):=(((0:Int),[]),((0:Int),[]),[])
theorem Ac9{l:List (List UInt8×Pv)}(hl:l.length<=64)(hs:∀ d∈l,Sd d)(ht:∀ d∈l,d.1.length<=2048):∃ r,EN (l.map QzQ) (l.map Qq5) (l.map fun d=>idx d.1)=some r/\(r.2.1=0/\r.1.2.2=l.map (fun d=>idx d.1)\/r.2.1≠0/\r.1=SK):=by
 have h:∀ (p:List (((List Int))×(List Int)×(List Int))) (a b c e:Int) (f:List ((List UInt8)×(List (Int×Int)))) (g:List (((List UInt8)×Int×Int×(List UInt8))×(List Int))),∃ r,Eg p a b c f e g=some r/\(r.2.1=0/\r.1.2.2=p\/r.2.1≠0/\r.1=SK):=fun p a b c e f g=>by
  unfold Eg Cz
  split
  ·exact⟨_,Z,.inl ⟨Z,Z⟩⟩
  ·exact⟨_,Z,.inr ⟨(show(14:Int)≠0 by decide),Z⟩⟩
 unfold EN;obtain⟨w,hw⟩:=AeZ (items:=l.map Qq5) (by simpa using hl) (fun t ht'=>by obtain⟨d,hd,rfl⟩:=Qz4.1 ht';exact ht d hd);obtain⟨s,hsb,_⟩:=Z9 (a:=l.map QzQ) (fun v hv=>by obtain⟨d,hd,rfl⟩:=Qz4.1 hv;exact(hs d hd).2);rw [hw,Qq6,hsb]
 split
 ·exact h _ _ _ _ _ _ _
 ·exact h _ _ _ _ _ _ _
theorem VX{l:List (List UInt8×Pv)}(hl:l.length<=64)(hs:∀ d∈l,Sd d):∀ (d i:Nat),i+d=l.length->(∀ x∈l.take i,x.1.length<=2048)->
  ∃ r,J8 l ((l.take i).map QzQ,(l.take i).map Qq5,(l.take i).map (fun d=>idx d.1),(i:Int))=some r/\((∀ d∈l,d.1.length<=2048)/\EN (l.map QzQ) (l.map Qq5) (l.map fun d=>idx d.1)=some r\/r.2.1≠0/\r.1=SK)
 | 0,i,hi,ht=>by
  have he:l.take i=l:=Qxz U;rw [he] at ht ⊢;obtain⟨r,a,h2⟩:=Ac9 hl hs ht;refine⟨r,?_,.inl ⟨ht,a⟩⟩;rw [<- a];refine AQ ?_;unfold Dk;simp only;rw [if_neg U]
 | d+1,i,hi,ht=>by
  have hil:i<l.length:=by omega
  have hg:l.getD ((i:Int)).toNat Qq2=l[i]:=by rw [Qq8,Qq9,Qzw hil];rfl
  have hm:l[i]∈l:=Qxx _;have hlt:(l.take i).length<=64:=by rw [QzK];omega
  have hc:∀ (n b:Nat),n<=64->b<=100->Go.E.Io b (n+1):=fun n b hn hb=>by
   unfold Go.E.Io;have:=Nat.mul_le_mul (show n+1<=65 by omega) hb;exact⟨by omega,by omega⟩
  unfold J8
  by_cases h2:l[i].1.length<=2048
  ·obtain⟨f,hf,hv⟩:=TU (B:=1048576) U (hs _ hm).2
   by_cases h3:f.1=0/\f.2=0
   ·have hb:Dk l ((l.take i).map QzQ,(l.take i).map Qq5,(l.take i).map (fun d=>idx d.1),(i:Int))=some (.inl ((l.take i).map QzQ++[l[i].2],(l.take i).map Qq5++[l[i].1],(l.take i).map (fun d=>idx d.1)++[idx l[i].1],((i+1:Nat):Int))):=by
     unfold Dk;simp only;rw [if_pos U,Ad U,hg,VC,Qq6,if_pos h2];simp only [and_self,if_true];rw [hf,Qq6,if_pos h3,Ad (by rw [Qzk];exact hc _ _ hlt U),Ad (by rw [Qzk];exact hc _ _ hlt U),Ad (by rw [Qzk];exact hc _ _ hlt U)];unfold J7;rw [Ad (by unfold Bw;omega)]
     rfl
    have e:l.take (i+1)=l.take i++[l[i]]:=(List.take_append_getElem hil).symm
    have ih:=VX hl hs d (i+1) U (fun x hx=>by
     rw [e] at hx
     rcases Qze.1 hx with hx | hx
     ·exact ht x hx
     ·obtain rfl:=QzX.1 hx;exact h2)
    rw [Bg hb];rw [e,Qxd,Qxd,Qxd] at ih;exact ih
   ·have hb:Dk l ((l.take i).map QzQ,(l.take i).map Qq5,(l.take i).map (fun d=>idx d.1),(i:Int))=some (.inr (SK,(f.1,(i:Int)))):=by
     unfold Dk;simp only;rw [if_pos U,Ad U,hg,VC,Qq6,if_pos h2];simp only [and_self,if_true];rw [hf,Qq6,if_neg h3]
     rfl
    refine⟨(SK,(f.1,(i:Int))),AQ (m:=some (SK,(f.1,(i:Int)))) hb,.inr ⟨?_,Z⟩⟩;intro c
    rcases hv with ⟨rfl,_⟩ | hv
    ·exact h3 ⟨Z,Z⟩
    ·exact hv c
  ·have hb:Dk l ((l.take i).map QzQ,(l.take i).map Qq5,(l.take i).map (fun d=>idx d.1),(i:Int))=some (.inr (SK,(3,(i:Int)))):=by
    unfold Dk;simp only;rw [if_pos U,Ad U,hg,VC,Qq6,if_neg h2]
    rfl
   exact⟨(SK,(3,(i:Int))),AQ (m:=some (SK,(3,(i:Int)))) hb,.inr ⟨(show(3:Int)≠0 by decide),Z⟩⟩
theorem Afa{n:Int}{es:HM}(hn:es.length<=1000000000)(hs:Inc (es.map Qq5))(w:List UInt8)(hh:(BW [] w es).length<=1000000000):Gu (n,es) w=some (if wf w=(0,0) then BW [] w es else[],wf w):=by
 unfold Gu;rw [NS,Qq6]
 by_cases h:wf w=(0,0)
 ·rw [if_pos h,if_pos (by rw [h];exact⟨Z,Z⟩)];simp only;rw [PG hn w hs,Qq6];unfold D7;rw [Ad (by rw [Qzf];constructor <;> omega),Qq6,Qxw,h]
 ·rw [if_neg h,if_neg (fun x=>h (Prod.ext x.1 x.2))]
end Go.Proofs.YtekmbcbgknmhiaaGreatDoor
end
noncomputable section
namespace Go.L
open Go Go.Proofs.YtekmbcbgknmhiaaGreatDoor
def AgH(P:List (List UInt8×Mp))(l:List (List UInt8))(h:Mp):Prop:=∀ k,k<l.length->(l.getD k Qq2,(h.1,h.2+(k:Int)))∈P
noncomputable instance (P:List (List UInt8×Mp)) (l:List (List UInt8)) (h:Mp):Decidable (AgH P l h):=Classical.propDecidable _
def Yl:Nat->List (List UInt8)->Option (Int×Int)
 | _,[]=>none
 | i,w::r=>if wf w=(0,0) then Yl (i+1) r else some ((wf w).1,(i:Int))
end Go.L
namespace Go.Proofs.YtekmbcbgknmhiaaGreatDoor
open Go Go.L
theorem SL{l:List Mp}(hn:l.length<=1000000000)(p:Mp):Cj l p=some (decide (p∈l)):=by
 unfold Cj D6 DR
 have key:∀ (r:List Mp) (i:Nat),l.drop i=r->∃ z,run (B5 l p) (i:Int)=some z/\(0<=z↔p∈r):=by
  intro r
  induction r with
  | nil=>
   intro i hd;have hlen:=NW hd;refine⟨-1,AQ (m:=some (-1)) ?_,by simp⟩;unfold B5 CU;rw [if_neg U]
  | cons x r ih=>
   intro i hd;obtain⟨hg,hd',hlt⟩:=M9 hd
   by_cases h:p.1=x.1/\p.2=x.2
   ·refine⟨(i:Int),AQ (m:=some (i:Int)) ?_,by simp [Prod.ext h.1 h.2]⟩;unfold B5;rw [if_pos U,Ad ⟨by omega,by omega⟩,Qq8,hg,if_pos h]
   ·obtain⟨z,a,h2⟩:=ih (i+1) hd';refine⟨z,?_,?_⟩
    ·rw [<- a];refine Bg ?_;unfold B5;rw [if_pos U,Ad ⟨by omega,by omega⟩,Qq8,hg,if_neg h,Ad (by constructor <;> omega)]
     rfl
    ·rw [h2,Qzy];exact⟨.inr,fun h'=>h'.resolve_left (fun e=>h (by rw [e];exact⟨Z,Z⟩))⟩
 obtain⟨z,a,h2⟩:=key l 0 Z;have e:((p.1,p.2):Mp)=p:=Z;rw [e];rw [show run (B5 l p) 0=some z from a,Qq6]
 congr 1
 exact decide_eq_decide.2 h2
theorem SM{l:List Int}(hn:l.length<=1000000000)(p:Int):BD l p=some (decide (p∈l)):=by
 unfold BD DV DK
 have key:∀ (r:List Int) (i:Nat),l.drop i=r->∃ z,run (Be l p) (i:Int)=some z/\(0<=z↔p∈r):=by
  intro r
  induction r with
  | nil=>
   intro i hd;have hlen:=NW hd;refine⟨-1,AQ (m:=some (-1)) ?_,by simp⟩;unfold Be Dc;rw [if_neg U]
  | cons x r ih=>
   intro i hd;obtain⟨hg,hd',hlt⟩:=M9 hd
   by_cases h:p=x
   ·refine⟨(i:Int),AQ (m:=some (i:Int)) ?_,by simp [h]⟩;unfold Be;rw [if_pos U,Ad ⟨by omega,by omega⟩,Qq8,hg,if_pos h]
   ·obtain⟨z,a,h2⟩:=ih (i+1) hd';refine⟨z,?_,?_⟩
    ·rw [<- a];refine Bg ?_;unfold Be;rw [if_pos U,Ad ⟨by omega,by omega⟩,Qq8,hg,if_neg h,Ad (by constructor <;> omega)]
     rfl
    ·rw [h2,Qzy];exact⟨.inr,fun h'=>h'.resolve_left h⟩
 obtain⟨z,a,h2⟩:=key l 0 Z;rw [show run (Be l p) 0=some z from a,Qq6]
 congr 1
 exact decide_eq_decide.2 h2
structure XOk (es:HM):Prop where
 len:es.length<=1000000
 inc:Inc (es.map Qq5)
 Aa2:∀ w,(BW [] w es).length<=1000000/\∀ h∈BW [] w es,-1000000<=h.2/\h.2<=1000000
theorem XOk.AiW{items:List (List UInt8)}(hn:items.length<=64)(ht:∀ t∈items,t.length<=2048):XOk (E items):=by
 have hp:=T1 hn ht;have he:=AeE items;refine⟨by omega,AiL items,fun w=>?_⟩;rw [Xg];have a:=PF (H7 0 items) w;refine⟨by omega,fun h hh=>?_⟩;have h2:=J0 0 items 2048 ht _ (MA.1 hh);simp only at h2;omega
def VY(es:HM)(l:List (List UInt8))(h:Mp)(k:Nat):Prop:=∀ m,k<=m->m<l.length->(h.1,h.2+(m:Int))∈BW [] (l.getD m Qq2) es
noncomputable instance (es:HM) (l:List (List UInt8)) (h:Mp) (k:Nat):Decidable (VY es l h k):=Classical.propDecidable _
theorem AbA{n:Int}{es:HM}(hx:XOk es){l:List (List UInt8)}(hl:l.length<=16)(out H0:List Mp)(hH:H0.length<=1000000){j:Nat}{h:Mp}(hj:j<H0.length)(hg:H0.getD j Qq2=h)(hb : -1000000<=h.2/\h.2<=1000000):
  ∀ (r:List (List UInt8)) (k:Nat),l.drop k=r->run (Cm (n,es) l out (j:Int) H0) (k:Int)=if VY es l h k then E6 out (j:Int) H0 else CW (j:Int) out
 | [],k,hd=>by
  have hlen:=NW hd;rw [if_pos (show VY es l h k from fun m a h2=>by omega)];refine AQ ?_;unfold Cm;rw [if_neg U]
 | w::r,k,hd=>by
  obtain⟨hgk,hd',hlt⟩:=M9 hd;have hw:=hx.Aa2 w
  by_cases hm:(h.1,h.2+(k:Int))∈BW [] w es
  ·have hb':Cm (n,es) l out (j:Int) H0 (k:Int)=some (.inl ((k+1:Nat):Int)):=by
    unfold Cm;simp only;rw [if_pos U,Ad ⟨by omega,by omega⟩,Qq8,Qq8,hg,hgk,Ad (by constructor <;> omega),PG (by have:=hx.len;omega) w hx.inc,Qq6,SL U,Qq6,decide_eq_true hm,if_neg Qqc,Ad (by constructor <;> omega)]
    rfl
   rw [Bg hb',AbA hx hl out H0 hH hj hg hb r (k+1) hd']
   have e:VY es l h (k+1)↔VY es l h k:=by
    constructor
    ·intro hh m a h2
     rcases Qxk k m with h3 | h3
     ·exact hh m h3 h2
     ·obtain rfl:k=m:=by omega
      rw [hgk];exact hm
    ·intro hh m a h2;exact hh m U h2
   by_cases hf:VY es l h k
   ·rw [if_pos hf,if_pos (e.2 hf)]
   ·rw [if_neg hf,if_neg (fun x=>hf (e.1 x))]
  ·rw [if_neg (fun hh=>hm (by have:=hh k (Qzx _) hlt;rw [hgk] at this;exact this))];refine AQ ?_;unfold Cm;simp only;rw [if_pos U,Ad ⟨by omega,by omega⟩,Qq8,Qq8,hg,hgk,Ad (by constructor <;> omega),PG (by have:=hx.len;omega) w hx.inc,Qq6,SL U,Qq6,decide_eq_false hm,if_pos Qqc]
def KT(es:HM)(l:List (List UInt8))(h:Mp):Prop:=∀ m,m<l.length->(h.1,h.2+(m:Int))∈BW [] (l.getD m Qq2) es
noncomputable instance (es:HM) (l:List (List UInt8)) (h:Mp):Decidable (KT es l h):=Classical.propDecidable _
theorem AbB{n:Int}{es:HM}(hx:XOk es){l:List (List UInt8)}(hl:l.length<=16)(H0:List Mp)(hH:H0.length<=1000000):∀ (r:List Mp) (j:Nat) (out:List Mp),H0.drop j=r->out.length<=j->(∀ h∈r,-1000000<=h.2/\h.2<=1000000)->
  run (CL (n,es) l H0) (out,(j:Int))=some (out++r.filter (fun h=>decide (KT es l h)),(0,0))
 | [],j,out,hd,ho,_=>by
  have hlen:=NW hd;refine AQ ?_;unfold CL Ga;simp only;rw [if_neg U,List.filter_nil,QzZ]
 | h::r,j,out,hd,ho,hr=>by
  obtain⟨hg,hd',hlt⟩:=M9 hd;have hb:=hr h (QzA ..);have a:=AbA (n:=n) hx hl out H0 hH hlt hg hb l 0 Z
  have hbody:CL (n,es) l H0 (out,(j:Int))=some (.inl (out++(if KT es l h then[h] else[]),((j+1:Nat):Int))):=by
   unfold CL Ia;simp only;rw [if_pos U,Ad ⟨by omega,by omega⟩];refine a.trans ?_
   by_cases hf:KT es l h
   ·rw [if_pos hf,if_pos (show VY es l h 0 from fun m _ h2=>hf m h2)];unfold E6 CW;rw [Qq8,hg,Ad (by rw [QxD];constructor <;> omega),Ad (by constructor <;> omega)]
    rfl
   ·rw [if_neg hf,if_neg (fun hh=>hf (fun m h2=>hh m (Qz6 _) h2)),QzZ];unfold CW;rw [Ad (by constructor <;> omega)]
    rfl
  rw [Bg hbody,AbB hx hl H0 hH r (j+1) _ hd' (by rw [Qzu];split <;> simp <;> omega) (fun x hx'=>hr x (QzB _ hx')),QxZ]
  congr 3
  by_cases hf:KT es l h
  ·rw [if_pos hf,List.filter_cons_of_pos (p:=fun h=>decide (KT es l h)) (decide_eq_true hf)];rfl
  ·rw [if_neg hf,List.filter_cons_of_neg (p:=fun h=>decide (KT es l h)) (by simpa using hf)];rfl
theorem AcA{n:Int}{es:HM}(hx:XOk es)(l:List (List UInt8)):
  Ed (n,es) l=some (if l=[] then([],(10,-1)) else if 16<l.length then([],(2,-1)) else match Yl 0 l with | some f=>([],f) | none=>((BW [] (l.getD 0 Qq2) es).filter (fun h=>decide (KT es l h)),(0,0))):=by
 unfold Ed
 by_cases b:l=[]
 ·subst b;rfl
 have d:=List.length_pos_iff.2 b;rw [if_neg U,if_neg b]
 by_cases a:16<l.length
 ·rw [if_pos U,if_pos a];rfl
 rw [if_neg U,if_neg a];unfold Ic
 have key:∀ (r:List (List UInt8)) (i:Nat),l.drop i=r->run (CM (n,es) l) (i:Int)=some (match Yl i r with | some f=>([],f) | none=>((BW [] (l.getD 0 Qq2) es).filter (fun h=>decide (KT es l h)),(0,0))):=by
  intro r
  induction r with
  | nil=>
   intro i hd;have hlen:=NW hd;refine AQ ?_;unfold CM Gb Ib;have hw:=hx.Aa2 (l.getD 0 Qq2);have c:(0:Int).toNat=0:=Z;rw [if_neg U,Ad ⟨by omega,by omega⟩,c,PG (by have:=hx.len;omega) _ hx.inc,Qq6];have:=AbB (n:=n) hx (l:=l) U (BW [] (l.getD 0 Qq2) es) hw.1 _ 0 [] Z (Qzx _) hw.2;rw [Qxw] at this
   congr 1
  | cons w r ih=>
   intro i hd;obtain⟨hg,hd',hlt⟩:=M9 hd;unfold Yl
   by_cases h:wf w=(0,0)
   ·rw [if_pos h,<- ih (i+1) hd'];refine Bg ?_;unfold CM;rw [if_pos U,Ad ⟨by omega,by omega⟩,Qq8,hg,NS,Qq6,if_pos (by rw [h];exact⟨Z,Z⟩),Ad (by constructor <;> omega)]
    rfl
   ·rw [if_neg h];refine AQ ?_;unfold CM;rw [if_pos U,Ad ⟨by omega,by omega⟩,Qq8,hg,NS,Qq6,if_neg (fun x=>h (Prod.ext x.1 x.2))]
    rfl
 exact key l 0 Z
end Go.Proofs.YtekmbcbgknmhiaaGreatDoor
end
noncomputable section
namespace Go.L
open Go Go.Proofs.YtekmbcbgknmhiaaGreatDoor
def TV(items:List (List UInt8))(a b:List UInt8)(d x:Int):Prop:=∃ k k':Int,(a,(x,k))∈H7 0 items/\(b,(x,k'))∈H7 0 items/\k≠k'/\-d<=k - k'/\k - k'<=d
theorem TV.symm{items:List (List UInt8)}{a b:List UInt8}{d x:Int}:TV items a b d x↔TV items b a d x:=by
 constructor <;> (rintro⟨k,k',c,h2,h3,f,g⟩;exact⟨k',k,h2,c,fun e=>h3 e.symm,by omega,by omega⟩)
theorem TV.more{items:List (List UInt8)}{a b:List UInt8}{d e x:Int}(h:d<=e):TV items a b d x->TV items a b e x:=by
 rintro⟨k,k',c,h2,h3,f,g⟩;exact⟨k,k',c,h2,h3,by omega,by omega⟩
abbrev AgI(l:List Int):Prop:=l.Pairwise (· < ·)
def Cl(k h:Mp)(d:Int):Prop:=h.1=k.1/\h.2≠k.2/\-d<=h.2 - k.2/\h.2 - k.2<=d
theorem SN:∀ (i:Nat) (r:List (List UInt8)),(H7 i r).Pairwise fun p q=>p.2.1<=q.2.1
 | _,[]=>List.Pairwise.nil
 | i,t::r=>by
  unfold H7;refine Qjq.2 ⟨?_,SN (i+1) r,fun p hp q hq=>?_⟩
  ·rw [List.pairwise_iff_forall_sublist];intro p q hs;have a:=Oo (hs.subset (QzA ..));have h2:=Oo (hs.subset (QzB _ (QzA ..)));omega
  ·have a:=Oo hp;have h2:=(J0 (i+1) r (total r) (fun t ht=>Xi ht) q hq).1;omega
theorem Ww(items:List (List UInt8))(w:List UInt8):(NV (H7 0 items) w).Pairwise fun h k=>h.1<=k.1:=by
 unfold NV;rw [Qkk];exact(SN 0 items).filter _
end Go.L
namespace Go.Proofs.YtekmbcbgknmhiaaGreatDoor
open Go Go.L
theorem Afb{k h:Mp}{d:Int}(hd:1<=d)(hk : -1000000<=k.2/\k.2<=1000000)(hh : -1000000<=h.2/\h.2<=1000000):∃ b,EW k h d=some (b,(h.1,h.2),d)/\(b=true↔Cl k h d):=by
 unfold EW;rw [Ad (by constructor <;> omega),Ad (by constructor <;> omega)];unfold Cl
 by_cases a:(h.1=k.1)/\((0:Int)<(max (h.2 - k.2) (k.2 - h.2)))
 ·rw [if_pos a];refine⟨_,Z,?_⟩;rw [decide_eq_true_eq]
  constructor
  ·intro h2;exact⟨a.1,by omega,by omega,by omega⟩
  ·rintro⟨_,_,h2,h3⟩;omega
 ·rw [if_neg a];refine⟨_,Z,?_⟩;simp only [Qz1,false_iff];rintro⟨h2,h3,_⟩;exact a ⟨h2,by omega⟩
theorem Wx{B:List Mp}(hB:B.length<=1000000)(hb:∀ k∈B,-1000000<=k.2/\k.2<=1000000){h:Mp}(hh : -1000000<=h.2/\h.2<=1000000){d:Int}(hd:1<=d):
  ∃ b,BI B h d=some (b,(h.1,h.2),d)/\(b=true↔∃ k∈B,Cl k h d):=by
 unfold BI CN Dp
 have key:∀ (r:List Mp) (i:Nat),B.drop i=r->∃ z,run (Bp B) (h.1,h.2,d,(i:Int))=some (z,(h.1,h.2),d)/\(0<=z↔∃ k∈r,Cl k h d):=by
  intro r
  induction r with
  | nil=>
   intro i hdr;have hlen:=NW hdr;refine⟨-1,AQ (m:=some (-1,(h.1,h.2),d)) ?_,by simp⟩;unfold Bp Cr;simp only;rw [if_neg U]
  | cons x r ih=>
   intro i hdr;obtain⟨hg,hd',hlt⟩:=M9 hdr;have hx:x∈B:=List.mem_of_mem_drop (by rw [hdr];exact QzA ..);obtain⟨b,a,h2⟩:=Afb (k:=x) hd (hb x hx) hh;have h1':EW (x.1,x.2) (h.1,h.2) d=some (b,(h.1,h.2),d):=a
   cases b with
   | true=>
    refine⟨(i:Int),AQ (m:=some ((i:Int),(h.1,h.2),d)) ?_,?_⟩
    ·unfold Bp;simp only;rw [if_pos U,Ad ⟨by omega,by omega⟩,Qq8,hg,h1',Qq6,if_pos Z]
    ·exact⟨fun _=>⟨x,QzA ..,h2.1 Z⟩,fun _=>by omega⟩
   | false=>
    obtain⟨z,h3,c⟩:=ih (i+1) hd';refine⟨z,?_,?_⟩
    ·rw [<- h3];refine Bg ?_;unfold Bp;simp only;rw [if_pos U,Ad ⟨by omega,by omega⟩,Qq8,hg,h1',Qq6,if_neg Qkj,Ad (by constructor <;> omega)]
     rfl
    ·rw [c]
     constructor
     ·rintro⟨k,hk,hc⟩;exact⟨k,QzB _ hk,hc⟩
     ·rintro⟨k,hk,hc⟩
      rcases Qzy.1 hk with rfl | hk
      ·have:=h2.2 hc;cases this
      ·exact⟨k,hk,hc⟩
 obtain⟨z,a,h2⟩:=key B 0 Z;rw [show run (Bp B) ((h.1,h.2).1,(h.1,h.2).2,d,0)=_ from a,Qq6];exact⟨_,Z,by rw [decide_eq_true_eq];exact h2⟩
theorem T8{n:Int}{es:HM}(hx:XOk es)(b:List UInt8){d:Int}(hd:1<=d){H:List Mp}(hH:H.length<=1000000):∀ (r:List Mp) (j:Nat) (out:List Int),H.drop j=r->j<=H.length->out.length<=j->AgI out->(∀ y∈out,∀ h∈r,y<=h.1)->r.Pairwise (fun h k=>h.1<=k.1)->(∀ h∈r,-1000000<=h.2/\h.2<=1000000)->
  ∃ L,run (Du (n,es) b H) (out,d,(j:Int))=some (L,(0,0))/\AgI L/\L.length<=H.length/\∀ x,x∈L↔x∈out\/∃ h∈r,h.1=x/\∃ k∈BW [] b es,Cl k h d
 | [],j,out,hdr,hjl,ho,hi,_,_,_=>by
  have hlen:=NW hdr;refine⟨out,AQ (m:=some (out,(0,0))) ?_,hi,by omega,by simp⟩
  ·unfold Du Hh;simp only;rw [if_neg U]
 | h::r,j,out,hdr,hjl,ho,hi,hy,hs,hr=>by
  obtain⟨hg,hd',hlt⟩:=M9 hdr;have hb:=hr h (QzA ..);have hw:=hx.Aa2 b;obtain⟨c,s,h2⟩:=Wx hw.1 hw.2 hb hd;have h1':BI (BW [] b es) (h.1,h.2) d=some (c,(h.1,h.2),d):=s;have g:=Qz0.1 hs;have i:(j:Int)+1=((j+1:Nat):Int):=by omega
  -- the list behind this round
  by_cases hadd:c=true/\h.1∉out
  ·have hi':AgI (out++[h.1]):=Qjq.2 ⟨hi,QkZ _ _,fun y f z hz=>by
    rw [QzX.1 hz];have h3:=hy y f h (QzA ..);have t:y≠h.1:=fun e=>hadd.2 (e ▸ f);omega⟩
   obtain⟨L,l,o,p,q⟩:=T8 hx b hd hH r (j+1) (out++[h.1]) hd' hlt (by simp;omega) hi' (fun y f k hk=>by
    rcases Qze.1 f with f | f
    ·exact hy y f k (QzB _ hk)
    ·rw [QzX.1 f];exact g.1 k hk) g.2 (fun k hk=>hr k (QzB _ hk))
   refine⟨L,?_,o,p,fun x=>?_⟩
   ·rw [<- l];refine Bg ?_;unfold Du;simp only;rw [if_pos U,Ad ⟨by omega,by omega⟩,Qq8,hg,PG (by have:=hx.len;omega) b hx.inc,Qq6,h1',Qq6,if_pos hadd.1,SM U,Qq6,decide_eq_false hadd.2,if_pos Qqc,Ad (by rw [QxD];constructor <;> omega),Ad (by constructor <;> omega),i]
   ·rw [q,Qze,QzX]
    constructor
    ·rintro((a | a) | ⟨k,hk,a⟩)
     ·exact .inl a
     ·exact .inr ⟨h,QzA ..,a.symm,h2.1 hadd.1⟩
     ·exact .inr ⟨k,QzB _ hk,a⟩
    ·rintro(a | ⟨k,hk,a⟩)
     ·exact .inl (.inl a)
     ·rcases Qzy.1 hk with rfl | hk
      ·exact .inl (.inr a.1.symm)
      ·exact .inr ⟨k,hk,a⟩
  ·obtain⟨L,l,o,p,q⟩:=T8 hx b hd hH r (j+1) out hd' hlt U hi (fun y f k hk=>hy y f k (QzB _ hk)) g.2 (fun k hk=>hr k (QzB _ hk));refine⟨L,?_,o,p,fun x=>?_⟩
   ·rw [<- l];refine Bg ?_;unfold Du;simp only;rw [if_pos U,Ad ⟨by omega,by omega⟩,Qq8,hg,PG (by have:=hx.len;omega) b hx.inc,Qq6,h1',Qq6]
    cases c with
    | false=>rw [if_neg Qkj,Ad (by constructor <;> omega),i]
    | true=>
     have hin:h.1∈out:=Decidable.byContradiction fun hn=>hadd ⟨Z,hn⟩;rw [if_pos Z,SM U,Qq6,decide_eq_true hin,if_neg Qqc,Ad (by constructor <;> omega),i]
   ·rw [q]
    constructor
    ·rintro(a | ⟨k,hk,a⟩)
     ·exact .inl a
     ·exact .inr ⟨k,QzB _ hk,a⟩
    ·rintro(a | ⟨k,hk,a⟩)
     ·exact .inl a
     ·rcases Qzy.1 hk with rfl | hk
      ·have hc:c=true:=h2.2 a.2;have hin:k.1∈out:=Decidable.byContradiction fun hn=>hadd ⟨hc,hn⟩;exact .inl (a.1 ▸ hin)
      ·exact .inr ⟨k,hk,a⟩
def Aa3(a b:List UInt8)(d:Int):Prop:=wf a=(0,0)/\wf b=(0,0)/\1<=d/\d<=2048
def Ah0(a b:List UInt8):Int×Int:=if wf a=(0,0) then if wf b=(0,0) then(4,-3) else((wf b).1,-2) else wf a
theorem AgJ{n:Int}{items:List (List UInt8)}(hn:items.length<=64)(ht:∀ t∈items,t.length<=2048)(a b:List UInt8)(d:Int):
  (Aa3 a b d->∃ L,Ff (n,E items) a b d=some (L,(0,0))/\AgI L/\L.length<=1000000/\∀ x,x∈L↔TV items a b d x)/\(¬ Aa3 a b d->Ff (n,E items) a b d=some ([],Ah0 a b)):=by
 have hx:=XOk.AiW hn ht;unfold Ff;rw [NS,Qq6]
 constructor
 ·rintro⟨c,h2,h3,l⟩;have hw:=hx.Aa2 a;obtain⟨L,m,o,q,p⟩:=T8 (n:=n) hx b h3 hw.1 (BW [] a (E items)) 0 [] Z (Qz6 _) (Qzx _) List.Pairwise.nil Qqd (by rw [Xg];exact Ww items a) hw.2;refine⟨L,?_,o,by omega,fun x=>?_⟩
  ·rw [if_pos (by rw [c];exact⟨Z,Z⟩),NS,Qq6,if_pos (by rw [h2];exact⟨Z,Z⟩),if_neg U,if_neg U];simp only;rw [PG (by have:=hx.len;omega) a hx.inc,Qq6];exact m
  ·rw [p];unfold TV
   constructor
   ·rintro(e | ⟨h,hh,rfl,k,hk,f,g,i,j⟩)
    ·cases e
    ·rw [Xg,MA] at hh hk;exact⟨h.2,k.2,hh,by rw [f];exact hk,g,i,j⟩
   ·rintro⟨k,k',e,f,g,i,j⟩;refine .inr ⟨(x,k),by rw [Xg,MA];exact e,Z,(x,k'),by rw [Xg,MA];exact f,Z,g,i,j⟩
 ·intro h;unfold Ah0
  by_cases c:wf a=(0,0)
  ·rw [if_pos (by rw [c];exact⟨Z,Z⟩),if_pos c,NS,Qq6]
   by_cases h2:wf b=(0,0)
   ·rw [if_pos (by rw [h2];exact⟨Z,Z⟩),if_pos h2]
    by_cases h3:d<1
    ·rw [if_pos h3];rfl
    ·rw [if_neg h3]
     by_cases l:2048<d
     ·rw [if_pos l];rfl
     ·exact absurd ⟨c,h2,by omega,by omega⟩ h
   ·rw [if_neg (fun x=>h2 (Prod.ext x.1 x.2)),if_neg h2];rfl
  ·rw [if_neg (fun x=>c (Prod.ext x.1 x.2)),if_neg c]
/- The reference. -/
end Go.Proofs.YtekmbcbgknmhiaaGreatDoor
end
