/- Texts of a claim, merged. -/
import Derived.Test.YtgaljodghpgdmaaGreatDoorLa6
import Derived.KernelRfl
open Option renaming some->TI
open _root_.Go.Proofs.Tryz renaming underlying3→TQ,underlying27→Vv,underlying23→Jk,underlying24→LS,underlying25→U5,underlying39→QW
open Option renaming bind->Xd,bind_some->Wo,map->Sh
open List renaming getD_eq_getElem?_getD->Sb,getElem?_eq_getElem->Pa,length_cons->PF,length_map->Vx,length_append->T6,range->VO,mem_cons->R7,mem_cons_of_mem->RT,mem_cons_self->SZ,length_take->Y4,mem_singleton->TG,drop_eq_nil_of_le->UU,length_nil->RZ,mem_append->MY,append_nil->R0,map_cons->Yu,length_drop->U1,take_of_length_le->Sg,pairwise_cons->QU,getElem_mem->Rs,length_singleton->T9,mem_range->PQ,append_assoc->YW,mem_map->Rr,getElem?_map->Y9,length_range->Z3,map_append->K4,flatMap_cons->Y8,nil_append->Qx,getElem?_eq_none->Xt,length_filter_le->Xj,drop_eq_getElem_cons->RV,take_length->EC,range_succ->Tl,drop_zero->YA,mem_filter->Zf,filter_append->Vw,pairwise_append->SE,pairwise_singleton->OO,countP_cons->QQ,map_map->Xc,pairwise_map->PO,take_append_getElem->SR,sum_cons->Th,not_mem_nil->Xn,countP_append->Ql,filter_nil->Xs,range'->Zy,countP_congr->Rx,countP_singleton->Tc,filter_cons->V1,getElem?_set->RN
open Int renaming toNat_natCast->SV,reduceEq->YV
open Prod renaming fst->TJ,snd->NB,ext->YI
open Nat renaming le_refl->KN,zero_le->Tg,add_sub_cancel->UW,lt_or_ge->TC
open Bool renaming and_eq_true->ZA,false_ne_true->Xr,false_eq_true->SQ,eq_iff_iff->Z8,or_eq_true->U2,and_false->QA
open UInt8 renaming ofNat->SJ,toNat_lt->Wm
set_option linter.defProp false
set_option linter.unusedVariables false
set_option linter.unusedSimpArgs false
set_option linter.unusedSectionVars false
noncomputable section
namespace Go.Proofs.YtgaljodghpgdmaaGreatDoor
open Go Go.E Go.RowKit Go.L
set_option maxHeartbeats 1000000
set_option maxRecDepth 10000
open _root_.Go.Proofs.Tryz
def IG(a0:Qv):Option Int:=
 Xd (I7 a0.f.2.2.1) (λa=>if a.1=0 then(if a0.f.1=3 then if((!decide (1<=a0.f.2.2.2.2.1/\a0.f.2.2.2.2.1<=2048))||((decide (a0.f.1=6))&&(decide (a0.f.2.2.2.2.2.1<a0.f.2.2.2.2.1))))then TI (4)else(if((decide (a0.f.1=4))&&(decide ((a0.f.2.2.2.1.length:Int)=0)))then TI (10)else(if 64<(a0.f.2.2.2.1.length:Int)then TI (3)else TI (0)))else if((decide (a0.f.1=6))&&(decide (a0.f.2.2.2.2.2.1<a0.f.2.2.2.2.1)))then TI (4)else(if((decide (a0.f.1=4))&&(decide ((a0.f.2.2.2.1.length:Int)=0)))then TI (10)else(if 64<(a0.f.2.2.2.1.length:Int)then TI (3)else TI (0))))else TI (a.1))
def FV(a0:Qv):Int->Option ((Int)⊕(Int)):=λa=>
 if a<(a0.f.2.1.length:Int)then Ay (0<=a/\a<(a0.f.2.1.length:Int)) (Xd (Lm (a0.f.2.1.getD a.toNat Qq7)) (λb=>if b.1=0 then Ay (AL (a+1)) (TI (Sum.inl (a+1)))else Sh Sum.inr (TI (b.1))))else Sh Sum.inr ((IG a0))
def P0(a0:Qv)(s:Int):Option Int:=Go.L.run (FV a0) s
def Dg(a0:Qv):Option Int:=
 (P0 a0) (0:Int)
def E4(a0:Qv):Int->Option ((Int)⊕(Int)):=λa=>
 if((decide (a<(a0.f.2.2.2.2.2.2.length:Int)))&&(decide (a0.f.1<10)))then Ay (0<=a/\a<(a0.f.2.2.2.2.2.2.length:Int)) (if(a0.f.2.2.2.2.2.2.getD a.toNat Qq7).f.1=a0.f.1 then Sh Sum.inr (TI (6))else Ay (AL (a+1)) (TI (Sum.inl (a+1))))else Sh Sum.inr ((Dg a0))
def P1(a0:Qv)(s:Int):Option Int:=Go.L.run (E4 a0) s
def IH(a0:Qv):Option Int:=
 (P1 a0) (0:Int)
def LI(a0:Qv):Option Int:=
 if 1<=a0.f.1/\a0.f.1<=10 then Ay (0<=a0.f.1/\a0.f.1<11) (Ay (0<=a0.f.1/\a0.f.1<11) (if(((!decide ((([0,1,2,2,0,0,0,0,0,0,0]:SB).getD a0.f.1.toNat Qq7)<=(a0.f.2.1.length:Int)/\(a0.f.2.1.length:Int)<=(([0,1,16,2,0,0,0,0,0,0,0]:SB).getD a0.f.1.toNat Qq7)))||((!decide (5<=a0.f.1/\a0.f.1<=7))&&(!decide (a0.f.2.2.1=([]:Wl)))))||(((!decide (a0.f.1=4))&&(!decide (a0.f.1=7)))&&(decide (0<(a0.f.2.2.2.1.length:Int)))))then TI (6)else(if((((!decide (a0.f.1=3))&&(!decide (a0.f.1=6)))&&(!decide (a0.f.2.2.2.2.1=0)))||((!decide (a0.f.1=6))&&(!decide (a0.f.2.2.2.2.2.1=0))))then TI (6)else(if(((decide (a0.f.1<8))&&(decide (0<(a0.f.2.2.2.2.2.2.length:Int))))||((decide (a0.f.1=10))&&(!decide ((a0.f.2.2.2.2.2.2.length:Int)=1))))then TI (6)else if((decide (8<=a0.f.1/\a0.f.1<=9))&&(decide ((a0.f.2.2.2.2.2.2.length:Int)<2)))then TI (6)else(IH a0)))))else TI (5)
section
variable(w:World)(H:PH)(hH:Le H (hp w)) include hH
theorem Qzf{a0:Qv}{ag ah ai:Value}(a9:As .st H ag (a0.f.2.1))(av:As .byte H ah (a0.f.2.2.2.1))(ao:As .AN H ai (a0.f.2.2.2.2.2.2)){r:Int}(h:LI a0=TI r):
  Pd 67 [.agg #[No a0.f.1,ag,Pg a0.f.2.2.1,ah,No a0.f.2.2.2.2.1,No a0.f.2.2.2.2.2.1,ai]] w (λv w'=>v=No r):=by
 refine Ai 190 [(0,.agg #[No a0.f.1,ag,Pg a0.f.2.2.1,ah,No a0.f.2.2.2.2.1,No a0.f.2.2.2.2.2.1,ai])] func67 Z λhL=>A5<|B6 (t:=27) Z Z hL λw1 b1 cm dg _=>AR ?_;refine Al cm (NI _ _ (Ae cm)) λw2 d9 cu dh=>BJ 1 Z<|Bt h ?_ ?_<;>intro cv h
 ·exact Bu
 refine Af ?_;refine AJ (A8 (λ_=>Hl _ _ _ _ _ _ _ _ _ _ _ _))<|Aq AeH.e Z cu λw6 b6 cw di _=>Ac 0 Z cw Z λw7 cx dj=>Af ?_;refine AJ (A8 (λ_=>Hl _ _ _ _ _ _ _ _ _ _ _ _))<|Aq AeH.e Z cx λw8 b8 cy dk _=>Ac 0 Z cy Z λw9 cz dl=>AR ?_;refine BF (Zt 0 40 (.tail 40)) mixed SF (λea cn=>?_);have m:=cz.call cn;refine Bh Z (A7 Z Vv Z Up.e) Z<|Bh Z (AG 2 Z m Z) Z<|Bh Z (W2 a9) Z<|Bh Z (A7 Z Vv Z DW.e) Z<|Bh Z (AG 2 Z m Z) Z<|Ag h λbc h=>Bh Z (Acq Z bc Z) Z ?_
 refine Bh Z (AeU (l:=([0,1,2,2,0,0,0,0,0,0,0]:SB)) 1 _ Z TQ m Z Z (An bc)) Z<|Bh Z (A7 Z Vv Z DW.e) Z<|Bh Z (AG 2 Z m Z) Z<|Ag h λbd h=>Bh Z (Acq Z bd Z) Z<|Bh Z (AeU (l:=([0,1,16,2,0,0,0,0,0,0,0]:SB)) 0 _ Z TQ m Z Z (An bd)) Z<|DY Z Z Z (λeb dm=>NI _ _ (Le.refl _))<|Br 2 Z<|Py 10 38 (.bool ((!decide ((([0,1,2,2,0,0,0,0,0,0,0]:SB).getD a0.f.1.toNat Qq7)<=(a0.f.2.1.length:Int)/\(a0.f.2.1.length:Int)<=(([0,1,16,2,0,0,0,0,0,0,0]:SB).getD a0.f.1.toNat Qq7)))||((!decide (5<=a0.f.1/\a0.f.1<=7))&&(!decide (a0.f.2.2.1=([]:Wl)))))) (λbe=>?_) ?_
 ·refine FX 28 Z (λd=>?_) (λd=>?_)
  ·iterate 5 refine Mm Z Z Z Z d Z ?_
   iterate 3 refine Pc Z Z Z Z Z ?_
   refine Mm Z Z Z Z d Z<|Bh Z (CA d Z) Z<|be.to 9 (T3 d) Z Z
  refine Cr Z (A7 Z Vv Z DW.e) Z Z Z d Z<|Cr Z (AG 2 Z m Z) Z Z Z d Z<|MC Z Z Z Z d Z Z (λec dn=>NI _ _ (Le.refl _)) ?_
  iterate 2 refine Cr Z (Az Z) Z Z Z d Z ?_
  refine Py 4 37 (.bool ((!decide (5<=a0.f.1/\a0.f.1<=7))&&(!decide (a0.f.2.2.1=([]:Wl))))) (λbf=>?_) ?_
  ·refine FX 33 Z (λz=>?_) (λz=>?_)
   ·refine Cr Z (A7 Z Vv Z E7.e) Z Z Z z Z<|Cr Z (AG 2 Z m Z) Z Z Z z Z<|Cr Z (ND Z Z) Z Z Z z Z<|Cr Z (CA z Z) Z Z Z d Z<|bf.to 3 (LV z) Z Z
   iterate 3 refine Mm Z Z Z Z z Z ?_
   refine Cr Z (B4 z Z) Z Z Z d Z<|bf.to 3 (LW z) Z Z
  refine Bh Z (B4 d Z) Z<|be.to 6 (T5 d) Z Z
 refine Br 1 Z<|Py 15 54 (.bool (((!decide ((([0,1,2,2,0,0,0,0,0,0,0]:SB).getD a0.f.1.toNat Qq7)<=(a0.f.2.1.length:Int)/\(a0.f.2.1.length:Int)<=(([0,1,16,2,0,0,0,0,0,0,0]:SB).getD a0.f.1.toNat Qq7)))||((!decide (5<=a0.f.1/\a0.f.1<=7))&&(!decide (a0.f.2.2.1=([]:Wl)))))||(((!decide (a0.f.1=4))&&(!decide (a0.f.1=7)))&&(decide (0<(a0.f.2.2.2.1.length:Int)))))) (λbg=>?_) ?_
 ·refine FX 39 Z (λa=>?_) (λa=>?_)
  ·iterate 4 refine Mm Z Z Z Z a Z ?_
   iterate 3 refine Pc Z Z Z Z Z ?_
   iterate 2 refine Mm Z Z Z Z a Z ?_
   iterate 4 refine Pc Z Z Z Z Z ?_
   refine Mm Z Z Z Z a Z<|Bh Z (CA a Z) Z<|bg.to 14 (T3 a) Z Z
  refine Cr Z (A7 Z Vv Z DW.e) Z Z Z a Z<|Cr Z (AG 2 Z m Z) Z Z Z a Z ?_
  iterate 2 refine Cr Z (Az Z) Z Z Z a Z ?_
  refine Py 4 47 (.bool ((!decide (a0.f.1=4))&&(!decide (a0.f.1=7)))) (λbh=>?_) ?_
  ·refine FX 43 Z (λaa=>?_) (λaa=>?_)
   ·refine Cr Z (A7 Z Vv Z DW.e) Z Z Z aa Z<|Cr Z (AG 2 Z m Z) Z Z Z aa Z<|Cr Z (Az Z) Z Z Z aa Z<|Cr Z (CA aa Z) Z Z Z a Z<|bh.to 3 (LV aa) Z Z
   iterate 3 refine Mm Z Z Z Z aa Z ?_
   refine Cr Z (B4 aa Z) Z Z Z a Z<|bh.to 3 (LW aa) Z Z
  refine Cr Z (Az Z) Z Z Z a Z<|Py 5 53 (.bool (((!decide (a0.f.1=4))&&(!decide (a0.f.1=7)))&&(decide (0<(a0.f.2.2.2.1.length:Int))))) (λbi=>?_) ?_
  ·refine FX 48 Z (λp=>?_) (λp=>?_)
   ·refine Cr Z (A7 Z Vv Z Nu.e) Z Z Z p Z<|Cr Z (AG 2 Z m Z) Z Z Z p Z<|Cr Z (W2 av) Z Z Z p Z<|Cr Z (Az Z) Z Z Z p Z<|Cr Z (CA p Z) Z Z Z a Z<|bi.to 4 (LV p) Z Z
   iterate 4 refine Mm Z Z Z Z p Z ?_
   refine Cr Z (B4 p Z) Z Z Z a Z<|bi.to 4 (LW p) Z Z
  refine Bh Z (B4 a Z) Z<|bg.to 7 (T5 a) Z Z
 refine AT (λed co=>?_);have aj:=m.call co;refine Ap<|AH h ?_ ?_<;>intro cp h
 ·exact Bu
 refine AR ?_;refine Gs 4 62 (.bool ((!decide (a0.f.1=3))&&(!decide (a0.f.1=6)))) (λbj=>?_) ?_
 ·refine Cu (s:=58) Z (λab=>?_) (λab=>?_)
  ·refine Aj ab<|sA Z Vv Z DW.e<|Aj ab<|sB 2 Z aj Z<|Aj ab<|sI Z<|sF ab Z<|bj.to 3 (LV ab) Z Z
  iterate 3 refine AW ab ?_
  refine sG ab Z<|bj.to 3 (LW ab) Z Z
 refine AK 1 Z<|Gs 4 67 (.bool (((!decide (a0.f.1=3))&&(!decide (a0.f.1=6)))&&(!decide (a0.f.2.2.2.2.1=0)))) (λbk=>?_) ?_
 ·refine Cu (s:=63) Z (λac=>?_) (λac=>?_)
  ·refine Aj ac<|sA Z Vv Z DW.e<|Aj ac<|sB 2 Z aj Z<|Aj ac<|sI Z<|sF ac Z<|bk.to 3 (LV ac) Z Z
  iterate 3 refine AW ac ?_
  refine sG ac Z<|bk.to 3 (LW ac) Z Z
 refine AK 1 Z<|Gs 9 77 (.bool ((((!decide (a0.f.1=3))&&(!decide (a0.f.1=6)))&&(!decide (a0.f.2.2.2.2.1=0)))||((!decide (a0.f.1=6))&&(!decide (a0.f.2.2.2.2.2.1=0))))) (λbl=>?_) ?_
 ·refine Cu (s:=68) Z (λad=>?_) (λad=>?_)
  ·iterate 4 refine AW ad ?_
   iterate 3 refine IP ?_
   refine AW ad<|sF ad Z<|bl.to 8 (T3 ad) Z Z
  refine Af ?_;refine Gs 4 76 (.bool ((!decide (a0.f.1=6))&&(!decide (a0.f.2.2.2.2.2.1=0)))) (λbm=>?_) ?_
  ·refine Cu (s:=72) Z (λae=>?_) (λae=>?_)
   ·refine Aj ae<|sA Z Vv Z DW.e<|Aj ae<|sB 2 Z aj Z<|Aj ae<|sI Z<|Aj ad<|sF ae Z<|bm.to 3 (LV ae) Z Z
   iterate 3 refine AW ae ?_
   refine Aj ad<|sG ae Z<|bm.to 3 (LW ae) Z Z
  refine sG ad Z<|bl.to 5 (T5 ad) Z Z
 refine Ap<|AH h ?_ ?_<;>intro cq h
 ·exact Bu
 refine Af ?_;refine AA Unit (λ(_:Unit)=>[(1,(SX b1))]) (λ(_:Unit) wr=>AB w [.box b8 [No 0,No 1,No 16,No 2,No 0,No 0,No 0,No 0,No 0,No 0,No 0] 188,.box b6 [No 0,No 1,No 2,No 2,No 0,No 0,No 0,No 0,No 0,No 0,No 0] 188,.box b1 [No a0.f.1,ag,Pg a0.f.2.2.1,ah,No a0.f.2.2.2.2.1,No a0.f.2.2.2.2.2.1,ai] 27] wr/\(IH a0)=TI r) ?_ ?_
 ·refine Af ?_;refine Gs 5 86 (.bool ((decide (a0.f.1<8))&&(decide (0<(a0.f.2.2.2.2.2.2.length:Int))))) (λbn=>?_) ?_
  ·refine Cu (s:=81) Z (λu=>?_) (λu=>?_)
   ·refine Aj u<|sA Z Vv Z VM.e<|Aj u<|sB 2 Z aj Z<|Aj u<|sE ao<|Aj u<|sI Z<|sF u Z<|bn.to 4 (LV u) Z Z
   iterate 4 refine AW u ?_
   refine sG u Z<|bn.to 4 (LW u) Z Z
  refine AK 1 Z<|Gs 10 97 (.bool (((decide (a0.f.1<8))&&(decide (0<(a0.f.2.2.2.2.2.2.length:Int))))||((decide (a0.f.1=10))&&(!decide ((a0.f.2.2.2.2.2.2.length:Int)=1))))) (λbo=>?_) ?_
  ·refine Cu (s:=87) Z (λaf=>?_) (λaf=>?_)
   ·iterate 4 refine AW af ?_
    iterate 4 refine IP ?_
    refine AW af<|sF af Z<|bo.to 9 (T3 af) Z Z
   refine Af ?_;refine Gs 5 96 (.bool ((decide (a0.f.1=10))&&(!decide ((a0.f.2.2.2.2.2.2.length:Int)=1)))) (λbp=>?_) ?_
   ·refine Cu (s:=91) Z (λx=>?_) (λx=>?_)
    ·refine Aj x<|sA Z Vv Z VM.e<|Aj x<|sB 2 Z aj Z<|Aj x<|sE ao<|Aj x<|sI Z<|Aj af<|sF x Z<|bp.to 4 (LV x) Z Z
    iterate 4 refine AW x ?_
    refine Aj af<|sG x Z<|bp.to 4 (LW x) Z Z
   refine sG af Z<|bo.to 5 (T5 af) Z Z
  refine AK 1 Z<|Cf 98 h ?_ ?_<;>intro aw h
  ·refine Af ?_;refine Cm<|Bu
  refine Af ?_;refine Al aj (NI _ _ (Ae aj)) λee dp bq c7=>Af ?_;refine Gs 5 107 (.bool ((decide (8<=a0.f.1/\a0.f.1<=9))&&(decide ((a0.f.2.2.2.2.2.2.length:Int)<2)))) (λbr=>?_) ?_
  ·refine Cu (s:=102) Z (λy=>?_) (λy=>?_)
   ·refine Aj y<|sA Z Vv Z VM.e<|Aj y<|sB 2 Z bq Z<|Aj y<|sE ao<|Aj y<|sI Z<|Aj aw<|sF y Z<|br.to 4 (LV y) Z Z
   iterate 4 refine AW y ?_
   refine Aj aw<|sG y Z<|br.to 4 (LW y) Z Z
  refine Af ?_;refine AH h ?_ ?_<;>intro cr h
  ·exact Bu
  refine Ca<|Am () ⟨bq,h⟩
 rintro _ dq ⟨cs,h⟩;refine AA Unit (λ(_:Unit)=>[(1,(SX b1))]) (λ(_:Unit) wr=>AB w [.box b8 [No 0,No 1,No 16,No 2,No 0,No 0,No 0,No 0,No 0,No 0,No 0] 188,.box b6 [No 0,No 1,No 2,No 2,No 0,No 0,No 0,No 0,No 0,No 0,No 0] 188,.box b1 [No a0.f.1,ag,Pg a0.f.2.2.1,ah,No a0.f.2.2.2.2.1,No a0.f.2.2.2.2.2.1,ai] 27] wr/\(Dg a0)=TI r) ?_ ?_
 ·refine Bx 1 Z<|A4 ?_;obtain⟨ax,h⟩:=Ax h;refine AF (Int×Nat) (λ⟨i,n⟩=>[(1,(SX b1)),(5,No i)]) (λ⟨i,n⟩ wr=>AB w [.box b8 [No 0,No 1,No 16,No 2,No 0,No 0,No 0,No 0,No 0,No 0,No 0] 188,.box b6 [No 0,No 1,No 2,No 2,No 0,No 0,No 0,No 0,No 0,No 0,No 0] 188,.box b1 [No a0.f.1,ag,Pg a0.f.2.2.1,ah,No a0.f.2.2.2.2.1,No a0.f.2.2.2.2.2.1,ai] 27] wr/\D6 (E4 a0) n i=TI r) (λ⟨i,n⟩=>n) (0,ax) Z ⟨cs,h⟩ ?_;rintro⟨i,nn114⟩ c8 ⟨ap,h⟩;obtain⟨ax,dr,rfl,h,aq⟩:=Aw h;refine AR ?_;refine Gs 4 118 (.bool ((decide (i<(a0.f.2.2.2.2.2.2.length:Int)))&&(decide (a0.f.1<10)))) (λaz=>?_) ?_
  ·refine Cu (s:=114) Z (λj=>?_) (λj=>?_)
   ·refine Aj j<|sA Z Vv Z DW.e<|Aj j<|sB 2 Z ap Z<|Aj j<|sI Z<|sF j Z<|az.to 3 (LV j) Z Z
   iterate 3 refine AW j ?_
   refine sG j Z<|az.to 3 (LW j) Z Z
  refine Ap<|AH h ?_ ?_<;>intro bs h
  ·refine AR ?_;refine BF (Zt 0 9 (.tail 9)) mixed SF (λds bt=>?_);have al:=ap.call bt;refine Bh Z (A7 Z Vv Z VM.e) Z<|Bh Z (AG 2 Z al Z) Z<|Br 1 Z<|Ag h λa1 h=>Cj Z Z Z U5 ao i.toNat (BP a1) (An a1) Z ?_;rintro dt _ e121t0 bu;obtain⟨_,_,rfl,rfl,⟨_,_,rfl,⟨e121v1,rfl,e121h1⟩,⟨_,_,rfl,rfl,⟨_,_,rfl,⟨e121v3,rfl,e121h3⟩,⟨_,_,rfl,rfl,⟨_,_,rfl,rfl,⟨e121v6,rfl,e121h6⟩⟩⟩⟩⟩⟩⟩:=Go.E.Rp.C2 e121t0;refine Bh Z (A7 Z Vv Z DW.e) Z ?_;have bv:=bu.add 0;refine Bh Z (B5 bv (hH.trans al.arg)) Z<|Bh Z (A7 Z Vv Z DW.e) Z<|Bh Z (AG 2 Z al Z) Z<|Br 1 Z<|AT (λdu bw=>?_);have bx:=al.call bw;refine Ap<|Ar h ?_ ?_<;>intro bz h
   ·have h:=AX.out h aq;exact Bu
   refine Ag h λc9 h=>Af ?_;have h:=AX.again h aq;refine Ak (_,_) Z ⟨bx,h⟩
  have h:=AX.out h aq;refine Af ?_;refine Am () ⟨ap,h⟩
 rintro _ dv ⟨ct,h⟩;refine AA Unit (λ(_:Unit)=>[(1,(SX b1))]) (λ(_:Unit) wr=>AB w [.box b8 [No 0,No 1,No 16,No 2,No 0,No 0,No 0,No 0,No 0,No 0,No 0] 188,.box b6 [No 0,No 1,No 2,No 2,No 0,No 0,No 0,No 0,No 0,No 0,No 0] 188,.box b1 [No a0.f.1,ag,Pg a0.f.2.2.1,ah,No a0.f.2.2.2.2.1,No a0.f.2.2.2.2.2.1,ai] 27] wr/\(IG a0)=TI r) ?_ ?_
 ·refine Bx 1 Z<|A4 ?_;obtain⟨ay,h⟩:=Ax h;refine AF (Int×Nat) (λ⟨o,n⟩=>[(1,(SX b1)),(6,No o)]) (λ⟨o,n⟩ wr=>AB w [.box b8 [No 0,No 1,No 16,No 2,No 0,No 0,No 0,No 0,No 0,No 0,No 0] 188,.box b6 [No 0,No 1,No 2,No 2,No 0,No 0,No 0,No 0,No 0,No 0,No 0] 188,.box b1 [No a0.f.1,ag,Pg a0.f.2.2.1,ah,No a0.f.2.2.2.2.1,No a0.f.2.2.2.2.2.1,ai] 27] wr/\D6 (FV a0) n o=TI r) (λ⟨o,n⟩=>n) (0,ay) Z ⟨ct,h⟩ ?_;rintro⟨o,nn179⟩ da ⟨am,h⟩;obtain⟨ay,dw,rfl,h,ar⟩:=Aw h;refine AR ?_;refine Ar h ?_ ?_<;>intro b0 h
  ·refine AR ?_;refine Ag h λa2 h=>A1 a9 o.toNat (BP a2) (An a2) ?_;rintro dx _ rfl b2;refine sH b2 (hH.trans am.arg)<|Ah h λdy b3 h=>Al am (Qx5 _ _ (Ae am) b3) λdz db b4 c0=>Aq Av.e Z b4 λd0 d1 b5 c1 _=>Ac 0 Z b5 Z λd2 b7 c2=>Af ?_;refine Bt h ?_ ?_<;>intro b9 h
   ·have h:=AX.out h ar;exact Bu
   refine Ag h λdc h=>Af ?_;have ca:=b7.dT 0 Z;have h:=AX.again h ar;refine Ak (_,_) Z ⟨ca,h⟩
  have h:=AX.out h ar;refine Af ?_;refine Am () ⟨am,h⟩
 rintro _ dd ⟨a3,h⟩;refine AR ?_;refine Ah h λd3 cb h=>Al a3 (Wat _ _ (Ae a3) cb) λd4 de cc c3=>Aq Av.e Z cc λd5 d6 cd c4 _=>Ac 0 Z cd Z λd7 ak c5=>Af ?_;refine Bt h ?_ ?_<;>intro ce h
 ·exact Bu
 refine AR ?_;refine Bl 159 h ?_ ?_<;>intro cf h
 ·refine Af ?_;refine Al ak (NI _ _ (Ae ak)) λd8 df au c6=>Af ?_;refine Gs 11 176 (.bool ((!decide (1<=a0.f.2.2.2.2.1/\a0.f.2.2.2.2.1<=2048))||((decide (a0.f.1=6))&&(decide (a0.f.2.2.2.2.2.1<a0.f.2.2.2.2.1))))) (λa4=>?_) ?_
  ·refine Cu (s:=165) Z (λk=>?_) (λk=>?_)
   ·iterate 4 refine AW k ?_
    iterate 5 refine IP ?_
    refine AW k<|sF k Z<|a4.to 10 (T3 k) Z Z
   refine Af ?_;refine Gs 6 175 (.bool ((decide (a0.f.1=6))&&(decide (a0.f.2.2.2.2.2.1<a0.f.2.2.2.2.1)))) (λa5=>?_) ?_
   ·refine Cu (s:=169) Z (λb=>?_) (λb=>?_)
    ·refine Aj b<|sA Z Vv Z DW.e<|Aj b<|sB 3 Z au Z<|Aj b<|sA Z Vv Z DW.e<|Aj b<|sB 3 Z au Z<|Aj b<|sI Z<|Aj k<|sF b Z<|a5.to 5 (LV b) Z Z
    iterate 5 refine AW b ?_
    refine Aj k<|sG b Z<|a5.to 5 (LW b) Z Z
   refine sG k Z<|a4.to 5 (T5 k) Z Z
  refine Ap<|AH h ?_ ?_<;>intro cg h
  ·exact Bu
  refine AR ?_;refine Gs 5 185 (.bool ((decide (a0.f.1=4))&&(decide ((a0.f.2.2.2.1.length:Int)=0)))) (λa6=>?_) ?_
  ·refine Cu (s:=180) Z (λe=>?_) (λe=>?_)
   ·refine Aj e<|sA Z Vv Z Nu.e<|Aj e<|sB 3 Z au Z<|Aj e<|sE av<|Aj e<|sI Z<|sF e Z<|a6.to 4 (LV e) Z Z
   iterate 4 refine AW e ?_
   refine sG e Z<|a6.to 4 (LW e) Z Z
  refine Ap<|AH h ?_ ?_<;>intro ch h
  ·exact Bu
  refine AR ?_;refine Ar h ?_ ?_<;>intro ci h
  ·exact Bu
  exact Bu
 refine Af ?_;refine Gs 6 175 (.bool ((decide (a0.f.1=6))&&(decide (a0.f.2.2.2.2.2.1<a0.f.2.2.2.2.1)))) (λa7=>?_) ?_
 ·refine Cu (s:=169) Z (λc=>?_) (λc=>?_)
  ·refine Aj c<|sA Z Vv Z DW.e<|Aj c<|sB 3 Z ak Z<|Aj c<|sA Z Vv Z DW.e<|Aj c<|sB 3 Z ak Z<|Aj c<|sI Z<|Aj Z<|sF c Z<|a7.to 5 (LV c) Z Z
  iterate 5 refine AW c ?_
  refine Aj Z<|sG c Z<|a7.to 5 (LW c) Z Z
 refine Af ?_;refine AH h ?_ ?_<;>intro cj h
 ·exact Bu
 refine AR ?_;refine Gs 5 185 (.bool ((decide (a0.f.1=4))&&(decide ((a0.f.2.2.2.1.length:Int)=0)))) (λa8=>?_) ?_
 ·refine Cu (s:=180) Z (λg=>?_) (λg=>?_)
  ·refine Aj g<|sA Z Vv Z Nu.e<|Aj g<|sB 3 Z ak Z<|Aj g<|sE av<|Aj g<|sI Z<|sF g Z<|a8.to 4 (LV g) Z Z
  iterate 4 refine AW g ?_
  refine sG g Z<|a8.to 4 (LW g) Z Z
 refine Ap<|AH h ?_ ?_<;>intro ck h
 ·exact Bu
 refine AR ?_;refine Ar h ?_ ?_<;>intro cl h
 ·exact Bu
 exact Bu
end
def Qje(a:Int):Option TE:=
 TI (a,(0,0))
def Fe(a0:Qv)(a2:Int)(self:Qv->Int->Int->Option TE):Int×Int->Option (Zv⊕TE):=λ⟨b,a⟩=>
 if a<(a0.f.2.2.2.2.2.2.length:Int)then Ay (0<=a/\a<(a0.f.2.2.2.2.2.2.length:Int)) (Ay (AL (a2+1)) (Xd (self (a0.f.2.2.2.2.2.2.getD a.toNat Qq7) b (a2+1)) (λc=>if c.2.1=0 then Ay (AL (a+1)) (TI (Sum.inl (c.1,(a+1))))else Sh Sum.inr (TI (0,(c.2.1,c.2.2))))))else Sh Sum.inr (Qje b)
def Qjy(a0:Qv)(a2:Int)(self:Qv->Int->Int->Option TE)(s:Int×Int):Option TE:=Go.L.run (Fe a0 a2 self) s
def GL(self:Qv->Int->Int->Option TE)(a0:Qv)(a1 a2:Int):Option TE:=
 if(40<=a1)\/(8<a2)then Xd (GF (2:Int) a1) (λb=>TI (0,(b.1,b.2)))else Xd (LI a0) (λc=>if c=0 then Ay (AL (a1+1)) ((Qjy a0 a2 self) ((a1+1),0))else Xd (GF c a1) (λa=>TI (0,(a.1,a.2))))
def Hf(self:Qv->Int->Int->Option TE):Prop:=∀(w:World) (H:PH) (hH:Le H (hp w)) {a0:Qv}{a1:Int}{a2:Int}{a:Value}{b:Value}{c:Value} (d:As .st H a (a0.f.2.1)) (e:As .byte H b (a0.f.2.2.2.1)) (g:As .AN H c (a0.f.2.2.2.2.2.2)) {r:TE} (h:self a0 a1 a2=TI r),Ok prog 31 [.agg #[No a0.f.1,a,Pg a0.f.2.2.1,b,No a0.f.2.2.2.2.1,No a0.f.2.2.2.2.2.1,c],No a1,No a2] w (λv w'=>Ext w w'/\v=.tuple #[No r.1,.agg #[No r.2.1,No r.2.2]])
def E5:Nat->Qv->Int->Int->Option TE
 | 0=>λ_ _ _=>none
 | n+1=>GL (E5 n)
def OV:Qv->Int->Int->Option TE:=E5 1000
def Qk7(self:Qv->Int->Int->Option TE)(hself:Hf self):Hf (GL self):=by
 intro w H hH a0 a1 a2 e g i ae af s r h;unfold Hf at hself;refine Ai 56 [(0,.agg #[No a0.f.1,e,Pg a0.f.2.2.1,g,No a0.f.2.2.2.2.1,No a0.f.2.2.2.2.2.1,i]),(1,No a1),(2,No a2)] func31 Z λhL=>A5<|B6 (t:=27) Z Z hL λw1 b1 au bc _=>AK 1 Z<|Aq Av.e Z au λw2 z l bd _=>AR ?_;refine Vj 2 2 Z Z Z Z Z Z<|Ap<|Ar h ?_ ?_<;>intro av h
 ·refine FA 1 Z<|Ah h λx5 aw h=>Al l (Ec _ _ (Ae l) aw) λw6 bq ax be=>AK 1 Z<|Ac 0 Z ax Z λw7 ad bf=>Af ?_
  cases h
  refine AP (.tmp Z) (.cell Z QW Z Av.e (box_pT 0 ad Z)) ⟨ad.ext,Z⟩
 refine AR ?_;refine Ah h λx9 ay h=>Al l (Qzf (a0:=a0) _ _ (Ae l) (ae.mono  Ad) (af.mono  Ad) (s.mono  Ad) ay) λbr bg j a5=>Af ?_;refine Bt h ?_ ?_<;>intro ah h
 ·refine FA 2 Z<|Ah h λbs ai h=>Al j (Ec _ _ (Ae j) ai) λbt bh aj a6=>AK 1 Z<|Ac 0 Z aj Z λbu u a7=>Af ?_
  cases h
  refine AP (.tmp Z) (.cell Z QW Z Av.e (box_pT 0 u Z)) ⟨u.ext,Z⟩
 refine Ag h λbi h=>Af ?_;refine AA Int (λc=>[(7,(SX z)),(9,No c)]) (λc wr=>AB w [.box z [No 0,No 0] 39,.box b1 [No a0.f.1,e,Pg a0.f.2.2.1,g,No a0.f.2.2.2.2.1,No a0.f.2.2.2.2.2.1,i] 27] wr/\Qje c=TI r) ?_ ?_
 ·refine Bx 1 Z<|A4 ?_;obtain⟨v,h⟩:=Ax h;refine AF (Int×Int×Nat) (λ⟨b,a,n⟩=>[(2,No a2),(3,(SX b1)),(7,(SX z)),(9,No b),(10,No a)]) (λ⟨b,a,n⟩ wr=>AB w [.box z [No 0,No 0] 39,.box b1 [No a0.f.1,e,Pg a0.f.2.2.1,g,No a0.f.2.2.2.2.1,No a0.f.2.2.2.2.2.1,i] 27] wr/\D6 (Fe a0 a2 self) n (b,a)=TI r) (λ⟨b,a,n⟩=>n) ((a1+1),0,v) Z ⟨j,h⟩ ?_;rintro⟨b,a,nn86⟩ bj ⟨d,h⟩;obtain⟨v,bv,rfl,h,k⟩:=Aw h;refine AR ?_;refine Ar h ?_ ?_<;>intro ak h
  ·refine AR ?_;refine Ag h λx h=>A1 s a.toNat (BP x) (An x) ?_;rintro bw _ e90t0 al;obtain⟨_,_,rfl,rfl,⟨_,_,rfl,⟨e90v1,rfl,e90h1⟩,⟨_,_,rfl,rfl,⟨_,_,rfl,⟨e90v3,rfl,e90h3⟩,⟨_,_,rfl,rfl,⟨_,_,rfl,rfl,⟨e90v6,rfl,e90h6⟩⟩⟩⟩⟩⟩⟩:=Go.E.Rp.C2 e90t0;refine AJ (AU al (hH.trans d.arg))<|Ag h λbk h=>Af ?_;refine Ah h λaz am h=>Al d (hself _ _ (Ae d) (e90h1.mono  Ad) (e90h3.mono  Ad) (e90h6.mono  Ad) am) λbx bl an a8=>AK 3 Z<|Aq Av.e Z an λbz b0 ao a9 _=>AK 1 Z<|Ac 0 Z ao Z λb3 y ba=>AR ?_;refine Bt h ?_ ?_<;>intro ap h
   ·refine BF (.q 0 (.q 1 (.tail 2))) mixed SF (λb4 aq=>?_);have m:=y.call aq;refine Bh Z (C6 0 Z Av.e m Z) Z<|Br 1 Z<|AT (λbm aa=>?_);have ab:=m.call aa;refine Ac 1 Z ab Z ?_;intro bn o a3;have h:=AX.out h k;refine Af ?_
    cases h
    refine AP (.tmp Z) (.cell Z QW Z Av.e (box_pT 1 o Z)) ⟨o.ext,Z⟩
   refine Ag h λbb h=>Af ?_;have ac:=y.dT 0 Z;have h:=AX.again h k;refine Ak (_,_,_) Z ⟨ac,h⟩
  have h:=AX.out h k;refine Af ?_;refine Am _ ⟨d,h⟩
 rintro c bo ⟨ar,h⟩;refine FA 1 Z<|AJ (A8 (λ_=>Bo _))<|AK 1 Z<|Ac 0 Z ar Z λbp p a4=>Af ?_
 cases h
 refine AP (.tmp Z) (.cell Z QW Z Av.e (box_pT 0 p Z)) ⟨p.ext,Z⟩
theorem Qz6(n:Nat):Hf (E5 n):=by
 induction n with
 | zero=>unfold Hf;intros;rename_i h;cases h
 | succ n ih=>exact Qk7 (E5 n) ih
section
variable(w:World)(H:PH)(hH:Le H (hp w)) include hH
theorem Abk{a0:Qv}{a1 a2:Int}{a b c:Value}(d:As .st H a (a0.f.2.1))(e:As .byte H b (a0.f.2.2.2.1))(g:As .AN H c (a0.f.2.2.2.2.2.2)){r:TE}(h:OV a0 a1 a2=TI r):Ok prog 31 [.agg #[No a0.f.1,a,Pg a0.f.2.2.1,b,No a0.f.2.2.2.2.1,No a0.f.2.2.2.2.2.1,c],No a1,No a2] w (λv w'=>Ext w w'/\v=.tuple #[No r.1,.agg #[No r.2.1,No r.2.2]]):=Qz6 1000 w H hH d e g h
def Ii(c:Wl)(a b:Int):Option ((Wl×Int)⊕(Wl)):=
 Ay (AL (48+b)) (Ay (Go.E.Dx 1 (([(Go.L.u8 (48+b))]).length+c.length)) (Ay (-9223372036854775808<=a/\a<=9223372036854775807/\0<(10:Int)) (TI (Sum.inl (([(Go.L.u8 (48+b))]++c),(Int.tdiv a (10:Int)))))))
def N9(a0:Int)(a:Wl):Option Wl:=
 if a0<0 then Ay (Go.E.Dx 1 (([(45:UInt8)]).length+a.length)) (TI (([(45:UInt8)]++a)))else TI a
def E6(a0:Int):Wl×Int->Option ((Wl×Int)⊕(Wl)):=λ⟨b,a⟩=>
 if a=0 then Sh Sum.inr ((N9 a0) b)else Ay (-9223372036854775808<=a/\a<=9223372036854775807/\0<(10:Int)) (if(Int.tmod a (10:Int))<0 then Ay (AL (-(Int.tmod a (10:Int)))) ((Ii b a) (-(Int.tmod a (10:Int))))else(Ii b a) (Int.tmod a (10:Int)))
def RQ(a0:Int)(s:Wl×Int):Option Wl:=Go.L.run (E6 a0) s
def JA(a0:Int):Option Wl:=
 if a0=0 then TI (([48]:Wl))else(RQ a0) (([]:Wl),a0)
theorem NA{a0:Int}{r:Wl}(h:JA a0=TI r):
  Pd 68 [No a0] w (λv w'=>v=(Pg r)):=by
 refine Ai 32 [(0,No a0)] func68 Z λhL=>AR ?_;refine Ar h ?_ ?_<;>intro ay h
 ·exact Bu
 refine Af ?_;refine AA (Wl×Value×LR) (λ⟨k,o,g⟩=>[(0,No a0),(3,o)]) (λ⟨k,o,g⟩ wr=>Cd w [.row o 5 1 (k).length g] wr λOz=>Ao .byte (gz H w wr Oz) k g/\(N9 a0) k=TI r) ?_ ?_
 ·refine Bx 2 Z<|A4 ?_;obtain⟨ac,a2,ad⟩:=B3 .byte H 5 hL;obtain⟨t,h⟩:=Ax h;refine AF (Wl×Int×Value×LR×Nat) (λ⟨e,a,f,b,n⟩=>[(0,No a0),(3,f),(4,No a)]) (λ⟨e,a,f,b,n⟩ wr=>Cd w [.row f 5 1 (e).length b] wr λOz=>Ao .byte (gz H w wr Oz) e b/\D6 (E6 a0) n (e,a)=TI r) (λ⟨e,a,f,b,n⟩=>n) (([]:Wl),a0,TO,[],t) Z ⟨ac,ad,h⟩ ?_;rintro⟨e,a,f,b,nn64⟩ a5 ⟨p,c,h⟩;obtain⟨t,az,rfl,h,u⟩:=Aw h;refine AR ?_;refine Bt h ?_ ?_<;>intro ae h
  ·refine AR ?_;refine Ag h λaf h=>AJ (Ame Z Z af)<|BJ 1 Z<|AA Int (λd=>[(0,No a0),(3,f),(4,No a),(5,No d)]) (λd wr=>Cd w [.row f 5 1 (e).length b] wr λOz=>Ao .byte (gz H w wr Oz) e b/\(Ii e a) d=TI az) ?_ ?_
   ·refine Bx 2 Z<|Ar h ?_ ?_<;>intro ag h
    ·refine Af ?_;refine Ag h λah h=>AJ (Ali ah)<|Af ?_;refine Am _ ⟨p,c,h⟩
    refine Ca<|Am _ ⟨p,c,h⟩
   rintro d a6 ⟨ai,c,h⟩;refine Ag h λa7 h=>Af ?_;refine AJ (Er (G7 _))<|KY [(Go.L.u8 (48+d))] (r:=.byte) (λ_=>Ht _ _) (Bk 1) hH ai (.c1 Z .nil) λbc bd a8 x aa q=>AK 1 Z ?_;have c:=c.mono (Aa aa);have aj:=x.BB hH (i:=1) Z c;have ak:=x.dT 1 Z;refine Ag h λal h=>?_;have q:=q.mono (Aa (fz_dT 1 Z));refine Bf (r:=.byte) 0 [(Go.L.u8 (48+d))] e Z LS ak Z q aj al λa1 be am an a3 ao=>Af ?_;refine Ag h λap h=>AJ (Amd ap)<|Af ?_;have h:=AX.again h u;refine Ak (_,_,_,_,_) Z ⟨an,ao,h⟩
  have h:=AX.out h u;refine Af ?_;refine Am (_,_,_) ⟨p,c,h⟩
 rintro⟨k,o,g⟩ a9 ⟨y,j,h⟩;refine AR ?_;refine Ar h ?_ ?_<;>intro aq h
 ·refine FC<|KY [(45:UInt8)] (r:=.byte) (λ_=>Ht _ _) (Bk 1) hH y (.c1 Z .nil) λbf bg ba z ab s=>AK 1 Z ?_;have j:=j.mono (Aa ab);have ar:=z.BB hH (i:=1) Z j;have au:=z.dT 1 Z;refine Ag h λav h=>?_;have s:=s.mono (Aa (fz_dT 1 Z));refine Bf (r:=.byte) 0 [(45:UInt8)] k Z LS au Z s ar av λbh bi bb aw a4 ax=>Af ?_;refine AJ (O3 (aw.Jv hH (i:=0) Z ax) (Le.refl _))<|Bu
 refine Af ?_;refine AJ (O3 (y.Jv hH (i:=0) Z j) (Le.refl _))<|Bu
def Hg(a0:Wl)(b:Wl)(a:Int)(c:Bool):Option ((Wl×Int)⊕(Wl)):=
 if c then Ay (0<=a/\a<(a0.length:Int)) (Ay (Go.E.Dx 1 (b.length+([a0.getD a.toNat Qq7]).length)) (Ay (AL (a+1)) (TI (Sum.inl ((b++[a0.getD a.toNat Qq7]),(a+1))))))else Ay (0<=a/\a<(a0.length:Int)) (Ay (0<=((a0.getD a.toNat Qq7).toNat:Int)/\((a0.getD a.toNat Qq7).toNat:Int)<=9223372036854775807/\0<(16:Int)) (Xd (Il (((a0.getD a.toNat Qq7).toNat:Int) / (16:Int))) (λd=>Ay (0<=a/\a<(a0.length:Int)) (Ay (0<=((a0.getD a.toNat Qq7).toNat:Int)/\((a0.getD a.toNat Qq7).toNat:Int)<=9223372036854775807/\0<(16:Int)) (Xd (Il (((a0.getD a.toNat Qq7).toNat:Int) % (16:Int))) (λe=>Ay (Go.E.Dx 1 (b.length+([(92:UInt8),d,e]).length)) (Ay (AL (a+1)) (TI (Sum.inl ((b++[(92:UInt8),d,e]),(a+1)))))))))))
def OW(a:Wl):Option Wl:=
 Ay (Go.E.Dx 1 (a.length+([(39:UInt8)]).length)) (TI ((a++[(39:UInt8)])))
def Gn(a0:Wl):Wl×Int->Option ((Wl×Int)⊕(Wl)):=λ⟨b,a⟩=>
 if a<(a0.length:Int)then Ay (0<=a/\a<(a0.length:Int)) (if 32<=((a0.getD a.toNat Qq7).toNat:Int)/\((a0.getD a.toNat Qq7).toNat:Int)<=126 then Ay (0<=a/\a<(a0.length:Int)) (if((a0.getD a.toNat Qq7).toNat:Int)=39 then(Hg a0 b a) false else Ay (0<=a/\a<(a0.length:Int)) ((Hg a0 b a) (!decide (((a0.getD a.toNat Qq7).toNat:Int)=92))))else(Hg a0 b a) false)else Sh Sum.inr (OW b)
def Td(a0:Wl)(s:Wl×Int):Option Wl:=Go.L.run (Gn a0) s
def Nn(a0:Wl):Option Wl:=
 (Td a0) ([(39:UInt8)],0)
theorem Te{a0:Wl}{s:Value}(j:As .byte H s a0){r:Wl}(h:Nn a0=TI r):
  Pd 69 [s] w (λv w'=>v=(Pg r)):=by
 refine Ai 60 [(0,s)] func69 Z λhL=>Af ?_;refine KY [(39:UInt8)] (r:=.byte) (λ_=>Ht _ _) (Bk 1) hH hL (.c1 Z .nil) λv1 w1 bu bv cd bw=>BJ 1 Z<|AA (Wl×Value×LR) (λ⟨u,x,k⟩=>[(3,x)]) (λ⟨u,x,k⟩ wr=>Cd w [.row x 5 1 (u).length k] wr λOz=>Ao .byte (gz H w wr Oz) u k/\OW u=TI r) ?_ ?_
 ·refine Bx 1 Z<|A4 ?_;obtain⟨y,h⟩:=Ax h;refine AF (Wl×Int×Value×LR×Nat) (λ⟨c,a,e,d,n⟩=>[(0,s),(3,e),(4,No a)]) (λ⟨c,a,e,d,n⟩ wr=>Cd w [.row e 5 1 (c).length d] wr λOz=>Ao .byte (gz H w wr Oz) c d/\D6 (Gn a0) n (c,a)=TI r) (λ⟨c,a,e,d,n⟩=>n) ([(39:UInt8)],0,v1,bu,y) Z ⟨bv,bw,h⟩ ?_;rintro⟨c,a,e,d,nn148⟩ b1 ⟨o,b,h⟩;obtain⟨y,bq,rfl,h,z⟩:=Aw h;refine AR ?_;refine Ar h ?_ ?_<;>intro ay h
  ·refine Af ?_;refine tJ<|AA Bool (λf=>[(0,s),(3,e),(4,No a),(31,.bool f)]) (λf wr=>Cd w [.row e 5 1 (c).length d] wr λOz=>Ao .byte (gz H w wr Oz) c d/\(Hg a0 c a) f=TI bq) ?_ ?_
   ·refine Af ?_;refine Ag h λag h=>A1 j a.toNat (BP ag) (An ag) ?_;rintro ce _ rfl az;refine sH az (hH.trans o.arg)<|AJ (Er (GQ _))<|Al o (NI _ _ (Ae o)) λcf b2 g t=>AK 1 Z<|Bl 18 h ?_ ?_<;>intro ah h
    ·refine Af ?_;refine Ag h λai h=>A1 j a.toNat (BP ai) (An ai) ?_;rintro cg _ rfl a1;refine Aj ah<|sH a1 (hH.trans g.arg)<|Af ?_;refine Dm 25 h ?_ ?_<;>intro aj h
     ·refine Af ?_;refine Ag h λak h=>A1 j a.toNat (BP ak) (An ak) ?_;rintro ch _ rfl a2;refine Aj aj<|sH a2 (hH.trans g.arg)<|Af ?_;have b:=b.mono (Aa t);refine Am _ ⟨g,b,h⟩
     refine Af ?_;have b:=b.mono (Aa t);refine Am _ ⟨g,b,h⟩
    refine Af ?_;have b:=b.mono (Aa t);refine Am _ ⟨g,b,h⟩
   rintro f b3 ⟨p,b,h⟩;refine AH h ?_ ?_<;>intro a3 h
   ·refine Af ?_;refine Ag h λal h=>A1 j a.toNat (BP al) (An al) ?_;rintro ci _ rfl a4;refine sH a4 (hH.trans p.arg)<|Bi [a0.getD a.toNat Qq7] (r:=.byte) (λ_=>Ht _ _) p (.c1 Z .nil) λcj ck b4 a5 au a6=>Ag h λa7 h=>?_;have b:=b.mono (Aa au);refine Bf (r:=.byte) 0 c [a0.getD a.toNat Qq7] Z LS a5 Z b a6 a7 λbr cl a8 a9 bx ba=>Ag h λb5 h=>Af ?_;have h:=AX.again h z;refine Ak (_,_,_,_,_) Z ⟨a9,ba,h⟩
   refine P8 (Zt 0 15 (.h 15 (.tail 16))) mixed SF (λcm am=>?_);have aa:=p.call am;have av:=A3 p am;refine Br 3 Z<|Ag h λan h=>Cj Z Z Z LS j a.toNat (BP an) (An an) Z ?_;rintro cn _ rfl bb;refine Bh Z (B5 bb (hH.trans aa.arg)) Z<|Bh Z (Er (GQ _)) Z<|Ag h λbc h=>Bh Z (AmC bc) Z<|Ah h λae bd h=>DY Z Z Z (λco b6=>Qj _ _ (Le.refl _) bd)<|Br 2 Z<|Ag h λao h=>Cj Z Z Z LS j a.toNat (BP ao) (An ao) Z ?_;rintro cp _ rfl be;refine Bh Z (B5 be (hH.trans aa.arg)) Z<|Bh Z (Er (GQ _)) Z<|Ag h λap h=>Bh Z (Alg Z Z ⟨ap.1,ap.2.2⟩) Z<|Ah h λaf bf h=>DY Z Z Z (λcq b7=>Qj _ _ (Le.refl _) bf) ?_
   refine St [(92:UInt8),ae,af] (r:=.byte) Z Z (λ_=>AaP _ _ _ _) Z (Bk 3) hH aa (.c1 Z (.c1 Z (.c1 Z .nil))) λcr cs b8 aq aw ab=>AT (λct ar=>?_);have bg:=aq.call ar;have ad:=A3 aq ar;refine Ag h λbh h=>?_;have b:=b.mono (Aa (av.trans (aw.trans ad)));have ab:=ab.mono (Aa ad);refine Bf (r:=.byte) 0 c [(92:UInt8),ae,af] Z LS bg Z b ab bh λbs cu bi bj bz bk=>Ag h λb9 h=>Af ?_;have h:=AX.again h z;refine Ak (_,_,_,_,_) Z ⟨bj,bk,h⟩
  have h:=AX.out h z;refine Af ?_;refine Am (_,_,_) ⟨o,b,h⟩
 rintro⟨u,x,k⟩ cv ⟨bt,ac,h⟩;refine FA 1 Z<|Bi [(39:UInt8)] (r:=.byte) (λ_=>Ht _ _) bt (.c1 Z .nil) λcw cx ca bl ax bm=>Ag h λbn h=>?_;have ac:=ac.mono (Aa ax);refine Bf (r:=.byte) 0 u [(39:UInt8)] Z LS bl Z ac bm bn λcy cz cb bo b0 bp=>AJ (O3 (bo.Jv hH (i:=0) Z bp) (Le.refl _))<|Bu
end
def LK:Option Bool:=
 TI true
def KK(a0:Qv)(a1:Qv)(self:Qv->Qv->Option Bool):Int->Option ((Int)⊕(Bool)):=λa=>
 if a<(a0.f.2.2.2.2.2.2.length:Int)then Ay (0<=a/\a<(a0.f.2.2.2.2.2.2.length:Int)) (Ay (0<=a/\a<(a1.f.2.2.2.2.2.2.length:Int)) (Xd (self (a0.f.2.2.2.2.2.2.getD a.toNat Qq7) (a1.f.2.2.2.2.2.2.getD a.toNat Qq7)) (λb=>if !b then none else Ay (AL (a+1)) (TI (Sum.inl (a+1))))))else Sh Sum.inr LK
def QkD(a0:Qv)(a1:Qv)(self:Qv->Qv->Option Bool)(s:Int):Option Bool:=Go.L.run (KK a0 a1 self) s
def LL(a0:Qv)(a1:Qv)(self:Qv->Qv->Option Bool):Option Bool:=
 (QkD a0 a1 self) (0:Int)
def NN(self:Qv->Qv->Option Bool)(a0:Qv)(a1:Qv):Option Bool:=
 if((((!decide (a0.f.1=a1.f.1))||(!decide (a0.f.2.2.1=a1.f.2.2.1)))||(!decide (a0.f.2.2.2.2.1=a1.f.2.2.2.2.1)))||(!decide (a0.f.2.2.2.2.2.1=a1.f.2.2.2.2.2.1)))then none else Xd (Lc a0.f.2.2.2.1 a1.f.2.2.2.1) (λa=>if !a then none else Xd (AaD a0.f.2.1 a1.f.2.1) (λb=>if((!b)||(!decide ((a0.f.2.2.2.2.2.2.length:Int)=(a1.f.2.2.2.2.2.2.length:Int))))then none else(LL a0 a1 self)))
def Hh(self:Qv->Qv->Option Bool):Prop:=∀(w:World) (H:PH) (hH:Le H (hp w)) {a0:Qv}{a1:Qv}{a:Value}{b:Value}{c:Value}{d:Value}{e:Value}{g:Value} (i:As .st H a (a0.f.2.1)) (j:As .byte H b (a0.f.2.2.2.1)) (k:As .AN H c (a0.f.2.2.2.2.2.2)) (l:As .st H d (a1.f.2.1)) (m:As .byte H e (a1.f.2.2.2.1)) (n:As .AN H g (a1.f.2.2.2.2.2.2)) {r:Bool} (h:self a0 a1=TI r),Ok prog 25 [.agg #[No a0.f.1,a,Pg a0.f.2.2.1,b,No a0.f.2.2.2.2.1,No a0.f.2.2.2.2.2.1,c],.agg #[No a1.f.1,d,Pg a1.f.2.2.1,e,No a1.f.2.2.2.2.1,No a1.f.2.2.2.2.2.1,g]] w (λv w'=>Ext w w'/\v=.bool r)
def JB:Nat->Qv->Qv->Option Bool
 | 0=>λ_ _=>none
 | n+1=>NN (JB n)
def Tf:Qv->Qv->Option Bool:=JB 1000
def Qz0(self:Qv->Qv->Option Bool)(hself:Hh self):Hh (NN self):=by
 intro w H hH a0 a1 k l m o p u ax ay ac az a2 ad r h;unfold Hh at hself;refine Ai 76 [(0,.agg #[No a0.f.1,k,Pg a0.f.2.2.1,l,No a0.f.2.2.2.2.1,No a0.f.2.2.2.2.2.1,m]),(1,.agg #[No a1.f.1,o,Pg a1.f.2.2.1,p,No a1.f.2.2.2.2.1,No a1.f.2.2.2.2.2.1,u])] func25 Z λhL=>A5<|B6 (t:=27) Z Z hL λw1 b1 ba bg _=>B6 (t:=27) Z Z ba λw2 b2 j bh _=>BJ 1 Z<|AA Unit (λ(_:Unit)=>[(2,(SX b1)),(3,(SX b2))]) (λ(_:Unit) wr=>AB w [.box b2 [No a1.f.1,o,Pg a1.f.2.2.1,p,No a1.f.2.2.2.2.1,No a1.f.2.2.2.2.2.1,u] 27,.box b1 [No a0.f.1,k,Pg a0.f.2.2.1,l,No a0.f.2.2.2.2.1,No a0.f.2.2.2.2.2.1,m] 27] wr/\(LL a0 a1 self)=TI r) ?_ ?_
 ·refine Af ?_;refine Gs 6 17 (.bool ((!decide (a0.f.1=a1.f.1))||(!decide (a0.f.2.2.1=a1.f.2.2.1)))) (λag=>?_) ?_
  ·refine Cu (s:=11) Z (λi=>?_) (λi=>?_)
   ·iterate 5 refine AW i ?_
    refine sF i Z<|ag.to 5 (T3 i) Z Z
   refine Af ?_;refine AJ (ND Z Z)<|sG i Z<|ag.to 5 (T5 i) Z Z
  refine AK 1 Z<|Gs 6 24 (.bool (((!decide (a0.f.1=a1.f.1))||(!decide (a0.f.2.2.1=a1.f.2.2.1)))||(!decide (a0.f.2.2.2.2.1=a1.f.2.2.2.2.1)))) (λah=>?_) ?_
  ·refine Cu (s:=18) Z (λc=>?_) (λc=>?_)
   ·iterate 5 refine AW c ?_
    refine sF c Z<|ah.to 5 (T3 c) Z Z
   refine Aj c<|sA Z Vv Z DW.e<|Aj c<|sB 1 Z j Z<|Aj c<|sA Z Vv Z DW.e<|Aj c<|sB 0 Z j Z<|Aj c<|sI Z<|sG c Z<|ah.to 5 (T5 c) Z Z
  refine AK 1 Z<|Gs 6 31 (.bool ((((!decide (a0.f.1=a1.f.1))||(!decide (a0.f.2.2.1=a1.f.2.2.1)))||(!decide (a0.f.2.2.2.2.1=a1.f.2.2.2.2.1)))||(!decide (a0.f.2.2.2.2.2.1=a1.f.2.2.2.2.2.1)))) (λai=>?_) ?_
  ·refine Cu (s:=25) Z (λd=>?_) (λd=>?_)
   ·iterate 5 refine AW d ?_
    refine sF d Z<|ai.to 5 (T3 d) Z Z
   refine Aj d<|sA Z Vv Z DW.e<|Aj d<|sB 1 Z j Z<|Aj d<|sA Z Vv Z DW.e<|Aj d<|sB 0 Z j Z<|Aj d<|sI Z<|sG d Z<|ai.to 5 (T5 d) Z Z
  refine AK 1 Z<|Cf 32 h ?_ ?_<;>intro a3 h
  ·refine Af ?_;refine Cm ?_
   cases h
  refine Af ?_;refine Ah h λbs a4 h=>Al j (Ld _ _ (Ae j) (ay.mono  Ad) (a2.mono  Ad) a4) λbt bi aj bc=>Af ?_;refine Cf 40 h ?_ ?_<;>intro a5 h
  ·refine Af ?_;refine Cm ?_
   cases h
  refine Af ?_;refine Ah h λbb a6 h=>Al aj (Qq5 _ _ (Ae aj) (ax.mono  Ad) (az.mono  Ad) a6) λbu bj v bd=>Af ?_;refine Gs 8 56 (.bool ((!bb)||(!decide ((a0.f.2.2.2.2.2.2.length:Int)=(a1.f.2.2.2.2.2.2.length:Int))))) (λak=>?_) ?_
  ·refine Cu (s:=48) Z (λb=>?_) (λb=>?_)
   ·iterate 7 refine AW b ?_
    refine sF b Z<|ak.to 7 (T3 b) Z Z
   refine Aj b<|sA Z Vv Z VM.e<|Aj b<|sB 1 Z v Z<|Aj b<|sE ac<|Aj b<|sA Z Vv Z VM.e<|Aj b<|sB 0 Z v Z<|Aj b<|sE ad<|Aj b<|sI Z<|sG b Z<|ak.to 7 (T5 b) Z Z
  refine Ap<|AH h ?_ ?_<;>intro a7 h
  ·cases h
  refine Ca<|Am () ⟨v,h⟩
 rintro _ bk ⟨a8,h⟩;refine AA Unit (λ(_:Unit)=>[]) (λ(_:Unit) wr=>AB w [.box b2 [No a1.f.1,o,Pg a1.f.2.2.1,p,No a1.f.2.2.2.2.1,No a1.f.2.2.2.2.2.1,u] 27,.box b1 [No a0.f.1,k,Pg a0.f.2.2.1,l,No a0.f.2.2.2.2.1,No a0.f.2.2.2.2.2.1,m] 27] wr/\LK=TI r) ?_ ?_
 ·refine Bx 1 Z<|A4 ?_;obtain⟨x,h⟩:=Ax h;refine AF (Int×Nat) (λ⟨e,n⟩=>[(2,(SX b1)),(3,(SX b2)),(5,No e)]) (λ⟨e,n⟩ wr=>AB w [.box b2 [No a1.f.1,o,Pg a1.f.2.2.1,p,No a1.f.2.2.2.2.1,No a1.f.2.2.2.2.2.1,u] 27,.box b1 [No a0.f.1,k,Pg a0.f.2.2.1,l,No a0.f.2.2.2.2.1,No a0.f.2.2.2.2.2.1,m] 27] wr/\D6 (KK a0 a1 self) n e=TI r) (λ⟨e,n⟩=>n) (0,x) Z ⟨a8,h⟩ ?_;rintro⟨e,nn100⟩ be ⟨y,h⟩;obtain⟨x,bl,rfl,h,z⟩:=Aw h;refine AR ?_;refine Ar h ?_ ?_<;>intro an h
  ·refine AR ?_;refine BF (Zt 0 12 (.tail 12)) mixed SF (λa9 ao=>?_);have a:=y.call ao;refine Bh Z (A7 Z Vv Z VM.e) Z<|Bh Z (AG 1 Z a Z) Z<|Br 1 Z<|Ag h λaa h=>Cj Z Z Z U5 ac e.toNat (BP aa) (An aa) Z ?_;rintro bm _ e106t0 ap;obtain⟨_,_,rfl,rfl,⟨_,_,rfl,⟨e106v1,rfl,e106h1⟩,⟨_,_,rfl,rfl,⟨_,_,rfl,⟨e106v3,rfl,e106h3⟩,⟨_,_,rfl,rfl,⟨_,_,rfl,rfl,⟨e106v6,rfl,e106h6⟩⟩⟩⟩⟩⟩⟩:=Go.E.Rp.C2 e106t0;refine Bh Z (AU ap (hH.trans a.arg)) Z<|Bh Z (A7 Z Vv Z VM.e) Z<|Bh Z (AG 0 Z a Z) Z<|Br 1 Z<|Ag h λab h=>Cj Z Z Z U5 ad e.toNat (BP ab) (An ab) Z ?_;rintro bn _ e108t0 aq;obtain⟨_,_,rfl,rfl,⟨_,_,rfl,⟨e108v1,rfl,e108h1⟩,⟨_,_,rfl,rfl,⟨_,_,rfl,⟨e108v3,rfl,e108h3⟩,⟨_,_,rfl,rfl,⟨_,_,rfl,rfl,⟨e108v6,rfl,e108h6⟩⟩⟩⟩⟩⟩⟩:=Go.E.Rp.C2 e108t0;refine Bh Z (AU aq (hH.trans a.arg)) Z<|Ah h λbo ar h=>?_
   have al:=(λ(am:World) (g:Ext a9 am)=>hself am _ (Le.refl _) ((e106h1.mono (hH.trans a.arg)).mono g.le) ((e106h3.mono (hH.trans a.arg)).mono g.le) ((e106h6.mono (hH.trans a.arg)).mono g.le) ((e108h1.mono (hH.trans a.arg)).mono g.le) ((e108h3.mono (hH.trans a.arg)).mono g.le) ((e108h6.mono (hH.trans a.arg)).mono g.le) ar);refine DY Z Z Z al<|Br 1 Z<|AT (λbp au=>?_);have av:=a.call au;refine Ap<|AH h ?_ ?_<;>intro aw h
   ·cases h
   refine Ag h λbf h=>Af ?_;have h:=AX.again h z;refine Ak (_,_) Z ⟨av,h⟩
  have h:=AX.out h z;refine Af ?_;refine Am () ⟨y,h⟩
 rintro _ bq ⟨br,h⟩;exact Bu
theorem Acg(n:Nat):Hh (JB n):=by
 induction n with
 | zero=>unfold Hh;intros;rename_i h;cases h
 | succ n ih=>exact Qz0 (JB n) ih
section
variable(w:World)(H:PH)(hH:Le H (hp w)) include hH
theorem AgD{a0 a1:Qv}{a b c d e g:Value}(i:As .st H a (a0.f.2.1))(j:As .byte H b (a0.f.2.2.2.1))(k:As .AN H c (a0.f.2.2.2.2.2.2))(l:As .st H d (a1.f.2.1))(m:As .byte H e (a1.f.2.2.2.1))(n:As .AN H g (a1.f.2.2.2.2.2.2)){r:Bool}(h:Tf a0 a1=TI r):Ok prog 25 [.agg #[No a0.f.1,a,Pg a0.f.2.2.1,b,No a0.f.2.2.2.2.1,No a0.f.2.2.2.2.2.1,c],.agg #[No a1.f.1,d,Pg a1.f.2.2.1,e,No a1.f.2.2.2.2.1,No a1.f.2.2.2.2.2.1,g]] w (λv w'=>Ext w w'/\v=.bool r):=Acg 1000 w H hH i j k l m n h
end
def G3(a1:Qv)(a:Int):Option Bool:=
 TI (((decide (a=(a1.f.2.2.2.2.2.2.length:Int)))||((decide (a1.f.1=9))&&(decide (0<a)))))
def Gd(a0:Wl×Pv)(a1:Qv)(self:(Wl×Pv)->Qv->Option Bool):Int×Int->Option (Zv⊕(Bool)):=λ⟨b,a⟩=>
 if a<(a1.f.2.2.2.2.2.2.length:Int)then Ay (0<=a/\a<(a1.f.2.2.2.2.2.2.length:Int)) (Xd (self a0 (a1.f.2.2.2.2.2.2.getD a.toNat Qq7)) (λc=>if c then Ay (AL (b+1)) (Ay (AL (a+1)) (TI (Sum.inl ((b+1),(a+1)))))else Ay (AL (a+1)) (TI (Sum.inl (b,(a+1))))))else Sh Sum.inr ((G3 a1) b)
def Jo(a0:Wl×Pv)(a1:Qv)(self:(Wl×Pv)->Qv->Option Bool)(s:Int×Int):Option Bool:=Go.L.run (Gd a0 a1 self) s
def DQ(a0:Wl×Pv)(a1:Qv)(self:(Wl×Pv)->Qv->Option Bool)(a:Bool):Option Bool:=
 if a then Xd (Oq ([a0.1]) a1.f.2.1) (λb=>TI (decide (0<(b.length:Int))))else(if a1.f.1=3 then Ay (0<=(0:Int)/\(0:Int)<(a1.f.2.1.length:Int)) (Ay (0<=(1:Int)/\(1:Int)<(a1.f.2.1.length:Int)) (Xd (Tx ([a0.1]) (a1.f.2.1.getD ((0:Int).toNat) Qq7) (a1.f.2.1.getD ((1:Int).toNat) Qq7) a1.f.2.2.2.2.1) (λc=>TI (decide (0<(c.length:Int))))))else(if a1.f.1=4 then Xd (S6 a0.1 a1.f.2.2.2.1) (λd=>TI (decide (0<(d.length:Int))))else(if a1.f.1=5 then Xd (Oi a0.2 a1.f.2.2.1) (λe=>TI e)else(if a1.f.1=6 then Xd (LC a0.2 a1.f.2.2.1 a1.f.2.2.2.2.1 a1.f.2.2.2.2.2.1) (λg=>TI g)else(if a1.f.1=7 then Xd (MP a0.2 a1.f.2.2.1 a1.f.2.2.2.1) (λh=>TI h)else(if a1.f.1=10 then Ay (0<=(0:Int)/\(0:Int)<(a1.f.2.2.2.2.2.2.length:Int)) (Xd (self a0 (a1.f.2.2.2.2.2.2.getD ((0:Int).toNat) Qq7)) (λi=>TI (!i)))else(Jo a0 a1 self) (0,0)))))))
def Em(self:(Wl×Pv)->Qv->Option Bool)(a0:Wl×Pv)(a1:Qv):Option Bool:=
 if a1.f.1=1 then(DQ a0 a1 self) (decide (a1.f.1=1))else(DQ a0 a1 self) (decide (a1.f.1=2))
def Jp(self:(Wl×Pv)->Qv->Option Bool):Prop:=∀(w:World) (H:PH) (hH:Le H (hp w)) {a0:Wl×Pv}{a1:Qv}{a:Value}{b:Value}{c:Value}{d:Value}{e:Value}{g:Value}{i:Value} (j:As .byte H a (a0.1)) (k:As .byte H b (a0.2.f.2.2.1)) (l:As .st H c (a0.2.f.2.2.2.1)) (m:As .tree H d (a0.2.f.2.2.2.2)) (n:As .st H e (a1.f.2.1)) (o:As .byte H g (a1.f.2.2.2.1)) (p:As .AN H i (a1.f.2.2.2.2.2.2)) {r:Bool} (h:self a0 a1=TI r),Ok prog 12 [.agg #[a,No a0.2.f.1,No a0.2.f.2.1,b,c,d],.agg #[No a1.f.1,e,Pg a1.f.2.2.1,g,No a1.f.2.2.2.2.1,No a1.f.2.2.2.2.2.1,i]] w (λv w'=>Ext w w'/\v=.bool r)
def FW:Nat->(Wl×Pv)->Qv->Option Bool
 | 0=>λ_ _=>none
 | n+1=>Em (FW n)
def Oj:(Wl×Pv)->Qv->Option Bool:=FW 1000
def Qxz(self:(Wl×Pv)->Qv->Option Bool)(hself:Jp self):Jp (Em self):=by
 intro w H hH a0 a1 ac ad ae af ag ah ai v x y z al ax ay r h;unfold Jp at hself;refine Ai 113 [(0,.agg #[ac,No a0.2.f.1,No a0.2.f.2.1,ad,ae,af]),(1,.agg #[No a1.f.1,ag,Pg a1.f.2.2.1,ah,No a1.f.2.2.2.2.1,No a1.f.2.2.2.2.2.1,ai])] func12 Z λhL=>A5<|B6 (t:=56) Z Z hL λw1 b1 ch c2 _=>B6 (t:=27) Z Z ch λw2 b2 ci c3 _=>Af ?_;refine Bi [a0.1] (r:=(.vec .byte)) (λ_=>AaQ _ v.one _) ci (.c1 ⟨_,Z,(v.mono  Ad)⟩ .nil) λv3 w3 dj bo c4 bp=>BJ 1 Z<|PW<|Af ?_;refine A4<|AA Bool (λu=>[(2,(SX b1)),(3,(SX b2)),(5,v3),(12,No a1.f.1),(13,.bool u)]) (λu wr=>Cd w [.box b2 [No a1.f.1,ag,Pg a1.f.2.2.1,ah,No a1.f.2.2.2.2.1,No a1.f.2.2.2.2.2.1,ai] 27,.box b1 [ac,No a0.2.f.1,No a0.2.f.2.1,ad,ae,af] 56] wr λOz=>As (.vec .byte) (gz H w wr Oz) v3 ([a0.1])/\(DQ a0 a1 self) u=TI r) ?_ ?_
 ·refine Bx 2 Z<|Ar h ?_ ?_<;>intro br h
  ·refine Ca<|Am _ ⟨bo,bp,h⟩
  refine Af ?_;refine Am _ ⟨bo,bp,h⟩
 rintro u dk ⟨b,a,h⟩;refine AH h ?_ ?_<;>intro bs h
 ·refine Af ?_;refine Ah h λdl bt h=>A9 b (Rc _ _ (Ae b) a (al.mono  Ad) bt) ?_;rintro co dm ⟨_,rfl,a2⟩ bu c5 bd;have ck:=a2.BB hH b bu;have a:=a.mono (Aa bd);exact Bu
 refine Bx 2 Z<|Ar h ?_ ?_<;>intro bv h
 ·refine BF (Zt 0 11 (.h 11 (Zt 12 3 (.tail 15)))) mixed SF (λdn a3=>?_);have m:=b.call a3;have be:=A3 b a3;have a:=a.mono (Aa be);refine Br 1 Z<|Bh Z (A7 Z Vv Z Up.e) Z<|Bh Z (AG 0 Z m Z) Z<|Ag h λa4 h=>Cj Z Z Z Jk al ((0:Int).toNat) (BP a4) (An a4) Z ?_;rintro dp _ rfl bw;refine Bh Z (B5 bw (hH.trans m.arg)) Z<|Bh Z (A7 Z Vv Z Up.e) Z<|Bh Z (AG 0 Z m Z) Z<|Ag h λa5 h=>Cj Z Z Z Jk al ((1:Int).toNat) (BP a5) (An a5) Z ?_;rintro dq _ rfl bx;refine Bh Z (B5 bx (hH.trans m.arg)) Z<|Bh Z (A7 Z Vv Z DW.e) Z<|Bh Z (AG 0 Z m Z) Z<|Ah h λdr bz h=>BK Z Z Z (λcl aa=>Abb _ _ (Ae (m.call aa)) (a.mono (Aa (A3 m aa))) bz) ?_;rintro cl cp ds aa am ⟨_,rfl,a6⟩;have an:=m.call aa;have bf:=A3 m aa;have a:=a.mono (Aa bf)
  have a7:=an.call am;have bg:=A3 an am;have ab:=a6.BB hH an am;have a:=a.mono (Aa bg);refine Bh Z (W2 ab) Z<|Br 2 Z<|AT (λdt a8=>?_);have c6:=a7.call a8;have ao:=A3 a7 a8;have a:=a.mono (Aa ao);have ab:=ab.mono (Aa ao);exact Bu
 refine Bx 2 Z<|Ar h ?_ ?_<;>intro b0 h
 ·refine Af ?_;refine Ah h λdu b3 h=>A9 b (Qkq _ _ (Ae b) (v.mono  Ad) (ax.mono  Ad) b3) ?_;rintro cq dv ⟨_,rfl,a9⟩ b4 c7 cr;have cm:=a9.BB hH b b4;exact Bu
 refine Bx 2 Z<|Ar h ?_ ?_<;>intro b5 h
 ·refine Af ?_;refine AJ (GR 1 5 Z Is.e b Z Z)<|Af ?_;refine Ah h λdw b6 h=>Al b (Qjq (a0:=a0.2) _ _ (Ae b) (x.mono  Ad) (y.mono  Ad) (z.mono  Ad) b6) λdx c8 c9 cs=>Bu
 refine Bx 2 Z<|Ar h ?_ ?_<;>intro b7 h
 ·refine Af ?_;refine AJ (GR 1 5 Z Is.e b Z Z)<|Af ?_;refine Ah h λdy b8 h=>Al b (Ad1 (a0:=a0.2) _ _ (Ae b) (x.mono  Ad) (y.mono  Ad) (z.mono  Ad) b8) λdz da db ct=>Bu
 refine Bx 2 Z<|Ar h ?_ ?_<;>intro b9 h
 ·refine Af ?_;refine AJ (GR 1 5 Z Is.e b Z Z)<|Af ?_;refine Ah h λd0 ca h=>Al b (Qka (a0:=a0.2) _ _ (Ae b) (x.mono  Ad) (y.mono  Ad) (z.mono  Ad) (ax.mono  Ad) ca) λd1 dc dd cu=>Bu
 refine Bx 2 Z<|Ar h ?_ ?_<;>intro cb h
 ·refine BF (Zt 0 8 (.tail 8)) mixed SF (λcn cc=>?_);have i:=b.call cc;refine Bh Z (C6 1 Z WZ.e i Z) Z<|Bh Z (A7 Z Vv Z VM.e) Z<|Bh Z (AG 0 Z i Z) Z<|Ag h λba h=>Cj Z Z Z U5 ay ((0:Int).toNat) (BP ba) (An ba) Z ?_;rintro d2 _ e59t0 cd;obtain⟨_,_,rfl,rfl,⟨_,_,rfl,⟨e59v1,rfl,e59h1⟩,⟨_,_,rfl,rfl,⟨_,_,rfl,⟨e59v3,rfl,e59h3⟩,⟨_,_,rfl,rfl,⟨_,_,rfl,rfl,⟨e59v6,rfl,e59h6⟩⟩⟩⟩⟩⟩⟩:=Go.E.Rp.C2 e59t0;refine Bh Z (AU cd (hH.trans i.arg)) Z<|Ah h λd3 ce h=>?_;have bh:=(λ(bq:World) (p:Ext cn bq)=>hself bq _ (Le.refl _) ((v.mono (hH.trans i.arg)).mono p.le) ((x.mono (hH.trans i.arg)).mono p.le) ((y.mono (hH.trans i.arg)).mono p.le) ((z.mono (hH.trans i.arg)).mono p.le) ((e59h1.mono (hH.trans i.arg)).mono p.le) ((e59h3.mono (hH.trans i.arg)).mono p.le) ((e59h6.mono (hH.trans i.arg)).mono p.le) ce);refine DY Z Z Z bh<|Br 2 Z<|AT (λd4 cf=>?_);have de:=i.call cf;exact Bu
 refine Af ?_;refine AA Int (λj=>[(3,(SX b2)),(6,No j)]) (λj wr=>AB w [.box b2 [No a1.f.1,ag,Pg a1.f.2.2.1,ah,No a1.f.2.2.2.2.1,No a1.f.2.2.2.2.2.1,ai] 27,.box b1 [ac,No a0.2.f.1,No a0.2.f.2.1,ad,ae,af] 56] wr/\(G3 a1) j=TI r) ?_ ?_
 ·refine Bx 1 Z<|A4 ?_;obtain⟨aj,h⟩:=Ax h;refine AF (Int×Int×Nat) (λ⟨d,e,n⟩=>[(2,(SX b1)),(3,(SX b2)),(6,No d),(7,No e)]) (λ⟨d,e,n⟩ wr=>AB w [.box b2 [No a1.f.1,ag,Pg a1.f.2.2.1,ah,No a1.f.2.2.2.2.1,No a1.f.2.2.2.2.2.1,ai] 27,.box b1 [ac,No a0.2.f.1,No a0.2.f.2.1,ad,ae,af] 56] wr/\D6 (Gd a0 a1 self) n (d,e)=TI r) (λ⟨d,e,n⟩=>n) (0,0,aj) Z ⟨b,h⟩ ?_;rintro⟨d,e,nn128⟩ cv ⟨ap,h⟩;obtain⟨aj,df,rfl,h,ak⟩:=Aw h;refine AR ?_;refine Ar h ?_ ?_<;>intro bi h
  ·refine AR ?_;refine BF (Zt 0 7 (.tail 7)) mixed SF (λcg bj=>?_);have c:=ap.call bj;refine Bh Z (C6 1 Z WZ.e c Z) Z<|Bh Z (A7 Z Vv Z VM.e) Z<|Bh Z (AG 0 Z c Z) Z<|Br 1 Z<|Ag h λaq h=>Cj Z Z Z U5 ay e.toNat (BP aq) (An aq) Z ?_;rintro dg _ e134t0 bk;obtain⟨_,_,rfl,rfl,⟨_,_,rfl,⟨e134v1,rfl,e134h1⟩,⟨_,_,rfl,rfl,⟨_,_,rfl,⟨e134v3,rfl,e134h3⟩,⟨_,_,rfl,rfl,⟨_,_,rfl,rfl,⟨e134v6,rfl,e134h6⟩⟩⟩⟩⟩⟩⟩:=Go.E.Rp.C2 e134t0;refine Bh Z (AU bk (hH.trans c.arg)) Z<|Ah h λdh bl h=>?_;have bb:=(λ(bc:World) (o:Ext cg bc)=>hself bc _ (Le.refl _) ((v.mono (hH.trans c.arg)).mono o.le) ((x.mono (hH.trans c.arg)).mono o.le) ((y.mono (hH.trans c.arg)).mono o.le) ((z.mono (hH.trans c.arg)).mono o.le) ((e134h1.mono (hH.trans c.arg)).mono o.le) ((e134h3.mono (hH.trans c.arg)).mono o.le) ((e134h6.mono (hH.trans c.arg)).mono o.le) bl);refine DY Z Z Z bb<|AT (λdi bm=>?_);have ar:=c.call bm;refine Ap ?_
   refine AH h ?_ ?_<;>intro bn h
   ·refine Ag h λcw h=>Ag h λcx h=>Af ?_;have h:=AX.again h ak;refine Ak (_,_,_) Z ⟨ar,h⟩
   refine Ag h λcy h=>Af ?_;have h:=AX.again h ak;refine Ak (_,_,_) Z ⟨ar,h⟩
  have h:=AX.out h ak;refine Af ?_;refine Am _ ⟨ap,h⟩
 rintro j cz ⟨c0,h⟩;refine Af ?_;refine Gs 8 112 (.bool ((decide (j=(a1.f.2.2.2.2.2.2.length:Int)))||((decide (a1.f.1=9))&&(decide (0<j))))) (λau=>?_) ?_
 ·refine Cu (s:=104) Z (λg=>?_) (λg=>?_)
  ·iterate 4 refine AW g ?_
   iterate 2 refine IP ?_
   refine AW g<|sF g Z<|au.to 7 (T3 g) Z Z
  refine Af ?_;refine Gs 3 111 (.bool ((decide (a1.f.1=9))&&(decide (0<j)))) (λav=>?_) ?_
  ·refine Cu (s:=108) Z (λk=>?_) (λk=>?_)
   ·refine Aj k<|sI Z<|Aj k<|sI Z<|Aj g<|sF k Z<|av.to 2 (LV k) Z Z
   iterate 2 refine AW k ?_
   refine Aj g<|sG k Z<|av.to 2 (LW k) Z Z
  refine sG g Z<|au.to 5 (T5 g) Z Z
 exact Bu
theorem All(n:Nat):Jp (FW n):=by
 induction n with
 | zero=>unfold Jp;intros;rename_i h;cases h
 | succ n ih=>exact Qxz (FW n) ih
section
variable(w:World)(H:PH)(hH:Le H (hp w)) include hH
theorem Qq2{a0:Wl×Pv}{a1:Qv}{a b c d e g i:Value}(j:As .byte H a (a0.1))(k:As .byte H b (a0.2.f.2.2.1))(l:As .st H c (a0.2.f.2.2.2.1))(m:As .tree H d (a0.2.f.2.2.2.2))(n:As .st H e (a1.f.2.1))(o:As .byte H g (a1.f.2.2.2.1))(p:As .AN H i (a1.f.2.2.2.2.2.2)){r:Bool}(h:Oj a0 a1=TI r):Ok prog 12 [.agg #[a,No a0.2.f.1,No a0.2.f.2.1,b,c,d],.agg #[No a1.f.1,e,Pg a1.f.2.2.1,g,No a1.f.2.2.2.2.1,No a1.f.2.2.2.2.2.1,i]] w (λv w'=>Ext w w'/\v=.bool r):=All 1000 w H hH j k l m n o p h
end
def HQ(a:Wl):Option Wl:=
 Ay (([(34:UInt8)]).length+a.length<=9223372036854775807) (Ay (([(34:UInt8)]++a).length+([(34:UInt8)]).length<=9223372036854775807) (TI ((([(34:UInt8)]++a)++[(34:UInt8)]))))
def CH(a0:Qv):Wl×Int->Option ((Wl×Int)⊕(Wl)):=λ⟨b,a⟩=>
 if a<(a0.f.2.1.length:Int)then Ay (b.length+([32]:Wl).length<=9223372036854775807) (Ay (0<=a/\a<(a0.f.2.1.length:Int)) (Ay ((b++([32]:Wl)).length+(a0.f.2.1.getD a.toNat Qq7).length<=9223372036854775807) (Ay (AL (a+1)) (TI (Sum.inl (((b++([32]:Wl))++a0.f.2.1.getD a.toNat Qq7),(a+1)))))))else Sh Sum.inr (HQ b)
def HR(a0:Qv)(s:Wl×Int):Option Wl:=Go.L.run (CH a0) s
def HS(a0:Qv)(self2:(List Qv)->Wl->Int->Int->Option Wl):Option Wl:=
 Xd (self2 a0.f.2.2.2.2.2.2 ([]:Wl) (8:Int) (9:Int)) (λa=>Ay (([33]:Wl).length+a.length<=9223372036854775807) (TI ((([33]:Wl)++a))))
def GM(_self1:Qv->Option Wl)(self2:(List Qv)->Wl->Int->Int->Option Wl)(a0:Qv):Option Wl:=
 if a0.f.1=1 then Ay (0<=(0:Int)/\(0:Int)<(a0.f.2.1.length:Int)) (TI (a0.f.2.1.getD ((0:Int).toNat) Qq7))else(if a0.f.1=2 then Ay (0<=(0:Int)/\(0:Int)<(a0.f.2.1.length:Int)) ((HR a0) (a0.f.2.1.getD ((0:Int).toNat) Qq7,1))else(if a0.f.1=3 then Ay (0<=(0:Int)/\(0:Int)<(a0.f.2.1.length:Int)) (Ay ((a0.f.2.1.getD ((0:Int).toNat) Qq7).length+([126]:Wl).length<=9223372036854775807) (Xd (JA a0.f.2.2.2.2.1) (λa=>Ay ((a0.f.2.1.getD ((0:Int).toNat) Qq7++([126]:Wl)).length+a.length<=9223372036854775807) (Ay (((a0.f.2.1.getD ((0:Int).toNat) Qq7++([126]:Wl))++a).length+([126]:Wl).length<=9223372036854775807) (Ay (0<=(1:Int)/\(1:Int)<(a0.f.2.1.length:Int)) (Ay ((((a0.f.2.1.getD ((0:Int).toNat) Qq7++([126]:Wl))++a)++([126]:Wl)).length+(a0.f.2.1.getD ((1:Int).toNat) Qq7).length<=9223372036854775807) (TI (((((a0.f.2.1.getD ((0:Int).toNat) Qq7++([126]:Wl))++a)++([126]:Wl))++a0.f.2.1.getD ((1:Int).toNat) Qq7)))))))))else(if a0.f.1=4 then Xd (Nn a0.f.2.2.2.1) (λe=>TI e)else(if a0.f.1=5 then Ay (([47]:Wl).length+a0.f.2.2.1.length<=9223372036854775807) (TI ((([47]:Wl)++a0.f.2.2.1)))else(if a0.f.1=6 then Ay (([47]:Wl).length+a0.f.2.2.1.length<=9223372036854775807) (Ay ((([47]:Wl)++a0.f.2.2.1).length+([61]:Wl).length<=9223372036854775807) (Xd (JA a0.f.2.2.2.2.1) (λb=>Ay (((([47]:Wl)++a0.f.2.2.1)++([61]:Wl)).length+b.length<=9223372036854775807) (Ay ((((([47]:Wl)++a0.f.2.2.1)++([61]:Wl))++b).length+([46,46]:Wl).length<=9223372036854775807) (Xd (JA a0.f.2.2.2.2.2.1) (λc=>Ay (((((([47]:Wl)++a0.f.2.2.1)++([61]:Wl))++b)++([46,46]:Wl)).length+c.length<=9223372036854775807) (TI ((((((([47]:Wl)++a0.f.2.2.1)++([61]:Wl))++b)++([46,46]:Wl))++c)))))))))else(if a0.f.1=7 then Ay (([47]:Wl).length+a0.f.2.2.1.length<=9223372036854775807) (Ay ((([47]:Wl)++a0.f.2.2.1).length+([61]:Wl).length<=9223372036854775807) (Xd (Nn a0.f.2.2.2.1) (λd=>Ay (((([47]:Wl)++a0.f.2.2.1)++([61]:Wl)).length+d.length<=9223372036854775807) (TI ((((([47]:Wl)++a0.f.2.2.1)++([61]:Wl))++d))))))else(if a0.f.1=8 then Xd (self2 a0.f.2.2.2.2.2.2 ([38]:Wl) (9:Int) (0:Int)) (λg=>TI g)else(if a0.f.1=9 then Xd (self2 a0.f.2.2.2.2.2.2 ([124]:Wl) (0:Int) (0:Int)) (λh=>TI h)else(HS a0 self2)))))))))
def Qk3{self1:Qv->Option Wl}{self2:(List Qv)->Wl->Int->Int->Option Wl}(_hself1:∀(w:World) (H:PH) (hH:Le H (hp w)) {a0:Qv}{b:Value}{e:Value}{g:Value} (j:As .st H b (a0.f.2.1)) (u:As .byte H e (a0.f.2.2.2.1)) (p:As .AN H g (a0.f.2.2.2.2.2.2)) {r:Wl} (h:self1 a0=TI r),Ok prog 32 [.agg #[No a0.f.1,b,Pg a0.f.2.2.1,e,No a0.f.2.2.2.2.1,No a0.f.2.2.2.2.2.1,g]] w (λv w'=>Ext w w'/\v=(Pg r)))(hself2:∀(w:World) (H:PH) (hH:Le H (hp w)) {a0:List Qv}{a1:Wl}{a2:Int}{a3:Int}{b:Value} (j:As .AN H b a0) {r:Wl} (h:self2 a0 a1 a2 a3=TI r),Ok prog 70 [b,Pg a1,No a2,No a3] w (λv w'=>Ext w w'/\v=(Pg r)))(w:World)(H:PH)(hH:Le H (hp w)){a0:Qv}{b e g:Value}(j:As .st H b (a0.f.2.1))(u:As .byte H e (a0.f.2.2.2.1))(p:As .AN H g (a0.f.2.2.2.2.2.2)){r:Wl}(h:GM self1 self2 a0=TI r):
  Ok prog 32 [.agg #[No a0.f.1,b,Pg a0.f.2.2.1,e,No a0.f.2.2.2.2.1,No a0.f.2.2.2.2.2.1,g]] w (λv w'=>Ext w w'/\v=(Pg r)):=by
 refine Ai 107 [(0,.agg #[No a0.f.1,b,Pg a0.f.2.2.1,e,No a0.f.2.2.2.2.1,No a0.f.2.2.2.2.2.1,g])] func32 Z λhL=>A5<|B6 (t:=27) Z Z hL λw1 b1 d cv _=>BJ 1 Z<|AA Unit (λ(_:Unit)=>[(1,(SX b1))]) (λ(_:Unit) wr=>AB w [.box b1 [No a0.f.1,b,Pg a0.f.2.2.1,e,No a0.f.2.2.2.2.1,No a0.f.2.2.2.2.2.1,g] 27] wr/\(HS a0 self2)=TI r) ?_ ?_
 ·refine AR ?_;refine Ar h ?_ ?_<;>intro ah h
  ·refine Af ?_;refine Ag h λy h=>A1 j ((0:Int).toNat) (BP y) (An y) ?_;rintro cw _ rfl ai;refine sH ai (hH.trans d.arg)<|Bu
  refine Bx 2 Z<|Ar h ?_ ?_<;>intro aj h
  ·refine Af ?_;refine Ag h λz h=>A1 j ((0:Int).toNat) (BP z) (An z) ?_;rintro cx _ rfl ak;refine sH ak (hH.trans d.arg)<|BJ 1 Z<|AA Wl (λk=>[(3,(Pg k))]) (λk wr=>AB w [.box b1 [No a0.f.1,b,Pg a0.f.2.2.1,e,No a0.f.2.2.2.2.1,No a0.f.2.2.2.2.2.1,g] 27] wr/\HQ k=TI r) ?_ ?_
   ·refine Bx 1 Z<|A4 ?_;obtain⟨x,h⟩:=Ax h;refine AF (Wl×Int×Nat) (λ⟨c,a,n⟩=>[(1,(SX b1)),(3,(Pg c)),(4,No a)]) (λ⟨c,a,n⟩ wr=>AB w [.box b1 [No a0.f.1,b,Pg a0.f.2.2.1,e,No a0.f.2.2.2.2.1,No a0.f.2.2.2.2.2.1,g] 27] wr/\D6 (CH a0) n (c,a)=TI r) (λ⟨c,a,n⟩=>n) (a0.f.2.1.getD ((0:Int).toNat) Qq7,1,x) Z ⟨d,h⟩ ?_;rintro⟨c,a,nn149⟩ cb ⟨s,h⟩;obtain⟨x,cy,rfl,h,aa⟩:=Aw h;refine AR ?_;refine Ar h ?_ ?_<;>intro al h
    ·refine AR ?_;refine Ag h λam h=>AJ (De am)<|Af ?_;refine Ag h λab h=>A1 j a.toNat (BP ab) (An ab) ?_;rintro cz _ rfl an;refine sH an (hH.trans s.arg)<|Ag h λao h=>AJ (De ao)<|Ag h λcc h=>Af ?_;have h:=AX.again h aa;refine Ak (_,_,_) Z ⟨s,h⟩
    have h:=AX.out h aa;refine Af ?_;refine Am _ ⟨s,h⟩
   rintro k cd ⟨ap,h⟩;refine A5<|Bi [(34:UInt8)] (r:=.byte) (λ_=>Ht _ _) ap (.c1 Z .nil) λc0 c2 ce ac b5 aq=>AJ (O3 aq (Ae ac))<|AK 1 Z<|Ag h λar h=>AJ (De ar)<|Bi [(34:UInt8)] (r:=.byte) (λ_=>Ht _ _) ac (.c1 Z .nil) λc3 c4 cf au b6 av=>AJ (O3 av (Ae au))<|Ag h λaw h=>AJ (De aw)<|Bu
  refine Bx 2 Z<|Ar h ?_ ?_<;>intro ax h
  ·refine BF (Zt 0 16 (.tail 16)) mixed SF (λc5 ay=>?_);have i:=d.call ay;refine Bh Z (A7 Z Vv Z Up.e) Z<|Bh Z (AG 0 Z i Z) Z<|Ag h λad h=>Cj Z Z Z Jk j ((0:Int).toNat) (BP ad) (An ad) Z ?_;rintro c6 _ rfl az;refine Bh Z (B5 az (hH.trans i.arg)) Z<|Ag h λa4 h=>Bh Z (De a4) Z<|Bh Z (A7 Z Vv Z DW.e) Z<|Bh Z (AG 0 Z i Z) Z<|Ah h λc7 a5 h=>DY Z Z Z (λc8 cg=>NA _ _ (Le.refl _) a5)<|Ag h λa6 h=>Bh Z (De a6) Z<|Ag h λa7 h=>Bh Z (De a7) Z<|Bh Z (A7 Z Vv Z Up.e) Z<|Bh Z (AG 0 Z i Z) Z<|Ag h λae h=>Cj Z Z Z Jk j ((1:Int).toNat) (BP ae) (An ae) Z ?_;rintro c9 _ rfl a8;refine Bh Z (B5 a8 (hH.trans i.arg)) Z<|Ag h λa9 h=>?_
   refine Bh Z (De a9) Z<|Br 1 Z<|AT (λda ba=>?_);have ch:=i.call ba;exact Bu
  refine Bx 2 Z<|Ar h ?_ ?_<;>intro bb h
  ·refine Af ?_;refine Ah h λdb bc h=>Al d (Te _ _ (Ae d) (u.mono  Ad) bc) λdc ci cj b7=>Bu
  refine Bx 2 Z<|Ar h ?_ ?_<;>intro bd h
  ·refine Af ?_;refine Ag h λbe h=>AJ (De be)<|Bu
  refine Bx 2 Z<|Ar h ?_ ?_<;>intro bf h
  ·refine BF (Zt 0 14 (.tail 14)) mixed SF (λdd bg=>?_);have m:=d.call bg;refine Bh Z (A7 Z Vv Z E7.e) Z<|Bh Z (AG 0 Z m Z) Z<|Ag h λbh h=>Bh Z (De bh) Z<|Ag h λbi h=>Bh Z (De bi) Z<|Bh Z (A7 Z Vv Z DW.e) Z<|Bh Z (AG 0 Z m Z) Z<|Ah h λde bj h=>DY Z Z Z (λdf ck=>NA _ _ (Le.refl _) bj)<|Ag h λbk h=>Bh Z (De bk) Z<|Ag h λbl h=>Bh Z (De bl) Z<|Bh Z (A7 Z Vv Z DW.e) Z<|Bh Z (AG 0 Z m Z) Z<|Ah h λdg bm h=>DY Z Z Z (λdh cl=>NA _ _ (Le.refl _) bm)<|Ag h λbn h=>Bh Z (De bn) Z<|Br 1 Z<|AT (λdi bo=>?_);have cm:=m.call bo;exact Bu
  refine Bx 2 Z<|Ar h ?_ ?_<;>intro bp h
  ·refine BF (Zt 0 9 (.tail 9)) mixed SF (λdj bq=>?_);have o:=d.call bq;refine Bh Z (A7 Z Vv Z E7.e) Z<|Bh Z (AG 0 Z o Z) Z<|Ag h λbr h=>Bh Z (De br) Z<|Ag h λbs h=>Bh Z (De bs) Z<|Bh Z (A7 Z Vv Z Nu.e) Z<|Bh Z (AG 0 Z o Z) Z<|Ah h λdk bt h=>DY Z Z Z (λdl bu=>Te _ _ (Le.refl _) ((u.mono (hH.trans o.arg)).mono bu.le) bt)<|Ag h λbv h=>Bh Z (De bv) Z<|Br 1 Z<|AT (λdm bw=>?_);have cn:=o.call bw;exact Bu
  refine Bx 2 Z<|Ar h ?_ ?_<;>intro bx h
  ·refine Af ?_;refine Ah h λdn bz h=>Al d (hself2 _ _ (Ae d) (p.mono  Ad) bz) λdp co cp b8=>Bu
  refine Bx 2 Z<|Ar h ?_ ?_<;>intro b0 h
  ·refine Af ?_;refine Ah h λdq b2 h=>Al d (hself2 _ _ (Ae d) (p.mono  Ad) b2) λdr cq cr b9=>Bu
  refine Af ?_;refine Am () ⟨d,h⟩
 rintro _ cs ⟨af,h⟩;refine Af ?_;refine Ah h λds b3 h=>Al af (hself2 _ _ (Ae af) (p.mono  Ad) b3) λdt ct cu ca=>Ag h λb4 h=>AJ (De b4)<|Bu
def EP(a0:List Qv)(a:Int)(b:Wl)(self1:Qv->Option Wl)(d:Bool):Option ((Wl×Int)⊕(Wl)):=
 if d then Ay (b.length+([40]:Wl).length<=9223372036854775807) (Ay (0<=a/\a<(a0.length:Int)) (Xd (self1 (a0.getD a.toNat Qq7)) (λc=>Ay ((b++([40]:Wl)).length+c.length<=9223372036854775807) (Ay (((b++([40]:Wl))++c).length+([41]:Wl).length<=9223372036854775807) (Ay (AL (a+1)) (TI (Sum.inl ((((b++([40]:Wl))++c)++([41]:Wl)),(a+1)))))))))else Ay (0<=a/\a<(a0.length:Int)) (Xd (self1 (a0.getD a.toNat Qq7)) (λe=>Ay (b.length+e.length<=9223372036854775807) (Ay (AL (a+1)) (TI (Sum.inl ((b++e),(a+1)))))))
def ER(a0:List Qv)(a2 a3 a:Int)(self1:Qv->Option Wl)(b:Wl):Option ((Wl×Int)⊕(Wl)):=
 Ay (0<=a/\a<(a0.length:Int)) (if(a0.getD a.toNat Qq7).f.1=a2 then(EP a0 a b self1) true else Ay (0<=a/\a<(a0.length:Int)) ((EP a0 a b self1) (decide ((a0.getD a.toNat Qq7).f.1=a3))))
def G4(a:Wl):Option Wl:=
 TI a
def BV(a0:List Qv)(a1:Wl)(a2 a3:Int)(self1:Qv->Option Wl):Wl×Int->Option ((Wl×Int)⊕(Wl)):=λ⟨b,a⟩=>
 if a<(a0.length:Int)then(if 0<a then Ay (b.length+a1.length<=9223372036854775807) ((ER a0 a2 a3 a self1) (b++a1))else(ER a0 a2 a3 a self1) b)else Sh Sum.inr (G4 b)
def Aab(a0:List Qv)(a1:Wl)(a2 a3:Int)(self1:Qv->Option Wl)(s:Wl×Int):Option Wl:=Go.L.run (BV a0 a1 a2 a3 self1) s
def II(self1:Qv->Option Wl)(_self2:(List Qv)->Wl->Int->Int->Option Wl)(a0:List Qv)(a1:Wl)(a2 a3:Int):Option Wl:=
 (Aab a0 a1 a2 a3 self1) (([]:Wl),0)
def Qkb{self1:Qv->Option Wl}{self2:(List Qv)->Wl->Int->Int->Option Wl}(hself1:∀(w:World) (H:PH) (hH:Le H (hp w)) {a0:Qv}{d:Value}{u:Value}{x:Value} (i:As .st H d (a0.f.2.1)) (_h0_1:As .byte H u (a0.f.2.2.2.1)) (_h0_2:As .AN H x (a0.f.2.2.2.2.2.2)) {r:Wl} (h:self1 a0=TI r),Ok prog 32 [.agg #[No a0.f.1,d,Pg a0.f.2.2.1,u,No a0.f.2.2.2.2.1,No a0.f.2.2.2.2.2.1,x]] w (λv w'=>Ext w w'/\v=(Pg r)))(_hself2:∀(w:World) (H:PH) (hH:Le H (hp w)) {a0:List Qv}{a1:Wl}{a2:Int}{a3:Int}{d:Value} (i:As .AN H d a0) {r:Wl} (h:self2 a0 a1 a2 a3=TI r),Ok prog 70 [d,Pg a1,No a2,No a3] w (λv w'=>Ext w w'/\v=(Pg r)))(w:World)(H:PH)(hH:Le H (hp w)){a0:List Qv}{a1:Wl}{a2 a3:Int}{d:Value}(i:As .AN H d a0){r:Wl}(h:II self1 self2 a0 a1 a2 a3=TI r):
  Ok prog 70 [d,Pg a1,No a2,No a3] w (λv w'=>Ext w w'/\v=(Pg r)):=by
 refine Ai 55 [(0,d),(1,(Pg a1)),(2,No a2),(3,No a3)] func70 Z λhL=>Af ?_;refine AA Wl (λj=>[(9,(Pg j))]) (λj wr=>AB w [] wr/\G4 j=TI r) ?_ ?_
 ·refine Bx 1 Z<|A4 ?_;obtain⟨l,h⟩:=Ax h;refine AF (Wl×Int×Nat) (λ⟨b,a,n⟩=>[(0,d),(1,(Pg a1)),(2,No a2),(3,No a3),(9,(Pg b)),(10,No a)]) (λ⟨b,a,n⟩ wr=>AB w [] wr/\D6 (BV a0 a1 a2 a3 self1) n (b,a)=TI r) (λ⟨b,a,n⟩=>n) (([]:Wl),0,l) Z ⟨hL,h⟩ ?_;rintro⟨b,a,nn123⟩ ay ⟨m,h⟩;obtain⟨l,y,rfl,h,o⟩:=Aw h;refine AR ?_;refine Ar h ?_ ?_<;>intro z h
  ·refine Af ?_;refine tJ<|AA Wl (λc=>[(0,d),(1,(Pg a1)),(2,No a2),(3,No a3),(9,(Pg c)),(10,No a)]) (λc wr=>AB w [] wr/\(ER a0 a2 a3 a self1) c=TI y) ?_ ?_
   ·refine Bx 2 Z<|Ar h ?_ ?_<;>intro aa h
    ·refine Af ?_;refine Ag h λab h=>AJ (De ab)<|Af ?_;refine Am _ ⟨m,h⟩
    refine Ca<|Am _ ⟨m,h⟩
   rintro c az ⟨k,h⟩;refine AA Bool (λe=>[(0,d),(1,(Pg a1)),(2,No a2),(3,No a3),(9,(Pg c)),(10,No a),(37,.bool e)]) (λe wr=>AB w [] wr/\(EP a0 a c self1) e=TI y) ?_ ?_
   ·refine Af ?_;refine Ag h λp h=>A1 i a.toNat (BP p) (An p) ?_;rintro a9 _ e153t0 ac;obtain⟨_,_,rfl,rfl,⟨_,_,rfl,⟨e153v1,rfl,e153h1⟩,⟨_,_,rfl,rfl,⟨_,_,rfl,⟨e153v3,rfl,e153h3⟩,⟨_,_,rfl,rfl,⟨_,_,rfl,rfl,⟨e153v6,rfl,e153h6⟩⟩⟩⟩⟩⟩⟩:=Go.E.Rp.C2 e153t0;refine Af ?_;have ad:=ac.add 0;refine sH ad (hH.trans k.arg)<|AK 3 Z<|Bl 29 h ?_ ?_<;>intro ae h
    ·refine Af ?_;refine Am _ ⟨k,h⟩
    refine Af ?_;refine Ag h λq h=>A1 i a.toNat (BP q) (An q) ?_;rintro ba _ e159t0 af;obtain⟨_,_,rfl,rfl,⟨_,_,rfl,⟨e159v1,rfl,e159h1⟩,⟨_,_,rfl,rfl,⟨_,_,rfl,⟨e159v3,rfl,e159h3⟩,⟨_,_,rfl,rfl,⟨_,_,rfl,rfl,⟨e159v6,rfl,e159h6⟩⟩⟩⟩⟩⟩⟩:=Go.E.Rp.C2 e159t0;have ag:=af.add 0;refine Af ?_;refine sH ag (hH.trans k.arg)<|Af ?_;refine Am _ ⟨k,h⟩
   rintro e a4 ⟨g,h⟩;refine AH h ?_ ?_<;>intro ah h
   ·refine Af ?_;refine Ag h λai h=>AJ (De ai)<|AK 2 Z<|Ag h λs h=>A1 i a.toNat (BP s) (An s) ?_;rintro bb _ e166t0 aj;obtain⟨_,_,rfl,rfl,⟨_,_,rfl,⟨e166v1,rfl,e166h1⟩,⟨_,_,rfl,rfl,⟨_,_,rfl,⟨e166v3,rfl,e166h3⟩,⟨_,_,rfl,rfl,⟨_,_,rfl,rfl,⟨e166v6,rfl,e166h6⟩⟩⟩⟩⟩⟩⟩:=Go.E.Rp.C2 e166t0;refine AJ (AU aj (hH.trans g.arg))<|Ah h λau ak h=>Al g (hself1 (a0:=(a0.getD a.toNat Qq7)) _ _ (Ae g) (e166h1.mono  Ad) (e166h3.mono  Ad) (e166h6.mono  Ad) ak) λbc a5 al aw=>Ag h λam h=>AJ (De am)<|Ag h λan h=>AJ (De an)<|Ag h λa6 h=>Af ?_;have h:=AX.again h o;refine Ak (_,_,_) Z ⟨al,h⟩
   refine Af ?_;refine Ag h λt h=>A1 i a.toNat (BP t) (An t) ?_;rintro bd _ e174t0 ao;obtain⟨_,_,rfl,rfl,⟨_,_,rfl,⟨e174v1,rfl,e174h1⟩,⟨_,_,rfl,rfl,⟨_,_,rfl,⟨e174v3,rfl,e174h3⟩,⟨_,_,rfl,rfl,⟨_,_,rfl,rfl,⟨e174v6,rfl,e174h6⟩⟩⟩⟩⟩⟩⟩:=Go.E.Rp.C2 e174t0;refine AJ (AU ao (hH.trans g.arg))<|Ah h λav ap h=>Al g (hself1 (a0:=(a0.getD a.toNat Qq7)) _ _ (Ae g) (e174h1.mono  Ad) (e174h3.mono  Ad) (e174h6.mono  Ad) ap) λbe a7 aq ax=>Ag h λar h=>AJ (De ar)<|Ag h λa8 h=>Af ?_;have h:=AX.again h o;refine Ak (_,_,_) Z ⟨aq,h⟩
  have h:=AX.out h o;refine Af ?_;refine Am _ ⟨m,h⟩
 rintro j bf ⟨bg,h⟩;exact Bu
def BH:Nat->(Qv->Option Wl)×((List Qv)->Wl->Int->Int->Option Wl)
 | 0=>(λ_=>none,λ_ _ _ _=>none)
 | n+1=>(GM ((BH n).1) ((BH n).2),II ((BH n).1) ((BH n).2))
def OX:Qv->Option Wl:=(BH 1000).1
theorem Qxv(n:Nat):(∀(w:World) (H:PH) (hH:Le H (hp w)) {a0:Qv}{a:Value}{b:Value}{c:Value} (d:As .st H a (a0.f.2.1)) (e:As .byte H b (a0.f.2.2.2.1)) (g:As .AN H c (a0.f.2.2.2.2.2.2)) {r:Wl} (h:((BH n).1) a0=TI r),Ok prog 32 [.agg #[No a0.f.1,a,Pg a0.f.2.2.1,b,No a0.f.2.2.2.2.1,No a0.f.2.2.2.2.2.1,c]] w (λv w'=>Ext w w'/\v=(Pg r)))/\(∀(w:World) (H:PH) (hH:Le H (hp w)) {a0:List Qv}{a1:Wl}{a2:Int}{a3:Int}{a:Value} (d:As .AN H a a0) {r:Wl} (h:((BH n).2) a0 a1 a2 a3=TI r),Ok prog 70 [a,Pg a1,No a2,No a3] w (λv w'=>Ext w w'/\v=(Pg r))):=by
 induction n with
 | zero=>exact⟨(by intros;rename_i h;cases h),(by intros;rename_i h;cases h)⟩
 | succ n ih=>exact⟨Qk3 ih.1 ih.2,Qkb ih.1 ih.2⟩
section
variable(w:World)(H:PH)(hH:Le H (hp w)) include hH
theorem Qjc{a0:Qv}{a b c:Value}(d:As .st H a (a0.f.2.1))(e:As .byte H b (a0.f.2.2.2.1))(g:As .AN H c (a0.f.2.2.2.2.2.2)){r:Wl}(h:OX a0=TI r):Ok prog 32 [.agg #[No a0.f.1,a,Pg a0.f.2.2.1,b,No a0.f.2.2.2.2.1,No a0.f.2.2.2.2.2.1,c]] w (λv w'=>Ext w w'/\v=(Pg r)):=(Qxv 1000).1 w H hH d e g h
def K0(a0:Qv):Option Z7:=
 Xd (OV a0 (0:Int) (1:Int)) (λa=>if a.2.1=0 then Xd (OX a0) (λc=>if 200<(c.length:Int)then Xd (GF (14:Int) (-1:Int)) (λb=>TI ((b.1,b.2)))else TI ((a.2.1,a.2.2)))else TI ((a.2.1,a.2.2)))
theorem Adr{a0:Qv}{a b c:Value}(e:As .st H a (a0.f.2.1))(g:As .byte H b (a0.f.2.2.2.1))(i:As .AN H c (a0.f.2.2.2.2.2.2)){r:Z7}(h:K0 a0=TI r):
  Pd 11 [.agg #[No a0.f.1,a,Pg a0.f.2.2.1,b,No a0.f.2.2.2.2.1,No a0.f.2.2.2.2.2.1,c]] w (λv w'=>v=.agg #[No r.1,No r.2]):=by
 refine Ai 21 [(0,.agg #[No a0.f.1,a,Pg a0.f.2.2.1,b,No a0.f.2.2.2.2.1,No a0.f.2.2.2.2.2.1,c])] func11 Z λhL=>A5<|B6 (t:=27) Z Z hL λw1 b1 y aj _=>Aq Av.e Z y λw2 b2 o ak _=>Af ?_;refine Ah h λx3 z h=>Al o (Abk (a0:=a0) _ _ (Ae o) (e.mono  Ad) (g.mono  Ad) (i.mono  Ad) z) λw4 aq aa al=>AK 3 Z<|Aq Av.e Z aa λw5 b5 ab am _=>AK 1 Z<|Ac 0 Z ab Z λw6 j an=>AR ?_;refine Bl 13 h ?_ ?_<;>intro p h
 ·refine Af ?_;refine Ah h λx9 ac h=>Al j (Qjc (a0:=a0) _ _ (Ae j) (e.mono  Ad) (g.mono  Ad) (i.mono  Ad) ac) λar ao d ad=>Aj p<|AJ (Dn Z)<|Af ?_;refine Ar h ?_ ?_<;>intro q h
  ·refine FC<|Ah h λau s h=>Al d (Ec _ _ (Ae d) s) λav ap u ae=>Ac 0 Z u Z λaw x af=>Af ?_;refine Ac 1 Z x Z λax k ag=>Af ?_
   cases h
   refine Bz (.cell Z QW Z Av.e (box_pT 1 k Z)) ⟨k.ext,Z⟩
  refine Af ?_;refine Ac 1 Z d Z λay l ah=>Af ?_
  cases h
  refine Bz (.cell Z QW Z Av.e (box_pT 1 l Z)) ⟨l.ext,Z⟩
 refine Af ?_;refine BO<|Af ?_;refine Ac 1 Z j Z λaz m ai=>Af ?_
 cases h
 refine Bz (.cell Z QW Z Av.e (box_pT 1 m Z)) ⟨m.ext,Z⟩
end
end Go.Proofs.YtgaljodghpgdmaaGreatDoor
end
noncomputable section
namespace Go.L
open Go
def V4(B:Nat):Nat->Qv->Prop
 | 0,_=>True
 | d+1,q=>q.f.2.1.length<=B/\q.f.2.2.1.length<=B/\q.f.2.2.2.1.length<=B/\q.f.2.2.2.2.2.2.length<=B/\(∀x∈q.f.2.1,x.length<=B)/\AL q.f.2.2.2.2.1/\AL q.f.2.2.2.2.2.1/\∀p∈q.f.2.2.2.2.2.2,V4 B d p
end Go.L
namespace Go.Proofs.YtgaljodghpgdmaaGreatDoor
open Go Go.L
def wfs:Sa->Int
 | []=>0
 | w::l=>if(wf w).1=0 then wfs l else(wf w).1
def An5{w:Qm}(h:(wf w).1=0):wf w=(0,0):=by
 unfold wf at h ⊢
 split at h
 ·cases h
 ·rename_i a;rw[Pb a]
  split at h
  ·rename_i b;rw[Xu b]
  ·cases h
def An6{w:Qm}(h:(pf w).1=0):pf w=(0,0):=by
 unfold pf at h ⊢
 split at h
 ·cases h
 ·rename_i a;rw[Pb a]
  split at h
  ·cases h
  ·rename_i b;rw[Pb b]
def Ae3(k:Int)(ws:Sa)(p d:Qm)(l h:Int)(ss:List Qv):(Qv.mk k ws p d l h ss).f=(k,ws,p,d,l,h,ss):=Z
theorem Aas{ws:Sa}(hl:ws.length<=1000000000){b:Int->Option (Int⊕Int)}{m:Option Int}
  (a:∀i:Nat,i<ws.length->b (i:Int)=if(wf (ws.getD i Qq7)).1=0 then TI (.inl ((i:Int)+1))else TI (.inr (wf (ws.getD i Qq7)).1)) (h2:b (ws.length:Int)=m.map Sum.inr):Go.L.run b 0=if wfs ws=0 then m else TI (wfs ws):=by
 have key:∀(d i:Nat),i+d=ws.length->Go.L.run b (i:Int)=if wfs (ws.drop i)=0 then m else TI (wfs (ws.drop i)):=by
  intro d
  induction d with
  | zero=>
   intro i hi;rw[UU U,Xu (by rfl),show i=ws.length by omega];exact A2 h2
  | succ d ih=>
   intro i hi;have hb:=a i U;rw[RV U,wfs];have hg:ws.getD i Qq7=ws[i]:=by rw[Sb,Pa U];rfl
   rw[hg]at hb
   by_cases hw:(wf ws[i]).1=0
   ·rw[Xu hw]at hb ⊢;rw[AE hb];exact ih (i+1) U
   ·rw[Pb hw]at hb ⊢;rw[Pb hw];exact A2 (m:=TI _) hb
 exact key ws.length 0 U
def PX(q:Qv):Bool:=q.f.2.2.2.2.2.2.any λs=>decide (s.f.1=q.f.1)
theorem AiC{l:List Qv}{k:Int}(hl:l.length<=1000000000){σ ρ:Type}{b:σ->Option (σ⊕ρ)}{st:Nat->σ}{m y:Option ρ}
  (a:∀i:Nat,i<l.length->b (st i)=if(l.getD i Qq7).f.1=k then y.map Sum.inr else TI (.inl (st (i+1)))) (h2:b (st l.length)=m.map Sum.inr):Go.L.run b (st 0)=if(l.any λs=>decide (s.f.1=k))then y else m:=by
 have key:∀(d i:Nat),i+d=l.length->Go.L.run b (st i)=if((l.drop i).any λs=>decide (s.f.1=k))then y else m:=by
  intro d
  induction d with
  | zero=>
   intro i hi;rw[UU U,Pb Rg,show i=l.length by omega];exact A2 h2
  | succ d ih=>
   intro i hi;have hb:=a i U;have hg:l.getD i Qq7=l[i]:=by rw[Sb,Pa U];rfl
   rw[hg]at hb;rw[RV U,List.any_cons]
   by_cases hw:l[i].f.1=k
   ·rw[Xu hw]at hb;rw[Xq hw,Bool.true_or,Xu Z];exact A2 hb
   ·rw[Pb hw]at hb;rw[AE hb,UK hw,Bool.false_or];exact ih (i+1) U
 exact key l.length 0 U
end Go.Proofs.YtgaljodghpgdmaaGreatDoor
namespace Go.Proofs.YtgaljodghpgdmaaGreatDoor
open Go Go.L
theorem Ak9{q:Qv}(hl:q.f.2.2.2.2.2.2.length<=1000000000):∃u,AM q.f.2.2.2.2.2.2 q=TI (PX q,u):=by
 unfold AM Dd E9;obtain⟨k,ws,pat,data,low,high,subs⟩:=q;simp only[Ae3]at hl ⊢
 have key:∃r,Go.L.run (Be subs) (k,ws,pat,data,low,high,subs,0)=TI r/\decide (0<=r.1)=PX (.mk k ws pat data low high subs):=by
  have:∀(d i:Nat),i+d=subs.length->∃r,Go.L.run (Be subs) (k,ws,pat,data,low,high,subs,(i:Int))=TI r/\decide (0<=r.1)=(subs.drop i).any λs=>decide (s.f.1=k):=by
   intro d
   induction d with
   | zero=>
    intro i hi;refine⟨(-1,.mk k ws pat data low high subs),A2 (m:=TI _) ?_,?_⟩
    ·unfold Be;simp only;rw[Pb U]
     rfl
    ·rw[UU U]
     rfl
   | succ d ih=>
    intro i hi;have hg:subs.getD i Qq7=subs[i]:=by rw[Sb,Pa U];rfl
    rw[RV U,List.any_cons]
    have hb:Be subs (k,ws,pat,data,low,high,subs,(i:Int))=if subs[i].f.1=k then TI (.inr ((i:Int),.mk k ws pat data low high subs))else TI (.inl (k,ws,pat,data,low,high,subs,((i+1:Nat):Int))):=by
     unfold Be;simp only;rw[Xu U,Ab ⟨by omega,by omega⟩,SV,hg];unfold N3;simp only[Wo,Ae3]
     by_cases hk:subs[i].f.1=k
     ·simp[hk]
     ·simp only[hk,decide_false,SQ,if_false];rw[Ab U]
      rfl
    by_cases hk:subs[i].f.1=k
    ·rw[Xu hk]at hb;refine⟨_,A2 (m:=TI _) hb,?_⟩;rw[Xq hk,Bool.true_or];exact Xq U
    ·rw[Pb hk]at hb;rw[AE hb,UK hk,Bool.false_or];exact ih (i+1) U
  exact this subs.length 0 U
 obtain⟨r,a,h2⟩:=key;rw[a,Wo,h2];exact⟨_,Z⟩
def Rw(q:Qv):Bool:=
 let k:=q.f.1
 let n:=q.f.2.1.length
 let m:=q.f.2.2.2.2.2.2.length
 (if k=1 then decide (n=1)else if k=2 then decide (2<=n/\n<=16)else if k=3 then decide (n=2)else decide (n=0)) &&
 (decide (k=5\/k=6\/k=7)||decide (q.f.2.2.1=[]))&&(decide (k=4\/k=7)||decide (q.f.2.2.2.1=[])) &&
 (decide (k=3\/k=6)||decide (q.f.2.2.2.2.1=0))&&(decide (k=6)||decide (q.f.2.2.2.2.2.1=0)) &&
 (if k=8\/k=9 then decide (2<=m)&&!PX q else if k=10 then decide (m=1)else decide (m=0))
def Agu{q:Qv}(hl:q.f.2.2.2.2.2.2.length<=1000000000)(hk:1<=q.f.1/\q.f.1<=10):MO q=TI (Rw q):=by
 obtain⟨u,hc⟩:=Ak9 hl;unfold MO Ct;rw[hc];clear hc;unfold Rw;clear hl;generalize PX q=B;generalize q.f.1=k at hk ⊢;generalize q.f.2.1.length=n;have hd:∀l:Qm,l=[]↔l.length=0:=λl=>List.length_eq_zero_iff.symm;have hd':([]=q.f.2.2.1)↔q.f.2.2.1.length=0:=by rw[eq_comm,hd]
 generalize q.f.2.2.2.2.1=low;generalize q.f.2.2.2.1=data;generalize q.f.2.2.2.2.2.1=high;generalize q.f.2.2.2.2.2.2.length=m;obtain rfl | rfl | rfl | rfl | rfl | rfl | rfl | rfl | rfl | rfl:k=1\/k=2\/k=3\/k=4\/k=5\/k=6\/k=7\/k=8\/k=9\/k=10:=by omega
 all_goals simp only[YV,if_true,if_false,hd',decide_true,decide_false,Bool.or_false,Bool.or_true,Bool.false_or,Bool.true_or,Bool.not_true,Bool.not_false,SQ,Wo,RZ,cond_true,cond_false,or_false,or_true,false_or,true_or,hd,List.nil_eq]
 all_goals (repeat' split)
 all_goals (refine congrArg TI (Z8.2 ?_))
 all_goals clear hd hd'
 all_goals (simp only[ZA,Xf,U2,SQ,Bool.not_eq_true',Bool.not_eq_true,true_iff,false_iff,iff_true,iff_false,Bool.true_eq_false,Int.natCast_eq_zero,and_true,true_and]at *)
 all_goals first | omega | exact⟨λh=>⟨by omega,by omega,h⟩,λh=>h.2.2⟩
def T1{q:Qv}(h:Rw q=true):q.f.2.1.length<=16:=by
 unfold Rw at h;simp only[ZA]at h;have:=h.1.1.1.1.1
 split at this
 ·simp at this;omega
 ·split at this
  ·simp at this;omega
  ·split at this
   ·simp at this;omega
   ·simp at this;simp[this]
def nt(q:Qv):Int:=if(q.f.1=3/\(q.f.2.2.2.2.1<1\/2048<q.f.2.2.2.2.1))\/(q.f.1=6/\q.f.2.2.2.2.2.1<q.f.2.2.2.2.1)then 4 else if q.f.1=4/\q.f.2.2.2.1.length=0 then 10 else if 64<q.f.2.2.2.1.length then 3 else 0
def nf(q:Qv):Int:=if 1<=q.f.1/\q.f.1<=10 then(if Rw q=true then(if wfs q.f.2.1=0 then(if(pf q.f.2.2.1).1=0 then nt q else(pf q.f.2.2.1).1)else wfs q.f.2.1)else 6)else 5
theorem Ab0{q:Qv}(hl:q.f.2.2.2.2.2.2.length<=1000000000):J5 q=TI (nf q):=by
 unfold J5 nf
 by_cases hk:1<=q.f.1/\q.f.1<=10
 ·rw[Pb U,Xu hk,Agu hl hk,Wo]
  cases hF:Rw q with
  | false=>rfl
  | true=>
   rw[Pb Y5,Xu Z];have hw:=T1 hF;unfold NL;rw[Aas (ws:=q.f.2.1) (b:=EO q) (m:=GJ q) U ?A ?B]
   ·by_cases c:wfs q.f.2.1=0
    ·rw[Xu c,Xu c];unfold GJ;rw[T0,Wo]
     by_cases a:(pf q.f.2.2.1).1=0
     ·rw[Xu (by rw[An6 a];exact⟨Z,Z⟩),Xu a];unfold GH nt;clear hl hw hF c a;generalize q.f.1=k at hk ⊢;generalize q.f.2.2.2.1.length=n;generalize q.f.2.2.2.2.1=low;generalize q.f.2.2.2.2.2.1=high;simp only[ZA,Xf,U2]
      repeat' split
      all_goals first | rfl | (exfalso;omega)
     ·rw[Pb (λh=>a h.1),Pb a]
    ·rw[Pb c,Pb c]
   ·intro i hi;unfold EO;rw[Xu U,Ab ⟨by omega,by omega⟩,SV,OG,Wo]
    by_cases a:(wf (q.f.2.1.getD i Qq7)).1=0
    ·rw[Xu (by rw[An5 a];exact⟨Z,Z⟩),Xu a,Ab U]
    ·rw[Pb (λh=>a h.1),Pb a]
     rfl
   ·unfold EO;rw[Pb U]
 ·rw[Xu U,Pb hk]
theorem Ab1{q:Qv}(hl:q.f.2.2.2.2.2.2.length<=1000000000):LI q=TI (nf q):=by
 have e:q.f.2.1.length<=16->Dg q=TI (if wfs q.f.2.1=0 then(if(pf q.f.2.2.1).1=0 then nt q else(pf q.f.2.2.1).1)else wfs q.f.2.1):=λhw=>by
  unfold Dg P0;rw[Aas (ws:=q.f.2.1) (b:=FV q) (m:=IG q) U ?A ?B]
  ·by_cases d:wfs q.f.2.1=0
   ·rw[Xu d,Xu d];unfold IG;rw[Agk,Wo]
    by_cases c:(pf q.f.2.2.1).1=0
    ·rw[Xu c,Xu c];unfold nt;clear hl hw d c;generalize q.f.1=k;generalize q.f.2.2.2.1.length=n;generalize q.f.2.2.2.2.1=low;generalize q.f.2.2.2.2.2.1=high;simp only[ZA,Xf,U2,Bool.not_eq_true',decide_eq_false_iff_not]
     repeat' split
     all_goals first | rfl | (exfalso;omega)
    ·rw[Pb c,Pb c]
   ·rw[Pb d,Pb d]
  ·intro i hi;unfold FV;rw[Xu U,Ab ⟨by omega,by omega⟩,SV,Abe,Wo]
   by_cases c:(wf (q.f.2.1.getD i Qq7)).1=0
   ·rw[Xu c,Xu c,Ab U]
   ·rw[Pb c,Pb c]
    rfl
  ·unfold FV;rw[Pb U]
 have g:IH q=if PX q=true/\q.f.1<10 then TI 6 else Dg q:=by
  unfold IH P1
  by_cases j:q.f.1<10
  ·have:=AiC (k:=q.f.1) hl (b:=E4 q) (st:=λi=>(i:Int)) (m:=Dg q) (y:=TI 6) (λi hi=>?_) ?_
   ·unfold PX;simp only[j,and_true];exact this
   ·unfold E4;rw[Xu U,Ab ⟨by omega,by omega⟩,SV,Ab U]
    rfl
   ·unfold E4;rw[Pb Rg]
  ·rw[Pb (λh=>j h.2)];refine A2 ?_;unfold E4;rw[Pb U]
 unfold LI nf
 by_cases hk:1<=q.f.1/\q.f.1<=10
 ·rw[Xu hk,Xu hk,Ab ⟨by omega,by omega⟩,Ab ⟨by omega,by omega⟩,g];have hX:Rw q=true->Dg q=_:=λh=>e (T1 h);clear g e hl
  revert hX
  generalize (if wfs q.f.2.1=0 then(if(pf q.f.2.2.1).1=0 then nt q else(pf q.f.2.2.1).1)else wfs q.f.2.1)=r;generalize Dg q=X;have hd:∀l:Qm,l=[]↔l.length=0:=λl=>List.length_eq_zero_iff.symm;unfold Rw
  have hB:PX q=true->0<q.f.2.2.2.2.2.2.length:=λh=>by
   unfold PX at h
   cases hs:q.f.2.2.2.2.2.2 with
   | nil=>rw[hs]at h;cases h
   | cons a l=>simp
  revert hB
  generalize PX q=B;generalize q.f.1=k at hk ⊢;generalize q.f.2.1.length=n;simp only[hd];generalize q.f.2.2.1.length=pn;generalize q.f.2.2.2.2.1=low;generalize q.f.2.2.2.1.length=dn;generalize q.f.2.2.2.2.2.1=high;generalize q.f.2.2.2.2.2.2.length=m;intro hB hX;obtain rfl | rfl | rfl | rfl | rfl | rfl | rfl | rfl | rfl | rfl:k=1\/k=2\/k=3\/k=4\/k=5\/k=6\/k=7\/k=8\/k=9\/k=10:=by omega
  all_goals (cases B <;> simp at hX hB ⊢ <;> (repeat' split) <;> first | rfl | (exfalso;omega) | (intros;exfalso;omega) | (rw[hX] <;> omega))
 ·rw[Pb hk,Pb hk]
def Sq(q:Qv):Prop:=∀d,V4 1048576 d q
def Sq.open{q:Qv}(h:Sq q):q.f.2.1.length<=1048576/\q.f.2.2.1.length<=1048576/\q.f.2.2.2.1.length<=1048576/\q.f.2.2.2.2.2.2.length<=1048576/\(∀x∈q.f.2.1,x.length<=1048576)/\AL q.f.2.2.2.2.1/\AL q.f.2.2.2.2.2.1:=
 ⟨(h 1).1,(h 1).2.1,(h 1).2.2.1,(h 1).2.2.2.1,(h 1).2.2.2.2.1,(h 1).2.2.2.2.2.1,(h 1).2.2.2.2.2.2.1⟩
def Sq.sub{q:Qv}(h:Sq q){p:Qv}(hp:p∈q.f.2.2.2.2.2.2):Sq p:=λd=>(h (d+1)).2.2.2.2.2.2.2 p hp
def Sq.len{q:Qv}(h:Sq q):q.f.2.2.2.2.2.2.length<=1000000000:=by have:=h.open.2.2.2.1;omega
def cks(f:Qv->Int->Int->Int×Zv)(lev:Int):List Qv->Int->Int×Zv
 | [],num=>(num,(0,0))
 | s::l,num=>if(f s num lev).2.1=0 then cks f lev l (f s num lev).1 else(0,(f s num lev).2)
def ck:Nat->Qv->Int->Int->Int×Zv
 | 0,_,_,_=>(0,(0,0))
 | n+1,q,num,lev=>if 40<=num\/8<lev then(0,(2,num))else if nf q=0 then cks (ck n) (lev+1) q.f.2.2.2.2.2.2 (num+1)else(0,(nf q,num))
def Ud(r:Int×Zv):Prop:=0<=r.1/\(r.2.1=0->r.2=(0,0))
theorem Al5{f:Qv->Int->Int->Int×Zv}{lev:Int}:∀(l:List Qv) (num:Int),0<=num->(∀s∈l,∀num,0<=num->Ud (f s num lev))->Ud (cks f lev l num)
 | [],num,h,_=>⟨h,λ_=>Z⟩
 | s::l,num,h,hf=>by
  have a:=hf s (SZ ..) num h;unfold cks
  split
  ·exact Al5 l _ a.1 (λs hs=>hf s (RT _ hs))
  ·exact⟨Int.le_refl _,λe=>absurd e (by assumption)⟩
theorem Aft{l:List Qv}(hl:l.length<=1000000000){f:Qv->Int->Int->Int×Zv}{lev:Int}{b:Int×Int->Option (Zv⊕(Int×Zv))}
  (hp:∀s∈l,∀num,0<=num->Ud (f s num lev))
  (a:∀(i:Nat) (num:Int),0<=num->i<l.length->b (num,(i:Int))=if(f (l.getD i Qq7) num lev).2.1=0 then TI (.inl ((f (l.getD i Qq7) num lev).1,(i:Int)+1))else TI (.inr (0,(f (l.getD i Qq7) num lev).2)))
  (h2:∀num,b (num,(l.length:Int))=TI (.inr (num,(0,0)))) (num:Int) (hn:0<=num):Go.L.run b (num,0)=TI (cks f lev l num):=by
 have key:∀(d i:Nat) (num:Int),0<=num->i+d=l.length->Go.L.run b (num,(i:Int))=TI (cks f lev (l.drop i) num):=by
  intro d
  induction d with
  | zero=>
   intro i num hn hi;rw[UU U,show i=l.length by omega];exact A2 (m:=TI _) (h2 num)
  | succ d ih=>
   intro i num hn hi;have hb:=a i num hn U;have hg:l.getD i Qq7=l[i]:=by rw[Sb,Pa U];rfl
   rw[hg]at hb;rw[RV U,cks]
   by_cases hw:(f l[i] num lev).2.1=0
   ·rw[Xu hw]at hb ⊢;rw[AE hb];exact ih (i+1) _ (hp _ (Rs _) num hn).1 U
   ·rw[Pb hw]at hb ⊢;exact A2 (m:=TI _) hb
 exact key l.length 0 num hn U
def Wr{l:List Qv}{i:Nat}(h:i<l.length):l.getD i Qq7∈l:=by
 rw[Sb,Pa h];exact Rs _
theorem AiD:∀(n:Nat) (q:Qv) (num lev:Int),Sq q->0<=num->1<=lev->lev<=9->10<=lev+n->
  FR n q num lev=TI (ck n q num lev)/\E5 n q num lev=TI (ck n q num lev)/\Ud (ck n q num lev)
 | 0,q,num,lev,_,_,_,a,h2=>by omega
 | n+1,q,num,lev,hq,hn,g,j,k=>by
  show IB (FR n) q num lev=_/\GL (E5 n) q num lev=_/\_
  unfold IB GL ck
  by_cases b:40<=num\/8<lev
  ·rw[Xu b,Xu b,Xu b];exact⟨Z,Z,by show(0:Int)<=0;omega,λe=>by cases e⟩
  ·rw[Pb b,Pb b,Pb b,Ab0 hq.len,Ab1 hq.len,Wo,Wo]
   by_cases a:nf q=0
   ·rw[Xu a,Xu a,Xu a,Ab U,Ab U]
    have ih:∀s∈q.f.2.2.2.2.2.2,∀num,0<=num->FR n s num (lev+1)=TI (ck n s num (lev+1))/\E5 n s num (lev+1)=TI (ck n s num (lev+1))/\Ud (ck n s num (lev+1)):=
     λs hs num hn=>AiD n s num (lev+1) (hq.sub hs) hn U U U
    have hp:∀s∈q.f.2.2.2.2.2.2,∀num,0<=num->Ud (ck n s num (lev+1)):=λs hs num hn=>(ih s hs num hn).2.2;refine⟨?_,?_,Al5 _ _ U hp⟩
    ·refine Aft hq.len hp (λi num hn hi=>?_) (λnum=>?_) _ U
     ·unfold Gc;simp only;obtain⟨c,_,d⟩:=ih _ (Wr hi) num hn;rw[Xu U,Ab ⟨by omega,by omega⟩,SV,Ab U,c,Wo]
      by_cases h2:(ck n (q.f.2.2.2.2.2.2.getD i Qq7) num (lev+1)).2.1=0
      ·rw[Xu (by rw[d.2 h2];exact⟨Z,Z⟩),Xu h2,Ab (by have:=hq.len;constructor <;> omega)]
      ·rw[Pb (λh=>h2 h.1),Pb h2]
       rfl
     ·unfold Gc;simp only;rw[Pb U]
      rfl
    ·refine Aft hq.len hp (λi num hn hi=>?_) (λnum=>?_) _ U
     ·unfold Fe;simp only;obtain⟨_,c,d⟩:=ih _ (Wr hi) num hn;rw[Xu U,Ab ⟨by omega,by omega⟩,SV,Ab U,c,Wo]
      by_cases h2:(ck n (q.f.2.2.2.2.2.2.getD i Qq7) num (lev+1)).2.1=0
      ·rw[Xu h2,Xu h2,Ab (by have:=hq.len;constructor <;> omega)]
      ·rw[Pb h2,Pb h2]
       rfl
     ·unfold Fe;simp only;rw[Pb U]
      rfl
   ·rw[Pb a,Pb a,Pb a];exact⟨Z,Z,by show(0:Int)<=0;omega,λe=>absurd e a⟩
def Vq:Nat->Qv->Prop
 | 0,_=>False
 | n+1,q=>nf q=0/\∀s∈q.f.2.2.2.2.2.2,Vq n s
def nq:Nat->Qv->Nat
 | 0,_=>0
 | n+1,q=>1+(q.f.2.2.2.2.2.2.map (nq n)).sum
theorem AiE{f:Qv->Int->Int->Int×Zv}{lev:Int}{g:Qv->Nat}{V:Qv->Prop}:∀(l:List Qv) (num:Int),(∀s∈l,∀num,(f s num lev).2.1=0->(f s num lev).1=num+g s/\(f s num lev).1<=40/\V s)->num<=40->(cks f lev l num).2.1=0->
  (cks f lev l num).1=num+(l.map g).sum/\(cks f lev l num).1<=40/\∀s∈l,V s
 | [],num,_,h,_=>⟨by simp[cks],h,by simp⟩
 | s::l,num,hf,h,he=>by
  unfold cks at he ⊢;have hs:=hf s (SZ ..) num
  split at he
  ·rename_i a;rw[Xu a];obtain⟨b,c,d⟩:=hs a;obtain⟨e,i,j⟩:=AiE l _ (λs hs=>hf s (RT _ hs)) c he;refine⟨by rw[e,b];simp;omega,i,λx hx=>?_⟩
   rcases R7.1 hx with rfl | hx
   ·exact d
   ·exact j x hx
  ·rename_i a;exact absurd he a
theorem Al6:∀(n:Nat) (q:Qv) (num lev:Int),10<=lev+n->lev<=9->∀m:Nat,lev+m=9->(ck n q num lev).2.1=0->(ck n q num lev).1=num+nq m q/\(ck n q num lev).1<=40/\Vq m q
 | 0,q,num,lev,h,h',_,_=>by omega
 | n+1,q,num,lev,h,h',m,hm=>by
  unfold ck
  by_cases b:40<=num\/8<lev
  ·rw[Xu b];intro e
   cases e
  ·rw[Pb b]
   by_cases a:nf q=0
   ·rw[Xu a];intro he;obtain⟨m,rfl⟩:∃k,m=k+1:=⟨m - 1,by omega⟩;obtain⟨c,d,f⟩:=AiE (g:=nq m) (V:=Vq m) _ (num+1) (λs hs num he=>Al6 n s num (lev+1) U U m U he) U he;exact⟨by rw[c];unfold nq;omega,d,a,f⟩
   ·rw[Pb a];intro e;exact absurd e a
end Go.Proofs.YtgaljodghpgdmaaGreatDoor
end
noncomputable section
namespace Go.L
open Go
def hxd(n:Nat):UInt8:=([48,49,50,51,52,53,54,55,56,57,97,98,99,100,101,102]:Qm).getD n 0
def qub(c:UInt8):Qm:=if(32<=c.toNat/\c.toNat<=126)/\c.toNat≠39/\c.toNat≠92 then[c]else[92,hxd (c.toNat / 16),hxd (c.toNat % 16)]
def quo(l:Qm):Qm:=39::l.flatMap qub++[39]
def Ab2(c:UInt8):1<=(qub c).length/\(qub c).length<=3:=by
 unfold qub
 split <;> simp
theorem Zg:∀l:Qm,(l.flatMap qub).length<=3 * l.length
 | []=>by simp
 | c::l=>by
  have a:=Zg l;have h2:=(Ab2 c).2;rw[Y8,T6,PF];omega
end Go.L
namespace Go.Proofs.YtgaljodghpgdmaaGreatDoor
open Go Go.L
def WN{n:Nat}(h:n<16):Il (n:Int)=TI (hxd n):=by
 have:∀k:Fin 16,Il ((k.val:Nat):Int)=TI (hxd k.val):=by
  intro k;unfold Il
  split
  ·rw[Ab (by have:=k.isLt;constructor <;> omega)]
   revert k
   decide
  ·rw[Ab (by have:=k.isLt;constructor <;> omega),Ab (by have:=k.isLt;constructor <;> omega)]
   revert k
   decide
 exact this ⟨n,h⟩
theorem Aat{l:Qm}(hl:l.length<=1000000000):Nn l=TI (quo l):=by
 unfold Nn Td
 have key:∀(d i:Nat) (o:Qm),o.length<=3 * i+1->i+d=l.length->Go.L.run (Gn l) (o,(i:Int))=TI (o++(l.drop i).flatMap qub++[39]):=by
  intro d
  induction d with
  | zero=>
   intro i o ho hi;rw[UU U];refine A2 (m:=TI _) ?_;unfold Gn OW;simp only;rw[Pb U,Ab (by constructor <;> simp <;> omega)];simp
  | succ d ih=>
   intro i o ho hi;have hg:l.getD i Qq7=l[i]:=by rw[Sb,Pa U];rfl
   have hb:Gn l (o,(i:Int))=TI (.inl (o++qub l[i],((i+1:Nat):Int))):=by
    have a:∀b:Bool,(b=true↔((32<=l[i].toNat/\l[i].toNat<=126)/\l[i].toNat≠39/\l[i].toNat≠92))->Hg l o (i:Int) b=TI (.inl (o++qub l[i],((i+1:Nat):Int))):=λb hb=>by
     have hc:l[i].toNat<256:=Wm _;unfold Hg qub;rw[SV,hg]
     by_cases h:b=true
     ·rw[Xu h,Xu (hb.1 h),Ab ⟨by omega,by omega⟩,Ab (by constructor <;> simp <;> omega),Ab U]
      rfl
     ·rw[Pb h,Pb (λe=>h (hb.2 e)),Ab ⟨by omega,by omega⟩,Ab ⟨by omega,by omega,by omega⟩];rw[show((l[i].toNat:Nat):Int) / 16=((l[i].toNat / 16:Nat):Int) by omega,WN U,Wo,Ab ⟨by omega,by omega⟩,Ab ⟨by omega,by omega,by omega⟩];rw[show((l[i].toNat:Nat):Int) % 16=((l[i].toNat % 16:Nat):Int) by omega,WN U,Wo,Ab (by constructor <;> simp <;> omega),Ab U]
      rfl
    unfold Gn;simp only;rw[Xu U,Ab ⟨by omega,by omega⟩,Ab ⟨by omega,by omega⟩,Ab ⟨by omega,by omega⟩,SV,hg]
    by_cases c:(32:Int)<=(l[i].toNat:Int)/\(l[i].toNat:Int)<=126
    ·rw[Xu c]
     by_cases h2:(l[i].toNat:Int)=39
     ·rw[Xu h2,a false U]
     ·rw[Pb h2,a _ U]
    ·rw[Pb c,a false U]
   have:=(Ab2 l[i]).2;rw[AE hb,ih (i+1) _ (by rw[T6];omega) U,RV (by omega:i<l.length),Y8];simp
 exact key l.length 0 [39] Rg U
theorem Aau{l:Qm}(hl:l.length<=1000000000):Kj l=TI (quo l):=by
 unfold Kj Qy
 have key:∀(d i:Nat) (o:Qm),o.length<=3 * i+1->i+d=l.length->Go.L.run (Fb l) (o,(i:Int))=TI (o++(l.drop i).flatMap qub++[39]):=by
  intro d
  induction d with
  | zero=>
   intro i o ho hi;rw[UU U];refine A2 (m:=TI _) ?_;unfold Fb M6;simp only;rw[Pb U,Ab (by constructor <;> simp <;> omega)];simp
  | succ d ih=>
   intro i o ho hi;have hg:l.getD i Qq7=l[i]:=by rw[Sb,Pa U];rfl
   have hb:Fb l (o,(i:Int))=TI (.inl (o++qub l[i],((i+1:Nat):Int))):=by
    have hc:l[i].toNat<256:=Wm _
    have b:(l[i] >>> (4:UInt8)).toNat=l[i].toNat / 16:=by
     have:∀n:Fin 256,(SJ n.val >>> (4:UInt8)).toNat=n.val / 16:=by decide +kernel
     have h:=this ⟨l[i].toNat,hc⟩
     rwa [UInt8.ofNat_toNat]at h
    have c:(l[i] &&& (15:UInt8)).toNat=l[i].toNat % 16:=by
     have:∀n:Fin 256,(SJ n.val &&& (15:UInt8)).toNat=n.val % 16:=by decide +kernel
     have h:=this ⟨l[i].toNat,hc⟩
     rwa [UInt8.ofNat_toNat]at h
    unfold Fb qub;simp only;rw[Xu U,Ab ⟨by omega,by omega⟩,SV,hg,b,c]
    by_cases a:(32<=l[i].toNat/\l[i].toNat<=126)/\l[i].toNat≠39/\l[i].toNat≠92
    ·rw[Pb U,Xu a,Ab (by constructor <;> simp <;> omega),Ab U]
     rfl
    ·rw[Xu U,Pb a,Ab ⟨by omega,by simp;omega⟩,Ab ⟨by omega,by simp;omega⟩,Ab (by constructor <;> simp <;> omega),Ab U]
     rfl
   have:=(Ab2 l[i]).2;rw[AE hb,ih (i+1) _ (by rw[T6];omega) U,RV (by omega:i<l.length),Y8];simp
 exact key l.length 0 [39] Rg U
end Go.Proofs.YtgaljodghpgdmaaGreatDoor
namespace Go.Proofs.YtgaljodghpgdmaaGreatDoor
open Go Go.L
theorem U6{n:Int}(hn:AL n):JA n=TI (Lib.itoa n):=by
 unfold JA
 by_cases a:n=0
 ·subst a;rw[Xu Z];exact congrArg TI (by rw[Lib.itoa,Pb U,Lib.decDigits,dif_pos Y5];rfl)
 rw[Pb a];unfold RQ
 have fin:∀l:Qm,l.length<=30->Go.L.run (E6 n) (l,0)=TI ((if n<0 then[45]else[])++l):=λl hl=>by
  refine A2 (m:=TI _) ?_;unfold E6 N9;simp only;rw[Xu trivial]
  by_cases hn:n<0
  ·rw[Xu hn,Xu hn,Ab (by constructor <;> simp <;> omega)]
  ·rw[Pb hn,Pb hn]
   rfl
 have key:∀(k:Nat) (s:Int) (l:Qm),s.natAbs<10 ^ k->l.length+k<=30->AL s->(s=0->l≠[])->Go.L.run (E6 n) (l,s)=TI ((if n<0 then[45]else[])++((if s=0 then[]else Lib.decDigits s.natAbs)++l)):=by
  intro k
  induction k with
  | zero=>
   intro s l hs hl hi _;obtain rfl:s=0:=by omega
   rw[fin l U,Xu Z]
   rfl
  | succ k ih=>
   intro s l hs hl hi _
   by_cases hz:s=0
   ·subst hz;rw[fin l U,Xu Z]
    rfl
   ·have hb:E6 n (l,s)=TI (.inl ([SJ (48+s.natAbs % 10)]++l,Int.tdiv s 10)):=by
     have b:∀d:Int,d=((s.natAbs % 10:Nat):Int)->Ii l s d=TI (.inl ([SJ (48+s.natAbs % 10)]++l,Int.tdiv s 10)):=λd hd=>by
      unfold Ii;rw[Ab U,Ab (by constructor <;> simp <;> omega),Ab ⟨hi.1,hi.2,by decide⟩]
      have:u8 (48+d)=SJ (48+s.natAbs % 10):=by
       unfold u8
       congr 1
       omega
      rw[this]
     unfold E6;simp only;rw[Pb hz,Ab ⟨hi.1,hi.2,by decide⟩]
     have hm:Int.tmod s 10=if 0<=s then((s.natAbs % 10:Nat):Int)else -((s.natAbs % 10:Nat):Int):=by
      split
      ·rw[Int.tmod_eq_emod_of_nonneg (by assumption)];omega
      ·rw[show s = -(-s) by omega,Int.neg_tmod,Int.tmod_eq_emod_of_nonneg U];omega
     rw[hm]
     split
     ·split
      ·omega
      ·exact b _ Z
     ·split
      ·rw[Ab U];exact b _ U
      ·exact b _ U
    have hd:(Int.tdiv s 10).natAbs=s.natAbs / 10:=by rw[Int.natAbs_tdiv];rfl
    have hp:10 ^ (k+1)=10 * 10 ^ k:=by rw[Nat.pow_succ,Nat.mul_comm]
    have e:=hi;rw[AE hb,ih _ _ (by rw[hd];omega) U U Rg,Pb hz]
    congr 2
    have hdd:Lib.decDigits s.natAbs=if h:s.natAbs<10 then[SJ (48+s.natAbs)]else Lib.decDigits (s.natAbs / 10)++[SJ (48+s.natAbs % 10)]:=by rw[Lib.decDigits]
    rw[hdd]
    by_cases c:s.natAbs<10
    ·rw[dif_pos c,Xu U,Nat.mod_eq_of_lt c]
     rfl
    ·rw[dif_neg c,Pb U,hd];simp
 rw[key 19 n [] (by have:=hn.1;have:=hn.2;omega) Rg hn (λh=>absurd h a),Pb a,R0];unfold Lib.itoa
 split
 ·rfl
 ·rw[show n.natAbs=n.toNat by omega];rfl
theorem V2{n:Int}(hn:AL n):(Lib.itoa n).length<=30:=by
 have key:∀(k u:Nat),u<10 ^ (k+1)->(Lib.decDigits u).length<=k+1:=by
  intro k
  induction k with
  | zero=>intro u h;rw[Lib.decDigits,dif_pos (by simpa using h)];simp
  | succ k ih=>
   intro u h;rw[Lib.decDigits]
   split
   ·simp
   ·have:10 ^ (k+1+1)=10 * 10 ^ (k+1):=by rw[Nat.pow_succ,Nat.mul_comm]
    have:=ih (u / 10) U;simp;omega
 unfold Lib.itoa;have a:=hn.1;have h2:=hn.2
 split
 ·have:=key 18 n.natAbs U;simp;omega
 ·have:=key 18 n.toNat U;omega
end Go.Proofs.YtgaljodghpgdmaaGreatDoor
end
noncomputable section
namespace Go.L
open Go
def par(f:Qv->Qm)(ks:SB)(s:Qv):Qm:=if s.f.1∈ks then([40]++f s)++[41]else f s
def tb(f:Qv->Qm)(q:Qv):Qm:=
 if q.f.1=1 then q.f.2.1.getD 0 Qq7 else if q.f.1=2 then([34]++Lib.join q.f.2.1 [32])++[34]
 else if q.f.1=3 then(((q.f.2.1.getD 0 Qq7++[126])++Lib.itoa q.f.2.2.2.2.1)++[126])++q.f.2.1.getD 1 Qq7
 else if q.f.1=4 then quo q.f.2.2.2.1 else if q.f.1=5 then[47]++q.f.2.2.1
 else if q.f.1=6 then(((([47]++q.f.2.2.1)++[61])++Lib.itoa q.f.2.2.2.2.1)++[46,46])++Lib.itoa q.f.2.2.2.2.2.1
 else if q.f.1=7 then(([47]++q.f.2.2.1)++[61])++quo q.f.2.2.2.1
 else if q.f.1=8 then Lib.join (q.f.2.2.2.2.2.2.map (par f [9])) [38]else if q.f.1=9 then Lib.join (q.f.2.2.2.2.2.2.map (par f [])) [124]
 else[33]++Lib.join (q.f.2.2.2.2.2.2.map (par f [8,9])) []
def tx:Nat->Qv->Qm
 | 0,_=>[]
 | n+1,q=>tb (tx n) q
def Afu(sep:Qm)(x:Qm)(r:Sa):Lib.joinTail sep (x::r)=sep++x++Lib.joinTail sep r:=by
 simp[Lib.joinTail]
def Aav(x:Qm)(r:Sa):Lib.lens (x::r)=x.length+Lib.lens r:=by simp[Lib.lens]
theorem join_le(l:Sa)(sep:Qm):(Lib.join l sep).length<=sep.length * l.length+Lib.lens l:=by
 cases l with
 | nil=>simp[Lib.join_nil]
 | cons x r=>
  rw[Lib.join_length];have:=Nat.mul_le_mul_left sep.length (Nat.le_succ r.length);simp only[PF,Nat.succ_eq_add_one]at this ⊢;omega
def AkA(f:Qv->Qm)(ks:SB)(s:Qv):(par f ks s).length<=(f s).length+2:=by
 unfold par
 split <;> simp
end Go.L
namespace Go.Proofs.YtgaljodghpgdmaaGreatDoor
open Go Go.L
theorem AiF:∀{ws:Sa},wfs ws=0->∀w∈ws,wf w=(0,0)
 | [],_=>by simp
 | w::l,h=>by
  unfold wfs at h
  split at h
  ·rename_i a;intro x hx
   rcases R7.1 hx with rfl | hx
   ·exact An5 a
   ·exact AiF h x hx
  ·rename_i a;exact absurd h a
def AiG{w:Qm}(h:wf w=(0,0)):w.length<=64:=by
 unfold wf at h
 split at h
 ·cases h
 ·omega
def AiH{w:Qm}(h:pf w=(0,0)):w.length<=64:=by
 unfold pf at h
 split at h
 ·cases h
 ·omega
def R2{q:Qv}(h:nf q=0):(1<=q.f.1/\q.f.1<=10)/\Rw q=true/\(∀w∈q.f.2.1,wf w=(0,0))/\pf q.f.2.2.1=(0,0)/\nt q=0:=by
 unfold nf at h
 split at h
 ·rename_i b
  split at h
  ·rename_i h2
   split at h
   ·rename_i h3
    split at h
    ·rename_i a;exact⟨b,h2,AiF h3,An6 a,h⟩
    ·rename_i a;exact absurd h a
   ·rename_i h3;exact absurd h h3
  ·cases h
 ·cases h
def XG{q:Qv}(h:nt q=0):q.f.2.2.2.1.length<=64:=by
 unfold nt at h
 split at h
 ·cases h
 ·split at h
  ·cases h
  ·split at h
   ·cases h
   ·omega
def Km{q:Qv}(h:Rw q=true):(q.f.1=1->q.f.2.1.length=1)/\(q.f.1=2->2<=q.f.2.1.length)/\(q.f.1=3->q.f.2.1.length=2)/\(q.f.1=10->q.f.2.2.2.2.2.2.length=1)/\(q.f.1=8\/q.f.1=9->2<=q.f.2.2.2.2.2.2.length):=by
 unfold Rw at h;simp only[ZA]at h;obtain⟨⟨⟨⟨⟨a,_⟩,_⟩,_⟩,_⟩,b⟩:=h;refine⟨λe=>?_,λe=>?_,λe=>?_,λe=>?_,λe=>?_⟩
 ·rw[e]at a;simpa using a
 ·rw[e]at a;simp at a;omega
 ·rw[e]at a;simpa using a
 ·rw[e]at b;simpa using b
 ·rw[Xu e]at b;simp at b;exact b.1
theorem Ab3{l:List Qv}{g:Qv->Nat}{f:Qv->Qm}(h:∀s∈l,(f s).length+1<=3000 * g s):Lib.lens (l.map f)+l.length<=3000 * (l.map g).sum:=by
 induction l with
 | nil=>simp[Lib.lens]
 | cons a l ih=>
  have b:=h a (SZ ..);have:=ih λs hs=>h s (RT _ hs);simp only[PF,Yu,Th,Aav];omega
theorem AiI{l:Sa}(h:∀w∈l,w.length<=64):Lib.lens l<=64 * l.length:=by
 induction l with
 | nil=>simp[Lib.lens]
 | cons a l ih=>
  have b:=h a (SZ ..);have:=ih λs hs=>h s (RT _ hs);simp only[PF,Aav];omega
theorem Ws{l:Sa}(h:∀w∈l,w.length<=64)(i:Nat):(l.getD i Qq7).length<=64:=by
 rw[Sb]
 cases e:l[i]? with
 | none=>decide
 | some w=>exact h w (List.mem_of_getElem? e)
theorem AdZ:∀(d:Nat) (q:Qv),Sq q->Vq d q->(tx d q).length+3<=3000 * nq d q
 | 0,_,_,h=>h.elim
 | d+1,q,hq,hv=>by
  obtain⟨hk,hF,hw,hp,ht⟩:=R2 hv.1;have hw':∀w∈q.f.2.1,w.length<=64:=λw h=>AiG (hw w h);have hd:=XG ht;have hp:=AiH hp;have hwn:=T1 hF
  have hs:∀ks,∀s∈q.f.2.2.2.2.2.2,(par (tx d) ks s).length+1<=3000 * nq d s:=λks s hs=>by
   have l:=AdZ d s (hq.sub hs) (hv.2 s hs);have h2:=AkA (tx d) ks s;omega
  have e:=V2 hq.open.2.2.2.2.2.1;have g:=V2 hq.open.2.2.2.2.2.2
  have hqu:(quo q.f.2.2.2.1).length<=3 * q.f.2.2.2.1.length+2:=by
   have:=Zg q.f.2.2.2.1;simp[quo]
   simpa using this
  have i:=Ws hw' 0;have j:=Ws hw' 1;have hwl:=AiI hw';unfold tx tb nq;have b:=join_le (q.f.2.2.2.2.2.2.map (par (tx d) [9])) [38];have c:=join_le (q.f.2.2.2.2.2.2.map (par (tx d) [])) [124];have a:=join_le (q.f.2.2.2.2.2.2.map (par (tx d) [8,9])) [];have m:=Ab3 (hs [9]);have n:=Ab3 (hs []);have k:=Ab3 (hs [8,9]);have j2:=join_le q.f.2.1 [32];simp only[Vx,PF,RZ]at b c a j2
  repeat' split
  all_goals first | omega | (simp only[T6,PF,RZ];omega)
theorem Amw{l:SB}(hl:l.length<=1000)(a:Int):By l a=TI (decide (a∈l)):=by
 have key:∀(d i:Nat),i+d=l.length->∃r,Go.L.run (AO l a) (i:Int)=TI r/\(0<=r↔a∈l.drop i):=by
  intro d
  induction d with
  | zero=>
   intro i hi;refine⟨-1,A2 (m:=TI (-1)) ?_,by rw[UU U];simp⟩;unfold AO DH;rw[Pb U]
  | succ d ih=>
   intro i hi;have hil:i<l.length:=by omega
   rw[drop_cons hil]
   have hb:AO l a (i:Int)=if a=l.getD i Qq7 then TI (.inr (i:Int))else TI (.inl ((i+1:Nat):Int)):=by
    unfold AO;rw[Xu U,Ab U,SV,Ab U]
    rfl
   by_cases h:a=l.getD i Qq7
   ·rw[Xu h]at hb;exact⟨_,A2 (m:=TI (i:Int)) hb,by rw[h];simp⟩
   ·rw[Pb h]at hb;obtain⟨r,b,h2⟩:=ih (i+1) U;refine⟨r,by rw[AE hb,b],h2.trans ?_⟩;rw[R7];exact⟨.inr,λhh=>hh.resolve_left h⟩
 unfold By EG ET;obtain⟨r,b,h2⟩:=key l.length 0 U;rw[show((0:Nat):Int)=0 from Z]at b;rw[b,Wo]
 congr 1
 simpa using h2
theorem AiJ{l:List Qv}(hl:l.length<=2000000){f:Qv->Option Qm}{f2:List Qv->Qm->SB->Option Qm}{g:Qv->Qm}{sep:Qm}{ks:SB}(hk:ks.length<=1000)
  (hf:∀s∈l,f s=TI (g s)) (hg:∀s∈l,(g s).length<=1000000) (hj:(Lib.join (l.map (par g ks)) sep).length<=1000000):IC f f2 l sep ks=TI (Lib.join (l.map (par g ks)) sep):=by
 unfold IC Nk
 have key:∀(d i:Nat) (o:Sa),o.length=i->i+d=l.length->Go.L.run (Dk l sep ks f) (o,(i:Int))=WG (o++(l.drop i).map (par g ks)) sep:=by
  intro d
  induction d with
  | zero=>
   intro i o ho hi;rw[UU U];refine A2 ?_;unfold Dk Jm;simp only;rw[Pb U];simp
  | succ d ih=>
   intro i o ho hi;have hil:i<l.length:=by omega
   have hm:=Wr hil;have hgl:=hg _ hm
   have hb:Dk l sep ks f (o,(i:Int))=TI (.inl (o++[par g ks (l.getD i Qq7)],((i+1:Nat):Int))):=by
    unfold Dk G1 par;simp only;rw[Xu U,Ab ⟨by omega,by omega⟩,SV,hf _ hm,Wo,Amw hk,Wo]
    by_cases h:(l.getD i Qq7).f.1∈ks
    ·rw[Xq h,Xu Z,Xu h,Ab (by simp[-Sb];omega),Ab (by simp[-Sb];omega),Ab (by constructor <;> simp[-Sb] <;> omega),Ab U]
     rfl
    ·rw[UK h,Pb Y5,Pb h,Ab (by constructor <;> simp[-Sb] <;> omega),Ab U]
     rfl
   rw[AE hb,ih (i+1) _ (by simp[ho]) U,drop_cons hil];simp
 have:=key l.length 0 [] Z U;rw[show((0:Nat):Int)=0 from Z]at this;rw[this];unfold WG;rw[Qx,YA,Ab ⟨by rw[Vx];omega,by omega⟩]
theorem Aea{l:List Qv}(hl:l.length<=2000000){f:Qv->Option Qm}{f2:List Qv->Qm->Int->Int->Option Qm}{g:Qv->Qm}{sep:Qm}{ks:SB}{c j:Int}(hk:∀s∈l,(s.f.1=c\/s.f.1=j)↔s.f.1∈ks)
  (hf:∀s∈l,f s=TI (g s)) (hg:∀s∈l,(g s).length<=1000000) (hsep:sep.length<=10) (hj:(Lib.join (l.map (par g ks)) sep).length<=1000000):II f f2 l sep c j=TI (Lib.join (l.map (par g ks)) sep):=by
 unfold II Aab
 have k:∀(i:Nat) (o:Qm),i<l.length->o.length<=10000000->ER l c j (i:Int) f o=TI (.inl (o++par g ks (l.getD i Qq7),((i+1:Nat):Int))):=λi o hil ho=>by
  have hm:=Wr hil;have hgl:=hg _ hm
  have n:∀b:Bool,(b=true↔(l.getD i Qq7).f.1∈ks)->EP l (i:Int) o f b=TI (.inl (o++par g ks (l.getD i Qq7),((i+1:Nat):Int))):=λb hb=>by
   unfold EP par;rw[SV,hf _ hm]
   by_cases h:b=true
   ·rw[Xu h,Xu (hb.1 h),Ab (by simp[-Sb];omega),Ab ⟨by omega,by omega⟩,Wo,Ab (by simp[-Sb];omega),Ab (by simp[-Sb];omega),Ab U];simp
   ·rw[Pb h,Pb (λe=>h (hb.2 e)),Ab ⟨by omega,by omega⟩,Wo,Ab U,Ab U]
    rfl
  unfold ER;rw[Ab ⟨by omega,by omega⟩,Ab ⟨by omega,by omega⟩,SV]
  by_cases h:(l.getD i Qq7).f.1=c
  ·rw[Xu h,n true (by simpa using (hk _ hm).1 (.inl h))]
  ·rw[Pb h,n _ (by rw[Xf,<- hk _ hm];exact⟨.inr,λe=>e.resolve_left h⟩)]
 have key:∀(d i:Nat) (o:Qm),1<=i->i+d=l.length->o.length+(Lib.joinTail sep ((l.drop i).map (par g ks))).length<=1000000->Go.L.run (BV l sep c j f) (o,(i:Int))=TI (o++Lib.joinTail sep ((l.drop i).map (par g ks))):=by
  intro d
  induction d with
  | zero=>
   intro i o ho hi _;rw[UU U];refine A2 (m:=TI _) ?_;unfold BV G4;simp only;rw[Pb U];simp[Lib.joinTail]
  | succ d ih=>
   intro i o ho hi hlen;have hil:i<l.length:=by omega
   rw[drop_cons hil,Yu,Afu]at hlen ⊢;rw[T6,T6]at hlen
   have hb:BV l sep c j f (o,(i:Int))=TI (.inl ((o++sep)++par g ks (l.getD i Qq7),((i+1:Nat):Int))):=by
    unfold BV;simp only;rw[Xu U,Xu U,Ab U,k i _ hil (by simp[-Sb];omega)]
   rw[AE hb,ih (i+1) _ U U (by simp;simp at hlen;omega)];simp
 cases l with
 | nil=>
  refine A2 (m:=TI _) ?_;unfold BV G4;simp only;rw[Pb Rg]
  rfl
 | cons a r=>
  have hb:BV (a::r) sep c j f ([],0)=TI (.inl (par g ks a,1)):=by
   unfold BV;simp only;rw[Xu Rg,Pb U];exact k 0 [] Rg Rg
  rw[Yu,Lib.join_cons]at hj ⊢;rw[T6]at hj;rw[AE hb];exact key r.length 1 _ U (by simp[-Sb];omega) (by simpa using hj)
theorem Aeb{q:Qv}(hw:∀w∈q.f.2.1,w.length<=64)(hl:q.f.2.1.length<=16)(a:1<=q.f.2.1.length):HR q (q.f.2.1.getD 0 Qq7,1)=TI (([34]++Lib.join q.f.2.1 [32])++[34]):=by
 unfold HR
 have key:∀(d i:Nat) (o:Qm),i+d=q.f.2.1.length->o.length<=65 * i->Go.L.run (CH q) (o,(i:Int))=TI (([34]++(o++Lib.joinTail [32] (q.f.2.1.drop i)))++[34]):=by
  intro d
  induction d with
  | zero=>
   intro i o hi ho;rw[UU U];refine A2 (m:=TI _) ?_;unfold CH HQ;simp only;rw[Pb U,Ab (by simp[-Sb];omega),Ab (by simp[-Sb];omega)];simp[Lib.joinTail]
  | succ d ih=>
   intro i o hi ho;have hil:i<q.f.2.1.length:=by omega
   have hwl:=Ws hw i;rw[drop_cons hil,Afu]
   have hb:CH q (o,(i:Int))=TI (.inl ((o++[32])++q.f.2.1.getD i Qq7,((i+1:Nat):Int))):=by
    unfold CH;simp only;rw[Xu U,Ab (by simp[-Sb];omega),Ab ⟨by omega,by omega⟩,SV,Ab (by simp[-Sb];omega),Ab U]
    rfl
   rw[AE hb,ih (i+1) _ U (by simp[-Sb];omega)];simp
 obtain⟨w,r,hwr⟩:=List.exists_cons_of_ne_nil (List.ne_nil_of_length_pos a);have hwl:=Ws hw 0;have:=key (q.f.2.1.length - 1) 1 (q.f.2.1.getD 0 Qq7) U U;rw[show((1:Nat):Int)=1 from Z]at this;rw[this,hwr,Lib.join_cons]
 rfl
def AkB{q:Qv}{f:Qv->Qm}(hq:Sq q)(hn:nf q=0)(ht:(tb f q).length<=1000000){s1:Qv->Option Qm}{b:List Qv->Qm->SB->Option Qm}{r1:Qv->Option Qm}{r2:List Qv->Qm->Int->Int->Option Qm}
  (g:q.f.1=8->b q.f.2.2.2.2.2.2 [38] [9]=TI (tb f q)/\r2 q.f.2.2.2.2.2.2 [38] 9 0=TI (tb f q)) (i:q.f.1=9->b q.f.2.2.2.2.2.2 [124] []=TI (tb f q)/\r2 q.f.2.2.2.2.2.2 [124] 0 0=TI (tb f q))
  (d:q.f.1=10->b q.f.2.2.2.2.2.2 [] [8,9]=TI (Lib.join (q.f.2.2.2.2.2.2.map (par f [8,9])) [])/\r2 q.f.2.2.2.2.2.2 [] 8 9=TI (Lib.join (q.f.2.2.2.2.2.2.map (par f [8,9])) [])) :
  J6 s1 b q=TI (tb f q)/\GM r1 r2 q=TI (tb f q):=by
 obtain⟨hk,hF,hw,hp,hnt⟩:=R2 hn;have hw':∀w∈q.f.2.1,w.length<=64:=λw h=>AiG (hw w h);have hd:=XG hnt;have hp:=AiH hp;have hwn:=T1 hF;obtain⟨f1,f2,f3,_⟩:=Km hF;have a:=hq.open.2.2.2.2.2.1;have c:=hq.open.2.2.2.2.2.2;have l:=V2 a;have m:=V2 c;have n:=Ws hw' 0;have o:=Ws hw' 1;have hwl:=AiI hw';have j2:=join_le q.f.2.1 [32];simp only[PF,RZ]at j2;have j:WM q.f.2.2.2.2.1=TI (Lib.itoa q.f.2.2.2.2.1):=by unfold WM;rw[Ab ⟨a.1,a.2⟩]
 have k:WM q.f.2.2.2.2.2.1=TI (Lib.itoa q.f.2.2.2.2.2.1):=by unfold WM;rw[Ab ⟨c.1,c.2⟩]
 have hqu:(quo q.f.2.2.2.1).length<=3 * q.f.2.2.2.1.length+2:=by
  have:=Zg q.f.2.2.2.1;simp[quo]
  simpa using this
 unfold J6 GM HS;obtain e | e | e | e | e | e | e | e | e | e:q.f.1=1\/q.f.1=2\/q.f.1=3\/q.f.1=4\/q.f.1=5\/q.f.1=6\/q.f.1=7\/q.f.1=8\/q.f.1=9\/q.f.1=10:=by omega
 ·have:=f1 e;simp only[tb,e,if_true];rw[Ab ⟨by omega,by omega⟩];exact⟨Z,Z⟩
 ·have:=f2 e;simp only[tb,e,YV,if_true,if_false]
  constructor
  ·unfold WG;rw[Ab ⟨by omega,by omega⟩,Wo,Ab (by simp[-Sb];omega),Ab (by simp[-Sb];omega)]
  ·rw[Ab ⟨by omega,by omega⟩];exact Aeb hw' hwn U
 ·have:=f3 e;simp only[tb,e,YV,if_true,if_false];rw[j,U6 a];simp only[Wo]
  constructor
  all_goals (rw[Ab ⟨by omega,by omega⟩,Ab (by simp[-Sb];omega),Ab (by simp[-Sb];omega),Ab (by simp[-Sb];omega),Ab ⟨by omega,by omega⟩,Ab (by simp[-Sb];omega)];rfl)
 ·simp only[tb,e,YV,if_true,if_false];rw[Aau U,Aat U];exact⟨Z,Z⟩
 ·simp only[tb,e,YV,if_true,if_false];rw[Ab (by simp[-Sb];omega)];exact⟨Z,Z⟩
 ·simp only[tb,e,YV,if_true,if_false];rw[j,k,U6 a,U6 c];simp only[Wo]
  constructor
  all_goals (rw[Ab (by simp[-Sb];omega),Ab (by simp[-Sb];omega),Ab (by simp[-Sb];omega),Ab (by simp[-Sb];omega),Ab (by simp[-Sb];omega)])
 ·simp only[tb,e,YV,if_true,if_false];rw[Aau U,Aat U];simp only[Wo]
  constructor
  all_goals (rw[Ab (by simp[-Sb];omega),Ab (by simp[-Sb];omega),Ab (by simp[-Sb];omega)])
 ·simp only[e,YV,if_true,if_false];rw[(g e).1,(g e).2];exact⟨Z,Z⟩
 ·simp only[e,YV,if_true,if_false];rw[(i e).1,(i e).2];exact⟨Z,Z⟩
 ·simp only[tb,e,YV,if_true,if_false,T6]at ht ⊢;rw[(d e).1,(d e).2];simp only[Wo];rw[Ab U];exact⟨Z,Z⟩
theorem AkC{l:List Qv}{g:Qv->Nat}{s:Qv}(h:s∈l):g s<=(l.map g).sum:=by
 induction l with
 | nil=>cases h
 | cons a l ih=>
  rw[Yu,Th]
  rcases R7.1 h with rfl | h
  ·omega
  ·have:=ih h;omega
theorem AiK:∀(d:Nat) (q:Qv),Sq q->Vq d q->nq d q<=200->∀n,2 * d<=n->(Cq n).1 q=TI (tx d q)/\(BH n).1 q=TI (tx d q)
 | 0,_,_,h,_,_,_=>h.elim
 | d+1,q,hq,hv,hc,n,hn=>by
  obtain⟨n,rfl⟩:∃m,n=m+2:=⟨n - 2,by omega⟩;have hlen:=AdZ (d+1) q hq hv;have hsl:=hq.open.2.2.2.1
  have hsum:∀s∈q.f.2.2.2.2.2.2,nq d s<=200:=λs hs=>by
   have:nq d s<=(q.f.2.2.2.2.2.2.map (nq d)).sum:=AkC hs;unfold nq at hc;omega
  have ih:∀s∈q.f.2.2.2.2.2.2,(Cq n).1 s=TI (tx d s)/\(BH n).1 s=TI (tx d s):=λs hs=>AiK d s (hq.sub hs) (hv.2 s hs) (hsum s hs) n U
  have hgl:∀s∈q.f.2.2.2.2.2.2,(tx d s).length<=1000000:=λs hs=>by
   have:=AdZ d s (hq.sub hs) (hv.2 s hs);have:=hsum s hs;omega
  have a:∀s∈q.f.2.2.2.2.2.2,1<=s.f.1:=λs hs=>by
   have:=hv.2 s hs
   cases d with
   | zero=>exact this.elim
   | succ d=>exact(R2 this.1).1.1
  have ht:(tb (tx d) q).length<=1000000:=by
   show(tx (d+1) q).length<=_
   omega
  have hT:∀sep ks,ks.length<=1000->(Lib.join (q.f.2.2.2.2.2.2.map (par (tx d) ks)) sep).length<=1000000->(Cq (n+1)).2 q.f.2.2.2.2.2.2 sep ks=TI (Lib.join (q.f.2.2.2.2.2.2.map (par (tx d) ks)) sep):=λsep ks hk hj=>AiJ (f2:=(Cq n).2) U hk (λs hs=>(ih s hs).1) hgl hj
  have hB:∀sep ks b c,(∀s∈q.f.2.2.2.2.2.2,(s.f.1=b\/s.f.1=c)↔s.f.1∈ks)->sep.length<=10->(Lib.join (q.f.2.2.2.2.2.2.map (par (tx d) ks)) sep).length<=1000000->(BH (n+1)).2 q.f.2.2.2.2.2.2 sep b c=TI (Lib.join (q.f.2.2.2.2.2.2.map (par (tx d) ks)) sep):=
   λsep ks b c hk hs hj=>Aea (f2:=(BH n).2) U hk (λs hs=>(ih s hs).2) hgl hs hj
  refine AkB (s1:=(Cq (n+1)).1) (r1:=(BH (n+1)).1) hq hv.1 ht (λe=>?_) (λe=>?_) (λe=>?_)
  ·simp only[tb,e,YV,if_true,if_false]at ht ⊢;exact⟨hT _ _ Rg ht,hB _ [9] _ _ (λs hs=>by have:=a s hs;simp;omega) Rg ht⟩
  ·simp only[tb,e,YV,if_true,if_false]at ht ⊢;exact⟨hT _ _ Rg ht,hB _ [] _ _ (λs hs=>by have:=a s hs;simp;omega) Rg ht⟩
  ·simp only[tb,e,YV,if_true,if_false,T6]at ht;exact⟨hT _ _ Rg U,hB _ [8,9] _ _ (λs hs=>by simp) Rg U⟩
def qfl(q:Qv):Int×Int:=if(ck 1000 q 0 1).2.1=0 then(if 200<(tx 8 q).length then(14,-1)else(0,0))else(ck 1000 q 0 1).2
def Ko{q:Qv}(h:(ck 1000 q 0 1).2.1=0):Vq 8 q/\nq 8 q<=40:=by
 obtain⟨a,h2,h3⟩:=Al6 1000 q 0 1 U U 8 U h;exact⟨h3,by omega⟩
def AiL{q:Qv}(hq:Sq q):HL q=TI (if(qfl q).1=0 then tx 8 q else[],qfl q):=by
 unfold HL Ru qfl;obtain⟨a,_,h3⟩:=AiD 1000 q 0 1 hq U U U U;rw[a,Wo]
 by_cases h:(ck 1000 q 0 1).2.1=0
 ·obtain⟨hv,hc⟩:=Ko h;rw[Xu (by rw[h3.2 h];exact⟨Z,Z⟩),Xu h];unfold Ta;rw[(AiK 8 q hq hv U 1000 U).1,Wo]
  by_cases hl:200<(tx 8 q).length
  ·rw[Xu U,Xu hl]
   rfl
  ·rw[Pb U,Pb hl]
   rfl
 ·rw[Pb (λe=>h e.1),Pb h,Pb h]
def Adb{q:Qv}(hq:Sq q):Gk q=TI (qfl q):=by
 unfold Gk;rw[AiL hq]
 rfl
def Qxc{q:Qv}(hq:Sq q):K0 q=TI (qfl q):=by
 unfold K0 OV qfl;obtain⟨_,a,h3⟩:=AiD 1000 q 0 1 hq U U U U;rw[a,Wo]
 by_cases h:(ck 1000 q 0 1).2.1=0
 ·obtain⟨hv,hc⟩:=Ko h;rw[Xu h,Xu h];unfold OX;rw[(AiK 8 q hq hv U 1000 U).2,Wo]
  by_cases hl:200<(tx 8 q).length
  ·rw[Xu U,Xu hl]
   rfl
  ·rw[Pb U,Pb hl,h3.2 h]
 ·rw[Pb h,Pb h]
def AiM{q:Qv}(h:(qfl q).1=0):Vq 8 q/\nq 8 q<=40/\(tx 8 q).length<=200/\qfl q=(0,0):=by
 unfold qfl at h ⊢
 by_cases a:(ck 1000 q 0 1).2.1=0
 ·rw[Xu a]at h ⊢
  by_cases h2:200<(tx 8 q).length
  ·rw[Xu h2]at h
   cases h
  ·rw[Pb h2];exact⟨(Ko a).1,(Ko a).2,by omega,Z⟩
 ·rw[Pb a]at h;exact absurd h a
end Go.Proofs.YtgaljodghpgdmaaGreatDoor
end
noncomputable section
namespace Go.L
open Go
def FB(f:Qv->Nat->Bool):Nat->Qv->Nat->Bool
 | 0,_,_=>false
 | d+1,q,i=>if q.f.1<8 then f q i else if q.f.1=10 then !FB f d (q.f.2.2.2.2.2.2.getD 0 Qq7) i else if q.f.1=8 then q.f.2.2.2.2.2.2.all λs=>FB f d s i else q.f.2.2.2.2.2.2.any λs=>FB f d s i
def An7(f:Qv->Nat->Bool)(d:Nat)(q:Qv)(i:Nat):FB f (d+1) q i=if q.f.1<8 then f q i else if q.f.1=10 then !FB f d (q.f.2.2.2.2.2.2.getD 0 Qq7) i else if q.f.1=8 then q.f.2.2.2.2.2.2.all λs=>FB f d s i else q.f.2.2.2.2.2.2.any λs=>FB f d s i:=Z
def KQ(n:Nat)(f:Nat->Bool):List Bool:=(VO n).map f
def Ol(n:Nat)(f:Nat->Bool):(KQ n f).length=n:=by simp[KQ]
def XH{n:Nat}{f:Nat->Bool}{i:Nat}(h:i<n):(KQ n f).getD i Qq7=f i:=by
 unfold KQ;rw[Sb,Y9,List.getElem?_range h]
 rfl
def LM{n:Nat}{f g:Nat->Bool}(h:∀i,i<n->f i=g i):KQ n f=KQ n g:=List.map_congr_left λi hi=>h i (PQ.1 hi)
def Ab5{n:Nat}{f:Nat->Bool}{i:Nat}{b:Bool}:(KQ n f).set i b=KQ n λj=>if j=i then b else f j:=by
 unfold KQ;apply List.ext_getElem?;intro j;rw[RN,Y9,Y9,Vx,Z3]
 by_cases hj:j<n
 ·rw[List.getElem?_range hj]
  by_cases h:i=j
  ·subst h;simp[hj]
  ·simp[h,Ne.symm h]
 ·rw[Xt (by simpa using hj)]
  by_cases h:i=j
  ·subst h;simp[hj]
  ·simp[h]
end Go.L
namespace Go.Proofs.YtgaljodghpgdmaaGreatDoor
open Go Go.L
abbrev TX:Type:=(Int×(List (Qm×(List Zv))))×(Int×(List ((Qm×Int×Int×Qm)×SB)))×(List ((SB)×SB×SB))
def Fnd(L:TX)(f:Qv->Nat->Bool):Prop:=∀d q,Sq q->Vq (d+1) q->q.f.1<8->∃items,Ep L q=TI items/\items.length<=100000000/\(∀x∈items,0<=x/\x<(L.2.2.length:Int))/\∀i,i<L.2.2.length->f q i=decide ((i:Int)∈items)
theorem Amx{L:TX}{items:SB}(hn:L.2.2.length<=64)(hl:items.length<=100000000)(hi:∀x∈items,0<=x/\x<(L.2.2.length:Int)):FT L items=TI (KQ L.2.2.length λi=>decide ((i:Int)∈items)):=by
 unfold FT Bc;simp only[Wo];rw[Ab U,SV]
 have a:List.replicate L.2.2.length false=KQ L.2.2.length λi=>decide ((i:Int)∈items.take 0):=by
  unfold KQ;apply List.ext_getElem?;intro j;rw[List.getElem?_replicate,Y9]
  by_cases hj:j<L.2.2.length
  ·rw[Xu hj,List.getElem?_range hj];simp
  ·rw[Pb hj,Xt (by simpa using hj)];rfl
 have key:∀(d k:Nat),k+d=items.length->Iz items (KQ L.2.2.length (λi=>decide ((i:Int)∈items.take k)),(k:Int))=TI (KQ L.2.2.length λi=>decide ((i:Int)∈items)):=by
  intro d
  induction d with
  | zero=>
   intro k hk;refine A2 (m:=TI _) ?_;unfold Ei Iy;simp only;rw[Pb U,Sg U]
  | succ d ih=>
   intro k hk;have hkl:k<items.length:=by omega
   have hg:items.getD ((k:Int)).toNat Qq7=items[k]:=by rw[SV,Sb,Pa hkl];rfl
   have hb:=hi _ (Rs hkl)
   have e:Ei items (KQ L.2.2.length (λi=>decide ((i:Int)∈items.take k)),(k:Int))=TI (.inl (KQ L.2.2.length (λi=>decide ((i:Int)∈items.take (k+1))),((k+1:Nat):Int))):=by
    unfold Ei;simp only;rw[Xu U,Ab U,hg,Ab (by rw[Ol];exact hb),Ab U,Ab5]
    have:(KQ L.2.2.length λj=>if j=items[k].toNat then true else decide ((j:Int)∈items.take k))=KQ L.2.2.length λi=>decide ((i:Int)∈items.take (k+1)):=LM λj hj=>by
     rw[<- SR hkl]
     by_cases h:j=items[k].toNat
     ·rw[Xu h];have:(j:Int)=items[k]:=by omega
      refine(Xq (MY.2 (.inr ?_))).symm;rw[this];exact List.mem_singleton_self _
     ·rw[Pb h];have : ¬(j:Int)=items[k]:=by omega
      rw[decide_eq_decide,MY,TG];exact⟨.inl,λh=>h.resolve_right this⟩
    rw[this]
    rfl
   unfold Iz at ih ⊢;rw[AE e,ih (k+1) U]
 have:=key items.length 0 U;rw[a];exact this
theorem Aaw{L:TX}{f:Qv->Nat->Bool}(hn:L.2.2.length<=64)(hf:Fnd L f):∀(d:Nat) (q:Qv),Sq q->Vq d q->∀m,d<=m->Bg m L q=TI (KQ L.2.2.length (FB f d q))
 | 0,_,_,h,_,_=>h.elim
 | d+1,q,hq,hv,m,hm=>by
  obtain⟨m,rfl⟩:∃k,m=k+1:=⟨m - 1,by omega⟩;obtain⟨hk,hF,_⟩:=R2 hv.1;have ih:∀s∈q.f.2.2.2.2.2.2,Bg m L s=TI (KQ L.2.2.length (FB f d s)):=λs hs=>Aaw hn hf d s (hq.sub hs) (hv.2 s hs) m U
  show Eu (Bg m) L q=_
  unfold Eu Ki;rw[Wo]
  by_cases t:q.f.1<8
  ·obtain⟨items,l,h2,h3,x⟩:=hf d q hq hv t
   have e:KQ L.2.2.length (FB f (d+1) q)=KQ L.2.2.length λi=>decide ((i:Int)∈items):=LM λi hi=>by
    rw[FB,Xu t,x i hi]
   have hs:=Amx hn h2 h3;rw[Xq U,Xu Z]
   show Xd (Ep L q) (λy=>Xd (FT L y) λu=>TI u)=_
   rw[l,Wo,hs,e]
   rfl
  ·rw[UK U,Pb Xr];have hlen:q.f.2.2.2.2.2.2.length<=1048576:=hq.open.2.2.2.1
   have hpos:0<q.f.2.2.2.2.2.2.length:=by
    obtain⟨_,_,_,z,k5⟩:=Km hF
    by_cases c:q.f.1=10
    ·rw[z c];omega
    ·have:=k5 U;omega
   have v:q.f.2.2.2.2.2.2.getD 0 Qq7∈q.f.2.2.2.2.2.2:=Wr hpos;rw[Ab U]
   show Xd (Bg m L (q.f.2.2.2.2.2.2.getD 0 Qq7)) _=_
   rw[ih _ v,Wo]
   by_cases c:q.f.1=10
   ·rw[Xu c];have l:=(Km hF).2.2.2.1 c
    have key:∀(k i:Nat),i+k=L.2.2.length->Fk L q (Bg m) (KQ L.2.2.length (FB f d (q.f.2.2.2.2.2.2.getD 0 Qq7))) (KQ L.2.2.length (λj=>if j<i then !FB f d (q.f.2.2.2.2.2.2.getD 0 Qq7) j else FB f d (q.f.2.2.2.2.2.2.getD 0 Qq7) j),(i:Int))=TI (KQ L.2.2.length (FB f (d+1) q)):=by
     intro k
     induction k with
     | zero=>
      intro i hi;refine A2 (m:=TI _) ?_;unfold C0;simp only;rw[Ol,Pb U];unfold C8;rw[Ab U];unfold D2
      have:Go.L.run (BA L q (Bg m)) (KQ L.2.2.length (λj=>if j<i then !FB f d (q.f.2.2.2.2.2.2.getD 0 Qq7) j else FB f d (q.f.2.2.2.2.2.2.getD 0 Qq7) j),0)=TI (KQ L.2.2.length (FB f (d+1) q)):=by
       refine A2 (m:=TI _) ?_;unfold BA D0;simp only;rw[Pb (by rw[U1];show ¬(0:Int)<((q.f.2.2.2.2.2.2.length - 1:Nat):Int);omega)]
       have e:KQ L.2.2.length (λj=>if j<i then !FB f d (q.f.2.2.2.2.2.2.getD 0 Qq7) j else FB f d (q.f.2.2.2.2.2.2.getD 0 Qq7) j)=KQ L.2.2.length (FB f (d+1) q):=LM λj hj=>by
        rw[Xu U,FB,Pb t,Xu c]
       rw[e]
      rw[this]
     | succ k ihk=>
      intro i hi
      have e:C0 L q (Bg m) (KQ L.2.2.length (FB f d (q.f.2.2.2.2.2.2.getD 0 Qq7))) (KQ L.2.2.length (λj=>if j<i then !FB f d (q.f.2.2.2.2.2.2.getD 0 Qq7) j else FB f d (q.f.2.2.2.2.2.2.getD 0 Qq7) j),(i:Int))=TI (.inl (KQ L.2.2.length (λj=>if j<i+1 then !FB f d (q.f.2.2.2.2.2.2.getD 0 Qq7) j else FB f d (q.f.2.2.2.2.2.2.getD 0 Qq7) j),((i+1:Nat):Int))):=by
       unfold C0;simp only;rw[Ol,Ol,Xu U,Ab U,Ab U,Ab U,SV,XH U,Pb U,Ab5]
       have:(KQ L.2.2.length λj=>if j=i then !FB f d (q.f.2.2.2.2.2.2.getD 0 Qq7) i else if j<i then !FB f d (q.f.2.2.2.2.2.2.getD 0 Qq7) j else FB f d (q.f.2.2.2.2.2.2.getD 0 Qq7) j)=KQ L.2.2.length λj=>if j<i+1 then !FB f d (q.f.2.2.2.2.2.2.getD 0 Qq7) j else FB f d (q.f.2.2.2.2.2.2.getD 0 Qq7) j:=LM λj hj=>by
        by_cases h:j=i
        ·subst h;rw[Xu (show j=j from Z),Xu (show j<j+1 by omega)]
        ·rw[Pb h]
         by_cases h2:j<i
         ·rw[Xu h2,Xu (show j<i+1 by omega)]
         ·rw[Pb h2,Pb (show ¬j<i+1 by omega)]
       rw[this]
       rfl
      unfold Fk at ihk ⊢;rw[AE e,ihk (i+1) U]
    have:=key L.2.2.length 0 U;have o:KQ L.2.2.length (λj=>if j<0 then !FB f d (q.f.2.2.2.2.2.2.getD 0 Qq7) j else FB f d (q.f.2.2.2.2.2.2.getD 0 Qq7) j)=KQ L.2.2.length (FB f d (q.f.2.2.2.2.2.2.getD 0 Qq7)):=LM λj hj=>by rw[Pb U]
    rw[o]at this;exact this
   ·rw[Pb c];unfold C8;rw[Ab U]
    -- what has been joined so far
    have one:∀(s:Qv) (g:Nat->Bool) (k:Int),∀(n i:Nat),i+n=L.2.2.length->Fj q k (KQ L.2.2.length (FB f d s)) (KQ L.2.2.length (λj=>if j<i then(if q.f.1=8 then g j&&FB f d s j else g j||FB f d s j)else g j),(i:Int)) =
      D1 k (KQ L.2.2.length λj=>if q.f.1=8 then g j&&FB f d s j else g j||FB f d s j):=by
     intro s g k n
     induction n with
     | zero=>
      intro i hi;refine A2 ?_;unfold Cz;simp only;rw[Ol,Pb U];have e:KQ L.2.2.length (λj=>if j<i then(if q.f.1=8 then g j&&FB f d s j else g j||FB f d s j)else g j)=KQ L.2.2.length λj=>if q.f.1=8 then g j&&FB f d s j else g j||FB f d s j:=LM λj hj=>by rw[Xu U]
      rw[e]
     | succ n ihn=>
      intro i hi
      have e:Cz q k (KQ L.2.2.length (FB f d s)) (KQ L.2.2.length (λj=>if j<i then(if q.f.1=8 then g j&&FB f d s j else g j||FB f d s j)else g j),(i:Int))=TI (.inl (KQ L.2.2.length (λj=>if j<i+1 then(if q.f.1=8 then g j&&FB f d s j else g j||FB f d s j)else g j),((i+1:Nat):Int))):=by
       have st:∀b:Bool,b=(if q.f.1=8 then g i&&FB f d s i else g i||FB f d s i)->(KQ L.2.2.length (λj=>if j<i then(if q.f.1=8 then g j&&FB f d s j else g j||FB f d s j)else g j)).set i b=KQ L.2.2.length (λj=>if j<i+1 then(if q.f.1=8 then g j&&FB f d s j else g j||FB f d s j)else g j):=λb hb=>by
        rw[Ab5];refine LM λj hj=>?_
        by_cases h:j=i
        ·subst h;rw[Xu (show j=j from Z),Xu (show j<j+1 by omega),hb]
        ·rw[Pb h]
         by_cases h2:j<i
         ·rw[Xu h2,Xu (show j<i+1 by omega)]
         ·rw[Pb h2,Pb (show ¬j<i+1 by omega)]
       unfold Cz;simp only;rw[Ol,Ol,Xu U,Ab U,SV,XH U,XH U,Pb (Nat.lt_irrefl i)]
       by_cases h8':q.f.1=8
       ·rw[Xu h8',Ab U,Ab U,Ab U,st _ (by rw[Xu h8'];cases g i <;> rfl)]
        rfl
       ·rw[Pb h8',Ab U,Ab U,Ab U,st _ (by rw[Pb h8'];cases g i <;> rfl)]
        rfl
      unfold Fj at ihn ⊢;rw[AE e,ihn (i+1) U]
    have all:∀(n k:Nat),k+n=(q.f.2.2.2.2.2.2.drop 1).length->D2 L q (Bg m) (KQ L.2.2.length (λj=>if q.f.1=8 then(q.f.2.2.2.2.2.2.take (k+1)).all λs=>FB f d s j else(q.f.2.2.2.2.2.2.take (k+1)).any λs=>FB f d s j),(k:Int))=TI (KQ L.2.2.length (FB f (d+1) q)):=by
     intro n
     induction n with
     | zero=>
      intro k hk;refine A2 (m:=TI _) ?_;unfold BA D0;simp only;rw[Pb (by show ¬(k:Int)<((q.f.2.2.2.2.2.2.drop 1).length:Int);omega)];rw[U1]at hk
      have e:KQ L.2.2.length (λj=>if q.f.1=8 then(q.f.2.2.2.2.2.2.take (k+1)).all λs=>FB f d s j else(q.f.2.2.2.2.2.2.take (k+1)).any λs=>FB f d s j)=KQ L.2.2.length (FB f (d+1) q):=LM λj hj=>by
       rw[FB,Pb t,Pb c,Sg U]
      rw[e]
     | succ n ihn=>
      intro k hk;have w:k<(q.f.2.2.2.2.2.2.drop 1).length:=by omega
      have p:k+1<q.f.2.2.2.2.2.2.length:=by rw[U1]at w;omega
      have hgs:(q.f.2.2.2.2.2.2.drop (1:Int).toNat).getD ((k:Int)).toNat Qq7=q.f.2.2.2.2.2.2[k+1]:=by
       show(q.f.2.2.2.2.2.2.drop 1).getD ((k:Int)).toNat Qq7=_
       rw[SV,Sb,List.getElem?_drop,Nat.add_comm 1 k,Pa p]
       rfl
      have e:BA L q (Bg m) (KQ L.2.2.length (λj=>if q.f.1=8 then(q.f.2.2.2.2.2.2.take (k+1)).all λs=>FB f d s j else(q.f.2.2.2.2.2.2.take (k+1)).any λs=>FB f d s j),(k:Int))=TI (.inl (KQ L.2.2.length (λj=>if q.f.1=8 then(q.f.2.2.2.2.2.2.take (k+1+1)).all λs=>FB f d s j else(q.f.2.2.2.2.2.2.take (k+1+1)).any λs=>FB f d s j),((k+1:Nat):Int))):=by
       unfold BA;simp only;rw[Xu (by show(k:Int)<((q.f.2.2.2.2.2.2.drop 1).length:Int);omega),Ab (by show 0<=(k:Int)/\(k:Int)<((q.f.2.2.2.2.2.2.drop 1).length:Int);omega),hgs]
       show Xd (Bg m L q.f.2.2.2.2.2.2[k+1]) _=_
       rw[ih _ (Rs p),Wo];have l:=one q.f.2.2.2.2.2.2[k+1] (λj=>if q.f.1=8 then(q.f.2.2.2.2.2.2.take (k+1)).all λs=>FB f d s j else(q.f.2.2.2.2.2.2.take (k+1)).any λs=>FB f d s j) (k:Int) L.2.2.length 0 U;have o:∀(g h:Nat->Bool),KQ L.2.2.length (λj=>if j<0 then h j else g j)=KQ L.2.2.length g:=λg h=>LM λj hj=>by rw[Pb U]
       rw[o]at l;refine Eq.trans l ?_;unfold D1;rw[Ab U]
       have:(KQ L.2.2.length λj=>if q.f.1=8 then(if q.f.1=8 then(q.f.2.2.2.2.2.2.take (k+1)).all λs=>FB f d s j else(q.f.2.2.2.2.2.2.take (k+1)).any λs=>FB f d s j)&&FB f d q.f.2.2.2.2.2.2[k+1] j else(if q.f.1=8 then(q.f.2.2.2.2.2.2.take (k+1)).all λs=>FB f d s j else(q.f.2.2.2.2.2.2.take (k+1)).any λs=>FB f d s j)||FB f d q.f.2.2.2.2.2.2[k+1] j) =
         KQ L.2.2.length (λj=>if q.f.1=8 then(q.f.2.2.2.2.2.2.take (k+1+1)).all λs=>FB f d s j else(q.f.2.2.2.2.2.2.take (k+1+1)).any λs=>FB f d s j):=LM λj hj=>by
        rw[<- SR p]
        by_cases h8':q.f.1=8
        ·rw[Xu h8',Xu h8',Xu h8',List.all_append,List.all_cons,List.all_nil,Bool.and_true]
        ·rw[Pb h8',Pb h8',Pb h8',List.any_append,List.any_cons,List.any_nil,Bool.or_false]
       rw[this]
       rfl
      unfold D2 at ihn ⊢;rw[AE e,ihn (k+1) U]
    have:=all (q.f.2.2.2.2.2.2.drop 1).length 0 U
    have o:KQ L.2.2.length (λj=>if q.f.1=8 then(q.f.2.2.2.2.2.2.take (0+1)).all λs=>FB f d s j else(q.f.2.2.2.2.2.2.take (0+1)).any λs=>FB f d s j)=KQ L.2.2.length (FB f d (q.f.2.2.2.2.2.2.getD 0 Qq7)):=LM λj hj=>by
     have ht:q.f.2.2.2.2.2.2.take (0+1)=[q.f.2.2.2.2.2.2.getD 0 Qq7]:=by
      cases hl:q.f.2.2.2.2.2.2 with
      | nil=>rw[hl]at hpos;simp at hpos
      | cons a r=>rfl
     rw[ht]
     by_cases h8':q.f.1=8
     ·simp[h8']
     ·simp[h8']
    rw[o]at this;exact this
end Go.Proofs.YtgaljodghpgdmaaGreatDoor
end
noncomputable section
namespace Go.L
open Go
def its(n:Nat)(f g:Nat->Bool):SB:=((VO n).filter λi=>f i&&g i).map λi:Nat=>(i:Int)
def Amz(n:Nat)(f g:Nat->Bool):(its n f g).length<=n:=by
 unfold its;have:=Xj (λj=>f j&&g j) (VO n);rw[Z3]at this;rw[Vx];omega
end Go.L
namespace Go.Proofs.YtgaljodghpgdmaaGreatDoor
open Go Go.L
theorem Adc{n:Nat}{f:Nat->Bool}{vis:List Bool}(hn:n<=64)(hv:vis.length=n):∀(k i:Nat),i+k=n->I1 vis (KQ n f) (((VO i).filter λj=>f j&&vis.getD j Qq7).map (λj:Nat=>(j:Int)),(i:Int))=TI (its n f λj=>vis.getD j Qq7,(0,0))
 | 0,i,h=>by
  obtain rfl:i=n:=by omega
  refine A2 (m:=TI _) ?_;unfold Ek I0;simp only;rw[Ol,Pb U]
  rfl
 | k+1,i,h=>by
  have hr:(VO (i+1)).filter (λj=>f j&&vis.getD j Qq7)=(VO i).filter (λj=>f j&&vis.getD j Qq7)++(if f i&&vis.getD i Qq7 then[i]else[]):=by
   rw[Tl,Vw,V1,Xs]
  have hlen:((VO i).filter λj=>f j&&vis.getD j Qq7).length<=64:=by
   have:=Xj (λj=>f j&&vis.getD j Qq7) (VO i);rw[Z3]at this;omega
  have e:Ek vis (KQ n f) (((VO i).filter λj=>f j&&vis.getD j Qq7).map (λj:Nat=>(j:Int)),(i:Int))=TI (.inl (((VO (i+1)).filter λj=>f j&&vis.getD j Qq7).map (λj:Nat=>(j:Int)),((i+1:Nat):Int))):=by
   unfold Ek;simp only;rw[Ol,Xu U,Ab U,SV,XH U,hr]
   by_cases a:f i=true
   ·rw[Xu a,Ab U]
    by_cases h2:vis.getD i Qq7=true
    ·rw[Xu h2,Ab (by unfold Go.E.Dx;simp only[Vx,PF,RZ];omega),Ab U,a,h2];simp
    ·rw[Pb h2,Ab U,a];rw[Bool.not_eq_true]at h2;rw[h2];simp
   ·rw[Pb a,Ab U];rw[Bool.not_eq_true]at a;rw[a];simp
  have ih:=Adc (f:=f) hn hv k (i+1) U;unfold I1 at ih ⊢;rw[AE e,ih]
def Am0(n:Nat)(f:Qv->Nat->Bool)(vis:List Bool)(q:Qv):SB×Zv:=
 if(qfl q).1=0 then(if vis.length=n then(its n (FB f 8 q) λj=>vis.getD j Qq7,(0,0))else([],(9,-2)))else([],qfl q)
def AkD{L:TX}{f:Qv->Nat->Bool}(hn:L.2.2.length<=64)(hf:Fnd L f){q:Qv}(hq:Sq q){vis:List Bool}:DB L q vis=TI (Am0 L.2.2.length f vis q):=by
 unfold DB Am0;rw[Adb hq,Wo]
 by_cases h:(qfl q).1=0
 ·obtain⟨hv,_,_,a⟩:=AiM h;rw[Xu (by rw[a];exact⟨Z,Z⟩),Xu h];unfold Bc C5;simp only[Wo]
  by_cases hl:vis.length=L.2.2.length
  ·rw[Xu U,Xu hl];have hm:G2 L q=TI (KQ L.2.2.length (FB f 8 q)):=Aaw hn hf 8 q hq hv 1000 U
   show Xd (G2 L q) _=_
   rw[hm,Wo];exact Adc hn hl L.2.2.length 0 U
  ·rw[Pb U,Pb hl]
 ·rw[Pb (λe=>h e.1),Pb h]
def AiN{n:Int}{es:HM}(hn:es.length<=1000000000)(hs:SD (es.map TJ))(w:Qm)(hh:(Bp [] w es).length<=1000000000):He (n,es) w=TI (if wf w=(0,0)then Bp [] w es else[],wf w):=by
 unfold He;rw[OG,Wo]
 by_cases h:wf w=(0,0)
 ·rw[Xu h,Xu (by rw[h];exact⟨Z,Z⟩)];simp only;rw[Rh hn w hs,Wo];unfold Fg;rw[Ab (by rw[RZ];constructor <;> omega),Wo,Qx,h]
 ·rw[Pb h,Pb (λx=>h (YI x.1 x.2))]
end Go.Proofs.YtgaljodghpgdmaaGreatDoor
end
noncomputable section
namespace Go.L
open Go Go.Proofs.YtgaljodghpgdmaaGreatDoor
theorem Q5:∀(r:Sa) (a i k:Nat) (w:Qm),(w,((i:Int),(k:Int)))∈Ck a r↔a<=i/\i<a+r.length/\k<(Tu (r.getD (i - a) Qq7)).length/\((Tu (r.getD (i - a) Qq7)).getD k Qq7).1=w
 | [],a,i,k,w=>by
  unfold Ck;simp only[Xn,RZ,false_iff,not_and];intro c h2;omega
 | t::r,a,i,k,w=>by
  unfold Ck;rw[MY,Q5 r (a+1) i k w,PF,PN,Rr]
  constructor
  ·rintro(⟨m,hm,he⟩ | ⟨c,h2,h3⟩)
   ·rw[PQ]at hm;simp only[Prod.mk.injEq]at he;obtain⟨d,f,g⟩:=he;obtain rfl:a=i:=by omega
    obtain rfl:m=k:=by omega
    rw[Nat.sub_self];exact⟨KN _,by omega,hm,d⟩
   ·have e:(t::r).getD (i - a) Qq7=r.getD (i - (a+1)) Qq7:=by
     rw[show i - a=(i - (a+1))+1 by omega]
     rfl
    rw[e];exact⟨by omega,by omega,h3⟩
  ·rintro⟨c,h2,h3,b⟩
   rcases TC a i with h | h
   ·right
    have e:(t::r).getD (i - a) Qq7=r.getD (i - (a+1)) Qq7:=by
     rw[show i - a=(i - (a+1))+1 by omega]
     rfl
    rw[e]at h3 b;exact⟨by omega,by omega,h3,b⟩
   ·obtain rfl:a=i:=by omega
    rw[Nat.sub_self]at h3 b;exact .inl ⟨k,PQ.2 h3,by rw[<- b];rfl⟩
def AkE(P:List (Qm×HW))(l:Sa)(h:HW):Prop:=∀k,k<l.length->(l.getD k Qq7,(h.1,h.2+(k:Int)))∈P
noncomputable instance (P:List (Qm×HW)) (l:Sa) (h:HW):Decidable (AkE P l h):=Classical.propDecidable _
def Ti:Nat->Sa->Option Zv
 | _,[]=>none
 | i,w::r=>if wf w=(0,0)then Ti (i+1) r else TI ((wf w).1,(i:Int))
end Go.L
namespace Go.Proofs.YtgaljodghpgdmaaGreatDoor
open Go Go.L
theorem V3{l:List HW}(hn:l.length<=1000000000)(p:HW):CJ l p=TI (decide (p∈l)):=by
 unfold CJ Ff GD
 have key:∀(r:List HW) (i:Nat),l.drop i=r->∃z,run (Bw l p) (i:Int)=TI z/\(0<=z↔p∈r):=by
  intro r
  induction r with
  | nil=>
   intro i hd;have hlen:=IW hd;refine⟨-1,A2 (m:=TI (-1)) ?_,by simp⟩;unfold Bw Es;rw[Pb U]
  | cons x r ih=>
   intro i hd;obtain⟨hg,hd',hlt⟩:=GX hd
   by_cases h:p.1=x.1/\p.2=x.2
   ·refine⟨(i:Int),A2 (m:=TI (i:Int)) ?_,by simp[YI h.1 h.2]⟩;unfold Bw;rw[Xu U,Ab ⟨by omega,by omega⟩,SV,hg,Xu h]
   ·obtain⟨z,a,h2⟩:=ih (i+1) hd';refine⟨z,?_,?_⟩
    ·rw[<- a];refine AE ?_;unfold Bw;rw[Xu U,Ab ⟨by omega,by omega⟩,SV,hg,Pb h,Ab U]
     rfl
    ·rw[h2,R7];exact⟨.inr,λh'=>h'.resolve_left (λe=>h (by rw[e];exact⟨Z,Z⟩))⟩
 obtain⟨z,a,h2⟩:=key l 0 Z;have e:((p.1,p.2):HW)=p:=Z;rw[e];rw[show run (Bw l p) 0=TI z from a,Wo]
 congr 1
 exact decide_eq_decide.2 h2
theorem Smq{l:SB}(hn:l.length<=1000000000)(p:Int):By l p=TI (decide (p∈l)):=by
 unfold By EG ET
 have key:∀(r:SB) (i:Nat),l.drop i=r->∃z,run (AO l p) (i:Int)=TI z/\(0<=z↔p∈r):=by
  intro r
  induction r with
  | nil=>
   intro i hd;have hlen:=IW hd;refine⟨-1,A2 (m:=TI (-1)) ?_,by simp⟩;unfold AO DH;rw[Pb U]
  | cons x r ih=>
   intro i hd;obtain⟨hg,hd',hlt⟩:=GX hd
   by_cases h:p=x
   ·refine⟨(i:Int),A2 (m:=TI (i:Int)) ?_,by simp[h]⟩;unfold AO;rw[Xu U,Ab ⟨by omega,by omega⟩,SV,hg,Xu h]
   ·obtain⟨z,a,h2⟩:=ih (i+1) hd';refine⟨z,?_,?_⟩
    ·rw[<- a];refine AE ?_;unfold AO;rw[Xu U,Ab ⟨by omega,by omega⟩,SV,hg,Pb h,Ab U]
     rfl
    ·rw[h2,R7];exact⟨.inr,λh'=>h'.resolve_left h⟩
 obtain⟨z,a,h2⟩:=key l 0 Z;rw[show run (AO l p) 0=TI z from a,Wo]
 congr 1
 exact decide_eq_decide.2 h2
structure XOk (es:HM):Prop where
 len:es.length<=1000000
 inc:SD (es.map TJ)
 Aec:∀w,(Bp [] w es).length<=1000000/\∀h∈Bp [] w es,-1000000<=h.2/\h.2<=1000000
def XOk.An8{items:Sa}(hn:items.length<=64)(ht:∀t∈items,t.length<=2048):XOk (E items):=by
 have hp:=Tz hn ht;have he:=Nf items;refine⟨by omega,Ant items,λw=>?_⟩;rw[YR];have a:=OJ (Ck 0 items) w;refine⟨by omega,λh hh=>?_⟩;have h2:=C3 0 items 2048 ht _ (FL.1 hh);simp only at h2;omega
def Zh(es:HM)(l:Sa)(h:HW)(k:Nat):Prop:=∀m,k<=m->m<l.length->(h.1,h.2+(m:Int))∈Bp [] (l.getD m Qq7) es
noncomputable instance (es:HM) (l:Sa) (h:HW) (k:Nat):Decidable (Zh es l h k):=Classical.propDecidable _
theorem Afv{n:Int}{es:HM}(hx:XOk es){l:Sa}(hl:l.length<=16)(out H0:List HW)(hH:H0.length<=1000000){j:Nat}{h:HW}(hj:j<H0.length)(hg:H0.getD j Qq7=h)(hb : -1000000<=h.2/\h.2<=1000000):
  ∀(r:Sa) (k:Nat),l.drop k=r->run (C4 (n,es) l out (j:Int) H0) (k:Int)=if Zh es l h k then Gb out (j:Int) H0 else Dj (j:Int) out
 | [],k,hd=>by
  have hlen:=IW hd;rw[Xu (show Zh es l h k from λm a h2=>by omega)];refine A2 ?_;unfold C4;rw[Pb U]
 | w::r,k,hd=>by
  obtain⟨hgk,hd',hlt⟩:=GX hd;have hw:=hx.Aec w
  by_cases hm:(h.1,h.2+(k:Int))∈Bp [] w es
  ·have hb':C4 (n,es) l out (j:Int) H0 (k:Int)=TI (.inl ((k+1:Nat):Int)):=by
    unfold C4;simp only;rw[Xu U,Ab ⟨by omega,by omega⟩,SV,SV,hg,hgk,Ab U,Rh (by have:=hx.len;omega) w hx.inc,Wo,V3 U,Wo,Xq hm,Pb Y5,Ab U]
    rfl
   rw[AE hb',Afv hx hl out H0 hH hj hg hb r (k+1) hd']
   have e:Zh es l h (k+1)↔Zh es l h k:=by
    constructor
    ·intro hh m a h2
     rcases TC k m with h3 | h3
     ·exact hh m h3 h2
     ·obtain rfl:k=m:=by omega
      rw[hgk];exact hm
    ·intro hh m a h2;exact hh m U h2
   by_cases hf:Zh es l h k
   ·rw[Xu hf,Xu (e.2 hf)]
   ·rw[Pb hf,Pb (λx=>hf (e.1 x))]
  ·rw[Pb (λhh=>hm (by have:=hh k (KN _) hlt;rw[hgk]at this;exact this))];refine A2 ?_;unfold C4;simp only;rw[Xu U,Ab ⟨by omega,by omega⟩,SV,SV,hg,hgk,Ab U,Rh (by have:=hx.len;omega) w hx.inc,Wo,V3 U,Wo,UK hm,Xu Y5]
def Kn(es:HM)(l:Sa)(h:HW):Prop:=∀m,m<l.length->(h.1,h.2+(m:Int))∈Bp [] (l.getD m Qq7) es
noncomputable instance (es:HM) (l:Sa) (h:HW):Decidable (Kn es l h):=Classical.propDecidable _
theorem Afw{n:Int}{es:HM}(hx:XOk es){l:Sa}(hl:l.length<=16)(H0:List HW)(hH:H0.length<=1000000):∀(r:List HW) (j:Nat) (out:List HW),H0.drop j=r->out.length<=j->(∀h∈r,-1000000<=h.2/\h.2<=1000000)->
  run (CW (n,es) l H0) (out,(j:Int))=TI (out++r.filter (λh=>decide (Kn es l h)),(0,0))
 | [],j,out,hd,ho,_=>by
  have hlen:=IW hd;refine A2 ?_;unfold CW Iv;simp only;rw[Pb U,Xs,R0]
 | h::r,j,out,hd,ho,hr=>by
  obtain⟨hg,hd',hlt⟩:=GX hd;have hb:=hr h (SZ ..);have a:=Afv (n:=n) hx hl out H0 hH hlt hg hb l 0 Z
  have hbody:CW (n,es) l H0 (out,(j:Int))=TI (.inl (out++(if Kn es l h then[h]else[]),((j+1:Nat):Int))):=by
   unfold CW Md;simp only;rw[Xu U,Ab ⟨by omega,by omega⟩];refine a.trans ?_
   by_cases hf:Kn es l h
   ·rw[Xu hf,Xu (show Zh es l h 0 from λm _ h2=>hf m h2)];unfold Gb Dj;rw[SV,hg,Ab (by rw[T9];constructor <;> omega),Ab U]
    rfl
   ·rw[Pb hf,Pb (λhh=>hf (λm h2=>hh m (Tg _) h2)),R0];unfold Dj;rw[Ab U]
    rfl
  rw[AE hbody,Afw hx hl H0 hH r (j+1) _ hd' (by rw[T6];split <;> simp <;> omega) (λx hx'=>hr x (RT _ hx')),YW]
  congr 3
  by_cases hf:Kn es l h
  ·rw[Xu hf,List.filter_cons_of_pos (p:=λh=>decide (Kn es l h)) (Xq hf)];rfl
  ·rw[Pb hf,List.filter_cons_of_neg (p:=λh=>decide (Kn es l h)) (by simpa using hf)];rfl
theorem Agw{n:Int}{es:HM}(hx:XOk es)(l:Sa):
  E3 (n,es) l=some (if l=[]then([],(10,-1))else if 16<l.length then([],(2,-1))else match Ti 0 l with | some f=>([],f) | none=>((Bp [] (l.getD 0 Qq7) es).filter (λh=>decide (Kn es l h)),(0,0))):=by
 unfold E3
 by_cases b:l=[]
 ·subst b;rfl
 have d:=List.length_pos_iff.2 b;rw[Pb U,Pb b]
 by_cases a:16<l.length
 ·rw[Xu U,Xu a];rfl
 rw[Pb U,Pb a];unfold Mf
 have key:∀(r:Sa) (i:Nat),l.drop i=r->run (CX (n,es) l) (i:Int)=some (match Ti i r with | some f=>([],f) | none=>((Bp [] (l.getD 0 Qq7) es).filter (λh=>decide (Kn es l h)),(0,0))):=by
  intro r
  induction r with
  | nil=>
   intro i hd;have hlen:=IW hd;refine A2 ?_;unfold CX Iw Me;have hw:=hx.Aec (l.getD 0 Qq7);have c:(0:Int).toNat=0:=Z;rw[Pb U,Ab ⟨by omega,by omega⟩,c,Rh (by have:=hx.len;omega) _ hx.inc,Wo];have:=Afw (n:=n) hx (l:=l) U (Bp [] (l.getD 0 Qq7) es) hw.1 _ 0 [] Z (KN _) hw.2;rw[Qx]at this
   congr 1
  | cons w r ih=>
   intro i hd;obtain⟨hg,hd',hlt⟩:=GX hd;unfold Ti
   by_cases h:wf w=(0,0)
   ·rw[Xu h,<- ih (i+1) hd'];refine AE ?_;unfold CX;rw[Xu U,Ab ⟨by omega,by omega⟩,SV,hg,OG,Wo,Xu (by rw[h];exact⟨Z,Z⟩),Ab U]
    rfl
   ·rw[Pb h];refine A2 ?_;unfold CX;rw[Xu U,Ab ⟨by omega,by omega⟩,SV,hg,OG,Wo,Pb (λx=>h (YI x.1 x.2))]
    rfl
 exact key l 0 Z
end Go.Proofs.YtgaljodghpgdmaaGreatDoor
end
noncomputable section
namespace Go.L
open Go Go.Proofs.YtgaljodghpgdmaaGreatDoor
def Q6(ws:List W)(l:Sa)(k:Nat):Bool:=decide (∀n,n<l.length->(ws.getD (k+n) Qq7).1=l.getD n Qq7)
def PS(i:Nat)(ws:List W)(l:Sa):List HW:=((VO (ws.length+1 - l.length)).filter (Q6 ws l)).map λk=>((i:Int),((k:Nat):Int))
def Om:Nat->Sa->Sa->List HW
 | _,[],_=>[]
 | i,t::r,l=>PS i (Tu t) l++Om (i+1) r l
end Go.L
namespace Go.Proofs.YtgaljodghpgdmaaGreatDoor
open Go Go.L
def An9{ws:List W}{l:Sa}{k:Nat}(hk:k+l.length<=ws.length)(hw:ws.length<=1000000000)(out:List HW)(i:Nat):QY l out (i:Int) (k:Int) ws (true,0)=Ln out (i:Int) (k:Int) (Q6 ws l k):=by
 unfold QY
 exact BM (b:=Kb l out (i:Int) (k:Int) ws) (m:=Ln out (i:Int) (k:Int) (Q6 ws l k)) (λn=>(decide (∀m,m<n->(ws.getD (k+m) Qq7).1=l.getD m Qq7),((n:Nat):Int))) l.length (λn hn=>by
  have es:(∀m,m<n+1->(ws.getD (k+m) Qq7).1=l.getD m Qq7)↔(∀m,m<n->(ws.getD (k+m) Qq7).1=l.getD m Qq7)/\(ws.getD (k+n) Qq7).1=l.getD n Qq7:=by
   constructor
   ·intro h;exact⟨λm hm=>h m U,h n U⟩
   ·rintro⟨a,h2⟩ m hm
    rcases TC m n with h | h
    ·exact a m h
    ·obtain rfl:m=n:=by omega
     exact h2
  unfold Kb;simp only;have c:(k:Int)+(n:Int)=((k+n:Nat):Int):=by omega
  have d:(n:Int)+1=((n+1:Nat):Int):=by omega
  rw[Xu U,c,d,Ab U,Ab ⟨by omega,by omega⟩,Ab ⟨by omega,by omega⟩,Ab U,SV,SV]
  by_cases h:∀m,m<n->(ws.getD (k+m) Qq7).1=l.getD m Qq7
  ·have e:decide ((ws.getD (k+n) Qq7).1=l.getD n Qq7)=decide (∀m,m<n+1->(ws.getD (k+m) Qq7).1=l.getD m Qq7):=decide_eq_decide.2 ⟨λh2=>es.2 ⟨h,h2⟩,λh2=>(es.1 h2).2⟩;rw[Xq h,Xu Z,e]
  ·rw[UK h,Pb Y5,UK (λh2=>h (es.1 h2).1),Ab U]) (by
  unfold Kb;simp only;rw[Pb U]
  rfl) 0 (hi:=(by omega))
def AnA{ws:List W}{l:Sa}(hw:ws.length<=1000000000)(hl:l.length<=1000000000)(L:List HW)(hL:L.length<=1000000000)(i:Nat)(hi:i<=1000000000):Ra l (i:Int) ws (L,0)=TI (.inl (L++PS i ws l,((i+1:Nat):Int))):=by
 unfold Ra
 have key:=BM (b:=Kc l (i:Int) ws) (m:=TI (.inl (L++PS i ws l,((i+1:Nat):Int)))) (λk=>(L++((VO k).filter (Q6 ws l)).map λk=>((i:Int),((k:Nat):Int)),((k:Nat):Int))) (ws.length+1 - l.length) (λk hk=>by
  unfold Kc;simp only;rw[Ab U,Xu U,An9 U hw]
  have hlen:(L++((VO k).filter (Q6 ws l)).map λk=>((i:Int),((k:Nat):Int))).length<=2000000000:=by
   rw[T6,Vx];have:=Xj (Q6 ws l) (VO k);rw[Z3]at this;omega
  have a:(k:Int)+1=((k+1:Nat):Int):=by omega
  unfold Ln Oc;rw[a,Tl,Vw,K4]
  by_cases h:Q6 ws l k=true
  ·rw[Xu h,Ab (by rw[T9];constructor <;> omega),Ab U,List.filter_cons_of_pos h,YW]
   rfl
  ·rw[Pb h,Ab U,List.filter_cons_of_neg h];simp) (by
  unfold Kc QZ;simp only;rw[Ab U,Pb U,Ab U]
  rfl) 0 (hi:=(by omega))
 rw[List.range_zero]at key;simp only[Xs,List.map_nil,R0]at key;exact key
def Aed(i:Nat)(ws:List W)(l:Sa):(PS i ws l).length<=ws.length+1:=by
 unfold PS;rw[Vx];have:=Xj (Q6 ws l) (VO (ws.length+1 - l.length));rw[Z3]at this;omega
theorem Al8{items l:Sa}(hn:items.length<=64)(hl:l.length<=1000000000):∀(r:Sa) (i:Nat) (L:List HW),items.drop i=r->i<=items.length->(∀t∈r,t.length<=2048)->L.length<=i * 3000->
  run (Io items l) (L,(i:Int))=TI (L++Om i r l)
 | [],i,L,hd,hi,_,_=>by
  have hlen:=IW hd;refine A2 ?_;unfold Io Rb Om;simp only;rw[Pb U,R0]
 | t::r,i,L,hd,hi,ht,hL=>by
  obtain⟨hg,hd',hlt⟩:=GX hd;have a:=ht t (SZ ..);have hw:=XC t
  have hb:Io items l (L,(i:Int))=TI (.inl (L++PS i (Tu t) l,((i+1:Nat):Int))):=by
   unfold Io;simp only;rw[Xu U,Ab ⟨by omega,by omega⟩,SV,hg,Aaf U,Wo];exact AnA U hl L U i U
  rw[AE hb,Al8 hn hl r (i+1) _ hd' U (λx hx=>ht x (RT _ hx)) (by rw[T6];have:=Aed i (Tu t) l;omega)];rw[YW]
  rfl
def Zi{items l:Sa}(hn:items.length<=64)(hl:l.length<=1000000000)(ht:∀t∈items,t.length<=2048):Oq items l=TI (Om 0 items l):=by
 have:=Al8 hn hl items 0 [] Z (Tg _) ht Rg;rw[Qx]at this;exact this
def Ab6(i:Int)(l:List W):(Et i l).map TJ=l.map TJ:=by
 unfold Et;rw[Xc];have:(TJ∘λx:W×Nat=>(x.1.1,(i,((x.2:Nat):Int))))=TJ∘TJ:=by funext x;rfl
 rw[this,<- Xc]
 congr 1
 exact List.zipIdx_map_fst ..
end Go.Proofs.YtgaljodghpgdmaaGreatDoor
namespace Go.L
open Go Go.Proofs.YtgaljodghpgdmaaGreatDoor
def Aee(P Q:List (Qm×HW))(w:Qm):F0 (P++Q) w=F0 P w++F0 Q w:=by
 unfold F0;rw[Vw,K4]
def Aef(i:Nat)(ws:List W)(w:Qm):PS i ws [w]=F0 (Et (i:Int) ws) w:=by
 unfold PS F0;rw[PN,List.filter_map,Xc,T9,UW]
 have e:∀k,Q6 ws [w] k=((λp:Qm×HW=>decide (p.1=w))∘λk=>((ws.getD k Qq7).1,((i:Int),((k:Nat):Int)))) k:=λk=>by
  unfold Q6;apply decide_eq_decide.2
  constructor
  ·intro h;have:=h 0 Rg
   simpa using this
  ·intro h n hn;obtain rfl:n=0:=by simp at hn;exact hn
   simpa using h
 rw[show Q6 ws [w]=_ from funext e]
 rfl
theorem WO(w:Qm):∀(r:Sa) (i:Nat),Om i r [w]=F0 (Ck i r) w
 | [],_=>rfl
 | t::r,i=>by
  unfold Om Ck;rw[Aee,Aef,WO w r (i+1)]
def OY(items:Sa)(a b:Qm)(d x:Int):Prop:=∃k k':Int,(a,(x,k))∈Ck 0 items/\(b,(x,k'))∈Ck 0 items/\k≠k'/\-d<=k - k'/\k - k'<=d
def OY.symm{items:Sa}{a b:Qm}{d x:Int}:OY items a b d x↔OY items b a d x:=by
 constructor <;> (rintro⟨k,k',c,h2,h3,f,g⟩;exact⟨k',k,h2,c,λe=>h3 e.symm,by omega,by omega⟩)
def OY.more{items:Sa}{a b:Qm}{d e x:Int}(h:d<=e):OY items a b d x->OY items a b e x:=by
 rintro⟨k,k',c,h2,h3,f,g⟩;exact⟨k,k',c,h2,h3,by omega,by omega⟩
abbrev Z2(l:SB):Prop:=l.Pairwise (· < ·)
def Cl(k h:HW)(d:Int):Prop:=h.1=k.1/\h.2≠k.2/\-d<=h.2 - k.2/\h.2 - k.2<=d
theorem Aev:∀(i:Nat) (r:Sa),(Ck i r).Pairwise λp q=>p.2.1<=q.2.1
 | _,[]=>List.Pairwise.nil
 | i,t::r=>by
  unfold Ck;refine SE.2 ⟨?_,Aev (i+1) r,λp hp q hq=>?_⟩
  ·rw[List.pairwise_iff_forall_sublist];intro p q hs;have a:=Pr (hs.subset (SZ ..));have h2:=Pr (hs.subset (RT _ (SZ ..)));omega
  ·have a:=Pr hp;have h2:=(C3 (i+1) r (total r) (λt ht=>Ou ht) q hq).1;omega
def Qxj(items:Sa)(w:Qm):(F0 (Ck 0 items) w).Pairwise λh k=>h.1<=k.1:=by
 unfold F0;rw[PO];exact(Aev 0 items).filter _
end Go.L
namespace Go.Proofs.YtgaljodghpgdmaaGreatDoor
open Go Go.L
def AiO{k h:HW}{d:Int}(hd:1<=d)(hk : -1000000<=k.2/\k.2<=1000000)(hh : -1000000<=h.2/\h.2<=1000000):∃b,FQ k h d=TI (b,(h.1,h.2),d)/\(b=true↔Cl k h d):=by
 unfold FQ;rw[Ab U,Ab U];unfold Cl
 by_cases a:(h.1=k.1)/\((0:Int)<(max (h.2 - k.2) (k.2 - h.2)))
 ·rw[Xu a];refine⟨_,Z,?_⟩;rw[Xf]
  constructor
  ·intro h2;exact⟨a.1,by omega,by omega,by omega⟩
  ·rintro⟨_,_,h2,h3⟩;omega
 ·rw[Pb a];refine⟨_,Z,?_⟩;simp only[SQ,false_iff];rintro⟨h2,h3,_⟩;exact a ⟨h2,by omega⟩
theorem QzA{B:List HW}(hB:B.length<=1000000)(hb:∀k∈B,-1000000<=k.2/\k.2<=1000000){h:HW}(hh : -1000000<=h.2/\h.2<=1000000){d:Int}(hd:1<=d):
  ∃b,BQ B h d=TI (b,(h.1,h.2),d)/\(b=true↔∃k∈B,Cl k h d):=by
 unfold BQ Eh AhL
 have key:∀(r:List HW) (i:Nat),B.drop i=r->∃z,run (Bn B) (h.1,h.2,d,(i:Int))=TI (z,(h.1,h.2),d)/\(0<=z↔∃k∈r,Cl k h d):=by
  intro r
  induction r with
  | nil=>
   intro i hdr;have hlen:=IW hdr;refine⟨-1,A2 (m:=TI (-1,(h.1,h.2),d)) ?_,by simp⟩;unfold Bn Dw;simp only;rw[Pb U]
  | cons x r ih=>
   intro i hdr;obtain⟨hg,hd',hlt⟩:=GX hdr;have hx:x∈B:=List.mem_of_mem_drop (by rw[hdr];exact SZ ..);obtain⟨b,a,h2⟩:=AiO (k:=x) hd (hb x hx) hh;have h1':FQ (x.1,x.2) (h.1,h.2) d=TI (b,(h.1,h.2),d):=a
   cases b with
   | true=>
    refine⟨(i:Int),A2 (m:=TI ((i:Int),(h.1,h.2),d)) ?_,?_⟩
    ·unfold Bn;simp only;rw[Xu U,Ab ⟨by omega,by omega⟩,SV,hg,h1',Wo,Xu Z]
    ·exact⟨λ_=>⟨x,SZ ..,h2.1 Z⟩,λ_=>by omega⟩
   | false=>
    obtain⟨z,h3,c⟩:=ih (i+1) hd';refine⟨z,?_,?_⟩
    ·rw[<- h3];refine AE ?_;unfold Bn;simp only;rw[Xu U,Ab ⟨by omega,by omega⟩,SV,hg,h1',Wo,Pb Xr,Ab U]
     rfl
    ·rw[c]
     constructor
     ·rintro⟨k,hk,hc⟩;exact⟨k,RT _ hk,hc⟩
     ·rintro⟨k,hk,hc⟩
      rcases R7.1 hk with rfl | hk
      ·have:=h2.2 hc;cases this
      ·exact⟨k,hk,hc⟩
 obtain⟨z,a,h2⟩:=key B 0 Z;rw[show run (Bn B) ((h.1,h.2).1,(h.1,h.2).2,d,0)=_ from a,Wo];exact⟨_,Z,by rw[Xf];exact h2⟩
theorem Wt{n:Int}{es:HM}(hx:XOk es)(b:Qm){d:Int}(hd:1<=d){H:List HW}(hH:H.length<=1000000):∀(r:List HW) (j:Nat) (out:SB),H.drop j=r->j<=H.length->out.length<=j->Z2 out->(∀y∈out,∀h∈r,y<=h.1)->r.Pairwise (λh k=>h.1<=k.1)->(∀h∈r,-1000000<=h.2/\h.2<=1000000)->
  ∃L,run (DO (n,es) b H) (out,d,(j:Int))=TI (L,(0,0))/\Z2 L/\L.length<=H.length/\∀x,x∈L↔x∈out\/∃h∈r,h.1=x/\∃k∈Bp [] b es,Cl k h d
 | [],j,out,hdr,hjl,ho,hi,_,_,_=>by
  have hlen:=IW hdr;refine⟨out,A2 (m:=TI (out,(0,0))) ?_,hi,by omega,by simp⟩
  ·unfold DO JJ;simp only;rw[Pb U]
 | h::r,j,out,hdr,hjl,ho,hi,hy,hs,hr=>by
  obtain⟨hg,hd',hlt⟩:=GX hdr;have hb:=hr h (SZ ..);have hw:=hx.Aec b;obtain⟨c,s,h2⟩:=QzA hw.1 hw.2 hb hd;have h1':BQ (Bp [] b es) (h.1,h.2) d=TI (c,(h.1,h.2),d):=s;have g:=QU.1 hs;have i:(j:Int)+1=((j+1:Nat):Int):=by omega
  -- the list behind this round
  by_cases hadd:c=true/\h.1∉out
  ·have hi':Z2 (out++[h.1]):=SE.2 ⟨hi,OO _ _,λy f z hz=>by
    rw[TG.1 hz];have h3:=hy y f h (SZ ..);have t:y≠h.1:=λe=>hadd.2 (e ▸ f);omega⟩
   obtain⟨L,l,o,p,q⟩:=Wt hx b hd hH r (j+1) (out++[h.1]) hd' hlt U hi' (λy f k hk=>by
    rcases MY.1 f with f | f
    ·exact hy y f k (RT _ hk)
    ·rw[TG.1 f];exact g.1 k hk) g.2 (λk hk=>hr k (RT _ hk))
   refine⟨L,?_,o,p,λx=>?_⟩
   ·rw[<- l];refine AE ?_;unfold DO;simp only;rw[Xu U,Ab ⟨by omega,by omega⟩,SV,hg,Rh (by have:=hx.len;omega) b hx.inc,Wo,h1',Wo,Xu hadd.1,Smq U,Wo,UK hadd.2,Xu Y5,Ab (by rw[T9];constructor <;> omega),Ab U,i]
   ·rw[q,MY,TG]
    constructor
    ·rintro((a | a) | ⟨k,hk,a⟩)
     ·exact .inl a
     ·exact .inr ⟨h,SZ ..,a.symm,h2.1 hadd.1⟩
     ·exact .inr ⟨k,RT _ hk,a⟩
    ·rintro(a | ⟨k,hk,a⟩)
     ·exact .inl (.inl a)
     ·rcases R7.1 hk with rfl | hk
      ·exact .inl (.inr a.1.symm)
      ·exact .inr ⟨k,hk,a⟩
  ·obtain⟨L,l,o,p,q⟩:=Wt hx b hd hH r (j+1) out hd' hlt U hi (λy f k hk=>hy y f k (RT _ hk)) g.2 (λk hk=>hr k (RT _ hk));refine⟨L,?_,o,p,λx=>?_⟩
   ·rw[<- l];refine AE ?_;unfold DO;simp only;rw[Xu U,Ab ⟨by omega,by omega⟩,SV,hg,Rh (by have:=hx.len;omega) b hx.inc,Wo,h1',Wo]
    cases c with
    | false=>rw[Pb Xr,Ab U,i]
    | true=>
     have hin:h.1∈out:=Decidable.byContradiction λhn=>hadd ⟨Z,hn⟩;rw[Xu Z,Smq U,Wo,Xq hin,Pb Y5,Ab U,i]
   ·rw[q]
    constructor
    ·rintro(a | ⟨k,hk,a⟩)
     ·exact .inl a
     ·exact .inr ⟨k,RT _ hk,a⟩
    ·rintro(a | ⟨k,hk,a⟩)
     ·exact .inl a
     ·rcases R7.1 hk with rfl | hk
      ·have hc:c=true:=h2.2 a.2;have hin:k.1∈out:=Decidable.byContradiction λhn=>hadd ⟨hc,hn⟩;exact .inl (a.1 ▸ hin)
      ·exact .inr ⟨k,hk,a⟩
def KM(a b:Qm)(d:Int):Prop:=wf a=(0,0)/\wf b=(0,0)/\1<=d/\d<=2048
def Al9(a b:Qm):Int×Int:=if wf a=(0,0)then if wf b=(0,0)then(4,-3)else((wf b).1,-2)else wf a
def AkF{n:Int}{items:Sa}(hn:items.length<=64)(ht:∀t∈items,t.length<=2048)(a b:Qm)(d:Int):
  (KM a b d->∃L,F8 (n,E items) a b d=TI (L,(0,0))/\Z2 L/\L.length<=1000000/\∀x,x∈L↔OY items a b d x)/\(¬KM a b d->F8 (n,E items) a b d=TI ([],Al9 a b)):=by
 have hx:=XOk.An8 hn ht;unfold F8;rw[OG,Wo]
 constructor
 ·rintro⟨c,h2,h3,l⟩;have hw:=hx.Aec a;obtain⟨L,m,o,q,p⟩:=Wt (n:=n) hx b h3 hw.1 (Bp [] a (E items)) 0 [] Z (Tg _) (KN _) List.Pairwise.nil Rg (by rw[YR];exact Qxj items a) hw.2;refine⟨L,?_,o,by omega,λx=>?_⟩
  ·rw[Xu (by rw[c];exact⟨Z,Z⟩),OG,Wo,Xu (by rw[h2];exact⟨Z,Z⟩),Pb U,Pb U];simp only;rw[Rh (by have:=hx.len;omega) a hx.inc,Wo];exact m
  ·rw[p];unfold OY
   constructor
   ·rintro(e | ⟨h,hh,rfl,k,hk,f,g,i,j⟩)
    ·cases e
    ·rw[YR,FL]at hh hk;exact⟨h.2,k.2,hh,by rw[f];exact hk,g,i,j⟩
   ·rintro⟨k,k',e,f,g,i,j⟩;refine .inr ⟨(x,k),by rw[YR,FL];exact e,Z,(x,k'),by rw[YR,FL];exact f,Z,g,i,j⟩
 ·intro h;unfold Al9
  by_cases c:wf a=(0,0)
  ·rw[Xu (by rw[c];exact⟨Z,Z⟩),Xu c,OG,Wo]
   by_cases h2:wf b=(0,0)
   ·rw[Xu (by rw[h2];exact⟨Z,Z⟩),Xu h2]
    by_cases h3:d<1
    ·rw[Xu h3];rfl
    ·rw[Pb h3]
     by_cases l:2048<d
     ·rw[Xu l];rfl
     ·exact absurd ⟨c,h2,by omega,by omega⟩ h
   ·rw[Pb (λx=>h2 (YI x.1 x.2)),Pb h2];rfl
  ·rw[Pb (λx=>c (YI x.1 x.2)),Pb c]
/- The reference. -/
theorem AiP{x y:List HW}(hx:x.length<=1000000)(hy:y.length<=1000000)(hxb:∀h∈x,-1000000<=h.2/\h.2<=1000000)(hyb:∀h∈y,-1000000<=h.2/\h.2<=1000000){d:Int}(hd:1<=d/\d<=2048){k:Nat}{h:HW}(hk:k<x.length)(hg:x.getD k Qq7=h):
  ∀(r:List HW) (j:Nat) (f:Bool),y.drop j=r->∃g,run (Ip d (k:Int) x y) (f,(j:Int))=TI (.inl (g,((k+1:Nat):Int)))/\(g=true↔f=true\/∃q∈r,h.2≠q.2/\-d<=h.2 - q.2/\h.2 - q.2<=d)
 | [],j,f,hdr=>by
  have hlen:=IW hdr;refine⟨f,A2 (m:=TI (Sum.inl (f,((k+1:Nat):Int)))) ?_,by simp⟩;unfold Ip Re;simp only;rw[Pb U,Ab U]
  rfl
 | q::r,j,f,hdr=>by
  obtain⟨hgq,hd',hlt⟩:=GX hdr
  have hhx:h∈x:=by
   rw[<- hg,Sb,Pa hk];exact Rs _
  have hqy:q∈y:=List.mem_of_mem_drop (by rw[hdr];exact SZ ..);have o:=hxb h hhx;have p:=hyb q hqy;have b:(j:Int)+1=((j+1:Nat):Int):=by omega
  -- what is found behind this round
  have step:∃f',Ip d (k:Int) x y (f,(j:Int))=TI (.inl (f',((j+1:Nat):Int)))/\(f'=true↔f=true\/(h.2≠q.2/\-d<=h.2 - q.2/\h.2 - q.2<=d)):=by
   unfold Ip;simp only;rw[Xu U,Ab ⟨by omega,by omega⟩,Ab ⟨by omega,by omega⟩,SV,SV,hg,hgq,Ab U]
   cases f with
   | true=>exact⟨true,by rw[Xu Z,Ab U,b],by simp⟩
   | false=>
    rw[Pb Y5]
    by_cases e:h.2 - q.2=0
    ·exact⟨false,by rw[Xu e,Ab U,b],by simp;omega⟩
    ·rw[Pb e,Ab U,Qr,Wo,Ab U,b];refine⟨_,Z,?_⟩;rw[Xf];simp only[SQ,false_or]
     constructor
     ·rintro⟨h3,c⟩;exact⟨by omega,h3,c⟩
     ·rintro⟨_,h3,c⟩;exact⟨h3,c⟩
  obtain⟨f',s1,i⟩:=step;obtain⟨g,l,n⟩:=AiP hx hy hxb hyb hd hk hg r (j+1) f' hd';refine⟨g,by rw[AE s1];exact l,?_⟩;rw[n,i]
  constructor
  ·rintro((a | a) | ⟨z,hz,a⟩)
   ·exact .inl a
   ·exact .inr ⟨q,SZ ..,a⟩
   ·exact .inr ⟨z,RT _ hz,a⟩
  ·rintro(a | ⟨z,hz,a⟩)
   ·exact .inl (.inl a)
   ·rcases R7.1 hz with rfl | hz
    ·exact .inl (.inr a)
    ·exact .inr ⟨z,hz,a⟩
theorem AiQ{x y:List HW}(hx:x.length<=1000000)(hy:y.length<=1000000)(hxb:∀h∈x,-1000000<=h.2/\h.2<=1000000)(hyb:∀h∈y,-1000000<=h.2/\h.2<=1000000){d:Int}(hd:1<=d/\d<=2048)(out:SB)(i:Nat):
  ∀(r:List HW) (k:Nat) (f:Bool),x.drop k=r->∃g,run (Kd d out (i:Int) x y) (f,(k:Int))=Oe out (i:Int) g/\(g=true↔f=true\/∃h∈r,∃q∈y,h.2≠q.2/\-d<=h.2 - q.2/\h.2 - q.2<=d)
 | [],k,f,hdr=>by
  have hlen:=IW hdr;refine⟨f,A2 ?_,by simp⟩;unfold Kd;simp only;rw[Pb U]
 | h::r,k,f,hdr=>by
  obtain⟨hg,hd',hlt⟩:=GX hdr;obtain⟨f',s1,b⟩:=AiP hx hy hxb hyb hd hlt hg y 0 f Z;obtain⟨g,c,e⟩:=AiQ hx hy hxb hyb hd out i r (k+1) f' hd';refine⟨g,?_,?_⟩
  ·rw[<- c];refine AE ?_;unfold Kd Ago;simp only;rw[Xu U];exact s1
  ·rw[e,b]
   constructor
   ·rintro((a | a) | ⟨z,hz,a⟩)
    ·exact .inl a
    ·exact .inr ⟨h,SZ ..,a⟩
    ·exact .inr ⟨z,RT _ hz,a⟩
   ·rintro(a | ⟨z,hz,a⟩)
    ·exact .inl (.inl a)
    ·rcases R7.1 hz with rfl | hz
     ·exact .inl (.inr a)
     ·exact .inr ⟨z,hz,a⟩
def Agx{items:Sa}{a b:Qm}{d:Int}{i:Nat}(hi:i<items.length):
  (∃h∈F0 (Ck 0 [items.getD i Qq7]) a,∃q∈F0 (Ck 0 [items.getD i Qq7]) b,h.2≠q.2/\-d<=h.2 - q.2/\h.2 - q.2<=d)↔OY items a b d (i:Int):=by
 have one:∀(w:Qm) (k:Nat),(w,((0:Int),(k:Int)))∈Ck 0 [items.getD i Qq7]↔(w,((i:Int),(k:Int)))∈Ck 0 items:=λw k=>by
  have c:=Q5 [items.getD i Qq7] 0 0 k w;have h2:=Q5 items 0 i k w;rw[show((0:Nat):Int)=0 from Z]at c;rw[c,h2,Nat.sub_zero,Nat.sub_zero];have e:([items.getD i Qq7]:Sa).getD 0 Qq7=items.getD i Qq7:=Z;rw[e,T9]
  constructor
  ·rintro⟨_,_,h3⟩;exact⟨Tg _,by omega,h3⟩
  ·rintro⟨_,_,h3⟩;exact⟨Tg _,by omega,h3⟩
 have nat:∀{r:Sa}{p:Qm×HW},p∈Ck 0 r->∃k:Nat,p.2.2=(k:Int):=λ{r p} hp=>by
  have:=(C3 0 r (total r) (λt ht=>Ou ht) p hp).2.2.1;exact⟨p.2.2.toNat,by omega⟩
 have zer:∀{p:Qm×HW},p∈Ck 0 [items.getD i Qq7]->p.2.1=0:=λ{p} hp=>by
  have:=C3 0 [items.getD i Qq7] (total [items.getD i Qq7]) (λt ht=>Ou ht) p hp;rw[T9]at this;omega
 unfold OY
 constructor
 ·rintro⟨h,hh,q,hq,c,h2,h3⟩;rw[FL]at hh hq;obtain⟨k,hk⟩:=nat hh;obtain⟨k',hk'⟩:=nat hq;have f:=zer hh;have g:=zer hq;simp only at hk hk' f g;have j:h=(0,(k:Int)):=YI f hk;have l:q=(0,(k':Int)):=YI g hk';subst j l;exact⟨(k:Int),(k':Int),(one a k).1 hh,(one b k').1 hq,c,h2,h3⟩
 ·rintro⟨k,k',c,h2,h3,n,o⟩;obtain⟨m,hm⟩:=nat c;obtain⟨m',hm'⟩:=nat h2;simp only at hm hm';subst hm hm';exact⟨(0,(m:Int)),FL.2 ((one a m).2 c),(0,(m':Int)),FL.2 ((one b m').2 h2),h3,n,o⟩
theorem AiR{items:Sa}(hn:items.length<=64)(ht:∀t∈items,t.length<=2048)(a b:Qm){d:Int}(hd:1<=d/\d<=2048):
  ∃L,Tx items a b d=TI L/\Z2 L/\∀x,x∈L↔OY items a b d x:=by
 have inb:∀x,OY items a b d x->0<=x/\x<(items.length:Int):=λx ⟨k,k',c,_⟩=>by
  have:=C3 0 items 2048 ht _ c;simp only at this;omega
 unfold Tx Vi
 have key:∀(m i:Nat) (out:SB),i+m=items.length->Z2 out->out.length<=i->(∀x,x∈out↔OY items a b d x/\x<(i:Int))->
   ∃L,run (Iq items a b d) (out,(i:Int))=TI L/\Z2 L/\∀x,x∈L↔OY items a b d x:=by
  intro m
  induction m with
  | zero=>
   intro i out hm hi ho hx;refine⟨out,A2 (m:=TI out) ?_,hi,λx=>?_⟩
   ·unfold Iq Rf;simp only;rw[Pb U]
   ·rw[hx];exact⟨λh=>h.1,λh=>⟨h,by have:=inb x h;omega⟩⟩
  | succ m ih=>
   intro i out hm hi ho hx;have hil:i<items.length:=by omega
   have htl:(items.getD i Qq7).length<=2048:=ht _ (by rw[Sb,Pa hil];exact Rs _)
   have hdt:(items.drop i).take (i+1 - i)=[items.getD i Qq7]:=by
    rw[Nat.add_sub_cancel_left,RV hil,List.take_succ_cons,List.take_zero,Sb,Pa hil]
    rfl
   have c:∀t∈[items.getD i Qq7],t.length<=2048:=λt h=>by rw[TG.1 h];exact htl
   have hp:=Tz (items:=[items.getD i Qq7]) Rg c
   have hh:∀w,(F0 (Ck 0 [items.getD i Qq7]) w).length<=1000000/\∀h∈F0 (Ck 0 [items.getD i Qq7]) w,-1000000<=h.2/\h.2<=1000000:=λw=>by
    have h2:=OJ (Ck 0 [items.getD i Qq7]) w;refine⟨by omega,λh hm=>?_⟩;have:=C3 0 _ 2048 c _ (FL.1 hm);simp only at this;omega
   have rh:∀w,Oq [items.getD i Qq7] [w]=TI (F0 (Ck 0 [items.getD i Qq7]) w):=λw=>by rw[Zi Rg Rg c,WO]
   have n:((i:Int)+1).toNat=i+1:=by omega
   obtain⟨g,o,f⟩:=AiQ (hh a).1 (hh b).1 (hh a).2 (hh b).2 hd out i (F0 (Ck 0 [items.getD i Qq7]) a) 0 false Z;simp only[SQ,false_or]at f;rw[Agx hil]at f
   have hbody:Iq items a b d (out,(i:Int))=TI (.inl (out++(if g then[(i:Int)]else[]),((i+1:Nat):Int))):=by
    unfold Iq Vh;simp only;rw[Xu U,Ab U,Ab ⟨by omega,by omega,by omega⟩,n,SV,hdt,rh a,Wo,Ab U,Ab ⟨by omega,by omega,by omega⟩,rh b,Wo];refine o.trans ?_;unfold Oe Od
    cases g with
    | true=>rw[Xu Z,Xu Z,Ab (by rw[T9];constructor <;> omega),Ab U];rfl
    | false=>rw[Pb Y5,Pb Y5,Ab U,R0];rfl
   rw[AE hbody]
   cases g with
   | true=>
    rw[Xu Z]
    refine ih (i+1) _ U (SE.2 ⟨hi,OO _ _,λy hy z hz=>by
     rw[TG.1 hz];exact((hx y).1 hy).2⟩) U (λx=>?_)
    rw[MY,TG,hx]
    constructor
    ·rintro(⟨h3,j⟩ | rfl)
     ·exact⟨h3,by omega⟩
     ·exact⟨f.1 Z,by omega⟩
    ·rintro⟨h3,j⟩
     by_cases l:x<(i:Int)
     ·exact .inl ⟨h3,l⟩
     ·exact .inr U
   | false=>
    rw[Pb Y5,R0];refine ih (i+1) _ U hi U (λx=>?_);rw[hx]
    constructor
    ·rintro⟨h3,j⟩;exact⟨h3,by omega⟩
    ·rintro⟨h3,j⟩;refine⟨h3,?_⟩
     have l:x≠(i:Int):=λe=>by
      have:=f.2 (e ▸ h3)
      cases this
     omega
 exact key items.length 0 [] U List.Pairwise.nil (KN _) (λx=>by
  simp only[Xn,false_iff,not_and];intro h;have:=inb x h;omega)
end Go.Proofs.YtgaljodghpgdmaaGreatDoor
end
noncomputable section
namespace Go.L
open Go
def AiS(c d:UInt8)(p l:Qm){k:Nat}(a:1<=k)(h2:k<=2):cls (c::p) (d::l)<k↔d.toNat<c.toNat\/d.toNat=c.toNat/\cls p l<k:=by
 have hle:cls p l<=2:=by unfold cls;split;omega;split <;> omega
 have hless:Op.bytesLess (d::l) (c::p)=true↔d.toNat<c.toNat\/d.toNat=c.toNat/\Op.bytesLess l p=true:=by
  rw[<- Qk,<- Qk];exact YC d c l p
 unfold cls at hle ⊢;rw[YB]
 by_cases hd:d=c
 ·subst hd;simp only[decide_true,Bool.true_and]
  by_cases hp:pre l p=true
  ·rw[Xu hp,Xu hp];simp
  ·rw[Pb hp,Pb hp]
   by_cases hl:Op.bytesLess l p=true
   ·rw[Xu hl,Xu (hless.2 (.inr ⟨Z,hl⟩))];simp
   ·rw[Pb hl,Pb (λh=>by rcases hless.1 h with h | h;omega;exact hl h.2)];simp
 ·have hne:d.toNat≠c.toNat:=λe=>hd (UInt8.toNat.inj e);rw[UK hd,Bool.false_and,Pb Y5]
  by_cases hl:d.toNat<c.toNat
  ·rw[Xu (hless.2 (.inl hl))];omega
  ·rw[Pb (λh=>by rcases hless.1 h with h | h;exact hl h;exact hne h.1)];omega
def PV(a p:Qm)(k:Nat):Nat:=(VO (a.length+1)).countP λq=>decide (cls p (a.drop q)<k)
def AkG(a p:Qm)(k:Nat){r:Nat}(hr:r<(op a).length):cls p (a.drop (op a)[r])<k↔r<PV a p k:=by
 have hasc:((op a).map λx=>cls p (a.drop x)).Pairwise (·<=·):=by
  rw[PO];exact(VU a).imp λh=>Acv (Z4 h)
 have h:=Tt _ k r hasc (by rw[Vx];exact hr);rw[List.countP_map,(Vb a).countP_eq]at h
 have hg:((op a).map λx=>cls p (a.drop x)).getD r 0=cls p (a.drop (op a)[r]):=by
  rw[Sb,Y9,Pa hr];rfl
 rw[hg]at h;exact h
def AiT(a p:Qm)(k:Nat):PV a p k<=a.length+1:=by
 have:=List.countP_le_length (p:=λq=>decide (cls p (a.drop q)<k)) (l:=VO (a.length+1));rw[Z3]at this;exact this
def Zj(a p:Qm):PV a p 1<=PV a p 2:=List.countP_mono_left λq _ h=>Xq (by have:=Z4 h;omega)
def Afx(a:Qm):PV a [] 1=0/\PV a [] 2=a.length+1:=by
 have h:∀q,cls [] (a.drop q)=1:=λq=>by unfold cls;rw[pre_nil,Xu Z]
 unfold PV
 constructor
 ·exact List.countP_eq_zero.2 (λq _=>by rw[h];decide)
 ·rw[List.countP_eq_length.2 (λq _=>by rw[h];decide),Z3]
def Zk(a:Qm)(f:Nat->Bool)(g:Nat->Bool)(h:∀r (hr:r<(op a).length),f r=g (op a)[r]):(VO (sym a).length).countP f=(VO (a.length+1)).countP g:=by
 rw[<- Aac a g];apply Rx;intro r hr;have hr:r<(op a).length:=by rw[DK,<- D9];exact PQ.1 hr
 rw[h r hr,opD hr]
def Tj(s:SB)(c:Int)(k:Nat):Nat:=(VO k).countP λr=>decide (0<=s.getD r Qq7/\s.getD r Qq7<c)
def P2(s:SB)(c:Int)(f k:Nat):Nat:=(VO k).countP λr=>decide (s.getD r Qq7=c/\r<f)
theorem Wu{α:Type}(f g h:α->Bool)(e:∀x,h x=(f x||g x))(d:∀x,f x=true->g x=false):∀l:List α,l.countP h=l.countP f+l.countP g
 | []=>rfl
 | x::l=>by
  rw[QQ,QQ,QQ,Wu f g h e d l,e x]
  cases hf:f x with
  | false=>simp;omega
  | true=>rw[d x hf];simp;omega
def V6(a p:Qm)(c:UInt8){k:Nat}(b:1<=k)(h2:k<=2):1+Tj (sym a) (c.toNat:Int) (sym a).length+P2 (sym a) (c.toNat:Int) (PV a p k) (sym a).length=PV a (c::p) k:=by
 unfold Tj P2
 rw[Zk a _ (λq=>decide (1<=q/\Gw a q<(c.toNat:Int))) (λr hr=>by rw[MK a hr];exact decide_eq_decide.2 (by rw[NY])),
  Zk a _ (λq=>decide (Gw a q=(c.toNat:Int)/\cls p (a.drop q)<k)) (λr hr=>by rw[MK a hr];exact decide_eq_decide.2 (by rw[AkG a p k hr])),
  Nat.add_assoc,<- Wu _ _ (λq=>decide (1<=q/\Gw a q<(c.toNat:Int))||decide (Gw a q=(c.toNat:Int)/\cls p (a.drop q)<k)) (λ_=>Z) (λq h=>by
   have:=Z4 h;exact UK U)]
 have eb:PV a (c::p) k=(VO a.length).countP (λq=>decide (cls (c::p) (a.drop q)<k))+[a.length].countP (λq=>decide (cls (c::p) (a.drop q)<k)):=by
  unfold PV;rw[Tl,Ql]
 rw[eb]
 have d:(decide (1<=0/\Gw a 0<(c.toNat:Int))||decide (Gw a 0=(c.toNat:Int)/\cls p (a.drop 0)<k))=false:=by
  have:Gw a 0 = -1:=by unfold Gw;rw[Xu Z]
  rw[this,UK U,UK U];rfl
 rw[Vc a.length (λq=>decide (1<=q/\Gw a q<(c.toNat:Int))||decide (Gw a q=(c.toNat:Int)/\cls p (a.drop q)<k)) d]
 have e:(VO a.length).countP (λq=>decide (1<=q+1/\Gw a (q+1)<(c.toNat:Int))||decide (Gw a (q+1)=(c.toNat:Int)/\cls p (a.drop (q+1))<k))=(VO a.length).countP (λq=>decide (cls (c::p) (a.drop q)<k)):=by
  apply Rx;intro q hq;have hq:=PQ.1 hq;have hd:=K5 (a:=a) (q:=q+1) U U;rw[UW]at hd;rw[hd];simp only[U2,Xf];rw[AiS c _ p _ b h2];unfold Gw;rw[Pb U,UW];omega
 have f:decide (cls (c::p) (a.drop a.length)<k)=true:=by
  rw[List.drop_length];have:cls (c::p) []=0:=by unfold cls;rw[UZ];rfl
  rw[this];exact Xq U
 rw[e,Tc,f,Xu Z];omega
end Go.L
namespace Go.Proofs.YtgaljodghpgdmaaGreatDoor
open Go Go.L
def AkH{s:SB}(hl:s.length<=2049)(j:∀r,r<s.length->-1<=s.getD r Qq7){c:Int}(hc:0<=c)(f t:Nat):Hx s c (f:Int) (t:Int)=TI (((1+Tj s c s.length+P2 s c f s.length:Nat):Int),((1+Tj s c s.length+P2 s c t s.length:Nat):Int)):=by
 have e:∀k,Tj s c k<=k:=λk=>by have:=List.countP_le_length (p:=λr=>decide (0<=s.getD r Qq7/\s.getD r Qq7<c)) (l:=VO k);rw[Z3]at this;exact this
 have a:∀f k,P2 s c f k<=k:=λf k=>by have:=List.countP_le_length (p:=λr=>decide (s.getD r Qq7=c/\r<f)) (l:=VO k);rw[Z3]at this;exact this
 have s1:∀k,Tj s c (k+1)=Tj s c k+if 0<=s.getD k Qq7/\s.getD k Qq7<c then 1 else 0:=λk=>by
  unfold Tj;rw[Tl,Ql,Tc];simp only[Xf]
 have g:∀f k,P2 s c f (k+1)=P2 s c f k+if s.getD k Qq7=c/\k<f then 1 else 0:=λf k=>by
  unfold P2;rw[Tl,Ql,Tc];simp only[Xf]
 refine BM (b:=CL s c f t) (λk=>(((1+Tj s c k:Nat):Int),(P2 s c f k:Int),(P2 s c t k:Int),(k:Int))) s.length (λk hk=>?_) ?_ 0
 ·have d:∀x y:Nat,x<=5000->y<=5000->Cc s c (t:Int) (P2 s c t k:Int) (k:Int) (x:Int) (y:Int)=TI (.inl ((x:Int),(y:Int),(P2 s c t (k+1):Int),((k+1:Nat):Int))):=λx y hx hy=>by
   unfold Cc;have:=a t k;rw[SV,g t k]
   by_cases h:s.getD k Qq7=c/\k<t
   ·rw[Xu U,Xu h,Ab U,Ab U];rfl
   ·rw[Pb U,Pb h,Ab U];rfl
  have m:=e k;have n:=a f k;have o:=j k hk;unfold CL;simp only;rw[Xu U,Ab U,SV,s1 k,g f k]
  by_cases i:s.getD k Qq7 = -1
  ·rw[Xu i,d _ _ U U,Pb U,Pb U];rfl
  ·rw[Pb i]
   by_cases h2:s.getD k Qq7<c
   ·rw[Xu h2,Ab U,show((1+Tj s c k:Nat):Int)+1=((1+Tj s c k+1:Nat):Int) by omega,d _ _ U U,Xu U,Pb U];rfl
   ·rw[Pb h2,Pb (show ¬(0<=s.getD k Qq7/\s.getD k Qq7<c) by omega)]
    by_cases h3:s.getD k Qq7=c/\k<f
    ·rw[Xu U,Ab U,show(P2 s c f k:Int)+1=((P2 s c f k+1:Nat):Int) by omega,d _ _ U U,Xu h3];rfl
    ·rw[Pb U,d _ _ U U,Pb h3];rfl
 ·have m:=e s.length;have n:=a f s.length;have o:=a t s.length;unfold CL;simp only;rw[Pb U];unfold Gf;rw[Ab U,Ab U]
  rfl
theorem V7{a p:Qm}(h:a.length<=2048)(hp:p.length<=64):∀k,k<=p.length->
  ∃f t:Nat,It (idx a) p ((PV a (p.drop k) 1:Int),(PV a (p.drop k) 2:Int),(k:Int) - 1)=TI ((f:Int),(t:Int),(0,0))/\f<=t/\t<=a.length+1/\(f=t->PV a p 1=PV a p 2)/\(f<t->f=PV a p 1/\t=PV a p 2)
 | 0,_=>by
  refine⟨PV a p 1,PV a p 2,A2 (b:=Cg (idx a) p) (m:=TI _) ?_,Zj a p,AiT a p 2,id,λ_=>⟨Z,Z⟩⟩;unfold Cg;simp only;have:=Zj a p;rw[Pb U,YA];unfold FY;rw[show max (PV a p 1:Int) (PV a p 2:Int)=(PV a p 2:Int) by omega]
 | k+1,hk=>by
  have hm:=Zj a (p.drop (k+1))
  by_cases hlt:PV a (p.drop (k+1)) 1<PV a (p.drop (k+1)) 2
  ·have hd:p.drop k=p.getD k Qq7::p.drop (k+1):=by
    have:=K5 (a:=p) (q:=k+1) U hk;rw[UW]at this;exact this
   have hb:Cg (idx a) p ((PV a (p.drop (k+1)) 1:Int),(PV a (p.drop (k+1)) 2:Int),((k+1:Nat):Int) - 1)=TI (.inl ((PV a (p.drop k) 1:Int),(PV a (p.drop k) 2:Int),(k:Int) - 1)):=by
    unfold Cg;simp only;have c:(((k+1:Nat):Int) - 1).toNat=k:=by omega
    have d:(idx a).1=sym a:=Z;rw[Xu U,Ab U,c,d,AkH (by rw[D9];omega) (λr hr=>by rw[MK a (by rw[DK,<- D9];exact hr)];unfold Gw;split <;> omega) U,Wo,Ab U,V6 a _ _ U U,V6 a _ _ U U,<- hd]
    congr 4;omega
   unfold It;rw[AE hb];exact V7 h hp k U
  ·have he:PV a (p.drop (k+1)) 1=PV a (p.drop (k+1)) 2:=by omega
   have hnone:∀j,j<=k+1->PV a (p.drop (k+1 - j)) 1=PV a (p.drop (k+1 - j)) 2:=by
    intro j
    induction j with
    | zero=>intro _;exact he
    | succ j ih=>
     intro hj;have ih:=ih U
     have hd:p.drop (k+1 - (j+1))=p.getD (k+1 - (j+1)) Qq7::p.drop (k+1 - j):=by
      have:=K5 (a:=p) (q:=k+1 - j) U U;rw[show k+1 - (j+1)=k+1 - j - 1 by omega];exact this
     rw[hd,<- V6 a _ _ U U,<- V6 a _ _ U U,ih]
   have hz:=hnone (k+1) U;rw[Nat.sub_self,YA]at hz;refine⟨PV a (p.drop (k+1)) 1,PV a (p.drop (k+1)) 1,A2 (b:=Cg (idx a) p) (m:=TI _) ?_,KN _,AiT a _ 1,λ_=>hz,λh=>absurd h U⟩;unfold Cg;simp only;rw[Pb U];unfold FY;rw[<- he,Int.max_self]
def pfF(p:Qm):Int×Int:=if p.length=0 then(10,-1)else if p.length<=64 then(0,0)else(3,-1)
def AkI{a p:Qm}(h:a.length<=2048):∃f t:Nat,FK (idx a) p=TI ((f:Int),(t:Int),pfF p)/\f<=t/\t<=a.length+1/\(pfF p≠(0,0)->f=0/\t=0)/\(pfF p=(0,0)->(f=t->PV a p 1=PV a p 2)/\(f<t->f=PV a p 1/\t=PV a p 2)):=by
 unfold FK pfF
 by_cases c:p.length=0
 ·rw[Xu U,Xu c];exact⟨0,0,Z,KN _,Tg _,λ_=>⟨Z,Z⟩,λe=>absurd e Y5⟩
 ·rw[Pb U,Pb c]
  by_cases b:p.length<=64
  ·rw[Pb U,Xu b]
   have e:Ee (idx a).1=TI ((a.length+1:Nat):Int):=by
    unfold Ee;rw[show(idx a).1.length=a.length+1 from D9 a]
    congr 1;omega
   rw[e,Wo,Ab U];obtain⟨f,t,d,g,i,j,k⟩:=V7 h b p.length (KN _);rw[List.drop_length,(Afx a).1,(Afx a).2]at d;exact⟨f,t,d,g,i,λe=>absurd Z e,λ_=>⟨j,k⟩⟩
  ·rw[Xu U,Pb b];exact⟨0,0,Z,KN _,Tg _,λ_=>⟨Z,Z⟩,λe=>absurd e Y5⟩
end Go.Proofs.YtgaljodghpgdmaaGreatDoor
end
noncomputable section
namespace Go.L
open Go
def ZB(a p:Qm)(k:Nat):List Nat:=(VO k).filter λq=>pre (a.drop q) p
def occ(a p:Qm):SB:=(ZB a p a.length).map λq:Nat=>(q:Int)
def AkJ(p l:Qm):decide (cls p l<2)=(decide (cls p l<1)||pre l p):=by
 unfold cls
 by_cases hp:pre l p=true
 ·rw[Xu hp,hp];decide
 ·rw[Pb hp];have:pre l p=false:=by simpa using hp
  rw[this]
  split <;> decide
def AkK{p l:Qm}:pre l p=decide (¬cls p l<1/\cls p l<2):=by
 unfold cls
 by_cases hp:pre l p=true
 ·rw[Xu hp,hp];decide
 ·rw[Pb hp];have:pre l p=false:=by simpa using hp
  rw[this]
  split <;> decide
theorem AkL{a p:Qm}(hp:p≠[]):pre (a.drop a.length) p=false:=by
 rw[List.drop_length]
 cases p with
 | nil=>exact absurd Z hp
 | cons c p=>exact UZ c p
def Agy{a p:Qm}(hp:p≠[]):ZB a p (a.length+1)=ZB a p a.length:=by
 unfold ZB;rw[Tl,Vw]
 have:[a.length].filter (λq=>pre (a.drop q) p)=[]:=by
  rw[List.filter_cons_of_neg (by rw[AkL hp];decide)];rfl
 rw[this,R0]
def AkM{a p:Qm}(hp:p≠[]):PV a p 2=PV a p 1+(occ a p).length:=by
 have h:PV a p 2=PV a p 1+(VO (a.length+1)).countP (λq=>pre (a.drop q) p):=
  Wu _ _ _ (λq=>AkJ p (a.drop q)) (λq h=>by
   have:=Z4 h;rw[AkK];exact UK U) _
 rw[h,List.countP_eq_length_filter]
 show _+(ZB a p (a.length+1)).length=_
 rw[Agy hp];unfold occ;rw[Vx]
end Go.L
namespace Go.Proofs.YtgaljodghpgdmaaGreatDoor
open Go Go.L
def AnC{p:Qm}(h:pfF p=(0,0)):p≠[]/\p.length<=64:=by
 unfold pfF at h
 split at h
 ·exact absurd h Y5
 ·rename_i a;refine⟨λe=>a (by rw[e];rfl),?_⟩
  split at h
  ·assumption
  ·exact absurd h Y5
def Ade{a p:Qm}(h:a.length<=2048):Dc (idx a) p=TI (if pfF p=(0,0)then((occ a p).length:Int)else 0,pfF p):=by
 obtain⟨f,t,c,g,i,d,e⟩:=AkI (p:=p) h;unfold Dc
 show Xd (FK (idx a) p) _=_
 rw[c,Wo,Ab (by show AL ((t:Int) - (f:Int));constructor <;> omega)]
 by_cases hp:pfF p=(0,0)
 ·rw[Xu hp];obtain⟨r1,r2⟩:=e hp;have hb:=AkM (a:=a) (AnC hp).1
  have:(t:Int) - (f:Int)=((occ a p).length:Int):=by
   rcases TC f t with b | b
   ·have:=r2 b;omega
   ·have:=r1 U;omega
  show TI ((t:Int) - (f:Int),pfF p)=_
  rw[this]
 ·rw[Pb hp];obtain⟨rfl,rfl⟩:=d hp
  rfl
theorem Aeh{a p:Qm}(ha:a.length<=2048)(hp:p.length<=2048):S6 a p=TI (occ a p):=by
 refine BM (b:=Ib a p) (λk=>((ZB a p k).map (λq:Nat=>(q:Int)),(k:Int))) a.length (λk hk=>?_) ?_ 0
 ·unfold Ib;simp only
  have hle:(ZB a p k).length<=k:=by
   have:=Xj (λq=>pre (a.drop q) p) (VO k);rw[Z3]at this;exact this
  have hs:ZB a p (k+1)=ZB a p k++if pre (a.drop k) p then[k]else[]:=by
   unfold ZB;rw[Tl,Vw]
   congr 1
   cases h:pre (a.drop k) p <;> simp[h]
  rw[Xu U,AdE ha hp U,Wo,hs]
  cases h:pre (a.drop k) p with
  | true=>
   rw[Xu Z,Ab (by rw[Vx];simp only[T9];constructor <;> omega),Ab U,Xu Z,K4]
   rfl
  | false=>
   rw[Pb Y5,Ab U,Pb Y5,R0]
   rfl
 ·unfold Ib;simp only;rw[Pb U]
  rfl
end Go.Proofs.YtgaljodghpgdmaaGreatDoor
end
noncomputable section
namespace Go.L
def Mk(L:List Bool)(n:Nat)(Q:Int->Prop):Prop:=L.length=n/\∀i:Nat,i<n->(L.getD i Qq7=true↔Q i)
def Mk.set{L:List Bool}{n:Nat}{Q:Int->Prop}(h:Mk L n Q){at':Nat}(ha:at'<n)(c:Bool):Mk (L.set at' (L.getD at' Qq7||c)) n (λz=>Q z\/(c=true/\z=(at':Int))):=by
 refine⟨by rw[List.length_set];exact h.1,λi hi=>?_⟩;rw[Sb,RN]
 by_cases he:at'=i
 ·subst he;rw[Xu Z,Xu (by rw[h.1];exact ha)];have:=h.2 at' ha
  show(L.getD at' Qq7||c)=true↔_
  rw[U2,this];exact⟨λh=>h.imp id λh=>⟨h,Z⟩,λh=>h.imp id λh=>h.1⟩
 ·rw[Pb he,<- Sb,h.2 i hi];exact⟨.inl,λh=>h.resolve_right λh=>he U⟩
def collected(f:(Qm×Int×Int×Qm)×SB->Bool)(es:List ((Qm×Int×Int×Qm)×SB)):SB:=(es.filter f).flatMap (·.2)
def Uf{f:(Qm×Int×Int×Qm)×SB->Bool}{es:List ((Qm×Int×Int×Qm)×SB)}{z:Int}:z∈collected f es↔∃e∈es,f e=true/\z∈e.2:=by
 unfold collected;rw[List.mem_flatMap]
 constructor
 ·rintro⟨e,he,hz⟩;obtain⟨a,h2⟩:=Zf.1 he;exact⟨e,a,h2,hz⟩
 ·rintro⟨e,a,h2,hz⟩;exact⟨e,Zf.2 ⟨a,h2⟩,hz⟩
def OZ(f:(Qm×Int×Int×Qm)×SB->Bool){es:List ((Qm×Int×Int×Qm)×SB)}{i:Nat}(h:i<es.length):collected f (es.take (i+1))=collected f (es.take i)++if f (es.getD i Qq7)then(es.getD i Qq7).2 else[]:=by
 unfold collected;rw[List.take_add_one,Pa h,Vw,List.flatMap_append]
 congr 1
 have e:es.getD i Qq7=es[i]:=by simp[Sb,Pa h]
 rw[e];simp only[Option.toList_some,V1,Xs]
 by_cases hf:f es[i]=true
 ·simp[hf]
 ·simp[hf]
theorem F5(f:(Qm×Int×Int×Qm)×SB->Bool):∀{es:List ((Qm×Int×Int×Qm)×SB)},(∀e∈es,e.2.length<=64)->(collected f es).length<=64 * es.length
 | [],_=>by simp[collected]
 | e::es,h=>by
  have a:=h e (.head _);have h2:=F5 f (es:=es) λx hx=>h x (.tail _ hx);unfold collected at h2 ⊢;rw[V1]
  split
  ·rw[Y8,T6,PF];omega
  ·rw[PF];omega
end Go.L
namespace Go.Proofs.YtgaljodghpgdmaaGreatDoor
open Go Go.L
def Zq(pat:Qm)(e:(Qm×Int×Int×Qm)×SB):Bool:=fits (col (sl pat)) (sl e.1.1)
def qmE(pat:Qm)(lo hi:Int)(e:(Qm×Int×Int×Qm)×SB):Bool:=Zq pat e&&decide (e.1.2.1=1/\lo<=e.1.2.2.1/\e.1.2.2.1<=hi)
def Zl(l:SB):(Go.E.Ms l).length=l.length:=by rw[Go.E.UM];exact List.length_mergeSort _
def Aei{n:Int}{es:List En}{pat:Qm}(hp:pat.length<900)(hl:es.length<=1000000)(a:∀e∈es,e.2.length<=64)(hpath:∀e∈es,e.1.1.length<=330):Gy (n,es) pat=TI (L3 (collected (Zq pat) es)):=by
 unfold Gy AhR;refine BM (λi=>(collected (Zq pat) (es.take i),((i:Nat):Int))) es.length (λi hi=>?_) ?_ 0
 ·have hlen:=F5 (Zq pat) (es:=es.take i) λe he=>a e (List.mem_of_mem_take he);rw[Y4]at hlen;have b:=a _ (BU hi);have h2:=hpath _ (BU hi);have hm:Ef pat (es.getD i Qq7).1.1=TI (Zq pat (es.getD i Qq7)):=Ux hp U;unfold ED JI;dsimp only;rw[Xu U,Ab U,SV,Wo,Xu Z,hm,Wo,OZ _ hi]
  by_cases hf:Zq pat (es.getD i Qq7)=true
  ·rw[Xu hf,Xu hf,Ab (by unfold Go.E.Dx;omega),Ab U]
   rfl
  ·rw[Pb hf,Pb hf,Ab U,R0]
   rfl
 ·have hlen:=F5 (Zq pat) a;unfold ED Hd;dsimp only;rw[Pb U,EC,Ab U,Ab (by rw[Zl];omega)]
  rfl
def AkO(e:En)(lo hi:Int):Ey e lo hi=TI (decide (e.1.2.1=1/\lo<=e.1.2.2.1/\e.1.2.2.1<=hi),lo,hi):=by
 unfold Ey
 by_cases a:e.1.2.1=1
 ·by_cases h2:lo<=e.1.2.2.1
  ·rw[Xu a,Xu h2];simp[a,h2]
  ·rw[Xu a,Pb h2];simp[a,h2]
 ·rw[Pb a];simp[a]
def Adf{n:Int}{es:List En}{pat:Qm}{lo hi:Int}(hp:pat.length<900)(hl:es.length<=1000000)(a:∀e∈es,e.2.length<=64)(hpath:∀e∈es,e.1.1.length<=330):EZ (n,es) pat lo hi=TI (L3 (collected (qmE pat lo hi) es),lo,hi):=by
 unfold EZ AaW;refine BM (λi=>(collected (qmE pat lo hi) (es.take i),lo,hi,((i:Nat):Int))) es.length (λi hi'=>?_) ?_ 0
 ·have hlen:=F5 (qmE pat lo hi) (es:=es.take i) λe he=>a e (List.mem_of_mem_take he);rw[Y4]at hlen;have b:=a _ (BU hi');have h2:=hpath _ (BU hi');have hm:Ef pat (es.getD i Qq7).1.1=TI (Zq pat (es.getD i Qq7)):=Ux hp U;have hn:Ey (((es.getD i Qq7).1.1,(es.getD i Qq7).1.2.1,(es.getD i Qq7).1.2.2.1,(es.getD i Qq7).1.2.2.2),(es.getD i Qq7).2) lo hi=_:=AkO (es.getD i Qq7) lo hi;unfold DU;dsimp only;rw[Xu U,Ab U,SV,hn,Wo,OZ _ hi'];have hqe:qmE pat lo hi (es.getD i Qq7)=(Zq pat (es.getD i Qq7)&&decide ((es.getD i Qq7).1.2.1=1/\lo<=(es.getD i Qq7).1.2.2.1/\(es.getD i Qq7).1.2.2.1<=hi)):=Z;rw[hqe]
  by_cases hq:(es.getD i Qq7).1.2.1=1/\lo<=(es.getD i Qq7).1.2.2.1/\(es.getD i Qq7).1.2.2.1<=hi
  ·rw[Xq hq,Xu Z,hm,Wo,Bool.and_true]
   by_cases hf:Zq pat (es.getD i Qq7)=true
   ·rw[Xu hf,Xu hf,Ab (by unfold Go.E.Dx;omega),Ab U]
    rfl
   ·rw[Pb hf,Pb hf,Ab U,R0]
    rfl
  ·rw[UK hq,QA,Pb Xr,Pb Xr,Ab U,R0]
   rfl
 ·have hlen:=F5 (qmE pat lo hi) a;unfold DU FO;dsimp only;rw[Pb U,EC,Ab U,Ab (by rw[Zl];omega)]
  rfl
def find_eq{n:Int}{es:List En}{pat:Qm}(hp:(pf pat).1=0)(hl:es.length<=1000000)(a:∀e∈es,e.2.length<=64)(hpath:∀e∈es,e.1.1.length<=330):Gz (n,es) pat=TI (L3 (collected (Zq pat) es),(0,0)):=by
 obtain⟨b,h2⟩:=XE pat hp;unfold Gz;rw[T0,Wo,b,Xu ⟨Z,Z⟩,Aei U hl a hpath]
 rfl
def AkP{n:Int}{es:List En}{pat:Qm}{lo hi:Int}(hp:(pf pat).1=0)(hlo : ¬hi<lo)(hl:es.length<=1000000)(a:∀e∈es,e.2.length<=64)(hpath:∀e∈es,e.1.1.length<=330):Ft (n,es) pat lo hi=TI (L3 (collected (qmE pat lo hi) es),(0,0)):=by
 obtain⟨b,h2⟩:=XE pat hp;unfold Ft;rw[T0,Wo,b,Xu ⟨Z,Z⟩,Pb hlo,Adf U hl a hpath]
 rfl
theorem Afy:∀{l:SB}{lo n:Int},l.Pairwise (λa b=>a<b)->(∀z∈l,lo<=z/\z<n)->lo<=n->(l.length:Int)<=n - lo
 | [],lo,n,_,_,h=>by simp;omega
 | a::l,lo,n,hp,hz,h=>by
  obtain⟨c,d⟩:=QU.1 hp;have ha:=hz a (.head _);have:=Afy (lo:=a+1) (n:=n) d (λz hzz=>⟨by have:=c z hzz;omega,(hz z (.tail _ hzz)).2⟩) U;simp only[PF];omega
def GI.few{n:Int}{es:List En}(h:GI n es):∀e∈es,e.2.length<=64:=λe he=>by
 have:=Afy (lo:=0) (n:=n) (h.ev e he).inc (h.ev e he).items h.n0;have:=h.n64;omega
def tmE(pat dat:Qm)(e:En):Bool:=Zq pat e&&decide (e.1.2.1=2/\e.1.2.2.2=dat)
def AiU(e:En)(dat:Qm):Fu e dat=TI (decide (e.1.2.1=2/\e.1.2.2.2=dat),dat):=by
 unfold Fu
 by_cases a:e.1.2.1=2
 ·rw[Xu a];simp[a]
 ·rw[Pb a];simp[a]
def Adg{n:Int}{es:List En}{pat dat:Qm}(hp:pat.length<900)(hl:es.length<=1000000)(a:∀e∈es,e.2.length<=64)(hpath:∀e∈es,e.1.1.length<=330):Fa (n,es) pat dat=TI (L3 (collected (tmE pat dat) es),dat):=by
 unfold Fa Jj;refine BM (λi=>(collected (tmE pat dat) (es.take i),dat,((i:Nat):Int))) es.length (λi hi'=>?_) ?_ 0
 ·have hlen:=F5 (tmE pat dat) (es:=es.take i) λe he=>a e (List.mem_of_mem_take he);rw[Y4]at hlen;have b:=a _ (BU hi');have h2:=hpath _ (BU hi');have hm:Ef pat (es.getD i Qq7).1.1=TI (Zq pat (es.getD i Qq7)):=Ux hp U;have hn:Fu (((es.getD i Qq7).1.1,(es.getD i Qq7).1.2.1,(es.getD i Qq7).1.2.2.1,(es.getD i Qq7).1.2.2.2),(es.getD i Qq7).2) dat=_:=AiU (es.getD i Qq7) dat;have hqe:tmE pat dat (es.getD i Qq7)=(Zq pat (es.getD i Qq7)&&decide ((es.getD i Qq7).1.2.1=2/\(es.getD i Qq7).1.2.2.2=dat)):=Z;unfold DV;dsimp only;rw[Xu U,Ab U,SV,hn,Wo,OZ _ hi',hqe]
  by_cases hq:(es.getD i Qq7).1.2.1=2/\(es.getD i Qq7).1.2.2.2=dat
  ·rw[Xq hq,Xu Z,hm,Wo,Bool.and_true]
   by_cases hf:Zq pat (es.getD i Qq7)=true
   ·rw[Xu hf,Xu hf,Ab (by unfold Go.E.Dx;omega),Ab U]
    rfl
   ·rw[Pb hf,Pb hf,Ab U,R0]
    rfl
  ·rw[UK hq,QA,Pb Xr,Pb Xr,Ab U,R0]
   rfl
 ·have hlen:=F5 (tmE pat dat) a;unfold DV FP;dsimp only;rw[Pb U,EC,Ab U,Ab (by rw[Zl];omega)]
  rfl
def AiV{n:Int}{es:List En}{pat dat:Qm}(hp:(pf pat).1=0)(hd:dat.length<=4000)(hl:es.length<=1000000)(a:∀e∈es,e.2.length<=64)(hpath:∀e∈es,e.1.1.length<=330):G0 (n,es) pat dat=TI (L3 (collected (tmE pat dat) es),(0,0)):=by
 obtain⟨b,h2⟩:=XE pat hp;unfold G0;rw[T0,Wo,b,Xu ⟨Z,Z⟩,Pb U,Adg U hl a hpath]
 rfl
def Mj(l:List (Qm×Pv)):TX:=(((l.length:Int),E (l.map TJ)),((l.length:Int),N2 (DA (IM 0 (l.map NB)) [])),l.map λd=>idx d.1)
def Agz(l:List Zv)(hl:l.length<=1000000):Ir l=TI (l.map TJ):=by
 unfold Ir Q0;refine BM (λi=>((l.take i).map TJ,((i:Nat):Int))) l.length (λi hi=>?_) ?_ 0 (hi:=(by omega))
 ·have hg:l.getD ((i:Int)).toNat Qq7=l[i]:=by rw[SV,Sb,Pa hi];rfl
  unfold ID;simp only;rw[Xu U,Ab U,hg,Ab (by unfold Go.E.Dx;simp only[Vx,Y4,PF,RZ];omega),Ab U,<- SR hi,K4]
  rfl
 ·unfold ID M7;simp only;rw[Pb U,Sg (KN _)]
end Go.Proofs.YtgaljodghpgdmaaGreatDoor
end
noncomputable section
namespace Go.L
open Go Go.Proofs.YtgaljodghpgdmaaGreatDoor
def S1(t w:Qm)(k:Int):Prop:=∃n:Nat,k=n/\n<(Tu t).length/\((Tu t).getD n Qq7).1=w
def Q7{a:Sa}(ht:∀t∈a,t.length<=2048){w:Qm}{i:Nat}{k:Int}:(w,((i:Int),k))∈Ck 0 a↔i<a.length/\S1 (a.getD i Qq7) w k:=by
 constructor
 ·intro h;have b:=C3 0 a 2048 ht _ h;simp only at b;obtain⟨m,rfl⟩:=Int.eq_ofNat_of_zero_le b.2.2.1;obtain⟨_,h2,h3⟩:=(Q5 a 0 i m w).1 h;exact⟨by omega,m,Z,h3⟩
 ·rintro⟨c,m,rfl,h2⟩;exact(Q5 a 0 i m w).2 ⟨Tg _,by omega,h2⟩
def AkR{a:Sa}(ht:∀t∈a,t.length<=2048){w:Qm}{i:Nat}{k:Int}:((i:Int),k)∈Bp [] w (E a)↔i<a.length/\S1 (a.getD i Qq7) w k:=by
 rw[YR,FL];exact Q7 ht
def AiX{a:List Pv}{f:En->Bool}{g:Lf->Bool}(hfg:∀e:En,f e=g e.1){i:Nat}(hi:i<a.length):(i:Int)∈L3 (collected f (N2 (DA (IM 0 a) [])))↔(NJ 10 (a.getD i Qq7) []).any g=true:=by
 rw[(J4 _).2,Uf]
 constructor
 ·rintro⟨e,he,hf,hz⟩;rw[(Za.1 he).2,(J4 _).2,Qu]at hz
  have hpr:(e.1,(i:Int))∈IM 0 a:=by
   rcases hz with hz | hz
   ·simp[Bp]at hz
   ·exact hz
  obtain⟨j,_,j2,j3⟩:=Vs.1 hpr;have j2':(i:Int)=0+(j:Int):=j2;obtain rfl:i=j:=by omega
  exact List.any_eq_true.2 ⟨e.1,j3,by rw[<- hfg];exact hf⟩
 ·intro h;obtain⟨x,hx,hg⟩:=List.any_eq_true.1 h;have hpr:(x,(i:Int))∈IM 0 a:=Vs.2 ⟨i,hi,(Int.zero_add _).symm,hx⟩;refine⟨(x,L3 (Bp [] x (DA (IM 0 a) []))),Za.2 ⟨⟨_,hpr⟩,Z⟩,by rw[hfg];exact hg,?_⟩;rw[(J4 _).2,Qu];exact .inr hpr
end Go.L
namespace Go.Proofs.YtgaljodghpgdmaaGreatDoor
open Go Go.L
noncomputable def pc(d t:Qm):Bool:=match Dc ((idx t).1,(idx t).2.1,(idx t).2.2) d with
 | some c=>decide (0<c.1)
 | none=>false
def Zx(d:Qm×Pv)(q:Qv):Prop:=
 if q.f.1=1 then ∃k,S1 d.1 (q.f.2.1.getD ((0:Int).toNat) Qq7) k
 else if q.f.1=2 then q.f.2.1≠[]/\¬16<q.f.2.1.length/\Ti 0 q.f.2.1=none/\∃k,S1 d.1 (q.f.2.1.getD 0 Qq7) k/\∀m:Nat,m<q.f.2.1.length->S1 d.1 (q.f.2.1.getD m Qq7) (k+(m:Int))
 else if q.f.1=3 then KM (q.f.2.1.getD ((0:Int).toNat) Qq7) (q.f.2.1.getD ((1:Int).toNat) Qq7) q.f.2.2.2.2.1/\∃k k':Int,S1 d.1 (q.f.2.1.getD ((0:Int).toNat) Qq7) k/\S1 d.1 (q.f.2.1.getD ((1:Int).toNat) Qq7) k'/\k≠k'/\-q.f.2.2.2.2.1<=k - k'/\k - k'<=q.f.2.2.2.2.1
 else if q.f.1=4 then pc q.f.2.2.2.1 d.1=true
 else if q.f.1=5 then(NJ 10 d.2 []).any (λx=>Zq q.f.2.2.1 (x,[]))=true
 else if q.f.1=6 then(NJ 10 d.2 []).any (λx=>qmE q.f.2.2.1 q.f.2.2.2.2.1 q.f.2.2.2.2.2.1 (x,[]))=true
 else(NJ 10 d.2 []).any (λx=>tmE q.f.2.2.1 q.f.2.2.2.1 (x,[]))=true
def AkS{L:TX}{q:Qv}{a:Sa}(hp:L.2.2=a.map idx)(ha:a.length<=64)(ht:∀t∈a,t.length<=2048):
  HO L q (([]:SB),0)=TI (((VO a.length).filter λj=>pc q.f.2.2.2.1 (a.getD j Qq7)).map λj:Nat=>(j:Int)):=by
 unfold HO;refine BM (λi=>(((VO i).filter λj=>pc q.f.2.2.2.1 (a.getD j Qq7)).map (λj:Nat=>(j:Int)),(i:Int))) a.length (λi hi=>?_) ?_ 0 (hi:=(by omega))
 ·have hg:L.2.2.getD ((i:Int)).toNat Qq7=idx a[i]:=by
   rw[hp,SV,Sb,Y9,Pa hi]
   rfl
  have hga:a.getD i Qq7=a[i]:=by rw[Sb,Pa hi];rfl
  obtain⟨c,hc⟩:∃c,Dc ((idx a[i]).1,(idx a[i]).2.1,(idx a[i]).2.2) q.f.2.2.2.1=some c:=⟨_,Ade (ht _ (Rs hi))⟩;have hpc:pc q.f.2.2.2.1 (a.getD i Qq7)=decide (0<c.1):=by unfold pc;rw[hga,hc]
  have hlen:((VO i).filter λj=>pc q.f.2.2.2.1 (a.getD j Qq7)).length<=64:=by
   have:=Xj (λj=>pc q.f.2.2.2.1 (a.getD j Qq7)) (VO i);rw[Z3]at this;omega
  unfold Fc;simp only;rw[hg,hc,hp,Vx,Xu U,Ab U,Wo,Tl,Vw,V1,Xs,hpc,K4]
  by_cases b:(0:Int)<c.1
  ·rw[Xu b,Ab (by unfold Go.E.Dx;simp only[Vx,PF,RZ];omega),Ab U,Xq b]
   rfl
  ·rw[Pb b,Ab U,UK b];simp
 ·unfold Fc Bj;simp only;rw[hp,Vx,Pb U]
attribute [local irreducible] ZH
def AiY{l:List (Qm×Pv)}(hl:l.length<=64)(hs:∀d∈l,Sd d)(ht:∀d∈l,d.1.length<=2048)(hv:TA (l.map NB)){q:Qv}(hq:Sq q){d:Nat}(hvq:Vq (d+1) q)(h8:q.f.1<8):
  ∃items,Ep (Mj l) q=TI items/\items.length<=100000000/\(∀x∈items,0<=x/\x<(l.length:Int))/\∀i:Nat,i<l.length->((i:Int)∈items↔Zx (l.getD i Qq7) q):=by
 obtain⟨hk,hF,hw,hp,hnt⟩:=R2 hvq.1;have hlm:(l.map TJ).length=l.length:=Vx ..;have hlv:(l.map NB).length=l.length:=Vx ..;have ht':∀t∈l.map TJ,t.length<=2048:=λt ht'=>by obtain⟨d,hd,rfl⟩:=Rr.1 ht';exact ht d hd
 have hs':∀v∈l.map NB,Sm 1048576 10 v:=λv hv=>by obtain⟨d,hd,rfl⟩:=Rr.1 hv;exact(hs d hd).2
 have g1:∀i:Nat,i<l.length->(l.map TJ).getD i Qq7=(l.getD i Qq7).1:=λi hi=>by
  rw[Sb,Sb,Y9,Pa hi];rfl
 have g2:∀i:Nat,i<l.length->(l.map NB).getD i Qq7=(l.getD i Qq7).2:=λi hi=>by
  rw[Sb,Sb,Y9,Pa hi];rfl
 have hx:=XOk.An8 (items:=l.map TJ) U ht'
 have hhit:∀w,∀h∈Bp [] w (E (l.map TJ)),0<=h.1/\h.1<(l.length:Int):=λw h hh=>by
  rw[YR]at hh;have h2:=C3 0 _ 2048 ht' _ (FL.1 hh);simp only at h2;omega
 have hgi:∀{w:Qm}{i:Nat}{k:Int},i<l.length->(((i:Int),k)∈Bp [] w (E (l.map TJ))↔S1 (l.getD i Qq7).1 w k):=λ{w i k} hi=>by
  rw[AkR ht',g1 i hi,hlm];exact⟨λh=>h.2,λh=>⟨hi,h⟩⟩
 have hofh:∀hs:List Zv,hs.length<=1000000->(∀h∈hs,0<=h.1/\h.1<(l.length:Int))->∃items,Ir hs=TI items/\items.length<=100000000/\(∀x∈items,0<=x/\x<(l.length:Int))/\∀i:Nat,(i:Int)∈items↔∃k,((i:Int),k)∈hs:=λhs s h2=>by
  refine⟨_,Agz hs s,by rw[Vx];omega,λx hx=>?_,λi=>?_⟩
  ·obtain⟨h,hh,rfl⟩:=Rr.1 hx;exact h2 h hh
  ·rw[Rr];exact⟨λ⟨h,hh,e⟩=>⟨h.2,by rw[<- e];exact hh⟩,λ⟨k,hk⟩=>⟨_,hk,Z⟩⟩
 obtain⟨hG,_⟩:=Zd U hv hs';rw[hlv]at hG;have hpath:∀e∈N2 (DA (IM 0 (l.map NB)) []),e.1.1.length<=330:=λe he=>(hG.ev e he).path.1;have z:(pf q.f.2.2.1).1=0:=by rw[hp]
 have hcol:∀(f:En->Bool) (g:Lf->Bool),(∀e:En,f e=g e.1)->(L3 (collected f (N2 (DA (IM 0 (l.map NB)) [])))).length<=100000000/\(∀x∈L3 (collected f (N2 (DA (IM 0 (l.map NB)) []))),0<=x/\x<(l.length:Int))/\∀i:Nat,i<l.length->((i:Int)∈L3 (collected f (N2 (DA (IM 0 (l.map NB)) [])))↔(NJ 10 (l.getD i Qq7).2 []).any g=true):=λf g hfg=>by
  have s:=AcS (collected f (N2 (DA (IM 0 (l.map NB)) [])));have h2:=F5 f hG.few;have h3:=hG.len;refine⟨by omega,λx hx=>?_,λi hi=>?_⟩
  ·have hx:=(J4 _).2 x |>.1 hx;obtain⟨e,he,_,hxe⟩:=Uf.1 hx;exact(hG.ev e he).items x hxe
  ·rw[AiX hfg U,g2 i hi]
 unfold Ep Mj Zx;obtain h | h | h | h | h | h | h:q.f.1=1\/q.f.1=2\/q.f.1=3\/q.f.1=4\/q.f.1=5\/q.f.1=6\/q.f.1=7:=by omega
 ·have s:=(Km hF).1 h;rw[Xu h,Ab U];simp only[Xu h]
  have hm:q.f.2.1.getD ((0:Int).toNat) Qq7∈q.f.2.1:=by
   show q.f.2.1.getD 0 Qq7∈_
   rw[Sb,Pa U];exact Rs _
  have hf:=AiN (n:=(l.length:Int)) (by have:=hx.len;omega) hx.inc (q.f.2.1.getD ((0:Int).toNat) Qq7) (by have:=(hx.Aec (q.f.2.1.getD ((0:Int).toNat) Qq7)).1;omega);rw[Xu (hw _ hm)]at hf
  show ∃items,Xd (He ((l.length:Int),E (l.map TJ)) _) _=_/\_
  rw[hf,Wo];unfold HN Bj;obtain⟨items,p,e2,e3,y⟩:=hofh _ (hx.Aec (q.f.2.1.getD ((0:Int).toNat) Qq7)).1 (hhit _);exact⟨items,by rw[p];rfl,e2,e3,λi hi=>(y i).trans ⟨λ⟨k,hk⟩=>⟨k,(hgi hi).1 hk⟩,λ⟨k,hk⟩=>⟨k,(hgi hi).2 hk⟩⟩⟩
 ·have s : ¬q.f.1=1:=by omega
  rw[Pb s,Xu h];simp only[Pb s,Xu h];have hf:=Agw (n:=(l.length:Int)) hx q.f.2.1
  show ∃items,Xd (E3 ((l.length:Int),E (l.map TJ)) q.f.2.1) _=_/\_
  have key:∃hs e,E3 ((l.length:Int),E (l.map TJ)) q.f.2.1=TI (hs,e)/\hs.length<=1000000/\(∀h∈hs,0<=h.1/\h.1<(l.length:Int))/\∀i:Nat,i<l.length->((∃k,((i:Int),k)∈hs)↔q.f.2.1≠[]/\¬16<q.f.2.1.length/\Ti 0 q.f.2.1=none/\∃k,S1 (l.getD i Qq7).1 (q.f.2.1.getD 0 Qq7) k/\∀m:Nat,m<q.f.2.1.length->S1 (l.getD i Qq7).1 (q.f.2.1.getD m Qq7) (k+(m:Int))):=by
   rw[hf]
   split
   ·rename_i hc;exact⟨[],_,Z,by simp,by simp,λi _=>⟨λ⟨_,h⟩=>absurd h Xn,λh=>absurd hc h.1⟩⟩
   ·rename_i hc
    split
    ·rename_i aa;exact⟨[],_,Z,by simp,by simp,λi _=>⟨λ⟨_,h⟩=>absurd h Xn,λh=>absurd aa h.2.1⟩⟩
    ·rename_i aa
     split
     ·rename_i u;exact⟨[],_,Z,by simp,by simp,λi _=>⟨λ⟨_,h⟩=>absurd h Xn,λh=>by rw[h.2.2.1]at u;cases u⟩⟩
     ·rename_i u;refine⟨_,_,Z,?_,λh hh=>hhit _ h (Zf.1 hh).1,λi hi=>?_⟩
      ·have:=(hx.Aec (q.f.2.1.getD 0 Qq7)).1;have:=Xj (λh=>decide (Kn (E (l.map TJ)) q.f.2.1 h)) (Bp [] (q.f.2.1.getD 0 Qq7) (E (l.map TJ)));omega
      ·constructor
       ·rintro⟨k,hk⟩;obtain⟨k1,k2⟩:=Zf.1 hk;exact⟨hc,aa,u,k,(hgi hi).1 k1,λm hm=>(hgi hi).1 (Z4 k2 m hm)⟩
       ·rintro⟨_,_,_,k,k1,k2⟩;exact⟨k,Zf.2 ⟨(hgi hi).2 k1,Xq λm hm=>(hgi hi).2 (k2 m hm)⟩⟩
  obtain⟨hs,e,k1,k2,k3,k4⟩:=key;rw[k1,Wo];obtain⟨items,p,e2,e3,y⟩:=hofh _ k2 k3;unfold Bj;exact⟨items,by simp only;rw[p];rfl,e2,e3,λi hi=>(y i).trans (k4 i hi)⟩
 ·have s:=(Km hF).2.2.1 h;have b : ¬q.f.1=1:=by omega
  have c : ¬q.f.1=2:=by omega
  rw[Pb b,Pb c,Xu h,Ab U,Ab U];simp only[Pb b,Pb c,Xu h];have hf:=AkF (n:=(l.length:Int)) (items:=l.map TJ) U ht' (q.f.2.1.getD ((0:Int).toNat) Qq7) (q.f.2.1.getD ((1:Int).toNat) Qq7) q.f.2.2.2.2.1
  show ∃items,Xd (F8 ((l.length:Int),E (l.map TJ)) _ _ _) _=_/\_
  unfold Bj
  by_cases hn:KM (q.f.2.1.getD ((0:Int).toNat) Qq7) (q.f.2.1.getD ((1:Int).toNat) Qq7) q.f.2.2.2.2.1
  ·obtain⟨L,p,_,e3,y⟩:=hf.1 hn;refine⟨L,by rw[p];rfl,by omega,λx hx=>?_,λi hi=>?_⟩
   ·obtain⟨k,_,ah,_⟩:=(y x).1 hx;have h2:=C3 0 _ 2048 ht' _ ah;simp only at h2;omega
   ·have hi':i<(l.map TJ).length:=by omega
    rw[y];unfold OY;simp only[Q7 ht',g1 i hi,hi',true_and];exact⟨λh=>⟨hn,h⟩,λh=>h.2⟩
  ·exact⟨[],by rw[hf.2 hn];rfl,by simp,by simp,λi _=>⟨λh=>absurd h Xn,λh=>absurd h.1 hn⟩⟩
 ·have b : ¬q.f.1=1:=by omega
  have c : ¬q.f.1=2:=by omega
  have o : ¬q.f.1=3:=by omega
  rw[Pb b,Pb c,Pb o,Xu h];simp only[Pb b,Pb c,Pb o,Xu h];have p:=AkS (L:=Mj l) (q:=q) (a:=l.map TJ) (by unfold Mj;simp) U ht';rw[hlm]at p;refine⟨_,p,?_,λx hx=>?_,λi hi=>?_⟩
  ·have:=Xj (λj=>pc q.f.2.2.2.1 ((l.map TJ).getD j Qq7)) (VO l.length);rw[Z3]at this;rw[Vx];omega
  ·obtain⟨j,hj,rfl⟩:=Rr.1 hx;have:=PQ.1 (Zf.1 hj).1;omega
  ·rw[Rr]
   constructor
   ·rintro⟨j,hj,e⟩;obtain rfl:j=i:=by omega
    rw[<- g1 j hi];exact(Zf.1 hj).2
   ·intro hc;exact⟨i,Zf.2 ⟨PQ.2 hi,by rw[g1 i hi];exact hc⟩,Z⟩
 ·have b : ¬q.f.1=1:=by omega
  have c : ¬q.f.1=2:=by omega
  have o : ¬q.f.1=3:=by omega
  have r : ¬q.f.1=4:=by omega
  rw[Pb b,Pb c,Pb o,Pb r,Xu h];simp only[Pb b,Pb c,Pb o,Pb r,Xu h];have hf:=find_eq (n:=(l.length:Int)) (pat:=q.f.2.2.1) z hG.len hG.few hpath
  show ∃items,Xd (Gz ((l.length:Int),N2 (DA (IM 0 (l.map NB)) [])) q.f.2.2.1) _=_/\_
  rw[hf];exact⟨_,Z,hcol _ _ λ_=>Z⟩
 ·have b : ¬q.f.1=1:=by omega
  have c : ¬q.f.1=2:=by omega
  have o : ¬q.f.1=3:=by omega
  have r : ¬q.f.1=4:=by omega
  have n5 : ¬q.f.1=5:=by omega
  rw[Pb b,Pb c,Pb o,Pb r,Pb n5,Xu h];simp only[Pb b,Pb c,Pb o,Pb r,Pb n5,Xu h]
  have hlo : ¬q.f.2.2.2.2.2.1<q.f.2.2.2.2.1:=λhc=>by
   unfold nt at hnt;rw[Xu (.inr ⟨h,hc⟩)]at hnt
   cases hnt
  have hf:=AkP (n:=(l.length:Int)) (pat:=q.f.2.2.1) z hlo hG.len hG.few hpath
  show ∃items,Xd (Ft ((l.length:Int),N2 (DA (IM 0 (l.map NB)) [])) q.f.2.2.1 _ _) _=_/\_
  rw[hf];exact⟨_,Z,hcol _ _ λ_=>Z⟩
 ·have b : ¬q.f.1=1:=by omega
  have c : ¬q.f.1=2:=by omega
  have o : ¬q.f.1=3:=by omega
  have r : ¬q.f.1=4:=by omega
  have n5 : ¬q.f.1=5:=by omega
  have n6 : ¬q.f.1=6:=by omega
  rw[Pb b,Pb c,Pb o,Pb r,Pb n5,Pb n6,Xu h];simp only[Pb b,Pb c,Pb o,Pb r,Pb n5,Pb n6];have hd:=XG hnt;have hf:=AiV (n:=(l.length:Int)) (pat:=q.f.2.2.1) (dat:=q.f.2.2.2.1) z U hG.len hG.few hpath
  show ∃items,Xd (G0 ((l.length:Int),N2 (DA (IM 0 (l.map NB)) [])) q.f.2.2.1 _) _=_/\_
  rw[hf];exact⟨_,Z,hcol _ _ λ_=>Z⟩
noncomputable instance (d:Qm×Pv) (q:Qv):Decidable (Zx d q):=Classical.propDecidable _
noncomputable def lfb(l:List (Qm×Pv))(q:Qv)(i:Nat):Bool:=decide (Zx (l.getD i Qq7) q)
def Am1{l:List (Qm×Pv)}(hl:l.length<=64)(hs:∀d∈l,Sd d)(ht:∀d∈l,d.1.length<=2048)(hv:TA (l.map NB)):Fnd (Mj l) (lfb l):=λd q hq hvq a=>by
 obtain⟨items,b,h2,h3,c⟩:=AiY hl hs ht hv hq hvq a;have hlen:(Mj l).2.2.length=l.length:=Vx ..;refine⟨items,b,h2,by rw[hlen];exact h3,λi hi=>?_⟩;unfold lfb;rw[Z8,decide_eq_true_iff,decide_eq_true_iff];exact(c i U).symm
theorem Afz{v:Pv}{p:Sa}{self:Pv->Qm->Option (List Lf)}{d:Nat}(hv:Uw v)(hpo:Wd p)(hp:p.length<=20)
  (hs:∀i,i<v.f.2.2.2.2.length->self (v.f.2.2.2.2.getD i Qq7) (jn (p++[WL v i]))=TI (NJ d (v.f.2.2.2.2.getD i Qq7) (p++[WL v i]))) :
  ∀
   (k i:Nat) (L:List Lf),i+k=v.f.2.2.2.2.length->(L++(Zy i k).flatMap λi=>NJ d (v.f.2.2.2.2.getD i Qq7) (p++[WL v i])).length<=1000000->
   Go.L.run (DP v (jn p) self) (L,(i:Int))=TI (L++(Zy i k).flatMap λi=>NJ d (v.f.2.2.2.2.getD i Qq7) (p++[WL v i]))
 | 0,i,L,hi,_=>by
  refine A2 (m:=TI (L++(Zy i 0).flatMap λi=>NJ d (v.f.2.2.2.2.getD i Qq7) (p++[WL v i]))) ?_;unfold DP JL;dsimp only;rw[Pb U];simp
 | k+1,i,L,hi,hL=>by
  have hil:i<v.f.2.2.2.2.length:=by omega
  have hmany:=hv.many;have hpl:=hpo.Uy;have hcl:=Afq (S5 hv hil);rw[List.range'_succ,Y8,<- YW]at hL ⊢
  have a:Fv v L (i:Int) self (jn (p++[WL v i]))=TI (.inl (L++NJ d (v.f.2.2.2.2.getD i Qq7) (p++[WL v i]),((i+1:Nat):Int))):=by
   unfold Fv;rw[Ab U,SV,hs i hil,Wo,Ab (by unfold Go.E.Dx;simp only[T6]at hL;omega),Ab U]
   rfl
  have e:∀x,x=WL v i->Fw v (jn p) L (i:Int) self x=TI (.inl (L++NJ d (v.f.2.2.2.2.getD i Qq7) (p++[WL v i]),((i+1:Nat):Int))):=by
   rintro x rfl;rw[Afo]at a;unfold Fw
   by_cases c:p=[]
   ·rw[Xu (hpo.nil.2 c)];rw[Xu c]at a;exact a
   ·rw[Pb (λh=>c (hpo.nil.1 h)),Ab U,Ab U];rw[Pb c]at a;rw[show(jn p++[47])++WL v i=jn p++47::WL v i by simp];exact a
  have hb:DP v (jn p) self (L,(i:Int))=TI (.inl (L++NJ d (v.f.2.2.2.2.getD i Qq7) (p++[WL v i]),((i+1:Nat):Int))):=by
   unfold DP;dsimp only;rw[Xu U]
   by_cases b:v.f.1=4
   ·have:=hv.same b;rw[Xu b,Ab U,SV];exact e _ (by unfold WL;rw[Xu b])
   ·rw[Pb b];exact e _ (by unfold WL;rw[Pb b])
  rw[AE hb];exact Afz hv hpo hp hs k (i+1) _ U hL
theorem AnD:∀(d n:Nat) (v:Pv) (p:Sa),d<=n->Vd d v->Wd p->p.length+d<=20->nodes d v<=1000000->GB n v (jn p)=TI (NJ d v p)
 | 0,_,_,_,_,h,_,_,_=>h.elim
 | d+1,0,_,_,h,_,_,_,_=>absurd h U
 | d+1,n+1,v,p,hn,hv,hp,hl,hnd=>by
  have hlen:=Oh (d+1) v p;obtain⟨hok,hvp⟩:=hv
  show J7 (GB n) v (jn p)=_
  unfold J7 NM
  have:=Afz (d:=d) (self:=GB n) hok hp U (λi hi=>AnD d n _ _ U (hvp _ (BU hi)) (hp.snoc (S5 hok hi)) U (by
   unfold nodes at hnd;have:=Aaq (d:=d) (BU hi);omega)) v.f.2.2.2.2.length 0 [(jn p,v.f.1,v.f.2.1,v.f.2.2.1)] U (by
   unfold NJ at hlen;simp only[List.singleton_append];rw[hlen];exact hnd)
  exact this
def MA{v:Pv}(hv:Vd 10 v)(hn:nodes 10 v<=1000000):Hp v []=TI (NJ 10 v []):=by
 unfold Hp;exact AnD 10 1000 v [] U hv (λx hx=>by cases hx) Rg hn
def AiZ{α:Type}[Inhabited α]{A B:List α}{y x:α}:(((A++y::x::B).set (A.length+1) y).set A.length x)=A++x::y::B:=by
 rw[List.set_append_right _ _ U,show A.length+1 - A.length=1 by omega,List.set_append_right _ _ (KN _),Nat.sub_self]
 rfl
def AkT{α:Type}{A B:List α}{x z:α}:z∈A++x::B↔z=x\/z∈A++B:=by
 simp only[MY,R7]
 constructor
 ·rintro(h | h | h)
  ·exact .inr (.inl h)
  ·exact .inl h
  ·exact .inr (.inr h)
 ·rintro(h | h | h)
  ·exact .inr (.inl h)
  ·exact .inl h
  ·exact .inr (.inr h)
end Go.Proofs.YtgaljodghpgdmaaGreatDoor
end
