/- Texts of a claim, merged. -/
import Derived.Test.YtgaljodghpgdmaaGreatDoorLa3
import Derived.KernelRfl
import Derived.Shelf.Strings.FuncGrows
import Derived.Maps.RangeRun
open Option renaming some->TI
open _root_.Go.Proofs.Tryz renaming underlying23→Jk,underlying24→LS,underlying29→Aer,underlying31→Xi,underlying39→QW,underlying54→KR,underlying88→PT,underlying105→Tk
open Option renaming bind->Xd,bind_some->Wo,map->Sh,bind_assoc->WY,map_some->TB
open List renaming getD_eq_getElem?_getD->Sb,getElem?_eq_getElem->Pa,length_cons->PF,length_map->Vx,replicate->Xk,length_append->T6,mem_cons->R7,mem_cons_of_mem->RT,mem_cons_self->SZ,length_take->Y4,getElem?_eq_some_iff->Z9,mem_singleton->TG,drop_eq_nil_of_le->UU,length_nil->RZ,mem_append->MY,map_cons->Yu,length_drop->U1,take_of_length_le->Sg,getElem_mem->Rs,mem_map->Rr,getElem?_map->Y9,getElem?_drop->Vk,flatMap_cons->Y8,getElem?_eq_none->Xt,getElem?_cons_zero->R3,take_add_one->Vf,length->XQ,length_pos_iff->Kh,drop_zero->YA,mem_filter->Zf,pairwise_append->SE,mergeSort_perm->Uv,map_map->Xc,not_mem_nil->Xn,drop_drop->U4,countP_append->Ql,mem_iff_getElem?->Nd,length_mergeSort->YJ,map_congr_left->Ur,countP_eq_zero->Se,getElem?_append_left->Ry,exists_cons_of_ne_nil->TP,getElem?_take_of_lt->QjC,nodup_append->P3
open Int renaming toNat_natCast->SV,eq_ofNat_of_zero_le->Ph
open Prod renaming fst->TJ
open Nat renaming le_refl->KN,blt->Uu,zero_add->Q8,le_trans->RU,zero_le->Tg,mul_one->Z5,add_zero->Pf,lt_or_ge->TC
open Bool renaming and_eq_true->ZA,false_eq_true->SQ,eq_iff_iff->Z8,or_eq_true->U2
open UInt8 renaming ofNat->SJ,lt_iff_toNat_lt->QV
open ByteArray renaming size->Vl
set_option linter.defProp false
set_option linter.unusedVariables false
set_option linter.unusedSimpArgs false
set_option linter.unusedSectionVars false
noncomputable section
namespace Go
abbrev OP:=(Int×Xg)×Zv
end Go
namespace Go.Proofs.YtgaljodghpgdmaaGreatDoor
open Go Go.E Go.RowKit Go.L
set_option maxHeartbeats 1000000
set_option maxRecDepth 10000
open _root_.Go.Proofs.Tryz
def AI(a0 a1:Int):Option Int:=
 Xd (GW a0) (λa=>Ay (AL (a1+a)) (TI ((a1+a))))
def CS{d w:World}{H:PH}(_hH:Le H (hp d))(O:List Bv)(a0 a1:Int){ba1:Nat}(hL:AB d (Ha [.box ba1 [No a1] 3] O) w){r:Int}(h:AI a0 a1=TI r):
  Ok prog 86 [No a0,SX ba1] w (λv w'=>v=.tuple #[]/\AB d (Ha [.box ba1 [No r] 3] O) w'/\Le (fz w (Ha [.box ba1 [No a1] 3] O)) (fz w' (Ha [.box ba1 [No r] 3] O))):=by
 refine Cx (n:=7) [(0,No a0),(1,(SX ba1))] func86 Z Z Z Z ?_;have hT:=Le.refl (fz w (Ha [.box ba1 [No a1] 3] O));refine P8 (Zt 0 4 (.tail 4)) mixed SF (λo b=>?_);have a:=hL.call b;have e:=A3 hL b;refine Bh Z (AG 0 Z a Z) Z<|Br 1 Z<|Ah h λp i h=>DY Z Z Z (λs m=>Qk8 _ _ (Le.refl _) i)<|Ag h λj h=>Bh Z (Gq j) Z<|AT (λt c=>?_);have k:=a.call c;have f:=A3 a c;refine BW 0 Z Z Z k Z Z λu l g=>HX ?_
 cases h
 refine KX ?_;have hT:=hT.trans (e.trans (f.trans g));exact⟨Z,l,hT⟩
def H9(a b:Int):Option (Zv⊕(Int)):=
 Ay (AL (a+1)) (TI (Sum.inl (b,(a+1))))
def BY(a0:Int×Xg)(b:Int):Int×Int×Int×Int->Option ((Int×Int×Int×Int)⊕(Zv⊕(Int))):=λ⟨c,e,d,a⟩=>
 if a<(((a0.2.getD b.toNat Qq7).2).length:Int)then Ay (0<=a/\a<(((a0.2.getD b.toNat Qq7).2).length:Int)) (if(((a0.2.getD b.toNat Qq7).2).getD a.toNat Qq7).1=c then Xd (AI (1:Int) d) (λf=>Ay (AL ((((a0.2.getD b.toNat Qq7).2).getD a.toNat Qq7).2 - e)) (Xd (AI ((((a0.2.getD b.toNat Qq7).2).getD a.toNat Qq7).2 - e) f) (λg=>Ay (AL (a+1)) (TI (Sum.inl ((((a0.2.getD b.toNat Qq7).2).getD a.toNat Qq7).1,(((a0.2.getD b.toNat Qq7).2).getD a.toNat Qq7).2,g,(a+1)))))))else Ay (AL (1+(((a0.2.getD b.toNat Qq7).2).getD a.toNat Qq7).1)) (Ay (AL ((1+(((a0.2.getD b.toNat Qq7).2).getD a.toNat Qq7).1) - c)) (Xd (AI ((1+(((a0.2.getD b.toNat Qq7).2).getD a.toNat Qq7).1) - c) d) (λh=>Ay (AL ((((a0.2.getD b.toNat Qq7).2).getD a.toNat Qq7).2+1)) (Xd (AI ((((a0.2.getD b.toNat Qq7).2).getD a.toNat Qq7).2+1) h) (λi=>Ay (AL (a+1)) (TI (Sum.inl ((((a0.2.getD b.toNat Qq7).2).getD a.toNat Qq7).1,(((a0.2.getD b.toNat Qq7).2).getD a.toNat Qq7).2,i,(a+1))))))))))else Sh Sum.inr ((H9 b) d)
def Lo(a0:Int×Xg)(a:Int)(s:Int×Int×Int×Int):Option (Zv⊕(Int)):=Go.L.run (BY a0 a) s
def HA(a0:Int×Xg)(a b:Int):Option (Zv⊕(Int)):=
 Xd (AI (((a0.2.getD a.toNat Qq7).2).length:Int) b) (λc=>(Lo a0 a) (0,(-1),c,0))
def CF(a0:Int×Xg)(b:Int):Int×Int->Option (Zv⊕(Zv⊕(Int))):=λ⟨c,a⟩=>
 if a<(((a0.2.getD b.toNat Qq7).1).length:Int)then Ay (0<=a/\a<(((a0.2.getD b.toNat Qq7).1).length:Int)) (Ay (AL (((((a0.2.getD b.toNat Qq7).1).getD a.toNat Qq7).toNat:Int)+1)) (Xd (AI (((((a0.2.getD b.toNat Qq7).1).getD a.toNat Qq7).toNat:Int)+1) c) (λd=>Ay (AL (a+1)) (TI (Sum.inl (d,(a+1)))))))else Sh Sum.inr ((HA a0 b) c)
def Lp(a0:Int×Xg)(a:Int)(s:Int×Int):Option (Zv⊕(Int)):=Go.L.run (CF a0 a) s
def CG(a0:Int×Xg):Int×Int->Option (Zv⊕(Int)):=λ⟨b,a⟩=>
 if a<(a0.2.length:Int)then Ay (0<=a/\a<(a0.2.length:Int)) (Xd (AI (((a0.2.getD a.toNat Qq7).1).length:Int) b) (λc=>Ay (((a0.2.getD a.toNat Qq7).1).length<=9223372036854775807) ((Lp a0 a) (c,0))))else Sh Sum.inr (TI b)
def Lq(a0:Int×Xg)(s:Int×Int):Option Int:=Go.L.run (CG a0) s
def GG(a0:Int×Xg)(a1_c0:Int):Option Int:=
 Ay (AL (a0.1+1)) (Xd (AI (a0.1+1) a1_c0) (λa=>Ay (AL ((a0.2.length:Int)+1)) (Xd (AI ((a0.2.length:Int)+1) a) (λb=>(Lq a0) (b,0)))))
def Qqc{j w:World}{H:PH}(hH:Le H (hp j)){O:List Bv}{a0:Int×Xg}{a1_c0:Int}{va0_1:Value}{ba1_c0:Nat}(hL:AB j (Ha [.box ba1_c0 [No a1_c0] 3] O) w)(y:As (.pair .st (.vec TD)) (gz H j w (Ha [.box ba1_c0 [No a1_c0] 3] O)) va0_1 (a0.2)){r:Int}(h:GG a0 a1_c0=TI r):
  Ok prog 85 [.agg #[No a0.1,va0_1],.func (.func 86) #[] #[SX ba1_c0]] w (λv w'=>v=.tuple #[]/\AB j (Ha [.box ba1_c0 [No r] 3] O) w'/\Le (fz w (Ha [.box ba1_c0 [No a1_c0] 3] O)) (fz w' (Ha [.box ba1_c0 [No r] 3] O))):=by
 refine Cx (n:=91) [(0,.agg #[No a0.1,va0_1]),(1,.func (.func 86) #[] #[SX ba1_c0])] func85 Z Z Z Z ?_;have hT:=Le.refl (fz w (Ha [.box ba1_c0 [No a1_c0] 3] O));refine A5<|B6 (t:=31) Z Z hL λw1 o c0 br _=>Ag h λee h=>Af ?_;have c1:AB j (Ha [.box ba1_c0 [No a1_c0] 3,.box o [No a0.1,va0_1] 31] O) w1:=c0.BX [1] Z;have bs:=Bb [1] c0 c1 Z;refine Ah h λx4 da h=>DR Z Z (CS hH (Ha [.box o [No a0.1,va0_1] 31] O) (a0.1+1) a1_c0 c1 da) ?_;rintro _ w5 ⟨rfl,db,bt⟩;have y:=y.mono (Aa (br.trans (bs.trans bt)));refine Ag h λef h=>Af ?_;refine Ah h λx7 dc h=>DR Z Z (CS hH (Ha [.box o [No a0.1,va0_1] 31] O) (((a0.2.length:Int)+1)) x4 db dc) ?_;rintro _ w8 ⟨rfl,dd,bu⟩;have y:=y.mono (Aa bu);refine Af ?_;refine A4 ?_;obtain⟨bb,h⟩:=Ax h;have hT:=hT.trans (br.trans (bs.trans (bt.trans bu)))
 refine AF (Int×Int×Nat) (λ⟨u,a,n⟩=>[(1,.func (.func 86) #[] #[SX ba1_c0]),(23,va0_1),(24,No (a0.2.length:Int)),(25,No a)]) (λ⟨u,a,n⟩ wr=>Cd j (Ha [.box ba1_c0 [No u] 3,.box o [No a0.1,va0_1] 31] O) wr λOz=>As (.pair .st (.vec TD)) (gz H j wr Oz) va0_1 (a0.2)/\Le (fz w (Ha [.box ba1_c0 [No a1_c0] 3] O)) (fz wr Oz)/\D6 (CG a0) n (u,a)=TI r) (λ⟨u,a,n⟩=>n) (x7,0,bb) Z ⟨dd,y,hT,h⟩ ?_;rintro⟨u,a,nn119⟩ de ⟨a5,s,hT,h⟩;obtain⟨bb,a6,rfl,h,bd⟩:=Aw h;refine AR ?_;refine Ar h ?_ ?_<;>intro b0 h
 ·refine Af ?_;refine AA Int (λai=>[(1,.func (.func 86) #[] #[SX ba1_c0]),(23,va0_1),(24,No (a0.2.length:Int)),(25,No a)]) (λai wr=>Cd j (Ha [.box ba1_c0 [No ai] 3,.box o [No a0.1,va0_1] 31] O) wr λOz=>As (.pair .st (.vec TD)) (gz H j wr Oz) va0_1 (a0.2)/\Le (fz w (Ha [.box ba1_c0 [No a1_c0] 3] O)) (fz wr Oz)/\(H9 a) ai=TI a6) ?_ ?_
  ·refine AR ?_;refine Ag h λbe h=>A1 s a.toNat (BP be) (An be) ?_;rintro dx _ ⟨_,_,rfl,rfl,⟨e228v1,rfl,e228h1⟩⟩ b2;refine AJ (AU b2 (Ae a5))<|Aq Aad.e Z a5 λdy c b3 z _=>Ac 0 Z b3 Z (a:=(AV Z (AV e228h1.one JO))) λc2 bf aa=>Af ?_;refine AJ (Dn Z) ?_;have bg:AB j (Ha [.box ba1_c0 [No u] 3,.box c [.string ⟨((a0.2.getD a.toNat Qq7).1).toArray⟩,e228v1] 158,.box o [No a0.1,va0_1] 31] O) c2:=bf.BX [1] Z;have ab:=Bb [1] bf bg Z;refine Ah h λc3 b4 h=>DR Z Z (CS hH ((Ha [.box c [.string ⟨((a0.2.getD a.toNat Qq7).1).toArray⟩,e228v1] 158,.box o [No a0.1,va0_1] 31] O)) ((((a0.2.getD a.toNat Qq7).1).length:Int)) u bg b4) ?_;rintro _ dz ⟨rfl,b5,ac⟩;refine Ap ?_
   refine AA Int (λaj=>[(1,.func (.func 86) #[] #[SX ba1_c0]),(5,(SX c)),(23,va0_1),(24,No (a0.2.length:Int)),(25,No a)]) (λaj wr=>Cd j (Ha [.box ba1_c0 [No aj] 3,.box c [.string ⟨((a0.2.getD a.toNat Qq7).1).toArray⟩,e228v1] 158,.box o [No a0.1,va0_1] 31] O) wr λOz=>As (.pair .st (.vec TD)) (gz H j wr Oz) va0_1 (a0.2)/\As TD (gz H j wr Oz) e228v1 ((a0.2.getD a.toNat Qq7).2)/\Le (fz w (Ha [.box ba1_c0 [No a1_c0] 3] O)) (fz wr Oz)/\(HA a0 a) aj=TI a6) ?_ ?_
   ·refine Af ?_;refine Ag h λb6 h=>YT (H:=H) b5 b6 λbv d0 df b7 ak b8=>Af ?_;refine A4 ?_;obtain⟨bc,h⟩:=Ax h;have s:=s.mono (Aa (z.trans (aa.trans (ab.trans (ac.trans ak)))));have e228h1:=e228h1.mono (Aa (z.trans (aa.trans (ab.trans (ac.trans ak)))));have hT:=hT.trans (z.trans (aa.trans (ab.trans (ac.trans ak))))
    refine AF (Int×Int×Nat) (λ⟨x,e,n⟩=>[(1,.func (.func 86) #[] #[SX ba1_c0]),(5,(SX c)),(23,va0_1),(24,No (a0.2.length:Int)),(25,No a),(36,bv),(37,No (((a0.2.getD a.toNat Qq7).1).length:Int)),(38,No e)]) (λ⟨x,e,n⟩ wr=>Cd j (Ha [.box ba1_c0 [No x] 3,.box c [.string ⟨((a0.2.getD a.toNat Qq7).1).toArray⟩,e228v1] 158,.box o [No a0.1,va0_1] 31] O) wr λOz=>As (.pair .st (.vec TD)) (gz H j wr Oz) va0_1 (a0.2)/\As .byte (gz H j wr Oz) bv ((a0.2.getD a.toNat Qq7).1)/\As TD (gz H j wr Oz) e228v1 ((a0.2.getD a.toNat Qq7).2)/\Le (fz w (Ha [.box ba1_c0 [No a1_c0] 3] O)) (fz wr Oz)/\D6 (CF a0 a) n (x,e)=TI a6) (λ⟨x,e,n⟩=>n) (c3,0,bc) Z ⟨b7,s,b8,e228h1,hT,h⟩ ?_;rintro⟨x,e,nn280⟩ dg ⟨ag,a2,a3,a4,hT,h⟩;obtain⟨bc,d1,rfl,h,bh⟩:=Aw h;have k:=ag.rG H;refine AR ?_;refine Ar h ?_ ?_<;>intro b9 h
    ·refine AR ?_;refine Ag h λbi h=>A1 (a3.mono k) e.toNat (BP bi) (An bi) ?_;rintro d2 _ rfl ca;refine sH ca (Ae ag)<|Af ?_;refine AJ (Er (GQ _))<|Ag h λdh h=>Af ?_;refine Ah h λc4 cb h=>DR Z Z (CS hH ((Ha [.box c [.string ⟨((a0.2.getD a.toNat Qq7).1).toArray⟩,e228v1] 158,.box o [No a0.1,va0_1] 31] O)) ((((((a0.2.getD a.toNat Qq7).1).getD e.toNat Qq7).toNat:Int)+1)) x ag cb) ?_;rintro _ d3 ⟨rfl,cc,ba⟩;refine Ag h λdi h=>Af ?_;have h:=AX.again h bh;have k:=k.trans (Aa ba);have hT:=hT.trans ba;refine Ak (_,_,_) Z ⟨cc,(a2.mono k),(a3.mono k),(a4.mono k),hT,h⟩
    have h:=AX.out h bh;refine Af ?_;refine Am _ ⟨ag,(a2.mono k),(a4.mono k),hT,h⟩
   have hT:=hT.trans (z.trans (aa.trans (ab.trans ac)));rintro aj dj ⟨cd,ad,ae,hT,h⟩;refine Af ?_;refine Ah h λc5 ce h=>DR Z Z (CS hH ((Ha [.box c [.string ⟨((a0.2.getD a.toNat Qq7).1).toArray⟩,e228v1] 158,.box o [No a0.1,va0_1] 31] O)) ((((a0.2.getD a.toNat Qq7).2).length:Int)) aj cd ce) ?_;rintro _ d4 ⟨rfl,cf,al⟩;refine Af ?_;refine AJ (A8 (λ_=>Ahz _ _))<|Aq F1.e Z cf λd5 l cg am _=>Ac 0 Z cg Z ?_;intro d6 ch an;have ae:=ae.mono (Aa (al.trans (am.trans an)));refine Af ?_;refine A4 ?_;obtain⟨a7,h⟩:=Ax h;have ad:=ad.mono (Aa (al.trans (am.trans an)));have hT:=hT.trans (al.trans (am.trans an))
   refine AF (Int×Int×Int×Int×Nat) (λ⟨g,i,m,b,n⟩=>[(1,.func (.func 86) #[] #[SX ba1_c0]),(8,(SX l)),(23,va0_1),(24,No (a0.2.length:Int)),(25,No a),(55,e228v1),(56,No (((a0.2.getD a.toNat Qq7).2).length:Int)),(57,No b)]) (λ⟨g,i,m,b,n⟩ wr=>Cd j (Ha [.box l [No g,No i] 107,.box ba1_c0 [No m] 3,.box c [.string ⟨((a0.2.getD a.toNat Qq7).1).toArray⟩,e228v1] 158,.box o [No a0.1,va0_1] 31] O) wr λOz=>As (.pair .st (.vec TD)) (gz H j wr Oz) va0_1 (a0.2)/\As TD (gz H j wr Oz) e228v1 ((a0.2.getD a.toNat Qq7).2)/\Le (fz w (Ha [.box ba1_c0 [No a1_c0] 3] O)) (fz wr Oz)/\D6 (BY a0 a) n (g,i,m,b)=TI a6) (λ⟨g,i,m,b,n⟩=>n) (0,(-1),c5,0,a7) Z ⟨ch,ad,ae,hT,h⟩ ?_;rintro⟨g,i,m,b,nn330⟩ dk ⟨a8,d,f,hT,h⟩;obtain⟨a7,d7,rfl,h,a9⟩:=Aw h;refine AR ?_;refine Ar h ?_ ?_<;>intro ci h
   ·refine AR ?_;refine Ag h λbj h=>A1 f b.toNat (BP bj) (An bj) ?_;rintro d8 _ ⟨_,_,rfl,rfl,rfl⟩ cj;refine AJ (AU cj (Ae a8))<|Aq F1.e Z a8 λd9 af ck p _=>Ac 0 Z ck Z λbw ah q=>AR ?_;refine Bt h ?_ ?_<;>intro cl h
    ·refine Ag h λdl h=>Ag h λdm h=>Af ?_;have bk:AB j (Ha [.box ba1_c0 [No m] 3,.box af [No ((((a0.2.getD a.toNat Qq7).2).getD b.toNat Qq7).1),No ((((a0.2.getD a.toNat Qq7).2).getD b.toNat Qq7).2)] 107,.box l [No g,No i] 107,.box c [.string ⟨((a0.2.getD a.toNat Qq7).1).toArray⟩,e228v1] 158,.box o [No a0.1,va0_1] 31] O) bw:=ah.BX [2] Z;have ao:=Bb [2] ah bk Z;refine Ah h λc6 cm h=>DR Z Z (CS hH ((Ha [.box af [No ((((a0.2.getD a.toNat Qq7).2).getD b.toNat Qq7).1),No ((((a0.2.getD a.toNat Qq7).2).getD b.toNat Qq7).2)] 107,.box l [No g,No i] 107,.box c [.string ⟨((a0.2.getD a.toNat Qq7).1).toArray⟩,e228v1] 158,.box o [No a0.1,va0_1] 31] O)) (((1+(((a0.2.getD a.toNat Qq7).2).getD b.toNat Qq7).1) - g)) m bk cm) ?_;rintro _ ea ⟨rfl,cn,ap⟩;refine Ag h λdn h=>Af ?_;refine Ah h λbx co h=>?_
     refine DR Z Z (CS hH ((Ha [.box af [No ((((a0.2.getD a.toNat Qq7).2).getD b.toNat Qq7).1),No ((((a0.2.getD a.toNat Qq7).2).getD b.toNat Qq7).2)] 107,.box l [No g,No i] 107,.box c [.string ⟨((a0.2.getD a.toNat Qq7).1).toArray⟩,e228v1] 158,.box o [No a0.1,va0_1] 31] O)) (((((a0.2.getD a.toNat Qq7).2).getD b.toNat Qq7).2+1)) c6 cn co) ?_;rintro _ eb ⟨rfl,cp,aq⟩;refine Af ?_;refine Ac 2 Z cp Z λc7 cq ar=>Ag h λdp h=>Af ?_;have bl:=cq.dT 1 Z;have bm:AB j (Ha [.box l [No ((((a0.2.getD a.toNat Qq7).2).getD b.toNat Qq7).1),No ((((a0.2.getD a.toNat Qq7).2).getD b.toNat Qq7).2)] 107,.box ba1_c0 [No bx] 3,.box c [.string ⟨((a0.2.getD a.toNat Qq7).1).toArray⟩,e228v1] 158,.box o [No a0.1,va0_1] 31] O) c7:=bl.BX [1] Z;have au:=Bb [1] bl bm Z;have h:=AX.again h a9;have d:=d.mono (Aa (p.trans (q.trans (ao.trans (ap.trans (aq.trans (ar.trans ((fz_dT 1 Z).trans au))))))))
     have f:=f.mono (Aa (p.trans (q.trans (ao.trans (ap.trans (aq.trans (ar.trans ((fz_dT 1 Z).trans au))))))));have hT:=hT.trans (p.trans (q.trans (ao.trans (ap.trans (aq.trans (ar.trans ((fz_dT 1 Z).trans au)))))));refine Ak (_,_,_,_,_) Z ⟨bm,d,f,hT,h⟩
    refine FA 1 Z ?_;have bn:AB j (Ha [.box ba1_c0 [No m] 3,.box af [No ((((a0.2.getD a.toNat Qq7).2).getD b.toNat Qq7).1),No ((((a0.2.getD a.toNat Qq7).2).getD b.toNat Qq7).2)] 107,.box l [No g,No i] 107,.box c [.string ⟨((a0.2.getD a.toNat Qq7).1).toArray⟩,e228v1] 158,.box o [No a0.1,va0_1] 31] O) bw:=ah.BX [2] Z;have av:=Bb [2] ah bn Z;refine Ah h λc8 cr h=>DR Z Z (CS hH ((Ha [.box af [No ((((a0.2.getD a.toNat Qq7).2).getD b.toNat Qq7).1),No ((((a0.2.getD a.toNat Qq7).2).getD b.toNat Qq7).2)] 107,.box l [No g,No i] 107,.box c [.string ⟨((a0.2.getD a.toNat Qq7).1).toArray⟩,e228v1] 158,.box o [No a0.1,va0_1] 31] O)) 1 m bn cr) ?_;rintro _ ec ⟨rfl,cs,aw⟩;refine Ag h λdq h=>Af ?_;refine Ah h λbz ct h=>?_
    refine DR Z Z (CS hH ((Ha [.box af [No ((((a0.2.getD a.toNat Qq7).2).getD b.toNat Qq7).1),No ((((a0.2.getD a.toNat Qq7).2).getD b.toNat Qq7).2)] 107,.box l [No g,No i] 107,.box c [.string ⟨((a0.2.getD a.toNat Qq7).1).toArray⟩,e228v1] 158,.box o [No a0.1,va0_1] 31] O)) (((((a0.2.getD a.toNat Qq7).2).getD b.toNat Qq7).2 - i)) c8 cs ct) ?_;rintro _ ed ⟨rfl,cu,ax⟩;refine Af ?_;refine Ac 2 Z cu Z λc9 cv ay=>Ag h λdr h=>Af ?_;have bo:=cv.dT 1 Z;have bp:AB j (Ha [.box l [No ((((a0.2.getD a.toNat Qq7).2).getD b.toNat Qq7).1),No ((((a0.2.getD a.toNat Qq7).2).getD b.toNat Qq7).2)] 107,.box ba1_c0 [No bz] 3,.box c [.string ⟨((a0.2.getD a.toNat Qq7).1).toArray⟩,e228v1] 158,.box o [No a0.1,va0_1] 31] O) c9:=bo.BX [1] Z;have az:=Bb [1] bo bp Z;have h:=AX.again h a9;have d:=d.mono (Aa (p.trans (q.trans (av.trans (aw.trans (ax.trans (ay.trans ((fz_dT 1 Z).trans az))))))))
    have f:=f.mono (Aa (p.trans (q.trans (av.trans (aw.trans (ax.trans (ay.trans ((fz_dT 1 Z).trans az))))))));have hT:=hT.trans (p.trans (q.trans (av.trans (aw.trans (ax.trans (ay.trans ((fz_dT 1 Z).trans az)))))));refine Ak (_,_,_,_,_) Z ⟨bp,d,f,hT,h⟩
   have h:=AX.out h a9;refine Af ?_;have cw:=a8.dT 0 Z;have cx:=cw.dT 1 Z;have d:=d.mono (Aa ((fz_dT 0 Z).trans (fz_dT 1 Z)));have hT:=hT.trans ((fz_dT 0 Z).trans (fz_dT 1 Z));refine Am _ ⟨cx,d,hT,h⟩
  rintro ai ds ⟨cy,bq,hT,h⟩;refine Ag h λdt h=>Af ?_;have h:=AX.again h bd;refine Ak (_,_,_) Z ⟨cy,bq,hT,h⟩
 have h:=AX.out h bd;refine Af ?_
 cases h
 refine KX ?_;have cz:=a5.dT 1 Z;have hT:=hT.trans (fz_dT 1 Z);exact⟨Z,cz,hT⟩
def IU(a0:Int)(a:Xg):Option OP:=
 Xd (GG (a0,a) (0:Int)) (λc=>if 131072<c then Xd (DG (14:Int) (-1:Int)) (λb=>TI ((0,[]),(b.1,b.2)))else TI ((a0,a),(0,0)))
def Ic(a0:Int)(a1:Xg)(b:(List Wl)):Xg×Int->Option ((Xg×Int)⊕OP):=λ⟨c,a⟩=>
 if a<(b.length:Int)then Ay (0<=a/\a<(b.length:Int)) (Ay (Go.E.Dx 40 (c.length+([(b.getD a.toNat Qq7,(Bp [] (b.getD a.toNat Qq7) a1))]).length)) (Ay (AL (a+1)) (TI (Sum.inl ((c++[(b.getD a.toNat Qq7,(Bp [] (b.getD a.toNat Qq7) a1))]),(a+1))))))else Sh Sum.inr ((IU a0) c)
def S9(a0:Int)(a1:Xg)(a:(List Wl))(s:Xg×Int):Option OP:=Go.L.run (Ic a0 a1 a) s
def Pq(a0:Int)(a1:Xg):Option OP:=
 Xd (Ut a1) (λa=>(S9 a0 a1 a) (([]:Xg),0))
section
variable(w:World)(H:PH)(hH:Le H (hp w)) include hH
theorem Qk4{a0:Int}{a1:Xg}{t:Value}(ag:Zw encS (.vec TD) H t a1){r:OP}(h:Pq a0 a1=TI r):
  Pd 45 [No a0,t] w (λv w'=>∃u0,v=.tuple #[.agg #[No r.1.1,u0],.agg #[No r.2.1,No r.2.2]]/\As (.pair .st (.vec TD)) (un H (nw w w')) u0 (r.1.2)):=by
 refine Ai 40 [(0,No a0),(1,t)] func45 Z λhL=>A5<|Aq O7.e Z hL λw1 b1 bs b5 _=>Aq Av.e Z bs λw2 b2 bt b6 _=>Af ?_;refine AJ (A8 (λ_=>AjN _ _))<|Aq O7.e Z bt λw3 b3 bu b7 _=>Ac 0 Z bu Z λw4 ak b8=>Ap<|AA (Xg×Value×LR) (λ⟨s,o,g⟩=>[(4,(SX b1)),(5,(SX b2)),(6,(SX b3))]) (λ⟨s,o,g⟩ wr=>Cd w [.row o 158 2 (s).length g,.box b3 [No a0,o] 31,.box b2 [No 0,No 0] 39,.box b1 [No 0,TO] 31] wr λOz=>Ao (.pair .st (.vec TD)) (gz H w wr Oz) s g/\(IU a0) s=TI r) ?_ ?_
 ·refine FA 1 Z<|A9 ak (Akv _ _ (Ae ak) (ag.mono  Ad)) ?_;intro ce cf a3 a4 y bw;have a5:=a3.mono (Da ak a4);refine Ah h λc a6 h=>A9 y (AfX _ _ (Ae y) a5 a6) ?_;rintro ad cg ⟨_,rfl,al⟩ a7 a8 bx;have p:=al.BB hH y a7;refine Af ?_;refine A4 ?_;obtain⟨a9,au,ba⟩:=B3 (.pair .st (.vec TD)) H 158 a8;obtain⟨am,h⟩:=Ax h;have p:=p.mono (Aa au)
  refine AF (Xg×Int×Value×LR×Nat) (λ⟨d,a,f,b,n⟩=>[(1,t),(4,(SX b1)),(5,(SX b2)),(6,(SX b3)),(14,ad),(15,No (c.length:Int)),(16,No a)]) (λ⟨d,a,f,b,n⟩ wr=>Cd w [.row f 158 2 (d).length b,.box b3 [No a0,f] 31,.box b2 [No 0,No 0] 39,.box b1 [No 0,TO] 31] wr λOz=>As .st (gz H w wr Oz) ad c/\Ao (.pair .st (.vec TD)) (gz H w wr Oz) d b/\D6 (Ic a0 a1 c) n (d,a)=TI r) (λ⟨d,a,f,b,n⟩=>n) (([]:Xg),0,TO,[],am) Z ⟨a9,p,ba,h⟩ ?_;rintro⟨d,a,f,b,nn60⟩ b9 ⟨u,e,j,h⟩;obtain⟨am,ch,rfl,h,an⟩:=Aw h;refine AR ?_;refine Ar h ?_ ?_<;>intro bb h
  ·refine AR ?_;refine Ag h λao h=>A1 e a.toNat (BP ao) (An ao) ?_;rintro ci _ rfl bc;refine sH bc (Ae u)<|Af ?_;refine AeC (k:=c.getD a.toNat Qq7) AlZ zeroValue88 ag (hH.trans u.arg) λcj ap=>AJ (A8 (λ_=>Ad6 _ Z _ ap.one _))<|Bi ([(c.getD a.toNat Qq7,(Bp [] (c.getD a.toNat Qq7) a1))]) (r:=(.pair .st (.vec TD))) (λ_=>AjT _ _ _) u (.c2 ⟨_,_,Z,Z,⟨_,Z,(ap.mono  Ad)⟩⟩ .nil) λck cl ca bd ae be=>Ag h λbf h=>?_;have j:=j.mono (Aa ae);refine Bf (r:=(.pair .st (.vec TD))) 0 d ([(c.getD a.toNat Qq7,(Bp [] (c.getD a.toNat Qq7) a1))]) Z Aer bd Z j be bf λbv cm bg aq av z=>Af ?_;refine BW 1 Z Z (row_one (aq.aT 0 Z)) aq Z Z λcn bh af=>Ag h λcb h=>Af ?_;have h:=AX.again h an;have e:=e.mono (Aa (ae.trans (av.trans af)));have z:=z.mono (Aa af)
   refine Ak (_,_,_,_,_) Z ⟨bh,e,z,h⟩
  have h:=AX.out h an;refine Af ?_;refine Am (_,_,_) ⟨u,j,h⟩
 rintro⟨s,o,g⟩ cc ⟨bi,x,h⟩;refine A5<|Aq DW.e Z bi λco cp bj aw _=>BW 0 Z Z Z bj Z Z λcq ar ax=>Af ?_;have x:=x.mono (Aa (aw.trans ax));have q:=ar.BB hH (i:=1) Z x;have bk:=ar.dT 1 Z;refine Ah h λcr bl h=>D5 (Qqc (a0:=(a0,s)) (a1_c0:=0) (O:=[.box b3 [No a0,o] 31,.box b2 [No 0,No 0] 39,.box b1 [No 0,TO] 31]) hH bk q bl) ?_;rintro _ cs ⟨rfl,aa,ay⟩;refine AR ?_;refine Ar h ?_ ?_<;>intro bm h
 ·refine A5<|AJ (A8 (λ_=>AaM _))<|Ah h λct bn h=>Al aa (C7 _ _ (Ae aa) bn) λcu cd bo bz=>Ac 3 Z bo Z λcv bp b0=>Ac 2 Z bp Z λcw ab b4=>Af ?_
  cases h
  refine AP (.cell Z Xi Z O7.e (box_pT 3 ab Z)) (.cell Z QW Z Av.e (box_pT 2 ab Z)) ⟨ab.ext,_,Z,(As.nil _ _)⟩
 refine Af ?_;refine AJ (A8 (λ_=>Bo _))<|Ac 3 Z aa Z (a:=(AV Z (AV q.one JO))) λcx bq az=>Ac 2 Z bq Z λcy ac a2=>Af ?_
 cases h
 refine AP (.cell Z Xi Z O7.e (box_pT 3 ac Z)) (.cell Z QW Z Av.e (box_pT 2 ac Z)) ?_;have q:=q.mono (Aa (ay.trans (az.trans a2)));exact⟨ac.ext,_,Z,(q.mono  Dl)⟩
def OH(a:Int)(b:Xg):Option ((Xg×Int)⊕OP):=
 Ay (AL (a+1)) (TI (Sum.inl (b,(a+1))))
def Ie(c:Int)(b:Wq×Zv):Xg×Int->Option ((Xg×Int)⊕((Xg×Int)⊕OP)):=λ⟨d,a⟩=>
 if a<(b.1.length:Int)then Ay (0<=a/\a<(b.1.length:Int)) (Ay (Go.E.Dx 16 ((Bp [] ((b.1.getD a.toNat Qq7).1) d).length+1)) (Ay (AL (a+1)) (TI (Sum.inl ((Ea ((b.1.getD a.toNat Qq7).1) ((Bp [] ((b.1.getD a.toNat Qq7).1) d)++[(c,a)]) d),(a+1))))))else Sh Sum.inr ((OH c) d)
def OI(a:Int)(b:Wq×Zv)(s:Xg×Int):Option ((Xg×Int)⊕OP):=Go.L.run (Ie a b) s
def IV(a0:List Wl)(b:Xg):Option OP:=
 Xd (Pq (a0.length:Int) b) (λa=>TI ((a.1.1,a.1.2),(a.2.1,a.2.2)))
def Fh(a0:List Wl):Xg×Int->Option ((Xg×Int)⊕OP):=λ⟨c,a⟩=>
 if a<(a0.length:Int)then Ay (0<=a/\a<(a0.length:Int)) (Xd (KH (a0.getD a.toNat Qq7)) (λb=>if b.2.1=0/\b.2.2=0 then(OI a b) (c,0)else Xd (DG b.2.1 a) (λd=>Sh Sum.inr (TI ((0,[]),(d.1,d.2))))))else Sh Sum.inr ((IV a0) c)
def Amm(a0:List Wl)(s:Xg×Int):Option OP:=Go.L.run (Fh a0) s
def Na(a0:List Wl):Option OP:=
 if 64<(a0.length:Int)then Xd (DG (2:Int) (-1:Int)) (λa=>TI ((0,[]),(a.1,a.2)))else(Amm a0) (([]:Xg),0)
theorem Agv(hU:E1 H){a0:List Wl}{m:Value}(cb:As (.vec .byte) H m a0){r:OP}(h:Na a0=TI r):
  Pd 17 [m] w (λv w'=>∃u0,v=.tuple #[.agg #[No r.1.1,u0],.agg #[No r.2.1,No r.2.2]]/\As (.pair .st (.vec TD)) (un H (nw w w')) u0 (r.1.2)):=by
 refine Ai 64 [(0,m)] func17 Z λhL=>A5<|Aq O7.e Z hL λw1 b1 ce cz _=>Aq Av.e Z ce λw2 b2 a1 c0 _=>AR ?_;refine Ar h ?_ ?_<;>intro cf h
 ·refine A5<|AJ (A8 (λ_=>AaM _))<|Ah h λx5 cg h=>Al a1 (C7 _ _ (Ae a1) cg) λw6 dt ch c1=>Ac 1 Z ch Z λw7 ci c3=>Ac 0 Z ci Z λw8 a2 c4=>Af ?_
  cases h
  refine AP (.cell Z Xi Z O7.e (box_pT 1 a2 Z)) (.cell Z QW Z Av.e (box_pT 0 a2 Z)) ⟨a2.ext,_,Z,(As.nil _ _)⟩
 refine Af ?_;refine ZP encS Wn a1 λdu o cc cq=>BJ 1 Z<|AA (Xg×LR) (λ⟨t,vsl142⟩=>[(0,m),(2,(SX b1)),(3,(SX b2)),(4,.map (TI o))]) (λ⟨t,vsl142⟩ wr=>Cd w (Ha [TN encS o t vsl142,.box b2 [No 0,No 0] 39,.box b1 [No 0,TO] 31] (mT XM 107 2 t vsl142)) wr λOz=>(t).length=(vsl142).length/\(IV a0) t=TI r) ?_ ?_
 ·refine Af ?_;refine A4 ?_;obtain⟨ap,h⟩:=Ax h;refine AF (Xg×Int×LR×Nat) (λ⟨p,c,vsl209,n⟩=>[(0,m),(2,(SX b1)),(3,(SX b2)),(4,.map (TI o)),(17,m),(18,No (a0.length:Int)),(19,No c)]) (λ⟨p,c,vsl209,n⟩ wr=>Cd w (Ha [TN encS o p vsl209,.box b2 [No 0,No 0] 39,.box b1 [No 0,TO] 31] (mT XM 107 2 p vsl209)) wr λOz=>(p).length=(vsl209).length/\D6 (Fh a0) n (p,c)=TI r) (λ⟨p,c,vsl209,n⟩=>n) (([]:Xg),0,([]:LR),ap) Z ⟨cc,Z,h⟩ ?_;rintro⟨p,c,vsl209,nn211⟩ cr ⟨aa,an,h⟩;obtain⟨ap,a3,rfl,h,ag⟩:=Aw h;refine AR ?_;refine Ar h ?_ ?_<;>intro bh h
  ·refine Af ?_;refine AA (Xg×LR) (λ⟨y,vsl273⟩=>[(0,m),(2,(SX b1)),(3,(SX b2)),(4,.map (TI o)),(17,m),(18,No (a0.length:Int)),(19,No c)]) (λ⟨y,vsl273⟩ wr=>Cd w (Ha [TN encS o y vsl273,.box b2 [No 0,No 0] 39,.box b1 [No 0,TO] 31] (mT XM 107 2 y vsl273)) wr λOz=>(y).length=(vsl273).length/\(OH c) y=TI a3) ?_ ?_
   ·refine AR ?_;refine Ag h λar h=>A1 cb c.toNat (BP ar) (An ar) ?_;rintro c5 _ ⟨e276v0,rfl,e276h0⟩ bi;refine sH bi (hH.trans aa.arg)<|Af ?_;refine Ah h λb bj h=>A9 aa (Qx0 _ _ (Ae aa) (hU.mono  Ad) (e276h0.mono  Ad) bj) ?_;rintro _ c6 ⟨ao,rfl,ay⟩ bk bl cj;have ad:=ay.BB hH aa bk;refine AK 3 Z<|Aq Av.e Z bl λc7 ae bm a4 _=>AK 1 Z<|Ac 0 Z bm Z λc8 ah a5=>AR ?_;refine AJ (A8 (λ_=>Bo _))<|AJ (I4 Ge (KO _ _ _ _))<|Ap<|Bt h ?_ ?_<;>intro bn h
    ·refine A5<|AJ (A8 (λ_=>AaM _))<|Af ?_;refine Ah h λc9 bo h=>Al ah (C7 _ _ (Ae ah) bo) λda cs bp ck=>Ac 3 Z bp Z λdb bq cl=>Ac 2 Z bq Z ?_;intro dc ai cm;have h:=AX.out h ag;refine Af ?_
     cases h
     refine AP (.cell Z Xi Z O7.e (box_pT 3 ai Z)) (.cell Z QW Z Av.e (box_pT 2 ai Z)) ⟨ai.ext,_,Z,(As.nil _ _)⟩
    have ad:=ad.mono (Aa (a4.trans a5));refine Af ?_;refine A4 ?_;obtain⟨aq,h⟩:=Ax h;refine AF (Xg×Int×LR×Nat) (λ⟨d,a,vsl310,n⟩=>[(0,m),(2,(SX b1)),(3,(SX b2)),(4,.map (TI o)),(5,No c),(17,m),(18,No (a0.length:Int)),(19,No c),(37,ao),(38,No (b.1.length:Int)),(39,No a)]) (λ⟨d,a,vsl310,n⟩ wr=>Cd w (Ha [.box ae [No b.2.1,No b.2.2] 39,TN encS o d vsl310,.box b2 [No 0,No 0] 39,.box b1 [No 0,TO] 31] (mT XM 107 2 d vsl310)) wr λOz=>As (.pair .st TD) (gz H w wr Oz) ao (b.1)/\(d).length=(vsl310).length/\D6 (Ie c b) n (d,a)=TI a3) (λ⟨d,a,vsl310,n⟩=>n) (p,0,vsl209,aq) Z ⟨ah,ad,an,h⟩ ?_;rintro⟨d,a,vsl310,nn312⟩ ct ⟨aj,u,af,h⟩;obtain⟨aq,dd,rfl,h,au⟩:=Aw h;refine AR ?_;refine Ar h ?_ ?_<;>intro br h
    ·refine AR ?_;refine Ag h λav h=>A1 u a.toNat (BP av) (An av) ?_;rintro de _ ⟨_,_,rfl,rfl,⟨_,_,rfl,rfl,rfl⟩⟩ bs;refine AJ (AU bs (Ae aj))<|Aq O8.e Z aj λdf ak bt a6 _=>AK 1 Z<|Ac 0 Z bt Z λdg aw a7=>Ap ?_
     refine Ik (Ew (VF (Pj (Ew (Ew (KZ (Pj (Ew (KZ MF))))))))) (λz0 z=>Le (gz H w z0 (Ha [.box ak [.string ⟨((b.1.getD a.toNat Qq7).1).toArray⟩,No ((b.1.getD a.toNat Qq7).2.1),No ((b.1.getD a.toNat Qq7).2.2)] 105,.box ae [No b.2.1,No b.2.2] 39,TN encS o d vsl310,.box b2 [No 0,No 0] 39,.box b1 [No 0,TO] 31] (mT XM 107 2 d vsl310))) (hp z)/\z.heap[ak]? = TI (.cells [.string ⟨((b.1.getD a.toNat Qq7).1).toArray⟩,No ((b.1.getD a.toNat Qq7).2.1),No ((b.1.getD a.toNat Qq7).2.2)].toArray 105 (0,0))/\z.heap[ae]? = TI (.cells [No b.2.1,No b.2.2].toArray 39 (0,0))/\z.heap[b2]? = TI (.cells [No 0,No 0].toArray 39 (0,0))/\z.heap[b1]? = TI (.cells [No 0,TO].toArray 31 (0,0))/\z.heap[o]? = TI (.map (mE encS 0 ((d).map TJ) vsl310).toArray (d).length)) mixed Z (λf di ax=>?_);have j:=aw.call ax;have a8:=A3 aw ax;have g:=j.rG H;refine MG ⟨g.trans (Ae j),j.aT 0 Z,j.aT 1 Z,j.aT 3 Z,j.aT 4 Z,j.aT 2 Z⟩ λkI323=>?_
     refine Au 0 f kI323 Z (λ_ _=>Az Z) Z<|Au 1 f kI323 Z (λ_ _=>A7 Z Tk Z E7.e) Z<|Au 2 f kI323 Z (λ_ hI=>JV Z hI.2.1 Z) Z<|Au 3 f kI323 Z (λ_ _=>Az Z) Z<|Au 4 f kI323 Z (λ_ _=>A7 Z Tk Z E7.e) Z<|Au 5 f kI323 Z (λ_ hI=>JV Z hI.2.1 Z) Z<|Au 6 f kI323 Z (λ_ hI=>AjJ (k:=(b.1.getD a.toNat Qq7).1) (enc:=encS) Z AlZ zeroValue88 hI.2.2.2.2.2 (by rw[Vx];exact af)) Z<|Au 7 f kI323 Z (λ_ _=>Az Z) Z<|Au 8 f kI323 Z (λ_ _=>Az Z) Z<|Au 9 f kI323 Z (λ_ _=>A8 (λ_=>Uq _ _ _)) Z<|Jr 10 Z<|Bi [(c,a)] (r:=TD) (λ_=>AaR _ _ _) j (.c2 ⟨_,_,Z,Z,Z⟩ .nil) ?_;intro dj dk cu q a9 bu;have g:=g.trans (Aa a9)
     refine AS ⟨g.trans (Ae q),q.aT 0 Z,q.aT 1 Z,q.aT 3 Z,q.aT 4 Z,q.aT 2 Z⟩ λkI325=>Jr 11 Z<|Ag h λbv h=>Ahl (A:=[.box ak [.string ⟨((b.1.getD a.toNat Qq7).1).toArray⟩,No ((b.1.getD a.toNat Qq7).2.1),No ((b.1.getD a.toNat Qq7).2.2)] 105,.box ae [No b.2.1,No b.2.2] 39,TN encS o d vsl310,.box b2 [No 0,No 0] 39,.box b1 [No 0,TO] 31]) (l:=d) (vs:=vsl310) (k:=(b.1.getD a.toNat Qq7).1) (z:=(c,a)) (r:=TD) (H:=H) Ahm Z PT Y5 hH q af bu bv ?_;intro dl dm T327 ba s bb;have g:=g.trans (Aa bb);refine AS ⟨g.trans (Ae s),s.aT 0 Z,s.aT 1 Z,s.aT 3 Z,s.aT 4 Z,s.aT 2 Z⟩ λkI329=>Jr 12 Z ?_
     refine AlS (A:=[.box ak [.string ⟨((b.1.getD a.toNat Qq7).1).toArray⟩,No ((b.1.getD a.toNat Qq7).2.1),No ((b.1.getD a.toNat Qq7).2.2)] 105,.box ae [No b.2.1,No b.2.2] 39,TN encS o d vsl310,.box b2 [No 0,No 0] 39,.box b1 [No 0,TO] 31]) (T:=T327) 2 ba Z AlZ s Z λbw dn bx bz bc=>Kq<|FF<|Ag h λcv h=>Af ?_;have b0:=bz.dT 0 Z;have h:=AX.again h au;have u:=u.mono (Aa (a6.trans (a7.trans a8)));have g:=g.trans (Aa (bc.trans (fz_dT 0 Z)));refine Ak (_,_,_,_) Z ⟨b0,(u.mono g),bx,h⟩
    have h:=AX.out h au;refine Af ?_;have b3:=aj.dT 0 Z;refine Am (_,_) ⟨b3,af,h⟩
   rintro⟨y,vsl273⟩ cw ⟨b4,bd,h⟩;refine Ag h λcx h=>Af ?_;have h:=AX.again h ag;refine Ak (_,_,_,_) Z ⟨b4,bd,h⟩
  have h:=AX.out h ag;refine Af ?_;refine Am (_,_) ⟨aa,an,h⟩
 rintro⟨t,vsl142⟩ cy ⟨b5,be,h⟩;refine Af ?_;obtain⟨al,cn,b6⟩:=AeB (A:=[TN encS o t vsl142,.box b2 [No 0,No 0] 39,.box b1 [No 0,TO] 31]) (l:=t) (vs:=vsl142) (e:=107) (r:=TD) 0 Z Ahm hH be b5 Z;refine Ah h λdp b7 h=>A9 al (Qk4 _ _ (Ae al) b6 b7) ?_;rintro _ dq ⟨co,rfl,az⟩ b8 b9 cp;have x:=az.mono (Da al b8);refine AK 2 Z<|Ac 1 Z b9 Z (a:=(AV Z (AV x.one JO))) λdr ca bf=>Ac 0 Z ca Z λds am bg=>Af ?_
 cases h
 refine AP (.cell Z Xi Z O7.e (box_pT 1 am Z)) (.cell Z QW Z Av.e (box_pT 0 am Z)) ?_;have x:=x.mono (Aa (bf.trans bg));exact⟨am.ext,_,Z,(x.mono  Dl)⟩
end
end Go.Proofs.YtgaljodghpgdmaaGreatDoor
end
noncomputable section
namespace Go.L
open Go Go.Proofs.YtgaljodghpgdmaaGreatDoor
abbrev HW:=Int×Int
abbrev HM:=List (Qm×List HW)
section
variable {κ β:Type} [DecidableEq κ]
theorem AeD(d:β)(k k':κ)(y:β):∀M:List (κ×β),Bp d k' (Ea k y M)=if k'=k then y else Bp d k' M
 | []=>by
  unfold Ea Bp
  by_cases h:k'=k
  ·rw[Xu h,Xu h]
  ·rw[Pb h,Pb h];rfl
 | (a,z)::l=>by
  unfold Ea
  by_cases h:k=a
  ·rw[Xu h];subst h
   by_cases b:k'=k
   ·simp only[Bp];rw[Xu b,Xu b]
   ·simp only[Bp];rw[Pb b,Pb b,Pb b]
  ·rw[Pb h];simp only[Bp];rw[AeD d k k' y l]
   by_cases b:k'=a
   ·rw[Xu b,Xu b,Pb (λe=>h (e.symm.trans b))]
   ·rw[Pb b,Pb b]
theorem VZ(k:κ)(y:β):∀M:List (κ×β),(Ea k y M).map TJ=if k∈M.map TJ then M.map TJ else M.map TJ++[k]
 | []=>by simp[Ea]
 | (a,z)::l=>by
  unfold Ea
  by_cases h:k=a
  ·rw[Xu h];simp[h]
  ·rw[Pb h,Yu,VZ k y l,Yu]
   by_cases b:k∈l.map TJ
   ·rw[Xu b,Xu (RT _ b)]
   ·rw[Pb b,Pb (by simp only[R7,not_or];exact⟨h,b⟩)]
    rfl
theorem Wa(d:β)(k:κ):∀M:List (κ×β),k∉M.map TJ->Bp d k M=d
 | [],_=>rfl
 | (a,z)::l,h=>by
  simp only[Yu,R7,not_or]at h;unfold Bp;rw[Pb h.1];exact Wa d k l h.2
end
def Lt(M:HM)(p:Qm×HW):HM:=Ea p.1 (Bp [] p.1 M++[p.2]) M
def F0(P:List (Qm×HW))(w:Qm):List HW:=(P.filter λp=>p.1=w).map Prod.snd
theorem add_get(w:Qm):∀(P:List (Qm×HW)) (M:HM),Bp [] w (P.foldl Lt M)=Bp [] w M++F0 P w
 | [],M=>by simp[F0]
 | p::P,M=>by
  rw[List.foldl_cons,add_get w P];unfold Lt;rw[AeD];unfold F0
  by_cases h:w=p.1
  ·subst h;simp
  ·rw[Pb h];rw[List.filter_cons_of_neg (by simpa using λe=>h e.symm)]
theorem YN:∀(P:List (Qm×HW)) (M:HM) (k:Qm),k∈(P.foldl Lt M).map TJ↔k∈M.map TJ\/k∈P.map TJ
 | [],M,k=>by simp
 | p::P,M,k=>by
  rw[List.foldl_cons,YN P];unfold Lt;rw[VZ]
  by_cases h:p.1∈M.map TJ
  ·rw[Xu h,Yu,R7]
   constructor
   ·rintro(a | a)
    ·exact .inl a
    ·exact .inr (.inr a)
   ·rintro(a | a | a)
    ·exact .inl a
    ·exact .inl (a ▸ h)
    ·exact .inr a
  ·rw[Pb h,Yu,R7,MY,TG]
   constructor
   ·rintro((a | a) | a)
    ·exact .inl a
    ·exact .inr (.inl a)
    ·exact .inr (.inr a)
   ·rintro(a | a | a)
    ·exact .inl (.inl a)
    ·exact .inl (.inr a)
    ·exact .inr a
theorem Ty:∀(P:List (Qm×HW)) (M:HM),(M.map TJ).Nodup->((P.foldl Lt M).map TJ).Nodup
 | [],_,h=>h
 | p::P,M,h=>by
  rw[List.foldl_cons];refine Ty P _ ?_;unfold Lt;rw[VZ]
  by_cases c:p.1∈M.map TJ
  ·rw[Xu c];exact h
  ·rw[Pb c];refine P3.2 ⟨h,by simp,λa ha b hb e=>?_⟩;rw[TG]at hb;exact c (hb ▸ e ▸ ha)
def OJ(P:List (Qm×HW))(w:Qm):(F0 P w).length<=P.length:=by
 unfold F0;rw[Vx];exact List.length_filter_le _ _
def Et(i:Int)(l:List W):List (Qm×HW):=(l.zipIdx).map λx=>(x.1.1,(i,((x.2:Nat):Int)))
def Nc(i:Int)(l:List W):(Et i l).length=l.length:=by unfold Et;rw[Vx,List.length_zipIdx]
def WE(i:Int)(l:List W)(k:Nat)(hk:k<l.length):(Et i l)[k]? = TI ((l.getD k Qq7).1,(i,(k:Int))):=by
 unfold Et;rw[Y9,List.getElem?_zipIdx,Pa hk,Sb,Pa hk];simp
def Abg(i:Int)(l:List W)(k:Nat)(hk:k<l.length)(M:HM):((Et i l).take (k+1)).foldl Lt M=Lt (((Et i l).take k).foldl Lt M) ((l.getD k Qq7).1,(i,(k:Int))):=by
 rw[Vf,WE i l k hk,List.foldl_append]
 rfl
def Ck:Nat->Sa->List (Qm×HW)
 | _,[]=>[]
 | i,t::r=>Et (i:Int) (Tu t)++Ck (i+1) r
theorem Aah:∀(i:Nat) (r:Sa),(∀t∈r,t.length<=2048)->(Ck i r).length<=r.length * 2049
 | _,[],_=>by simp[Ck]
 | i,t::r,h=>by
  unfold Ck;rw[T6,Nc,PF];have a:=XC t;have h2:=Aah (i+1) r (λx hx=>h x (RT _ hx));have h3:=h t (SZ ..);omega
end Go.L
namespace Go.L
def Of:Nat->Sa->Option Nat
 | _,[]=>none
 | i,t::r=>if 2048<t.length then TI i else Of (i+1) r
end Go.L
namespace Go.Proofs.YtgaljodghpgdmaaGreatDoor
open Go Go.L
def AhS(i:Nat)(l:List W)(M:HM)(hl:l.length<=3000)(hi:i<=100)(hM:∀w,(Bp [] w M).length<=1000000):
  OI (i:Int) (l,(0,0)) (M,0)=TI (.inl ((Et (i:Int) l).foldl Lt M,((i+1:Nat):Int))):=by
 unfold OI
 have key:=BM (b:=Ie (i:Int) (l,(0,0))) (m:=TI (.inl ((Et (i:Int) l).foldl Lt M,((i+1:Nat):Int)))) (λk=>(((Et (i:Int) l).take k).foldl Lt M,((k:Nat):Int))) l.length (λk hk=>by
  unfold Ie;simp only
  have a:(Bp [] (l.getD k Qq7).1 (((Et (i:Int) l).take k).foldl Lt M)).length<=1003000:=by
   rw[add_get,T6];have h2:=OJ ((Et (i:Int) l).take k) (l.getD k Qq7).1;rw[Y4,Nc]at h2;have h3:=hM (l.getD k Qq7).1;omega
  rw[Xu U,Ab ⟨by omega,by omega⟩,SV,Ab U,Ab U,Abg (i:Int) l k hk M]
  rfl) (by
  unfold Ie OH;simp only;rw[Pb U,Ab U,Sg (by rw[Nc];exact KN _)]
  congr 3) 0 (hi:=(by omega))
 exact key
theorem Aai(items:Sa)(hn:items.length<=64):∀(r:Sa) (i:Nat) (M:HM),items.drop i=r->i<=items.length->(∀w,(Bp [] w M).length<=i * 3000)->
  run (Fh items) (M,(i:Int))=match Of i r with | some j=>some ((0,[]),(3,(j:Int))) | none=>IV items ((Ck i r).foldl Lt M)
 | [],i,M,hd,hi,hM=>by
  have hlen:=congrArg XQ hd;rw[U1,RZ]at hlen;unfold Of Ck;refine A2 ?_;unfold Fh;simp only;rw[Pb U]
  rfl
 | t::r,i,M,hd,hi,hM=>by
  have hlen:=congrArg XQ hd;rw[U1,PF]at hlen
  have hg:items.getD i Qq7=t:=by
   have:=congrArg (·[0]?) hd;simp only[Vk,R3,Pf]at this;rw[Sb,this]
   rfl
  have hd':items.drop (i+1)=r:=by rw[<- U4,hd];rfl
  unfold Of
  by_cases h:2048<t.length
  ·rw[Xu h];refine A2 ?_;unfold Fh;simp only;rw[Xu U,Ab ⟨by omega,by omega⟩,SV,hg,AdI h,Wo,Pb Rg]
   rfl
  ·rw[Pb h];have hw:=XC t
   have hb:Fh items (M,(i:Int))=TI (.inl ((Et (i:Int) (Tu t)).foldl Lt M,((i+1:Nat):Int))):=by
    unfold Fh;simp only;rw[Xu U,Ab ⟨by omega,by omega⟩,SV,hg,AhQ U,Wo,Xu ⟨Z,Z⟩];exact AhS i (Tu t) M U U (λw=>by have:=hM w;omega)
   rw[AE hb,Aai items hn r (i+1) _ hd' U (λw=>by
    rw[add_get,T6];have a:=OJ (Et (i:Int) (Tu t)) w;rw[Nc]at a;have h2:=hM w;omega)]
   have e:(Ck i (t::r)).foldl Lt M=(Ck (i+1) r).foldl Lt ((Et (i:Int) (Tu t)).foldl Lt M):=by
    rw[Ck,List.foldl_append]
   rw[e]
def AfY(items:Sa):Na items=if 64<items.length then some ((0,[]),(2,-1))else match Of 0 items with | some j=>some ((0,[]),(3,(j:Int))) | none=>IV items ((Ck 0 items).foldl Lt []):=by
 unfold Na
 by_cases h:64<items.length
 ·rw[Xu U,Xu h]
  rfl
 ·rw[Pb U,Pb h];exact Aai items U items 0 [] Z U (λw=>by simp[Bp])
end Go.Proofs.YtgaljodghpgdmaaGreatDoor
end
noncomputable section
namespace Go.L
open Go Go.Proofs.YtgaljodghpgdmaaGreatDoor
def YO{cur:Qm}{fr at' n:Nat}(h:cur.length<=n):∀w∈fin cur fr at',w.1.length<=n:=by
 intro w hw;unfold fin at hw
 split at hw
 ·cases hw
 ·rw[TG.1 hw];exact h
theorem YP{a:Qm}:∀(f at':Nat) (cur:Qm) (fr:Nat),at'<=a.length->cur.length<=at'->∀w∈WC a f at' cur fr,w.1.length<=a.length
 | 0,at',cur,fr,h,hc=>YO U
 | f+1,at',cur,fr,h,hc=>by
  intro w hw;unfold WC at hw
  split at hw
  ·rename_i b
   split at hw
   ·rcases MY.1 hw with hw | hw
    ·exact YO U w hw
    ·exact YP f (at'+1) [] (at'+1) U Rg w hw
   ·exact YP f _ _ fr (Qq b) (by rw[T6,XB b];omega) w hw
  ·exact YO U w hw
def Ac8(a:Qm):∀w∈Tu a,w.1.length<=a.length:=YP _ 0 [] 0 (Tg _) (KN _)
theorem YQ:∀(i:Nat) (r:Sa),(∀t∈r,t.length<=2048)->∀k∈(Ck i r).map TJ,k.length<=2048
 | _,[],_,k,hk=>by cases hk
 | i,t::r,h,k,hk=>by
  unfold Ck at hk;rw[List.map_append]at hk
  rcases MY.1 hk with hk | hk
  ·obtain⟨x,hx,rfl⟩:=Rr.1 hk;unfold Et at hx;obtain⟨y,hy,rfl⟩:=Rr.1 hx
   have a:y.1∈Tu t:=by
    have:=List.mem_zipIdx' hy;rw[this.2];exact Rs _
   exact RU (Ac8 t y.1 a) (h t (SZ ..))
  ·exact YQ (i+1) r (λx hx=>h x (RT _ hx)) k hk
def RW(M:HM):HM:=((M.map TJ).mergeSort leB).map λk=>(k,Bp [] k M)
def Ac9(M:HM):(RW M).length=M.length:=by unfold RW;rw[Vx,YJ,Vx]
end Go.L
namespace Go.Proofs.YtgaljodghpgdmaaGreatDoor
open Go Go.L
def AdJ(n:Int)(M:HM)(hf:XD M)(hm:M.length<=1000000):Pq n M=IU n (RW M):=by
 unfold Pq Ut;rw[Ss];rw[Ab hf,Wo];unfold S9;have hl:((M.map TJ).mergeSort leB).length=M.length:=by rw[YJ,Vx]
 have key:=BM (b:=Ic n M ((M.map TJ).mergeSort leB)) (m:=IU n (RW M)) (λk=>((RW M).take k,((k:Nat):Int))) M.length (λk hk=>by
  unfold Ic;simp only
  have a:(RW M).take (k+1)=(RW M).take k++[(((M.map TJ).mergeSort leB).getD k Qq7,Bp [] (((M.map TJ).mergeSort leB).getD k Qq7) M)]:=by
   rw[Vf]
   congr 1
   unfold RW;rw[Y9,Sb,Pa U]
   rfl
  have h2:((RW M).take k).length<=1000000:=by rw[Y4];omega
  rw[Xu U,Ab ⟨by omega,by omega⟩,SV,Ab (by rw[List.length_singleton];constructor <;> omega),Ab U,a]
  rfl) (by
  unfold Ic;simp only;rw[Pb U,Sg (by rw[Ac9];exact KN _)]) 0 (hi:=(by omega))
 exact key
end Go.Proofs.YtgaljodghpgdmaaGreatDoor
namespace Go.L
open Go
def SA(n:Nat):Nat:=if n=0 then 0 else n.log2+1
def Abh{n k:Nat}(h:n<2 ^ k):SA n<=k:=by
 unfold SA
 split
 ·omega
 ·rename_i a;have:=(Nat.log2_lt a).2 h;omega
def AcA{n k:Nat}(h:2 ^ k<=n):SA n=SA (n / 2 ^ k)+k:=by
 have hp:0<2 ^ k:=Nat.two_pow_pos k;have hn:n≠0:=by omega
 have hm:n / 2 ^ k≠0:=by
  have:=Nat.div_pos h hp;omega
 unfold SA;rw[Pb hn,Pb hm]
 have a:n.log2<=(n / 2 ^ k).log2+k:=by
  have h2:n / 2 ^ k<2 ^ ((n / 2 ^ k).log2+1):=Nat.lt_log2_self
  have h3:n<2 ^ ((n / 2 ^ k).log2+1+k):=by
   rw[Nat.pow_add];exact(Nat.div_lt_iff_lt_mul hp).1 h2
  have:=(Nat.log2_lt hn).2 h3;omega
 have h2:(n / 2 ^ k).log2+k<=n.log2:=by
  rw[Nat.le_log2 hn,Nat.pow_add];exact RU (Nat.mul_le_mul_right _ (Nat.log2_self_le hm)) (Nat.div_mul_le_self n (2 ^ k))
 omega
end Go.L
namespace Go.Proofs.YtgaljodghpgdmaaGreatDoor
open Go Go.L
def Ao9:∀i:Fin 256,E0 ((i.val:Nat):Int) 0=TI ((SA i.val:Nat):Int):=by decide +kernel
def AhT{s:Nat}(hs:s<256){c:Int}(b:0<=c)(d:c<=100):E0 (s:Int) c=TI (c+((SA s:Nat):Int)):=by
 have h:=Ao9 ⟨s,hs⟩;have hb:SA s<=8:=Abh U;simp only at h;unfold E0 at h ⊢;obtain⟨a,h⟩:=Fp h;obtain⟨_,h⟩:=Fp h;have hT:=Option.some.inj h;rw[Int.zero_add]at hT;rw[Ab a,hT,Ab U]
def AhU{n:Nat}(hn:n<16777216):Ks (n:Int)=TI ((SA n:Nat):Int):=by
 unfold Ks Hw Hv;rw[Pb U]
 by_cases a:65536<=n
 ·have e:(n:Int) / 65536=((n / 65536:Nat):Int):=by omega
  rw[Xu U,Ab U,e,Pb U,AhT U U U,AcA (n:=n) (k:=16) U]
  congr 1
  show 16+((SA (n / 65536):Nat):Int)=((SA (n / 65536)+16:Nat):Int)
  omega
 ·rw[Pb U]
  by_cases h2:256<=n
  ·have e:(n:Int) / 256=((n / 256:Nat):Int):=by omega
   rw[Xu U,Ab U,e,AhT U U U,AcA (n:=n) (k:=8) U]
   congr 1
   show 8+((SA (n / 256):Nat):Int)=((SA (n / 256)+8:Nat):Int)
   omega
  ·rw[Pb U,AhT U U U,Int.zero_add]
def gzw(n:Nat):Nat:=if n=0 then 0 else 2 * SA n - 1
def AhV{n:Nat}(hn:n<16777216):GW (n:Int)=TI ((gzw n:Nat):Int):=by
 unfold GW gzw PD
 by_cases h:n=0
 ·rw[Xu U,Xu h];rfl
 ·have hb:SA n<=24:=Abh U;have hp:1<=SA n:=by unfold SA;rw[Pb h];omega
  have hw:IntKind.u64.wrap (n:Int)=(n:Int):=by simp[IntKind.wrap,IntKind.signed,IntKind.bits];omega
  rw[Pb U,Pb h,hw,AhU hn,Wo,Wo,Ab U,Ab U]
  congr 1
  omega
def PM{n:Nat}(k:Nat)(h:n<2 ^ k:=by omega)(_hk:1<=k:=by decide):gzw n<=2 * k - 1:=by
 unfold gzw;have:=Abh h
 split <;> omega
end Go.Proofs.YtgaljodghpgdmaaGreatDoor
end
noncomputable section
namespace Go.L
open Go Go.Proofs.YtgaljodghpgdmaaGreatDoor
section
variable {σ ρ α:Type}
theorem Mv{b:σ->Option (σ⊕ρ)}{s:σ}{m:Option α}{k:α->Option (σ⊕ρ)}{R:α->Option ρ}(h:b s=m.bind k)(hs:∀x,b s=k x->run b s=R x):run b s=m.bind R:=by
 cases m with
 | none=>exact A2 (m:=none) h
 | some x=>exact hs x h
def bcg{β:Type}{m:Option α}{f g:α->Option β}(h:∀x,f x=g x):m.bind f=m.bind g:=congrArg _ (funext h)
def fm(f:Int->σ->Option σ):SB->σ->Option σ
 | [],c=>TI c
 | n::r,c=>(f n c).bind (fm f r)
theorem AdK(f:Int->σ->Option σ):∀(l r:SB) (c:σ),fm f (l++r) c=(fm f l c).bind (fm f r)
 | [],_,_=>rfl
 | n::l,r,c=>by
  show(f n c).bind (fm f (l++r))=((f n c).bind (fm f l)).bind (fm f r)
  rw[WY];refine bcg λx=>AdK f l r x
end
def NG:HW->List HW->SB
 | _,[]=>[]
 | p,h::r=>(if h.1=p.1 then[1,h.2 - p.2]else[1+h.1 - p.1,h.2+1])++NG h r
def TY(b:UInt8):Int:=(b.toNat:Int)+1
def Xh(e:Qm×List HW):SB:=(e.1.length:Int)::(e.1.map TY++((e.2.length:Int)::NG (0,-1) e.2))
def RH(x:Int×HM):SB:=(x.1+1)::((x.2.length:Int)+1)::x.2.flatMap Xh
def HB(h:HW):Prop:=0<=h.1/\h.1<=1000000000/\-1<=h.2/\h.2<=1000000000
def EB(e:Qm×List HW):Prop:=e.1.length<=1000000000/\e.2.length<=1000000000/\∀h∈e.2,HB h
end Go.L
namespace Go.Proofs.YtgaljodghpgdmaaGreatDoor
open Go Go.L
theorem AhW{a:Int×HM}{i:Nat}(hi:i<1000000000){H:List HW}(hH:H.length<=1000000000)(he:(a.2.getD i Qq7).2=H):∀(r:List HW) (j:Nat) (p:HW) (c:Int),H.drop j=r->j<=H.length->HB p->(∀h∈r,HB h)->
  run (BY a (i:Int)) (p.1,p.2,c,(j:Int))=(fm AI (NG p r) c).bind λc=>TI (.inl (c,((i+1:Nat):Int)))
 | [],j,p,c,hd,hj,hp,hr=>by
  have hlen:=congrArg XQ hd;rw[U1,RZ]at hlen
  show _=TI (Sum.inl (c,((i+1:Nat):Int)))
  refine A2 ?_;unfold BY H9;simp only;rw[SV,he,Pb U,Ab U]
  congr 3
 | h::r,j,p,c,hd,hj,hp,hr=>by
  have hlen:=congrArg XQ hd;rw[U1,PF]at hlen
  have hg:H.getD j Qq7=h:=by
   have:=congrArg (·[0]?) hd;simp only[Vk,R3,Pf]at this;rw[Sb,this]
   rfl
  have hd':H.drop (j+1)=r:=by rw[<- U4,hd];rfl
  obtain⟨b,h2,h3,d⟩:=hr h (SZ ..);obtain⟨e,f,g,k⟩:=hp;have ej:((j:Nat):Int)+1=((j+1:Nat):Int):=by omega
  have ih:=λc=>AhW hi hH he r (j+1) h c hd' U ⟨b,h2,h3,d⟩ (λx hx=>hr x (RT _ hx));unfold NG;rw[AdK,WY]
  by_cases hs:h.1=p.1
  ·rw[Xu hs]
   show _=Xd (Xd (AI 1 c) (λx=>Xd (AI (h.2 - p.2) x) TI)) _
   rw[WY]
   have hb:BY a (i:Int) (p.1,p.2,c,(j:Int))=Xd (AI 1 c) (λx=>Xd (AI (h.2 - p.2) x) (λy=>TI (.inl (h.1,h.2,y,((j+1:Nat):Int))))):=by
    unfold BY;simp only;rw[SV,he,Xu U,Ab ⟨by omega,by omega⟩,SV,hg,Xu hs,ej];refine bcg λx=>?_;rw[Ab U];refine bcg λy=>?_;rw[Ab U]
   refine Mv hb λx hx=>?_;rw[WY];refine Mv hx λy hy=>?_;rw[AE hy];exact ih y
  ·rw[Pb hs]
   show _=Xd (Xd (AI (1+h.1 - p.1) c) (λx=>Xd (AI (h.2+1) x) TI)) _
   rw[WY]
   have hb:BY a (i:Int) (p.1,p.2,c,(j:Int))=Xd (AI (1+h.1 - p.1) c) (λx=>Xd (AI (h.2+1) x) (λy=>TI (.inl (h.1,h.2,y,((j+1:Nat):Int))))):=by
    unfold BY;simp only;rw[SV,he,Xu U,Ab ⟨by omega,by omega⟩,SV,hg,Pb hs,Ab U,Ab U,ej];refine bcg λx=>?_;rw[Ab U];refine bcg λy=>?_;rw[Ab U]
   refine Mv hb λx hx=>?_;rw[WY];refine Mv hx λy hy=>?_;rw[AE hy];exact ih y
theorem AhX{a:Int×HM}{i:Nat}(hi:i<1000000000){w:Qm}{H:List HW}(hw:w.length<=1000000000)(hH:H.length<=1000000000)(he:a.2.getD i Qq7=(w,H))(hb:∀h∈H,HB h):∀(r:Qm) (j:Nat) (c:Int),w.drop j=r->j<=w.length->
  run (CF a (i:Int)) (c,(j:Int))=(fm AI (r.map TY++((H.length:Int)::NG (0,-1) H)) c).bind λc=>TI (.inl (c,((i+1:Nat):Int)))
 | [],j,c,hd,hj=>by
  have hlen:=congrArg XQ hd;rw[U1,RZ]at hlen;refine A2 ?_;have d:(a.2.getD i Qq7).1=w:=by rw[he]
  have e:(a.2.getD i Qq7).2=H:=by rw[he]
  unfold CF HA Lo;simp only;rw[SV,d,e,Pb U]
  congr 1
  show _=Xd (Xd (AI (H.length:Int) c) (fm AI (NG (0,-1) H))) _
  rw[WY];refine bcg λx=>AhW hi hH e H 0 (0,-1) x Z (Tg _) ⟨by decide,by decide,by decide,by decide⟩ hb
 | b::r,j,c,hd,hj=>by
  have hlen:=congrArg XQ hd;rw[U1,PF]at hlen
  have hg:w.getD j Qq7=b:=by
   have:=congrArg (·[0]?) hd;simp only[Vk,R3,Pf]at this;rw[Sb,this]
   rfl
  have hd':w.drop (j+1)=r:=by rw[<- U4,hd];rfl
  have ej:((j:Nat):Int)+1=((j+1:Nat):Int):=by omega
  have d:(a.2.getD i Qq7).1=w:=by rw[he]
  have f:=b.toNat_lt
  show _=Xd (Xd (AI (TY b) c) (fm AI (r.map TY++((H.length:Int)::NG (0,-1) H)))) _
  rw[WY]
  have hbody:CF a (i:Int) (c,(j:Int))=Xd (AI (TY b) c) (λx=>TI (.inl (x,((j+1:Nat):Int)))):=by
   unfold CF;simp only;rw[SV,d,Xu U,Ab ⟨by omega,by omega⟩,SV,hg,Ab U,ej];refine bcg λx=>?_;rw[Ab U]
  refine Mv hbody λx hx=>?_;rw[AE hx];exact AhX hi hw hH he hb r (j+1) x hd' U
theorem AhY{a:Int×HM}(hn:a.2.length<1000000000):∀(r:HM) (i:Nat) (c:Int),a.2.drop i=r->i<=a.2.length->(∀e∈r,EB e)->
  run (CG a) (c,(i:Int))=fm AI (r.flatMap Xh) c
 | [],i,c,hd,hi,_=>by
  have hlen:=congrArg XQ hd;rw[U1,RZ]at hlen;refine A2 (m:=TI c) ?_;unfold CG;simp only;rw[Pb U]
 | e::r,i,c,hd,hi,hE=>by
  have hlen:=congrArg XQ hd;rw[U1,PF]at hlen
  have hg:a.2.getD i Qq7=e:=by
   have:=congrArg (·[0]?) hd;simp only[Vk,R3,Pf]at this;rw[Sb,this]
   rfl
  have hd':a.2.drop (i+1)=r:=by rw[<- U4,hd];rfl
  obtain⟨w,H⟩:=e;obtain⟨hw,hH,hB⟩:=hE _ (SZ ..);simp only at hw hH hB;rw[Y8,AdK]
  show _=Xd (Xd (AI (w.length:Int) c) (fm AI (w.map TY++((H.length:Int)::NG (0,-1) H)))) _
  rw[WY]
  have hbody:CG a (c,(i:Int))=Xd (AI (w.length:Int) c) (λx=>(fm AI (w.map TY++((H.length:Int)::NG (0,-1) H)) x).bind λc=>TI (.inl (c,((i+1:Nat):Int)))):=by
   have b:(a.2.getD i Qq7).1=w:=by rw[hg]
   unfold CG Lp;simp only;rw[SV,b,Xu U,Ab ⟨by omega,by omega⟩];refine bcg λx=>?_;rw[Ab U];exact AhX U hw hH hg hB w 0 x Z (Tg _)
  refine Mv hbody λx hx=>Mv hx λy hy=>?_;rw[AE hy];exact AhY hn r (i+1) y hd' U (λz hz=>hE z (RT _ hz))
def Amo{a:Int×HM}(b:0<=a.1/\a.1<=1000000000)(hn:a.2.length<1000000000)(hE:∀e∈a.2,EB e)(c:Int):GG a c=fm AI (RH a) c:=by
 unfold GG;rw[Ab U]
 show _=Xd (AI (a.1+1) c) (λx=>Xd (AI ((a.2.length:Int)+1) x) (fm AI (a.2.flatMap Xh)))
 refine bcg λx=>?_;rw[Ab U];refine bcg λy=>?_;unfold Lq;exact AhY hn a.2 0 y Z (Tg _) hE
end Go.Proofs.YtgaljodghpgdmaaGreatDoor
end
noncomputable section
namespace Go.L
open Go Go.Proofs.YtgaljodghpgdmaaGreatDoor
theorem Afc:∀x y:Qm,Op.bytesLess x y=decide (x<y)
 | [],[]=>by simp[Op.bytesLess]
 | _::_,[]=>by simp[Op.bytesLess]
 | [],_::_=>by simp[Op.bytesLess]
 | a::x,b::y=>by
  rw[Op.bytesLess,Afc x y];simp only[List.cons_lt_cons_iff]
  by_cases c:a<b <;> by_cases h2:a=b <;> by_cases h3:x<y <;> simp[c,h2,h3]
def Aaj{a b:UInt8}(c : ¬a<b)(h2 : ¬b<a):a=b:=by
 apply UInt8.toNat.inj;rw[QV]at c h2;omega
theorem AdL:∀l m:Qm,Lib.compareBytes l m<0↔l<m
 | [],[]=>by simp[Lib.compareBytes]
 | [],_::_=>by simp[Lib.compareBytes]
 | _::_,[]=>by simp[Lib.compareBytes]
 | a::l,b::m=>by
  have ih:=AdL l m;unfold Lib.compareBytes;rw[List.cons_lt_cons_iff]
  by_cases c:a<b
  ·rw[Xu c];simp[c]
  ·rw[Pb c]
   by_cases h2:b<a
   ·have hne:a≠b:=λe=>by subst e;exact c h2
    rw[Xu h2];simp[c,hne]
   ·have e:a=b:=Aaj c h2;rw[Pb h2,ih];simp[e]
theorem Wb:∀l m:Qm,Lib.compareBytes l m=0↔l=m
 | [],[]=>by simp[Lib.compareBytes]
 | [],_::_=>by simp[Lib.compareBytes]
 | _::_,[]=>by simp[Lib.compareBytes]
 | a::l,b::m=>by
  have ih:=Wb l m;unfold Lib.compareBytes
  by_cases c:a<b
  ·have hne:a≠b:=λe=>by subst e;rw[QV]at c;omega
   rw[Xu c];simp[hne]
  ·rw[Pb c]
   by_cases h2:b<a
   ·have hne:a≠b:=λe=>by subst e;exact c h2
    rw[Xu h2];simp[hne]
   ·have e:a=b:=Aaj c h2;rw[Pb h2,ih];simp[e]
theorem K6(l:Qm): ¬l<l:=by
 rw[<- decide_eq_false_iff_not,<- Afc]
 induction l with
 | nil=>rfl
 | cons a l ih=>unfold Op.bytesLess;simp[ih]
abbrev SD(l:Sa):Prop:=l.Pairwise (· < ·)
def SD.nodup{l:Sa}(h:SD l):l.Nodup:=by
 refine List.Pairwise.imp ?_ h;intro a b hab e;subst e;exact K6 a hab
def AhZ{l:Sa}(h:l.Nodup):SD (l.mergeSort leB):=by
 have tr:∀a b c:Qm,leB a b=true->leB b c=true->leB a c=true:=λa b c d h2=>by simp only[leB,Xf]at *;exact List.le_trans d h2
 have to:∀a b:Qm,(leB a b||leB b a)=true:=λa b=>by simp only[leB,U2,Xf];exact List.le_total a b
 have d:(l.mergeSort leB).Pairwise λa b=>leB a b=true:=List.pairwise_mergeSort tr to l;have h2:(l.mergeSort leB).Nodup:=(Uv l leB).nodup_iff.2 h;refine(d.and h2).imp λ{a b} hab=>?_;have h3:=Z4 hab.1
 rcases List.le_iff_lt_or_eq.1 h3 with h | h
 ·exact h
 ·exact absurd h hab.2
theorem Afd{w:Qm}{hs:List HW}:∀(es:HM) (i:Nat),es[i]? = TI (w,hs)->(∀k,k<i->(es.getD k Qq7).1≠w)->Bp [] w es=hs
 | [],i,h,_=>by simp at h
 | e::es,0,h,_=>by
  simp only[R3,Option.some.injEq]at h;subst h
  show(if w=w then hs else _)=hs
  rw[Xu Z]
 | e::es,i+1,h,hk=>by
  have a:e.1≠w:=hk 0 U
  show(if w=e.1 then e.2 else Bp [] w es)=hs
  rw[Pb (λx=>a x.symm)];exact Afd es i (by simpa using h) (λk hk'=>by have:=hk (k+1) U;simpa using this)
theorem AcB(w:Qm)(f:Qm->List HW):∀K:Sa,Bp [] w (K.map λk=>(k,f k))=if w∈K then f w else[]
 | []=>by simp[Bp]
 | k::K=>by
  show(if w=k then f k else Bp [] w (K.map λk=>(k,f k)))=_
  rw[AcB w f K]
  by_cases h:w=k
  ·subst h;simp
  ·rw[Pb h];simp[h]
def Aia(M:HM)(w:Qm):Bp [] w (RW M)=Bp [] w M:=by
 unfold RW;rw[AcB]
 by_cases h:w∈(M.map TJ).mergeSort leB
 ·rw[Xu h]
 ·rw[Pb h,Wa];exact λh'=>h ((Uv _ _).mem_iff.2 h')
def AfZ(M:HM):(RW M).map TJ=(M.map TJ).mergeSort leB:=by
 unfold RW;rw[Xc];exact List.map_id' _
end Go.L
namespace Go.Proofs.YtgaljodghpgdmaaGreatDoor
open Go Go.L
def AcC(e:Qm×List HW)(w:Qm):H8 e w=TI (Lib.compareBytes e.1 w):=Z
def Amp{i j:Nat}(hi:i<=1000000000)(hj:j<=1000000000):IntKind.i64.wrap (IntKind.u64.wrap ((i:Int)+(j:Int)) / 2)=(((i+j) / 2:Nat):Int):=by
 have a:IntKind.u64.wrap ((i:Int)+(j:Int))=((i+j:Nat):Int):=by simp[IntKind.wrap,IntKind.signed,IntKind.bits];omega
 rw[a];simp[IntKind.wrap,IntKind.signed,IntKind.bits];omega
def Aga{es:HM}(hn:es.length<=1000000000)(w:Qm)(hs:SD (es.map TJ)):
  Bq es w=TI ((((es.map TJ).countP λk=>decide (k<w):Nat):Int),decide (w∈es.map TJ)):=by
 have hk:∀k,k<es.length->(es.map TJ)[k]? = TI (es.getD k Qq7).1:=λk h=>by
  rw[Y9,Pa h,Sb,Pa h];rfl
 have mono:∀a b,a<b->b<es.length->(es.getD a Qq7).1<(es.getD b Qq7).1:=λa b hab hb=>by
  have:=List.pairwise_iff_getElem.1 hs a b (by rw[Vx];omega) (by rw[Vx];omega) hab;have m:=Pa (l:=es.map TJ) (i:=a) (by rw[Vx];omega);have n:=Pa (l:=es.map TJ) (i:=b) (by rw[Vx];omega);rw[hk a U]at m;rw[hk b hb]at n;rw[Option.some.inj m,Option.some.inj n];exact this
 -- how many keys are less, once the place is known
 have cnt:∀i,i<=es.length->(∀k,k<i->(es.getD k Qq7).1<w)->(∀k,i<=k->k<es.length->¬(es.getD k Qq7).1<w)->(es.map TJ).countP (λk=>decide (k<w))=i:=λi hi f h2=>by
  have e:es.map TJ=(es.map TJ).take i++(es.map TJ).drop i:=(List.take_append_drop _ _).symm;rw[e,Ql,List.countP_eq_length.2,Se.2,Y4,Vx]
  ·omega
  ·intro x hx;obtain⟨k,c⟩:=Nd.1 hx;rw[Vk]at c
   have hlt:i+k<es.length:=by
    have:=(Z9.1 c).1;rw[Vx]at this;exact this
   rw[hk _ hlt]at c;rw[<- Option.some.inj c]
   simpa using h2 (i+k) U hlt
  ·intro x hx;obtain⟨k,c⟩:=Nd.1 hx
   have hlt:k<i:=by
    have:=(Z9.1 c).1;rw[Y4]at this;omega
   rw[QjC hlt,hk _ U]at c;rw[<- Option.some.inj c]
   simpa using f k hlt
 unfold Bq Cv;refine Ae0 (λs=>∃i j:Nat,s=((i:Int),(j:Int))/\i<=j/\j<=es.length/\(∀k,k<i->(es.getD k Qq7).1<w)/\(∀k,j<=k->k<es.length->¬(es.getD k Qq7).1<w)) (λs=>(s.2 - s.1).toNat) ?_ (s:=((0:Int),(es.length:Int))) ⟨0,es.length,Z,Tg _,KN _,λk h=>by omega,λk f h2=>by omega⟩;rintro _ ⟨i,j,rfl,hij,hj,f,h2⟩;unfold B7;simp only
 by_cases h:i<j
 ·left
  rw[Xu U,Ab U,Amp U U,Ab ⟨by omega,by omega⟩,SV,AcC,Wo];have hm:(i+j) / 2<es.length:=by omega
  by_cases hc:(es.getD ((i+j) / 2) Qq7).1<w
  ·rw[Xu ((AdL _ _).2 hc),Ab U];refine⟨_,Z,⟨(i+j) / 2+1,j,by congr 1,by omega,hj,λk hk'=>?_,h2⟩,by simp only;omega⟩
   rcases TC k ((i+j) / 2)with hlt | hge
   ·exact List.lt_trans (mono _ _ hlt hm) hc
   ·obtain rfl:k=(i+j) / 2:=by omega
    exact hc
  ·rw[Pb (λx=>hc ((AdL _ _).1 x))];refine⟨_,Z,⟨i,(i+j) / 2,Z,by omega,by omega,f,λk c d hl=>?_⟩,by simp only;omega⟩
   rcases TC ((i+j) / 2) k with hlt | hge
   ·exact hc (List.lt_trans (mono _ _ hlt d) hl)
   ·obtain rfl:k=(i+j) / 2:=by omega
    exact hc hl
 ·right
  obtain rfl:i=j:=by omega
  rw[Pb U,cnt i hj f h2]
  congr 1
  unfold B8
  by_cases h3:i<es.length
  ·rw[Xu U,Ab ⟨by omega,by omega⟩,SV,AcC,Wo]
   congr 2
   by_cases g:(es.getD i Qq7).1=w
   ·rw[Xq ((Wb _ _).2 g),Xq];rw[<- g];exact Nd.2 ⟨i,hk i h3⟩
   ·rw[UK (λx=>g ((Wb _ _).1 x)),UK];intro hmem;obtain⟨k,c⟩:=Nd.1 hmem
    have hkl:k<es.length:=by
     have:=(Z9.1 c).1;rw[Vx]at this;exact this
    rw[hk k hkl]at c;have d:=Option.some.inj c
    rcases Nat.lt_trichotomy k i with hlt | he | hgt
    ·exact K6 w (by have:=f k hlt;rw[d]at this;exact this)
    ·subst he;exact g d
    ·have o:=mono i k hgt hkl;rw[d]at o;exact h2 i (KN _) h3 o
  ·rw[Pb U]
   congr 2
   rw[eq_comm,decide_eq_false_iff_not];intro hmem;obtain⟨k,c⟩:=Nd.1 hmem
   have hkl:k<es.length:=by
    have:=(Z9.1 c).1;rw[Vx]at this;exact this
   rw[hk k hkl]at c;have:=f k U;rw[Option.some.inj c]at this;exact K6 w this
def Rh{n:Int}{es:HM}(hn:es.length<=1000000000)(w:Qm)(hs:SD (es.map TJ)):DL (n,es) w=TI (Bp [] w es):=by
 unfold DL;simp only;rw[Aga hn w hs,Wo];simp only
 by_cases h:w∈es.map TJ
 ·rw[Xq h,Pb Y5]
  have hc:(es.map TJ).countP (λk=>decide (k<w))<es.length:=by
   rcases TC ((es.map TJ).countP (λk=>decide (k<w))) (es.map TJ).length with a | a
   ·rw[Vx]at a;exact a
   ·have h2:=Nat.le_antisymm List.countP_le_length a;exact absurd (Z4 (List.countP_eq_length.1 h2 w h)) (K6 w)
  rw[Ab ⟨by omega,by omega⟩,SV]
  congr 1
  -- the place of w
  obtain⟨l,r,hlr⟩:=List.append_of_mem h;have hinc:=hs;rw[hlr]at hinc;have hl:∀x∈l,x<w:=λx hx=>(SE.1 hinc).2.2 x hx w (SZ ..);have hr:∀x∈r,¬x<w:=λx hx hxw=>K6 w (List.lt_trans ((List.pairwise_cons.1 (SE.1 hinc).2.1).1 x hx) hxw)
  have hcnt:(es.map TJ).countP (λk=>decide (k<w))=l.length:=by
   rw[hlr,Ql,List.countP_cons,List.countP_eq_length.2 (λx hx=>Xq (hl x hx)),Se.2 (λx hx=>by simpa using hr x hx),Pb (by simp[K6 w])]
   rfl
  rw[hcnt]at hc ⊢;have hget:(es.map TJ)[l.length]? = TI w:=by rw[hlr];simp
  rw[Y9,Pa hc]at hget;refine(Afd es l.length (hs:=(es.getD l.length Qq7).2) ?_ (λk hk=>?_)).symm
  ·rw[Pa hc,Sb,Pa hc];simp only[TB,Option.some.injEq]at hget;rw[<- hget]
   rfl
  ·intro hw;have a:(es.map TJ)[k]? = l[k]?:=by rw[hlr,Ry hk]
   rw[Y9,Pa U,Pa hk]at a;rw[Sb,Pa U]at hw;simp only[TB,Option.some.injEq]at a;have h2:=hl l[k] (Rs _);rw[<- a]at h2;simp only[Option.getD_some]at hw;rw[hw]at h2;exact K6 w h2
 ·rw[UK h,Xu Y5,Wa [] w es h]
/- Lists that are equal. -/
def Agb(a:SB)(h:a.length<=1000000000):Oo a a=TI true:=by
 unfold Oo US;rw[Xu Z];refine BM (b:=JW a a) (m:=TI true) (λi=>((i:Nat):Int)) a.length (λi hi=>?_) ?_ 0 (hi:=(by omega))
 ·unfold JW;rw[Xu U,Ab ⟨by omega,by omega⟩,Ab ⟨by omega,by omega⟩,Xu Z,Ab U]
  rfl
 ·unfold JW QR;rw[Pb U]
end Go.Proofs.YtgaljodghpgdmaaGreatDoor
end
noncomputable section
namespace Go.L
open Go
def Aib{l r:Qm}{k:Nat}(h:k<l.length):bt (l++r) k=bt l k:=by
 unfold bt;rw[Sb,Sb,Ry h]
def Ch(x:Qm):Prop:=x≠[]/\x.map Hk=x/\∀r,Ma (x++r)=x.length
def Afe:∀c:Fin 256,asc c.val=true->asc (Hk (SJ c.val)).toNat=true/\Hk (Hk (SJ c.val))=Hk (SJ c.val):=by decide +kernel
def Akw{l r:Qm}(h:RG l≠0):RG (l.take (RG l)++r)=RG l:=by
 have hc:∀k,cont l k=true->k<l.length:=λk h=>(Z4 h).1
 have key:∀n,RG l=n->1<n->n<=l.length->(∀k,k<n->bt (l.take n++r) k=bt l k)/\(∀k,k<n->cont (l.take n++r) k=cont l k):=by
  intro n _ _ hn;have hl:(l.take n).length=n:=by rw[Y4];omega
  have hb:∀k,k<n->bt (l.take n++r) k=bt l k:=λk hk=>by
   rw[Aib U];unfold bt;rw[Sb,Sb,QjC hk]
  refine⟨hb,λk hk=>?_⟩;unfold cont;rw[hb k hk,T6,hl]
  congr 1
  apply propext
  constructor <;> (rintro⟨_,h2⟩;exact⟨by omega,h2⟩)
 have h':=h;unfold RG at h'
 split at h'
 ·rename_i hA
  split at h'
  ·rename_i a;have e:RG l=2:=by unfold RG;rw[Xu hA,Xu a]
   obtain⟨hb,hk⟩:=key 2 e Y5 (hc 1 a);rw[e];unfold RG;rw[hb 0 Y5,hk 1 Y5,Xu hA,Xu a]
  ·exact absurd Z h'
 ·rename_i hA
  split at h'
  ·rename_i hB
   split at h'
   ·rename_i a;have e:RG l=3:=by unfold RG;rw[Pb hA,Xu hB,Xu a]
    obtain⟨hb,hk⟩:=key 3 e Y5 (hc 2 a.2.1);rw[e];unfold pt3 at a;unfold RG pt3;rw[hb 0 Y5,hb 1 Y5,hb 2 Y5,hk 1 Y5,hk 2 Y5,Pb hA,Xu hB,Xu a]
   ·exact absurd Z h'
  ·rename_i hB
   split at h'
   ·rename_i hC
    split at h'
    ·rename_i a;have e:RG l=4:=by unfold RG;rw[Pb hA,Pb hB,Xu hC,Xu a]
     obtain⟨hb,hk⟩:=key 4 e Y5 (hc 3 a.2.2.1);rw[e];unfold pt4 at a;unfold RG pt4;rw[hb 0 Y5,hb 1 Y5,hb 2 Y5,hb 3 Y5,hk 1 Y5,hk 2 Y5,hk 3 Y5,Pb hA,Pb hB,Xu hC,Xu a]
    ·exact absurd Z h'
   ·exact absurd Z h'
def Amq{l:Qm}(hne:l≠[])(h:Ma l≠0):Ch ((l.take (Ma l)).map Hk):=by
 have hl:=AdG l hne;have hlen:((l.take (Ma l)).map Hk).length=Ma l:=by rw[Vx,Y4];omega
 refine⟨λe=>by rw[e]at hlen;exact h hlen.symm,?_,λr=>?_⟩
 all_goals
  by_cases ha:asc (bt l 0)=true
 ·obtain⟨c,m,rfl⟩:=TP hne;have e:Ma (c::m)=1:=by unfold Ma;rw[Xu ha]
  have:=(Afe ⟨c.toNat,c.toNat_lt⟩ ha).2;rw[e];simp only[UInt8.ofNat_toNat]at this;simp[this]
 ·have e:Ma l=RG l:=by unfold Ma;rw[Pb ha]
  rw[e]at h ⊢;rw[X9 h,X9 h]
 ·obtain⟨c,m,rfl⟩:=TP hne;have e:Ma (c::m)=1:=by unfold Ma;rw[Xu ha]
  have:=(Afe ⟨c.toNat,c.toNat_lt⟩ ha).1;simp only[UInt8.ofNat_toNat]at this;rw[hlen,e]
  show Ma (Hk c::r)=1
  unfold Ma;rw[Xu (show asc (bt (Hk c::r) 0)=true from this)]
 ·have e:Ma l=RG l:=by unfold Ma;rw[Pb ha]
  rw[hlen];rw[e]at h hl ⊢;rw[X9 h]
  have a:bt (l.take (RG l)++r) 0=bt l 0:=by
   rw[Aib (by rw[Y4];omega)];unfold bt;rw[Sb,Sb,QjC U]
  unfold Ma;rw[a,Pb ha];exact Akw h
def Lw(t:Qm):Prop:=∃cs:Sa,t=cs.flatten/\∀x∈cs,Ch x
def Lw.nil:Lw []:=⟨[],Z,by simp⟩
def Lw.snoc{t x:Qm}(h:Lw t)(hx:Ch x):Lw (t++x):=by
 obtain⟨cs,rfl,hc⟩:=h;refine⟨cs++[x],by simp,λy hy=>?_⟩
 rcases MY.1 hy with hy | hy
 ·exact hc y hy
 ·rw[TG.1 hy];exact hx
def Wok(n:Nat)(w:W):Prop:=Lw w.1/\w.1≠[]/\0<=w.2.1/\w.2.1<w.2.2/\w.2.2<=(n:Int)
def AdM{n:Nat}{cur:Qm}{fr at':Nat}(hc:Lw cur)(h:cur=[]\/fr<at')(hn:at'<=n):∀w∈fin cur fr at',Wok n w:=by
 intro w hw;unfold fin at hw
 split at hw
 ·cases hw
 ·rename_i hne;rw[TG.1 hw];have:=h.resolve_left hne;exact⟨hc,hne,by show(0:Int)<=(fr:Int);omega,by show(fr:Int)<(at':Int);omega,by show(at':Int)<=(n:Int);omega⟩
theorem AdN{a:Qm}:∀(f at':Nat) (cur:Qm) (fr:Nat),at'<=a.length->Lw cur->(cur=[]\/fr<at')->fr<=at'->∀w∈WC a f at' cur fr,Wok a.length w
 | 0,at',cur,fr,h,hc,hf,_=>AdM hc hf h
 | f+1,at',cur,fr,h,hc,hf,hle=>by
  intro w hw;unfold WC at hw
  split at hw
  ·rename_i b
   split at hw
   ·rcases MY.1 hw with hw | hw
    ·exact AdM hc hf h w hw
    ·exact AdN f (at'+1) [] (at'+1) U Lw.nil (.inl Z) (KN _) w hw
   ·rename_i h2;exact AdN f _ _ fr (Qq b) (hc.snoc (Amq (XA b) h2)) (.inr U) U w hw
  ·exact AdM hc hf h w hw
def Amr(a:Qm):∀w∈Tu a,Wok a.length w:=AdN _ 0 [] 0 (Tg _) Lw.nil (.inl Z) (KN _)
open Go.Proofs.YtgaljodghpgdmaaGreatDoor
def GX{α:Type}[Inhabited α]{l:List α}{i:Nat}{x:α}{r:List α}(h:l.drop i=x::r):l.getD i Qq7=x/\l.drop (i+1)=r/\i<l.length:=by
 have hlen:=congrArg XQ h;rw[U1,PF]at hlen;refine⟨?_,by rw[<- U4,h];rfl,by omega⟩;have:=congrArg (·[0]?) h;simp only[Vk,R3,Pf]at this;rw[Sb,this]
 rfl
def IW{α:Type}{l:List α}{i:Nat}(h:l.drop i=[]):l.length<=i:=by
 have hlen:=congrArg XQ h;rw[U1,RZ]at hlen;omega
def E(items:Sa):HM:=RW ((Ck 0 items).foldl Lt [])
def Aic(items:Sa):(E items).map TJ=(((Ck 0 items).foldl Lt []).map TJ).mergeSort leB:=AfZ _
def Ant(items:Sa):SD ((E items).map TJ):=by
 rw[Aic];exact AhZ (Ty _ [] List.nodup_nil)
def Anu(items:Sa)(k:Qm):k∈(E items).map TJ↔k∈(Ck 0 items).map TJ:=by
 rw[Aic,(Uv _ _).mem_iff,YN];simp
def YR(items:Sa)(w:Qm):Bp [] w (E items)=F0 (Ck 0 items) w:=by
 unfold E;rw[Aia,add_get]
 rfl
def Aid{items:Sa}{e:Qm×List HW}(h:e∈E items):e.2=F0 (Ck 0 items) e.1:=by
 unfold E RW at h;obtain⟨k,_,rfl⟩:=Rr.1 h;simp only;rw[add_get]
 rfl
theorem AcD(k:Qm)(y:List HW):∀M:HM,(Ea k y M).length<=M.length+1
 | []=>by simp[Ea]
 | (a,z)::l=>by
  unfold Ea
  split
  ·simp
  ·have:=AcD k y l;simp only[PF];omega
theorem Abi:∀(P:List (Qm×HW)) (M:HM),(P.foldl Lt M).length<=M.length+P.length
 | [],M=>by simp
 | p::P,M=>by
  rw[List.foldl_cons,PF];have a:=Abi P (Lt M p);have h2:(Lt M p).length<=M.length+1:=AcD _ _ M;omega
def Nf(items:Sa):(E items).length<=(Ck 0 items).length:=by
 unfold E;rw[Ac9];have:=Abi (Ck 0 items) [];rw[RZ]at this;omega
def PN(i:Int)(l:List W):Et i l=(List.range l.length).map λk=>((l.getD k Qq7).1,(i,((k:Nat):Int))):=by
 apply List.ext_getElem?;intro k
 by_cases h:k<l.length
 ·rw[WE i l k h,Y9,List.getElem?_range h];rfl
 ·rw[Xt (by rw[Nc];omega),Xt (by rw[Vx,List.length_range];omega)]
def Pr{i:Int}{l:List W}{p:Qm×HW}(h:p∈Et i l):p.2.1=i/\0<=p.2.2/\p.2.2<(l.length:Int)/\∃w∈l,w.1=p.1:=by
 rw[PN]at h;obtain⟨k,hk,rfl⟩:=Rr.1 h;rw[List.mem_range]at hk;refine⟨Z,by simp only;omega,by simp only;omega,l.getD k Qq7,?_,Z⟩;rw[Sb,Pa hk];exact Rs _
theorem C3:∀(i:Nat) (r:Sa) (m:Nat),(∀t∈r,t.length<=m)->∀p∈Ck i r,(i:Int)<=p.2.1/\p.2.1<((i+r.length:Nat):Int)/\0<=p.2.2/\p.2.2<=(m:Int)/\p.1≠[]/\p.1.length<=m
 | _,[],_,_,p,hp=>by cases hp
 | i,t::r,m,h,p,hp=>by
  unfold Ck at hp
  rcases MY.1 hp with hp | hp
  ·obtain⟨d,h2,h3,w,a,b⟩:=Pr hp;have c:=Amr t w a;have e:=Ac8 t w a;have f:=XC t;have g:=h t (SZ ..);rw[PF];exact⟨by omega,by omega,h2,by omega,b ▸ c.2.1,b ▸ U⟩
  ·have:=C3 (i+1) r m (λx hx=>h x (RT _ hx)) p hp;rw[PF];exact⟨by omega,by omega,this.2.2⟩
def FL{P:List (Qm×HW)}{w:Qm}{h:HW}:h∈F0 P w↔(w,h)∈P:=by
 unfold F0;rw[Rr]
 constructor
 ·rintro⟨p,hp,rfl⟩;rw[Zf]at hp;obtain⟨a,h2⟩:=hp;have h2:=Z4 h2;rw[<- h2];exact a
 ·intro a;exact⟨(w,h),Zf.2 ⟨a,Xq Z⟩,Z⟩
def Anv{items:Sa}(hn:items.length<=64){m:Nat}(ht:∀t∈items,t.length<=m){e:Qm×List HW}(h:e∈E items):
  e.1≠[]/\e.1.length<=m/\e.2.length<=(Ck 0 items).length/\∀x∈e.2,0<=x.1/\x.1<=63/\0<=x.2/\x.2<=(m:Int):=by
 have hk:e.1∈(Ck 0 items).map TJ:=(Anu items e.1).1 (List.mem_map_of_mem h);obtain⟨p,hp,hpe⟩:=Rr.1 hk;have a:=C3 0 items m ht p hp;rw[hpe]at a;refine⟨a.2.2.2.2.1,a.2.2.2.2.2,?_,λx hx=>?_⟩
 ·rw[Aid h];exact OJ _ _
 ·rw[Aid h,FL]at hx;have h2:=C3 0 items m ht _ hx;simp only at h2;exact⟨by omega,by omega,h2.2.2.1,h2.2.2.2.1⟩
def gs(l:SB):Nat:=(l.map λn=>gzw n.toNat).sum
def ML(n:Int)(l:SB):gs (n::l)=gzw n.toNat+gs l:=by simp[gs]
def AdO(l r:SB):gs (l++r)=gs l+gs r:=by simp[gs]
theorem Aie{b:Nat}:∀{l:SB},(∀n∈l,gzw n.toNat<=b)->gs l<=l.length * b
 | [],_=>by simp[gs]
 | n::l,h=>by
  rw[ML,PF,Nat.succ_mul];have a:=h n (SZ ..);have h2:=Aie (l:=l) (λx hx=>h x (RT _ hx));omega
theorem AcE{m:Int}(hm:0<=m):∀(p:HW) (l:List HW),0<=p.1->-1<=p.2->(∀x∈l,0<=x.1/\x.1<=63/\0<=x.2/\x.2<=m)->∀n∈NG p l,n<=m+64
 | _,[],_,_,_,n,hn=>by cases hn
 | p,h::r,a,h2,hl,n,hn=>by
  obtain⟨a1,a2,a3,a4⟩:=hl h (SZ ..);unfold NG at hn
  rcases MY.1 hn with hn | hn
  ·split at hn
   ·simp only[R7,Xn,or_false]at hn;omega
   ·simp only[R7,Xn,or_false]at hn;omega
  ·exact AcE hm h r a1 U (λx hx=>hl x (RT _ hx)) n hn
theorem Aak:∀(p:HW) (l:List HW),(NG p l).length=2 * l.length
 | _,[]=>rfl
 | p,h::r=>by
  unfold NG;rw[T6,Aak h r,PF]
  split <;> simp <;> omega
theorem Aif{e:HM}{b:Nat}:(∀x∈e,(Xh x).length<=b)->(e.flatMap Xh).length<=e.length * b:=by
 induction e with
 | nil=>intro _;simp
 | cons x e ih=>
  intro h;rw[Y8,T6,PF,Nat.succ_mul];have a:=h x (SZ ..);have h2:=ih (λy hy=>h y (RT _ hy));omega
end Go.L
namespace Go.Proofs.YtgaljodghpgdmaaGreatDoor
open Go Go.L
def Agc{n:Int}(hn:n<16777216):GW n=TI ((gzw n.toNat:Nat):Int):=by
 by_cases h:0<=n
 ·obtain⟨k,rfl⟩:=Ph h;rw[SV];exact AhV U
 ·unfold GW;rw[Xu U,Int.toNat_of_nonpos U]
  rfl
def Aig{n:Int}(hn:n<16777216):gzw n.toNat<=47:=PM 24
def Agd{n:Int}(hn:n<16777216){c:Int}(a:0<=c)(b:c<=1000000000000000000):AI n c=TI (c+((gzw n.toNat:Nat):Int)):=by
 unfold AI;have:=Aig hn;rw[Agc hn,Wo,Ab U]
theorem AcF:∀(l:SB) (c:Int),(∀n∈l,n<16777216)->0<=c->c+(gs l:Int)<=1000000000000000000->fm AI l c=TI (c+(gs l:Int))
 | [],c,_,_,_=>by
  show TI c=_
  congr 1
  have:gs []=0:=Z;omega
 | n::l,c,h,a,b=>by
  rw[ML]at b ⊢
  show(AI n c).bind (fm AI l)=_
  rw[Agd (h n (SZ ..)) a U,Wo,AcF l _ (λx hx=>h x (RT _ hx)) U U]
  congr 1
  omega
def Tz{items:Sa}(hn:items.length<=64)(ht:∀t∈items,t.length<=2048):(Ck 0 items).length<=131136:=by
 have a:=Aah 0 items ht;omega
def Aih{items:Sa}(hn:items.length<=64)(ht:∀t∈items,t.length<=2048):(∀n∈RH ((items.length:Int),E items),n<16777216)/\gs (RH ((items.length:Int),E items))<=1000000000000000/\∀e∈E items,EB e:=by
 have hp:=Tz hn ht;have he:=Nf items
 have a:∀e∈E items,(∀n∈Xh e,n<16777216)/\(Xh e).length<=300000/\EB e:=λe h=>by
  obtain⟨_,a2,a3,a4⟩:=Anv hn ht h;refine⟨λn hn'=>?_,?_,?_⟩
  ·unfold Xh at hn'
   rcases R7.1 hn' with rfl | hn'
   ·omega
   rcases MY.1 hn' with hn' | hn'
   ·obtain⟨b,_,rfl⟩:=Rr.1 hn';have:=b.toNat_lt;unfold TY;omega
   rcases R7.1 hn' with rfl | hn'
   ·omega
   ·have:=AcE (m:=2048) Y5 (0,-1) e.2 Y5 Y5 a4 n hn';omega
  ·unfold Xh;rw[PF,T6,Vx,PF,Aak];omega
  ·exact⟨by omega,by omega,λx hx=>by have:=a4 x hx;exact⟨by omega,by omega,by omega,by omega⟩⟩
 have h2:∀n∈RH ((items.length:Int),E items),n<16777216:=λn hn'=>by
  unfold RH at hn';simp only at hn'
  rcases R7.1 hn' with rfl | hn'
  ·omega
  rcases R7.1 hn' with rfl | hn'
  ·omega
  ·obtain⟨e,c,d⟩:=List.mem_flatMap.1 hn';exact(a e c).1 n d
 refine⟨h2,?_,λe h=>(a e h).2.2⟩;have h3:=Aie (b:=47) (λn hn'=>Aig (h2 n hn'))
 have f:(RH ((items.length:Int),E items)).length<=2+(E items).length * 300000:=by
  unfold RH;have:=Aif (e:=E items) (b:=300000) (λx hx=>(a x hx).2.1);simp only[PF];omega
 omega
def Aii{items:Sa}(hn:items.length<=64)(ht:∀t∈items,t.length<=2048)(hl:Of 0 items=none):
  Na items=if 131072<gs (RH ((items.length:Int),E items))then TI ((0,[]),(14,-1))else TI (((items.length:Int),E items),(0,0)):=by
 have hp:=Tz hn ht;obtain⟨b,h2,h3⟩:=Aih hn ht;have he:=Nf items;have hm:=Abi (Ck 0 items) [];rw[RZ]at hm;rw[AfY,Pb U,hl];simp only;unfold IV;rw[AdJ _ _ ⟨Ty _ [] List.nodup_nil,λx hx=>?_,by omega⟩ U]
 ·unfold IU;have c:RW ((Ck 0 items).foldl Lt [])=E items:=Z;rw[c,Amo (a:=((items.length:Int),E items)) ⟨by simp only;omega,by simp only;omega⟩ (by simp only;omega) h3,AcF _ _ b U U,Wo,Int.zero_add]
  by_cases h:131072<gs (RH ((items.length:Int),E items))
  ·rw[Xu U,Xu h];rfl
  ·rw[Pb U,Pb h];rfl
 ·rw[YN]at hx;have:=YQ 0 items ht x (hx.resolve_left Rg);unfold maxLen;omega
def total(items:Sa):Nat:=(items.map XQ).sum
theorem Ou{t:Qm}:∀{items:Sa},t∈items->t.length<=total items
 | [],h=>by cases h
 | x::r,h=>by
  have e:total (x::r)=x.length+total r:=by simp[total]
  rcases R7.1 h with rfl | h
  ·omega
  ·have:=Ou h;omega
open Go.E Go.RowKit Go.Shelf
def pieces(s:Qm):Sa:=Lib.split s [47]
noncomputable def Wc(s sep:Qm)(sv n:Int):Option Sa:=Go.L.Ay (s.length<4294967281/\sep.length=1/\sv=0/\n = -1) (TI (Lib.split s sep))
theorem AcG(G:PH):∀l:Sa,Ao Rp.st G l (l.map Go.Proofs.encStr)
 | []=>.nil
 | _::l=>.cons (c:=[_]) Z (AcG G l)
section
variable(w:World)(H:PH)(hH:Le H (hp w)) include hH
theorem AcH{a0 a1:Qm}{a2 a3:Int}{r:Sa}(h:Wc a0 a1 a2 a3=TI r):
  Ok Tryz.prog 206 [.string ⟨a0.toArray⟩,.string ⟨a1.toArray⟩,.int .i64 a2,.int .i64 a3] w (λv w'=>Ext w w'/\∃u0,v=u0/\B2 9 .st H w w' u0 r):=by
 obtain⟨hk,h⟩:=Go.L.Fp h;obtain rfl:=Option.some.inj h;obtain⟨h1,h2,rfl,rfl⟩:=hk;obtain⟨sb,rfl⟩:=List.length_eq_one_iff.1 h2;have hsz:(ByteArray.mk a0.toArray).size=a0.length:=by simp[Vl]
 obtain⟨N,hN⟩:∃N,N=Lib.countB ⟨a0.toArray⟩ ⟨#[sb]⟩+1:=⟨_,Z⟩;have hle:Lib.countB ⟨a0.toArray⟩ ⟨#[sb]⟩<=(ByteArray.mk a0.toArray).size:=Lib.countB_le ⟨#[sb]⟩ (KN 1) _ _ (KN _)
 have c:=Any.strings_genSplit_core (P:=Tryz.prog) (ρ:=Tryz.NU) {Tryz.Y2 with} SF ⟨a0.toArray⟩ ⟨#[sb]⟩ 0 (-1) N w (by rw[hsz];exact h1) (KN 1) (Tg _)
  (λx cc hx=>(Any.strings_Index_one (P:=Tryz.prog) (ρ:=Tryz.NU) {Tryz.Y2 with} x sb _).mono λe w' ⟨he,hw⟩=>⟨by rw[he];exact congrArg (λz=>Ending.returned (Value.int .i64 z)) (Lib.index_one x.data.toList sb).symm,hw⟩)
  ((Any.strings_Count_one (P:=Tryz.prog) (ρ:=Tryz.NU) {Tryz.Y2 with} ⟨a0.toArray⟩ sb w).mono λe w' ⟨he,hw⟩=>⟨by rw[he];exact congrArg (λz:Nat=>Ending.returned (Value.int .i64 (z:Int))) (Lib.count_one sb _).symm,hw⟩)
  Y5 Y5 (by rw[Xu Y5,hN];omega)
 refine⟨⟨Tryz.f206,_,Tryz.func206,Z,Z⟩,c.mono λe w' he=>?_⟩;obtain⟨rfl,rfl⟩:=he
 have hl:(Lib.splitB ⟨#[sb]⟩ 0 (N - 1) ⟨a0.toArray⟩).length=N:=by
  have:=Lib.splitB_all ⟨#[sb]⟩ (KN 1) 0 (N - 1) ⟨a0.toArray⟩ U;omega
 have hd:=Lib.splitB_data ⟨#[sb]⟩ 0 (N - 1) ⟨a0.toArray⟩
 have hpc:(Lib.splitB ⟨#[sb]⟩ 0 (N - 1) ⟨a0.toArray⟩).map (λb=>b.data.toList)=Lib.split a0 [sb]:=by
  rw[hd];unfold Lib.split;rw[hN]
  rfl
 have hpl:(Lib.split a0 [sb]).length=N:=by rw[<- hpc,Vx,hl]
 have hmp:(Lib.splitB ⟨#[sb]⟩ 0 (N - 1) ⟨a0.toArray⟩).map Value.string=(Lib.split a0 [sb]).map Go.Proofs.encStr:=by
  rw[<- hpc,Xc];apply Ur;intro b _
  show Value.string b=Value.string ⟨b.data.toList.toArray⟩
  rw[Array.toArray_toList]
 refine⟨_,Z,C1 w _,_,Z,(Lib.split a0 [sb]).map Go.Proofs.encStr,?_,AcG _ _⟩;refine⟨by rw[Vx];exact(Z5 _).symm,.inr ⟨w.heap.size,N,_,?_,KN _,World.alloc_heap_new w _,?_,?_,?_,?_⟩⟩
 ·rw[hl,hpl]
 ·omega
 ·unfold maxLen;omega
 ·rw[Lib.cellsOf_size U];exact(Z5 _).symm
 ·have e1:Lib.cellsOf (Lib.splitB ⟨#[sb]⟩ 0 (N - 1) ⟨a0.toArray⟩) N=((Lib.splitB ⟨#[sb]⟩ 0 (N - 1) ⟨a0.toArray⟩).map Value.string).toArray:=by
   have:=Lib.cellsOf_full (Lib.splitB ⟨#[sb]⟩ 0 (N - 1) ⟨a0.toArray⟩)
   rwa [hl]at this
  rw[e1,hmp];exact Sg (by rw[Vx];exact Nat.le_of_eq (Z5 _).symm)
end
noncomputable def AcI(a:Qm)(c:UInt8):Option Int:=TI (Lib.indexByte a c)
section
variable(w:World)(H:PH)(hH:Le H (hp w)) include hH
theorem Afg{a0:Qm}{a1:UInt8}{r:Int}(h:AcI a0 a1=TI r):
  Ok Tryz.prog 208 [.string ⟨a0.toArray⟩,.int .u8 (a1.toNat:Int)] w (λv w'=>Ext w w'/\v=.int .i64 r):=by
 obtain rfl:=Option.some.inj h;refine⟨⟨Tryz.f208,_,Tryz.func208,Z,Z⟩,(Any.strings_IndexByte Tryz.Ann ⟨a0.toArray⟩ (a1.toNat:Int) w).mono λe w' he=>?_⟩;obtain⟨rfl,rfl⟩:=he;refine⟨_,Z,Ext.refl _,?_⟩;have e:((a1.toNat:Int).toNat).toUInt8=a1:=by simp
 rw[e]
end
noncomputable def WG(a:Sa)(sep:Qm):Option Qm:=Go.L.Ay (a.length<=140737488355328/\(Lib.join a sep).length<=140737488355328) (TI (Lib.join a sep))
section
variable(w:World)(H:PH)(hH:Le H (hp w)) include hH
theorem Abj{a0:Sa}{a1:Qm}{v:Value}(hv:As .st H v a0){r:Qm}(h:WG a0 a1=TI r):
  Ok Tryz.prog 88 [v,.string ⟨a1.toArray⟩] w (λv w'=>Ext w w'/\v=.string ⟨r.toArray⟩):=by
 obtain⟨⟨h1,h2⟩,h⟩:=Go.L.Fp h;obtain rfl:=Option.some.inj h
 have X:Builder.Extra Tryz.prog Tryz.W7:={
  liesBuilder:=by kernel_rfl
  sizeBuilder:=by kernel_rfl
  t5:=by kernel_rfl
  a5:=λw=>by kernel_rfl
  z5:=λw=>by kernel_rfl
  v5:=λw=>by kernel_rfl
  infoByte:=by kernel_rfl
  cellsByte:=by kernel_rfl
  sizeByte:=by kernel_rfl
  neB5:=by decide}
 obtain⟨a,cap,rfl,k2,k3,k4,k5⟩:=hv.ex
 have key:∀(P:Prop),((a0=[]->P)/\(∀A,a=TI A->a0≠[]->P))->P:=λP hP=>by
  by_cases ha:a0=[]
  ·exact hP.1 ha
  ·cases a with
   | none=>exact absurd (List.eq_nil_of_length_eq_zero (by have:=k4 Z;omega)) ha
   | some A=>exact hP.2 A Z ha
 refine key _ ⟨λhe=>?_,λA hA hne=>?_⟩
 ·subst he;refine⟨⟨Tryz.f88,_,Tryz.func88,Z,Z⟩,(Any.strings_Join_none Tryz.AeW X a cap ⟨a1.toArray⟩ w).mono λe w' hh=>?_⟩;obtain⟨rfl,rfl⟩:=hh;exact⟨_,Z,Ext.refl _,Z⟩
 ·subst hA;obtain⟨k6,k7⟩:=k5 A Z hne;obtain⟨b,o,sp⟩:=A;simp only at k6;subst k6
  have hcell:∀(j:Nat) x,(a0.map λl=>(⟨l.toArray⟩:ByteArray))[j]? = TI x->w.cell? ⟨b,o+j,none⟩=TI (.string x):=λj x hx=>by
   rw[Y9]at hx
   cases hj:a0[j]? with
   | none=>rw[hj]at hx;cases hx
   | some l=>
    rw[hj]at hx;obtain rfl:=Option.some.inj hx;obtain⟨c,hc,hcell⟩:=k7 j l hj;obtain rfl:c=[.string ⟨l.toArray⟩]:=hc;have:=cell_of hH (hcell 0 _ Z)
    rwa [show(Rp.st).sz=1 from Z,Z5,Pf,Addr.add_lit]at this
  have hpos:0<a0.length:=Kh.2 hne
  have hb:b<w.heap.size:=by
   have h0:=hcell 0 ⟨(a0[0]'hpos).toArray⟩ (by simp[hpos]);exact World.block_lt_of_cell? _ _ h0
  have e2:(a0.map λl=>(⟨l.toArray⟩:ByteArray)).map (·.data.toList)=a0:=by rw[Xc];exact(Ur (λl _=>by simp)).trans (List.map_id _)
  have c:=Any.strings_Join Tryz.AeW X b o cap (a0.map λl=>(⟨l.toArray⟩:ByteArray)) ⟨a1.toArray⟩ w hcell hb (by rw[Vx];exact h1) (by rw[Vx];omega) (by rw[e2];simpa using h2);rw[e2,Vx]at c;refine⟨⟨Tryz.f88,_,Tryz.func88,Z,Z⟩,c.mono λe w' hh=>?_⟩;obtain⟨rfl,hb'⟩:=hh;exact⟨_,Z,Ext.off hb',by simp⟩
end
open Go.E Go.RowKit
set_option maxHeartbeats 1000000
set_option maxRecDepth 10000
open _root_.Go.Proofs.Tryz
def Dz(a0 a1:Int):Option Z7:=
 TI ((a0,a1))
section
variable(w:World)(H:PH)(hH:Le H (hp w)) include hH
theorem Fi{a0 a1:Int}{r:Z7}(h:Dz a0 a1=TI r):
  Pd 46 [No a0,No a1] w (λv w'=>v=.agg #[No r.1,No r.2]):=by
 refine Ai 8 [(0,No a0),(1,No a1)] func46 Z λhL=>A5<|Aq Av.e Z hL λe f b c _=>Af ?_;refine AJ (A8 (λ_=>Mr _ _ _))<|Ac 0 Z b Z λg a d=>Af ?_
 cases h
 refine Bz (.cell Z QW Z Av.e (box_pT 0 a Z)) ⟨a.ext,Z⟩
def Ps(a0 a1:Int):Option Z7:=
 TI ((a0,a1))
theorem OK{a0 a1:Int}{r:Z7}(h:Ps a0 a1=TI r):
  Pd 80 [No a0,No a1] w (λv w'=>v=.agg #[No r.1,No r.2]):=by
 refine Ai 8 [(0,No a0),(1,No a1)] func80 Z λhL=>A5<|Aq Av.e Z hL λe f b c _=>Af ?_;refine AJ (A8 (λ_=>Mr _ _ _))<|Ac 0 Z b Z λg a d=>Af ?_
 cases h
 refine Bz (.cell Z QW Z Av.e (box_pT 0 a Z)) ⟨a.ext,Z⟩
def strings_Split(a0:Wl)(a1:Wl):Option ((List Wl)):=
 Xd (Wc a0 a1 (0:Int) (-1:Int)) (λa=>TI a)
theorem POk{a0 a1:Wl}{r:(List Wl)}(h:strings_Split a0 a1=TI r):
  Pd 154 [Pg a0,Pg a1] w (λv w'=>∃d,v=d/\B2 9 .st H w w' d r):=by
 refine Ai 8 [(0,(Pg a0)),(1,(Pg a1))] func154 Z λhL=>Af ?_;refine Ah h λl e h=>A9 hL (AcH _ _ (Ae hL) e) ?_;rintro j m ⟨_,rfl,b⟩ f a c;obtain⟨k,a,c,g⟩:=b.take hH hL f;refine Af ?_
 cases h
 refine AD Z ⟨a.ext,_,Z,(a.Ev hH (i:=0) Z g)⟩
def J1(a0:Wl):Option ((List Wl)):=
 if a0=([]:Wl)then TI ([])else Xd (strings_Split a0 ([47]:Wl)) (λa=>TI a)
theorem N0{a0:Wl}{r:(List Wl)}(h:J1 a0=TI r):
  Pd 202 [Pg a0] w (λv w'=>∃d,v=d/\B2 9 .st H w w' d r):=by
 refine Ai 7 [(0,(Pg a0))] func202 Z λhL=>AR ?_;refine AJ (I5 Z Z)<|Ap<|Ar h ?_ ?_<;>intro e h
 ·refine Af ?_
  cases h
  refine AD Z ⟨hL.ext,_,Z,B2.nil⟩
 refine Af ?_;refine Ah h λm f h=>A9 hL (POk _ _ (Ae hL) f) ?_;rintro k o ⟨_,rfl,b⟩ g a c;obtain⟨l,a,c,j⟩:=b.take hH hL g;refine Af ?_
 cases h
 refine AD Z ⟨a.ext,_,Z,(a.Ev hH (i:=0) Z j)⟩
def CT(a0:Int):Option Bool:=
 if(0<=a0)/\(a0<55296)then TI true else(if(57343<a0)/\(a0<=1114111)then TI true else TI false)
theorem QxZ{a0:Int}{r:Bool}(h:CT a0=TI r):
  Pd 297 [.int .i32 a0] w (λv w'=>v=.bool r):=by
 refine Ai 17 [(0,.int .i32 a0)] func297 Z λhL=>AR ?_;refine NC 2 2 Z Z Z Z Z Z<|BJ 1 Z<|Ar h ?_ ?_<;>intro a h
 ·exact Bu
 refine FA 3 Z<|NC 2 2 Z Z Z Z Z Z<|BJ 1 Z<|Ar h ?_ ?_<;>intro b h
 ·exact Bu
 exact Bu
def QjA:Option Int:=
 TI ((-1))
def Di(a0:Wl):Nat->Option ((Nat)⊕(Int)):=λa=>
 if a<a0.length then(if((VN a0 a).1:Int)=65533 then Sh Sum.inr (TI ((a:Int)))else TI (Sum.inl (a+(VN a0 a).2)))else Sh Sum.inr QjA
def IX(a0:Wl)(s:Nat):Option Int:=Go.L.run (Di a0) s
def Aff(a1 a:Int):Option ((Int)⊕(Int)):=
 Ay (AL (a - (((EE a1).length:Int) - 1))) (Sh Sum.inr (TI ((a - (((EE a1).length:Int) - 1)))))
def Mb(a0:Wl)(a1 b:Int):Int->Option ((Int)⊕((Int)⊕(Int))):=λa=>
 if a<((EE a1).length:Int)then Ay (AL (b - a)) (Ay (0<=(b - a)/\(b - a)<(a0.length:Int)) (Ay (AL ((((EE a1).length:Int) - 1) - a)) (Ay (0<=((((EE a1).length:Int) - 1) - a)/\((((EE a1).length:Int) - 1) - a)<((EE a1).length:Int)) (if((a0.getD (b - a).toNat Qq7).toNat:Int)=(((EE a1).getD ((((EE a1).length:Int) - 1) - a).toNat Qq7).toNat:Int)then Ay (AL (a+1)) (TI (Sum.inl (a+1)))else none))))else Sh Sum.inr ((Aff a1 b))
def Qzq(a0:Wl)(a1 a s:Int):Option ((Int)⊕(Int)):=Go.L.run (Mb a0 a1 a) s
def IY(a0:Wl)(a1 a:Int):Option ((Int)⊕(Int)):=
 (Qzq a0 a1 a) (1:Int)
def Ng:Option Int:=
 TI ((-1))
def Iu(a0:Wl)(a1:Int):Int->Option ((Int)⊕(Int)):=λa=>
 if a<(a0.length:Int)then Ay (0<=a/\a<(a0.length:Int)) (Ay (0<=(((EE a1).length:Int) - 1)/\(((EE a1).length:Int) - 1)<((EE a1).length:Int)) (if((a0.getD a.toNat Qq7).toNat:Int)=(((EE a1).getD (((EE a1).length:Int) - 1).toNat Qq7).toNat:Int)then(IY a0 a1) a else Ay (AL (a+1)) (Ay (0<=(a+1)/\(a+1)<=(a0.length:Int)) (Ay (0<=(((EE a1).length:Int) - 1)/\(((EE a1).length:Int) - 1)<((EE a1).length:Int)) (Xd (AcI (a0.drop (a+1).toNat) ((EE a1).getD (((EE a1).length:Int) - 1).toNat Qq7)) (λb=>if b<0 then Sh Sum.inr (TI ((-1)))else Ay (AL (b+1)) (Ay (AL (a+(b+1))) ((IY a0 a1) (a+(b+1))))))))))else Sh Sum.inr Ng
def Qx1(a0:Wl)(a1 s:Int):Option Int:=Go.L.run (Iu a0 a1) s
def EW(a0:Wl)(a1:Int):Option Int:=
 if(0<=a1)/\(a1<128)then Xd (AcI a0 (Go.L.u8 a1)) (λb=>TI b)else(if a1=65533 then(IX a0) (0:Nat)else Xd (CT a1) (λa=>if !a then TI ((-1))else Ay (AL (((EE a1).length:Int) - 1)) ((Qx1 a0 a1) (((EE a1).length:Int) - 1))))
theorem IZ{a0:Wl}{a1 r:Int}(h:EW a0 a1=TI r):
  Pd 266 [Pg a0,.int .i32 a1] w (λv w'=>v=No r):=by
 refine Ai 187 [(0,(Pg a0)),(1,.int .i32 a1)] func266 Z λhL=>AR ?_;refine NC 2 2 Z Z Z Z Z Z<|BJ 1 Z<|Ar h ?_ ?_<;>intro be h
 ·refine FA 2 Z<|AJ (Er (G7 _))<|Ah h λx3 bf h=>Al hL (Afg _ _ (Ae hL) bf) λw4 b9 ca bu=>Bu
 refine Bx 3 Z<|Ar h ?_ ?_<;>intro bg h
 ·refine AA Unit (λ(_:Unit)=>[]) (λ(_:Unit) wr=>AB w [] wr/\QjA=TI r) ?_ ?_
  ·refine FA 1 Z<|Ack Z hL λcb a5 a6 bh=>Ap<|A4 ?_;obtain⟨u,h⟩:=Ax h;refine AF (Nat×Nat) (λ⟨d,n⟩=>[(175,(SX a5))]) (λ⟨d,n⟩ wr=>AB w [.obj a5 (.stringIter ⟨(a0).toArray⟩ d)] wr/\D6 (Di a0) n d=TI r) (λ⟨d,n⟩=>n) ((0:Nat),u) Z ⟨a6,h⟩ ?_;rintro⟨d,nn36⟩ bv ⟨x,h⟩;obtain⟨u,cc,rfl,h,f⟩:=Aw h;refine A5<|AeN (l:=a0) (p:=d) 0 Z x Z (λg=>?_) (λg=>?_)
   ·have h:=JP g h;intro cd a7 bi;refine AR ?_;refine Cm<|AR ?_;refine Ar h ?_ ?_<;>intro a8 h
    ·have h:=AX.out h f;exact Bu
    refine Af ?_;have h:=AX.again h f;refine Ak (_,_) Z ⟨a7,h⟩
   have h:=JQ g h;refine AR ?_;refine BO ?_;have h:=AX.out h f;refine Af ?_;have a9:=x.dT 0 Z;refine Am () ⟨a9,h⟩
  rintro _ bw ⟨bx,h⟩;exact Bu
 refine FA 1 Z<|Ah h λce ba h=>Al hL (QxZ _ _ (Ae hL) ba) λcf bz bb bj=>BJ 2 Z<|AH h ?_ ?_<;>intro bc h
 ·exact Bu
 refine X0<|FA 1 Z<|AJ (AmQ Z)<|Af ?_;refine AJ (Dn Z)<|Ag h λb0 h=>Af ?_;refine AA Unit (λ(_:Unit)=>[]) (λ(_:Unit) wr=>AB w [] wr/\Ng=TI r) ?_ ?_
 ·refine A4 ?_;obtain⟨y,h⟩:=Ax h;refine AF (Int×Nat) (λ⟨c,n⟩=>[(0,(Pg a0)),(7,.string ⟨((EE a1)).toArray⟩),(8,No (((EE a1).length:Int) - 1)),(9,No c)]) (λ⟨c,n⟩ wr=>AB w [] wr/\D6 (Iu a0 a1) n c=TI r) (λ⟨c,n⟩=>n) ((((EE a1).length:Int) - 1),y) Z ⟨bb,h⟩ ?_;rintro⟨c,nn253⟩ bk ⟨k,h⟩;obtain⟨y,i,rfl,h,e⟩:=Aw h;refine AR ?_;refine AJ (Dn Z)<|BJ 1 Z<|Ar h ?_ ?_<;>intro z h
  ·refine Af ?_;refine A4<|X0<|AA Int (λa=>[(0,(Pg a0)),(7,.string ⟨((EE a1)).toArray⟩),(8,No (((EE a1).length:Int) - 1)),(9,No a)]) (λa wr=>AB w [] wr/\(IY a0 a1) a=TI i) ?_ ?_
   ·refine BF (Zt 0 7 (.tail 7)) mixed SF (λb1 aa=>?_);have ab:=k.call aa;refine Br 2 Z<|Ag h λac h=>Bh Z (Mo ac) Z<|Br 2 Z<|Ag h λad h=>Bh Z (Mo ad) Z<|Br 1 Z<|AT (λb2 ae=>?_);have m:=ab.call ae;refine Ap<|Bt h ?_ ?_<;>intro af h
    ·refine BF (Zt 0 9 (.tail 9)) mixed SF (λb3 ag=>?_);have ah:=m.call ag;refine Br 2 Z<|Ag h λai h=>Bh Z (Gq ai) Z<|Ag h λaj h=>Bh Z (Ad5 aj) Z<|Br 2 Z<|Ag h λak h=>Bh Z (Mo ak) Z<|Ah h λbd al h=>DY Z Z Z (λb4 bl=>Afg _ _ (Le.refl _) al)<|Br 1 Z<|AT (λb5 am=>?_);have o:=ah.call am;refine AR ?_;refine Ar h ?_ ?_<;>intro an h
     ·refine Af ?_;refine EA ?_;have h:=AX.out h e;refine Af ?_;refine EA<|KT ?_
      cases h
      refine AD Z ⟨o.ext,Z⟩
     refine Ag h λbm h=>Ag h λbn h=>Af ?_;refine Am _ ⟨o,h⟩
    refine Ca<|Am _ ⟨m,h⟩
   rintro a bo ⟨ao,h⟩;refine AA Unit (λ(_:Unit)=>[(8,No (((EE a1).length:Int) - 1)),(9,No a)]) (λ(_:Unit) wr=>AB w [] wr/\(Aff a1 a)=TI i) ?_ ?_
   ·refine Bx 1 Z<|A4 ?_;obtain⟨j,h⟩:=Ax h;refine AF (Int×Nat) (λ⟨b,n⟩=>[(0,(Pg a0)),(7,.string ⟨((EE a1)).toArray⟩),(8,No (((EE a1).length:Int) - 1)),(9,No a),(12,No b)]) (λ⟨b,n⟩ wr=>AB w [] wr/\D6 (Mb a0 a1 a) n b=TI i) (λ⟨b,n⟩=>n) (1,j) Z ⟨ao,h⟩ ?_;rintro⟨b,nn363⟩ bp ⟨s,h⟩;obtain⟨j,b6,rfl,h,t⟩:=Aw h;refine AR ?_;refine AJ (Dn Z)<|BJ 1 Z<|Ar h ?_ ?_<;>intro ap h
    ·refine AR ?_;refine BF (Zt 0 11 (.tail 11)) mixed SF (λb7 aq=>?_);have ar:=s.call aq;refine Br 3 Z<|Ag h λau h=>Bh Z (Gq au) Z<|Ag h λav h=>Bh Z (Mo av) Z<|Br 3 Z<|Ag h λaw h=>Bh Z (Gq aw) Z<|Ag h λax h=>Bh Z (Mo ax) Z<|Br 1 Z<|AT (λb8 ay=>?_);have az:=ar.call ay;refine Ap<|Bt h ?_ ?_<;>intro a2 h
     ·cases h
     refine Ag h λbq h=>Af ?_;have h:=AX.again h t;refine Ak (_,_) Z ⟨az,h⟩
    have h:=AX.out h t;refine Af ?_;refine Am () ⟨s,h⟩
   rintro _ br ⟨a3,h⟩;refine Ag h λbs h=>AR ?_;refine EA ?_;have h:=AX.out h e;refine Af ?_;refine EA<|KT ?_
   cases h
   refine AD Z ⟨a3.ext,Z⟩
  have h:=AX.out h e;refine Af ?_;refine Am () ⟨k,h⟩
 rintro _ bt ⟨a4,h⟩;refine AR ?_;refine EA<|KT ?_
 cases h
 refine AD Z ⟨a4.ext,Z⟩
def EL(a0:Wl)(a1:Int):Option Bool:=
 Xd (EW a0 a1) (λa=>TI (decide (0<=a)))
theorem KI{a0:Wl}{a1:Int}{r:Bool}(h:EL a0 a1=TI r):
  Pd 228 [Pg a0,.int .i32 a1] w (λv w'=>v=.bool r):=by
 refine Ai 9 [(0,(Pg a0)),(1,.int .i32 a1)] func228 Z λhL=>Af ?_;refine Ah h λe a h=>Al hL (IZ _ _ (Ae hL) a) λf c d b=>Bu
def Ri(a0:Int):Option Bool:=
 if(a0<97)\/(122<a0)then if a0<48 then Xd (EL ([45,95,46]:Wl) a0) (λb=>TI (!b))else if 57<a0 then Xd (EL ([45,95,46]:Wl) a0) (λa=>TI (!a))else TI false else TI false
theorem Afp{a0:Int}{r:Bool}(h:Ri a0=TI r):
  Pd 227 [.int .i32 a0] w (λv w'=>v=.bool r):=by
 refine Ai 22 [(0,.int .i32 a0)] func227 Z λhL=>Af ?_;refine Vj 2 2 Z Z Z Z Z Z<|AK 1 Z<|Bl 9 h ?_ ?_<;>intro b h
 ·refine Af ?_;refine Bl 12 h ?_ ?_<;>intro c h
  ·refine Af ?_;refine Ah h λp d h=>Al hL (KI _ _ (Ae hL) d) λq k l g=>Bu
  refine Af ?_;refine Bl 17 h ?_ ?_<;>intro e h
  ·refine Af ?_;refine Ah h λm a h=>Al hL (KI _ _ (Ae hL) a) λo i j f=>Bu
  exact Bu
 exact Bu
end
end Go.Proofs.YtgaljodghpgdmaaGreatDoor
end
noncomputable section
namespace Go.L
set_option maxRecDepth 20000 in
def Age{x:Int}(h:128<=x)(hx:x<=1114111)(hv:Go.Utf8.valid x=true):∃k:Nat,(EE x).length=k/\2<=k/\k<=4/\128<=((EE x).getD (k - 1) Qq7).toNat:=by
 obtain⟨c,rfl⟩:=Ph (show 0<=x by omega);have hm:∀j:Nat,(128+j % 64) % 256=128+j % 64:=λj=>Nat.mod_eq_of_lt U;unfold EE Go.Utf8.encode;simp only[hv,if_true,SV];rw[Pb U];have e:∀j:Nat,128<=(SJ (128+j % 64)).toNat:=λj=>by rw[UInt8.toNat_ofNat',hm];omega
 have f:∀a b:UInt8,((ByteArray.mk #[a,b]).data.toList.length=2)/\(ByteArray.mk #[a,b]).data.toList.getD (2 - 1) Qq7=b:=λ_ _=>⟨Z,Z⟩;have g:∀a b c:UInt8,((ByteArray.mk #[a,b,c]).data.toList.length=3)/\(ByteArray.mk #[a,b,c]).data.toList.getD (3 - 1) Qq7=c:=λ_ _ _=>⟨Z,Z⟩;have i:∀a b c d:UInt8,((ByteArray.mk #[a,b,c,d]).data.toList.length=4)/\(ByteArray.mk #[a,b,c,d]).data.toList.getD (4 - 1) Qq7=d:=λ_ _ _ _=>⟨Z,Z⟩
 by_cases l:c<2048
 ·rw[Xu l];refine⟨2,(f _ _).1,by omega,by omega,?_⟩;rw[(f _ _).2];exact e _
 ·rw[Pb l]
  by_cases h2:c<65536
  ·rw[Xu h2];refine⟨3,(g _ _ _).1,by omega,by omega,?_⟩;rw[(g _ _ _).2];exact e _
  ·rw[Pb h2];refine⟨4,(i _ _ _ _).1,by omega,by omega,?_⟩;rw[(i _ _ _ _).2];exact e _
end Go.L
namespace Go.Proofs.YtgaljodghpgdmaaGreatDoor
open Go Go.L
def AdP:∀n:Fin 128,(0<=Lib.indexByte [45,95,46] (u8 (n.val:Int))↔(n.val=45\/n.val=95\/n.val=46)):=by decide
def Aij:IX [45,95,46] 0=TI (-1):=by
 unfold IX;have r0:Di [45,95,46] 0=TI (.inl 1):=by rfl
 have r1:Di [45,95,46] 1=TI (.inl 2):=by rfl
 have r2:Di [45,95,46] 2=TI (.inl 3):=by rfl
 have r3:Di [45,95,46] 3=TI (.inr (-1)):=by rfl
 rw[AE r0,AE r1,AE r2];exact A2 (m:=TI (-1)) r3
theorem Agf{x:Int}(a:0<=x)(hx:x<=1114111):∃i,EW [45,95,46] x=TI i/\(0<=i↔(x=45\/x=95\/x=46)):=by
 unfold EW
 by_cases f:x<128
 ·rw[Xu ⟨a,f⟩];have:=AdP ⟨x.toNat,by omega⟩;simp only[Int.toNat_of_nonneg a]at this;exact⟨_,Z,by rw[this];omega⟩
 ·rw[Pb U];have hn : ¬(x=45\/x=95\/x=46):=by omega
  by_cases h2:x=65533
  ·rw[Xu h2,Aij];exact⟨_,Z,by omega⟩
  ·rw[Pb h2]
   by_cases hv:Go.Utf8.valid x=true
   ·have e:CT x=TI true:=by
     unfold CT;simp only[Go.Utf8.valid,U2,ZA,Xf]at hv
     by_cases h3:0<=x/\x<55296
     ·rw[Xu h3]
     ·rw[Pb h3,Xu U]
    rw[e];obtain⟨k,hk,h,j,hl⟩:=Age U hx hv;simp only[Wo,Bool.not_true,SQ,if_false,hk];rw[Ab U];refine⟨-1,A2 ?_,by omega⟩;unfold Iu;have g:((k:Int) - 1).toNat=k - 1:=by omega
    have key:∀(l:Qm) (c:UInt8),(∀b∈l,b.toNat<128)->128<=c.toNat->Lib.indexByte l c = -1:=by
     intro l c hl hc
     induction l with
     | nil=>rfl
     | cons b l ih=>
      have hb:=hl b (.head _)
      have hne:(b==c)=false:=by
       cases hh:b==c with
       | false=>rfl
       | true=>have:=beq_iff_eq.1 hh;subst this;omega
      unfold Lib.indexByte;rw[ih (λb hb=>hl b (.tail _ hb)),hne]
      rfl
    have d:k=2\/k=3\/k=4:=by omega
    simp only[hk,g]
    rcases d with rfl | rfl | rfl
    ·rw[Xu Y5,Ab Y5,Ab Y5,Pb (by intro hh;have:(([45,95,46]:Qm).getD 1 Qq7).toNat=95:=Z;simp only[Nat.reduceSub]at hl hh;omega),Ab (by unfold AL;decide),Ab Y5,Ab Y5];unfold AcI;rw[Wo,key _ _ Y5 hl,Xu Y5]
    ·rw[Xu Y5,Ab Y5,Ab Y5,Pb (by intro hh;have:(([45,95,46]:Qm).getD 2 Qq7).toNat=46:=Z;simp only[Nat.reduceSub]at hl hh;omega),Ab (by unfold AL;decide),Ab Y5,Ab Y5];unfold AcI;rw[Wo,key _ _ Y5 hl,Xu Y5]
    ·rw[Pb Y5]
     rfl
   ·have e:CT x=TI false:=by
     unfold CT;simp only[Go.Utf8.valid,U2,ZA,Xf]at hv;rw[Pb U,Pb U]
    rw[e];exact⟨-1,Z,by omega⟩
def Vy(n:Nat):Bool:=!((decide (97<=n/\n<=122))||(decide (48<=n/\n<=57))||(decide (n=45\/n=95\/n=46)))
def Aik{n:Nat}(hx:n<=1114111):Ri (n:Int)=TI (Vy n):=by
 obtain⟨i,hi,hd⟩:=Agf (x:=(n:Int)) U U;have hc:EL [45,95,46] (n:Int)=TI (decide (0<=i)):=by unfold EL;rw[hi];rfl
 have hd':decide (0<=i)=decide (n=45\/n=95\/n=46):=by
  rw[Z8,Xf,Xf,hd];omega
 unfold Ri Vy;rw[hc,hd'];simp only[Wo]
 by_cases c:(n:Int)<97\/(122:Int)<n
 ·rw[Xu c];have a:decide (97<=n/\n<=122)=false:=UK U
  by_cases h2:(n:Int)<48
  ·rw[Xu h2];have b:decide (48<=n/\n<=57)=false:=UK U;rw[a,b];rfl
  ·rw[Pb h2]
   by_cases h3:(57:Int)<n
   ·rw[Xu h3];have b:decide (48<=n/\n<=57)=false:=UK U;rw[a,b];rfl
   ·rw[Pb h3];have b:decide (48<=n/\n<=57)=true:=Xq U;rw[a,b];rfl
 ·rw[Pb c];have a:decide (97<=n/\n<=122)=true:=Xq U;rw[a];rfl
open Go.E Go.RowKit Go.Shelf
noncomputable def Abl(a:Qm):Option Bool:=TI (decide (0<=Lib.idxFunc Vy true ⟨a.toArray⟩))
section
variable(w:World)(H:PH)(hH:Le H (hp w)) include hH
theorem Agg{a0:Qm}{r:Bool}(h:Abl a0=TI r):
  Ok Tryz.prog 226 [.string ⟨a0.toArray⟩,.func (.func 227) #[] #[]] w (λv w'=>Ext w w'/\v=.bool r):=by
 obtain rfl:=Option.some.inj h;refine⟨⟨Tryz.f226,_,Tryz.func226,Z,Z⟩,(Any.strings_ContainsFunc_grows Tryz.Anm 227 #[] (enters_of Tryz.func227 SF Z) Vy ⟨a0.toArray⟩ w ?_).mono λe w' he=>?_⟩
 ·intro W x hx _;refine(Afp W (hp W) (Le.refl _) (Aik hx)).2.mono λe w' he=>?_;obtain⟨v,rfl,hx,rfl⟩:=he;exact⟨Z,hx.toBelow⟩
 ·obtain⟨rfl,hb⟩:=he;exact⟨_,Z,Ext.off hb,Z⟩
end
open Go.E Go.RowKit
set_option maxHeartbeats 1000000
set_option maxRecDepth 10000
open _root_.Go.Proofs.Tryz
def OL(a0:Wl):Option Bool:=
 if a0=([]:Wl)then TI false else if 32<(a0.length:Int)then TI false else Ay (0<=(0:Int)/\(0:Int)<(a0.length:Int)) (if((a0.getD (0:Int).toNat Qq7).toNat:Int)<97 then TI false else Ay (0<=(0:Int)/\(0:Int)<(a0.length:Int)) (if 122<((a0.getD (0:Int).toNat Qq7).toNat:Int)then TI false else Xd (Abl a0) (λa=>TI (!a))))
section
variable(w:World)(H:PH)(hH:Le H (hp w)) include hH
theorem Afk{a0:Wl}{r:Bool}(h:OL a0=TI r):
  Pd 176 [Pg a0] w (λv w'=>v=.bool r):=by
 refine Ai 23 [(0,(Pg a0))] func176 Z λhL=>AR ?_;refine AJ (I5 Z Z)<|AK 1 Z<|Bl 5 h ?_ ?_<;>intro d h
 ·refine Af ?_;refine Cm<|Bu
 refine Af ?_;refine AJ (Dn Z)<|Af ?_;refine Bl 10 h ?_ ?_<;>intro e h
 ·refine Af ?_;refine Cm<|Bu
 refine Af ?_;refine Ag h λf h=>AJ (Mo f)<|Af ?_;refine Bl 15 h ?_ ?_<;>intro g h
 ·refine Af ?_;refine Cm<|Bu
 refine Af ?_;refine Ag h λa h=>AJ (Mo a)<|Af ?_;refine Ar h ?_ ?_<;>intro b h
 ·exact Bu
 refine Af ?_;refine Ah h λl c h=>Al hL (Agg _ _ (Ae hL) c) λm j k i=>Bu
def RI:Option Z7:=
 TI ((0,0))
def E2(c:(List Wl)):Int×Int->Option (Zv⊕Z7):=λ⟨b,a⟩=>
 if a<(c.length:Int)then Ay (0<=a/\a<(c.length:Int)) (if c.getD a.toNat Qq7=([35]:Wl)then Ay (AL (((c.getD a.toNat Qq7).length:Int)+1)) (Ay (AL (b+(((c.getD a.toNat Qq7).length:Int)+1))) (Ay (AL (a+1)) (TI (Sum.inl ((b+(((c.getD a.toNat Qq7).length:Int)+1)),(a+1))))))else if c.getD a.toNat Qq7=([42]:Wl)then Ay (AL (((c.getD a.toNat Qq7).length:Int)+1)) (Ay (AL (b+(((c.getD a.toNat Qq7).length:Int)+1))) (Ay (AL (a+1)) (TI (Sum.inl ((b+(((c.getD a.toNat Qq7).length:Int)+1)),(a+1))))))else if c.getD a.toNat Qq7=([42,42]:Wl)then Ay (AL (((c.getD a.toNat Qq7).length:Int)+1)) (Ay (AL (b+(((c.getD a.toNat Qq7).length:Int)+1))) (Ay (AL (a+1)) (TI (Sum.inl ((b+(((c.getD a.toNat Qq7).length:Int)+1)),(a+1))))))else Xd (OL (c.getD a.toNat Qq7)) (λe=>if !e then Xd (Dz (1:Int) b) (λd=>Sh Sum.inr (TI ((d.1,d.2))))else Ay (AL (((c.getD a.toNat Qq7).length:Int)+1)) (Ay (AL (b+(((c.getD a.toNat Qq7).length:Int)+1))) (Ay (AL (a+1)) (TI (Sum.inl ((b+(((c.getD a.toNat Qq7).length:Int)+1)),(a+1))))))))else Sh Sum.inr RI
def Qkx(a:(List Wl))(s:Int×Int):Option Z7:=Go.L.run (E2 a) s
def HC(a0:Wl):Option Z7:=
 if 64<(a0.length:Int)then Xd (Dz (3:Int) (-1:Int)) (λa=>TI ((a.1,a.2)))else Xd (J1 a0) (λb=>(Qkx b) (0,0))
theorem Kt{a0:Wl}{r:Z7}(h:HC a0=TI r):
  Pd 149 [Pg a0] w (λv w'=>v=.agg #[No r.1,No r.2]):=by
 refine Ai 41 [(0,(Pg a0))] func149 Z λhL=>A5<|Aq Av.e Z hL λw1 t j a9 _=>AR ?_;refine AJ (Dn Z)<|BJ 1 Z<|Ar h ?_ ?_<;>intro ak h
 ·refine A5<|Ah h λx4 al h=>Al j (Fi _ _ (Ae j) al) λw5 bl am ba=>Ac 0 Z am Z λw6 af bb=>Af ?_
  cases h
  refine Bz (.cell Z QW Z Av.e (box_pT 0 af Z)) ⟨af.ext,Z⟩
 refine Af ?_;refine AA Unit (λ(_:Unit)=>[(2,(SX t))]) (λ(_:Unit) wr=>AB w [.box t [No 0,No 0] 39] wr/\RI=TI r) ?_ ?_
 ·refine FA 1 Z<|Ah h λg ag h=>A9 j (N0 _ _ (Ae j) ag) ?_;rintro k bm ⟨_,rfl,p⟩ ah ai aq;have q:=p.BB hH j ah;refine Af ?_;refine A4 ?_;obtain⟨f,h⟩:=Ax h;refine AF (Int×Int×Nat) (λ⟨b,a,n⟩=>[(2,(SX t)),(3,No b),(11,k),(12,No (g.length:Int)),(13,No a)]) (λ⟨b,a,n⟩ wr=>Cd w [.box t [No 0,No 0] 39] wr λOz=>As .st (gz H w wr Oz) k g/\D6 (E2 g) n (b,a)=TI r) (λ⟨b,a,n⟩=>n) (0,0,f) Z ⟨ai,q,h⟩ ?_;rintro⟨b,a,nn124⟩ ar ⟨d,c,h⟩;obtain⟨f,bc,rfl,h,e⟩:=Aw h;refine AR ?_;refine Ar h ?_ ?_<;>intro u h
  ·refine AR ?_;refine Ag h λl h=>A1 c a.toNat (BP l) (An l) ?_;rintro bd _ rfl x;refine sH x (Ae d)<|AR ?_;refine AJ (ND Z Z)<|AK 1 Z<|Dm 19 h ?_ ?_<;>intro y h
   ·refine Af ?_;refine AJ (ND Z Z)<|Af ?_;refine Dm 23 h ?_ ?_<;>intro z h
    ·refine Af ?_;refine AJ (ND Z Z)<|Af ?_;refine Dm 27 h ?_ ?_<;>intro aa h
     ·refine Af ?_;refine Ah h λbe ab h=>Al d (Afk _ _ (Ae d) ab) λbf au i s=>Af ?_;refine AH h ?_ ?_<;>intro ac h
      ·refine FA 1 Z<|Ah h λbg ad h=>Al i (Fi _ _ (Ae i) ad) λbh av ae an=>Ac 0 Z ae Z ?_;intro bi m ao;have h:=AX.out h e;refine Af ?_
       cases h
       refine Bz (.cell Z QW Z Av.e (box_pT 0 m Z)) ⟨m.ext,Z⟩
      refine Af ?_;refine AJ (Dn Z)<|Ag h λaw h=>Ag h λax h=>Ag h λay h=>Af ?_;have h:=AX.again h e;have c:=c.mono (Aa s);refine Ak (_,_,_) Z ⟨i,c,h⟩
     refine Af ?_;refine BO<|Af ?_;refine AJ (Dn Z)<|Ag h λaz h=>Ag h λa1 h=>Ag h λa2 h=>Af ?_;have h:=AX.again h e;refine Ak (_,_,_) Z ⟨d,c,h⟩
    refine Af ?_;refine BO<|Af ?_;refine AJ (Dn Z)<|Ag h λa3 h=>Ag h λa4 h=>Ag h λa5 h=>Af ?_;have h:=AX.again h e;refine Ak (_,_,_) Z ⟨d,c,h⟩
   refine Af ?_;refine BO<|Af ?_;refine AJ (Dn Z)<|Ag h λa6 h=>Ag h λa7 h=>Ag h λa8 h=>Af ?_;have h:=AX.again h e;refine Ak (_,_,_) Z ⟨d,c,h⟩
  have h:=AX.out h e;refine Af ?_;refine Am () ⟨d,h⟩
 rintro _ bj ⟨aj,h⟩;refine A5<|AJ (A8 (λ_=>Bo _))<|Ac 0 Z aj Z λbk o ap=>Af ?_
 cases h
 refine Bz (.cell Z QW Z Av.e (box_pT 0 o Z)) ⟨o.ext,Z⟩
def Lu(a0:Wl):Option Bool:=
 Xd (OL a0) (λa=>TI (!a))
theorem Inc{a0:Wl}{r:Bool}(h:Lu a0=TI r):
  Pd 175 [Pg a0] w (λv w'=>v=.bool r):=by
 refine Ai 6 [(0,(Pg a0))] func175 Z λhL=>Af ?_;refine Ah h λe a h=>Al hL (Afk _ _ (Ae hL) a) λf c d b=>Bu
def GY(a0:Wl)(a1:Wl):Option Bool:=
 if a0=([42,42]:Wl)then TI (decide (a1=([42,42]:Wl)))else TI false
theorem NH{a0 a1:Wl}{r:Bool}(h:GY a0 a1=TI r):
  Pd 274 [Pg a0,Pg a1] w (λv w'=>v=.bool r):=by
 refine Ai 11 [(0,(Pg a0)),(1,(Pg a1))] func274 Z λhL=>Af ?_;refine AJ (I5 Z Z)<|AK 1 Z<|Bl 7 h ?_ ?_<;>intro a h
 ·refine Af ?_;refine AJ (I5 Z Z)<|Bu
 exact Bu
end
def Ja:Option Bool:=
 TI false
def C9(a0:List Wl)(a1:List Wl)(self:(List Wl)->(List Wl)->Option Bool):Int->Option ((Int)⊕(Bool)):=λa=>
 if a<((a1.length:Int)+1)then Ay (0<=(1:Int)/\(1:Int)<=(a0.length:Int)) (Ay (0<=a/\a<=(a1.length:Int)) (Xd (self (a0.drop (1:Int).toNat) (a1.drop a.toNat)) (λb=>if b then Sh Sum.inr (TI true)else Ay (AL (a+1)) (TI (Sum.inl (a+1))))))else Sh Sum.inr Ja
def QkX(a0:List Wl)(a1:List Wl)(self:(List Wl)->(List Wl)->Option Bool)(s:Int):Option Bool:=Go.L.run (C9 a0 a1 self) s
def Jb(a0:List Wl)(a1:List Wl)(self:(List Wl)->(List Wl)->Option Bool):Option Bool:=
 if 0<(a1.length:Int)then Ay (0<=(0:Int)/\(0:Int)<(a0.length:Int)) (if a0.getD ((0:Int).toNat) Qq7=([42]:Wl)then Ay (0<=(1:Int)/\(1:Int)<=(a0.length:Int)) (Ay (0<=(1:Int)/\(1:Int)<=(a1.length:Int)) (Xd (self (a0.drop (1:Int).toNat) (a1.drop (1:Int).toNat)) (λa=>TI a)))else Ay (0<=(0:Int)/\(0:Int)<(a0.length:Int)) (Ay (0<=(0:Int)/\(0:Int)<(a1.length:Int)) (if a0.getD ((0:Int).toNat) Qq7=a1.getD ((0:Int).toNat) Qq7 then Ay (0<=(1:Int)/\(1:Int)<=(a0.length:Int)) (Ay (0<=(1:Int)/\(1:Int)<=(a1.length:Int)) (Xd (self (a0.drop (1:Int).toNat) (a1.drop (1:Int).toNat)) (λb=>TI b)))else TI false)))else TI false
def EX(self:(List Wl)->(List Wl)->Option Bool)(a0:List Wl)(a1:List Wl):Option Bool:=
 if(a0.length:Int)=0 then TI (decide ((a1.length:Int)=0))else Ay (0<=(0:Int)/\(0:Int)<(a0.length:Int)) (if a0.getD ((0:Int).toNat) Qq7=([42,42]:Wl)then Ay (AL ((a1.length:Int)+1)) ((QkX a0 a1 self) (0:Int))else(Jb a0 a1 self))
def Jc(self:(List Wl)->(List Wl)->Option Bool):Prop:=∀(w:World) (H:PH) (hH:Le H (hp w)) {a0:List Wl}{a1:List Wl}{a:Value}{b:Value} (c:As .st H a a0) (d:As .st H b a1) {r:Bool} (h:self a0 a1=TI r),Ok prog 275 [a,b] w (λv w'=>Ext w w'/\v=.bool r)
def EM:Nat->(List Wl)->(List Wl)->Option Bool
 | 0=>λ_ _=>none
 | n+1=>EX (EM n)
def Rj:(List Wl)->(List Wl)->Option Bool:=EM 1000
def Qqa(self:(List Wl)->(List Wl)->Option Bool)(hself:Jc self):Jc (EX self):=by
 intro w H hH a0 a1 k l f g r h;unfold Jc at hself;refine Ai 54 [(0,k),(1,l)] func275 Z λhL=>AR ?_;refine Ar h ?_ ?_<;>intro a9 h
 ·exact Bu
 refine Af ?_;refine AA Unit (λ(_:Unit)=>[(0,k),(1,l)]) (λ(_:Unit) wr=>AB w [] wr/\(Jb a0 a1 self)=TI r) ?_ ?_
 ·refine FA 1 Z<|Ag h λz h=>A1 f ((0:Int).toNat) (BP z) (An z) ?_;rintro b8 _ rfl a6;refine sH a6 (hH.trans hL.arg)<|AJ (I5 Z Z)<|Ap<|Ar h ?_ ?_<;>intro a7 h
  ·refine AA Unit (λ(_:Unit)=>[]) (λ(_:Unit) wr=>AB w [] wr/\Ja=TI r) ?_ ?_
   ·refine Ag h λbg h=>Af ?_;refine A4 ?_;obtain⟨m,h⟩:=Ax h;refine AF (Int×Nat) (λ⟨e,n⟩=>[(0,k),(1,l),(18,No ((a1.length:Int)+1)),(19,No e)]) (λ⟨e,n⟩ wr=>AB w [] wr/\D6 (C9 a0 a1 self) n e=TI r) (λ⟨e,n⟩=>n) (0,m) Z ⟨hL,h⟩ ?_;rintro⟨e,nn116⟩ ba ⟨o,h⟩;obtain⟨m,bh,rfl,h,i⟩:=Aw h;refine AR ?_;refine Ar h ?_ ?_<;>intro aa h
    ·refine AR ?_;refine BF (Zt 0 6 (.tail 6)) mixed SF (λbi ab=>?_);have j:=o.call ab;refine Br 1 Z<|Ag h λac h=>PZ Z Z Jk f ac Z λbj ad=>Br 2 Z<|Ag h λae h=>PZ Z Z Jk g ae Z λbk af=>Ah h λbl ag h=>DY Z Z Z (λbm p=>hself _ _ (Le.refl _) ((ad.mono (hH.trans j.arg)).mono p.le) ((af.mono (hH.trans j.arg)).mono p.le) ag)<|AT (λbn ah=>?_);have ai:=j.call ah;refine Ap<|AH h ?_ ?_<;>intro aj h
     ·have h:=AX.out h i;exact Bu
     refine Ag h λbb h=>Af ?_;have h:=AX.again h i;refine Ak (_,_) Z ⟨ai,h⟩
    have h:=AX.out h i;refine Af ?_;refine Am () ⟨o,h⟩
   rintro _ bo ⟨bp,h⟩;exact Bu
  refine Ca<|Am () ⟨hL,h⟩
 rintro _ bq ⟨a8,h⟩;refine BF (Zt 0 26 (.tail 26)) mixed SF (λbr ak=>?_);have c:=a8.call ak;refine Br 1 Z<|Bh Z (W2 g) Z<|Br 2 Z<|FX 32 Z (λa=>?_) (λa=>?_)
 ·have h:=JP (Z4 a) h;refine Cr Z (Az Z) Z Z Z a Z<|Ag h λt h=>GP Z Z Z Z a Z Z Jk f ((0:Int).toNat) (BP t) (An t) Z ?_;rintro bs _ rfl al;refine Cr Z (B5 al (hH.trans c.arg)) Z Z Z a Z<|Cr Z (I5 Z Z) Z Z Z a Z<|Cr Z (Az Z) Z Z Z a Z<|FX 37 Z (λb=>?_) (λb=>?_)
  ·have h:=JP (Z4 b) h
   iterate 7 refine Mm Z Z Z Z b Z ?_
   refine Cr Z (CA b Z) Z Z Z a Z<|Bh Z (CA a Z) Z<|Br 1 Z<|Cr Z (Az Z) Z Z Z Z Z<|Ag h λam h=>KF Z Z Z Jk f am Z λbt an=>Cr Z (Az Z) Z Z Z Z Z<|Ag h λao h=>KF Z Z Z Jk g ao Z λbu ap=>Ah h λbv aq h=>MC Z Z Z Z Z Z Z (λbw u=>hself _ _ (Le.refl _) ((an.mono (hH.trans c.arg)).mono u.le) ((ap.mono (hH.trans c.arg)).mono u.le) aq)<|Bh Z (CA Z Z) Z<|Br 1 Z<|AT (λbx ar=>?_);have bc:=c.call ar;exact Bu
  have h:=JQ (of_decide_eq_false b) h;refine Cr Z (Az Z) Z Z Z b Z<|Ag h λv h=>GP Z Z Z Z b Z Z Jk f ((0:Int).toNat) (BP v) (An v) Z ?_;rintro bz _ rfl au;refine Cr Z (B5 au (hH.trans c.arg)) Z Z Z b Z<|Cr Z (Az Z) Z Z Z b Z<|Ag h λx h=>GP Z Z Z Z b Z Z Jk g ((0:Int).toNat) (BP x) (An x) Z ?_;rintro b0 _ rfl av;refine Cr Z (B5 av (hH.trans c.arg)) Z Z Z b Z<|Cr Z (I5 Z Z) Z Z Z b Z<|Cr Z (B4 b Z) Z Z Z a Z<|Bh Z (CA a Z) Z<|Br 1 Z<|FX 47 Z (λd=>?_) (λd=>?_)
  ·have h:=JP (Z4 d) h;refine Cr Z (Az Z) Z Z Z d Z<|Ag h λaw h=>KF Z d Z Jk f aw Z λb1 ax=>Cr Z (Az Z) Z Z Z d Z<|Ag h λay h=>KF Z d Z Jk g ay Z λb2 az=>Ah h λb3 a2 h=>MC Z Z Z Z d Z Z (λb4 y=>hself _ _ (Le.refl _) ((ax.mono (hH.trans c.arg)).mono y.le) ((az.mono (hH.trans c.arg)).mono y.le) a2)<|Bh Z (CA d Z) Z<|Br 1 Z<|AT (λb5 a3=>?_);have bd:=c.call a3;exact Bu
  have h:=JQ (of_decide_eq_false d) h
  iterate 5 refine Mm Z Z Z Z d Z ?_
  refine Bh Z (B4 d Z) Z<|Br 1 Z<|AT (λb6 a4=>?_);have be:=c.call a4;exact Bu
 have h:=JQ (of_decide_eq_false a) h
 iterate 5 refine Mm Z Z Z Z a Z ?_
 iterate 7 refine Pc Z Z Z Z Z ?_
 refine Mm Z Z Z Z a Z<|Bh Z (B4 a Z) Z<|Br 1 Z ?_
 iterate 5 refine Mm Z Z Z Z Z Z ?_
 refine Bh Z (B4 Z Z) Z<|Br 1 Z<|AT (λb7 a5=>?_);have bf:=c.call a5;exact Bu
theorem Aa1(n:Nat):Jc (EM n):=by
 induction n with
 | zero=>unfold Jc;intros;rename_i h;cases h
 | succ n ih=>exact Qqa (EM n) ih
section
variable(w:World)(H:PH)(hH:Le H (hp w)) include hH
theorem Qzc{a0 a1:List Wl}{a b:Value}(c:As .st H a a0)(d:As .st H b a1){r:Bool}(h:Rj a0 a1=TI r):Ok prog 275 [a,b] w (λv w'=>Ext w w'/\v=.bool r):=Aa1 1000 w H hH c d h
def JG:Option Int:=
 TI ((-1))
def DM(a0:List Wl):Int->Option ((Int)⊕(Int)):=λa=>
 if a<(a0.length:Int)then Ay (0<=a/\a<(a0.length:Int)) (Xd (Lu (a0.getD a.toNat Qq7)) (λb=>if b then Sh Sum.inr (TI a)else Ay (AL (a+1)) (TI (Sum.inl (a+1)))))else Sh Sum.inr JG
def Ags(a0:List Wl)(s:Int):Option Int:=Go.L.run (DM a0) s
def Mw(a0:List Wl):Option Int:=
 (Ags a0) (0:Int)
theorem QzX{a0:List Wl}{b:Value}(g:As .st H b a0){r:Int}(h:Mw a0=TI r):
  Pd 225 [b,.func (.func 175) #[] #[]] w (λv w'=>v=No r):=by
 refine Ai 19 [(0,b),(1,.func (.func 175) #[] #[])] func225 Z λhL=>Bx 1 Z<|AA Unit (λ(_:Unit)=>[]) (λ(_:Unit) wr=>AB w [] wr/\JG=TI r) ?_ ?_
 ·refine Af ?_;refine A4 ?_;obtain⟨e,h⟩:=Ax h;refine AF (Int×Nat) (λ⟨a,n⟩=>[(0,b),(1,.func (.func 175) #[] #[]),(7,No (a0.length:Int)),(8,No a)]) (λ⟨a,n⟩ wr=>AB w [] wr/\D6 (DM a0) n a=TI r) (λ⟨a,n⟩=>n) (0,e) Z ⟨hL,h⟩ ?_;rintro⟨a,nn42⟩ p ⟨c,h⟩;obtain⟨e,x,rfl,h,d⟩:=Aw h;refine AR ?_;refine Ar h ?_ ?_<;>intro i h
  ·refine AR ?_;refine Ag h λf h=>A1 g a.toNat (BP f) (An f) ?_;rintro y _ rfl j;refine sH j (hH.trans c.arg)<|Ah h λz k h=>Qd c (Inc _ _ (Ae c) k) ?_;rintro _ aa rfl q l o;refine Ap<|AH h ?_ ?_<;>intro m h
   ·have h:=AX.out h d;exact Bu
   refine Ag h λs h=>Af ?_;have h:=AX.again h d;refine Ak (_,_) Z ⟨l,h⟩
  have h:=AX.out h d;refine Af ?_;refine Am () ⟨c,h⟩
 rintro _ t ⟨u,h⟩;exact Bu
def J2(a0:List Wl):Option Bool:=
 Xd (Mw a0) (λa=>TI (decide (0<=a)))
theorem EnS{a0:List Wl}{a:Value}(b:As .st H a a0){r:Bool}(h:J2 a0=TI r):
  Pd 174 [a,.func (.func 175) #[] #[]] w (λv w'=>v=.bool r):=by
 refine Ai 9 [(0,a),(1,.func (.func 175) #[] #[])] func174 Z λhL=>Af ?_;refine Ah h λg c h=>Al hL (QzX _ _ (Ae hL) (b.mono  Ad) c) λi e f d=>Bu
end
def Ds(b:List Wl)(a:Int):Option (((List Wl)×Int)⊕((List Wl))):=
 Ay (0<=a/\a<=(b.length:Int)) (Ay (0<=a/\a<=((b.take a.toNat++Xk (b.length - a.toNat) ([]:Wl)).length:Int)) (Sh Sum.inr (TI (((b.take a.toNat++Xk (b.length - a.toNat) ([]:Wl)).take a.toNat)))))
def BL(b:Int):(List Wl)×Int×Int->Option (((List Wl)×Int×Int)⊕(((List Wl)×Int)⊕((List Wl)))):=λ⟨c,d,a⟩=>
 if a<((c.drop b.toNat).length:Int)then Ay (0<=a/\a<((c.drop b.toNat).length:Int)) (Ay (AL (a - 1)) (Ay (0<=(a - 1)/\(a - 1)<((c.drop b.toNat).length:Int)) (Xd (GY ((c.drop b.toNat).getD a.toNat Qq7) ((c.drop b.toNat).getD ((a - 1).toNat) Qq7)) (λe=>if !e then Ay (0<=a/\a<((c.drop b.toNat).length:Int)) (Ay (0<=d/\d<(c.length:Int)) (Ay (AL (d+1)) (Ay (AL (a+1)) (TI (Sum.inl ((c.set d.toNat ((c.drop b.toNat).getD a.toNat Qq7)),(d+1),(a+1)))))))else Ay (AL (a+1)) (TI (Sum.inl (c,d,(a+1))))))))else Sh Sum.inr (Ds c d)
def Dt(a:Int)(s:(List Wl)×Int×Int):Option (((List Wl)×Int)⊕((List Wl))):=Go.L.run (BL a) s
def Du(b:List Wl)(a:Int):Option (((List Wl)×Int)⊕((List Wl))):=
 Ay (AL (a+1)) (TI (Sum.inl (b,(a+1))))
def Dv(a:List Wl):Option ((List Wl)):=
 TI a
def Bm:(List Wl)×Int->Option (((List Wl)×Int)⊕((List Wl))):=λ⟨b,a⟩=>
 if a<(b.length:Int)then Ay (0<=a/\a<(b.length:Int)) (Ay (AL (a - 1)) (Ay (0<=(a - 1)/\(a - 1)<(b.length:Int)) (Xd (GY (b.getD a.toNat Qq7) (b.getD ((a - 1).toNat) Qq7)) (λc=>if c then Ay (0<=a/\a<=(b.length:Int)) ((Dt a) (b,a,1))else(Du b) a))))else Sh Sum.inr (Dv b)
def Qk2(s:(List Wl)×Int):Option ((List Wl)):=Go.L.run Bm s
def CD(a0:List Wl):Option ((List Wl)):=
 if(a0.length:Int)<2 then TI a0 else Qk2 (a0,1)
def Wid{w0 w:World}{H:PH}(hH:Le H (hp w0)){O:List Bv}{a0:List Wl}{va0:Value}{xsa0:LR}(hL:AB w0 (Ha [.row va0 9 1 (a0).length xsa0] O) w)(ba:Ao .st (gz H w0 w (Ha [.row va0 9 1 (a0).length xsa0] O)) a0 xsa0){r:(List Wl)}(h:CD a0=TI r):
  Ok prog 273 [va0,.func (.func 274) #[] #[]] w (λv w'=>∃(u0:Value) (y0:LR),v=u0/\AB w0 (Ha [.row u0 9 1 (r).length y0] O) w'/\Le (fz w (Ha [.row va0 9 1 (a0).length xsa0] O)) (fz w' (Ha [.row u0 9 1 (r).length y0] O))/\Ao .st (gz H w0 w' (Ha [.row u0 9 1 (r).length y0] O)) r y0):=by
 refine Cx (n:=66) [(0,va0),(1,.func (.func 274) #[] #[])] func273 Z Z Z Z ?_;have hT:=Le.refl (fz w (Ha [.row va0 9 1 (a0).length xsa0] O));refine AR ?_;refine AJ (O1 0 Z hL Z)<|BJ 1 Z<|Ar h ?_ ?_<;>intro cc h
 ·refine Af ?_
  cases h
  refine AD Z ⟨va0,xsa0,Z,hL,hT,ba⟩
 refine Af ?_;refine AA ((List Wl)×Value×LR) (λ⟨am,ab,s⟩=>[(0,ab)]) (λ⟨am,ab,s⟩ wr=>Cd w0 (Ha [.row ab 9 1 (am).length s] O) wr λOz=>Ao .st (gz H w0 wr Oz) am s/\Le (fz w (Ha [.row va0 9 1 (a0).length xsa0] O)) (fz wr Oz)/\Dv am=TI r) ?_ ?_
 ·refine Bx 1 Z<|A4 ?_;obtain⟨av,h⟩:=Ax h;refine AF ((List Wl)×Int×Value×LR×Nat) (λ⟨k,c,f,g,n⟩=>[(0,f),(1,.func (.func 274) #[] #[]),(5,No c)]) (λ⟨k,c,f,g,n⟩ wr=>Cd w0 (Ha [.row f 9 1 (k).length g] O) wr λOz=>Ao .st (gz H w0 wr Oz) k g/\Le (fz w (Ha [.row va0 9 1 (a0).length xsa0] O)) (fz wr Oz)/\D6 Bm n (k,c)=TI r) (λ⟨k,c,f,g,n⟩=>n) (a0,1,va0,xsa0,av) Z ⟨hL,ba,hT,h⟩ ?_;rintro⟨k,c,f,g,nn270⟩ cd ⟨ag,a,hT,h⟩;obtain⟨av,aw,rfl,h,ao⟩:=Aw h;refine AR ?_;refine AJ (O1 0 Z ag Z)<|BJ 1 Z<|Ar h ?_ ?_<;>intro bh h
  ·refine Af ?_;refine AA Int (λt=>[(0,f),(1,.func (.func 274) #[] #[]),(5,No t)]) (λt wr=>Cd w0 (Ha [.row f 9 1 (k).length g] O) wr λOz=>Ao .st (gz H w0 wr Oz) k g/\Le (fz w (Ha [.row va0 9 1 (a0).length xsa0] O)) (fz wr Oz)/\(Du k) t=TI aw) ?_ ?_
   ·refine A4<|BF (Zt 0 10 (.tail 10)) mixed SF (λcp ax=>?_);have ah:=ag.call ax;have ac:=A3 ag ax;refine Br 3 Z<|Ag h λay h=>?_;have a:=a.mono (Aa ac);refine Cj Z Z Z Jk (ah.Jv hH (i:=0) Z a) c.toNat (BP ay) (An ay) Z ?_;rintro cq _ rfl bi;refine Bh Z (B5 bi (Le.refl _)) Z<|Br 2 Z<|Ag h λbj h=>Bh Z (Gq bj) Z<|Ag h λaz h=>Cj Z Z Z Jk (ah.Jv hH (i:=0) Z a) ((c - 1).toNat) (BP az) (An az) Z ?_;rintro cr _ rfl bk;refine Bh Z (B5 bk (Le.refl _)) Z<|AT (λcs a1=>?_);have a2:=ah.call a1;have u:=A3 ah a1;refine Ah h λct bl h=>Qd a2 (NH _ _ (Ae a2) bl) ?_;rintro _ cu rfl ce ap x;refine Ap<|AH h ?_ ?_<;>intro bm h
    ·refine FA 2 Z<|Ag h λbn h=>Ah6 0 Z Jk ap Z bn λca ai=>BJ 1 Z<|AA ((List Wl)×Int×LR) (λ⟨y,p,ad⟩=>[(0,f),(5,No p)]) (λ⟨y,p,ad⟩ wr=>Cd w0 (Ha [.row f 9 1 (y).length ad] O) wr λOz=>Ao .st (gz H w0 wr Oz) y ad/\Le (fz w (Ha [.row va0 9 1 (a0).length xsa0] O)) (fz wr Oz)/\Ds y p=TI aw) ?_ ?_
     ·refine Bx 1 Z<|A4 ?_;obtain⟨aq,h⟩:=Ax h;have hT:=hT.trans (ac.trans (u.trans x));have a:=a.mono (Aa (u.trans x));refine AF ((List Wl)×Int×Int×LR×Nat) (λ⟨m,e,d,o,n⟩=>[(0,f),(1,.func (.func 274) #[] #[]),(5,No e),(6,ca),(7,No d)]) (λ⟨m,e,d,o,n⟩ wr=>Cd w0 (Ha [.row f 9 1 (m).length o] O) wr λOz=>Ao .st (gz H w0 wr Oz) m o/\Le (fz w (Ha [.row va0 9 1 (a0).length xsa0] O)) (fz wr Oz)/\D6 (BL c) n (m,e,d)=TI aw) (λ⟨m,e,d,o,n⟩=>n) (k,c,1,g,aq) Z ⟨ap,a,hT,h⟩ ?_;rintro⟨m,e,d,o,nn461⟩ cf ⟨aj,b,hT,h⟩;obtain⟨aq,cv,rfl,h,ar⟩:=Aw h;refine AR ?_;refine sE (Vt.vec ai (aj.Jv hH (i:=0) Z b) Z)<|BJ 1 Z<|Ar h ?_ ?_<;>intro bo h
      ·refine AR ?_;refine BF (Zt 0 10 (.tail 10)) mixed SF (λcw a3=>?_);have ak:=aj.call a3;have an:=A3 aj a3;refine Br 3 Z<|Ag h λa4 h=>?_;have b:=b.mono (Aa an);refine Cj Z Z Z Jk (Vt.vec ai (ak.Jv hH (i:=0) Z b) Z) d.toNat (BP a4) (An a4) Z ?_;rintro cx _ rfl bp;refine Bh Z (B5 bp (Le.refl _)) Z<|Br 2 Z<|Ag h λbq h=>Bh Z (Gq bq) Z<|Ag h λa5 h=>Cj Z Z Z Jk (Vt.vec ai (ak.Jv hH (i:=0) Z b) Z) ((d - 1).toNat) (BP a5) (An a5) Z ?_;rintro cy _ rfl br;refine Bh Z (B5 br (Le.refl _)) Z<|AT (λcz a6=>?_);have a7:=ak.call a6;have ae:=A3 ak a6;refine Ah h λc0 bs h=>Qd a7 (NH _ _ (Ae a7) bs) ?_;rintro _ c1 rfl cg al af;refine BJ 1 Z<|AH h ?_ ?_<;>intro bt h
       ·refine FA 4 Z<|Ag h λa8 h=>?_;have b:=b.mono (Aa (ae.trans af));refine A1 (Vt.vec ai (al.Jv hH (i:=0) Z b) Z) d.toNat (BP a8) (An a8) ?_;rintro c2 _ rfl bu;refine sH bu (Le.refl _)<|Ag h λau h=>CZ 0 Z Jk E7.e al Z e.toNat (BP au) (An au) λc3 bv=>JR 0 e.toNat ((m.drop c.toNat).getD d.toNat Qq7) Z Z hH al Z b bv (An au) Z λc4 bw bx bb bz=>Ag h λch h=>Ag h λci h=>Af ?_;have h:=AX.again h ar;have hT:=hT.trans (an.trans (ae.trans (af.trans bb)));refine Ak (_,_,_,_,_) Z ⟨bx,bz,hT,h⟩
       refine Ag h λcj h=>Af ?_;have h:=AX.again h ar;have hT:=hT.trans (an.trans (ae.trans af));have b:=b.mono (Aa (ae.trans af));refine Ak (_,_,_,_,_) Z ⟨al,b,hT,h⟩
      have h:=AX.out h ar;refine Af ?_;refine Am (_,_,_) ⟨aj,b,hT,h⟩
     have hT:=hT.trans (ac.trans (u.trans x));rintro⟨y,p,ad⟩ ck ⟨a9,bc,hT,h⟩;refine FA 2 Z<|Ag h λb0 h=>Ah6 0 Z Jk a9 Z b0 λc5 b1=>Ah7 (r:=.st) (l:=y) (z:=([]:Wl)) 0 b1 Jk hH a9 Z bc (λ_=>Z) λc6 cl b2 bd b3=>Af ?_;refine Ag h λb4 h=>Amb (r:=.st) (l:=(y.take p.toNat++Xk (y.length - p.toNat) ([]:Wl))) 0 Z Jk hH b2 Z b3 b4 ?_;intro cb b5 b6 be b7;have h:=AX.out h ao;refine Af ?_
     cases h
     refine AD Z ?_;have hT:=hT.trans (bd.trans be);exact⟨cb,b5,Z,b6,hT,b7⟩
    refine Af ?_;have hT:=hT.trans (ac.trans (u.trans x));have a:=a.mono (Aa (u.trans x));refine Am _ ⟨ap,a,hT,h⟩
   rintro t cm ⟨b8,a,hT,h⟩;refine Ag h λcn h=>Af ?_;have h:=AX.again h ao;refine Ak (_,_,_,_,_) Z ⟨b8,a,hT,h⟩
  have h:=AX.out h ao;refine Af ?_;refine Am (_,_,_) ⟨ag,a,hT,h⟩
 rintro⟨am,ab,s⟩ co ⟨b9,bf,hT,h⟩;refine Af ?_
 cases h
 refine AD Z ⟨ab,s,Z,b9,hT,bf⟩
def Ef(a0:Wl)(a1:Wl):Option Bool:=
 Xd (J1 a0) (λa=>Xd (CD a) (λb=>Xd (J1 a1) (λc=>Xd (Rj b c) (λd=>TI d))))
section
variable(w:World)(H:PH)(hH:Le H (hp w)) include hH
theorem Lv{a0 a1:Wl}{r:Bool}(h:Ef a0 a1=TI r):
  Pd 215 [Pg a0,Pg a1] w (λv w'=>v=.bool r):=by
 refine Ai 13 [(0,(Pg a0)),(1,(Pg a1))] func215 Z λhL=>Af ?_;refine Ah h λu l h=>A9 hL (N0 _ _ (Ae hL) l) ?_;rintro x w2 ⟨_,rfl,d⟩ m g j;obtain⟨ac,g,j,o⟩:=d.take hH hL m;refine Ah h λx3 p h=>D5 (Wid (a0:=u) (O:=[]) hH g o p) ?_;rintro y w4 ⟨_,y4_0,rfl,b,z,a⟩;refine Af ?_;refine Ah h λx5 q h=>A9 b (N0 _ _ (Ae b) q) ?_;rintro aa w6 ⟨_,rfl,e⟩ s c k;have f:=e.BB hH b s;refine Ah h λx7 t h=>?_;have a:=a.mono (Aa k);refine Al c (Qzc _ _ (Le.refl _) (c.Jv hH (i:=0) Z a) (f.mono (Ae c)) t) λw8 ad ae ab=>Bu
end
def Cw(a0:SB)(a1:Pv):Option (Bool×Pv):=
 Xd (By a0 a1.f.1) (λa=>TI (a,a1))
def CM{a w:World}{H:PH}(hH:Le H (hp a))(O:List Bv)(a0:SB)(a1:Pv){va0:Value}{ba1:Nat}{va1_2 va1_3 va1_4:Value}(hL:AB a (Ha [.box ba1 [No a1.f.1,No a1.f.2.1,va1_2,va1_3,va1_4] 54] O) w)(l:As (.int .i64) (gz H a w (Ha [.box ba1 [No a1.f.1,No a1.f.2.1,va1_2,va1_3,va1_4] 54] O)) va0 a0)(i:As .byte (gz H a w (Ha [.box ba1 [No a1.f.1,No a1.f.2.1,va1_2,va1_3,va1_4] 54] O)) va1_2 (a1.f.2.2.1))(j:As .st (gz H a w (Ha [.box ba1 [No a1.f.1,No a1.f.2.1,va1_2,va1_3,va1_4] 54] O)) va1_3 (a1.f.2.2.2.1))(k:As .tree (gz H a w (Ha [.box ba1 [No a1.f.1,No a1.f.2.1,va1_2,va1_3,va1_4] 54] O)) va1_4 (a1.f.2.2.2.2)){r:Bool×Pv}(h:Cw a0 a1=TI r):
  Ok prog 173 [va0,SX ba1] w (λv w'=>∃(c:Value) (d:Value) (e:Value),v=.bool r.1/\AB a (Ha [.box ba1 [No r.2.f.1,No r.2.f.2.1,c,d,e] 54] O) w'/\Le (fz w (Ha [.box ba1 [No a1.f.1,No a1.f.2.1,va1_2,va1_3,va1_4] 54] O)) (fz w' (Ha [.box ba1 [No r.2.f.1,No r.2.f.2.1,c,d,e] 54] O))/\As .byte (gz H a w' (Ha [.box ba1 [No r.2.f.1,No r.2.f.2.1,c,d,e] 54] O)) c (r.2.f.2.2.1)/\As .st (gz H a w' (Ha [.box ba1 [No r.2.f.1,No r.2.f.2.1,c,d,e] 54] O)) d (r.2.f.2.2.2.1)/\As .tree (gz H a w' (Ha [.box ba1 [No r.2.f.1,No r.2.f.2.1,c,d,e] 54] O)) e (r.2.f.2.2.2.2)):=by
 refine Cx (n:=8) [(0,va0),(1,(SX ba1))] func173 Z Z Z Z ?_;have hT:=Le.refl (fz w (Ha [.box ba1 [No a1.f.1,No a1.f.2.1,va1_2,va1_3,va1_4] 54] O));have b:=hL.rG H;refine Af ?_;refine Ah h λq m h=>Al hL (FI _ _ (Ae hL) (l.mono b) m) λs p o g=>Af ?_
 cases h
 refine AD Z ?_;have b:=b.trans (Aa g);have hT:=hT.trans g;exact⟨va1_2,va1_3,va1_4,Z,o,hT,(i.mono b),(j.mono b),(k.mono b)⟩
def K7:Option Int:=
 TI (0)
def Eo(b:List Wl):Int->Option ((Int)⊕(Int)):=λa=>
 if a<(b.length:Int)then Ay (0<=a/\a<(b.length:Int)) (Ay (0<=a/\a<=(b.length:Int)) (Xd (Df (b.take a.toNat) (b.getD a.toNat Qq7)) (λc=>if c then Sh Sum.inr (TI (8))else Ay (AL (a+1)) (TI (Sum.inl (a+1))))))else Sh Sum.inr K7
def Qzb(a:List Wl)(s:Int):Option Int:=Go.L.run (Eo a) s
def BG(_c84 _c85:Int)(_c86:Wl)(b:List Wl)(d:List Pv)(a:Bool):Option Int:=
 if a then TI (6)else(if 600<(d.length:Int)then TI (14)else Xd (J2 b) (λc=>if c then TI (7)else(Qzb b) (0:Int)))
def HD(g h:Int)(i:Wl)(j:List Wl)(e:List Pv)(d:Bool):Option Int:=
 if d then BG g h i j e d else(if 0<(e.length:Int)then Xd (Cw ([3,4]) (Pv.mk g h i j e)) (λc=>if !c.1 then BG c.2.f.1 c.2.f.2.1 c.2.f.2.2.1 c.2.f.2.2.2.1 c.2.f.2.2.2.2 (!c.1)else Xd (Cw ([4]) c.2) (λa=>if a.1 then BG a.2.f.1 a.2.f.2.1 a.2.f.2.2.1 a.2.f.2.2.2.1 a.2.f.2.2.2.2 (!decide ((a.2.f.2.2.2.1.length:Int)=(a.2.f.2.2.2.2.length:Int)))else BG a.2.f.1 a.2.f.2.1 a.2.f.2.2.1 a.2.f.2.2.2.1 a.2.f.2.2.2.2 false))else Xd (Cw ([4]) (Pv.mk g h i j e)) (λb=>if b.1 then BG b.2.f.1 b.2.f.2.1 b.2.f.2.2.1 b.2.f.2.2.2.1 b.2.f.2.2.2.2 (!decide ((b.2.f.2.2.2.1.length:Int)=(b.2.f.2.2.2.2.length:Int)))else BG b.2.f.1 b.2.f.2.1 b.2.f.2.2.1 b.2.f.2.2.2.1 b.2.f.2.2.2.2 false))
def HE(d e:Int)(g:Wl)(c:List Wl)(h:List Pv)(b:Bool):Option Int:=
 if b then BG d e g c h b else(if 0<(c.length:Int)then Xd (Cw ([4]) (Pv.mk d e g c h)) (λa=>HD a.2.f.1 a.2.f.2.1 a.2.f.2.2.1 a.2.f.2.2.2.1 a.2.f.2.2.2.2 (!a.1))else HD d e g c h false)
def HF(d e:Int)(c:Wl)(g:List Wl)(h:List Pv)(b:Bool):Option Int:=
 if b then BG d e c g h b else(if 0<(c.length:Int)then Xd (Cw ([2]) (Pv.mk d e c g h)) (λa=>HE a.2.f.1 a.2.f.2.1 a.2.f.2.2.1 a.2.f.2.2.2.1 a.2.f.2.2.2.2 (!a.1))else HE d e c g h false)
def Ig(a0:Pv):Option Int:=
 Xd (Cw ([1,2,3,4]) a0) (λb=>if !b.1 then TI (5)else(if b.2.f.2.1=0 then HF b.2.f.1 b.2.f.2.1 b.2.f.2.2.1 b.2.f.2.2.2.1 b.2.f.2.2.2.2 false else Xd (Cw ([1]) b.2) (λa=>HF a.2.f.1 a.2.f.2.1 a.2.f.2.2.1 a.2.f.2.2.2.1 a.2.f.2.2.2.2 (!a.1))))
section
variable(w:World)(H:PH)(hH:Le H (hp w)) include hH
theorem Qkf{a0:Pv}{cb cc cd:Value}(es:As .byte H cb (a0.f.2.2.1))(et:As .st H cc (a0.f.2.2.2.1))(eu:As .tree H cd (a0.f.2.2.2.2)){r:Int}(h:Ig a0=TI r):
  Pd 127 [.agg #[No a0.f.1,No a0.f.2.1,cb,cc,cd]] w (λv w'=>v=No r):=by
 refine Ai 88 [(0,.agg #[No a0.f.1,No a0.f.2.1,cb,cc,cd])] func127 Z λhL=>A5<|B6 (t:=54) Z Z hL λw1 b1 e1 fs _=>AR ?_;refine Bi [1,2,3,4] (r:=(.int .i64)) (λ_=>AeL _ _ _ _ _) (hlen:=(Bk 4)) e1 (.c1 Z (.c1 Z (.c1 Z (.c1 Z .nil)))) λv2 w2 gl e2 ft e3=>Ah h λx3 e4 h=>DR Z Z (CM hH [] ([1,2,3,4]) a0 e2 e3 (es.mono  Ad) (et.mono  Ad) (eu.mono  Ad) e4) ?_;rintro _ w4 ⟨ev,ew,ex,rfl,cf,fu,cg,ch,ci⟩;refine BJ 2 Z<|AH h ?_ ?_<;>intro e5 h
 ·have gm:=cf.rG H;exact Bu
 refine AA (Int×Int×Wl×(List Wl)×(List Pv)×Bool×Value×Value×Value) (λ⟨bl,bm,bn,a8,bo,ax,q,p,s⟩=>[(1,(SX b1)),(12,.bool ax)]) (λ⟨bl,bm,bn,a8,bo,ax,q,p,s⟩ wr=>Cd w [.box b1 [No bl,No bm,q,p,s] 54] wr λOz=>As .byte (gz H w wr Oz) q bn/\As .st (gz H w wr Oz) p a8/\As .tree (gz H w wr Oz) s bo/\BG bl bm bn a8 bo ax=TI r) ?_ ?_
 ·refine AA (Int×Int×Wl×(List Wl)×(List Pv)×Bool×Value×Value×Value) (λ⟨ae,af,ag,ah,ai,k,u,x,y⟩=>[(1,(SX b1)),(3,.func (.func 173) #[] #[SX b1]),(12,.bool k)]) (λ⟨ae,af,ag,ah,ai,k,u,x,y⟩ wr=>Cd w [.box b1 [No ae,No af,u,x,y] 54] wr λOz=>As .byte (gz H w wr Oz) u ag/\As .st (gz H w wr Oz) x ah/\As .tree (gz H w wr Oz) y ai/\HF ae af ag ah ai k=TI r) ?_ ?_
  ·have g:=cf.rG H;refine Af ?_;refine Dm 16 h ?_ ?_<;>intro cj h
   ·refine Af ?_;refine Bi [1] (r:=(.int .i64)) (λ_=>Fy _ _) cf (.c1 Z .nil) λfv fw fc dm c2 dn=>Aj cj<|Ah h λa5 dp h=>?_;have g:=g.trans (Aa c2);refine DR Z Z (CM hH [] ([1]) x3.2 dm dn (cg.mono g) (ch.mono g) (ci.mono g) dp) ?_;rintro _ fx ⟨c3,c4,c5,rfl,dq,e6,cs,ct,cu⟩;refine Af ?_;refine Am (a5.2.f.1,a5.2.f.2.1,a5.2.f.2.2.1,a5.2.f.2.2.2.1,a5.2.f.2.2.2.2,!a5.1,c3,c4,c5) ⟨dq,cs,ct,cu,h⟩
   refine Af ?_;refine Am (x3.2.f.1,x3.2.f.2.1,x3.2.f.2.2.1,x3.2.f.2.2.2.1,x3.2.f.2.2.2.2,false,ev,ew,ex) ⟨cf,(cg.mono g),(ch.mono g),(ci.mono g),h⟩
  rintro⟨ae,af,ag,ah,ai,k,u,x,y⟩ fd ⟨a9,bc,bd,be,h⟩;refine AH h ?_ ?_<;>intro dr h
  ·refine Ca<|Am (ae,af,ag,ah,ai,k,u,x,y) ⟨a9,bc,bd,be,h⟩
  refine AA (Int×Int×Wl×(List Wl)×(List Pv)×Bool×Value×Value×Value) (λ⟨aj,ak,al,am,an,m,z,aa,ab⟩=>[(1,(SX b1)),(3,.func (.func 173) #[] #[SX b1]),(12,.bool m)]) (λ⟨aj,ak,al,am,an,m,z,aa,ab⟩ wr=>Cd w [.box b1 [No aj,No ak,z,aa,ab] 54] wr λOz=>As .byte (gz H w wr Oz) z al/\As .st (gz H w wr Oz) aa am/\As .tree (gz H w wr Oz) ab an/\HE aj ak al am an m=TI r) ?_ ?_
  ·have i:=a9.rG H;refine Af ?_;refine Bl 26 h ?_ ?_<;>intro ck h
   ·refine Af ?_;refine Bi [2] (r:=(.int .i64)) (λ_=>Fy _ _) a9 (.c1 Z .nil) λfy fz fe ds c6 dt=>Aj ck<|Ah h λa6 du h=>?_;have i:=i.trans (Aa c6);refine DR Z Z (CM hH [] ([2]) (Pv.mk ae af ag ah ai) ds dt (bc.mono i) (bd.mono i) (be.mono i) du) ?_;rintro _ f0 ⟨c7,c8,c9,rfl,dv,e7,cv,cw,cx⟩;refine Af ?_;refine Am (a6.2.f.1,a6.2.f.2.1,a6.2.f.2.2.1,a6.2.f.2.2.2.1,a6.2.f.2.2.2.2,!a6.1,c7,c8,c9) ⟨dv,cv,cw,cx,h⟩
   refine Af ?_;refine Am (ae,af,ag,ah,ai,false,u,x,y) ⟨a9,(bc.mono i),(bd.mono i),(be.mono i),h⟩
  rintro⟨aj,ak,al,am,an,m,z,aa,ab⟩ ff ⟨ba,bf,bg,bh,h⟩;refine AH h ?_ ?_<;>intro dw h
  ·refine Ca<|Am (aj,ak,al,am,an,m,z,aa,ab) ⟨ba,bf,bg,bh,h⟩
  refine AA (Int×Int×Wl×(List Wl)×(List Pv)×Bool×Value×Value×Value) (λ⟨ao,ap,aq,ar,au,o,ay,az,a2⟩=>[(1,(SX b1)),(3,.func (.func 173) #[] #[SX b1]),(12,.bool o)]) (λ⟨ao,ap,aq,ar,au,o,ay,az,a2⟩ wr=>Cd w [.box b1 [No ao,No ap,ay,az,a2] 54] wr λOz=>As .byte (gz H w wr Oz) ay aq/\As .st (gz H w wr Oz) az ar/\As .tree (gz H w wr Oz) a2 au/\HD ao ap aq ar au o=TI r) ?_ ?_
  ·have j:=ba.rG H;refine Af ?_;refine Bl 36 h ?_ ?_<;>intro cl h
   ·refine Af ?_;refine Bi [4] (r:=(.int .i64)) (λ_=>Fy _ _) ba (.c1 Z .nil) λf1 f2 fg dx da dy=>Aj cl<|Ah h λa7 dz h=>?_;have j:=j.trans (Aa da);refine DR Z Z (CM hH [] ([4]) (Pv.mk aj ak al am an) dx dy (bf.mono j) (bg.mono j) (bh.mono j) dz) ?_;rintro _ f3 ⟨db,dc,dd,rfl,d0,e8,cy,cz,c0⟩;refine Af ?_;refine Am (a7.2.f.1,a7.2.f.2.1,a7.2.f.2.2.1,a7.2.f.2.2.2.1,a7.2.f.2.2.2.2,!a7.1,db,dc,dd) ⟨d0,cy,cz,c0,h⟩
   refine Af ?_;refine Am (aj,ak,al,am,an,false,z,aa,ab) ⟨ba,(bf.mono j),(bg.mono j),(bh.mono j),h⟩
  rintro⟨ao,ap,aq,ar,au,o,ay,az,a2⟩ fh ⟨bb,bi,bj,bk,h⟩;refine AH h ?_ ?_<;>intro d1 h
  ·refine Ca<|Am (ao,ap,aq,ar,au,o,ay,az,a2) ⟨bb,bi,bj,bk,h⟩
  have b:=bb.rG H;refine Af ?_;refine Bl 46 h ?_ ?_<;>intro cm h
  ·refine Af ?_;refine Bi [3,4] (r:=(.int .i64)) (λ_=>AeK _ _ _) (hlen:=(Bk 2)) bb (.c1 Z (.c1 Z .nil)) λf4 f5 fi d2 de d3=>Aj cm<|Ah h λav d4 h=>?_;have b:=b.trans (Aa de);refine DR Z Z (CM hH [] ([3,4]) (Pv.mk ao ap aq ar au) d2 d3 (bi.mono b) (bj.mono b) (bk.mono b) d4) ?_;rintro _ f6 ⟨df,dg,dh,rfl,b2,e9,bp,bq,br⟩;refine Af ?_;refine AH h ?_ ?_<;>intro d5 h
   ·refine Ca<|Am (av.2.f.1,av.2.f.2.1,av.2.f.2.2.1,av.2.f.2.2.2.1,av.2.f.2.2.2.2,!av.1,df,dg,dh) ⟨b2,bp,bq,br,h⟩
   have a3:=b2.rG H;refine Af ?_;refine Bi [4] (r:=(.int .i64)) (λ_=>Fy _ _) b2 (.c1 Z .nil) λf7 f8 fj d6 di d7=>Ah h λd d8 h=>?_;have a3:=a3.trans (Aa di);refine DR Z Z (CM hH [] ([4]) av.2 d6 d7 (bp.mono a3) (bq.mono a3) (br.mono a3) d8) ?_;rintro _ f9 ⟨b5,b6,b7,rfl,cn,fa,bs,bt,bu⟩;refine AK 1 Z<|Cf 55 h ?_ ?_<;>intro d9 h
   ·refine Af ?_;refine Am (d.2.f.1,d.2.f.2.1,d.2.f.2.2.1,d.2.f.2.2.2.1,d.2.f.2.2.2.2,!decide ((d.2.f.2.2.2.1.length:Int)=(d.2.f.2.2.2.2.length:Int)),b5,b6,b7) ⟨cn,bs,bt,bu,h⟩
   refine Af ?_;refine Am (d.2.f.1,d.2.f.2.1,d.2.f.2.2.1,d.2.f.2.2.2.1,d.2.f.2.2.2.2,false,b5,b6,b7) ⟨cn,bs,bt,bu,h⟩
  refine Af ?_;refine BO<|Af ?_;refine Bi [4] (r:=(.int .i64)) (λ_=>Fy _ _) bb (.c1 Z .nil) λga gb fk ea dj eb=>Ah h λe ec h=>?_;have b:=b.trans (Aa dj);refine DR Z Z (CM hH [] ([4]) (Pv.mk ao ap aq ar au) ea eb (bi.mono b) (bj.mono b) (bk.mono b) ec) ?_;rintro _ gc ⟨b8,b9,ca,rfl,co,fb,bv,bw,bx⟩;refine AK 1 Z<|Cf 55 h ?_ ?_<;>intro ed h
  ·refine Af ?_;refine Am (e.2.f.1,e.2.f.2.1,e.2.f.2.2.1,e.2.f.2.2.2.1,e.2.f.2.2.2.2,!decide ((e.2.f.2.2.2.1.length:Int)=(e.2.f.2.2.2.2.length:Int)),b8,b9,ca) ⟨co,bv,bw,bx,h⟩
  refine Af ?_;refine Am (e.2.f.1,e.2.f.2.1,e.2.f.2.2.1,e.2.f.2.2.2.1,e.2.f.2.2.2.2,false,b8,b9,ca) ⟨co,bv,bw,bx,h⟩
 rintro⟨bl,bm,bn,a8,bo,ax,q,p,s⟩ gd ⟨b3,ee,cp,ef,h⟩;refine AH h ?_ ?_<;>intro eg h
 ·have fl:=b3.rG H;exact Bu
 have ac:=b3.rG H;refine Af ?_;refine Ar h ?_ ?_<;>intro eh h
 ·exact Bu
 refine Af ?_;refine Ah h λge ei h=>Al b3 (EnS _ _ (Ae b3) (cp.mono ac) ei) λgf fm ej dk=>BJ 1 Z<|AH h ?_ ?_<;>intro ek h
 ·exact Bu
 refine Af ?_;refine AA Unit (λ(_:Unit)=>[]) (λ(_:Unit) wr=>Cd w [.box b1 [No bl,No bm,q,p,s] 54] wr λOz=>As .byte (gz H w wr Oz) q bn/\As .st (gz H w wr Oz) p a8/\As .tree (gz H w wr Oz) s bo/\K7=TI r) ?_ ?_
 ·have ac:=ac.trans (Aa dk);refine Af ?_;refine A4 ?_;obtain⟨ce,h⟩:=Ax h;refine AF (Int×Nat) (λ⟨a,n⟩=>[(1,(SX b1)),(74,p),(75,No (a8.length:Int)),(76,No a)]) (λ⟨a,n⟩ wr=>Cd w [.box b1 [No bl,No bm,q,p,s] 54] wr λOz=>As .st (gz H w wr Oz) p a8/\As .byte (gz H w wr Oz) q bn/\As .tree (gz H w wr Oz) s bo/\D6 (Eo a8) n a=TI r) (λ⟨a,n⟩=>n) (0,ce) Z ⟨ej,(cp.mono ac),(ee.mono ac),(ef.mono ac),h⟩ ?_;rintro⟨a,nn258⟩ fn ⟨a4,ad,bz,b0,h⟩;obtain⟨ce,gg,rfl,h,b4⟩:=Aw h;have c:=a4.rG H;refine AR ?_;refine Ar h ?_ ?_<;>intro el h
  ·refine AR ?_;refine Ag h λcq h=>A1 (ad.mono c) a.toNat (BP cq) (An cq) ?_;rintro gh _ rfl em;refine sH em (Ae a4)<|Af ?_;refine Ag h λen h=>Yf (ad.mono c) en λgi eo=>AK 1 Z<|Ah h λgj ep h=>Al a4 (AlE _ _ (Ae a4) eo ep) λgk fo eq dl=>Ap<|AH h ?_ ?_<;>intro er h
   ·have h:=AX.out h b4;exact Bu
   refine Ag h λfp h=>Af ?_;have h:=AX.again h b4;have c:=c.trans (Aa dl);refine Ak (_,_) Z ⟨eq,(ad.mono c),(bz.mono c),(b0.mono c),h⟩
  have h:=AX.out h b4;refine Af ?_;refine Am () ⟨a4,(bz.mono c),(ad.mono c),(b0.mono c),h⟩
 rintro _ fq ⟨fr,ey,ez,e0,h⟩;exact Bu
end
def JH(a:Int):Option TE:=
 TI (a,(0,0))
def CN(a0:Pv)(a2:Int)(self:Pv->Int->Int->Option TE):Int×Int->Option (Zv⊕TE):=λ⟨c,a⟩=>
 if a<(a0.f.2.2.2.2.length:Int)then Ay (0<=a/\a<(a0.f.2.2.2.2.length:Int)) (Ay (AL (a2+1)) (Xd (self (a0.f.2.2.2.2.getD a.toNat Qq7) c (a2+1)) (λb=>if b.2.1=0/\b.2.2=0 then Ay (AL (a+1)) (TI (Sum.inl (b.1,(a+1))))else Sh Sum.inr (TI (0,(b.2.1,b.2.2))))))else Sh Sum.inr (JH c)
def Af7(a0:Pv)(a2:Int)(self:Pv->Int->Int->Option TE)(s:Int×Int):Option TE:=Go.L.run (CN a0 a2 self) s
def F7(self:Pv->Int->Int->Option TE)(a0:Pv)(a1 a2:Int):Option TE:=
 if(600<=a1)\/(10<a2)then Xd (Ps (2:Int) a1) (λb=>TI (0,(b.1,b.2)))else Xd (Ig a0) (λc=>if c=0 then Ay (AL (a1+1)) ((Af7 a0 a2 self) ((a1+1),0))else Xd (Ps c a1) (λa=>TI (0,(a.1,a.2))))
def Kg(self:Pv->Int->Int->Option TE):Prop:=∀(w:World) (H:PH) (hH:Le H (hp w)) {a0:Pv}{a1:Int}{a2:Int}{a:Value}{b:Value}{c:Value} (d:As .byte H a (a0.f.2.2.1)) (e:As .st H b (a0.f.2.2.2.1)) (g:As .tree H c (a0.f.2.2.2.2)) {r:TE} (h:self a0 a1 a2=TI r),Ok prog 78 [.agg #[No a0.f.1,No a0.f.2.1,a,b,c],No a1,No a2] w (λv w'=>Ext w w'/\v=.tuple #[No r.1,.agg #[No r.2.1,No r.2.2]])
def F2:Nat->Pv->Int->Int->Option TE
 | 0=>λ_ _ _=>none
 | n+1=>F7 (F2 n)
def SG:Pv->Int->Int->Option TE:=F2 1000
def QxJ(self:Pv->Int->Int->Option TE)(hself:Kg self):Kg (F7 self):=by
 intro w H hH a0 a1 a2 e g d ak al v r h;unfold Kg at hself;refine Ai 52 [(0,.agg #[No a0.f.1,No a0.f.2.1,e,g,d]),(1,No a1),(2,No a2)] func78 Z λhL=>A5<|B6 (t:=54) Z Z hL λw1 b1 ay bj _=>AK 1 Z<|Aq Av.e Z ay λw2 b2 l bk _=>AR ?_;refine Vj 2 2 Z Z Z Z Z Z<|Ap<|Ar h ?_ ?_<;>intro az h
 ·refine FA 1 Z<|Ah h λx5 a3 h=>Al l (OK _ _ (Ae l) a3) λw6 b3 a4 bl=>AK 1 Z<|Ac 0 Z a4 Z λw7 aj bm=>Af ?_
  cases h
  refine AP (.tmp Z) (.cell Z QW Z Av.e (box_pT 0 aj Z)) ⟨aj.ext,Z⟩
 refine AR ?_;refine Ah h λx9 a5 h=>Al l (Qkf (a0:=a0) _ _ (Ae l) (ak.mono  Ad) (al.mono  Ad) (v.mono  Ad) a5) λb4 bn i bb=>Af ?_;refine Bt h ?_ ?_<;>intro am h
 ·refine FA 2 Z<|Ah h λb5 an h=>Al i (OK _ _ (Ae i) an) λb6 bo ao bc=>AK 1 Z<|Ac 0 Z ao Z λb7 x bd=>Af ?_
  cases h
  refine AP (.tmp Z) (.cell Z QW Z Av.e (box_pT 0 x Z)) ⟨x.ext,Z⟩
 refine Ag h λbp h=>Af ?_;refine AA Int (λc=>[(7,(SX b2)),(9,No c)]) (λc wr=>AB w [.box b2 [No 0,No 0] 39,.box b1 [No a0.f.1,No a0.f.2.1,e,g,d] 54] wr/\JH c=TI r) ?_ ?_
 ·refine Af ?_;refine A4 ?_;obtain⟨y,h⟩:=Ax h;refine AF (Int×Int×Nat) (λ⟨b,a,n⟩=>[(2,No a2),(7,(SX b2)),(9,No b),(31,d),(32,No (a0.f.2.2.2.2.length:Int)),(33,No a)]) (λ⟨b,a,n⟩ wr=>AB w [.box b2 [No 0,No 0] 39,.box b1 [No a0.f.1,No a0.f.2.1,e,g,d] 54] wr/\D6 (CN a0 a2 self) n (b,a)=TI r) (λ⟨b,a,n⟩=>n) ((a1+1),0,y) Z ⟨i,h⟩ ?_;rintro⟨b,a,nn92⟩ bq ⟨j,h⟩;obtain⟨y,b8,rfl,h,k⟩:=Aw h;refine AR ?_;refine Ar h ?_ ?_<;>intro ap h
  ·refine AR ?_;refine Ag h λz h=>A1 v a.toNat (BP z) (An z) ?_;rintro b9 _ e96t0 aq;obtain⟨_,_,rfl,rfl,⟨_,_,rfl,rfl,⟨_,_,rfl,⟨e96v2,rfl,e96h2⟩,⟨_,_,rfl,⟨e96v3,rfl,e96h3⟩,⟨e96v4,rfl,e96h4⟩⟩⟩⟩⟩:=Go.E.Rp.F6 e96t0;refine AJ (AU aq (hH.trans j.arg))<|Aq Is.e Z j λca cb ar be _=>Ac 0 Z ar Z (a:=(AV Z (AV Z (AV e96h2.one (AV e96h3.one (AV e96h4.one JO)))))) λcc au bf=>Af ?_;refine Aq Av.e Z au λbr bs m a6 _=>Ag h λbg h=>Af ?_;refine Ah h λav ab h=>Al m (hself _ _ (Ae m) (e96h2.mono  Ad) (e96h3.mono  Ad) (e96h4.mono  Ad) ab) λbt bh ac a7=>AK 4 Z<|Ac 0 Z ac Z λbu o a8=>Af ?_;refine AJ (A8 (λ_=>Bo _))<|AJ (I4 Ge (KO _ _ _ _))<|Ap<|Bt h ?_ ?_<;>intro ad h
   ·refine BF (.q 0 (.q 1 (.tail 2))) mixed SF (λbv ae=>?_);have p:=o.call ae;refine Bh Z (C6 0 Z Av.e p Z) Z<|Br 1 Z<|AT (λbw af=>?_);have ag:=p.call af;refine Ac 2 Z ag Z ?_;intro bx s a9;have h:=AX.out h k;refine Af ?_
    cases h
    refine AP (.tmp Z) (.cell Z QW Z Av.e (box_pT 2 s Z)) ⟨s.ext,Z⟩
   refine Ag h λbi h=>Af ?_;have ah:=o.dT 0 Z;have ai:=ah.dT 0 Z;have h:=AX.again h k;refine Ak (_,_,_) Z ⟨ai,h⟩
  have h:=AX.out h k;refine Af ?_;refine Am _ ⟨j,h⟩
 rintro c bz ⟨aw,h⟩;refine FA 1 Z<|AJ (A8 (λ_=>Bo _))<|AK 1 Z<|Ac 0 Z aw Z λb0 u ba=>Af ?_
 cases h
 refine AP (.tmp Z) (.cell Z QW Z Av.e (box_pT 0 u Z)) ⟨u.ext,Z⟩
theorem NI3(n:Nat):Kg (F2 n):=by
 induction n with
 | zero=>unfold Kg;intros;rename_i h;cases h
 | succ n ih=>exact QxJ (F2 n) ih
section
variable(w:World)(H:PH)(hH:Le H (hp w)) include hH
theorem AbS{a0:Pv}{a1 a2:Int}{a b c:Value}(d:As .byte H a (a0.f.2.2.1))(e:As .st H b (a0.f.2.2.2.1))(g:As .tree H c (a0.f.2.2.2.2)){r:TE}(h:SG a0 a1 a2=TI r):Ok prog 78 [.agg #[No a0.f.1,No a0.f.2.1,a,b,c],No a1,No a2] w (λv w'=>Ext w w'/\v=.tuple #[No r.1,.agg #[No r.2.1,No r.2.2]]):=NI3 1000 w H hH d e g h
def OM(b:Wl)(a:Int):Option Wl:=
 Ay (Go.E.Dx 1 (b.length+([(Go.L.u8 a)]).length)) (TI ((b++[(Go.L.u8 a)])))
def Gi:Wl×Int->Option ((Wl×Int)⊕(Wl)):=λ⟨b,a⟩=>
 if 128<=a then Ay (Go.E.Dx 1 (b.length+([((Go.L.u8 a) ||| (128:UInt8))]).length)) (TI (Sum.inl ((b++[((Go.L.u8 a) ||| (128:UInt8))]),(a / 128))))else Sh Sum.inr (OM b a)
def QjZ(s:Wl×Int):Option Wl:=Go.L.run Gi s
def DN(a0:Int):Option Wl:=
 Ay ((0<=(IntKind.u64.wrap ((IntKind.u64.wrap a0) * 2))/\(IntKind.u64.wrap ((IntKind.u64.wrap a0) * 2))<2 ^ 64)/\(0<=(IntKind.u64.wrap (a0 / 9223372036854775808))/\(IntKind.u64.wrap (a0 / 9223372036854775808))<2 ^ 64)) (QjZ (([]:Wl),(((IntKind.u64.wrap ((IntKind.u64.wrap a0) * 2)).toNat ^^^ (IntKind.u64.wrap (a0 / 9223372036854775808)).toNat:Nat):Int)))
theorem B9{a0:Int}{r:Wl}(h:DN a0=TI r):
  Pd 128 [No a0] w (λv w'=>∃u0,v=u0/\B2 5 .byte H w w' u0 r):=by
 refine Ai 27 [(0,No a0)] func128 Z λhL=>Af ?_;refine AJ (Er Z)<|AJ (AmF (c:=1) (m:=2) Z Z Y5 Z)<|AK 1 Z<|AJ (XZ (c:=63) (m:=9223372036854775808) Z Z Y5)<|AJ (Er Z)<|Ag h λan h=>AJ (AlU Z an) ?_;obtain⟨ao,av,ap⟩:=B3 .byte H 5 hL;refine Af ?_;refine AA (Wl×Int×Value×LR) (λ⟨o,d,p,j⟩=>[(3,.int .u64 d),(4,p)]) (λ⟨o,d,p,j⟩ wr=>Cd w [.row p 5 1 (o).length j] wr λOz=>Ao .byte (gz H w wr Oz) o j/\OM o d=TI r) ?_ ?_
 ·refine A4 ?_;obtain⟨s,h⟩:=Ax h;refine AF (Wl×Int×Value×LR×Nat) (λ⟨f,a,g,e,n⟩=>[(3,.int .u64 a),(4,g)]) (λ⟨f,a,g,e,n⟩ wr=>Cd w [.row g 5 1 (f).length e] wr λOz=>Ao .byte (gz H w wr Oz) f e/\D6 Gi n (f,a)=TI r) (λ⟨f,a,g,e,n⟩=>n) (([]:Wl),(((IntKind.u64.wrap ((IntKind.u64.wrap a0) * 2)).toNat ^^^ (IntKind.u64.wrap (a0 / 9223372036854775808)).toNat:Nat):Int),TO,[],s) Z ⟨ao,ap,h⟩ ?_;rintro⟨f,a,g,e,nn33⟩ aw ⟨t,k,h⟩;obtain⟨s,a2,rfl,h,u⟩:=Aw h;refine AR ?_;refine Ar h ?_ ?_<;>intro aa h
  ·refine AR ?_;refine AJ (Er (G7 _))<|AJ (AgR (b:=128) Z Z Z)<|Bi [((Go.L.u8 a) ||| (128:UInt8))] (r:=.byte) (λ_=>Ht _ _) t (.c1 Z .nil) λa3 a4 ax ab y ac=>Ag h λad h=>?_;have k:=k.mono (Aa y);refine Bf (r:=.byte) 0 f [((Go.L.u8 a) ||| (128:UInt8))] Z LS ab Z k ac ad λaq a5 ae af ar ag=>Af ?_;refine AJ (XZ (c:=7) (m:=128) Z Z Y5)<|Af ?_;have h:=AX.again h u;refine Ak (_,_,_,_,_) Z ⟨af,ag,h⟩
  have h:=AX.out h u;refine Af ?_;refine Am (_,_,_,_) ⟨t,k,h⟩
 rintro⟨o,d,p,j⟩ ay ⟨ah,q,h⟩;refine FA 2 Z<|AJ (Er (G7 _))<|Bi [(Go.L.u8 d)] (r:=.byte) (λ_=>Ht _ _) ah (.c1 Z .nil) λa6 a7 az ai z aj=>Ag h λak h=>?_;have q:=q.mono (Aa z);refine Bf (r:=.byte) 0 o [(Go.L.u8 d)] Z LS ai Z q aj ak λa8 a9 a1 x au al=>Af ?_
 cases h
 refine AD Z ⟨x.ext,_,Z,(x.Ev hH (i:=0) Z al)⟩
def HG(a0:Wl):Option Wl:=
 Xd (DN (a0.length:Int)) (λa=>Ay (Go.E.Dx 1 (a.length+a0.length)) (TI ((a++a0))))
theorem DX{a0:Wl}{a:Value}(e:As .byte H a a0){r:Wl}(h:HG a0=TI r):
  Pd 129 [a] w (λv w'=>∃g,v=g/\B2 5 .byte H w w' g r):=by
 refine Ai 8 [(0,a)] func129 Z λhL=>Af ?_;refine Ah h λs j h=>A9 hL (B9 _ _ (Ae hL) j) ?_;rintro t z ⟨_,rfl,b⟩ k c f;obtain⟨x,c,f,o⟩:=b.take hH hL k;refine AK 1 Z<|Ag h λp h=>Bf (r:=.byte) 0 s a0 Z LS c Z o (e.mono  Ad) p λv3 w3 y d u q=>Af ?_
 cases h
 refine AD Z ⟨d.ext,_,Z,(d.Ev hH (i:=0) Z q)⟩
end
def EN(a0:Pv)(a:Int)(self:Pv->Option Wl)(b:Wl):Option ((Wl×Int)⊕(Wl)):=
 Xd (self (a0.f.2.2.2.2.getD a.toNat Qq7)) (λc=>Ay (Go.E.Dx 1 (b.length+c.length)) (Ay (AL (a+1)) (TI (Sum.inl ((b++c),(a+1))))))
def Jd(a:Wl):Option Wl:=
 TI a
def Cn(a0:Pv)(self:Pv->Option Wl):Wl×Int->Option ((Wl×Int)⊕(Wl)):=λ⟨b,a⟩=>
 if a<(a0.f.2.2.2.2.length:Int)then Ay (0<=a/\a<(a0.f.2.2.2.2.length:Int)) (if a0.f.1=4 then Ay (0<=a/\a<(a0.f.2.2.2.1.length:Int)) (Ay ((a0.f.2.2.2.1.getD a.toNat Qq7).length<=9223372036854775807) (Xd (HG (a0.f.2.2.2.1.getD a.toNat Qq7)) (λc=>Ay (Go.E.Dx 1 (b.length+c.length)) ((EN a0 a self) (b++c)))))else(EN a0 a self) b)else Sh Sum.inr (Jd b)
def Ady(a0:Pv)(self:Pv->Option Wl)(s:Wl×Int):Option Wl:=Go.L.run (Cn a0 self) s
def I8(self:Pv->Option Wl)(a0:Pv):Option Wl:=
 Xd (DN a0.f.1) (λa=>if a0.f.1=1 then Xd (DN a0.f.2.1) (λd=>Ay (Go.E.Dx 1 (a.length+d.length)) (TI ((a++d))))else(if a0.f.1=2 then Xd (HG a0.f.2.2.1) (λb=>Ay (Go.E.Dx 1 (a.length+b.length)) (TI ((a++b))))else Xd (DN (a0.f.2.2.2.2.length:Int)) (λc=>Ay (Go.E.Dx 1 (a.length+c.length)) ((Ady a0 self) ((a++c),0)))))
def Je(self:Pv->Option Wl):Prop:=∀(w:World) (H:PH) (hH:Le H (hp w)) {a0:Pv}{a:Value}{b:Value}{c:Value} (e:As .byte H a (a0.f.2.2.1)) (g:As .st H b (a0.f.2.2.2.1)) (i:As .tree H c (a0.f.2.2.2.2)) {r:Wl} (h:self a0=TI r),Ok prog 79 [.agg #[No a0.f.1,No a0.f.2.1,a,b,c]] w (λv w'=>Ext w w'/\∃d,v=d/\B2 5 .byte H w w' d r)
def FM:Nat->Pv->Option Wl
 | 0=>λ_=>none
 | n+1=>I8 (FM n)
def Rk:Pv->Option Wl:=FM 1000
def Qz7(self:Pv->Option Wl)(hself:Je self):Je (I8 self):=by
 intro w H hH a0 ab ac q b6 b7 b8 r h;unfold Je at hself;refine Ai 57 [(0,.agg #[No a0.f.1,No a0.f.2.1,ab,ac,q])] func79 Z λhL=>A5<|B6 (t:=54) Z Z hL λw1 b1 aw da _=>Af ?_;refine Ah h λx2 cs h=>A9 aw (B9 _ _ (Ae aw) cs) ?_;rintro db w3 ⟨_,rfl,bb⟩ ct g b9;obtain⟨dr,g,b9,k⟩:=bb.take hH aw ct;refine AR ?_;refine Ar h ?_ ?_<;>intro cu h
 ·refine Af ?_;refine Ah h λx6 cv h=>A9 g (B9 _ _ (Ae g) cv) ?_;rintro dd w7 ⟨_,rfl,bc⟩ cw cx ca;have ad:=bc.BB hH g cw;have k:=k.mono (Aa ca);refine Ag h λcy h=>Bf (r:=.byte) 0 x2 x6 Z LS cx Z k ad cy ?_;intro v8 w8 ds b4 cb cz;have ad:=ad.mono (Aa cb);refine Af ?_
  cases h
  refine AD Z ⟨b4.ext,_,Z,(b4.Ev hH (i:=0) Z cz)⟩
 refine Bx 2 Z<|Ar h ?_ ?_<;>intro cc h
 ·refine Af ?_;refine Ah h λc0 cd h=>A9 g (DX _ _ (Ae g) (b6.mono  Ad) cd) ?_;rintro c4 dt ⟨_,rfl,ax⟩ ce cf bd;have y:=ax.BB hH g ce;have k:=k.mono (Aa bd);refine Ag h λcg h=>Bf (r:=.byte) 0 x2 c0 Z LS cf Z k y cg ?_;intro du dv de ay be ch;have y:=y.mono (Aa be);refine Af ?_
  cases h
  refine AD Z ⟨ay.ext,_,Z,(ay.Ev hH (i:=0) Z ch)⟩
 refine Af ?_;refine Ah h λb5 ci h=>A9 g (B9 _ _ (Ae g) ci) ?_;rintro c5 dw ⟨_,rfl,az⟩ cj ck bf;have z:=az.BB hH g cj;have k:=k.mono (Aa bf);refine Ag h λcl h=>Bf (r:=.byte) 0 x2 b5 Z LS ck Z k z cl ?_;intro c1 dx cm cn bg co;have z:=z.mono (Aa bg);refine BJ 1 Z<|AA (Wl×Value×LR) (λ⟨ak,ae,v⟩=>[(3,ae)]) (λ⟨ak,ae,v⟩ wr=>Cd w [.row ae 5 1 (ak).length v,.box b1 [No a0.f.1,No a0.f.2.1,ab,ac,q] 54] wr λOz=>Ao .byte (gz H w wr Oz) ak v/\Jd ak=TI r) ?_ ?_
 ·refine Af ?_;refine A4 ?_;obtain⟨an,h⟩:=Ax h;refine AF (Wl×Int×Value×LR×Nat) (λ⟨d,a,e,c,n⟩=>[(1,(SX b1)),(3,e),(32,q),(33,No (a0.f.2.2.2.2.length:Int)),(34,No a)]) (λ⟨d,a,e,c,n⟩ wr=>Cd w [.row e 5 1 (d).length c,.box b1 [No a0.f.1,No a0.f.2.1,ab,ac,q] 54] wr λOz=>Ao .byte (gz H w wr Oz) d c/\D6 (Cn a0 self) n (d,a)=TI r) (λ⟨d,a,e,c,n⟩=>n) ((x2++b5),0,c1,cm,an) Z ⟨cn,co,h⟩ ?_;rintro⟨d,a,e,c,nn108⟩ c6 ⟨af,b,h⟩;obtain⟨an,cp,rfl,h,ao⟩:=Aw h;refine AR ?_;refine Ar h ?_ ?_<;>intro bh h
  ·refine AR ?_;refine Ag h λap h=>A1 b8 a.toNat (BP ap) (An ap) ?_;rintro df _ e112t0 bi;obtain⟨_,_,rfl,rfl,⟨_,_,rfl,rfl,⟨_,_,rfl,⟨e112v2,rfl,e112h2⟩,⟨_,_,rfl,⟨e112v3,rfl,e112h3⟩,⟨e112v4,rfl,e112h4⟩⟩⟩⟩⟩:=Go.E.Rp.F6 e112t0;refine AJ (AU bi (hH.trans af.arg))<|Aq Is.e Z af ?_;intro dg a1 bj a2 _;have b:=b.mono (Aa a2);refine AK 1 Z<|Ac 0 Z bj Z (a:=(AV Z (AV Z (AV e112h2.one (AV e112h3.one (AV e112h4.one JO)))))) ?_;intro dh ag a3;have b:=b.mono (Aa a3);refine Ap<|AA (Wl×Value×LR) (λ⟨j,x,o⟩=>[(1,(SX b1)),(3,x),(5,(SX a1)),(32,q),(33,No (a0.f.2.2.2.2.length:Int)),(34,No a)]) (λ⟨j,x,o⟩ wr=>Cd w [.box a1 [No ((a0.f.2.2.2.2.getD a.toNat Qq7).f.1),No ((a0.f.2.2.2.2.getD a.toNat Qq7).f.2.1),e112v2,e112v3,e112v4] 54,.row x 5 1 (j).length o,.box b1 [No a0.f.1,No a0.f.2.1,ab,ac,q] 54] wr λOz=>Ao .byte (gz H w wr Oz) j o/\(EN a0 a self) j=TI cp) ?_ ?_
   ·refine Af ?_;refine Ar h ?_ ?_<;>intro bk h
    ·refine Af ?_;refine Ag h λaq h=>A1 b7 a.toNat (BP aq) (An aq) ?_;rintro di _ rfl bl;refine sH bl (hH.trans ag.arg)<|Ag h λbm h=>YT (H:=H) ag bm ?_;intro dj dk c7 ah a4 p;have b:=b.mono (Aa a4);refine Ah h λa5 bn h=>A9 ah (DX _ _ (Ae ah) p bn) ?_;rintro c2 dl ⟨_,rfl,ar⟩ bo bp al;have s:=ar.BB hH ah bo;have b:=b.mono (Aa al);have p:=p.mono (Aa al);refine Ag h λbq h=>Bf (r:=.byte) 1 d a5 Z LS bp Z b s bq ?_;intro cq dm br bs am bt;have p:=p.mono (Aa am);have s:=s.mono (Aa am);refine Af ?_;refine Am (_,_,_) ⟨bs,bt,h⟩
    refine Ca<|Am (_,_,_) ⟨ag,b,h⟩
   rintro⟨j,x,o⟩ c8 ⟨ai,aa,h⟩;refine Af ?_;refine Ah h λa6 bu h=>A9 ai (hself _ _ (Ae ai) (e112h2.mono  Ad) (e112h3.mono  Ad) (e112h4.mono  Ad) bu) ?_;rintro c3 dn ⟨_,rfl,au⟩ bv bw a7;have u:=au.BB hH ai bv;have aa:=aa.mono (Aa a7);refine Ag h λbx h=>Bf (r:=.byte) 1 j a6 Z LS bw Z aa u bx ?_;intro cr dp bz b0 a8 aj;have u:=u.mono (Aa a8);refine Ag h λc9 h=>Af ?_;have b2:=b0.dT 0 Z;have aj:=aj.mono (Aa (fz_dT 0 Z));have h:=AX.again h ao;refine Ak (_,_,_,_,_) Z ⟨b2,aj,h⟩
  have h:=AX.out h ao;refine Af ?_;refine Am (_,_,_) ⟨af,b,h⟩
 rintro⟨ak,ae,v⟩ dq ⟨a9,b3,h⟩;refine Af ?_
 cases h
 refine AD Z ⟨a9.ext,_,Z,(a9.Ev hH (i:=0) Z b3)⟩
theorem QxD(n:Nat):Je (FM n):=by
 induction n with
 | zero=>unfold Je;intros;rename_i h;cases h
 | succ n ih=>exact Qz7 (FM n) ih
section
variable(w:World)(H:PH)(hH:Le H (hp w)) include hH
theorem AnP{a0:Pv}{a b c:Value}(d:As .byte H a (a0.f.2.2.1))(e:As .st H b (a0.f.2.2.2.1))(g:As .tree H c (a0.f.2.2.2.2)){r:Wl}(h:Rk a0=TI r):Ok prog 79 [.agg #[No a0.f.1,No a0.f.2.1,a,b,c]] w (λv w'=>Ext w w'/\∃i,v=i/\B2 5 .byte H w w' i r):=QxD 1000 w H hH d e g h
def Rl(a0:Pv):Option (Wl×Zv):=
 Xd (SG a0 (0:Int) (1:Int)) (λa=>if a.2.1=0/\a.2.2=0 then Xd (Rk a0) (λb=>if 4000<(b.length:Int)then Xd (Ps (14:Int) (-1:Int)) (λc=>TI ([],(c.1,c.2)))else TI (b,(0,0)))else TI ([],(a.2.1,a.2.2)))
theorem Rho{a0:Pv}{b c d:Value}(k:As .byte H b (a0.f.2.2.1))(l:As .st H c (a0.f.2.2.2.1))(m:As .tree H d (a0.f.2.2.2.2)){r:Wl×Zv}(h:Rl a0=TI r):
  Pd 42 [.agg #[No a0.f.1,No a0.f.2.1,b,c,d]] w (λv w'=>∃u0,v=.tuple #[u0,.agg #[No r.2.1,No r.2.2]]/\B2 5 .byte H w w' u0 (r.1)):=by
 refine Ai 24 [(0,.agg #[No a0.f.1,No a0.f.2.1,b,c,d])] func42 Z λhL=>A5<|B6 (t:=54) Z Z hL λw1 b1 ai au _=>AK 1 Z<|Aq Av.e Z ai λw2 b2 z av _=>AR ?_;refine Ah h λx3 aj h=>Al z (AbS (a0:=a0) _ _ (Ae z) (k.mono  Ad) (l.mono  Ad) (m.mono  Ad) aj) λw4 a2 ak aw=>AK 3 Z<|Aq Av.e Z ak λw5 b5 al ax _=>AK 1 Z<|Ac 0 Z al Z λw6 j ay=>Af ?_;refine AJ (A8 (λ_=>Bo _))<|AJ (I4 Ge (KO _ _ _ _))<|Ap<|Bt h ?_ ?_<;>intro am h
 ·refine BF (.q 0 (.q 1 (.tail 2))) mixed SF (λw9 an=>?_);have o:=j.call an;refine Bh Z (C6 0 Z Av.e o Z) Z<|Br 1 Z<|AT (λa3 aa=>?_);have ab:=o.call aa;refine Ac 1 Z ab Z λa4 p ao=>Af ?_
  cases h
  refine AP (.tmp Z) (.cell Z QW Z Av.e (box_pT 1 p Z)) ⟨p.ext,_,Z,B2.nil⟩
 refine Af ?_;refine Ah h λa5 ac h=>A9 j (AnP (a0:=a0) _ _ (Ae j) (k.mono  Ad) (l.mono  Ad) (m.mono  Ad) ac) ?_;rintro ap a6 ⟨_,rfl,s⟩ ad a x;obtain⟨az,a,x,e⟩:=s.take hH j ad;refine AR ?_;refine AJ (O1 0 Z a Z)<|BJ 1 Z<|Ar h ?_ ?_<;>intro ae h
 ·refine A5<|Ah h λa7 af h=>Al a (OK _ _ (Ae a) af) λa8 a1 ag aq=>AK 1 Z<|Ac 2 Z ag Z λa9 u ar=>Af ?_
  cases h
  refine AP (.tmp Z) (.cell Z QW Z Av.e (box_pT 2 u Z)) ⟨u.ext,_,Z,B2.nil⟩
 refine Af ?_;refine AJ (A8 (λ_=>Bo _))<|AK 1 Z<|Ac 2 Z a Z λba g y=>Af ?_
 cases h
 refine AP (.tmp Z) (.cell Z QW Z Av.e (box_pT 2 g Z)) ?_;have e:=e.mono (Aa y);exact⟨g.ext,_,Z,(g.Ev hH (i:=0) Z e)⟩
def CO(a0:Pv):Option Z7:=
 Xd (Rl a0) (λa=>TI ((a.2.1,a.2.2)))
theorem Lx{a0:Pv}{a b c:Value}(g:As .byte H a (a0.f.2.2.1))(i:As .st H b (a0.f.2.2.2.1))(j:As .tree H c (a0.f.2.2.2.2)){r:Z7}(h:CO a0=TI r):
  Pd 16 [.agg #[No a0.f.1,No a0.f.2.1,a,b,c]] w (λv w'=>v=.agg #[No r.1,No r.2]):=by
 refine Ai 11 [(0,.agg #[No a0.f.1,No a0.f.2.1,a,b,c])] func16 Z λhL=>A5<|B6 (t:=54) Z Z hL λw1 b1 k s _=>Aq Av.e Z k λw2 b2 d u _=>Af ?_;refine Ah h λx3 l h=>A9 d (Rho (a0:=a0) _ _ (Ae d) (g.mono  Ad) (i.mono  Ad) (j.mono  Ad) l) ?_;rintro _ w4 ⟨x,rfl,q⟩ ac m y;refine AK 3 Z<|Aq Av.e Z m λw5 b5 o z _=>AK 1 Z<|Ac 0 Z o Z λw6 p aa=>Af ?_;refine Ac 1 Z p Z λw7 e ab=>Af ?_
 cases h
 refine Bz (.cell Z QW Z Av.e (box_pT 1 e Z)) ⟨e.ext,Z⟩
end
def Ex{σ:Type}(a0:Pv)(a1:List Wl)(a:Int)(self:Pv->(List Wl)->σ->Option σ)(b:Wl)(sJ72:σ):Option ((Int×σ)⊕(σ)):=
 Xd (Ed a1) (λc=>Ay (Go.E.Dx 16 (c.length+([b]).length)) (Xd (self (a0.f.2.2.2.2.getD a.toNat Qq7) (c++[b]) sJ72) (λd=>Ay (AL (a+1)) (TI (Sum.inl ((a+1),d))))))
def CU{σ:Type}(a0:Pv)(a1:List Wl)(self:Pv->(List Wl)->σ->Option σ):Int×σ->Option ((Int×σ)⊕(σ)):=λ⟨a,sJ55⟩=>
 if a<(a0.f.2.2.2.2.length:Int)then Ay (0<=a/\a<(a0.f.2.2.2.2.length:Int)) (if a0.f.1=4 then Ay (0<=a/\a<(a0.f.2.2.2.1.length:Int)) ((Ex a0 a1 a self) (a0.f.2.2.2.1.getD a.toNat Qq7) sJ55)else(Ex a0 a1 a self) ([35]:Wl) sJ55)else Sh Sum.inr (TI sJ55)
def An1{σ:Type}(a0:Pv)(a1:List Wl)(self:Pv->(List Wl)->σ->Option σ)(s:Int×σ):Option (σ):=Go.L.run (CU a0 a1 self) s
def HH{σ:Type}(step:σ->Li->Option σ)(self:Pv->(List Wl)->σ->Option σ)(a0:Pv)(a1:List Wl)(s:σ):Option (σ):=
 Xd (WG a1 ([47]:Wl)) (λb=>Xd (step s (b,a0.f.1,a0.f.2.1,a0.f.2.2.1)) (λa=>(An1 a0 a1 self) (0,a)))
def Gj{σ:Type}(step:σ->Li->Option σ):Nat->Pv->(List Wl)->σ->Option σ
 | 0=>λ_ _ _=>none
 | n+1=>HH step (Gj step n)
def MM{σ:Type}(step:σ->Li->Option σ):Pv->(List Wl)->σ->Option σ:=Gj step 1000
def AaS{σ:Type}{d:World}{H:PH}(hH:Le H (hp d)){fc:FuncId}{cap:LR}{J:σ->List Bv->PH->Prop}{step:σ->Li->Option σ}(hcb:Cb prog d H fc cap J step){self:Pv->(List Wl)->σ->Option σ}(hself:∀{w:World}{O R:List Bv}{s:σ}{a0:Pv}{a1:List Wl}{va0_2:Value}{va0_3:Value}{va0_4:Value}{va1:Value} (hL:AB d (Ha O R) w) (aw:As .byte (gz H d w (Ha O R)) va0_2 (a0.f.2.2.1)) (bq:As .st (gz H d w (Ha O R)) va0_3 (a0.f.2.2.2.1)) (br:As .tree (gz H d w (Ha O R)) va0_4 (a0.f.2.2.2.2)) (bu:As .st (gz H d w (Ha O R)) va1 a1) (hJ:J s R (gz H d w (Ha O R))) {r:σ} (h:self a0 a1 s=TI r),Ok prog 47 [.agg #[No a0.f.1,No a0.f.2.1,va0_2,va0_3,va0_4],va1,.func (.func fc) #[] cap.toArray] w (λv w'=>v=.tuple #[]/\∃R':List Bv,AB d (Ha O R') w'/\Le (fz w (Ha O R)) (fz w' (Ha O R'))/\J r R' (gz H d w' (Ha O R')))){w:World}{O R:List Bv}{s:σ}{a0:Pv}{a1:List Wl}{va0_2 va0_3 va0_4 va1:Value}(hL:AB d (Ha O R) w)(aw:As .byte (gz H d w (Ha O R)) va0_2 (a0.f.2.2.1))(bq:As .st (gz H d w (Ha O R)) va0_3 (a0.f.2.2.2.1))(br:As .tree (gz H d w (Ha O R)) va0_4 (a0.f.2.2.2.2))(bu:As .st (gz H d w (Ha O R)) va1 a1)(hJ:J s R (gz H d w (Ha O R))){r:σ}(h:HH step self a0 a1 s=TI r):
  Ok prog 47 [.agg #[No a0.f.1,No a0.f.2.1,va0_2,va0_3,va0_4],va1,.func (.func fc) #[] cap.toArray] w (λv w'=>v=.tuple #[]/\∃R':List Bv,AB d (Ha O R') w'/\Le (fz w (Ha O R)) (fz w' (Ha O R'))/\J r R' (gz H d w' (Ha O R'))):=by
 refine Cx (n:=46) [(0,.agg #[No a0.f.1,No a0.f.2.1,va0_2,va0_3,va0_4]),(1,va1),(2,.func (.func fc) #[] cap.toArray)] func47 Z Z Z Z ?_;have hT:=Le.refl (fz w (Ha O R));have ad:=hL.rG H;refine A5<|B6 (t:=54) Z Z hL ?_;intro w2 y cc bf _;have hJ:=hcb.mono (Aa bf) hJ;refine Ap<|BF (Zt 0 11 (.tail 11)) mixed SF (λw3 cd=>?_);have ao:=cc.call cd;have bg:=A3 cc cd;have hJ:=hcb.mono (Aa bg) hJ;refine Br 2 Z<|Ah h λx5 cw h=>?_;have ad:=ad.trans (Aa (bf.trans bg));refine DY Z Z Z (λw6 cx=>Abj _ _ (Le.refl _) (((bu.mono ad).mono (Ae ao)).mono cx.le) cw)<|Bh Z (A7 Z KR Z DW.e) Z<|Bh Z (AG 0 Z ao Z) Z<|Bh Z (A7 Z KR Z DW.e) Z<|Bh Z (AG 0 Z ao Z) Z<|Bh Z (A7 Z KR Z Nu.e) Z<|Bh Z (AG 0 Z ao Z) Z<|Bh Z (O3 (aw.mono ad) (Ae ao)) Z<|Bh Z (A8 (λ_=>QzJ _ Z _ _ _ Z _)) Z<|AT (λw7 ce=>?_);have cy:=ao.call ce;have bh:=A3 ao ce
 have hJ:=hcb.mono (Aa bh) hJ;refine Ah h λcf cg h=>DR (cap:=cap) Z Z (hcb.ok (O:=(Ha [.box y [No a0.f.1,No a0.f.2.1,va0_2,va0_3,va0_4] 54] O)) (R:=R) (x:=(x5,a0.f.1,a0.f.2.1,a0.f.2.2.1)) cy hJ cg) ?_;rintro _ w9 ⟨rfl,R9,bv,ax,cz⟩;replace bv:AB d (Ha [.box y [No a0.f.1,No a0.f.2.1,va0_2,va0_3,va0_4] 54] (Ha O R9)) w9:=bv;replace ax:Le (fz w7 (Ha [.box y [No a0.f.1,No a0.f.2.1,va0_2,va0_3,va0_4] 54] (Ha O R))) (fz w9 (Ha [.box y [No a0.f.1,No a0.f.2.1,va0_2,va0_3,va0_4] 54] (Ha O R9))):=ax;replace hJ:J cf R9 (gz H d w9 (Ha [.box y [No a0.f.1,No a0.f.2.1,va0_2,va0_3,va0_4] 54] (Ha O R9))):=cz;have ad:=ad.trans (Aa (bh.trans ax));refine Af ?_;refine A4 ?_;obtain⟨bs,h⟩:=Ax h;have hT:=hT.trans (bf.trans (bg.trans (bh.trans ax)))
 refine AF (Int×σ×(List Bv)×Nat) (λ⟨a,sJ55,RJ55,n⟩=>[(1,va1),(2,.func (.func fc) #[] cap.toArray),(3,(SX y)),(22,va0_4),(23,No (a0.f.2.2.2.2.length:Int)),(24,No a)]) (λ⟨a,sJ55,RJ55,n⟩ wr=>Cd d (Ha [.box y [No a0.f.1,No a0.f.2.1,va0_2,va0_3,va0_4] 54] (Ha O RJ55)) wr λOz=>As .st (gz H d wr Oz) va1 a1/\As .tree (gz H d wr Oz) va0_4 (a0.f.2.2.2.2)/\As .byte (gz H d wr Oz) va0_2 (a0.f.2.2.1)/\As .st (gz H d wr Oz) va0_3 (a0.f.2.2.2.1)/\Le (fz w (Ha O R)) (fz wr Oz)/\J sJ55 RJ55 (gz H d wr Oz)/\D6 (CU a0 a1 self) n (a,sJ55)=TI r) (λ⟨a,sJ55,RJ55,n⟩=>n) (0,cf,R9,bs) Z ⟨bv,(bu.mono ad),(br.mono ad),(aw.mono ad),(bq.mono ad),hT,hJ,h⟩ ?_;rintro⟨a,sJ55,RJ55,nn55⟩ c9 ⟨ay,a6,ap,a7,aq,hT,hJ,h⟩;obtain⟨bs,c0,rfl,h,bi⟩:=Aw h;have o:=ay.rG H;refine AR ?_;refine Ar h ?_ ?_<;>intro ci h
 ·refine AR ?_;refine Ag h λbw h=>A1 (ap.mono o) a.toNat (BP bw) (An bw) ?_;rintro di _ e60t0 cj;obtain⟨_,_,rfl,rfl,⟨_,_,rfl,rfl,⟨_,_,rfl,⟨e60v2,rfl,e60h2⟩,⟨_,_,rfl,⟨e60v3,rfl,e60h3⟩,⟨e60v4,rfl,e60h4⟩⟩⟩⟩⟩:=Go.E.Rp.F6 e60t0;refine AJ (AU cj (Ae ay))<|Aq Is.e Z ay ?_;intro dj p ck e _;have hJ:=hcb.mono (Aa e) hJ;refine AK 1 Z<|Ac 0 Z ck Z (a:=(AV Z (AV Z (AV e60h2.one (AV e60h3.one (AV e60h4.one JO)))))) ?_;intro dk az g;have hJ:=hcb.mono (Aa g) hJ;have k:=az.rG H;refine Af ?_
  refine AA (Wl×σ×(List Bv)) (λ⟨u,sJ72,RJ72⟩=>[(1,va1),(2,.func (.func fc) #[] cap.toArray),(3,(SX y)),(7,(SX p)),(8,(Pg u)),(22,va0_4),(23,No (a0.f.2.2.2.2.length:Int)),(24,No a)]) (λ⟨u,sJ72,RJ72⟩ wr=>Cd d (Ha [.box p [No ((a0.f.2.2.2.2.getD a.toNat Qq7).f.1),No ((a0.f.2.2.2.2.getD a.toNat Qq7).f.2.1),e60v2,e60v3,e60v4] 54,.box y [No a0.f.1,No a0.f.2.1,va0_2,va0_3,va0_4] 54] (Ha O RJ72)) wr λOz=>As .st (gz H d wr Oz) va1 a1/\As .tree (gz H d wr Oz) va0_4 (a0.f.2.2.2.2)/\As .byte (gz H d wr Oz) e60v2 ((a0.f.2.2.2.2.getD a.toNat Qq7).f.2.2.1)/\As .st (gz H d wr Oz) e60v3 ((a0.f.2.2.2.2.getD a.toNat Qq7).f.2.2.2.1)/\As .tree (gz H d wr Oz) e60v4 ((a0.f.2.2.2.2.getD a.toNat Qq7).f.2.2.2.2)/\As .byte (gz H d wr Oz) va0_2 (a0.f.2.2.1)/\As .st (gz H d wr Oz) va0_3 (a0.f.2.2.2.1)/\Le (fz w (Ha O R)) (fz wr Oz)/\J sJ72 RJ72 (gz H d wr Oz)/\(Ex a0 a1 a self) u sJ72=TI c0) ?_ ?_
  ·refine Af ?_;refine Ar h ?_ ?_<;>intro cl h
   ·refine Af ?_;refine Ag h λbx h=>?_;have o:=o.trans (Aa (e.trans g));refine A1 ((aq.mono o).mono k) a.toNat (BP bx) (An bx) ?_;rintro dl _ rfl cm;refine sH cm (Ae az)<|Af ?_;have e60h2:=e60h2.mono (Aa (e.trans g));have e60h3:=e60h3.mono (Aa (e.trans g));have e60h4:=e60h4.mono (Aa (e.trans g));have hT:=hT.trans (e.trans g);refine Am (_,_,_) ⟨az,((a6.mono o).mono k),((ap.mono o).mono k),(e60h2.mono k),(e60h3.mono k),(e60h4.mono k),((a7.mono o).mono k),((aq.mono o).mono k),hT,hJ,h⟩
   refine Ca ?_;have e60h2:=e60h2.mono (Aa (e.trans g));have e60h3:=e60h3.mono (Aa (e.trans g));have e60h4:=e60h4.mono (Aa (e.trans g));have o:=o.trans (Aa (e.trans g));have hT:=hT.trans (e.trans g);refine Am (_,_,_) ⟨az,((a6.mono o).mono k),((ap.mono o).mono k),(e60h2.mono k),(e60h3.mono k),(e60h4.mono k),((a7.mono o).mono k),((aq.mono o).mono k),hT,hJ,h⟩
  have hT:=hT.trans (e.trans g);rintro⟨u,sJ72,RJ72⟩ da ⟨bj,ae,a8,a9,ba,bb,bc,bd,hT,hJ,h⟩;have c:=bj.rG H;refine Ik (Ew (VF (Pj (Ew MF)))) (λz0 z=>Le (gz H d z0 (Ha [.box p [No ((a0.f.2.2.2.2.getD a.toNat Qq7).f.1),No ((a0.f.2.2.2.2.getD a.toNat Qq7).f.2.1),e60v2,e60v3,e60v4] 54,.box y [No a0.f.1,No a0.f.2.1,va0_2,va0_3,va0_4] 54] (Ha O RJ72))) (hp z)/\z.heap[p]? = TI (.cells [No ((a0.f.2.2.2.2.getD a.toNat Qq7).f.1),No ((a0.f.2.2.2.2.getD a.toNat Qq7).f.2.1),e60v2,e60v3,e60v4].toArray 54 (0,0))/\z.heap[y]? = TI (.cells [No a0.f.1,No a0.f.2.1,va0_2,va0_3,va0_4].toArray 54 (0,0))) mixed Z (λa2 dm bz=>?_);have aa:=bj.call bz;have af:=A3 bj bz;have hJ:=hcb.mono (Aa af) hJ;have b:=aa.rG H;refine MG ⟨b.trans (Ae aa),aa.aT 0 Z,aa.aT 1 Z⟩ λkI84=>Au 0 a2 kI84 Z (λ_ hI=>MU hI.2.1) Z<|Au 1 a2 kI84 Z (λ_ _=>Az Z) Z<|Au 3 a2 kI84 Z (λ_ _=>Az Z) Z<|Au 6 a2 kI84 Z (λ_ _=>Az Z) Z<|Pe 2 4 Z SF Z ?_ ?_
  ·refine Ah h λb0 bk h=>?_;have c:=c.trans (Aa af);refine A9 aa (EI _ _ (Ae aa) ((ae.mono c).mono b) bk) ?_;rintro c4 dn ⟨_,rfl,b1⟩ cn ar al;obtain⟨dc,ar,al,bl⟩:=b1.take hH aa cn;have hJ:=hcb.mono (Aa al) hJ;have b:=b.trans (Aa al);refine AS ⟨b.trans (Ae ar),ar.aT 1 Z,ar.aT 2 Z⟩ λkI87=>Jr 4 Z<|Bi [u] (r:=.st) (λ_=>Kr _ Z _) ar (.c1 Z .nil) ?_;intro dp dq dd a3 am co;have hJ:=hcb.mono (Aa am) hJ;have b:=b.trans (Aa am);refine AS ⟨b.trans (Ae a3),a3.aT 1 Z,a3.aT 2 Z⟩ λkI89=>Jr 5 Z<|Ag h λbm h=>?_;have bl:=bl.mono (Aa am);refine Bf (r:=.st) 0 b0 [u] Z Jk a3 Z bl co bm ?_;intro dr c2 de au a4 cp;have hJ:=hcb.mono (Aa a4) hJ;have b:=b.trans (Aa a4);refine AS ⟨b.trans (Ae au),au.aT 1 Z,au.aT 2 Z⟩ λkI92=>Jr 7 Z ?_;have cq:=au.BB hH (i:=0) Z cp;have cr:=au.dT 0 Z
   have hJ:=hcb.mono (Aa (fz_dT 0 Z)) hJ;refine Ah h λbe bn h=>?_;have b:=b.trans (Aa (fz_dT 0 Z));refine D5 (hself (O:=(Ha [.box p [No ((a0.f.2.2.2.2.getD a.toNat Qq7).f.1),No ((a0.f.2.2.2.2.getD a.toNat Qq7).f.2.1),e60v2,e60v3,e60v4] 54,.box y [No a0.f.1,No a0.f.2.1,va0_2,va0_3,va0_4] 54] O)) (R:=RJ72) cr ((a9.mono c).mono b) ((ba.mono c).mono b) ((bb.mono c).mono b) cq hJ bn) ?_;rintro _ b3 ⟨rfl,R94,aj,an,cs⟩;replace aj:AB d (Ha [.box p [No ((a0.f.2.2.2.2.getD a.toNat Qq7).f.1),No ((a0.f.2.2.2.2.getD a.toNat Qq7).f.2.1),e60v2,e60v3,e60v4] 54,.box y [No a0.f.1,No a0.f.2.1,va0_2,va0_3,va0_4] 54] (Ha O R94)) b3:=aj;replace an:Le (fz c2 (Ha [.box p [No ((a0.f.2.2.2.2.getD a.toNat Qq7).f.1),No ((a0.f.2.2.2.2.getD a.toNat Qq7).f.2.1),e60v2,e60v3,e60v4] 54,.box y [No a0.f.1,No a0.f.2.1,va0_2,va0_3,va0_4] 54] (Ha O RJ72))) (fz b3 (Ha [.box p [No ((a0.f.2.2.2.2.getD a.toNat Qq7).f.1),No ((a0.f.2.2.2.2.getD a.toNat Qq7).f.2.1),e60v2,e60v3,e60v4] 54,.box y [No a0.f.1,No a0.f.2.1,va0_2,va0_3,va0_4] 54] (Ha O R94))):=an
   replace hJ:J be R94 (gz H d b3 (Ha [.box p [No ((a0.f.2.2.2.2.getD a.toNat Qq7).f.1),No ((a0.f.2.2.2.2.getD a.toNat Qq7).f.2.1),e60v2,e60v3,e60v4] 54,.box y [No a0.f.1,No a0.f.2.1,va0_2,va0_3,va0_4] 54] (Ha O R94))):=cs;have b:=b.trans (Aa an);refine AS ⟨b.trans (Ae aj),aj.aT 0 Z,aj.aT 1 Z⟩ λkI96=>FF<|Ag h λct h=>Af ?_;have cu:=aj.dT 0 Z;have hJ:=hcb.mono (Aa (fz_dT 0 Z)) hJ;have h:=AX.again h bi;have hT:=hT.trans (af.trans (al.trans (am.trans (a4.trans ((fz_dT 0 Z).trans (an.trans (fz_dT 0 Z)))))));have b:=b.trans (Aa (fz_dT 0 Z));refine Ak (_,_,_,_) Z ⟨cu,((ae.mono c).mono b),((a8.mono c).mono b),((bc.mono c).mono b),((bd.mono c).mono b),hT,hJ,h⟩
  refine Ah h λb0 bk h=>Ag h λbm h=>Ah h λbe bn h=>Ag h λct h=>Bi [u] (r:=.st) (λ_=>Kr _ Z _) aa (.c1 Z .nil) ?_;intro ds dt df ak a5 bo;have hJ:=hcb.mono (Aa a5) hJ;have b:=b.trans (Aa a5);refine AS ⟨b.trans (Ae ak),ak.aT 0 Z,ak.aT 1 Z⟩ λkI100=>Jr 2 Z ?_;have c:=c.trans (Aa af);refine A9 ak (EI _ _ (Ae ak) ((ae.mono c).mono b) bk) ?_;rintro c3 dg ⟨_,rfl,bt⟩ b4 ag ab;obtain⟨c5,ag,ab,b5⟩:=bt.take hH ak b4;have hJ:=hcb.mono (Aa ab) hJ;have b:=b.trans (Aa ab);refine AS ⟨b.trans (Ae ag),ag.aT 1 Z,ag.aT 2 Z⟩ λkI102=>Jr 5 Z ?_;have bo:=bo.mono (Aa ab);refine Bf (r:=.st) 0 b0 [u] Z Jk ag Z b5 bo bm ?_;intro dh cv c6 ah av b6;have hJ:=hcb.mono (Aa av) hJ;have b:=b.trans (Aa av);refine AS ⟨b.trans (Ae ah),ah.aT 1 Z,ah.aT 2 Z⟩ λkI104=>Jr 7 Z ?_
  have b7:=ah.BB hH (i:=0) Z b6;have b8:=ah.dT 0 Z;have hJ:=hcb.mono (Aa (fz_dT 0 Z)) hJ;have b:=b.trans (Aa (fz_dT 0 Z));refine D5 (hself (O:=(Ha [.box p [No ((a0.f.2.2.2.2.getD a.toNat Qq7).f.1),No ((a0.f.2.2.2.2.getD a.toNat Qq7).f.2.1),e60v2,e60v3,e60v4] 54,.box y [No a0.f.1,No a0.f.2.1,va0_2,va0_3,va0_4] 54] O)) (R:=RJ72) b8 ((a9.mono c).mono b) ((ba.mono c).mono b) ((bb.mono c).mono b) b7 hJ bn) ?_;rintro _ bp ⟨rfl,R106,ac,ai,b9⟩;replace ac:AB d (Ha [.box p [No ((a0.f.2.2.2.2.getD a.toNat Qq7).f.1),No ((a0.f.2.2.2.2.getD a.toNat Qq7).f.2.1),e60v2,e60v3,e60v4] 54,.box y [No a0.f.1,No a0.f.2.1,va0_2,va0_3,va0_4] 54] (Ha O R106)) bp:=ac;replace ai:Le (fz cv (Ha [.box p [No ((a0.f.2.2.2.2.getD a.toNat Qq7).f.1),No ((a0.f.2.2.2.2.getD a.toNat Qq7).f.2.1),e60v2,e60v3,e60v4] 54,.box y [No a0.f.1,No a0.f.2.1,va0_2,va0_3,va0_4] 54] (Ha O RJ72))) (fz bp (Ha [.box p [No ((a0.f.2.2.2.2.getD a.toNat Qq7).f.1),No ((a0.f.2.2.2.2.getD a.toNat Qq7).f.2.1),e60v2,e60v3,e60v4] 54,.box y [No a0.f.1,No a0.f.2.1,va0_2,va0_3,va0_4] 54] (Ha O R106))):=ai
  replace hJ:J be R106 (gz H d bp (Ha [.box p [No ((a0.f.2.2.2.2.getD a.toNat Qq7).f.1),No ((a0.f.2.2.2.2.getD a.toNat Qq7).f.2.1),e60v2,e60v3,e60v4] 54,.box y [No a0.f.1,No a0.f.2.1,va0_2,va0_3,va0_4] 54] (Ha O R106))):=b9;have b:=b.trans (Aa ai);refine AS ⟨b.trans (Ae ac),ac.aT 0 Z,ac.aT 1 Z⟩ λkI107=>FF<|Af ?_;have ca:=ac.dT 0 Z;have hJ:=hcb.mono (Aa (fz_dT 0 Z)) hJ;have h:=AX.again h bi;have hT:=hT.trans (af.trans (a5.trans (ab.trans (av.trans ((fz_dT 0 Z).trans (ai.trans (fz_dT 0 Z)))))));have b:=b.trans (Aa (fz_dT 0 Z));refine Ak (_,_,_,_) Z ⟨ca,((ae.mono c).mono b),((a8.mono c).mono b),((bc.mono c).mono b),((bd.mono c).mono b),hT,hJ,h⟩
 have h:=AX.out h bi;refine Af ?_
 cases h
 refine KX ?_;have cb:=ay.dT 0 Z;have hJ:=hcb.mono (Aa (fz_dT 0 Z)) hJ;have hT:=hT.trans (fz_dT 0 Z);exact⟨Z,RJ55,cb,hT,hJ⟩
theorem Qx4{σ:Type}{a:World}{H:PH}(hH:Le H (hp a)){fc:FuncId}{cap:LR}{J:σ->List Bv->PH->Prop}{step:σ->Li->Option σ}(hcb:Cb prog a H fc cap J step)(n:Nat):∀{w:World}{O R:List Bv}{s:σ}{a0:Pv}{a1:List Wl}{va0_2:Value}{va0_3:Value}{va0_4:Value}{va1:Value} (hL:AB a (Ha O R) w) (b:As .byte (gz H a w (Ha O R)) va0_2 (a0.f.2.2.1)) (c:As .st (gz H a w (Ha O R)) va0_3 (a0.f.2.2.2.1)) (d:As .tree (gz H a w (Ha O R)) va0_4 (a0.f.2.2.2.2)) (e:As .st (gz H a w (Ha O R)) va1 a1) (hJ:J s R (gz H a w (Ha O R))) {r:σ} (h:Gj step n a0 a1 s=TI r),Ok prog 47 [.agg #[No a0.f.1,No a0.f.2.1,va0_2,va0_3,va0_4],va1,.func (.func fc) #[] cap.toArray] w (λv w'=>v=.tuple #[]/\∃R':List Bv,AB a (Ha O R') w'/\Le (fz w (Ha O R)) (fz w' (Ha O R'))/\J r R' (gz H a w' (Ha O R'))):=by
 induction n with
 | zero=>intros;rename_i h;cases h
 | succ n ih=>exact λ{_}{_}{_}{_}{_}{_}{_}{_}{_}{_} hL b c d e hJ {_} h=>AaS hH hcb (self:=Gj step n) ih hL b c d e hJ h
def QkK{σ:Type}{a:World}{H:PH}(hH:Le H (hp a)){fc:FuncId}{cap:LR}{J:σ->List Bv->PH->Prop}{step:σ->Li->Option σ}(hcb:Cb prog a H fc cap J step){w:World}{O R:List Bv}{s:σ}{a0:Pv}{a1:List Wl}{va0_2 va0_3 va0_4 va1:Value}(hL:AB a (Ha O R) w)(b:As .byte (gz H a w (Ha O R)) va0_2 (a0.f.2.2.1))(c:As .st (gz H a w (Ha O R)) va0_3 (a0.f.2.2.2.1))(d:As .tree (gz H a w (Ha O R)) va0_4 (a0.f.2.2.2.2))(e:As .st (gz H a w (Ha O R)) va1 a1)(hJ:J s R (gz H a w (Ha O R))){r:σ}(h:MM step a0 a1 s=TI r):Ok prog 47 [.agg #[No a0.f.1,No a0.f.2.1,va0_2,va0_3,va0_4],va1,.func (.func fc) #[] cap.toArray] w (λv w'=>v=.tuple #[]/\∃R':List Bv,AB a (Ha O R') w'/\Le (fz w (Ha O R)) (fz w' (Ha O R'))/\J r R' (gz H a w' (Ha O R'))):=Qx4 hH hcb 1000 hL b c d e hJ h
end Go.Proofs.YtgaljodghpgdmaaGreatDoor
end
noncomputable section
namespace Go.L
def Ua:Qm->Qm->Sa
 | cur,[]=>[cur]
 | cur,c::s=>if c=47 then cur::Ua [] s else Ua (cur++[c]) s
theorem Abm:∀(s cur:Qm),Ua cur s=(cur++(Ua [] s).headD [])::(Ua [] s).tail
 | [],cur=>by simp[Ua]
 | c::s,cur=>by
  unfold Ua
  by_cases h:c=47
  ·rw[Xu h,Xu h];simp
  ·rw[Pb h,Pb h,Abm s (cur++[c]),Abm s ([]++[c])];simp
theorem Abn:∀(s cur:Qm),(Ua cur s).length<=s.length+1
 | [],_=>by simp[Ua]
 | c::s,cur=>by
  unfold Ua
  split
  ·have:=Abn s [];simp only[PF];omega
  ·have:=Abn s (cur++[c]);simp only[PF];omega
def WH:Sa->Nat
 | []=>0
 | x::l=>x.length+1+WH l
theorem Abo:∀(s cur:Qm),WH (Ua cur s)=cur.length+s.length+1
 | [],cur=>by simp[Ua,WH]
 | c::s,cur=>by
  unfold Ua
  split
  ·unfold WH;rw[Abo s []];simp only[PF,RZ];omega
  ·rw[Abo s];simp only[T6,PF,RZ];omega
theorem AbX:∀s:Qm,Lib.splitK [47] 0 (s.count 47) s=Ua [] s
 | []=>rfl
 | c::s=>by
  have ih:=AbX s
  have hi:Lib.index (c::s) [47]=if c==47 then 0 else if Lib.index s [47] == -1 then -1 else Lib.index s [47]+1:=by
   rw[Lib.index_one,Lib.index_one];rfl
  by_cases h:c=47
  ·subst h;rw[List.count_cons_self];unfold Lib.splitK Ua;rw[hi];simp[ih]
  ·have hb:(c==47)=false:=by simpa using h
   rw[List.count_cons_of_ne (λe=>h e)]
   have hp:Ua [] (c::s)=([c]++(Ua [] s).headD [])::(Ua [] s).tail:=by
    conv=>lhs;unfold Ua
    rw[Pb h,Abm s ([]++[c])];rfl
   rw[hp,<- ih]
   cases hk:s.count 47 with
   | zero=>rfl
   | succ k=>
    unfold Lib.splitK;rw[hi,hb]
    by_cases a:(Lib.index s [47] == -1)=true
    ·simp[a]
    ·have hge : -1<=Lib.index s [47]:=Lib.index_ge s [47];have h2:0<=Lib.index s [47]:=by have:Lib.index s [47]≠-1:=λe=>a (by simp[e]);omega
     obtain⟨i,b⟩:=Ph h2;have h3:((i:Int)+1 == -1)=false:=by simp;omega
     have d:((i:Int) == -1)=false:=by simp
     rw[b]at a ⊢;simp[h3,d,show((i:Int)+1).toNat=i+1 by omega]
def sl(s:Qm):Sa:=if s=[]then[]else Ua [] s
def E8(s:Qm):(sl s).length<=s.length+1:=by unfold sl;split;simp;exact Abn s []
def Ail(s:Qm):WH (sl s)<=s.length+1:=by unfold sl;split;simp[WH];rw[Abo];simp
theorem Abq:∀{l:Sa}{x:Qm},x∈l->x.length<WH l
 | y::l,x,h=>by
  unfold WH
  rcases R7.1 h with rfl | h
  ·omega
  ·have:=Abq h;omega
def nch(c:UInt8):Bool:=decide ((97<=c.toNat/\c.toNat<=122)\/(48<=c.toNat/\c.toNat<=57)\/c.toNat=45\/c.toNat=95\/c.toNat=46)
def Vm(s:Qm):Bool:=decide (1<=s.length/\s.length<=32/\97<=(s.getD 0 Qq7).toNat/\(s.getD 0 Qq7).toNat<=122)&&s.all nch
def wr(w:Bool):Int->Sa->Int
 | _,[]=>-1
 | a,x::l=>if(Vm x||decide (x=[35])||(w&&(decide (x=[42])||decide (x=[42,42]))))=true then wr w (a+x.length+1) l else a
def drop_cons{α:Type}[Inhabited α]{l:List α}{i:Nat}(h:i<l.length):l.drop i=l.getD i Qq7::l.drop (i+1):=by
 rw[List.drop_eq_getElem_cons h];simp[Sb,Pa h]
def BU{α:Type}[Inhabited α]{l:List α}{i:Nat}(h:i<l.length):l.getD i Qq7∈l:=by
 rw[Sb,Pa h];exact Rs h
end Go.L
namespace Go.Proofs.YtgaljodghpgdmaaGreatDoor
open Go Go.L
def YU{s:Qm}(h:s.length<4294967281):J1 s=TI (sl s):=by
 unfold J1 sl
 by_cases hs:s=[]
 ·rw[Xu hs,Xu hs]
 ·rw[Pb hs,Pb hs];unfold strings_Split Wc;rw[Ab ⟨h,Z,Z,Z⟩]
  show TI (pieces s)=TI (Ua [] s)
  unfold pieces Lib.split;rw[Lib.count_one,AbX]
theorem AnH{s:Qm}(hs:s.length<=1000000000000):∀(d i f:Nat) (L:Sa),i+d=s.length->f<=i->L.length<=i->
  Go.L.run (Dp s) (L,(f:Int),(i:Int))=TI (L++Ua ((s.drop f).take (i - f)) (s.drop i)):=by
 intro d
 induction d with
 | zero=>
  intro i f L hi hf hL
  have a:Dp s (L,(f:Int),(i:Int))=TI (.inl (L++[(s.drop f).take (i - f)],((i+1:Nat):Int),((i+1:Nat):Int))):=by
   unfold Dp;simp only[SV];rw[Xu U,Xu U,Ab U,Ab (by unfold Go.E.Dx;simp;omega),Ab U,Ab U]
   rfl
  rw[AE a,A2 (m:=TI (L++[(s.drop f).take (i - f)]))]
  ·rw[UU (by omega:s.length<=i)];rfl
  ·unfold Dp;dsimp only;rw[Pb U]
   rfl
 | succ d ih=>
  intro i f L hi hf hL;have hil:i<s.length:=by omega
  have hd:=drop_cons hil
  by_cases hc:s.getD i Qq7=47
  ·have a:Dp s (L,(f:Int),(i:Int))=TI (.inl (L++[(s.drop f).take (i - f)],((i+1:Nat):Int),((i+1:Nat):Int))):=by
    unfold Dp;simp only[SV];rw[Xu U,Pb U,Ab U,Xu (by rw[hc];rfl),Ab U,Ab (by unfold Go.E.Dx;simp;omega),Ab U,Ab U]
    rfl
   rw[AE a,ih (i+1) (i+1) _ U (KN _) U,hd]
   conv=>rhs;unfold Ua
   rw[Xu hc,Nat.sub_self,List.take_zero,List.append_assoc]
   rfl
  ·have a:Dp s (L,(f:Int),(i:Int))=TI (.inl (L,(f:Int),((i+1:Nat):Int))):=by
    unfold Dp;simp only[SV];rw[Xu U,Pb U,Ab U,Pb (λe=>hc (UInt8.toNat.inj (show(s.getD i Qq7).toNat=47 by omega))),Ab U]
    rfl
   rw[AE a,ih (i+1) f _ U U U,hd]
   conv=>rhs;unfold Ua
   rw[Pb hc]
   congr 2
   rw[show i+1 - f=(i - f)+1 by omega,Vf,Vk,show f+(i - f)=i by omega,Pa hil];simp[Sb,Pa hil]
def Wf{s:Qm}(hs:s.length<=1000000000000):Mt s=TI (sl s):=by
 unfold Mt sl
 split
 ·rfl
 ·have:=AnH hs s.length 0 0 [] U (KN _) (KN _);exact this
theorem AdQ{s:Qm}(hs:s.length<=1000000000000):∀(d i:Nat),i+d=s.length->1<=i->Go.L.run (CQ s) (i:Int)=TI ((s.drop i).all nch&&decide (1<=s.length/\s.length<=32)):=by
 intro d
 induction d with
 | zero=>
  intro i hi h;refine A2 ?_;unfold CQ OD Eb;rw[Pb U,UU (by omega:s.length<=i)];simp only[Wo,TB,List.all_nil,Bool.true_and]
  congr 2
  rw[decide_eq_decide];omega
 | succ d ih=>
  intro i hi h;have hil:i<s.length:=by omega
  rw[drop_cons hil,List.all_cons]
  have hstep:CQ s (i:Int)=if nch (s.getD i Qq7)then TI (.inl ((i+1:Nat):Int))else TI (.inr false):=by
   unfold CQ Eb nch;rw[Xu U,Ab U,SV];have hk:AL ((i:Int)+1):=by unfold AL;omega
   have hz : ¬((i:Int)=0):=by omega
   simp only[Wo,Ab hk,Pb hz];generalize (s.getD i Qq7).toNat=c;have j:(decide ((97:Int)<=(c:Int)/\(c:Int)<=122))=decide (97<=c/\c<=122):=by rw[decide_eq_decide];omega
   have k:(decide ((48:Int)<=(c:Int)/\(c:Int)<=57))=decide (48<=c/\c<=57):=by rw[decide_eq_decide];omega
   rw[j,k]
   by_cases a:97<=c/\c<=122
   ·simp[a]
   ·by_cases b:48<=c/\c<=57
    ·simp[a,b]
    ·by_cases e:c=45
     ·subst e;simp
     ·by_cases f:c=95
      ·subst f;simp
      ·by_cases g:c=46
       ·subst g;simp
       ·have k3' : ¬((c:Int)=45):=by omega
        have k4' : ¬((c:Int)=95):=by omega
        have k5' : ¬((c:Int)=46):=by omega
        simp[a,b,e,f,g,k3',k4',k5']
  by_cases hn:nch (s.getD i Qq7)=true
  ·rw[Xu hn]at hstep;rw[AE hstep,ih (i+1) U U,hn,Bool.true_and]
  ·rw[Pb hn]at hstep;have hn':nch (s.getD i Qq7)=false:=by simpa using hn
   rw[A2 (m:=TI false) hstep,hn',Bool.false_and,Bool.false_and]
def Agh{s:Qm}(hs:s.length<=1000000000000):Po s=TI (Vm s):=by
 unfold Po S0
 by_cases b:s=[]
 ·subst b;refine A2 ?_
  rfl
 ·have hl:0<s.length:=Kh.2 b;have hd:s=s.getD 0 Qq7::s.drop 1:=by have:=drop_cons hl;simpa using this
  by_cases hc:97<=(s.getD 0 Qq7).toNat/\(s.getD 0 Qq7).toNat<=122
  ·have a:CQ s (0:Int)=TI (.inl ((1:Nat):Int)):=by
    unfold CQ Eb;rw[Xu U,Ab U];simp only[Wo,Int.toNat_zero];have hh:(decide ((97:Int)<=((s.getD 0 Qq7).toNat:Int)/\((s.getD 0 Qq7).toNat:Int)<=122))=true:=by rw[Xf];omega
    rw[hh,Pb Y5,Ab U]
    rfl
   rw[AE a,AdQ hs (s.length - 1) 1 U (KN _)];unfold Vm;have hn:nch (s.getD 0 Qq7)=true:=by unfold nch;rw[Xf];exact .inl hc
   have ha:s.all nch=(s.drop 1).all nch:=by conv=>lhs;rw[hd,List.all_cons,hn,Bool.true_and]
   rw[ha,Bool.and_comm]
   congr 2
   rw[decide_eq_decide]
   constructor
   ·intro h;exact⟨h.1,h.2,hc.1,hc.2⟩
   ·intro h;exact⟨h.1,h.2.1⟩
  ·have a:CQ s (0:Int)=TI (.inr false):=by
    unfold CQ Eb;rw[Xu U,Ab U];simp only[Wo,Int.toNat_zero];have hh:(decide ((97:Int)<=((s.getD 0 Qq7).toNat:Int)/\((s.getD 0 Qq7).toNat:Int)<=122))=false:=by rw[decide_eq_false_iff_not];omega
    rw[hh]
    rfl
   rw[A2 (m:=TI false) a];unfold Vm;rw[show(decide (1<=s.length/\s.length<=32/\97<=(s.getD 0 Qq7).toNat/\(s.getD 0 Qq7).toNat<=122))=false by rw[decide_eq_false_iff_not];intro h;exact hc ⟨h.2.2.1,h.2.2.2⟩]
   rfl
def Aal(l:Qm)(k:Nat):((ByteArray.mk l.toArray).get! k).toNat=(l.getD k Qq7).toNat:=by
 simp[ByteArray.get!,Sb,getElem!_def]
 cases l[k]? <;> rfl
def Akx{l:Qm}{p:Nat}(h:(l.getD p Qq7).toNat<128):Utf8.decode ⟨l.toArray⟩ p=((l.getD p Qq7).toNat,1):=by
 unfold Utf8.decode;simp only[Pf,Aal];rw[Xu h]
def Aim{l:Qm}{p:Nat}(h : ¬(l.getD p Qq7).toNat<128):128<=(Utf8.decode ⟨l.toArray⟩ p).1:=by
 unfold Utf8.decode;simp only[Pf,Aal];rw[Pb h]
 split
 ·split
  ·rename_i h2;simpa using h2
  ·decide
 ·split
  ·split
   ·rename_i h2;simp only[ge_iff_le,ZA,Xf]at h2;show 128<=_;omega
   ·decide
  ·split
   ·split
    ·rename_i h2;simp only[ge_iff_le,ZA,Xf]at h2;show 128<=_;omega
    ·decide
   ·decide
def Ain(c:UInt8):Vy c.toNat = !(nch c):=by
 unfold Vy nch;generalize c.toNat=n;rw[Z8];simp;omega
theorem Aio{a:Qm}:∀(f p:Nat),a.length<=p+f->(0<=Lib.idxFuncFrom Vy true ⟨a.toArray⟩ f p↔(a.drop p).all nch=false)
 | 0,p,h=>by
  rw[UU U];simp[Lib.idxFuncFrom]
 | f+1,p,h=>by
  have hsz:(ByteArray.mk a.toArray).size=a.length:=by simp[Vl]
  unfold Lib.idxFuncFrom;rw[hsz]
  by_cases hp:p<a.length
  ·rw[Xu hp,drop_cons hp,List.all_cons]
   by_cases hc:(a.getD p Qq7).toNat<128
   ·rw[Akx hc];simp only[Ain]
    by_cases hn:nch (a.getD p Qq7)=true
    ·rw[hn,Pb Y5,Bool.true_and];exact Aio f (p+1) U
    ·have hn':nch (a.getD p Qq7)=false:=by simpa using hn
     rw[hn',Xu Y5];simp
   ·have hb:Vy (Utf8.decode ⟨a.toArray⟩ p).1=true:=by
     have:=Aim hc;unfold Vy;simp;omega
    have hn:nch (a.getD p Qq7)=false:=by
     unfold nch;rw[decide_eq_false_iff_not];omega
    rw[hb,Xu Z,hn];simp
  ·rw[Pb hp,UU U];simp
def Agi(a:Qm):Abl a=TI (!(a.all nch)):=by
 unfold Abl Lib.idxFunc
 congr 1
 have:=Aio (a:=a) (ByteArray.mk a.toArray).size 0 (by simp[Vl]);rw[YA]at this;rw[Z8,Xf,this];simp
def Afh(s:Qm):OL s=TI (Vm s):=by
 unfold OL Vm
 by_cases a:s=[]
 ·subst a;rfl
 ·have hl:0<s.length:=Kh.2 a;rw[Pb a]
  by_cases b:(32:Int)<(s.length:Int)
  ·rw[Xu b,show decide (1<=s.length/\s.length<=32/\97<=(s.getD 0 Qq7).toNat/\(s.getD 0 Qq7).toNat<=122)=false by rw[decide_eq_false_iff_not];omega]
   rfl
  ·rw[Pb b,Ab U,Int.toNat_zero]
   by_cases h2:((s.getD 0 Qq7).toNat:Int)<97
   ·rw[Xu h2,show decide (1<=s.length/\s.length<=32/\97<=(s.getD 0 Qq7).toNat/\(s.getD 0 Qq7).toNat<=122)=false by rw[decide_eq_false_iff_not];omega]
    rfl
   ·rw[Pb h2,Ab U]
    by_cases h3:122<((s.getD 0 Qq7).toNat:Int)
    ·rw[Xu h3,show decide (1<=s.length/\s.length<=32/\97<=(s.getD 0 Qq7).toNat/\(s.getD 0 Qq7).toNat<=122)=false by rw[decide_eq_false_iff_not];omega]
     rfl
    ·rw[Pb h3,Agi,show decide (1<=s.length/\s.length<=32/\97<=(s.getD 0 Qq7).toNat/\(s.getD 0 Qq7).toNat<=122)=true by rw[Xf];omega];simp
theorem Agj{w:Bool}{l:Sa}(hl:WH l<=1000000000000):∀(d i a:Nat),i+d=l.length->a+WH (l.drop i)<=2000000000000->
  Go.L.run (FH w l) ((a:Int),(i:Int))=TI (wr w (a:Int) (l.drop i)):=by
 intro d
 induction d with
 | zero=>
  intro i a hi ha;rw[UU U];refine A2 ?_;unfold FH;dsimp only;rw[Pb U]
  rfl
 | succ d ih=>
  intro i a hi ha;have hil:i<l.length:=by omega
  have hlt:l.length<=1000000000000:=by
   have:∀m:Sa,m.length<=WH m:=λm=>by
    induction m with
    | nil=>exact Tg _
    | cons x m ih=>simp only[PF,WH];omega
   exact RU (this l) hl
  have hx:=Abq (BU hil);rw[drop_cons hil]at ha ⊢;unfold wr;unfold WH at ha;generalize hX:l.getD i Qq7=x at *;have c:AL ((a:Int)+(x.length:Int)):=by unfold AL;omega
  have e:AL ((a:Int)+(x.length:Int)+1):=by unfold AL;omega
  have f:AL ((i:Int)+1):=by unfold AL;omega
  have b:0<=(i:Int)/\(i:Int)<(l.length:Int):=by omega
  have hgo:Go.L.run (FH w l) ((a:Int)+(x.length:Int)+1,(i:Int)+1)=TI (wr w ((a:Int)+(x.length:Int)+1) (l.drop (i+1))):=by
   have:=ih (i+1) (a+x.length+1) U U
   simpa using this
  have hb:FH w l ((a:Int),(i:Int))=if(Vm x||decide (x=[35])||(w&&(decide (x=[42])||decide (x=[42,42]))))=true then TI (.inl ((a:Int)+(x.length:Int)+1,(i:Int)+1))else TI (.inr (a:Int)):=by
   unfold FH;simp only[SV,hX];rw[Xu U,Ab b,Agh U];simp only[Wo,Ab b,Ab c,Ab e,Ab f]
   cases hn:Vm x <;> by_cases g:x=[35] <;> cases w <;> by_cases h2:x=[42] <;> by_cases h3:x=[42,42] <;> simp_all
  by_cases hc:(Vm x||decide (x=[35])||(w&&(decide (x=[42])||decide (x=[42,42]))))=true
  ·rw[Xu hc]at hb ⊢;rw[AE hb,hgo]
  ·rw[Pb hc]at hb ⊢;exact A2 (m:=TI (a:Int)) hb
def Aip{s:Qm}(hs:s.length<=100000000000)(w:Bool):OE s w=TI (wr w 0 (sl s)):=by
 unfold OE;rw[Wf U,Wo];have a:=Ail s;have:=Agj (w:=w) (l:=sl s) U (sl s).length 0 0 U U;rw[YA]at this;exact this
def pf(s:Qm):Int×Int:=if 64<s.length then(3,-1)else if 0<=wr true 0 (sl s)then(1,wr true 0 (sl s))else(0,0)
def Agk(s:Qm):I7 s=TI (pf s):=by
 unfold I7 pf
 by_cases h:64<s.length
 ·rw[Xu U,Xu h];rfl
 ·rw[Pb U,Pb h,Aip U];simp only[Wo]
  split <;> rfl
theorem Agl{l:Sa}(hl:WH l<=1000000000000):∀(d i a:Nat),i+d=l.length->a+WH (l.drop i)<=2000000000000->
  Go.L.run (E2 l) ((a:Int),(i:Int))=TI (if 0<=wr true (a:Int) (l.drop i)then(1,wr true (a:Int) (l.drop i))else(0,0)):=by
 intro d
 induction d with
 | zero=>
  intro i a hi ha;rw[UU U];refine A2 ?_;unfold E2;dsimp only;rw[Pb U]
  rfl
 | succ d ih=>
  intro i a hi ha;have hil:i<l.length:=by omega
  have hlt:l.length<=1000000000000:=by
   have:∀m:Sa,m.length<=WH m:=λm=>by
    induction m with
    | nil=>exact Tg _
    | cons x m ih=>simp only[PF,WH];omega
   exact RU (this l) hl
  have hx:=Abq (BU hil);rw[drop_cons hil]at ha ⊢;unfold wr;unfold WH at ha;generalize hX:l.getD i Qq7=x at *;have b:AL ((x.length:Int)+1):=by unfold AL;omega
  have c:AL ((a:Int)+((x.length:Int)+1)):=by unfold AL;omega
  have e:AL ((i:Int)+1):=by unfold AL;omega
  have f:0<=(i:Int)/\(i:Int)<(l.length:Int):=by omega
  have hgo:Go.L.run (E2 l) ((a:Int)+((x.length:Int)+1),(i:Int)+1)=TI (if 0<=wr true ((a:Int)+(x.length:Int)+1) (l.drop (i+1))then(1,wr true ((a:Int)+(x.length:Int)+1) (l.drop (i+1)))else(0,0)):=by
   have:=ih (i+1) (a+x.length+1) U U;rw[show((a:Int)+((x.length:Int)+1))=((a+x.length+1:Nat):Int) by omega,show((a:Int)+(x.length:Int)+1)=((a+x.length+1:Nat):Int) by omega];exact this
  have hb:E2 l ((a:Int),(i:Int))=if(Vm x||decide (x=[35])||(true&&(decide (x=[42])||decide (x=[42,42]))))=true then TI (.inl ((a:Int)+((x.length:Int)+1),(i:Int)+1))else TI (.inr (1,(a:Int))):=by
   unfold E2;simp only[SV,hX];rw[Xu U,Ab f,Afh];simp only[Wo,Ab b,Ab c,Ab e]
   cases hn:Vm x <;> by_cases g:x=[35] <;> by_cases h2:x=[42] <;> by_cases h3:x=[42,42] <;> simp_all [Dz]
  by_cases hc:(Vm x||decide (x=[35])||(true&&(decide (x=[42])||decide (x=[42,42]))))=true
  ·rw[Xu hc]at hb ⊢;rw[AE hb,hgo]
  ·rw[Pb hc]at hb ⊢;rw[Xu U];exact A2 (m:=TI (1,(a:Int))) hb
def T0(s:Qm):HC s=TI (pf s):=by
 unfold HC pf
 by_cases h:64<s.length
 ·rw[Xu U,Xu h];rfl
 ·rw[Pb U,Pb h,YU U,Wo];have a:=Ail s;have:=Agl (l:=sl s) U (sl s).length 0 0 U U;rw[YA]at this;exact this
end Go.Proofs.YtgaljodghpgdmaaGreatDoor
end
noncomputable section
namespace Go.L
def zz(a:Int):Nat:=if 0<=a then(2 * a).toNat else(-2 * a - 1).toNat
def Al3{a:Int}(h:AL a):zz a<18446744073709551616:=by unfold zz;unfold AL at h;split <;> omega
def Vn:Nat->Nat->Qm
 | 0,_=>[]
 | n+1,u=>if 128<=u then SJ (u % 128+128)::Vn n (u / 128)else[SJ u]
def Ly(u:Nat):Qm:=Vn 10 u
theorem Aam:∀n u,(Vn n u).length<=n
 | 0,_=>by simp[Vn]
 | n+1,u=>by
  unfold Vn
  split
  ·have:=Aam n (u / 128);simp only[PF];omega
  ·simp
def Cy(u:Nat):(Ly u).length<=10:=Aam 10 u
set_option maxRecDepth 20000 in
def Anw(u:Nat):u8 (u:Int) ||| 128=SJ (u % 128+128):=by
 have h:∀b:Fin 256,(SJ b.val ||| 128)=SJ (b.val % 128+128):=by decide
 have:=h ⟨u % 256,Nat.mod_lt _ Y5⟩;dsimp only at this;unfold u8;rw[show((u:Int) % 256).toNat=u % 256 by omega,this]
 congr 2
 omega
set_option maxRecDepth 20000 in
def Ams(u:Nat):u8 ((u:Int) % 128)+128=SJ (u % 128+128):=by
 have h:∀b:Fin 128,(SJ b.val+128)=SJ (b.val+128):=by decide
 have:=h ⟨u % 128,Nat.mod_lt _ Y5⟩;dsimp only at this;unfold u8;rw[show(((u:Int) % 128) % 256).toNat=u % 128 by omega,this]
def AcJ{u:Nat}:u8 (u:Int)=SJ u:=by
 unfold u8;rw[show((u:Int) % 256).toNat=u % 256 by omega];apply UInt8.toNat.inj;simp
end Go.L
namespace Go.Proofs.YtgaljodghpgdmaaGreatDoor
open Go Go.L
theorem AcK:∀(n u:Nat) (L:Qm),u<128 ^ n->L.length+n<=1000->n<=10->1<=n->Go.L.run Gi (L,(u:Int))=TI (L++Vn n u)
 | 0,_,_,_,_,_,h=>absurd h U
 | n+1,u,L,hu,hL,hn,_=>by
  unfold Vn
  by_cases h:128<=u
  ·have b:1<=n:=by
    rcases Nat.eq_zero_or_pos n with a | a
    ·subst a;simp at hu;omega
    ·exact a
   have e:Gi (L,(u:Int))=TI (.inl (L++[SJ (u % 128+128)],((u / 128:Nat):Int))):=by
    unfold Gi;dsimp only;rw[Xu U,Ab (by unfold Go.E.Dx;simp;omega),Anw]
    rfl
   rw[AE e,AcK n (u / 128) _ (Nat.div_lt_of_lt_mul (by rw[Nat.pow_succ,Nat.mul_comm]at hu;exact hu)) U U b,Xu h];simp
  ·rw[Pb h];refine A2 (m:=TI (L++[SJ u])) ?_;unfold Gi OM;dsimp only;rw[Pb U,Ab (by unfold Go.E.Dx;simp;omega),AcJ]
def Aiq{x:Int}:IntKind.u64.wrap x=x % 18446744073709551616:=by
 simp only[IntKind.wrap];simp[IntKind.bits,IntKind.signed]
def Afi{k:Nat}(h:k<2 ^ 64):k ^^^ 18446744073709551615=18446744073709551615 - k:=by
 have h2:(BitVec.ofNat 64 k ^^^ BitVec.allOnes 64).toNat=(~~~ (BitVec.ofNat 64 k)).toNat:=by rw[BitVec.xor_allOnes]
 rw[BitVec.toNat_xor,BitVec.toNat_not,BitVec.toNat_ofNat,BitVec.toNat_allOnes,Nat.mod_eq_of_lt h]at h2;exact h2
def GZ{a:Int}(h:AL a):DN a=TI (Ly (zz a)):=by
 have hz:=Al3 h;unfold AL at h;unfold DN;simp only[Aiq];rw[Ab U];unfold QjZ Ly
 have key:((((a % 18446744073709551616 * 2 % 18446744073709551616).toNat ^^^ (a / 9223372036854775808 % 18446744073709551616).toNat:Nat)):Int)=((zz a:Nat):Int):=by
  unfold zz
  by_cases b:0<=a
  ·rw[Xu b,show a / 9223372036854775808 % 18446744073709551616=0 by omega];simp only[Int.toNat_zero,Nat.xor_zero];omega
  ·rw[Pb b,show(a / 9223372036854775808 % 18446744073709551616).toNat=18446744073709551615 by omega,Afi U];omega
 rw[key,AcK 10 (zz a) [] (Nat.lt_trans hz Y5) Y5 Y5 Y5]
 rfl
end Go.Proofs.YtgaljodghpgdmaaGreatDoor
end
noncomputable section
namespace Go.L
structure Uw (v:Pv):Prop where
 kind:v.f.1=1\/v.f.1=2\/v.f.1=3\/v.f.1=4
 num:v.f.1=1\/v.f.2.1=0
 bytes:v.f.1=2\/v.f.2.2.1=[]
 names:v.f.1=4\/v.f.2.2.2.1=[]
 parts:v.f.1=3\/v.f.1=4\/v.f.2.2.2.2=[]
 same:v.f.1=4->v.f.2.2.2.1.length=v.f.2.2.2.2.length
 many:v.f.2.2.2.2.length<=600
 Vm:∀x∈v.f.2.2.2.1,Vm x=true
 nd:v.f.2.2.2.1.Nodup
def Vd:Nat->Pv->Prop
 | 0,_=>False
 | d+1,v=>Uw v/\∀p∈v.f.2.2.2.2,Vd d p
def Sm(B:Nat):Nat->Pv->Prop
 | 0,_=>True
 | d+1,v=>v.f.2.2.1.length<=B/\v.f.2.2.2.1.length<=B/\v.f.2.2.2.2.length<=B/\(∀x∈v.f.2.2.2.1,x.length<=B)/\AL v.f.1/\AL v.f.2.1/\∀p∈v.f.2.2.2.2,Sm B d p
def nodes:Nat->Pv->Nat
 | 0,_=>0
 | d+1,v=>1+(v.f.2.2.2.2.map (nodes d)).sum
end Go.L
namespace Go.Proofs.YtgaljodghpgdmaaGreatDoor
open Go Go.L
theorem Air{l:SB}(hl:l.length<=1000)(a:Int):By l a=TI (decide (a∈l)):=by
 have key:∀(d i:Nat),i+d=l.length->∃r,Go.L.run (AO l a) (i:Int)=TI r/\(0<=r↔a∈l.drop i):=by
  intro d
  induction d with
  | zero=>
   intro i hi;refine⟨-1,A2 (m:=TI (-1)) ?_,by rw[UU U];simp⟩;unfold AO DH;rw[Pb U]
  | succ d ih=>
   intro i hi;have hil:i<l.length:=by omega
   rw[drop_cons hil]
   have hb:AO l a (i:Int)=if a=l.getD i Qq7 then TI (.inr (i:Int))else TI (.inl ((i+1:Nat):Int)):=by
    unfold AO;rw[Xu U,Ab U,SV,Ab U]
    rfl
   by_cases h:a=l.getD i Qq7
   ·rw[Xu h]at hb;exact⟨_,A2 (m:=TI (i:Int)) hb,by rw[h];simp⟩
   ·rw[Pb h]at hb;obtain⟨r,b,h2⟩:=ih (i+1) U;refine⟨r,by rw[AE hb,b],h2.trans ?_⟩;rw[R7];exact⟨.inr,λhh=>hh.resolve_left h⟩
 unfold By EG ET;obtain⟨r,b,h2⟩:=key l.length 0 U;rw[show((0:Int))=((0:Nat):Int)from Z,b,Wo];rw[YA]at h2
 congr 1
 rw[Z8,Xf,Xf];exact h2
theorem Ais{l:Sa}(hl:l.length<=1000000000000)(a:Qm):Df l a=TI (decide (a∈l)):=by
 have key:∀(d i:Nat),i+d=l.length->∃r,Go.L.run (BS l a) (i:Int)=TI r/\(0<=r↔a∈l.drop i):=by
  intro d
  induction d with
  | zero=>
   intro i hi;refine⟨-1,A2 (m:=TI (-1)) ?_,by rw[UU U];simp⟩;unfold BS EH;rw[Pb U]
  | succ d ih=>
   intro i hi;have hil:i<l.length:=by omega
   rw[drop_cons hil]
   have hb:BS l a (i:Int)=if a=l.getD i Qq7 then TI (.inr (i:Int))else TI (.inl ((i+1:Nat):Int)):=by
    unfold BS;rw[Xu U,Ab U,SV,Ab U]
    rfl
   by_cases h:a=l.getD i Qq7
   ·rw[Xu h]at hb;exact⟨_,A2 (m:=TI (i:Int)) hb,by rw[h];simp⟩
   ·rw[Pb h]at hb;obtain⟨r,b,h2⟩:=ih (i+1) U;refine⟨r,by rw[AE hb,b],h2.trans ?_⟩;rw[R7];exact⟨.inr,λhh=>hh.resolve_left h⟩
 unfold Df FJ Hn;obtain⟨r,b,h2⟩:=key l.length 0 U;rw[show((0:Int))=((0:Nat):Int)from Z,b,Wo];rw[YA]at h2
 congr 1
 rw[Z8,Xf,Xf];exact h2
theorem Amt{l:Sa}(hl:l.length<=1000000000000):J2 l=TI (l.any λx=>!Vm x):=by
 have key:∀(d i:Nat),i+d=l.length->∃r,Go.L.run (DM l) (i:Int)=TI r/\(0<=r↔(l.drop i).any (λx=>!Vm x)=true):=by
  intro d
  induction d with
  | zero=>
   intro i hi;refine⟨-1,A2 (m:=TI (-1)) ?_,by rw[UU U];simp⟩;unfold DM JG;rw[Pb U]
  | succ d ih=>
   intro i hi;have hil:i<l.length:=by omega
   rw[drop_cons hil]
   have hb:DM l (i:Int)=if(!Vm (l.getD i Qq7))=true then TI (.inr (i:Int))else TI (.inl ((i+1:Nat):Int)):=by
    unfold DM Lu;rw[Xu U,Ab U,SV,Afh,Ab U]
    rfl
   by_cases h:(!Vm (l.getD i Qq7))=true
   ·rw[Xu h]at hb;exact⟨_,A2 (m:=TI (i:Int)) hb,by rw[List.any_cons,h];simp⟩
   ·rw[Pb h]at hb;obtain⟨r,a,h2⟩:=ih (i+1) U;refine⟨r,by rw[AE hb,a],h2.trans ?_⟩;have hf:(!Vm (l.getD i Qq7))=false:=by simpa using h
    rw[List.any_cons,hf,Bool.false_or]
 unfold J2 Mw Ags;obtain⟨r,a,h2⟩:=key l.length 0 U;rw[show((0:Int))=((0:Nat):Int)from Z,a,Wo];rw[YA]at h2
 congr 1
 rw[Z8,Xf];exact h2
theorem Afj{l:Sa}(hl:l.length<=1000000000000):∀(d i:Nat),i+d=l.length->(l.take i).Nodup->∃c,Go.L.run (Eo l) (i:Int)=TI c/\(c=0->l.Nodup)
 | 0,i,hi,hn=>by
  refine⟨0,A2 (m:=TI 0) ?_,λ_=>?_⟩
  ·unfold Eo K7;rw[Pb U]
  ·rwa [Sg U]at hn
 | d+1,i,hi,hn=>by
  have hil:i<l.length:=by omega
  have hb:Eo l (i:Int)=if l.getD i Qq7∈l.take i then TI (.inr 8)else TI (.inl ((i+1:Nat):Int)):=by
   unfold Eo;rw[Xu U,Ab U,Ab U,SV,Ais (by rw[Y4];omega),Wo,Ab U]
   by_cases h:l.getD i Qq7∈l.take i <;> simp[h]
  by_cases h:l.getD i Qq7∈l.take i
  ·rw[Xu h]at hb;exact⟨8,A2 (m:=TI 8) hb,λhc=>by cases hc⟩
  ·rw[Pb h]at hb
   obtain⟨c,f,h2⟩:=Afj hl d (i+1) U (by
    rw[Vf,Pa hil];have e:l[i]=l.getD i Qq7:=by rw[Sb,Pa hil];rfl
    rw[e];exact P3.2 ⟨hn,List.pairwise_singleton _ _,λa ha b hb e=>by rw[Option.toList_some,TG]at hb;subst hb;subst e;exact h ha⟩)
   exact⟨c,by rw[AE hb,f],h2⟩
theorem Anx(a b:Int)(c:Qm){ns:Sa}(hn:ns.length<=1000000000000)(ps:List Pv)(fl:Bool):∃r,BG a b c ns ps fl=TI r/\(r=0->fl=false/\ps.length<=600/\(∀x∈ns,Vm x=true)/\ns.Nodup):=by
 unfold BG
 cases fl with
 | true=>exact⟨6,Z,λh=>by cases h⟩
 | false=>
  rw[Pb Y5]
  by_cases d:(600:Int)<(ps.length:Int)
  ·rw[Xu d];exact⟨14,Z,λh=>by cases h⟩
  ·rw[Pb d,Amt hn,Wo]
   by_cases h2:(ns.any λx=>!Vm x)=true
   ·rw[Xu h2];exact⟨7,Z,λh=>by cases h⟩
   ·rw[Pb h2];obtain⟨r,h3,e⟩:=Afj hn ns.length 0 U Rg;refine⟨r,h3,λh=>⟨Z,by omega,λx hx=>?_,e h⟩⟩
    cases hk:Vm x with
    | true=>rfl
    | false=>exact absurd (List.any_eq_true.2 ⟨x,hx,by simp[hk]⟩) h2
def vc1(l:SB)(hl:l.length<=1000)(v:Pv):Cw l v=TI (decide (v.f.1∈l),v):=by
 unfold Cw;rw[Air hl]
 rfl
set_option maxHeartbeats 4000000 in
theorem Abr(v:Pv)(hn:v.f.2.2.2.1.length<=1000000000000):∃c,Ig v=TI c/\(c=0->Uw v):=by
 have fin:∀fl:Bool,(fl=false->(v.f.1=1\/v.f.1=2\/v.f.1=3\/v.f.1=4)/\(v.f.1=1\/v.f.2.1=0)/\(v.f.1=2\/v.f.2.2.1=[])/\(v.f.1=4\/v.f.2.2.2.1=[])/\(v.f.1=3\/v.f.1=4\/v.f.2.2.2.2=[])/\(v.f.1=4->v.f.2.2.2.1.length=v.f.2.2.2.2.length))->
   ∃c,BG v.f.1 v.f.2.1 v.f.2.2.1 v.f.2.2.2.1 v.f.2.2.2.2 fl=TI c/\(c=0->Uw v):=by
  intro fl hfl;obtain⟨r,d,h2⟩:=Anx v.f.1 v.f.2.1 v.f.2.2.1 hn v.f.2.2.2.2 fl;refine⟨r,d,λhr=>?_⟩;obtain⟨e,g,i,j⟩:=h2 hr;obtain⟨m,o,p,q,s,t⟩:=hfl e;exact⟨m,o,p,q,s,t,g,i,j⟩
 have a:=vc1 [1,2,3,4] Y5 v;have u:=vc1 [1] Y5 v;have w:=vc1 [2] Y5 v;have x:=vc1 [3,4] Y5 v;have y:=vc1 [4] Y5 v
 by_cases hk:v.f.1=1\/v.f.1=2\/v.f.1=3\/v.f.1=4
 ·have ev:Pv.mk v.f.1 v.f.2.1 v.f.2.2.1 v.f.2.2.2.1 v.f.2.2.2.2=v:=by cases v;rfl
  unfold Ig HF HE HD;simp only[a,u,w,x,y,ev,Wo];generalize v.f.1=k at *;generalize v.f.2.1=n at *;generalize v.f.2.2.1=b at *;generalize v.f.2.2.2.1=ns at *;generalize v.f.2.2.2.2=ps at *
  have hb:b=[]\/(0:Int)<(b.length:Int):=by cases b with
   | nil=>exact .inl Z
   | cons _ _=>exact .inr (by simp only[PF];omega)
  have hm:ns=[]\/(0:Int)<(ns.length:Int):=by cases ns with
   | nil=>exact .inl Z
   | cons _ _=>exact .inr (by simp only[PF];omega)
  have hp:ps=[]\/(0:Int)<(ps.length:Int):=by cases ps with
   | nil=>exact .inl Z
   | cons _ _=>exact .inr (by simp only[PF];omega)
  rcases hk with rfl | rfl | rfl | rfl <;> by_cases hz:n=0 <;> rcases hb with rfl | hb <;> rcases hm with rfl | hm <;> rcases hp with rfl | hp <;>
   simp +decide only[*,if_true,if_false,RZ,Bool.not_true,Bool.not_false,SQ,decide_true,decide_false,Int.lt_irrefl,Int.natCast_zero] <;>
   (refine fin _ λhfl=>?_) <;> simp_all <;> omega
 ·refine⟨5,?_,λh=>by cases h⟩;unfold Ig;rw[a,Wo];rw[Xu (by simp[hk])]
abbrev En:Type:=Lf×SB
end Go.Proofs.YtgaljodghpgdmaaGreatDoor
end
noncomputable section
namespace Go.E
open Go Go.RowKit
theorem AcL{κ:Type}{enc:κ->Value}:∀(l:List κ) (vs:LR) (i:Nat),l.length=vs.length->(mE enc i l vs).map (·.born)=List.range' i l.length
 | [],[],_,_=>rfl
 | a::l,u::vs,i,h=>by
  simp only[mE,Yu,PF,List.range'_succ];rw[AcL l vs (i+1) (by simpa using h)]
def Ait{κ:Type}{enc:κ->Value}{l:List κ}{vs:LR}(h:l.length=vs.length){x:MapEntry}(hx:x∈mE enc 0 l vs):∃a,l[x.born]? = TI a/\x=⟨enc a,vs.getD x.born Qq7,x.born⟩:=by
 obtain⟨j,hj⟩:=List.getElem?_of_mem hx;have hjl:j<l.length:=by have:=(Z9.1 hj).1;rwa [VL l vs 0 h]at this
 have:=VK (enc:=enc) l vs 0 j l[j] h (Pa hjl);rw[hj,Q8]at this;obtain rfl:=Option.some.inj this;exact⟨l[j],Pa hjl,Z⟩
section
variable {P:Program}{n:Sz}{ops:Array Oper}{Q:Exit->Act->World->Prop}{L:ZC}{w w0:World}{O:List Bv}{rest:List Oper}{d:Nat}{ty t kt et:TypeId}{pos:String}{af:Array Edge}{x:Operand}{κ:Type}{enc:κ->Value}{keys:List κ}{vs:LR}{m N:Nat}
def Aiu[Dr][hx:V9 (ev L x) (TI (.map (TI m)))][ht:V9 (P.underlying t) (TI (.map kt et))](hm:w.heap[m]? = TI (.map (mE enc 0 keys vs).toArray N))[hn:V9 (Uu d n.n) true](hL:AB w0 O w)
  (h:∀w' b,AB w0 (.obj b (.mapIter (TI m) N ([]:List Nat).toArray N)::O) w'->Le (fz w O) (fz w' (.obj b (.mapIter (TI m) N ([]:List Nat).toArray N)::O))->S P n ops Q rest ((d,.pointer (TI ⟨b,0,none⟩))::L) w'):S P n ops Q (⟨TI d,.range t x,ty,pos,af,none⟩::rest) L w:=by
 have hb:∀b,(Bv.obj w.heap.size (.mapIter (TI m) N ([]:List Nat).toArray N)).block=TI b->w.heap.size<=b:=λb e=>by cases e;exact KN _
 refine Dy (v:=.pointer (TI ⟨w.heap.size,0,none⟩)) (w':=w.alloc (.mapIter (TI m) N ([]:List Nat).toArray N)) hn.e (fun ρ hρ=>?_) (h _ _ (hL.new (C1 w _) (World.alloc_heap_new w _) hb) (Uj hL (C1 w _) hb));have:=run_range_map (P:=P) w t kt et m _ N ht.e hm;simp[execOp,hρ x _ hx.e,this]
def Aky[Dr](i:Nat){b:Nat}{seen:List Nat}(hx:ev L x=TI (.pointer (TI ⟨b,0,none⟩)))[hn:V9 (Uu d n.n) true](hL:AB w0 O w)(hi:Ba O i=TI (.obj b (.mapIter (TI m) N seen.toArray N)))(hm:w.heap[m]? = TI (.map (mE enc 0 keys vs).toArray N))(hk:keys.length=vs.length)(hN:keys.length=N)
  (r:∀j a,keys[j]? = TI a->j∉seen->∀w',AB w0 (Ci O i (.obj b (.mapIter (TI m) N (seen++[j]).toArray N))) w'->Le (fz w O) (fz w' (Ci O i (.obj b (.mapIter (TI m) N (seen++[j]).toArray N))))->w'.heap[m]? = TI (.map (mE enc 0 keys vs).toArray N)->S P n ops Q rest ((d,.tuple #[.bool true,enc a,vs.getD j Qq7])::L) w')
  (h2:(∀j,j<N->j∈seen)->S P n ops Q rest ((d,.tuple #[.bool false])::L) w):S P n ops Q (⟨TI d,.next x false,ty,pos,af,none⟩::rest) L w:=by
 have hb:w.heap[b]? = TI (.mapIter (TI m) N seen.toArray N):=hL.at hi
 have hold:∀x∈(mE enc 0 keys vs).toArray.toList,x.born<N:=λx hx=>by
  obtain⟨a,ha,_⟩:=Ait hk (by simpa using hx);have:=(Z9.1 ha).1;omega
 rcases run_next_at (P:=P) w ty b m N N seen.toArray _ N hb hm hold (KN _)with ⟨s,hr⟩ | ⟨e,he,c,k,hr⟩
 ·refine Dy (v:=.tuple #[.bool false]) (w':=w) hn.e (fun ρ hρ=>by simp[execOp,hρ x _ hx,hr]) (h2 λj hj=>?_);have hjk:j<keys.length:=by omega
  have hg:=VK (enc:=enc) keys vs 0 j keys[j] hk (Pa hjk);rw[Q8]at hg;have hemp:leftOf (mE enc 0 keys vs).toArray seen.toArray = #[]:=Array.eq_empty_of_size_eq_zero s;unfold leftOf at hemp;rw[Array.filter_eq_empty_iff]at hemp;have:=hemp _ (by simpa using List.mem_of_getElem? hg)
  simpa using this
 ·have hmem:e∈mE enc 0 keys vs/\e.born∉seen:=by
   unfold leftOf at he
   simpa using he
  obtain⟨a,ha,hee⟩:=Ait hk hmem.1
  have f:Ext w c:=by
   rcases k with rfl | rfl
   ·exact Ext.refl _
   ·exact MR
  have l:=hL.call f;have g:=A3 hL f;have hput:=l.putAt (.mapIter (TI m) N (seen++[e.born]).toArray N) hi;have hne:m≠b:=λeq=>by rw[eq,hb]at hm;cases hm
  have o:c.heap[m]? = TI (.map (mE enc 0 keys vs).toArray N):=by rw[f.block m (lt_of_heap hm)];exact hm
  have p:(c.putObj b (.mapIter (TI m) N (seen++[e.born]).toArray N)).heap[m]? = TI (.map (mE enc 0 keys vs).toArray N):=by rw[World.putObj_heap_other hne];exact o
  have hval:e.key=enc a/\e.val=vs.getD e.born Qq7:=by rw[hee];exact⟨Z,Z⟩
  rw[hval.1,hval.2]at hr
  have q:ChangeMaps.setBlock c b (.mapIter (TI m) N (seen.toArray.push e.born) N)=c.putObj b (.mapIter (TI m) N (seen++[e.born]).toArray N):=by
   rw[List.push_toArray];rfl
  rw[q]at hr;refine Dy (v:=_) (w':=_) hn.e (fun ρ hρ=>?_) (r e.born a ha hmem.2 _ hput.1 (g.trans hput.2) p);simp[execOp,hρ x _ hx,hr]
def Aiv{b:Nat}{seen:List Nat}{j:Nat}{a:κ}(hx:ev L x=TI (.pointer (TI ⟨b,0,none⟩)))[hn:V9 (Uu d n.n) true](hb:w.heap[b]? = TI (.mapIter (TI m) N (seen++[j]).toArray N))(hm:w.heap[m]? = TI (.map (mE enc 0 keys vs).toArray N))(hk:keys.length=vs.length)(ha:keys[j]? = TI a)
  (h:S P n ops Q rest ((d,.tuple #[enc a,vs.getD j Qq7])::L) w):S P n ops Q (⟨TI d,.entry x,ty,pos,af,none⟩::rest) L w:=by
 have hg:=VK (enc:=enc) keys vs 0 j a hk ha;rw[Q8]at hg;have hr:=run_entry_at (P:=P) w b m N seen.toArray (mE enc 0 keys vs).toArray N ⟨enc a,vs.getD j Qq7,j⟩ (by rw[hb,List.push_toArray]) hm (by simpa using List.mem_of_getElem? hg) (by rw[List.toList_toArray,AcL _ _ _ hk];exact List.nodup_range');refine Dy (v:=_) (w':=w) hn.e (fun ρ hρ=>?_) h;simp[execOp,hρ x _ hx,hr]
end
end Go.E
end
