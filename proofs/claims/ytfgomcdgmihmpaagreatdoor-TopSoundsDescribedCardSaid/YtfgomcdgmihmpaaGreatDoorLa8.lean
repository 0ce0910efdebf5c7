/- Texts of a claim, merged. -/
import Derived.Test.YtfgomcdgmihmpaaGreatDoorLa7
import Derived.KernelRfl
open _root_.Go.Proofs.Tryz renaming underlying34→Z2,underlying32→Z6,underlying27→Zl
open Option renaming bind->QqB,bind_some->QqC,map->QqD
open List renaming length_append->Qq1,length_singleton->Qzk,drop_eq_getElem_cons->Qzc,mem_cons->Qq5,getElem_eq_getD->Qza,length_map->Qq9,length_cons->Qzx,not_mem_nil->Qzj,getD_eq_getElem?_getD->QzX,length_nil->Qzu,length_drop->Qzv,getElem_mem->QzA,append_assoc->QzJ,append_nil->QzQ,drop_eq_nil_of_le->Qxk,take_of_length_le->Qz8,take_succ_eq_append_getElem->Qxd,mem_append->QzC,length_take->Qz9,range->Qze,drop_zero->Qxz,map_cons->Qz7,take_append_drop->Qxc,all_eq_true->Qxx,foldl_cons->Qxu,getD_cons_zero->QxQ,mem_singleton->Qxf
open Nat renaming le_refl->Qq0,zero_le->Qq7,lt_or_ge->Qzd
open UInt8 renaming ofNat->Qq2,toNat_inj->Qxj,ofNat_toNat->QxZ
open Bool renaming and_eq_true->Qq4
open Int renaming toNat_of_nonneg->QzZ
set_option linter.unusedVariables false
set_option linter.unusedSimpArgs false
set_option linter.unusedSectionVars false
noncomputable section
namespace Go.Proofs.YtfgomcdgmihmpaaGreatDoor
open Go Go.E Go.RowKit Go.L
set_option maxHeartbeats 1000000
set_option maxRecDepth 10000
open _root_.Go.Proofs.Tryz
def FE:Option Zg:=
 some (([102,105,108,101,32,115,101,113,117,101,110,99,101,32,45,58,109,97,103,105,99,32,99,104,117,110,107,115,58,108,105,115,116,10,109,97,103,105,99,32,108,105,116,101,114,97,108,32,53,51,52,101,52,52,51,49,10,108,105,115,116,32,114,101,112,101,97,116,32,48,32,99,104,117,110,107,10,99,104,117,110,107,32,99,104,111,105,99,101,32,102,111,114,109,32,115,97,109,112,108,101,115,32,108,111,119,32,109,105,100,100,108,101,32,104,105,103,104,10,102,111,114,109,32,115,101,113,117,101,110,99,101,32,45,58,102,111,114,109,104,101,97,100,32,114,97,116,101,58,116,119,111,32,99,104,97,110,110,101,108,115,58,111,110,101,32,99,111,100,105,110,103,58,111,110,101,10,102,111,114,109,104,101,97,100,32,108,105,116,101,114,97,108,32,52,54,48,48,48,52,10,115,97,109,112,108,101,115,32,115,101,113,117,101,110,99,101,32,45,58,115,97,109,112,108,101,104,101,97,100,32,100,97,116,97,58,98,108,111,98,10,115,97,109,112,108,101,104,101,97,100,32,108,105,116,101,114,97,108,32,52,52,10,108,111,119,32,115,101,113,117,101,110,99,101,32,110,97,109,101,58,108,111,119,110,97,109,101,32,100,97,116,97,58,98,108,111,98,10,109,105,100,100,108,101,32,115,101,113,117,101,110,99,101,32,110,97,109,101,58,109,105,100,100,108,101,110,97,109,101,32,100,97,116,97,58,98,108,111,98,10,104,105,103,104,32,115,101,113,117,101,110,99,101,32,110,97,109,101,58,104,105,103,104,110,97,109,101,32,100,97,116,97,58,98,108,111,98,10,108,111,119,110,97,109,101,32,110,117,109,98,101,114,32,49,32,98,105,103,32,54,53,32,54,55,10,109,105,100,100,108,101,110,97,109,101,32,110,117,109,98,101,114,32,49,32,98,105,103,32,54,57,32,54,57,10,104,105,103,104,110,97,109,101,32,110,117,109,98,101,114,32,49,32,98,105,103,32,55,49,32,57,48,10,111,110,101,32,110,117,109,98,101,114,32,49,32,98,105,103,32,48,32,50,53,53,10,116,119,111,32,110,117,109,98,101,114,32,50,32,98,105,103,32,48,32,54,53,53,51,53,10,98,108,111,98,32,98,108,111,98,32,116,119,111,10]:Zg))
section
variable(w:World)(H:PH)(hH:Le H (hp w)) include hH
theorem N5{r:Zg}(h:FE=some r):
  Zy 5 [] w (fun v w'=>v=(Zf r)):=by
 refine AL 1 [] func5 Z fun hL=>AI 1 Z<|AI 1 Z<|Ay ?_
 cases h
 refine Ak Z ⟨hL.ext,Z⟩
def F8(a0:Zg)(a:Pv×Zg×QqJ)(e:Zg×QqJ)(_c291 b:Int)(_c293:Zg)(_c294:List Zg)(_c295:List Pv)(c _c298:Int):Option Bool:=
 if c=0 then QqB (Nn e.1 a0) (fun d=>if d then Bi (0<=(0:Int)/\(0:Int)<(a.1.f.2.2.2.2.length:Int)) (some (decide (b=(a.1.f.2.2.2.2.getD ((0:Int).toNat) Qqf).f.2.1)))else some false)else some false
def F9(a0:Zg)(g:((List ZJ))×QqJ)(d:Pv×Zg×QqJ):Option Bool:=
 QqB (Hp g.1 a0) (fun b=>QqB (Jc g.1 b.1) (fun e=>QqB (LV b.1 ([114,97,116,101]:Zg)) (fun c=>if b.2.1=0 then if e.2.1=0 then if c.2.1=0 then if(c.1.length:Int)=1 then if(d.1.f.2.2.2.2.length:Int)=3 then Bi (0<=(0:Int)/\(0:Int)<(c.1.length:Int)) (QqB (JY b.1 (c.1.getD ((0:Int).toNat) Qqf)) (fun a=>(F8 a0 d e) a.1.f.1 a.1.f.2.1 a.1.f.2.2.1 a.1.f.2.2.2.1 a.1.f.2.2.2.2 a.2.1 a.2.2))else some false else some false else some false else some false else some false)))
def FA(a0:Zg)(b:((List ZJ))×QqJ):Option Bool:=
 QqB (NM a0) (fun a=>if a.2.2.1=0 then if 300<(a0.length:Int)then some true else(F9 a0 b a)else some true)
def G6(a0:Zg):Option Bool:=
 QqB FE (fun d=>QqB (HI d) (fun c=>QqB (Hp c.1 ([(83:UInt8),(78:UInt8),(68:UInt8),(49:UInt8),(70:UInt8),(0:UInt8),(4:UInt8),(0:UInt8),(8:UInt8),(1:UInt8),(0:UInt8),(68:UInt8),(0:UInt8),(1:UInt8),(129:UInt8),(0:UInt8)])) (fun a=>QqB (JY a.1 ([0,0,1,0])) (fun b=>if c.2.1=0 then if a.2.1=0 then if b.2.1=0 then if b.1.f.2.1=8 then(FA a0 c)else some false else some false else some false else some false))))
theorem KR(hU:I3 H){a0:Zg}{hn:Value}(iu:AD .byte H hn a0){r:Bool}(h:G6 a0=some r):
  Zy 3 [hn] w (fun v w'=>v=.bool r):=by
 refine AL 136 [(0,hn)] func3 Z fun hL=>AI 1 Z<|Av<|Ax h fun x1 r8 h=>A9 hL (N5 _ _ (Al hL) r8) fun w2 vh m5 sr=>Ax h fun x3 r9 h=>Bh m5 (OG _ _ (Al m5) (hU.mono  Ai) r9) ?_;rintro _ w4 ⟨bj,rfl,pm⟩ sa sb ss;have dt:=pm.Cu hH m5 sa;refine Aw 3 Z<|AG HQ.e Z sb fun w5 b5 sc qf _=>AG Bt.e Z sc fun w6 b6 sd qg _=>Ar 1 Z sd Z (a:=(Be dt.one Gr)) fun w7 se qh=>Ar 0 Z se Z fun w8 sf qi=>Am<|Av<|Br [(83:UInt8),(78:UInt8),(68:UInt8),(49:UInt8),(70:UInt8),(0:UInt8),(4:UInt8),(0:UInt8),(8:UInt8),(1:UInt8),(0:UInt8),(68:UInt8),(0:UInt8),(1:UInt8),(129:UInt8),(0:UInt8)] (r:=.byte) (hr:=(fun _=>Uv _ _ _ _ _ _ _ _ _ _ _ _ _ _ _ _ _)) (Bw 16) sf (.c1 Z (.c1 Z (.c1 Z (.c1 Z (.c1 Z (.c1 Z (.c1 Z (.c1 Z (.c1 Z (.c1 Z (.c1 Z (.c1 Z (.c1 Z (.c1 Z (.c1 Z (.c1 Z .nil)))))))))))))))) fun v9 w9 vi it qj sg=>A4 1 Z<|Av<|Ah (Az 1 Z HQ.e it Z)<|Aw 1 Z<|Ax h fun de qk h=>?_
 have dt:=dt.mono (Ab (qf.trans (qg.trans (qh.trans (qi.trans qj)))));refine Bh it (KY (a0:=x3.1) _ _ (Al it) (hU.mono  Ai) dt sg qk) ?_;rintro _ vj ⟨hs,ht,hu,rfl,m6,m7,m8⟩ km ql pn;have dw:=m6.mono (B8 it km);have dx:=m7.mono (B8 it km);have dy:=m8.mono (B8 it km);refine Aw 3 Z<|AG Bg.e Z ql fun vk da qm hv _=>AG Bt.e Z qm fun vl db qn hw _=>Ar 1 Z qn Z (a:=(Be Z (Be Z (Be dw.one (Be dx.one (Be dy.one Gr)))))) fun vm qo hx=>Ar 0 Z qo Z fun vn kn hy=>Am ?_;have df:=kn.rG H;refine Av<|Ah (Az 1 Z Bg.e kn Z)<|Br [0,0,1,0] (r:=(.int .i64)) (hr:=(fun _=>SK _ _ _ _ _)) (Bw 4) kn (.c1 Z (.c1 Z (.c1 Z (.c1 Z .nil)))) fun vo vp su ih po qp=>Ax h fun aa qq h=>?_;have dw:=dw.mono (Ab (hv.trans (hw.trans (hx.trans hy))));have dx:=dx.mono (Ab (hv.trans (hw.trans (hx.trans hy))));have dy:=dy.mono (Ab (hv.trans (hw.trans (hx.trans hy))))
 have df:=df.trans (Ab po);refine Bh ih (Cn _ _ (Al ih) de.1 (dw.mono df) (dx.mono df) (dy.mono df) qp qq) ?_;rintro _ vq ⟨a2,a3,a4,rfl,m9,na,nb⟩ ko qr pp;have fs:=m9.mono (B8 ih ko);have ft:=na.mono (B8 ih ko);have fu:=nb.mono (B8 ih ko);refine Aw 3 Z<|AG Bg.e Z qr fun vr dg qs hz _=>AG Bt.e Z qs fun vs dh qt h0 _=>Ar 1 Z qt Z (a:=(Be Z (Be Z (Be fs.one (Be ft.one (Be fu.one Gr)))))) fun vt qu h1=>Ar 0 Z qu Z fun vu dm h2=>Am ?_
 refine Bs Unit (fun(_:Unit)=>[(0,hn),(3,(Ze b5)),(6,(Ze da)),(7,(Ze db))]) (fun(_:Unit) wr=>DK w [.box dh [No aa.2.1,No aa.2.2] 27,.box dg [No aa.1.f.1,No aa.1.f.2.1,a2,a3,a4] 34,.box db [No de.2.1,No de.2.2] 27,.box da [No de.1.f.1,No de.1.f.2.1,hs,ht,hu] 34,.box b6 [No x3.2.1,No x3.2.2] 27,.box b5 [bj] 25] wr fun Oz=>AD .byte (gz H w wr Oz) a2 (aa.1.f.2.2.1)/\AD .st (gz H w wr Oz) a3 (aa.1.f.2.2.2.1)/\AD .tree (gz H w wr Oz) a4 (aa.1.f.2.2.2.2)/\AD .byte (gz H w wr Oz) hs (de.1.f.2.2.1)/\AD .st (gz H w wr Oz) ht (de.1.f.2.2.2.1)/\AD .tree (gz H w wr Oz) hu (de.1.f.2.2.2.2)/\AD ZR (gz H w wr Oz) bj (x3.1)/\(FA a0 x3)=some r) ?_ ?_
 ·have fj:=dm.rG H;refine Av<|Ah (Af Z Zl Z B6.e)<|Ah (Ag 4 Z dm Z)<|Aw 2 Z<|FG 40 h ?_ ?_<;>intro fk h
  ·iterate 3 refine Ac fk ?_
   refine Ah (Aj fk Z)<|Aw 1 Z ?_
   iterate 3 refine Ac Z ?_
   refine Ah (Aj Z Z)<|Aw 1 Z ?_
   iterate 3 refine Ac Z ?_
   refine Ah (Aj Z Z)<|Am<|Fb<|AI 1 Z<|Ay<|BC ?_
   cases h
   refine Ak Z ⟨dm.ext,Z⟩
  refine Aa fk<|Ah (Af Z Zl Z B6.e)<|Aa fk<|Ah (Ag 2 Z dm Z)<|Aa fk<|Ah (Ad Z)<|Ah (An fk Z)<|Aw 1 Z<|FG 45 h ?_ ?_<;>intro fl h
  ·iterate 3 refine Ac fl ?_
   refine Ah (Aj fl Z)<|Aw 1 Z ?_
   iterate 3 refine Ac Z ?_
   refine Ah (Aj Z Z)<|Am<|Fb<|AI 1 Z<|Ay<|BC ?_
   cases h
   refine Ak Z ⟨dm.ext,Z⟩
  refine Aa fl<|Ah (Af Z Zl Z B6.e)<|Aa fl<|Ah (Ag 0 Z dm Z)<|Aa fl<|Ah (Ad Z)<|Ah (An fl Z)<|Aw 1 Z<|FG 50 h ?_ ?_<;>intro fm h
  ·iterate 3 refine Ac fm ?_
   refine Ah (Aj fm Z)<|Am<|Fb<|AI 1 Z<|Ay<|BC ?_
   cases h
   refine Ak Z ⟨dm.ext,Z⟩
  refine Aa fm<|Ah (Af Z Z2 Z B6.e)<|Aa fm<|Ah (Ag 1 Z dm Z)<|Aa fm<|Ah (Ad Z)<|Ah (An fm Z)<|Am<|DI h ?_ ?_<;>intro qv h
  ·refine AI 1 Z<|Ay<|BC ?_
   cases h
   refine Ak Z ⟨dm.ext,Z⟩
  refine A5 ?_;have dt:=dt.mono (Ab (pn.trans (hv.trans (hw.trans (hx.trans hy)))));have df:=df.trans (Ab (pp.trans (hz.trans (h0.trans (h1.trans h2)))));have fs:=fs.mono (Ab (hz.trans (h0.trans (h1.trans h2))));have ft:=ft.mono (Ab (hz.trans (h0.trans (h1.trans h2))));have fu:=fu.mono (Ab (hz.trans (h0.trans (h1.trans h2))));refine A7 () ⟨dm,(fs.mono fj),(ft.mono fj),(fu.mono fj),((dw.mono df).mono fj),((dx.mono df).mono fj),((dy.mono df).mono fj),((dt.mono df).mono fj),h⟩
 rintro _ sv ⟨ho,nc,nd,nf,ng,nh,ni,nj,h⟩;have du:=ho.rG H;refine BN 1 Z<|Ax h fun ad qw h=>Bh ho (R7 _ _ (Al ho) (iu.mono  Ai) qw) ?_;rintro _ vv ⟨a8,a9,ba,so,rfl,nk,nl,nm,sh⟩ kp qx pq;have fv:=nk.Cu hH ho kp;have fw:=nl.mono (B8 ho kp);have fx:=nm.mono (B8 ho kp);refine Aw 4 Z<|AG Bg.e Z qx fun vw dc qy h3 _=>AG Bt.e Z qy fun vx dj qz h4 _=>Ar 1 Z qz Z (a:=(Be Z (Be Z (Be fv.one (Be fw.one (Be fx.one Gr)))))) fun vy q0 h5=>Aw 1 Z<|Ar 0 Z q0 Z fun vz ii h6=>Am ?_
 refine Bs Unit (fun(_:Unit)=>[(0,hn),(3,(Ze b5)),(6,(Ze da)),(7,(Ze db)),(10,(Ze dc))]) (fun(_:Unit) wr=>DK w [.box dj [No ad.2.2.1,No ad.2.2.2] 27,.box dc [No ad.1.f.1,No ad.1.f.2.1,a8,a9,ba] 34,.box dh [No aa.2.1,No aa.2.2] 27,.box dg [No aa.1.f.1,No aa.1.f.2.1,a2,a3,a4] 34,.box db [No de.2.1,No de.2.2] 27,.box da [No de.1.f.1,No de.1.f.2.1,hs,ht,hu] 34,.box b6 [No x3.2.1,No x3.2.2] 27,.box b5 [bj] 25] wr fun Oz=>AD .byte (gz H w wr Oz) a8 (ad.1.f.2.2.1)/\AD .st (gz H w wr Oz) a9 (ad.1.f.2.2.2.1)/\AD .tree (gz H w wr Oz) ba (ad.1.f.2.2.2.2)/\AD .byte (gz H w wr Oz) a2 (aa.1.f.2.2.1)/\AD .st (gz H w wr Oz) a3 (aa.1.f.2.2.2.1)/\AD .tree (gz H w wr Oz) a4 (aa.1.f.2.2.2.2)/\AD .byte (gz H w wr Oz) hs (de.1.f.2.2.1)/\AD .st (gz H w wr Oz) ht (de.1.f.2.2.2.1)/\AD .tree (gz H w wr Oz) hu (de.1.f.2.2.2.2)/\AD ZR (gz H w wr Oz) bj (x3.1)/\(F9 a0 x3 ad)=some r) ?_ ?_
 ·have dn:=ii.rG H;refine Av<|Ah (Af Z Zl Z B6.e)<|Ah (Ag 0 Z ii Z)<|Aw 2 Z<|FG 64 h ?_ ?_<;>intro fn h
  ·iterate 3 refine Ac fn ?_
   refine Ah (Aj fn Z)<|Am<|Fb<|AI 1 Z<|Ay<|BC ?_
   cases h
   refine Ak Z ⟨ii.ext,Z⟩
  refine Aa fn<|Ah (Ad Z)<|Aa fn<|Ah (AX iu)<|Aa fn<|Ah (Ad Z)<|Ah (An fn Z)<|Am<|AY h ?_ ?_<;>intro q1 h
  ·refine AI 1 Z<|Ay<|BC ?_
   cases h
   refine Ak Z ⟨ii.ext,Z⟩
  refine A5 ?_;have du:=du.trans (Ab (pq.trans (h3.trans (h4.trans (h5.trans h6)))));have fv:=fv.mono (Ab (h3.trans (h4.trans (h5.trans h6))));have fw:=fw.mono (Ab (h3.trans (h4.trans (h5.trans h6))));have fx:=fx.mono (Ab (h3.trans (h4.trans (h5.trans h6))));refine A7 () ⟨ii,(fv.mono dn),(fw.mono dn),(fx.mono dn),((nc.mono du).mono dn),((nd.mono du).mono dn),((nf.mono du).mono dn),((ng.mono du).mono dn),((nh.mono du).mono dn),((ni.mono du).mono dn),((nj.mono du).mono dn),h⟩
 rintro _ sw ⟨fo,an,ao,al,ap,aq,ar,si,sj,sk,ak,h⟩;have d:=fo.rG H;refine Av<|Ah (Az 7 Z HQ.e fo Z)<|Aw 1 Z<|Ax h fun u q2 h=>Bh fo (KY (a0:=x3.1) _ _ (Al fo) (hU.mono  Ai) (ak.mono d) (iu.mono  Ai) q2) ?_;rintro _ v0 ⟨bk,bl,bm,rfl,nn,no,np⟩ kq q3 pr;have k:=nn.mono (B8 fo kq);have m:=no.mono (B8 fo kq);have o:=np.mono (B8 fo kq);refine Aw 3 Z<|Ar 5 Z q3 Z (a:=(Be Z (Be Z (Be k.one (Be m.one (Be o.one Gr)))))) fun v1 q4 h7=>Ar 4 Z q4 Z fun v2 hq h8=>Am ?_;have b:=hq.rG H;refine Av<|Ah (Az 7 Z HQ.e hq Z)<|Ah (Az 5 Z Bg.e hq Z)<|Ax h fun a7 q5 h=>?_;have d:=d.trans (Ab (pr.trans (h7.trans h8)));have k:=k.mono (Ab (h7.trans h8));have m:=m.mono (Ab (h7.trans h8));have o:=o.mono (Ab (h7.trans h8))
 refine Bh hq (NL (a0:=x3.1) (a1:=u.1) _ _ (Al hq) (hU.mono  Ai) ((ak.mono d).mono b) (k.mono b) (m.mono b) (o.mono b) q5) ?_;rintro _ v3 ⟨ks,rfl,nq⟩ q6 q7 ps;have e:=nq.Cu hH hq q6;refine Aw 3 Z<|AG Bt.e Z q7 fun v4 dp q8 ax _=>Aw 1 Z<|Ar 0 Z q8 Z fun v5 iv ay=>Am<|Av<|Ah (Az 6 Z Bg.e iv Z)<|Ax h fun bh q9 h=>?_;have b:=b.trans (Ab (ps.trans (ax.trans ay)));refine Bh iv (PY (a0:=u.1) _ _ (Al iv) (k.mono b) (m.mono b) (o.mono b) q9) ?_;rintro _ v6 ⟨sp,rfl,nr⟩ ra rb az;have aw:=nr.Cu hH iv ra;refine Aw 3 Z<|AG Bt.e Z rb fun v7 dq rc au _=>Aw 1 Z<|Ar 0 Z rc Z fun v8 di av=>Am<|AN<|Av<|Ah (Af Z Zl Z B6.e)<|Ah (Ag 6 Z di Z)<|Aw 2 Z<|FG 89 h ?_ ?_<;>intro fp h
 ·iterate 3 refine Ac fp ?_
  refine Ah (Aj fp Z)<|Aw 1 Z ?_
  iterate 3 refine Ac Z ?_
  refine Ah (Aj Z Z)<|Aw 1 Z ?_
  iterate 3 refine Ac Z ?_
  refine Ah (Aj Z Z)<|Aw 1 Z ?_
  iterate 4 refine Ac Z ?_
  refine Ah (Aj Z Z)<|Am<|Fb<|AI 1 Z<|Ay<|AE ?_
  cases h
  refine Ak Z ⟨di.ext,Z⟩
 refine Aa fp<|Ah (Af Z Zl Z B6.e)<|Aa fp<|Ah (Ag 1 Z di Z)<|Aa fp<|Ah (Ad Z)<|Ah (An fp Z)<|Aw 1 Z<|FG 94 h ?_ ?_<;>intro fq h
 ·iterate 3 refine Ac fq ?_
  refine Ah (Aj fq Z)<|Aw 1 Z ?_
  iterate 3 refine Ac Z ?_
  refine Ah (Aj Z Z)<|Aw 1 Z ?_
  iterate 4 refine Ac Z ?_
  refine Ah (Aj Z Z)<|Am<|Fb<|AI 1 Z<|Ay<|AE ?_
  cases h
  refine Ak Z ⟨di.ext,Z⟩
 refine Aa fq<|Ah (Af Z Zl Z B6.e)<|Aa fq<|Ah (Ag 0 Z di Z)<|Aa fq<|Ah (Ad Z)<|Ah (An fq Z)<|Aw 1 Z<|FG 99 h ?_ ?_<;>intro fr h
 ·iterate 3 refine Ac fr ?_
  refine Ah (Aj fr Z)<|Aw 1 Z ?_
  iterate 4 refine Ac Z ?_
  refine Ah (Aj Z Z)<|Am<|Fb<|AI 1 Z<|Ay<|AE ?_
  cases h
  refine Ak Z ⟨di.ext,Z⟩
 refine Aa fr<|Ah (Ad Z)<|Aa fr ?_;have aw:=aw.mono (Ab (au.trans av));refine Ah (AX aw)<|Aa fr<|Ah (Ad Z)<|Ah (An fr Z)<|Aw 1 Z<|FG 104 h ?_ ?_<;>intro dk h
 ·iterate 4 refine Ac dk ?_
  refine Ah (Aj dk Z)<|Am<|Fb<|AI 1 Z<|Ay<|AE ?_
  cases h
  refine Ak Z ⟨di.ext,Z⟩
 refine Aa dk<|Ah (Af Z Z2 Z Hh.e)<|Aa dk<|Ah (Ag 3 Z di Z)<|Aa dk ?_;have b:=b.trans (Ab (az.trans (au.trans av)));refine Ah (AX ((al.mono d).mono b))<|Aa dk<|Ah (Ad Z)<|Ah (An dk Z)<|Am<|DI h ?_ ?_<;>intro pt h
 ·refine AI 1 Z<|Ay<|AE ?_
  cases h
  refine Ak Z ⟨di.ext,Z⟩
 refine A5<|A3 ?_
 refine Bs (Int×Int×Zg×(List Zg)×(List Pv)×Int×Int×Nat×Value×Value×Value×Nat) (fun⟨iw,ix,iy,iz,i0,i1,i2,bjb290,h9,ia,ib,bjb296⟩=>[(0,hn),(10,(Ze dc)),(13,ks),(17,(Ze bjb290)),(18,(Ze bjb296))]) (fun⟨iw,ix,iy,iz,i0,i1,i2,bjb290,h9,ia,ib,bjb296⟩ wr=>DK w [.box bjb296 [No i1,No i2] 27,.box bjb290 [No iw,No ix,h9,ia,ib] 34,.box dq [No bh.2.1,No bh.2.2] 27,.box dp [No a7.2.1,No a7.2.2] 27,.box dj [No ad.2.2.1,No ad.2.2.2] 27,.box dc [No ad.1.f.1,No ad.1.f.2.1,a8,a9,ba] 34,.box dh [No aa.2.1,No aa.2.2] 27,.box dg [No aa.1.f.1,No aa.1.f.2.1,a2,a3,a4] 34,.box db [No u.2.1,No u.2.2] 27,.box da [No u.1.f.1,No u.1.f.2.1,bk,bl,bm] 34,.box b6 [No x3.2.1,No x3.2.2] 27,.box b5 [bj] 25] wr fun Oz=>AD .byte (gz H w wr Oz) ks (a7.1)/\AD .byte (gz H w wr Oz) h9 iy/\AD .st (gz H w wr Oz) ia iz/\AD .tree (gz H w wr Oz) ib i0/\AD .byte (gz H w wr Oz) a8 (ad.1.f.2.2.1)/\AD .st (gz H w wr Oz) a9 (ad.1.f.2.2.2.1)/\AD .tree (gz H w wr Oz) ba (ad.1.f.2.2.2.2)/\AD .byte (gz H w wr Oz) a2 (aa.1.f.2.2.1)/\AD .st (gz H w wr Oz) a3 (aa.1.f.2.2.2.1)/\AD .tree (gz H w wr Oz) a4 (aa.1.f.2.2.2.2)/\AD .byte (gz H w wr Oz) bk (u.1.f.2.2.1)/\AD .st (gz H w wr Oz) bl (u.1.f.2.2.2.1)/\AD .tree (gz H w wr Oz) bm (u.1.f.2.2.2.2)/\AD ZR (gz H w wr Oz) bj (x3.1)/\(F8 a0 ad a7) iw ix iy iz i0 i1 i2=some r) ?_ ?_
 ·refine Eg (FP ER) (fun z0 z=>Le (gz H w z0 [.box dq [No bh.2.1,No bh.2.2] 27,.box dp [No a7.2.1,No a7.2.2] 27,.box dj [No ad.2.2.1,No ad.2.2.2] 27,.box dc [No ad.1.f.1,No ad.1.f.2.1,a8,a9,ba] 34,.box dh [No aa.2.1,No aa.2.2] 27,.box dg [No aa.1.f.1,No aa.1.f.2.1,a2,a3,a4] 34,.box db [No u.2.1,No u.2.2] 27,.box da [No u.1.f.1,No u.1.f.2.1,bk,bl,bm] 34,.box b6 [No x3.2.1,No x3.2.2] 27,.box b5 [bj] 25]) (hp z)/\z.heap[dq]? = some (.cells [No bh.2.1,No bh.2.2].toArray 27 (0,0))/\z.heap[dp]? = some (.cells [No a7.2.1,No a7.2.2].toArray 27 (0,0))/\z.heap[dj]? = some (.cells [No ad.2.2.1,No ad.2.2.2].toArray 27 (0,0))/\z.heap[dc]? = some (.cells [No ad.1.f.1,No ad.1.f.2.1,a8,a9,ba].toArray 34 (0,0))/\z.heap[dh]? = some (.cells [No aa.2.1,No aa.2.2].toArray 27 (0,0))/\z.heap[dg]? = some (.cells [No aa.1.f.1,No aa.1.f.2.1,a2,a3,a4].toArray 34 (0,0))/\z.heap[db]? = some (.cells [No u.2.1,No u.2.2].toArray 27 (0,0))/\z.heap[da]? = some (.cells [No u.1.f.1,No u.1.f.2.1,bk,bl,bm].toArray 34 (0,0))/\z.heap[b6]? = some (.cells [No x3.2.1,No x3.2.2].toArray 27 (0,0))/\z.heap[b5]? = some (.cells [bj].toArray 25 (0,0))) mixed Z (fun g sy kt=>?_)
  have t:=di.call kt;have p:=Ba di kt;have a:=t.rG H;refine Gt ⟨a.trans (Al t),t.at (i:=0) Z,t.at (i:=1) Z,t.at (i:=2) Z,t.at (i:=3) Z,t.at (i:=4) Z,t.at (i:=5) Z,t.at (i:=6) Z,t.at (i:=7) Z,t.at (i:=8) Z,t.at (i:=9) Z⟩ fun kI304=>Aq 0 g kI304 Z (fun _ hI=>IV hI.2.2.2.2.2.2.2.2.1) Z<|Aq 1 g kI304 Z (fun _ _=>Ad Z) Z<|XB 2 8 9 Z Z Z ?_ ?_ ?_
  ·refine A8 h fun bq h=>?_;have aw:=aw.mono (Ab p);refine Bb (aw.mono a) ((0:Int).toNat) (Dw bq) (AK bq) ?_;rintro sz _ ⟨e305v0,rfl,e305h0⟩ bo;refine As ⟨a.trans (Al t),t.at (i:=0) Z,t.at (i:=1) Z,t.at (i:=2) Z,t.at (i:=3) Z,t.at (i:=4) Z,t.at (i:=5) Z,t.at (i:=6) Z,t.at (i:=7) Z,t.at (i:=8) Z,t.at (i:=9) Z⟩ fun kI307=>XB 3 8 9 Z Z Z ?_ ?_ ?_
   ·refine Ah (AV bo (Al t))<|As ⟨a.trans (Al t),t.at (i:=0) Z,t.at (i:=1) Z,t.at (i:=2) Z,t.at (i:=3) Z,t.at (i:=4) Z,t.at (i:=5) Z,t.at (i:=6) Z,t.at (i:=7) Z,t.at (i:=8) Z,t.at (i:=9) Z⟩ fun kI308=>XB 4 8 9 Z Z Z ?_ ?_ ?_
    ·refine Ax h fun c am h=>?_;have b:=b.trans (Ab p);refine Bh t (Cn _ _ (Al t) u.1 ((k.mono b).mono a) ((m.mono b).mono a) ((o.mono b).mono a) e305h0 am) ?_;rintro _ s0 ⟨ij,ik,il,rfl,li,lj,lk⟩ i3 bp ns;have c7:=li.mono (B8 t i3);have c8:=lj.mono (B8 t i3);have c9:=lk.mono (B8 t i3);have a:=a.trans (Ab ns);refine As ⟨a.trans (Al bp),bp.at (i:=0) Z,bp.at (i:=1) Z,bp.at (i:=2) Z,bp.at (i:=3) Z,bp.at (i:=4) Z,bp.at (i:=5) Z,bp.at (i:=6) Z,bp.at (i:=7) Z,bp.at (i:=8) Z,bp.at (i:=9) Z⟩ fun kI311=>Aq 5 g kI311 Z (fun _ _=>Ad Z) Z<|Aq 6 g kI311 Z (fun _ _=>Ad Z) Z<|Aq 7 g kI311 Z (fun _ _=>Ad Z) Z<|Ls 8 9 Z Z ?_ ?_
     ·refine AG Bg.e Z bp ?_;intro s1 rd br fy _;have a:=a.trans (Ab fy);refine As ⟨a.trans (Al br),br.at (i:=1) Z,br.at (i:=2) Z,br.at (i:=3) Z,br.at (i:=4) Z,br.at (i:=5) Z,br.at (i:=6) Z,br.at (i:=7) Z,br.at (i:=8) Z,br.at (i:=9) Z,br.at (i:=10) Z⟩ fun kI313=>BP 9 Z<|AG Bt.e Z br ?_;intro s2 re bs fz _;have a:=a.trans (Ab fz);refine As ⟨a.trans (Al bs),bs.at (i:=2) Z,bs.at (i:=3) Z,bs.at (i:=4) Z,bs.at (i:=5) Z,bs.at (i:=6) Z,bs.at (i:=7) Z,bs.at (i:=8) Z,bs.at (i:=9) Z,bs.at (i:=10) Z,bs.at (i:=11) Z⟩ fun kI315=>BP 10 Z<|Ar 1 Z bs Z (a:=(Be Z (Be Z (Be c7.one (Be c8.one (Be c9.one Gr)))))) ?_;intro s3 bt f0;have a:=a.trans (Ab f0);refine As ⟨a.trans (Al bt),bt.at (i:=2) Z,bt.at (i:=3) Z,bt.at (i:=4) Z,bt.at (i:=5) Z,bt.at (i:=6) Z,bt.at (i:=7) Z,bt.at (i:=8) Z,bt.at (i:=9) Z,bt.at (i:=10) Z,bt.at (i:=11) Z⟩ fun kI317=>BP 11 Z<|Ar 0 Z bt Z ?_
      intro s4 pu f1;refine B4<|Bz ?_;have e:=e.mono (Ab (ax.trans (ay.trans (az.trans (au.trans (av.trans p))))));have c7:=c7.mono (Ab (fy.trans (fz.trans (f0.trans f1))));have c8:=c8.mono (Ab (fy.trans (fz.trans (f0.trans f1))));have c9:=c9.mono (Ab (fy.trans (fz.trans (f0.trans f1))));have a:=a.trans (Ab f1);refine A7 (c.1.f.1,c.1.f.2.1,c.1.f.2.2.1,c.1.f.2.2.2.1,c.1.f.2.2.2.2,c.2.1,c.2.2,rd,ij,ik,il,re) ⟨pu,(e.mono a),c7,c8,c9,(((an.mono d).mono b).mono a),(((ao.mono d).mono b).mono a),(((al.mono d).mono b).mono a),(((ap.mono d).mono b).mono a),(((aq.mono d).mono b).mono a),(((ar.mono d).mono b).mono a),((k.mono b).mono a),((m.mono b).mono a),((o.mono b).mono a),(((ak.mono d).mono b).mono a),h⟩
     refine AG Bt.e Z bp ?_;intro s5 nt bu f2 _;have a:=a.trans (Ab f2);refine As ⟨a.trans (Al bu),bu.at (i:=1) Z,bu.at (i:=2) Z,bu.at (i:=3) Z,bu.at (i:=4) Z,bu.at (i:=5) Z,bu.at (i:=6) Z,bu.at (i:=7) Z,bu.at (i:=8) Z,bu.at (i:=9) Z,bu.at (i:=10) Z⟩ fun kI320=>BP 8 Z<|AG Bg.e Z bu ?_;intro s6 nu bv f3 _;have a:=a.trans (Ab f3);refine As ⟨a.trans (Al bv),bv.at (i:=2) Z,bv.at (i:=3) Z,bv.at (i:=4) Z,bv.at (i:=5) Z,bv.at (i:=6) Z,bv.at (i:=7) Z,bv.at (i:=8) Z,bv.at (i:=9) Z,bv.at (i:=10) Z,bv.at (i:=11) Z⟩ fun kI322=>BP 10 Z<|Ar 0 Z bv Z (a:=(Be Z (Be Z (Be c7.one (Be c8.one (Be c9.one Gr)))))) ?_;intro s7 bw f4;have a:=a.trans (Ab f4);refine As ⟨a.trans (Al bw),bw.at (i:=2) Z,bw.at (i:=3) Z,bw.at (i:=4) Z,bw.at (i:=5) Z,bw.at (i:=6) Z,bw.at (i:=7) Z,bw.at (i:=8) Z,bw.at (i:=9) Z,bw.at (i:=10) Z,bw.at (i:=11) Z⟩ fun kI324=>BP 11 Z<|Ar 1 Z bw Z ?_
     intro rf ku f5;refine B4<|Bz ?_;have kv:AZ w [.box nt [No c.2.1,No c.2.2] 27,.box nu [No c.1.f.1,No c.1.f.2.1,ij,ik,il] 34,.box dq [No bh.2.1,No bh.2.2] 27,.box dp [No a7.2.1,No a7.2.2] 27,.box dj [No ad.2.2.1,No ad.2.2.2] 27,.box dc [No ad.1.f.1,No ad.1.f.2.1,a8,a9,ba] 34,.box dh [No aa.2.1,No aa.2.2] 27,.box dg [No aa.1.f.1,No aa.1.f.2.1,a2,a3,a4] 34,.box db [No u.2.1,No u.2.2] 27,.box da [No u.1.f.1,No u.1.f.2.1,bk,bl,bm] 34,.box b6 [No x3.2.1,No x3.2.2] 27,.box b5 [bj] 25] rf:=ku.Bo [1] Z;have f6:=AF [1] ku kv Z;have e:=e.mono (Ab (ax.trans (ay.trans (az.trans (au.trans (av.trans p))))));have c7:=c7.mono (Ab (f2.trans (f3.trans (f4.trans (f5.trans f6)))));have c8:=c8.mono (Ab (f2.trans (f3.trans (f4.trans (f5.trans f6)))));have c9:=c9.mono (Ab (f2.trans (f3.trans (f4.trans (f5.trans f6)))));have a:=a.trans (Ab (f5.trans f6))
     refine A7 (c.1.f.1,c.1.f.2.1,c.1.f.2.2.1,c.1.f.2.2.2.1,c.1.f.2.2.2.2,c.2.1,c.2.2,nu,ij,ik,il,nt) ⟨kv,(e.mono a),c7,c8,c9,(((an.mono d).mono b).mono a),(((ao.mono d).mono b).mono a),(((al.mono d).mono b).mono a),(((ap.mono d).mono b).mono a),(((aq.mono d).mono b).mono a),(((ar.mono d).mono b).mono a),((k.mono b).mono a),((m.mono b).mono a),((o.mono b).mono a),(((ak.mono d).mono b).mono a),h⟩
    ·refine Ax h fun c am h=>AG Bg.e Z t ?_;intro s8 nv a5 im _;have a:=a.trans (Ab im);refine As ⟨a.trans (Al a5),a5.at (i:=1) Z,a5.at (i:=2) Z,a5.at (i:=3) Z,a5.at (i:=4) Z,a5.at (i:=5) Z,a5.at (i:=6) Z,a5.at (i:=7) Z,a5.at (i:=8) Z,a5.at (i:=9) Z,a5.at (i:=10) Z⟩ fun kI328=>Ls 4 9 Z Z ?_ ?_
     ·have b:=b.trans (Ab p);have e305h0:=e305h0.mono (Ab im);refine Bh a5 (Cn _ _ (Al a5) u.1 ((k.mono b).mono a) ((m.mono b).mono a) ((o.mono b).mono a) e305h0 am) ?_;rintro _ s9 ⟨nw,nx,ny,rfl,ll,lm,ln⟩ i4 bx nz;have d0:=ll.mono (B8 a5 i4);have d1:=lm.mono (B8 a5 i4);have d2:=ln.mono (B8 a5 i4);have a:=a.trans (Ab nz);refine As ⟨a.trans (Al bx),bx.at (i:=1) Z,bx.at (i:=2) Z,bx.at (i:=3) Z,bx.at (i:=4) Z,bx.at (i:=5) Z,bx.at (i:=6) Z,bx.at (i:=7) Z,bx.at (i:=8) Z,bx.at (i:=9) Z,bx.at (i:=10) Z⟩ fun kI330=>Aq 5 g kI330 Z (fun _ _=>Ad Z) Z<|Aq 6 g kI330 Z (fun _ _=>Ad Z) Z<|Aq 7 g kI330 Z (fun _ _=>Ad Z) Z<|BP 9 Z<|AG Bt.e Z bx ?_;intro ta rg bz f7 _;have a:=a.trans (Ab f7)
      refine As ⟨a.trans (Al bz),bz.at (i:=2) Z,bz.at (i:=3) Z,bz.at (i:=4) Z,bz.at (i:=5) Z,bz.at (i:=6) Z,bz.at (i:=7) Z,bz.at (i:=8) Z,bz.at (i:=9) Z,bz.at (i:=10) Z,bz.at (i:=11) Z⟩ fun kI332=>BP 10 Z<|Ar 1 Z bz Z (a:=(Be Z (Be Z (Be d0.one (Be d1.one (Be d2.one Gr)))))) ?_;intro tb b0 f8;have a:=a.trans (Ab f8);refine As ⟨a.trans (Al b0),b0.at (i:=2) Z,b0.at (i:=3) Z,b0.at (i:=4) Z,b0.at (i:=5) Z,b0.at (i:=6) Z,b0.at (i:=7) Z,b0.at (i:=8) Z,b0.at (i:=9) Z,b0.at (i:=10) Z,b0.at (i:=11) Z⟩ fun kI334=>BP 11 Z<|Ar 0 Z b0 Z fun tc pv f9=>B4<|Bz ?_;have e:=e.mono (Ab (ax.trans (ay.trans (az.trans (au.trans (av.trans p))))));have d0:=d0.mono (Ab (f7.trans (f8.trans f9)));have d1:=d1.mono (Ab (f7.trans (f8.trans f9)));have d2:=d2.mono (Ab (f7.trans (f8.trans f9)));have a:=a.trans (Ab f9)
      refine A7 (c.1.f.1,c.1.f.2.1,c.1.f.2.2.1,c.1.f.2.2.2.1,c.1.f.2.2.2.2,c.2.1,c.2.2,nv,nw,nx,ny,rg) ⟨pv,(e.mono a),d0,d1,d2,(((an.mono d).mono b).mono a),(((ao.mono d).mono b).mono a),(((al.mono d).mono b).mono a),(((ap.mono d).mono b).mono a),(((aq.mono d).mono b).mono a),(((ar.mono d).mono b).mono a),((k.mono b).mono a),((m.mono b).mono a),((o.mono b).mono a),(((ak.mono d).mono b).mono a),h⟩
     refine AG Bt.e Z a5 ?_;intro td rh bb jp _;have a:=a.trans (Ab jp);refine As ⟨a.trans (Al bb),bb.at (i:=2) Z,bb.at (i:=3) Z,bb.at (i:=4) Z,bb.at (i:=5) Z,bb.at (i:=6) Z,bb.at (i:=7) Z,bb.at (i:=8) Z,bb.at (i:=9) Z,bb.at (i:=10) Z,bb.at (i:=11) Z⟩ fun kI337=>BP 4 Z ?_;have b:=b.trans (Ab p);have e305h0:=e305h0.mono (Ab (im.trans jp));refine Bh bb (Cn _ _ (Al bb) u.1 ((k.mono b).mono a) ((m.mono b).mono a) ((o.mono b).mono a) e305h0 am) ?_;rintro _ te ⟨n0,n1,n2,rfl,lo,lp,lq⟩ i5 b1 n3;have d3:=lo.mono (B8 bb i5);have d4:=lp.mono (B8 bb i5);have d5:=lq.mono (B8 bb i5);have a:=a.trans (Ab n3);refine As ⟨a.trans (Al b1),b1.at (i:=2) Z,b1.at (i:=3) Z,b1.at (i:=4) Z,b1.at (i:=5) Z,b1.at (i:=6) Z,b1.at (i:=7) Z,b1.at (i:=8) Z,b1.at (i:=9) Z,b1.at (i:=10) Z,b1.at (i:=11) Z⟩ fun kI339=>Aq 5 g kI339 Z (fun _ _=>Ad Z) Z ?_
     refine Aq 6 g kI339 Z (fun _ _=>Ad Z) Z<|Aq 7 g kI339 Z (fun _ _=>Ad Z) Z<|BP 10 Z<|Ar 1 Z b1 Z (a:=(Be Z (Be Z (Be d3.one (Be d4.one (Be d5.one Gr)))))) ?_;intro tf b2 ga;have a:=a.trans (Ab ga);refine As ⟨a.trans (Al b2),b2.at (i:=2) Z,b2.at (i:=3) Z,b2.at (i:=4) Z,b2.at (i:=5) Z,b2.at (i:=6) Z,b2.at (i:=7) Z,b2.at (i:=8) Z,b2.at (i:=9) Z,b2.at (i:=10) Z,b2.at (i:=11) Z⟩ fun kI341=>BP 11 Z<|Ar 0 Z b2 Z fun tg pw gb=>B4<|Bz ?_;have e:=e.mono (Ab (ax.trans (ay.trans (az.trans (au.trans (av.trans p))))));have d3:=d3.mono (Ab (ga.trans gb));have d4:=d4.mono (Ab (ga.trans gb));have d5:=d5.mono (Ab (ga.trans gb));have a:=a.trans (Ab gb)
     refine A7 (c.1.f.1,c.1.f.2.1,c.1.f.2.2.1,c.1.f.2.2.2.1,c.1.f.2.2.2.2,c.2.1,c.2.2,nv,n0,n1,n2,rh) ⟨pw,(e.mono a),d3,d4,d5,(((an.mono d).mono b).mono a),(((ao.mono d).mono b).mono a),(((al.mono d).mono b).mono a),(((ap.mono d).mono b).mono a),(((aq.mono d).mono b).mono a),(((ar.mono d).mono b).mono a),((k.mono b).mono a),((m.mono b).mono a),((o.mono b).mono a),(((ak.mono d).mono b).mono a),h⟩
    refine Ax h fun c am h=>AG Bt.e Z t ?_;intro th i6 a6 io _;have a:=a.trans (Ab io);refine As ⟨a.trans (Al a6),a6.at (i:=1) Z,a6.at (i:=2) Z,a6.at (i:=3) Z,a6.at (i:=4) Z,a6.at (i:=5) Z,a6.at (i:=6) Z,a6.at (i:=7) Z,a6.at (i:=8) Z,a6.at (i:=9) Z,a6.at (i:=10) Z⟩ fun kI344=>Ls 4 8 Z Z ?_ ?_
    ·have b:=b.trans (Ab p);have e305h0:=e305h0.mono (Ab io);refine Bh a6 (Cn _ _ (Al a6) u.1 ((k.mono b).mono a) ((m.mono b).mono a) ((o.mono b).mono a) e305h0 am) ?_;rintro _ ti ⟨jq,jr,js,rfl,lr,ls,lt⟩ i7 b3 n4;have d6:=lr.mono (B8 a6 i7);have d7:=ls.mono (B8 a6 i7);have d8:=lt.mono (B8 a6 i7);have a:=a.trans (Ab n4);refine As ⟨a.trans (Al b3),b3.at (i:=1) Z,b3.at (i:=2) Z,b3.at (i:=3) Z,b3.at (i:=4) Z,b3.at (i:=5) Z,b3.at (i:=6) Z,b3.at (i:=7) Z,b3.at (i:=8) Z,b3.at (i:=9) Z,b3.at (i:=10) Z⟩ fun kI346=>Aq 5 g kI346 Z (fun _ _=>Ad Z) Z<|Aq 6 g kI346 Z (fun _ _=>Ad Z) Z<|Aq 7 g kI346 Z (fun _ _=>Ad Z) Z<|BP 8 Z<|AG Bg.e Z b3 ?_;intro tj n5 b4 gc _;have a:=a.trans (Ab gc)
     refine As ⟨a.trans (Al b4),b4.at (i:=2) Z,b4.at (i:=3) Z,b4.at (i:=4) Z,b4.at (i:=5) Z,b4.at (i:=6) Z,b4.at (i:=7) Z,b4.at (i:=8) Z,b4.at (i:=9) Z,b4.at (i:=10) Z,b4.at (i:=11) Z⟩ fun kI348=>BP 10 Z<|Ar 0 Z b4 Z (a:=(Be Z (Be Z (Be d6.one (Be d7.one (Be d8.one Gr)))))) ?_;intro tk b7 gd;have a:=a.trans (Ab gd);refine As ⟨a.trans (Al b7),b7.at (i:=2) Z,b7.at (i:=3) Z,b7.at (i:=4) Z,b7.at (i:=5) Z,b7.at (i:=6) Z,b7.at (i:=7) Z,b7.at (i:=8) Z,b7.at (i:=9) Z,b7.at (i:=10) Z,b7.at (i:=11) Z⟩ fun kI350=>BP 11 Z<|Ar 1 Z b7 Z fun ri kw ge=>B4<|Bz ?_
     have kx:AZ w [.box i6 [No c.2.1,No c.2.2] 27,.box n5 [No c.1.f.1,No c.1.f.2.1,jq,jr,js] 34,.box dq [No bh.2.1,No bh.2.2] 27,.box dp [No a7.2.1,No a7.2.2] 27,.box dj [No ad.2.2.1,No ad.2.2.2] 27,.box dc [No ad.1.f.1,No ad.1.f.2.1,a8,a9,ba] 34,.box dh [No aa.2.1,No aa.2.2] 27,.box dg [No aa.1.f.1,No aa.1.f.2.1,a2,a3,a4] 34,.box db [No u.2.1,No u.2.2] 27,.box da [No u.1.f.1,No u.1.f.2.1,bk,bl,bm] 34,.box b6 [No x3.2.1,No x3.2.2] 27,.box b5 [bj] 25] ri:=kw.Bo [1] Z;have gf:=AF [1] kw kx Z;have e:=e.mono (Ab (ax.trans (ay.trans (az.trans (au.trans (av.trans p))))));have d6:=d6.mono (Ab (gc.trans (gd.trans (ge.trans gf))));have d7:=d7.mono (Ab (gc.trans (gd.trans (ge.trans gf))));have d8:=d8.mono (Ab (gc.trans (gd.trans (ge.trans gf))));have a:=a.trans (Ab (ge.trans gf))
     refine A7 (c.1.f.1,c.1.f.2.1,c.1.f.2.2.1,c.1.f.2.2.2.1,c.1.f.2.2.2.2,c.2.1,c.2.2,n5,jq,jr,js,i6) ⟨kx,(e.mono a),d6,d7,d8,(((an.mono d).mono b).mono a),(((ao.mono d).mono b).mono a),(((al.mono d).mono b).mono a),(((ap.mono d).mono b).mono a),(((aq.mono d).mono b).mono a),(((ar.mono d).mono b).mono a),((k.mono b).mono a),((m.mono b).mono a),((o.mono b).mono a),(((ak.mono d).mono b).mono a),h⟩
    refine AG Bg.e Z a6 ?_;intro tl n6 bc jt _;have a:=a.trans (Ab jt);refine As ⟨a.trans (Al bc),bc.at (i:=2) Z,bc.at (i:=3) Z,bc.at (i:=4) Z,bc.at (i:=5) Z,bc.at (i:=6) Z,bc.at (i:=7) Z,bc.at (i:=8) Z,bc.at (i:=9) Z,bc.at (i:=10) Z,bc.at (i:=11) Z⟩ fun kI354=>BP 4 Z ?_;have b:=b.trans (Ab p);have e305h0:=e305h0.mono (Ab (io.trans jt));refine Bh bc (Cn _ _ (Al bc) u.1 ((k.mono b).mono a) ((m.mono b).mono a) ((o.mono b).mono a) e305h0 am) ?_;rintro _ tm ⟨ju,jv,jw,rfl,lu,lv,lw⟩ i8 b8 n7;have d9:=lu.mono (B8 bc i8);have ea:=lv.mono (B8 bc i8);have eb:=lw.mono (B8 bc i8);have a:=a.trans (Ab n7);refine As ⟨a.trans (Al b8),b8.at (i:=2) Z,b8.at (i:=3) Z,b8.at (i:=4) Z,b8.at (i:=5) Z,b8.at (i:=6) Z,b8.at (i:=7) Z,b8.at (i:=8) Z,b8.at (i:=9) Z,b8.at (i:=10) Z,b8.at (i:=11) Z⟩ fun kI356=>Aq 5 g kI356 Z (fun _ _=>Ad Z) Z ?_
    refine Aq 6 g kI356 Z (fun _ _=>Ad Z) Z<|Aq 7 g kI356 Z (fun _ _=>Ad Z) Z<|BP 10 Z<|Ar 0 Z b8 Z (a:=(Be Z (Be Z (Be d9.one (Be ea.one (Be eb.one Gr)))))) ?_;intro tn b9 gg;have a:=a.trans (Ab gg);refine As ⟨a.trans (Al b9),b9.at (i:=2) Z,b9.at (i:=3) Z,b9.at (i:=4) Z,b9.at (i:=5) Z,b9.at (i:=6) Z,b9.at (i:=7) Z,b9.at (i:=8) Z,b9.at (i:=9) Z,b9.at (i:=10) Z,b9.at (i:=11) Z⟩ fun kI358=>BP 11 Z<|Ar 1 Z b9 Z fun rj ky gh=>B4<|Bz ?_
    have kz:AZ w [.box i6 [No c.2.1,No c.2.2] 27,.box n6 [No c.1.f.1,No c.1.f.2.1,ju,jv,jw] 34,.box dq [No bh.2.1,No bh.2.2] 27,.box dp [No a7.2.1,No a7.2.2] 27,.box dj [No ad.2.2.1,No ad.2.2.2] 27,.box dc [No ad.1.f.1,No ad.1.f.2.1,a8,a9,ba] 34,.box dh [No aa.2.1,No aa.2.2] 27,.box dg [No aa.1.f.1,No aa.1.f.2.1,a2,a3,a4] 34,.box db [No u.2.1,No u.2.2] 27,.box da [No u.1.f.1,No u.1.f.2.1,bk,bl,bm] 34,.box b6 [No x3.2.1,No x3.2.2] 27,.box b5 [bj] 25] rj:=ky.Bo [1] Z;have gi:=AF [1] ky kz Z;have e:=e.mono (Ab (ax.trans (ay.trans (az.trans (au.trans (av.trans p))))));have d9:=d9.mono (Ab (gg.trans (gh.trans gi)));have ea:=ea.mono (Ab (gg.trans (gh.trans gi)));have eb:=eb.mono (Ab (gg.trans (gh.trans gi)));have a:=a.trans (Ab (gh.trans gi))
    refine A7 (c.1.f.1,c.1.f.2.1,c.1.f.2.2.1,c.1.f.2.2.2.1,c.1.f.2.2.2.2,c.2.1,c.2.2,n6,ju,jv,jw,i6) ⟨kz,(e.mono a),d9,ea,eb,(((an.mono d).mono b).mono a),(((ao.mono d).mono b).mono a),(((al.mono d).mono b).mono a),(((ap.mono d).mono b).mono a),(((aq.mono d).mono b).mono a),(((ar.mono d).mono b).mono a),((k.mono b).mono a),((m.mono b).mono a),((o.mono b).mono a),(((ak.mono d).mono b).mono a),h⟩
   ·refine Ax h fun c am h=>AG Bg.e Z t ?_;intro tp kr ae dr _;have a:=a.trans (Ab dr);refine As ⟨a.trans (Al ae),ae.at (i:=1) Z,ae.at (i:=2) Z,ae.at (i:=3) Z,ae.at (i:=4) Z,ae.at (i:=5) Z,ae.at (i:=6) Z,ae.at (i:=7) Z,ae.at (i:=8) Z,ae.at (i:=9) Z,ae.at (i:=10) Z⟩ fun kI362=>Ls 3 9 Z Z ?_ ?_
    ·have bo:=bo.mono (Ab dr);refine Ah (AV bo (Al ae))<|As ⟨a.trans (Al ae),ae.at (i:=1) Z,ae.at (i:=2) Z,ae.at (i:=3) Z,ae.at (i:=4) Z,ae.at (i:=5) Z,ae.at (i:=6) Z,ae.at (i:=7) Z,ae.at (i:=8) Z,ae.at (i:=9) Z,ae.at (i:=10) Z⟩ fun kI363=>Ls 4 9 Z Z ?_ ?_
     ·have b:=b.trans (Ab p);have e305h0:=e305h0.mono (Ab dr);refine Bh ae (Cn _ _ (Al ae) u.1 ((k.mono b).mono a) ((m.mono b).mono a) ((o.mono b).mono a) e305h0 am) ?_;rintro _ tq ⟨n8,n9,oa,rfl,lx,ly,lz⟩ i9 ca ob;have ec:=lx.mono (B8 ae i9);have ed:=ly.mono (B8 ae i9);have ee:=lz.mono (B8 ae i9);have a:=a.trans (Ab ob);refine As ⟨a.trans (Al ca),ca.at (i:=1) Z,ca.at (i:=2) Z,ca.at (i:=3) Z,ca.at (i:=4) Z,ca.at (i:=5) Z,ca.at (i:=6) Z,ca.at (i:=7) Z,ca.at (i:=8) Z,ca.at (i:=9) Z,ca.at (i:=10) Z⟩ fun kI365=>Aq 5 g kI365 Z (fun _ _=>Ad Z) Z<|Aq 6 g kI365 Z (fun _ _=>Ad Z) Z<|Aq 7 g kI365 Z (fun _ _=>Ad Z) Z<|BP 9 Z<|AG Bt.e Z ca ?_;intro tr rk cb gj _;have a:=a.trans (Ab gj)
      refine As ⟨a.trans (Al cb),cb.at (i:=2) Z,cb.at (i:=3) Z,cb.at (i:=4) Z,cb.at (i:=5) Z,cb.at (i:=6) Z,cb.at (i:=7) Z,cb.at (i:=8) Z,cb.at (i:=9) Z,cb.at (i:=10) Z,cb.at (i:=11) Z⟩ fun kI367=>BP 10 Z<|Ar 1 Z cb Z (a:=(Be Z (Be Z (Be ec.one (Be ed.one (Be ee.one Gr)))))) ?_;intro ts cc gk;have a:=a.trans (Ab gk);refine As ⟨a.trans (Al cc),cc.at (i:=2) Z,cc.at (i:=3) Z,cc.at (i:=4) Z,cc.at (i:=5) Z,cc.at (i:=6) Z,cc.at (i:=7) Z,cc.at (i:=8) Z,cc.at (i:=9) Z,cc.at (i:=10) Z,cc.at (i:=11) Z⟩ fun kI369=>BP 11 Z<|Ar 0 Z cc Z fun tt px gl=>B4<|Bz ?_;have e:=e.mono (Ab (ax.trans (ay.trans (az.trans (au.trans (av.trans p))))));have ec:=ec.mono (Ab (gj.trans (gk.trans gl)));have ed:=ed.mono (Ab (gj.trans (gk.trans gl)));have ee:=ee.mono (Ab (gj.trans (gk.trans gl)));have a:=a.trans (Ab gl)
      refine A7 (c.1.f.1,c.1.f.2.1,c.1.f.2.2.1,c.1.f.2.2.2.1,c.1.f.2.2.2.2,c.2.1,c.2.2,kr,n8,n9,oa,rk) ⟨px,(e.mono a),ec,ed,ee,(((an.mono d).mono b).mono a),(((ao.mono d).mono b).mono a),(((al.mono d).mono b).mono a),(((ap.mono d).mono b).mono a),(((aq.mono d).mono b).mono a),(((ar.mono d).mono b).mono a),((k.mono b).mono a),((m.mono b).mono a),((o.mono b).mono a),(((ak.mono d).mono b).mono a),h⟩
     refine AG Bt.e Z ae ?_;intro tu rl bd jx _;have a:=a.trans (Ab jx);refine As ⟨a.trans (Al bd),bd.at (i:=2) Z,bd.at (i:=3) Z,bd.at (i:=4) Z,bd.at (i:=5) Z,bd.at (i:=6) Z,bd.at (i:=7) Z,bd.at (i:=8) Z,bd.at (i:=9) Z,bd.at (i:=10) Z,bd.at (i:=11) Z⟩ fun kI372=>BP 4 Z ?_;have b:=b.trans (Ab p);have e305h0:=e305h0.mono (Ab (dr.trans jx));refine Bh bd (Cn _ _ (Al bd) u.1 ((k.mono b).mono a) ((m.mono b).mono a) ((o.mono b).mono a) e305h0 am) ?_;rintro _ tv ⟨oc,od,oe,rfl,l0,l1,l2⟩ ja cd og;have ef:=l0.mono (B8 bd ja);have eg:=l1.mono (B8 bd ja);have eh:=l2.mono (B8 bd ja);have a:=a.trans (Ab og);refine As ⟨a.trans (Al cd),cd.at (i:=2) Z,cd.at (i:=3) Z,cd.at (i:=4) Z,cd.at (i:=5) Z,cd.at (i:=6) Z,cd.at (i:=7) Z,cd.at (i:=8) Z,cd.at (i:=9) Z,cd.at (i:=10) Z,cd.at (i:=11) Z⟩ fun kI374=>Aq 5 g kI374 Z (fun _ _=>Ad Z) Z ?_
     refine Aq 6 g kI374 Z (fun _ _=>Ad Z) Z<|Aq 7 g kI374 Z (fun _ _=>Ad Z) Z<|BP 10 Z<|Ar 1 Z cd Z (a:=(Be Z (Be Z (Be ef.one (Be eg.one (Be eh.one Gr)))))) ?_;intro tw ce gm;have a:=a.trans (Ab gm);refine As ⟨a.trans (Al ce),ce.at (i:=2) Z,ce.at (i:=3) Z,ce.at (i:=4) Z,ce.at (i:=5) Z,ce.at (i:=6) Z,ce.at (i:=7) Z,ce.at (i:=8) Z,ce.at (i:=9) Z,ce.at (i:=10) Z,ce.at (i:=11) Z⟩ fun kI376=>BP 11 Z<|Ar 0 Z ce Z fun tx py gn=>B4<|Bz ?_;have e:=e.mono (Ab (ax.trans (ay.trans (az.trans (au.trans (av.trans p))))));have ef:=ef.mono (Ab (gm.trans gn));have eg:=eg.mono (Ab (gm.trans gn));have eh:=eh.mono (Ab (gm.trans gn));have a:=a.trans (Ab gn)
     refine A7 (c.1.f.1,c.1.f.2.1,c.1.f.2.2.1,c.1.f.2.2.2.1,c.1.f.2.2.2.2,c.2.1,c.2.2,kr,oc,od,oe,rl) ⟨py,(e.mono a),ef,eg,eh,(((an.mono d).mono b).mono a),(((ao.mono d).mono b).mono a),(((al.mono d).mono b).mono a),(((ap.mono d).mono b).mono a),(((aq.mono d).mono b).mono a),(((ar.mono d).mono b).mono a),((k.mono b).mono a),((m.mono b).mono a),((o.mono b).mono a),(((ak.mono d).mono b).mono a),h⟩
    refine AG Bt.e Z ae ?_;intro ty rm ag ip _;have a:=a.trans (Ab ip);refine As ⟨a.trans (Al ag),ag.at (i:=2) Z,ag.at (i:=3) Z,ag.at (i:=4) Z,ag.at (i:=5) Z,ag.at (i:=6) Z,ag.at (i:=7) Z,ag.at (i:=8) Z,ag.at (i:=9) Z,ag.at (i:=10) Z,ag.at (i:=11) Z⟩ fun kI379=>BP 3 Z ?_;have bo:=bo.mono (Ab (dr.trans ip));refine Ah (AV bo (Al ag))<|As ⟨a.trans (Al ag),ag.at (i:=2) Z,ag.at (i:=3) Z,ag.at (i:=4) Z,ag.at (i:=5) Z,ag.at (i:=6) Z,ag.at (i:=7) Z,ag.at (i:=8) Z,ag.at (i:=9) Z,ag.at (i:=10) Z,ag.at (i:=11) Z⟩ fun kI380=>BP 4 Z ?_;have b:=b.trans (Ab p);have e305h0:=e305h0.mono (Ab (dr.trans ip));refine Bh ag (Cn _ _ (Al ag) u.1 ((k.mono b).mono a) ((m.mono b).mono a) ((o.mono b).mono a) e305h0 am) ?_;rintro _ tz ⟨oh,oi,oj,rfl,l3,l4,l5⟩ jb cf ok;have ei:=l3.mono (B8 ag jb);have ej:=l4.mono (B8 ag jb);have ek:=l5.mono (B8 ag jb)
    have a:=a.trans (Ab ok);refine As ⟨a.trans (Al cf),cf.at (i:=2) Z,cf.at (i:=3) Z,cf.at (i:=4) Z,cf.at (i:=5) Z,cf.at (i:=6) Z,cf.at (i:=7) Z,cf.at (i:=8) Z,cf.at (i:=9) Z,cf.at (i:=10) Z,cf.at (i:=11) Z⟩ fun kI382=>Aq 5 g kI382 Z (fun _ _=>Ad Z) Z<|Aq 6 g kI382 Z (fun _ _=>Ad Z) Z<|Aq 7 g kI382 Z (fun _ _=>Ad Z) Z<|BP 10 Z<|Ar 1 Z cf Z (a:=(Be Z (Be Z (Be ei.one (Be ej.one (Be ek.one Gr)))))) ?_;intro t0 cg go;have a:=a.trans (Ab go);refine As ⟨a.trans (Al cg),cg.at (i:=2) Z,cg.at (i:=3) Z,cg.at (i:=4) Z,cg.at (i:=5) Z,cg.at (i:=6) Z,cg.at (i:=7) Z,cg.at (i:=8) Z,cg.at (i:=9) Z,cg.at (i:=10) Z,cg.at (i:=11) Z⟩ fun kI384=>BP 11 Z<|Ar 0 Z cg Z fun t1 pz gp=>B4<|Bz ?_;have e:=e.mono (Ab (ax.trans (ay.trans (az.trans (au.trans (av.trans p))))))
    have ei:=ei.mono (Ab (go.trans gp));have ej:=ej.mono (Ab (go.trans gp));have ek:=ek.mono (Ab (go.trans gp));have a:=a.trans (Ab gp);refine A7 (c.1.f.1,c.1.f.2.1,c.1.f.2.2.1,c.1.f.2.2.2.1,c.1.f.2.2.2.2,c.2.1,c.2.2,kr,oh,oi,oj,rm) ⟨pz,(e.mono a),ei,ej,ek,(((an.mono d).mono b).mono a),(((ao.mono d).mono b).mono a),(((al.mono d).mono b).mono a),(((ap.mono d).mono b).mono a),(((aq.mono d).mono b).mono a),(((ar.mono d).mono b).mono a),((k.mono b).mono a),((m.mono b).mono a),((o.mono b).mono a),(((ak.mono d).mono b).mono a),h⟩
   refine Ax h fun c am h=>AG Bt.e Z t ?_;intro t2 hr af ds _;have a:=a.trans (Ab ds);refine As ⟨a.trans (Al af),af.at (i:=1) Z,af.at (i:=2) Z,af.at (i:=3) Z,af.at (i:=4) Z,af.at (i:=5) Z,af.at (i:=6) Z,af.at (i:=7) Z,af.at (i:=8) Z,af.at (i:=9) Z,af.at (i:=10) Z⟩ fun kI387=>Ls 3 8 Z Z ?_ ?_
   ·have bo:=bo.mono (Ab ds);refine Ah (AV bo (Al af))<|As ⟨a.trans (Al af),af.at (i:=1) Z,af.at (i:=2) Z,af.at (i:=3) Z,af.at (i:=4) Z,af.at (i:=5) Z,af.at (i:=6) Z,af.at (i:=7) Z,af.at (i:=8) Z,af.at (i:=9) Z,af.at (i:=10) Z⟩ fun kI388=>Ls 4 8 Z Z ?_ ?_
    ·have b:=b.trans (Ab p);have e305h0:=e305h0.mono (Ab ds);refine Bh af (Cn _ _ (Al af) u.1 ((k.mono b).mono a) ((m.mono b).mono a) ((o.mono b).mono a) e305h0 am) ?_;rintro _ t3 ⟨jy,jz,j0,rfl,l6,l7,l8⟩ jc ch ol;have el:=l6.mono (B8 af jc);have em:=l7.mono (B8 af jc);have en:=l8.mono (B8 af jc);have a:=a.trans (Ab ol);refine As ⟨a.trans (Al ch),ch.at (i:=1) Z,ch.at (i:=2) Z,ch.at (i:=3) Z,ch.at (i:=4) Z,ch.at (i:=5) Z,ch.at (i:=6) Z,ch.at (i:=7) Z,ch.at (i:=8) Z,ch.at (i:=9) Z,ch.at (i:=10) Z⟩ fun kI390=>Aq 5 g kI390 Z (fun _ _=>Ad Z) Z<|Aq 6 g kI390 Z (fun _ _=>Ad Z) Z<|Aq 7 g kI390 Z (fun _ _=>Ad Z) Z<|BP 8 Z<|AG Bg.e Z ch ?_;intro t4 om ci gq _;have a:=a.trans (Ab gq)
     refine As ⟨a.trans (Al ci),ci.at (i:=2) Z,ci.at (i:=3) Z,ci.at (i:=4) Z,ci.at (i:=5) Z,ci.at (i:=6) Z,ci.at (i:=7) Z,ci.at (i:=8) Z,ci.at (i:=9) Z,ci.at (i:=10) Z,ci.at (i:=11) Z⟩ fun kI392=>BP 10 Z<|Ar 0 Z ci Z (a:=(Be Z (Be Z (Be el.one (Be em.one (Be en.one Gr)))))) ?_;intro t5 cj gr;have a:=a.trans (Ab gr);refine As ⟨a.trans (Al cj),cj.at (i:=2) Z,cj.at (i:=3) Z,cj.at (i:=4) Z,cj.at (i:=5) Z,cj.at (i:=6) Z,cj.at (i:=7) Z,cj.at (i:=8) Z,cj.at (i:=9) Z,cj.at (i:=10) Z,cj.at (i:=11) Z⟩ fun kI394=>BP 11 Z<|Ar 1 Z cj Z fun rn k0 gs=>B4<|Bz ?_
     have k1:AZ w [.box hr [No c.2.1,No c.2.2] 27,.box om [No c.1.f.1,No c.1.f.2.1,jy,jz,j0] 34,.box dq [No bh.2.1,No bh.2.2] 27,.box dp [No a7.2.1,No a7.2.2] 27,.box dj [No ad.2.2.1,No ad.2.2.2] 27,.box dc [No ad.1.f.1,No ad.1.f.2.1,a8,a9,ba] 34,.box dh [No aa.2.1,No aa.2.2] 27,.box dg [No aa.1.f.1,No aa.1.f.2.1,a2,a3,a4] 34,.box db [No u.2.1,No u.2.2] 27,.box da [No u.1.f.1,No u.1.f.2.1,bk,bl,bm] 34,.box b6 [No x3.2.1,No x3.2.2] 27,.box b5 [bj] 25] rn:=k0.Bo [1] Z;have gt:=AF [1] k0 k1 Z;have e:=e.mono (Ab (ax.trans (ay.trans (az.trans (au.trans (av.trans p))))));have el:=el.mono (Ab (gq.trans (gr.trans (gs.trans gt))));have em:=em.mono (Ab (gq.trans (gr.trans (gs.trans gt))));have en:=en.mono (Ab (gq.trans (gr.trans (gs.trans gt))));have a:=a.trans (Ab (gs.trans gt))
     refine A7 (c.1.f.1,c.1.f.2.1,c.1.f.2.2.1,c.1.f.2.2.2.1,c.1.f.2.2.2.2,c.2.1,c.2.2,om,jy,jz,j0,hr) ⟨k1,(e.mono a),el,em,en,(((an.mono d).mono b).mono a),(((ao.mono d).mono b).mono a),(((al.mono d).mono b).mono a),(((ap.mono d).mono b).mono a),(((aq.mono d).mono b).mono a),(((ar.mono d).mono b).mono a),((k.mono b).mono a),((m.mono b).mono a),((o.mono b).mono a),(((ak.mono d).mono b).mono a),h⟩
    refine AG Bg.e Z af ?_;intro t6 oo be j1 _;have a:=a.trans (Ab j1);refine As ⟨a.trans (Al be),be.at (i:=2) Z,be.at (i:=3) Z,be.at (i:=4) Z,be.at (i:=5) Z,be.at (i:=6) Z,be.at (i:=7) Z,be.at (i:=8) Z,be.at (i:=9) Z,be.at (i:=10) Z,be.at (i:=11) Z⟩ fun kI398=>BP 4 Z ?_;have b:=b.trans (Ab p);have e305h0:=e305h0.mono (Ab (ds.trans j1));refine Bh be (Cn _ _ (Al be) u.1 ((k.mono b).mono a) ((m.mono b).mono a) ((o.mono b).mono a) e305h0 am) ?_;rintro _ t7 ⟨j2,j3,j4,rfl,l9,ma,mb⟩ jd ck op;have eo:=l9.mono (B8 be jd);have ep:=ma.mono (B8 be jd);have eq:=mb.mono (B8 be jd);have a:=a.trans (Ab op);refine As ⟨a.trans (Al ck),ck.at (i:=2) Z,ck.at (i:=3) Z,ck.at (i:=4) Z,ck.at (i:=5) Z,ck.at (i:=6) Z,ck.at (i:=7) Z,ck.at (i:=8) Z,ck.at (i:=9) Z,ck.at (i:=10) Z,ck.at (i:=11) Z⟩ fun kI400=>Aq 5 g kI400 Z (fun _ _=>Ad Z) Z ?_
    refine Aq 6 g kI400 Z (fun _ _=>Ad Z) Z<|Aq 7 g kI400 Z (fun _ _=>Ad Z) Z<|BP 10 Z<|Ar 0 Z ck Z (a:=(Be Z (Be Z (Be eo.one (Be ep.one (Be eq.one Gr)))))) ?_;intro t8 cl gu;have a:=a.trans (Ab gu);refine As ⟨a.trans (Al cl),cl.at (i:=2) Z,cl.at (i:=3) Z,cl.at (i:=4) Z,cl.at (i:=5) Z,cl.at (i:=6) Z,cl.at (i:=7) Z,cl.at (i:=8) Z,cl.at (i:=9) Z,cl.at (i:=10) Z,cl.at (i:=11) Z⟩ fun kI402=>BP 11 Z<|Ar 1 Z cl Z fun ro k2 gv=>B4<|Bz ?_
    have k3:AZ w [.box hr [No c.2.1,No c.2.2] 27,.box oo [No c.1.f.1,No c.1.f.2.1,j2,j3,j4] 34,.box dq [No bh.2.1,No bh.2.2] 27,.box dp [No a7.2.1,No a7.2.2] 27,.box dj [No ad.2.2.1,No ad.2.2.2] 27,.box dc [No ad.1.f.1,No ad.1.f.2.1,a8,a9,ba] 34,.box dh [No aa.2.1,No aa.2.2] 27,.box dg [No aa.1.f.1,No aa.1.f.2.1,a2,a3,a4] 34,.box db [No u.2.1,No u.2.2] 27,.box da [No u.1.f.1,No u.1.f.2.1,bk,bl,bm] 34,.box b6 [No x3.2.1,No x3.2.2] 27,.box b5 [bj] 25] ro:=k2.Bo [1] Z;have gw:=AF [1] k2 k3 Z;have e:=e.mono (Ab (ax.trans (ay.trans (az.trans (au.trans (av.trans p))))));have eo:=eo.mono (Ab (gu.trans (gv.trans gw)));have ep:=ep.mono (Ab (gu.trans (gv.trans gw)));have eq:=eq.mono (Ab (gu.trans (gv.trans gw)));have a:=a.trans (Ab (gv.trans gw))
    refine A7 (c.1.f.1,c.1.f.2.1,c.1.f.2.2.1,c.1.f.2.2.2.1,c.1.f.2.2.2.2,c.2.1,c.2.2,oo,j2,j3,j4,hr) ⟨k3,(e.mono a),eo,ep,eq,(((an.mono d).mono b).mono a),(((ao.mono d).mono b).mono a),(((al.mono d).mono b).mono a),(((ap.mono d).mono b).mono a),(((aq.mono d).mono b).mono a),(((ar.mono d).mono b).mono a),((k.mono b).mono a),((m.mono b).mono a),((o.mono b).mono a),(((ak.mono d).mono b).mono a),h⟩
   refine AG Bg.e Z af ?_;intro t9 oq ah iq _;have a:=a.trans (Ab iq);refine As ⟨a.trans (Al ah),ah.at (i:=2) Z,ah.at (i:=3) Z,ah.at (i:=4) Z,ah.at (i:=5) Z,ah.at (i:=6) Z,ah.at (i:=7) Z,ah.at (i:=8) Z,ah.at (i:=9) Z,ah.at (i:=10) Z,ah.at (i:=11) Z⟩ fun kI406=>BP 3 Z ?_;have bo:=bo.mono (Ab (ds.trans iq));refine Ah (AV bo (Al ah))<|As ⟨a.trans (Al ah),ah.at (i:=2) Z,ah.at (i:=3) Z,ah.at (i:=4) Z,ah.at (i:=5) Z,ah.at (i:=6) Z,ah.at (i:=7) Z,ah.at (i:=8) Z,ah.at (i:=9) Z,ah.at (i:=10) Z,ah.at (i:=11) Z⟩ fun kI407=>BP 4 Z ?_;have b:=b.trans (Ab p);have e305h0:=e305h0.mono (Ab (ds.trans iq));refine Bh ah (Cn _ _ (Al ah) u.1 ((k.mono b).mono a) ((m.mono b).mono a) ((o.mono b).mono a) e305h0 am) ?_;rintro _ ua ⟨j5,j6,j7,rfl,mc,md,me⟩ je cm os;have er:=mc.mono (B8 ah je);have es:=md.mono (B8 ah je);have et:=me.mono (B8 ah je)
   have a:=a.trans (Ab os);refine As ⟨a.trans (Al cm),cm.at (i:=2) Z,cm.at (i:=3) Z,cm.at (i:=4) Z,cm.at (i:=5) Z,cm.at (i:=6) Z,cm.at (i:=7) Z,cm.at (i:=8) Z,cm.at (i:=9) Z,cm.at (i:=10) Z,cm.at (i:=11) Z⟩ fun kI409=>Aq 5 g kI409 Z (fun _ _=>Ad Z) Z<|Aq 6 g kI409 Z (fun _ _=>Ad Z) Z<|Aq 7 g kI409 Z (fun _ _=>Ad Z) Z<|BP 10 Z<|Ar 0 Z cm Z (a:=(Be Z (Be Z (Be er.one (Be es.one (Be et.one Gr)))))) ?_;intro ub cn gx;have a:=a.trans (Ab gx);refine As ⟨a.trans (Al cn),cn.at (i:=2) Z,cn.at (i:=3) Z,cn.at (i:=4) Z,cn.at (i:=5) Z,cn.at (i:=6) Z,cn.at (i:=7) Z,cn.at (i:=8) Z,cn.at (i:=9) Z,cn.at (i:=10) Z,cn.at (i:=11) Z⟩ fun kI411=>BP 11 Z<|Ar 1 Z cn Z fun rp k4 gy=>B4<|Bz ?_
   have k5:AZ w [.box hr [No c.2.1,No c.2.2] 27,.box oq [No c.1.f.1,No c.1.f.2.1,j5,j6,j7] 34,.box dq [No bh.2.1,No bh.2.2] 27,.box dp [No a7.2.1,No a7.2.2] 27,.box dj [No ad.2.2.1,No ad.2.2.2] 27,.box dc [No ad.1.f.1,No ad.1.f.2.1,a8,a9,ba] 34,.box dh [No aa.2.1,No aa.2.2] 27,.box dg [No aa.1.f.1,No aa.1.f.2.1,a2,a3,a4] 34,.box db [No u.2.1,No u.2.2] 27,.box da [No u.1.f.1,No u.1.f.2.1,bk,bl,bm] 34,.box b6 [No x3.2.1,No x3.2.2] 27,.box b5 [bj] 25] rp:=k4.Bo [1] Z;have g0:=AF [1] k4 k5 Z;have e:=e.mono (Ab (ax.trans (ay.trans (az.trans (au.trans (av.trans p))))));have er:=er.mono (Ab (gx.trans (gy.trans g0)));have es:=es.mono (Ab (gx.trans (gy.trans g0)));have et:=et.mono (Ab (gx.trans (gy.trans g0)));have a:=a.trans (Ab (gy.trans g0))
   refine A7 (c.1.f.1,c.1.f.2.1,c.1.f.2.2.1,c.1.f.2.2.2.1,c.1.f.2.2.2.2,c.2.1,c.2.2,oq,j5,j6,j7,hr) ⟨k5,(e.mono a),er,es,et,(((an.mono d).mono b).mono a),(((ao.mono d).mono b).mono a),(((al.mono d).mono b).mono a),(((ap.mono d).mono b).mono a),(((aq.mono d).mono b).mono a),(((ar.mono d).mono b).mono a),((k.mono b).mono a),((m.mono b).mono a),((o.mono b).mono a),(((ak.mono d).mono b).mono a),h⟩
  ·refine A8 h fun bq h=>Ax h fun c am h=>AG Bg.e Z t ?_;intro uc jf x ot _;have a:=a.trans (Ab ot);refine As ⟨a.trans (Al x),x.at (i:=1) Z,x.at (i:=2) Z,x.at (i:=3) Z,x.at (i:=4) Z,x.at (i:=5) Z,x.at (i:=6) Z,x.at (i:=7) Z,x.at (i:=8) Z,x.at (i:=9) Z,x.at (i:=10) Z⟩ fun kI415=>Ls 2 9 Z Z ?_ ?_
   ·have aw:=aw.mono (Ab p);refine Bb (aw.mono a) ((0:Int).toNat) (Dw bq) (AK bq) ?_;rintro ud _ ⟨e416v0,rfl,e416h0⟩ ic;refine As ⟨a.trans (Al x),x.at (i:=1) Z,x.at (i:=2) Z,x.at (i:=3) Z,x.at (i:=4) Z,x.at (i:=5) Z,x.at (i:=6) Z,x.at (i:=7) Z,x.at (i:=8) Z,x.at (i:=9) Z,x.at (i:=10) Z⟩ fun kI417=>Ls 3 9 Z Z ?_ ?_
    ·refine Ah (AV ic (Al x))<|As ⟨a.trans (Al x),x.at (i:=1) Z,x.at (i:=2) Z,x.at (i:=3) Z,x.at (i:=4) Z,x.at (i:=5) Z,x.at (i:=6) Z,x.at (i:=7) Z,x.at (i:=8) Z,x.at (i:=9) Z,x.at (i:=10) Z⟩ fun kI418=>Ls 4 9 Z Z ?_ ?_
     ·have b:=b.trans (Ab p);refine Bh x (Cn _ _ (Al x) u.1 ((k.mono b).mono a) ((m.mono b).mono a) ((o.mono b).mono a) e416h0 am) ?_;rintro _ ue ⟨ou,ov,ow,rfl,mf,mg,mh⟩ jg co ox;have eu:=mf.mono (B8 x jg);have ev:=mg.mono (B8 x jg);have ew:=mh.mono (B8 x jg);have a:=a.trans (Ab ox);refine As ⟨a.trans (Al co),co.at (i:=1) Z,co.at (i:=2) Z,co.at (i:=3) Z,co.at (i:=4) Z,co.at (i:=5) Z,co.at (i:=6) Z,co.at (i:=7) Z,co.at (i:=8) Z,co.at (i:=9) Z,co.at (i:=10) Z⟩ fun kI420=>Aq 5 g kI420 Z (fun _ _=>Ad Z) Z<|Aq 6 g kI420 Z (fun _ _=>Ad Z) Z<|Aq 7 g kI420 Z (fun _ _=>Ad Z) Z<|BP 9 Z<|AG Bt.e Z co ?_;intro uf rq cp g1 _;have a:=a.trans (Ab g1)
      refine As ⟨a.trans (Al cp),cp.at (i:=2) Z,cp.at (i:=3) Z,cp.at (i:=4) Z,cp.at (i:=5) Z,cp.at (i:=6) Z,cp.at (i:=7) Z,cp.at (i:=8) Z,cp.at (i:=9) Z,cp.at (i:=10) Z,cp.at (i:=11) Z⟩ fun kI422=>BP 10 Z<|Ar 1 Z cp Z (a:=(Be Z (Be Z (Be eu.one (Be ev.one (Be ew.one Gr)))))) ?_;intro ug cq g2;have a:=a.trans (Ab g2);refine As ⟨a.trans (Al cq),cq.at (i:=2) Z,cq.at (i:=3) Z,cq.at (i:=4) Z,cq.at (i:=5) Z,cq.at (i:=6) Z,cq.at (i:=7) Z,cq.at (i:=8) Z,cq.at (i:=9) Z,cq.at (i:=10) Z,cq.at (i:=11) Z⟩ fun kI424=>BP 11 Z<|Ar 0 Z cq Z fun uh p0 g3=>B4<|Bz ?_;have e:=e.mono (Ab (ax.trans (ay.trans (az.trans (au.trans (av.trans p))))));have eu:=eu.mono (Ab (g1.trans (g2.trans g3)));have ev:=ev.mono (Ab (g1.trans (g2.trans g3)));have ew:=ew.mono (Ab (g1.trans (g2.trans g3)));have a:=a.trans (Ab g3)
      refine A7 (c.1.f.1,c.1.f.2.1,c.1.f.2.2.1,c.1.f.2.2.2.1,c.1.f.2.2.2.2,c.2.1,c.2.2,jf,ou,ov,ow,rq) ⟨p0,(e.mono a),eu,ev,ew,(((an.mono d).mono b).mono a),(((ao.mono d).mono b).mono a),(((al.mono d).mono b).mono a),(((ap.mono d).mono b).mono a),(((aq.mono d).mono b).mono a),(((ar.mono d).mono b).mono a),((k.mono b).mono a),((m.mono b).mono a),((o.mono b).mono a),(((ak.mono d).mono b).mono a),h⟩
     refine AG Bt.e Z x ?_;intro ui rr bf j8 _;have a:=a.trans (Ab j8);refine As ⟨a.trans (Al bf),bf.at (i:=2) Z,bf.at (i:=3) Z,bf.at (i:=4) Z,bf.at (i:=5) Z,bf.at (i:=6) Z,bf.at (i:=7) Z,bf.at (i:=8) Z,bf.at (i:=9) Z,bf.at (i:=10) Z,bf.at (i:=11) Z⟩ fun kI427=>BP 4 Z ?_;have b:=b.trans (Ab p);have e416h0:=e416h0.mono (Ab j8);refine Bh bf (Cn _ _ (Al bf) u.1 ((k.mono b).mono a) ((m.mono b).mono a) ((o.mono b).mono a) e416h0 am) ?_;rintro _ uj ⟨oy,oz,o0,rfl,mi,mj,mk⟩ jh cr o1;have ex:=mi.mono (B8 bf jh);have ey:=mj.mono (B8 bf jh);have ez:=mk.mono (B8 bf jh);have a:=a.trans (Ab o1);refine As ⟨a.trans (Al cr),cr.at (i:=2) Z,cr.at (i:=3) Z,cr.at (i:=4) Z,cr.at (i:=5) Z,cr.at (i:=6) Z,cr.at (i:=7) Z,cr.at (i:=8) Z,cr.at (i:=9) Z,cr.at (i:=10) Z,cr.at (i:=11) Z⟩ fun kI429=>Aq 5 g kI429 Z (fun _ _=>Ad Z) Z ?_
     refine Aq 6 g kI429 Z (fun _ _=>Ad Z) Z<|Aq 7 g kI429 Z (fun _ _=>Ad Z) Z<|BP 10 Z<|Ar 1 Z cr Z (a:=(Be Z (Be Z (Be ex.one (Be ey.one (Be ez.one Gr)))))) ?_;intro uk cs g4;have a:=a.trans (Ab g4);refine As ⟨a.trans (Al cs),cs.at (i:=2) Z,cs.at (i:=3) Z,cs.at (i:=4) Z,cs.at (i:=5) Z,cs.at (i:=6) Z,cs.at (i:=7) Z,cs.at (i:=8) Z,cs.at (i:=9) Z,cs.at (i:=10) Z,cs.at (i:=11) Z⟩ fun kI431=>BP 11 Z<|Ar 0 Z cs Z fun ul p1 g5=>B4<|Bz ?_;have e:=e.mono (Ab (ax.trans (ay.trans (az.trans (au.trans (av.trans p))))));have ex:=ex.mono (Ab (g4.trans g5));have ey:=ey.mono (Ab (g4.trans g5));have ez:=ez.mono (Ab (g4.trans g5));have a:=a.trans (Ab g5)
     refine A7 (c.1.f.1,c.1.f.2.1,c.1.f.2.2.1,c.1.f.2.2.2.1,c.1.f.2.2.2.2,c.2.1,c.2.2,jf,oy,oz,o0,rr) ⟨p1,(e.mono a),ex,ey,ez,(((an.mono d).mono b).mono a),(((ao.mono d).mono b).mono a),(((al.mono d).mono b).mono a),(((ap.mono d).mono b).mono a),(((aq.mono d).mono b).mono a),(((ar.mono d).mono b).mono a),((k.mono b).mono a),((m.mono b).mono a),((o.mono b).mono a),(((ak.mono d).mono b).mono a),h⟩
    refine AG Bt.e Z x ?_;intro um rs ai ir _;have a:=a.trans (Ab ir);refine As ⟨a.trans (Al ai),ai.at (i:=2) Z,ai.at (i:=3) Z,ai.at (i:=4) Z,ai.at (i:=5) Z,ai.at (i:=6) Z,ai.at (i:=7) Z,ai.at (i:=8) Z,ai.at (i:=9) Z,ai.at (i:=10) Z,ai.at (i:=11) Z⟩ fun kI434=>BP 3 Z ?_;have ic:=ic.mono (Ab ir);refine Ah (AV ic (Al ai))<|As ⟨a.trans (Al ai),ai.at (i:=2) Z,ai.at (i:=3) Z,ai.at (i:=4) Z,ai.at (i:=5) Z,ai.at (i:=6) Z,ai.at (i:=7) Z,ai.at (i:=8) Z,ai.at (i:=9) Z,ai.at (i:=10) Z,ai.at (i:=11) Z⟩ fun kI435=>BP 4 Z ?_;have b:=b.trans (Ab p);have e416h0:=e416h0.mono (Ab ir);refine Bh ai (Cn _ _ (Al ai) u.1 ((k.mono b).mono a) ((m.mono b).mono a) ((o.mono b).mono a) e416h0 am) ?_;rintro _ un ⟨o2,o3,o4,rfl,ml,mm,mn⟩ ji ct o5;have e0:=ml.mono (B8 ai ji);have e1:=mm.mono (B8 ai ji);have e2:=mn.mono (B8 ai ji);have a:=a.trans (Ab o5)
    refine As ⟨a.trans (Al ct),ct.at (i:=2) Z,ct.at (i:=3) Z,ct.at (i:=4) Z,ct.at (i:=5) Z,ct.at (i:=6) Z,ct.at (i:=7) Z,ct.at (i:=8) Z,ct.at (i:=9) Z,ct.at (i:=10) Z,ct.at (i:=11) Z⟩ fun kI437=>Aq 5 g kI437 Z (fun _ _=>Ad Z) Z<|Aq 6 g kI437 Z (fun _ _=>Ad Z) Z<|Aq 7 g kI437 Z (fun _ _=>Ad Z) Z<|BP 10 Z<|Ar 1 Z ct Z (a:=(Be Z (Be Z (Be e0.one (Be e1.one (Be e2.one Gr)))))) ?_;intro uo cu g6;have a:=a.trans (Ab g6);refine As ⟨a.trans (Al cu),cu.at (i:=2) Z,cu.at (i:=3) Z,cu.at (i:=4) Z,cu.at (i:=5) Z,cu.at (i:=6) Z,cu.at (i:=7) Z,cu.at (i:=8) Z,cu.at (i:=9) Z,cu.at (i:=10) Z,cu.at (i:=11) Z⟩ fun kI439=>BP 11 Z<|Ar 0 Z cu Z fun up p2 g7=>B4<|Bz ?_;have e:=e.mono (Ab (ax.trans (ay.trans (az.trans (au.trans (av.trans p))))));have e0:=e0.mono (Ab (g6.trans g7))
    have e1:=e1.mono (Ab (g6.trans g7));have e2:=e2.mono (Ab (g6.trans g7));have a:=a.trans (Ab g7);refine A7 (c.1.f.1,c.1.f.2.1,c.1.f.2.2.1,c.1.f.2.2.2.1,c.1.f.2.2.2.2,c.2.1,c.2.2,jf,o2,o3,o4,rs) ⟨p2,(e.mono a),e0,e1,e2,(((an.mono d).mono b).mono a),(((ao.mono d).mono b).mono a),(((al.mono d).mono b).mono a),(((ap.mono d).mono b).mono a),(((aq.mono d).mono b).mono a),(((ar.mono d).mono b).mono a),((k.mono b).mono a),((m.mono b).mono a),((o.mono b).mono a),(((ak.mono d).mono b).mono a),h⟩
   refine AG Bt.e Z x ?_;intro uq rt ab o6 _;have a:=a.trans (Ab o6);refine As ⟨a.trans (Al ab),ab.at (i:=2) Z,ab.at (i:=3) Z,ab.at (i:=4) Z,ab.at (i:=5) Z,ab.at (i:=6) Z,ab.at (i:=7) Z,ab.at (i:=8) Z,ab.at (i:=9) Z,ab.at (i:=10) Z,ab.at (i:=11) Z⟩ fun kI442=>BP 2 Z ?_;have aw:=aw.mono (Ab p);refine Bb (aw.mono a) ((0:Int).toNat) (Dw bq) (AK bq) ?_;rintro ur _ ⟨e443v0,rfl,e443h0⟩ p3;refine As ⟨a.trans (Al ab),ab.at (i:=2) Z,ab.at (i:=3) Z,ab.at (i:=4) Z,ab.at (i:=5) Z,ab.at (i:=6) Z,ab.at (i:=7) Z,ab.at (i:=8) Z,ab.at (i:=9) Z,ab.at (i:=10) Z,ab.at (i:=11) Z⟩ fun kI444=>BP 3 Z<|Ah (AV p3 (Al ab))<|As ⟨a.trans (Al ab),ab.at (i:=2) Z,ab.at (i:=3) Z,ab.at (i:=4) Z,ab.at (i:=5) Z,ab.at (i:=6) Z,ab.at (i:=7) Z,ab.at (i:=8) Z,ab.at (i:=9) Z,ab.at (i:=10) Z,ab.at (i:=11) Z⟩ fun kI445=>BP 4 Z ?_;have b:=b.trans (Ab p)
   refine Bh ab (Cn _ _ (Al ab) u.1 ((k.mono b).mono a) ((m.mono b).mono a) ((o.mono b).mono a) e443h0 am) ?_;rintro _ us ⟨o7,o8,o9,rfl,mo,mp,mq⟩ jj cv pa;have e3:=mo.mono (B8 ab jj);have e4:=mp.mono (B8 ab jj);have e5:=mq.mono (B8 ab jj);have a:=a.trans (Ab pa);refine As ⟨a.trans (Al cv),cv.at (i:=2) Z,cv.at (i:=3) Z,cv.at (i:=4) Z,cv.at (i:=5) Z,cv.at (i:=6) Z,cv.at (i:=7) Z,cv.at (i:=8) Z,cv.at (i:=9) Z,cv.at (i:=10) Z,cv.at (i:=11) Z⟩ fun kI447=>Aq 5 g kI447 Z (fun _ _=>Ad Z) Z<|Aq 6 g kI447 Z (fun _ _=>Ad Z) Z<|Aq 7 g kI447 Z (fun _ _=>Ad Z) Z<|BP 10 Z<|Ar 1 Z cv Z (a:=(Be Z (Be Z (Be e3.one (Be e4.one (Be e5.one Gr)))))) ?_;intro ut cw g8;have a:=a.trans (Ab g8)
   refine As ⟨a.trans (Al cw),cw.at (i:=2) Z,cw.at (i:=3) Z,cw.at (i:=4) Z,cw.at (i:=5) Z,cw.at (i:=6) Z,cw.at (i:=7) Z,cw.at (i:=8) Z,cw.at (i:=9) Z,cw.at (i:=10) Z,cw.at (i:=11) Z⟩ fun kI449=>BP 11 Z<|Ar 0 Z cw Z fun uu p4 g9=>B4<|Bz ?_;have e:=e.mono (Ab (ax.trans (ay.trans (az.trans (au.trans (av.trans p))))));have e3:=e3.mono (Ab (g8.trans g9));have e4:=e4.mono (Ab (g8.trans g9));have e5:=e5.mono (Ab (g8.trans g9));have a:=a.trans (Ab g9);refine A7 (c.1.f.1,c.1.f.2.1,c.1.f.2.2.1,c.1.f.2.2.2.1,c.1.f.2.2.2.2,c.2.1,c.2.2,jf,o7,o8,o9,rt) ⟨p4,(e.mono a),e3,e4,e5,(((an.mono d).mono b).mono a),(((ao.mono d).mono b).mono a),(((al.mono d).mono b).mono a),(((ap.mono d).mono b).mono a),(((aq.mono d).mono b).mono a),(((ar.mono d).mono b).mono a),((k.mono b).mono a),((m.mono b).mono a),((o.mono b).mono a),(((ak.mono d).mono b).mono a),h⟩
  refine A8 h fun bq h=>Ax h fun c am h=>AG Bt.e Z t ?_;intro uv dz y pb _;have a:=a.trans (Ab pb);refine As ⟨a.trans (Al y),y.at (i:=1) Z,y.at (i:=2) Z,y.at (i:=3) Z,y.at (i:=4) Z,y.at (i:=5) Z,y.at (i:=6) Z,y.at (i:=7) Z,y.at (i:=8) Z,y.at (i:=9) Z,y.at (i:=10) Z⟩ fun kI452=>Ls 2 8 Z Z ?_ ?_
  ·have aw:=aw.mono (Ab p);refine Bb (aw.mono a) ((0:Int).toNat) (Dw bq) (AK bq) ?_;rintro uw _ ⟨e453v0,rfl,e453h0⟩ ie;refine As ⟨a.trans (Al y),y.at (i:=1) Z,y.at (i:=2) Z,y.at (i:=3) Z,y.at (i:=4) Z,y.at (i:=5) Z,y.at (i:=6) Z,y.at (i:=7) Z,y.at (i:=8) Z,y.at (i:=9) Z,y.at (i:=10) Z⟩ fun kI454=>Ls 3 8 Z Z ?_ ?_
   ·refine Ah (AV ie (Al y))<|As ⟨a.trans (Al y),y.at (i:=1) Z,y.at (i:=2) Z,y.at (i:=3) Z,y.at (i:=4) Z,y.at (i:=5) Z,y.at (i:=6) Z,y.at (i:=7) Z,y.at (i:=8) Z,y.at (i:=9) Z,y.at (i:=10) Z⟩ fun kI455=>Ls 4 8 Z Z ?_ ?_
    ·have b:=b.trans (Ab p);refine Bh y (Cn _ _ (Al y) u.1 ((k.mono b).mono a) ((m.mono b).mono a) ((o.mono b).mono a) e453h0 am) ?_;rintro _ ux ⟨j9,ka,kb,rfl,mr,ms,mt⟩ jk cx pc;have e6:=mr.mono (B8 y jk);have e7:=ms.mono (B8 y jk);have e8:=mt.mono (B8 y jk);have a:=a.trans (Ab pc);refine As ⟨a.trans (Al cx),cx.at (i:=1) Z,cx.at (i:=2) Z,cx.at (i:=3) Z,cx.at (i:=4) Z,cx.at (i:=5) Z,cx.at (i:=6) Z,cx.at (i:=7) Z,cx.at (i:=8) Z,cx.at (i:=9) Z,cx.at (i:=10) Z⟩ fun kI457=>Aq 5 g kI457 Z (fun _ _=>Ad Z) Z<|Aq 6 g kI457 Z (fun _ _=>Ad Z) Z<|Aq 7 g kI457 Z (fun _ _=>Ad Z) Z<|BP 8 Z<|AG Bg.e Z cx ?_;intro uy pd cy ha _;have a:=a.trans (Ab ha)
     refine As ⟨a.trans (Al cy),cy.at (i:=2) Z,cy.at (i:=3) Z,cy.at (i:=4) Z,cy.at (i:=5) Z,cy.at (i:=6) Z,cy.at (i:=7) Z,cy.at (i:=8) Z,cy.at (i:=9) Z,cy.at (i:=10) Z,cy.at (i:=11) Z⟩ fun kI459=>BP 10 Z<|Ar 0 Z cy Z (a:=(Be Z (Be Z (Be e6.one (Be e7.one (Be e8.one Gr)))))) ?_;intro uz cz hb;have a:=a.trans (Ab hb);refine As ⟨a.trans (Al cz),cz.at (i:=2) Z,cz.at (i:=3) Z,cz.at (i:=4) Z,cz.at (i:=5) Z,cz.at (i:=6) Z,cz.at (i:=7) Z,cz.at (i:=8) Z,cz.at (i:=9) Z,cz.at (i:=10) Z,cz.at (i:=11) Z⟩ fun kI461=>BP 11 Z<|Ar 1 Z cz Z fun ru k6 hc=>B4<|Bz ?_
     have k7:AZ w [.box dz [No c.2.1,No c.2.2] 27,.box pd [No c.1.f.1,No c.1.f.2.1,j9,ka,kb] 34,.box dq [No bh.2.1,No bh.2.2] 27,.box dp [No a7.2.1,No a7.2.2] 27,.box dj [No ad.2.2.1,No ad.2.2.2] 27,.box dc [No ad.1.f.1,No ad.1.f.2.1,a8,a9,ba] 34,.box dh [No aa.2.1,No aa.2.2] 27,.box dg [No aa.1.f.1,No aa.1.f.2.1,a2,a3,a4] 34,.box db [No u.2.1,No u.2.2] 27,.box da [No u.1.f.1,No u.1.f.2.1,bk,bl,bm] 34,.box b6 [No x3.2.1,No x3.2.2] 27,.box b5 [bj] 25] ru:=k6.Bo [1] Z;have hd:=AF [1] k6 k7 Z;have e:=e.mono (Ab (ax.trans (ay.trans (az.trans (au.trans (av.trans p))))));have e6:=e6.mono (Ab (ha.trans (hb.trans (hc.trans hd))));have e7:=e7.mono (Ab (ha.trans (hb.trans (hc.trans hd))));have e8:=e8.mono (Ab (ha.trans (hb.trans (hc.trans hd))));have a:=a.trans (Ab (hc.trans hd))
     refine A7 (c.1.f.1,c.1.f.2.1,c.1.f.2.2.1,c.1.f.2.2.2.1,c.1.f.2.2.2.2,c.2.1,c.2.2,pd,j9,ka,kb,dz) ⟨k7,(e.mono a),e6,e7,e8,(((an.mono d).mono b).mono a),(((ao.mono d).mono b).mono a),(((al.mono d).mono b).mono a),(((ap.mono d).mono b).mono a),(((aq.mono d).mono b).mono a),(((ar.mono d).mono b).mono a),((k.mono b).mono a),((m.mono b).mono a),((o.mono b).mono a),(((ak.mono d).mono b).mono a),h⟩
    refine AG Bg.e Z y ?_;intro u0 pe bg kc _;have a:=a.trans (Ab kc);refine As ⟨a.trans (Al bg),bg.at (i:=2) Z,bg.at (i:=3) Z,bg.at (i:=4) Z,bg.at (i:=5) Z,bg.at (i:=6) Z,bg.at (i:=7) Z,bg.at (i:=8) Z,bg.at (i:=9) Z,bg.at (i:=10) Z,bg.at (i:=11) Z⟩ fun kI465=>BP 4 Z ?_;have b:=b.trans (Ab p);have e453h0:=e453h0.mono (Ab kc);refine Bh bg (Cn _ _ (Al bg) u.1 ((k.mono b).mono a) ((m.mono b).mono a) ((o.mono b).mono a) e453h0 am) ?_;rintro _ u1 ⟨kd,ke,kf,rfl,mu,mv,mw⟩ jl c0 pf;have e9:=mu.mono (B8 bg jl);have fa:=mv.mono (B8 bg jl);have fb:=mw.mono (B8 bg jl);have a:=a.trans (Ab pf);refine As ⟨a.trans (Al c0),c0.at (i:=2) Z,c0.at (i:=3) Z,c0.at (i:=4) Z,c0.at (i:=5) Z,c0.at (i:=6) Z,c0.at (i:=7) Z,c0.at (i:=8) Z,c0.at (i:=9) Z,c0.at (i:=10) Z,c0.at (i:=11) Z⟩ fun kI467=>Aq 5 g kI467 Z (fun _ _=>Ad Z) Z ?_
    refine Aq 6 g kI467 Z (fun _ _=>Ad Z) Z<|Aq 7 g kI467 Z (fun _ _=>Ad Z) Z<|BP 10 Z<|Ar 0 Z c0 Z (a:=(Be Z (Be Z (Be e9.one (Be fa.one (Be fb.one Gr)))))) ?_;intro u2 c2 he;have a:=a.trans (Ab he);refine As ⟨a.trans (Al c2),c2.at (i:=2) Z,c2.at (i:=3) Z,c2.at (i:=4) Z,c2.at (i:=5) Z,c2.at (i:=6) Z,c2.at (i:=7) Z,c2.at (i:=8) Z,c2.at (i:=9) Z,c2.at (i:=10) Z,c2.at (i:=11) Z⟩ fun kI469=>BP 11 Z<|Ar 1 Z c2 Z fun rv k8 hf=>B4<|Bz ?_
    have k9:AZ w [.box dz [No c.2.1,No c.2.2] 27,.box pe [No c.1.f.1,No c.1.f.2.1,kd,ke,kf] 34,.box dq [No bh.2.1,No bh.2.2] 27,.box dp [No a7.2.1,No a7.2.2] 27,.box dj [No ad.2.2.1,No ad.2.2.2] 27,.box dc [No ad.1.f.1,No ad.1.f.2.1,a8,a9,ba] 34,.box dh [No aa.2.1,No aa.2.2] 27,.box dg [No aa.1.f.1,No aa.1.f.2.1,a2,a3,a4] 34,.box db [No u.2.1,No u.2.2] 27,.box da [No u.1.f.1,No u.1.f.2.1,bk,bl,bm] 34,.box b6 [No x3.2.1,No x3.2.2] 27,.box b5 [bj] 25] rv:=k8.Bo [1] Z;have hg:=AF [1] k8 k9 Z;have e:=e.mono (Ab (ax.trans (ay.trans (az.trans (au.trans (av.trans p))))));have e9:=e9.mono (Ab (he.trans (hf.trans hg)));have fa:=fa.mono (Ab (he.trans (hf.trans hg)));have fb:=fb.mono (Ab (he.trans (hf.trans hg)));have a:=a.trans (Ab (hf.trans hg))
    refine A7 (c.1.f.1,c.1.f.2.1,c.1.f.2.2.1,c.1.f.2.2.2.1,c.1.f.2.2.2.2,c.2.1,c.2.2,pe,kd,ke,kf,dz) ⟨k9,(e.mono a),e9,fa,fb,(((an.mono d).mono b).mono a),(((ao.mono d).mono b).mono a),(((al.mono d).mono b).mono a),(((ap.mono d).mono b).mono a),(((aq.mono d).mono b).mono a),(((ar.mono d).mono b).mono a),((k.mono b).mono a),((m.mono b).mono a),((o.mono b).mono a),(((ak.mono d).mono b).mono a),h⟩
   refine AG Bg.e Z y ?_;intro u3 pg aj is _;have a:=a.trans (Ab is);refine As ⟨a.trans (Al aj),aj.at (i:=2) Z,aj.at (i:=3) Z,aj.at (i:=4) Z,aj.at (i:=5) Z,aj.at (i:=6) Z,aj.at (i:=7) Z,aj.at (i:=8) Z,aj.at (i:=9) Z,aj.at (i:=10) Z,aj.at (i:=11) Z⟩ fun kI473=>BP 3 Z ?_;have ie:=ie.mono (Ab is);refine Ah (AV ie (Al aj))<|As ⟨a.trans (Al aj),aj.at (i:=2) Z,aj.at (i:=3) Z,aj.at (i:=4) Z,aj.at (i:=5) Z,aj.at (i:=6) Z,aj.at (i:=7) Z,aj.at (i:=8) Z,aj.at (i:=9) Z,aj.at (i:=10) Z,aj.at (i:=11) Z⟩ fun kI474=>BP 4 Z ?_;have b:=b.trans (Ab p);have e453h0:=e453h0.mono (Ab is);refine Bh aj (Cn _ _ (Al aj) u.1 ((k.mono b).mono a) ((m.mono b).mono a) ((o.mono b).mono a) e453h0 am) ?_;rintro _ u4 ⟨kg,kh,ki,rfl,mx,my,mz⟩ jm c3 ph;have fc:=mx.mono (B8 aj jm);have fd:=my.mono (B8 aj jm);have fe:=mz.mono (B8 aj jm);have a:=a.trans (Ab ph)
   refine As ⟨a.trans (Al c3),c3.at (i:=2) Z,c3.at (i:=3) Z,c3.at (i:=4) Z,c3.at (i:=5) Z,c3.at (i:=6) Z,c3.at (i:=7) Z,c3.at (i:=8) Z,c3.at (i:=9) Z,c3.at (i:=10) Z,c3.at (i:=11) Z⟩ fun kI476=>Aq 5 g kI476 Z (fun _ _=>Ad Z) Z<|Aq 6 g kI476 Z (fun _ _=>Ad Z) Z<|Aq 7 g kI476 Z (fun _ _=>Ad Z) Z<|BP 10 Z<|Ar 0 Z c3 Z (a:=(Be Z (Be Z (Be fc.one (Be fd.one (Be fe.one Gr)))))) ?_;intro u5 c4 hh;have a:=a.trans (Ab hh);refine As ⟨a.trans (Al c4),c4.at (i:=2) Z,c4.at (i:=3) Z,c4.at (i:=4) Z,c4.at (i:=5) Z,c4.at (i:=6) Z,c4.at (i:=7) Z,c4.at (i:=8) Z,c4.at (i:=9) Z,c4.at (i:=10) Z,c4.at (i:=11) Z⟩ fun kI478=>BP 11 Z<|Ar 1 Z c4 Z fun rx la hi=>B4<|Bz ?_
   have lb:AZ w [.box dz [No c.2.1,No c.2.2] 27,.box pg [No c.1.f.1,No c.1.f.2.1,kg,kh,ki] 34,.box dq [No bh.2.1,No bh.2.2] 27,.box dp [No a7.2.1,No a7.2.2] 27,.box dj [No ad.2.2.1,No ad.2.2.2] 27,.box dc [No ad.1.f.1,No ad.1.f.2.1,a8,a9,ba] 34,.box dh [No aa.2.1,No aa.2.2] 27,.box dg [No aa.1.f.1,No aa.1.f.2.1,a2,a3,a4] 34,.box db [No u.2.1,No u.2.2] 27,.box da [No u.1.f.1,No u.1.f.2.1,bk,bl,bm] 34,.box b6 [No x3.2.1,No x3.2.2] 27,.box b5 [bj] 25] rx:=la.Bo [1] Z;have hj:=AF [1] la lb Z;have e:=e.mono (Ab (ax.trans (ay.trans (az.trans (au.trans (av.trans p))))));have fc:=fc.mono (Ab (hh.trans (hi.trans hj)));have fd:=fd.mono (Ab (hh.trans (hi.trans hj)));have fe:=fe.mono (Ab (hh.trans (hi.trans hj)));have a:=a.trans (Ab (hi.trans hj))
   refine A7 (c.1.f.1,c.1.f.2.1,c.1.f.2.2.1,c.1.f.2.2.2.1,c.1.f.2.2.2.2,c.2.1,c.2.2,pg,kg,kh,ki,dz) ⟨lb,(e.mono a),fc,fd,fe,(((an.mono d).mono b).mono a),(((ao.mono d).mono b).mono a),(((al.mono d).mono b).mono a),(((ap.mono d).mono b).mono a),(((aq.mono d).mono b).mono a),(((ar.mono d).mono b).mono a),((k.mono b).mono a),((m.mono b).mono a),((o.mono b).mono a),(((ak.mono d).mono b).mono a),h⟩
  refine AG Bg.e Z y ?_;intro u6 pi ac pj _;have a:=a.trans (Ab pj);refine As ⟨a.trans (Al ac),ac.at (i:=2) Z,ac.at (i:=3) Z,ac.at (i:=4) Z,ac.at (i:=5) Z,ac.at (i:=6) Z,ac.at (i:=7) Z,ac.at (i:=8) Z,ac.at (i:=9) Z,ac.at (i:=10) Z,ac.at (i:=11) Z⟩ fun kI482=>BP 2 Z ?_;have aw:=aw.mono (Ab p);refine Bb (aw.mono a) ((0:Int).toNat) (Dw bq) (AK bq) ?_;rintro u7 _ ⟨e483v0,rfl,e483h0⟩ p5;refine As ⟨a.trans (Al ac),ac.at (i:=2) Z,ac.at (i:=3) Z,ac.at (i:=4) Z,ac.at (i:=5) Z,ac.at (i:=6) Z,ac.at (i:=7) Z,ac.at (i:=8) Z,ac.at (i:=9) Z,ac.at (i:=10) Z,ac.at (i:=11) Z⟩ fun kI484=>BP 3 Z<|Ah (AV p5 (Al ac))<|As ⟨a.trans (Al ac),ac.at (i:=2) Z,ac.at (i:=3) Z,ac.at (i:=4) Z,ac.at (i:=5) Z,ac.at (i:=6) Z,ac.at (i:=7) Z,ac.at (i:=8) Z,ac.at (i:=9) Z,ac.at (i:=10) Z,ac.at (i:=11) Z⟩ fun kI485=>BP 4 Z ?_;have b:=b.trans (Ab p)
  refine Bh ac (Cn _ _ (Al ac) u.1 ((k.mono b).mono a) ((m.mono b).mono a) ((o.mono b).mono a) e483h0 am) ?_;rintro _ u8 ⟨kj,kk,kl,rfl,m0,m1,m2⟩ jn c5 pk;have ff:=m0.mono (B8 ac jn);have fg:=m1.mono (B8 ac jn);have fh:=m2.mono (B8 ac jn);have a:=a.trans (Ab pk);refine As ⟨a.trans (Al c5),c5.at (i:=2) Z,c5.at (i:=3) Z,c5.at (i:=4) Z,c5.at (i:=5) Z,c5.at (i:=6) Z,c5.at (i:=7) Z,c5.at (i:=8) Z,c5.at (i:=9) Z,c5.at (i:=10) Z,c5.at (i:=11) Z⟩ fun kI487=>Aq 5 g kI487 Z (fun _ _=>Ad Z) Z<|Aq 6 g kI487 Z (fun _ _=>Ad Z) Z<|Aq 7 g kI487 Z (fun _ _=>Ad Z) Z<|BP 10 Z<|Ar 0 Z c5 Z (a:=(Be Z (Be Z (Be ff.one (Be fg.one (Be fh.one Gr)))))) ?_;intro u9 c6 hk;have a:=a.trans (Ab hk)
  refine As ⟨a.trans (Al c6),c6.at (i:=2) Z,c6.at (i:=3) Z,c6.at (i:=4) Z,c6.at (i:=5) Z,c6.at (i:=6) Z,c6.at (i:=7) Z,c6.at (i:=8) Z,c6.at (i:=9) Z,c6.at (i:=10) Z,c6.at (i:=11) Z⟩ fun kI489=>BP 11 Z<|Ar 1 Z c6 Z fun ry lc hl=>B4<|Bz ?_;have ld:AZ w [.box dz [No c.2.1,No c.2.2] 27,.box pi [No c.1.f.1,No c.1.f.2.1,kj,kk,kl] 34,.box dq [No bh.2.1,No bh.2.2] 27,.box dp [No a7.2.1,No a7.2.2] 27,.box dj [No ad.2.2.1,No ad.2.2.2] 27,.box dc [No ad.1.f.1,No ad.1.f.2.1,a8,a9,ba] 34,.box dh [No aa.2.1,No aa.2.2] 27,.box dg [No aa.1.f.1,No aa.1.f.2.1,a2,a3,a4] 34,.box db [No u.2.1,No u.2.2] 27,.box da [No u.1.f.1,No u.1.f.2.1,bk,bl,bm] 34,.box b6 [No x3.2.1,No x3.2.2] 27,.box b5 [bj] 25] ry:=lc.Bo [1] Z;have hm:=AF [1] lc ld Z;have e:=e.mono (Ab (ax.trans (ay.trans (az.trans (au.trans (av.trans p))))));have ff:=ff.mono (Ab (hk.trans (hl.trans hm)))
  have fg:=fg.mono (Ab (hk.trans (hl.trans hm)));have fh:=fh.mono (Ab (hk.trans (hl.trans hm)));have a:=a.trans (Ab (hl.trans hm));refine A7 (c.1.f.1,c.1.f.2.1,c.1.f.2.2.1,c.1.f.2.2.2.1,c.1.f.2.2.2.2,c.2.1,c.2.2,pi,kj,kk,kl,dz) ⟨ld,(e.mono a),ff,fg,fh,(((an.mono d).mono b).mono a),(((ao.mono d).mono b).mono a),(((al.mono d).mono b).mono a),(((ap.mono d).mono b).mono a),(((aq.mono d).mono b).mono a),(((ar.mono d).mono b).mono a),((k.mono b).mono a),((m.mono b).mono a),((o.mono b).mono a),(((ak.mono d).mono b).mono a),h⟩
 rintro⟨iw,ix,iy,iz,i0,i1,i2,bjb290,h9,ia,ib,bjb296⟩ sq ⟨jo,m3,sl,sm,sn,r3,r4,m4,r5,r6,r7,rz,r0,r1,r2,h⟩;have ig:=jo.rG H;refine Dq (ZX 0 19 (.tail 19)) mixed V (fun va lf=>?_);have dd:=jo.call lf;have pl:=Ba jo lf;refine B9 Z (Af Z Zl Z B6.e) Z<|B9 Z (Ag 0 Z dd Z) Z<|BW 2 Z<|IP 121 Z (fun dl=>?_) (fun dl=>?_)
 ·have h:=MT (of_decide_eq_true dl) h
  iterate 2 refine D4 Z (Ad Z) Z Z Z dl Z ?_
  refine Ax h fun vb p6 h=>?_;have ig:=ig.trans (Ab pl);refine S3 Z Z Z Z dl Z Z (fun vc lg=>PT _ _ (Le.refl _) (((m3.mono ig).mono (Al dd)).mono lg.le) ((iu.mono (hH.trans dd.arg)).mono lg.le) p6)<|B9 Z (Aj dl Z) Z<|BW 1 Z<|IP 126 Z (fun bn=>?_) (fun bn=>?_)
  ·have h:=Lo bn h;refine D4 Z (Af Z Z2 Z B6.e) Z Z Z bn Z<|D4 Z (Ag 1 Z dd Z) Z Z Z bn Z<|D4 Z (Af Z Z2 Z Hh.e) Z Z Z bn Z<|D4 Z (Ag 5 Z dd Z) Z Z Z bn Z<|A8 h fun lh h=>JJ Z Z Z Z bn Z Z Z6 (m4.mono ig) ((0:Int).toNat) (Dw lh) (AK lh) Z ?_;rintro vd _ e502t0 p7;obtain⟨_,_,rfl,rfl,⟨_,_,rfl,rfl,⟨_,_,rfl,⟨e502v2,rfl,e502h2⟩,⟨_,_,rfl,⟨e502v3,rfl,e502h3⟩,⟨e502v4,rfl,e502h4⟩⟩⟩⟩⟩:=Go.E.Rp.DV e502t0;refine D4 Z (Af Z Z2 Z B6.e) Z Z Z bn Z ?_;have p8:=p7.add 1;refine D4 Z (AV p8 (Al dd)) Z Z Z bn Z<|D4 Z (Ad Z) Z Z Z bn Z<|B9 Z (Aj bn Z) Z<|BW 1 Z<|BM (fun ve p9=>?_);have qa:=dd.call p9;refine Am<|Ay ?_
   cases h
   refine Ak Z ⟨qa.ext,Z⟩
  have h:=Lp bn h
  iterate 8 refine MG Z Z Z Z bn Z ?_
  refine B9 Z (An bn Z) Z<|BW 1 Z<|BM (fun vf qb=>?_);have qc:=dd.call qb;refine Am<|Ay ?_
  cases h
  refine Ak Z ⟨qc.ext,Z⟩
 have h:=MU (of_decide_eq_false dl) h
 iterate 3 refine MG Z Z Z Z dl Z ?_
 refine B9 Z (An dl Z) Z<|BW 1 Z ?_
 iterate 8 refine MG Z Z Z Z Z Z ?_
 refine B9 Z (An Z Z) Z<|BW 1 Z<|BM (fun vg qd=>?_);have qe:=dd.call qd;refine Am<|Ay ?_
 cases h
 refine Ak Z ⟨qe.ext,Z⟩
end
end Go.Proofs.YtfgomcdgmihmpaaGreatDoor
end
noncomputable section
namespace Go.Proofs.YtfgomcdgmihmpaaGreatDoor
open Go Go.E Go.RowKit Go.L
noncomputable section
instance Y8:DecidableEq (Int×Int×QqA×QqX):=inferInstance
instance Y9:DecidableEq (Bool×Int×Int×Int×Int×Int×QqA×QqX):=inferInstance
instance YI:DecidableEq Qq:=inferInstanceAs (DecidableEq (QqZ×Int×QqZ×Int×Bool×Int×Int×Int×Int×Int×QqA×QqX))
instance YJ:DecidableEq (List Qq×QqJ):=inferInstance
def SF:List Qq:=[([102,105,108,101],7,[],0,false,0,0,0,0,0,[[],[99,104,117,110,107,115]],[1,2]),
 ([109,97,103,105,99],1,[83,78,68,49],0,false,0,0,0,0,0,[],[]),
 ([108,105,115,116],9,[],0,false,0,0,0,0,3,[],[]),
 ([99,104,117,110,107],8,[],0,false,0,0,0,0,0,[],[4,6,8,9,10]),
 ([102,111,114,109],7,[],0,false,0,0,0,0,0,[[],[114,97,116,101],[99,104,97,110,110,101,108,115],[99,111,100,105,110,103]],[5,15,14,14]),
 ([102,111,114,109,104,101,97,100],1,[70,0,4],0,false,0,0,0,0,0,[],[]),
 ([115,97,109,112,108,101,115],7,[],0,false,0,0,0,0,0,[[],[100,97,116,97]],[7,16]),
 ([115,97,109,112,108,101,104,101,97,100],1,[68],0,false,0,0,0,0,0,[],[]),
 ([108,111,119],7,[],0,false,0,0,0,0,0,[[110,97,109,101],[100,97,116,97]],[11,16]),
 ([109,105,100,100,108,101],7,[],0,false,0,0,0,0,0,[[110,97,109,101],[100,97,116,97]],[12,16]),
 ([104,105,103,104],7,[],0,false,0,0,0,0,0,[[110,97,109,101],[100,97,116,97]],[13,16]),
 ([108,111,119,110,97,109,101],2,[],1,true,65,67,0,0,0,[],[]),
 ([109,105,100,100,108,101,110,97,109,101],2,[],1,true,69,69,0,0,0,[],[]),
 ([104,105,103,104,110,97,109,101],2,[],1,true,71,90,0,0,0,[],[]),
 ([111,110,101],2,[],1,true,0,255,0,0,0,[],[]),
 ([116,119,111],2,[],2,true,0,65535,0,0,0,[],[]),
 ([98,108,111,98],10,[],0,false,0,0,0,15,0,[],[])]
def SB:List QqX:=[[1],[],[3],[4,6,8,9,10],[5],[],[7],[],[11],[12],[13],[],[],[],[],[],[15]]
def SO:List Nat:=[0,9671406556917033397649408,1,0,0,1180591620717411303424,0,295147905179352825856,0,0,0,258254417031933722624,590295810358705651712,2475877717387519114975641600,115792089237316195423570985008687907853269984665640564039457584007913129639935,115792089237316195423570985008687907853269984665640564039457584007913129639935,0]
def SM:List Nat:=[9671406556917033397649408,9671406556917033397649408,2475880041677272402379145217,2475880041677272402379145216,1180591620717411303424,1180591620717411303424,295147905179352825856,295147905179352825856,258254417031933722624,590295810358705651712,2475877717387519114975641600,258254417031933722624,590295810358705651712,2475877717387519114975641600,115792089237316195423570985008687907853269984665640564039457584007913129639935,115792089237316195423570985008687907853269984665640564039457584007913129639935,115792089237316195423570985008687907853269984665640564039457584007913129639935]
def XX:Option Bool:=
 QqB (Ia SF) (fun a=>QqB (DN a false) (fun b=>QqB (Dt (SF.getD 0 Qqf)) (fun _=>QqB (CT (SF.getD 2 Qqf)) (fun _=>some (decide (b<0))))))
def XY:Option Bool:=
 QqB (FE) (fun a=>QqB (HI a) (fun b=>some (decide (b=(SF,((0:Int),(0:Int)))))))
end
end Go.Proofs.YtfgomcdgmihmpaaGreatDoor
end
noncomputable section
namespace Go.L
def Ap{α:Type}(m m':Option α):Prop:=∀r,m=some r->m'=some r
theorem Vt{α:Type}(m:Option α):Ap m m:=fun _ h=>h
theorem YR{α β:Type}{m m':Option α}{f f':α->Option β}(h:Ap m m')(k:∀x,Ap (f x) (f' x)):Ap (QqB m f) (QqB m' f'):=fun r e=>by
 obtain⟨x,a,h2⟩:=bind_some e;rw[h x a,QqC];exact k x r h2
theorem YS{α:Type}{p:Prop}[Decidable p]{m m':Option α}(h:Ap m m'):Ap (Go.L.Bi p m) (Go.L.Bi p m'):=fun r e=>by
 obtain⟨a,h2⟩:=Hd e;rw[Ao (h:=a)];exact h r h2
theorem YT{α:Type}{p:Prop}[Decidable p]{a b a' b':Option α}(h:Ap a a')(k:Ap b b'):Ap (if p then a else b) (if p then a' else b'):=fun r e=>by
 by_cases hp:p
 ·rw[if_pos hp]at e ⊢;exact h r e
 ·rw[if_neg hp]at e ⊢;exact k r e
theorem YU{α β:Type}{f:α->β}{m m':Option α}(h:Ap m m'):Ap (QqD f m) (QqD f m'):=fun r e=>by
 cases m with
 | none=>cases e
 | some x=>rw[h x Z];exact e
theorem YV{α β:Type}{x:Option α}{ex ex':Option β}{k k':α->Option β}(h:Ap ex ex')(hk:∀y,Ap (k y) (k' y)):Ap (Go.L.Yw x ex k) (Go.L.Yw x ex' k'):=by
 cases x with
 | none=>exact h
 | some y=>exact hk y
theorem Ap.FX{σ ρ:Type}{b b':σ->Option (σ⊕ρ)}(h:∀s,Ap (b s) (b' s)):∀(n:Nat) (s:σ),Ap (FX b n s) (FX b' n s)
 | 0,_=>fun _ e=>by cases e
 | n+1,s=>fun r e=>by
  obtain⟨m,x,hm,a,h2⟩:=Bd e;obtain rfl:n=m:=by omega
  rw[Go.L.FX,h s x a]
  cases x with
  | inl s'=>exact Ap.FX h n s' r h2
  | inr y=>exact congrArg some h2
theorem Ap.run{σ ρ:Type}{b b':σ->Option (σ⊕ρ)}(h:∀s,Ap (b s) (b' s))(n:Nat)(s:σ):Ap (Go.L.FX b n s) (Go.L.run b' s):=fun r e=>Q4 (Ap.FX h n s r e)
class Mi {α:Type} (m:Option α) where
 c:Option α
 h:Ap c m
noncomputable instance {α:Type} (x:α):Mi (some x):=⟨some x,Vt _⟩
noncomputable instance {α:Type}:Mi (none:Option α):=⟨none,Vt _⟩
noncomputable instance iB {α β:Type} (m:Option α) (f:α->Option β) [i:Mi m] [j:∀x,Mi (f x)]:Mi (QqB m f):=⟨QqB i.c fun x=>(j x).c,YR i.h fun x=>(j x).h⟩
noncomputable instance iC {α:Type} (p:Prop) [Decidable p] (m:Option α) [i:Mi m]:Mi (Go.L.Bi p m):=⟨Go.L.Bi p i.c,YS i.h⟩
noncomputable instance iI {α:Type} (p:Prop) [Decidable p] (a b:Option α) [i:Mi a] [j:Mi b]:Mi (if p then a else b):=⟨if p then i.c else j.c,YT i.h j.h⟩
noncomputable instance {α β:Type} (f:α->β) (m:Option α) [i:Mi m]:Mi (QqD f m):=⟨QqD f i.c,YU i.h⟩
noncomputable instance {α β:Type} (x:Option α) (ex:Option β) (k:α->Option β) [i:Mi ex] [j:∀y,Mi (k y)]:Mi (Go.L.Yw x ex k):=⟨Go.L.Yw x i.c fun y=>(j y).c,YV i.h fun y=>(j y).h⟩
noncomputable instance {σ ρ:Type} (b:σ->Option (σ⊕ρ)) (s:σ) [i:∀s,Mi (b s)]:Mi (Go.L.run b s):=⟨Go.L.FX (fun s=>(i s).c) 600 s,Ap.run (fun s=>(i s).h) 600 s⟩
end Go.L
end
noncomputable section
namespace Go.Proofs.YtfgomcdgmihmpaaGreatDoor
open Go Go.E Go.RowKit Go.L
noncomputable section
instance (a):Mi (OO a):=⟨_,Vt _⟩
instance (a b):Mi (QD a b):=⟨_,Vt _⟩
instance (a b c d):Mi (Oi a b c d):=⟨_,Vt _⟩
instance (a b):Mi (O4 a b):=⟨_,Vt _⟩
instance (a b):Mi (U3 a b):=⟨_,Vt _⟩
instance (a):Mi (Sk a):=⟨_,Vt _⟩
instance (a):Mi (P2 a):=⟨_,Vt _⟩
instance (a):Mi (U2 a):=⟨_,Vt _⟩
instance (a0) (a1):Mi (FC a0 a1):=by delta FC;infer_instance
instance (a0) (a1_0_c0):Mi (GP a0 a1_0_c0):=by delta GP;infer_instance
instance:Mi (CY):=by delta CY;infer_instance
instance (a0) (a1_c0_0_c0) (s):Mi (CL a0 a1_c0_0_c0 s):=by delta CL;infer_instance
instance (a0) (a1_c0_0_c0) (s):Mi (Eh a0 a1_c0_0_c0 s):=by delta Eh;infer_instance
instance (a0) (a1_c0_0_c0):Mi (DG a0 a1_c0_0_c0):=by delta DG;infer_instance
instance (a0) (a1_c0_0_c0):Mi (CZ a0 a1_c0_0_c0):=by delta CZ;infer_instance
instance:Mi (Da):=by delta Da;infer_instance
instance (a0) (a1_c0) (s):Mi (CM a0 a1_c0 s):=by delta CM;infer_instance
instance (a0) (a1_c0) (s):Mi (Ei a0 a1_c0 s):=by delta Ei;infer_instance
instance (a0) (a1_c0):Mi (DH a0 a1_c0):=by delta DH;infer_instance
instance (a0) (a1_c0):Mi (Db a0 a1_c0):=by delta Db;infer_instance
instance (a0) (a1_0_c0) (_a2):Mi (Il a0 a1_0_c0 _a2):=by delta Il;infer_instance
instance (a) (b):Mi (H6 a b):=by delta H6;infer_instance
instance (a0) (a) (s):Mi (GQ a0 a s):=by obtain⟨c,b⟩:=s;delta GQ;dsimp only;repeat' first | (show Mi _;infer_instance) | refine @iB _ _ _ _ ?_ (fun _=>?_) | refine @iC _ _ _ _ ?_ | refine @iI _ _ _ _ _ ?_ ?_
instance (a0) (a) (s):Mi (J0 a0 a s):=by delta J0;infer_instance
instance (a):Mi (H7 a):=by delta H7;infer_instance
instance (a0) (s):Mi (GR a0 s):=by obtain⟨b,a⟩:=s;delta GR;dsimp only;infer_instance
instance (a0) (s):Mi (J1 a0 s):=by delta J1;infer_instance
instance (a0):Mi (Ia a0):=by delta Ia;infer_instance
instance:Mi (Ea):=by delta Ea;infer_instance
instance (a0) (a1) (s):Mi (DM a0 a1 s):=by delta DM;infer_instance
instance (a0) (a1) (s):Mi (F4 a0 a1 s):=by delta F4;infer_instance
instance (a0) (a1):Mi (DN a0 a1):=by delta DN;infer_instance
instance:Mi (D6):=by delta D6;infer_instance
instance (a0) (a1) (s):Mi (Cv a0 a1 s):=by delta Cv;infer_instance
instance (a0) (a1) (s):Mi (C4 a0 a1 s):=by delta C4;infer_instance
instance (a0) (a1):Mi (Et a0 a1):=by delta Et;infer_instance
instance (a0) (a1):Mi (Cj a0 a1):=by delta Cj;infer_instance
instance (a0) (a1):Mi (GC a0 a1):=by delta GC;infer_instance
instance (a0):Mi (BK a0):=by delta BK;infer_instance
instance (a0):Mi (Dt a0):=by delta Dt;infer_instance
instance (a0):Mi (CT a0):=by delta CT;infer_instance
instance:Mi (XX):=by delta XX;infer_instance
theorem UI:XX=some true:=(inferInstance:Mi XX).h true V
end
theorem UJ(x:Int):∀(l:QqX) (k:Nat),l.length<1000000->k<=l.length->∃r,C4 l x (k:Int)=some r/\(0<=r↔x∈l.drop k):=by
 intro l k hl hk;generalize hd:l.length - k=d
 induction d generalizing k with
 | zero=>
  have:k=l.length:=by omega
  subst this;refine⟨-1,?_,by simp⟩;unfold C4;refine BY (m:=some (-1)) ?_;unfold Cv D6;rw[if_neg U]
 | succ d ih=>
  have hlt:k<l.length:=by omega
  have hm:l.getD k Qqf=l[k]:=by simp[QzX,hlt]
  have a:(k:Int).toNat=k:=Z
  by_cases h:x=l[k]
  ·refine⟨k,?_,?_⟩
   ·unfold C4;refine BY (m:=some (k:Int)) ?_;unfold Cv;rw[if_pos U,Ao,a,hm,if_pos h]
   ·rw[Qzc hlt,Qq5];exact⟨fun _=>.inl h,fun _=>by omega⟩
  ·obtain⟨r,b,h2⟩:=ih (k+1) U U;refine⟨r,?_,?_⟩
   ·unfold C4 at b ⊢;rw[BT (s':=((k+1:Nat):Int)) ?_,b];unfold Cv;rw[if_pos U,Ao,a,hm,if_neg h,Ao (h:=(by unfold BX;omega))]
    rfl
   ·rw[Qzc hlt,Qq5,h2];exact⟨.inr,fun q=>q.resolve_left h⟩
theorem contains_eq{l:QqX}(x:Int)(hl:l.length<1000000):Cj l x=some (decide (x∈l)):=by
 obtain⟨r,a,h2⟩:=UJ x l 0 hl (Qq7 _);unfold Cj Et;rw[show(0:Int)=((0:Nat):Int)from Z,a,QqC];rw[Qxz]at h2;simp only[Option.some.injEq,decide_eq_decide];exact h2
def Xj(r:Qq):Option Nat:=
 if r.2.1=1 then(match r.2.2.1 with | b::_=>some (2 ^ b.toNat) | []=>none)
 else if r.2.1=2 then
  let s:=(r.2.2.2.2.2.1 / 2 ^ ((8:Int) * (r.2.2.2.1 - 1)).toNat).toNat
  let t:=(r.2.2.2.2.2.2.1 / 2 ^ ((8:Int) * (r.2.2.2.1 - 1)).toNat).toNat
  if r.2.2.2.2.1=true/\0<=r.2.2.2.2.2.1/\0<=r.2.2.2.2.2.2.1/\s<=t/\t<256/\1<=r.2.2.2.1/\r.2.2.2.1<=4 then some (SR (t+1 - s) s 0)else none
 else if r.2.1=9 then(if 0<=r.2.2.2.2.2.2.2.1/\r.2.2.2.2.2.2.2.1<256 then some (2 ^ r.2.2.2.2.2.2.2.1.toNat)else none)
 else if r.2.1=7\/r.2.1=8\/r.2.1=10 then some 0 else none
theorem SU(r:Qq):CT r=some (decide (r.2.1∈([3,5,9]:QqX))):=by
 unfold CT GC;rw[contains_eq _ Z7]
 rfl
theorem Xk{r:Qq}{m:Nat}(h:Xj r=some m):Jr r=some (Ij m):=by
 unfold Xj at h;unfold Jr
 by_cases c:r.2.1=1
 ·rw[if_pos c]at h ⊢
  cases hb:r.2.2.1 with
  | nil=>rw[hb]at h;cases h
  | cons b l=>
   rw[hb]at h;obtain rfl:=Option.some.inj h;have g:=b.toNat_lt;have e:(b::l).getD ((0:Int).toNat) Qqf=b:=Z;rw[Ao (h:=(by simp only[Qzx];omega)),e,Ao,Mo,show((b.toNat:Int)).toNat=b.toNat from Z,QB U,Nat.zero_or]
 ·rw[if_neg c]at h ⊢
  by_cases h2:r.2.1=2
  ·rw[if_pos h2]at h;dsimp only at h
   split at h
   ·rename_i hc;obtain⟨c1,c2,c3,c4,c5,c6,c7⟩:=hc;obtain rfl:=Option.some.inj h;rw[if_pos (by rw[decide_eq_true h2,c1];rfl)];have p:(0:Int)<2 ^ ((8:Int) * (r.2.2.2.1 - 1)).toNat:=Int.pow_pos Z7;have d:=Int.ediv_nonneg c2 (Int.le_of_lt p);have f:=Int.ediv_nonneg c3 (Int.le_of_lt p);rw[Ao (h:=(by unfold BX;omega)),Ao (h:=(by unfold BX;omega)),Ao,Ao,Mo,<- QzZ d,<- QzZ f,VT c4 c5]
    rfl
   ·cases h
  ·rw[if_neg h2]at h;rw[if_neg (by rw[decide_eq_false h2];simp),if_neg h2]
   by_cases a:r.2.1=9
   ·rw[if_pos a]at h
    split at h
    ·rename_i hc;obtain rfl:=Option.some.inj h;rw[if_neg U,if_neg U];unfold HY;rw[if_neg (by simp[a]),SU,QqC,if_pos (by simp[a]),Ao (h:=hc),Mo,QB U,Nat.zero_or]
    ·cases h
   ·rw[if_neg a]at h
    split at h
    ·rename_i hc;obtain rfl:=Option.some.inj h;rw[if_neg U,if_neg U];unfold HY;rw[if_neg (by simp;omega),SU,QqC,if_neg (by simp;omega),Mo]
    ·cases h
theorem Xl{r:Qq}{M:List Nat}{k i a:Nat}(hi:((r.2.2.2.2.2.2.2.2.2.2.2.getD k Qqf).toNat)=i)(hM:i<M.length)(hk:k<1000)(hd:a &&& M.getD i 0=0):
  KA r (M.map Ij) (k:Int) (Ij a,0)=some (.inl (Ij (a ||| M.getD i 0),((k+1:Nat):Int))):=by
 have key:=Hu (EI r (M.map Ij) (k:Int)) (fun c=>(mix c (Ij a) (Ij (M.getD i 0)),(c:Int))) 256 (some (.inl (Ij (a ||| M.getD i 0),((k+1:Nat):Int)))) (fun c hc=>?_) ?_ 0 U
 ·rw[R3]at key;exact key
 ·unfold EI;dsimp only;have f:(k:Int).toNat=k:=Z;have g:(c:Int).toNat=c:=Z;have hm:mix c (Ij a) (Ij (M.getD i 0)) c=Ij a c:=by unfold mix;rw[if_neg (Nat.lt_irrefl _)]
  rw[if_pos U,Ao,f,g,hi,getD_map hM,hm]
  have hno : ¬(Ij (M.getD i 0) c=true/\Ij a c=true):=by
   rintro⟨d,e⟩;unfold Ij at d e;simp only[Qq4]at d e;have:(a &&& M.getD i 0).testBit c=true:=by rw[Nat.testBit_and,d.2,e.2];rfl
   rw[hd]at this;simp at this
  by_cases h:Ij (M.getD i 0) c=true
  ·have h':Ij a c=false:=by
    cases h2:Ij a c
    ·rfl
    ·exact absurd ⟨h,h2⟩ hno
   rw[if_pos h,Ao,h',if_neg Z8,Ao,Ao,Ao (h:=(by unfold BX;omega))];simp only[cond_false];rw[NF (by rw[h'];rfl)]
   rfl
  ·rw[if_neg h,Ao,Ao,Ao (h:=(by unfold BX;omega)),NF (by cases Ij a c <;> rfl)]
   rfl
 ·unfold EI I4;dsimp only;rw[if_neg U,Ao (h:=(by unfold BX;omega)),SQ]
  rfl
def VZ(M:List Nat):QqX->Nat->Bool
 | [],_=>true
 | i::x,a=>decide (0<=i/\i.toNat<M.length)&&decide (a &&& M.getD i.toNat 0=0)&&VZ M x (a ||| M.getD i.toNat 0)
theorem Xm{r:Qq}{M:List Nat}{p:QqX}(hp:r.2.2.2.2.2.2.2.2.2.2.2=p)(hl:p.length<1000):∀(k a:Nat),k<=p.length->VZ M (p.drop k) a=true->Gw r (M.map Ij) (Ij a,(k:Int))=some false:=by
 intro k a hk hd;subst hp;generalize hn:r.2.2.2.2.2.2.2.2.2.2.2.length - k=n
 induction n generalizing k a with
 | zero=>
  have:k=r.2.2.2.2.2.2.2.2.2.2.2.length:=by omega
  unfold Gw;refine BY (m:=some false) ?_;unfold FZ Gv;dsimp only;rw[if_neg U]
 | succ n ih=>
  have hlt:k<r.2.2.2.2.2.2.2.2.2.2.2.length:=by omega
  have hm:r.2.2.2.2.2.2.2.2.2.2.2.getD k Qqf=r.2.2.2.2.2.2.2.2.2.2.2[k]:=by simp[QzX,hlt]
  rw[Qzc hlt]at hd;simp only[VZ,Qq4,decide_eq_true_eq]at hd;obtain⟨⟨⟨c,b⟩,h2⟩,h3⟩:=hd;have:=ih (k+1) (a ||| M.getD r.2.2.2.2.2.2.2.2.2.2.2[k].toNat 0) U h3 U;unfold Gw at this ⊢;rw[BT (s':=(Ij (a ||| M.getD r.2.2.2.2.2.2.2.2.2.2.2[k].toNat 0),((k+1:Nat):Int))) ?_,this];unfold FZ;dsimp only;rw[if_pos U,Ao,show(k:Int).toNat=k from Z,hm,Ao (h:=(by rw[Qq9];omega))];exact Xl (by rw[hm]) b U h2
def UK(M:List Nat)(r:Qq):Bool:=
 if r.2.1=9 then decide (0<=r.2.2.2.2.2.2.2.2.2.1/\r.2.2.2.2.2.2.2.2.2.1.toNat<M.length/\0<=r.2.2.2.2.2.2.2.1/\r.2.2.2.2.2.2.2.1<256)&&!((M.getD r.2.2.2.2.2.2.2.2.2.1.toNat 0).testBit r.2.2.2.2.2.2.2.1.toNat)
 else if r.2.1=8 then decide (r.2.2.2.2.2.2.2.2.2.2.2.length<1000)&&VZ M r.2.2.2.2.2.2.2.2.2.2.2 0 else true
theorem Wa{M:List Nat}{r:Qq}(h:UK M r=true):Ii r (M.map Ij)=some false:=by
 unfold UK at h;unfold Ii
 by_cases a:r.2.1=9
 ·rw[if_pos a]at h ⊢;simp only[Qq4,decide_eq_true_eq,Bool.not_eq_true']at h;obtain⟨⟨e,h2,h3,c⟩,d⟩:=h;rw[Ao (h:=(by rw[Qq9];omega)),Ao (h:=⟨h3,c⟩),getD_map h2];unfold Ij;rw[d,Bool.and_false]
 ·rw[if_neg a]at h ⊢
  by_cases b:r.2.1=8
  ·rw[if_pos b]at h ⊢;simp only[Qq4,decide_eq_true_eq]at h;rw[Mo];exact Xm Z h.1 0 0 (Qq7 _) (by rw[Qxz];exact h.2)
  ·rw[if_neg b]
   rfl
theorem SV{p:Nat->Bool}(h:(Qze 17).all p=true){k:Nat}(hk:k<17):p k=true:=by
 rw[Qxx]at h;exact h k (List.mem_range.2 hk)
theorem Xn{k:Nat}(hk:k<17):Jr (SF.getD k Qqf)=some (Ij (SO.getD k 0)):=by
 have h:(Qze 17).all (fun k=>decide (Xj (SF.getD k Qqf)=some (SO.getD k 0)))=true:=by kernel_rfl
 exact Xk (of_decide_eq_true (SV h hk))
theorem TB{k:Nat}(hk:k<17):Dt (SF.getD k Qqf)=some (SB.getD k []):=by
 have h:(Qze 17).all (fun k=>decide ((inferInstance:Mi (Dt (SF.getD k Qqf))).c=some (SB.getD k [])))=true:=by kernel_rfl
 exact(inferInstance:Mi (Dt (SF.getD k Qqf))).h _ (of_decide_eq_true (SV h hk))
theorem Qt:HZ SF=some (SM.map Ij):=by
 have hx:(Qze 17).all (fun k=>(SB.getD k []).all (fun i=>decide (0<=i/\i<17))&&decide ((SB.getD k []).length<1000))=true:=by kernel_rfl
 have:=T4 (F:=SF) (B:=SB) V Z7 (fun k hk=>TB hk) (fun k hk=>by
  have h:=SV hx hk;simp only[Qq4,Qxx,decide_eq_true_eq]at h;exact h) (M:=SO) V (fun k hk=>Xn hk)
 rw[this];have e:rounds SB SF.length SO=SM:=by kernel_rfl
 rw[e]
theorem XZ:G8 SF=some (0,0):=by
 have hA:=UI;unfold XX at hA;obtain⟨d,a,hA⟩:=bind_some hA;obtain⟨c,h2,hA⟩:=bind_some hA;obtain⟨_,_,hA⟩:=bind_some hA;obtain⟨_,_,hA⟩:=bind_some hA;have h3:c<0:=by simpa using hA
 unfold G8;rw[a,QqC,h2,QqC,if_neg U,Qt,QqC];have hc:(Qze 17).all (fun k=>UK SM (SF.getD k Qqf))=true:=by kernel_rfl
 refine Hu (Gk SF (SM.map Ij)) (fun i=>(i:Int)) 17 (some (0,0)) (fun i hi=>?_) ?_ 0 U
 ·unfold Gk;have hl:(SF.length:Int)=17:=by decide
  rw[if_pos U,Ao,show(i:Int).toNat=i from Z,Wa (SV hc hi),QqC,if_neg Z8,Ao (h:=(by unfold BX;omega))]
  rfl
 ·unfold Gk Ke;have hl:(SF.length:Int)=17:=by decide
  rw[if_neg U]
instance YW (a:List Qq):Mi (G8 a):=⟨if a=SF then some (0,0)else none,fun r h=>by
 split at h
 ·rename_i e;subst e;rw[XZ];exact h
 ·cases h⟩
noncomputable section
instance:Mi (FE):=by delta FE;repeat' first | (show Mi _;infer_instance) | refine @iB _ _ _ _ ?_ (fun _=>?_) | refine @iC _ _ _ _ ?_ | refine @iI _ _ _ _ _ ?_ ?_
instance (a0) (a1):Mi (JC a0 a1):=by delta JC;infer_instance
instance:Mi (Cx):=by delta Cx;infer_instance
instance (a0) (a1_c0) (s):Mi (Cr a0 a1_c0 s):=by delta Cr;infer_instance
instance (a0) (a1_c0) (s):Mi (Dd a0 a1_c0 s):=by delta Dd;infer_instance
instance (a0) (a1_c0):Mi (CF a0 a1_c0):=by delta CF;infer_instance
instance (a0) (a1):Mi (JV a0 a1):=by delta JV;infer_instance
instance (a0):Mi (BE a0):=by delta BE;infer_instance
instance (a1) (b) (a):Mi (FM a1 b a):=by delta FM;infer_instance
instance (a1) (b) (a):Mi (FN a1 b a):=by delta FN;repeat' first | (show Mi _;infer_instance) | refine @iB _ _ _ _ ?_ (fun _=>?_) | refine @iC _ _ _ _ ?_ | refine @iI _ _ _ _ _ ?_ ?_
instance (a0) (a1) (a):Mi (GX a0 a1 a):=by delta GX;repeat' first | (show Mi _;infer_instance) | refine @iB _ _ _ _ ?_ (fun _=>?_) | refine @iC _ _ _ _ ?_ | refine @iI _ _ _ _ _ ?_ ?_
instance (a0) (a1) (a2) (s):Mi (G2 a0 a1 a2 s):=by obtain⟨b,a⟩:=s;delta G2;dsimp only;infer_instance
instance (a0) (a1) (a2) (s):Mi (IZ a0 a1 a2 s):=by delta IZ;infer_instance
instance (a0) (a1) (a2):Mi (Ja a0 a1 a2):=by delta Ja;infer_instance
instance (a0):Mi (Ej a0):=by delta Ej;infer_instance
instance (a0) (a1) (a2):Mi (GB a0 a1 a2):=by delta GB;infer_instance
instance (a0):Mi (AT a0):=by delta AT;infer_instance
instance (a0):Mi (Du a0):=by delta Du;infer_instance
instance (a0):Mi (EE a0):=by delta EE;infer_instance
instance (a0):Mi (JA a0):=by delta JA;repeat' first | (show Mi _;infer_instance) | refine @iB _ _ _ _ ?_ (fun _=>?_) | refine @iC _ _ _ _ ?_ | refine @iI _ _ _ _ _ ?_ ?_
instance (a0) (a1):Mi (FB a0 a1):=by delta FB;infer_instance
instance (a0) (a1_0_c0):Mi (Ik a0 a1_0_c0):=by delta Ik;infer_instance
instance:Mi (DE):=by delta DE;infer_instance
instance (a0) (a1_c0_0_c0) (s):Mi (Dx a0 a1_c0_0_c0 s):=by delta Dx;infer_instance
instance (a0) (a1_c0_0_c0) (s):Mi (ET a0 a1_c0_0_c0 s):=by delta ET;infer_instance
instance (a0) (a1_c0_0_c0):Mi (Ep a0 a1_c0_0_c0):=by delta Ep;infer_instance
instance (a0) (a1_c0_0_c0):Mi (DF a0 a1_c0_0_c0):=by delta DF;infer_instance
instance (a0) (a1):Mi (JB a0 a1):=by delta JB;repeat' first | (show Mi _;infer_instance) | refine @iB _ _ _ _ ?_ (fun _=>?_) | refine @iC _ _ _ _ ?_ | refine @iI _ _ _ _ _ ?_ ?_
instance (a0) (a2) (a):Mi (EJ a0 a2 a):=by delta EJ;infer_instance
instance (a0) (a1) (a2):Mi (HA a0 a1 a2):=by delta HA;repeat' first | (show Mi _;infer_instance) | refine @iB _ _ _ _ ?_ (fun _=>?_) | refine @iC _ _ _ _ ?_ | refine @iI _ _ _ _ _ ?_ ?_
instance:Mi (Di):=by delta Di;infer_instance
instance (a0) (a1) (s):Mi (CV a0 a1 s):=by delta CV;infer_instance
instance (a0) (a1) (s):Mi (Eu a0 a1 s):=by delta Eu;infer_instance
instance (a0) (a1):Mi (CO a0 a1):=by delta CO;infer_instance
instance (a0) (a1):Mi (Cl a0 a1):=by delta Cl;infer_instance
instance (a1) (a) (b):Mi (Fh a1 a b):=by delta Fh;repeat' first | (show Mi _;infer_instance) | refine @iB _ _ _ _ ?_ (fun _=>?_) | refine @iC _ _ _ _ ?_ | refine @iI _ _ _ _ _ ?_ ?_
instance:Mi (Gy):=by delta Gy;infer_instance
instance (a0) (a1) (s):Mi (Gb a0 a1 s):=by delta Gb;infer_instance
instance (a0) (a1) (s):Mi (I7 a0 a1 s):=by delta I7;infer_instance
instance (a0) (a1):Mi (Fi a0 a1):=by delta Fi;infer_instance
instance (a0) (a1):Mi (Im a0 a1):=by delta Im;infer_instance
instance (a0):Mi (C9 a0):=by delta C9;infer_instance
instance (_l65):Mi (HB _l65):=by delta HB;infer_instance
instance (a0) (a1) (s):Mi (GW a0 a1 s):=by obtain⟨a,b⟩:=s;delta GW;dsimp only;repeat' first | (show Mi _;infer_instance) | refine @iB _ _ _ _ ?_ (fun _=>?_) | refine @iC _ _ _ _ ?_ | refine @iI _ _ _ _ _ ?_ ?_
instance (a0) (a1) (s):Mi (J2 a0 a1 s):=by delta J2;infer_instance
instance (a0) (a1):Mi (JD a0 a1):=by delta JD;infer_instance
instance (a0) (s):Mi (HC a0 s):=by delta HC;infer_instance
instance (a0) (s):Mi (Kf a0 s):=by delta Kf;infer_instance
instance (a0):Mi (Ir a0):=by delta Ir;infer_instance
instance (a0) (s):Mi (HD a0 s):=by delta HD;infer_instance
instance (a0) (s):Mi (Kg a0 s):=by delta Kg;infer_instance
instance (a0):Mi (Is a0):=by delta Is;infer_instance
instance (a0) (s):Mi (HE a0 s):=by delta HE;infer_instance
instance (a0) (s):Mi (Kh a0 s):=by delta Kh;infer_instance
instance (a0):Mi (Ku a0):=by delta Ku;infer_instance
instance (a0) (a1) (a2):Mi (CU a0 a1 a2):=by delta CU;infer_instance
instance (a0) (a1) (c) (a) (b):Mi (Gj a0 a1 c a b):=by delta Gj;infer_instance
instance (a):Mi (IW a):=by delta IW;infer_instance
instance (a0) (a1) (s):Mi (Io a0 a1 s):=by obtain⟨b,a⟩:=s;delta Io;dsimp only;repeat' first | (show Mi _;infer_instance) | refine @iB _ _ _ _ ?_ (fun _=>?_) | refine @iC _ _ _ _ ?_ | refine @iI _ _ _ _ _ ?_ ?_
instance (a0) (a1) (s):Mi (KB a0 a1 s):=by delta KB;infer_instance
instance (a0) (a1) (c) (b) (a):Mi (Hk a0 a1 c b a):=by delta Hk;repeat' first | (show Mi _;infer_instance) | refine @iB _ _ _ _ ?_ (fun _=>?_) | refine @iC _ _ _ _ ?_ | refine @iI _ _ _ _ _ ?_ ?_
instance (a0) (a1) (b) (a):Mi (IX a0 a1 b a):=by delta IX;infer_instance
instance (a0) (a1) (b) (s):Mi (Ip a0 a1 b s):=by obtain⟨c,a⟩:=s;delta Ip;dsimp only;repeat' first | (show Mi _;infer_instance) | refine @iB _ _ _ _ ?_ (fun _=>?_) | refine @iC _ _ _ _ ?_ | refine @iI _ _ _ _ _ ?_ ?_
instance (a0) (a1) (a) (s):Mi (KC a0 a1 a s):=by delta KC;infer_instance
instance (a0) (a1) (a):Mi (IY a0 a1 a):=by delta IY;infer_instance
instance (a0) (a1):Mi (KW a0 a1):=by delta KW;infer_instance
instance (a):Mi (It a):=by delta It;infer_instance
instance (a0) (s):Mi (HF a0 s):=by obtain⟨b,a⟩:=s;delta HF;dsimp only;infer_instance
instance (a0) (s):Mi (Ki a0 s):=by delta Ki;infer_instance
instance (a0):Mi (Kv a0):=by delta Kv;infer_instance
instance (a0):Mi (Dy a0):=by delta Dy;infer_instance
instance (a):Mi (Iu a):=by delta Iu;infer_instance
instance (b) (c) (s):Mi (HG b c s):=by obtain⟨d,a⟩:=s;delta HG;dsimp only;infer_instance
instance (a) (b) (s):Mi (Kk a b s):=by delta Kk;infer_instance
instance (a) (b):Mi (Iv a b):=by delta Iv;infer_instance
instance (a0) (a1) (a):Mi (CA a0 a1 a):=by delta CA;infer_instance
instance (a0) (a1):Mi (DP a0 a1):=by delta DP;infer_instance
instance (a0) (a1):Mi (Er a0 a1):=by delta Er;infer_instance
instance (a0) (a1):Mi (JU a0 a1):=by delta JU;infer_instance
instance (a0) (a1):Mi (strings_Split a0 a1):=by delta strings_Split;infer_instance
instance (a0):Mi (Cf a0):=by delta Cf;infer_instance
instance (c) (a) (b):Mi (FL c a b):=by delta FL;infer_instance
instance (b) (s):Mi (F2 b s):=by obtain⟨c,d,a⟩:=s;delta F2;dsimp only;repeat' first | (show Mi _;infer_instance) | refine @iB _ _ _ _ ?_ (fun _=>?_) | refine @iC _ _ _ _ ?_ | refine @iI _ _ _ _ _ ?_ ?_
instance (a) (s):Mi (Hl a s):=by delta Hl;infer_instance
instance (a0):Mi (GV a0):=by delta GV;infer_instance
instance (a0):Mi (CP a0):=by delta CP;infer_instance
instance (a0):Mi (Gc a0):=by delta Gc;infer_instance
instance (a0) (a1) (a):Mi (Ee a0 a1 a):=by delta Ee;infer_instance
instance (a0) (a1):Mi (D1 a0 a1):=by delta D1;infer_instance
instance (b) (c) (d) (e) (a):Mi (DQ b c d e a):=by delta DQ;infer_instance
instance (a) (b) (c) (d):Mi (Df a b c d):=by delta Df;infer_instance
instance (a) (b) (c) (d):Mi (EU a b c d):=by delta EU;infer_instance
instance (a1) (s):Mi (E8 a1 s):=by obtain⟨a,b,c,d⟩:=s;delta E8;dsimp only;infer_instance
instance (a1) (s):Mi (Gz a1 s):=by delta Gz;infer_instance
instance (a0) (a1):Mi (Gd a0 a1):=by delta Gd;infer_instance
instance (b) (c) (m) (d) (e) (f) (g) (h) (i) (j) (k) (l) (a):Mi (EK b c m d e f g h i j k l a):=by delta EK;infer_instance
instance (a) (b) (c) (d) (i) (j) (k) (l) (e) (f) (g) (h):Mi (Fj a b c d i j k l e f g h):=by delta Fj;infer_instance
instance (a) (b) (c) (d) (h) (i) (j) (k) (e) (f) (g):Mi (Fk a b c d h i j k e f g):=by delta Fk;infer_instance
instance (a) (b) (c) (d) (h) (i) (j) (k) (e) (f) (g):Mi (Fl a b c d h i j k e f g):=by delta Fl;infer_instance
instance (a) (b) (c) (h) (i) (j) (k) (d) (e) (f) (g):Mi (Fm a b c h i j k d e f g):=by delta Fm;infer_instance
instance (a) (g) (h) (i) (j) (b) (c) (d) (e) (f):Mi (Fo a g h i j b c d e f):=by delta Fo;infer_instance
instance (e) (f) (g) (h) (a) (b) (c) (d):Mi (Fp e f g h a b c d):=by delta Fp;infer_instance
instance (a) (b) (g) (c) (d) (e) (f):Mi (Fq a b g c d e f):=by delta Fq;infer_instance
instance (a) (f) (b) (c) (d) (e):Mi (Fs a f b c d e):=by delta Fs;infer_instance
instance (a) (b) (c):Mi (G0 a b c):=by delta G0;infer_instance
instance (a0):Mi (Iq a0):=by delta Iq;repeat' first | (show Mi _;infer_instance) | refine @iB _ _ _ _ ?_ (fun _=>?_) | refine @iC _ _ _ _ ?_ | refine @iI _ _ _ _ _ ?_ ?_
instance (s):Mi (HH s):=by obtain⟨c,d,a,b⟩:=s;delta HH;dsimp only;infer_instance
instance (s):Mi (Kl s):=by delta Kl;infer_instance
instance (a0):Mi (HI a0):=by delta HI;infer_instance
instance:Mi (XY):=by delta XY;infer_instance
theorem UL:XY=some true:=(inferInstance:Mi XY).h true V
end
theorem M6:Dy SF=some (0,0):=(inferInstance:Mi (Dy SF)).h (0,0) V
theorem UM:QqB FE (fun x=>HI x)=some (SF,(0,0)):=by
 have h:=UL;unfold XY at h;obtain⟨b,a,h⟩:=bind_some h;obtain⟨c,h2,h⟩:=bind_some h;rw[a,QqC,h2];have:=of_decide_eq_true (Option.some.inj h);rw[this]
def Hs(m:Nat):Nat->QqX
 | 0=>[]
 | n+1=>Hs m n++(if m.testBit n then[(n:Int)]else[])
theorem Ov(m:Nat):∀n,(Hs m n).length<=n
 | 0=>Qq0 _
 | n+1=>by
  have:=Ov m n;unfold Hs;rw[Qq1]
  split <;> simp <;> omega
theorem RB{m c:Nat}:∀n,(c:Int)∈Hs m n↔c<n/\m.testBit c=true
 | 0=>by simp[Hs]
 | n+1=>by
  unfold Hs;rw[QzC,RB n]
  by_cases e:c=n
  ·subst e
   cases h:m.testBit c <;> simp
  ·have b : ¬((c:Int)=(n:Int)):=by omega
   cases h:m.testBit n
   ·simp only[Bool.false_eq_true,if_false,Qzj,or_false]
    constructor
    ·rintro⟨a,h2⟩;exact⟨by omega,h2⟩
    ·rintro⟨a,h2⟩;exact⟨by omega,h2⟩
   ·simp only[if_true,Qxf,b,or_false]
    constructor
    ·rintro⟨a,h2⟩;exact⟨by omega,h2⟩
    ·rintro⟨a,h2⟩;exact⟨by omega,h2⟩
theorem UN{M:List Nat}{k:Nat}(hk:k<M.length):LX (k:Int) (M.map Ij) ([],0)=some (Hs (M.getD k 0) 256,(0,0)):=by
 refine Hu (Gl (k:Int) (M.map Ij)) (fun i=>(Hs (M.getD k 0) i,(i:Int))) 256 (some (Hs (M.getD k 0) 256,(0,0))) (fun i hi=>?_) ?_ 0 U
 ·unfold Gl;dsimp only;have hl:=Ov (M.getD k 0) i;rw[if_pos U,Ao,show(k:Int).toNat=k from Z,show(i:Int).toNat=i from Z,getD_map hk];have e:Ij (M.getD k 0) i=(M.getD k 0).testBit i:=by unfold Ij;simp[hi]
  rw[e]
  cases h:(M.getD k 0).testBit i
  ·rw[if_neg Z8,Ao (h:=(by unfold BX;omega)),show Hs (M.getD k 0) (i+1)=Hs (M.getD k 0) i by rw[Hs,h];simp]
   rfl
  ·rw[if_pos Z,Ao (h:=(by unfold Gg;simp only[Qzk];omega)),Ao (h:=(by unfold BX;omega)),show Hs (M.getD k 0) (i+1)=Hs (M.getD k 0) i++[(i:Int)] by rw[Hs,h];rfl]
   rfl
 ·unfold Gl Kj;dsimp only;rw[if_neg U]
theorem IF:(SF.length:Int)=17:=by decide
theorem UO{k:Nat}(hk:k<17):Kw SF (k:Int)=some (Hs (SM.getD k 0) 256,(0,0)):=by
 unfold Kw I8 GB;rw[M6,QqC,if_pos ⟨Z,Z⟩,IF,Ao (h:=(by decide)),QqC,if_neg (by simp;omega),QqC,if_pos ⟨Z,Z⟩,Qt,QqC];have hM:SM.length=17:=by kernel_rfl
 rw[Ao (h:=(by rw[Qq9,hM];omega))];exact UN U
def SL:List QqX:=SM.map fun m=>Hs m 256
theorem get_map(M:List Nat)(i:Nat)(h:i<(M.map fun m=>Hs m 256).length):(M.map fun m=>Hs m 256)[i]=Hs (M.getD i 0) 256:=by
 rw[Qq9]at h;simp[QzX,h]
theorem RC:Km SF=some SL:=by
 have hM:SM.length=17:=by kernel_rfl
 have hS:SL.length=17:=by unfold SL;rw[Qq9,hM]
 have:=Hu (EL SF) (fun i=>(SL.take i,(i:Int))) 17 (some SL) (fun i hi=>?_) ?_ 0 U
 ·exact this
 ·unfold EL;dsimp only;rw[IF,if_pos U,UO hi,QqC,Ao (h:=(by unfold Gg;rw[Qz9];simp only[Qzk];omega)),Ao (h:=(by unfold BX;omega))]
  have e:SL.take (i+1)=SL.take i++[Hs (SM.getD i 0) 256]:=by
   rw[Qxd U,show SL[i]=Hs (SM.getD i 0) 256 from get_map SM i _]
  rw[e]
  rfl
 ·unfold EL I9;dsimp only;rw[IF,if_neg U,Qz8 U]
abbrev Rd:=List Qq×List QqX×QqZ×Int
abbrev R(d:QqZ)(i:Nat):Rd:=(SF,SL,d,(i:Int))
theorem F0{d y:QqZ}{i:Nat}{c:UInt8}(h:d.drop i=c::y):i<d.length/\d.getD i Qqf=c/\d.drop (i+1)=y:=by
 have hi:i<d.length:=by
  rcases Qzd i d.length with q | q
  ·exact q
  ·rw[Qxk q]at h;cases h
 rw[Qzc hi]at h;simp only[List.cons.injEq]at h;exact⟨hi,by simp[QzX,hi,h.1],h.2⟩
theorem OQ{d y:QqZ}{i:Nat}{c:UInt8}(h:d.drop i=c::y):CB (R d i)=some c:=by
 obtain⟨a,h2,h3⟩:=F0 h;unfold CB;dsimp only;rw[if_neg U,Ao,show(i:Int).toNat=i from Z,h2]
theorem QJ{d x y:QqZ}{i:Nat}(hd:d.length<=1000)(hi:i<=d.length)(h:d.drop i=x++y):D9 (R d i) (x.length:Int)=some (x,R d (i+x.length)):=by
 have hl:d.length - i=x.length+y.length:=by rw[<- Qzv,h,Qq1]
 unfold D9;dsimp only;rw[Ao (h:=(by unfold BX;omega)),if_neg U,Ao (h:=(by unfold BX;omega)),Ao,Ao (h:=(by unfold BX;omega))];have e:((i:Int)+(x.length:Int)).toNat - (i:Int).toNat=x.length:=by omega
 rw[e,show(i:Int).toNat=i from Z,h,List.take_left]
 rfl
theorem Xo{d y:QqZ}{x:QqZ}{i:Nat}(hd:d.length<=1000)(hi:i<=d.length)(h:d.drop i=x++y):D8 (R d i) x=some (R d (i+x.length)):=by
 have hl:d.length - i=x.length+y.length:=by rw[<- Qzv,h,Qq1]
 unfold D8 Hm;dsimp only;have:=Hu (CJ (R d i) x) (fun j=>(((i+j:Nat):Int),(j:Int))) x.length (some (R d (i+x.length))) (fun j hj=>?_) ?_ 0 (Qq7 _)
 ·exact this
 ·unfold CJ;dsimp only
  have a:d.drop (i+j)=x[j]::(x.drop (j+1)++y):=by
   rw[<- List.drop_drop,h,List.drop_append_of_le_length U,Qzc hj]
   rfl
  rw[if_pos U,Ao,OQ a,QqC];have e:x.getD ((j:Int).toNat) Qqf=x[j]:=by simp[QzX,hj]
  rw[e,if_pos Z,Ao (h:=(by unfold BX;omega)),Ao (h:=(by unfold BX;omega))]
  rfl
 ·unfold CJ;dsimp only;rw[if_neg U]
theorem SW{d y:QqZ}{i:Nat}{c:UInt8}{r:Qq}(hd:d.length<=1000)(h:d.drop i=c::y)(hk:r.2.1=2)(hs:r.2.2.2.1=1)(hb:r.2.2.2.2.1=true)(a:r.2.2.2.2.2.1<=(c.toNat:Int))(h2:(c.toNat:Int)<=r.2.2.2.2.2.2.1):Cc (R d i) r=some ((c.toNat:Int),R d (i+1)):=by
 have hc:=c.toNat_lt;have ht:=QJ (x:=[c]) (y:=y) hd (Nat.le_of_lt (F0 h).1) h;unfold Cc;rw[if_neg U,hs,show(1:Int)=(([c]:QqZ).length:Int)from Z,ht,QqC];unfold F6;rw[BT (s':=((c.toNat:Int),(1:Int))) ?_]
 ·refine BY (m:=some ((c.toNat:Int),R d (i+1))) ?_;unfold Cg Eb;dsimp only;rw[if_neg Z8,if_neg (by simp;omega)]
  rfl
 ·unfold Cg;dsimp only;rw[if_pos Z8,Ao (h:=(by simp)),if_pos hb,Ao (h:=(by decide)),Ao (h:=(by simp only[QxQ,show((0:Int)).toNat=0 from Z];omega)),Ao (h:=(by decide))];simp
theorem SX{d y:QqZ}{i:Nat}{a c:UInt8}{r:Qq}(hd:d.length<=1000)(h:d.drop i=a::c::y)(hk:r.2.1=2)(hs:r.2.2.2.1=2)(hb:r.2.2.2.2.1=true)(b:r.2.2.2.2.2.1=0)(h2:r.2.2.2.2.2.2.1=65535):Cc (R d i) r=some (((a.toNat * 256+c.toNat:Nat):Int),R d (i+2)):=by
 have ha:=a.toNat_lt;have hc:=c.toNat_lt;have ht:=QJ (x:=[a,c]) (y:=y) hd (Nat.le_of_lt (F0 h).1) h
 have hor:a.toNat * 256 ||| c.toNat=a.toNat * 256+c.toNat:=by
  rw[show a.toNat * 256=a.toNat <<< 8 by rw[Nat.shiftLeft_eq],Nat.shiftLeft_add_eq_or_of_lt U]
 unfold Cc;rw[if_neg U,hs,show(2:Int)=(([a,c]:QqZ).length:Int)from Z,ht,QqC];unfold F6;rw[BT (s':=((a.toNat:Int),(1:Int))) ?_,BT (s':=(((a.toNat * 256+c.toNat:Nat):Int),(2:Int))) ?_]
 ·refine BY (m:=some (((a.toNat * 256+c.toNat:Nat):Int),R d (i+2))) ?_;unfold Cg Eb;dsimp only;rw[if_neg Z8,if_neg (by simp;omega)]
  rfl
 ·unfold Cg;dsimp only;rw[if_pos Z8,Ao (h:=(by simp)),if_pos hb,Ao (h:=(by unfold BX;omega)),Ao (h:=(by simp only[show((1:Int)).toNat=1 from Z,List.getD_cons_succ,QxQ];omega)),Ao (h:=(by decide))];simp only[show((1:Int)).toNat=1 from Z,List.getD_cons_succ,QxQ]
  have e:((a.toNat:Int) * 256).toNat ||| (c.toNat:Int).toNat=a.toNat * 256+c.toNat:=by
   rw[show((a.toNat:Int) * 256).toNat=a.toNat * 256 by omega,show(c.toNat:Int).toNat=c.toNat from Z,hor]
  rw[e]
  rfl
 ·unfold Cg;dsimp only;rw[if_pos Z8,Ao (h:=(by simp)),if_pos hb,Ao (h:=(by decide)),Ao (h:=(by simp only[QxQ,show((0:Int)).toNat=0 from Z];omega)),Ao (h:=(by decide))];simp
abbrev Jh(n:Int):Pv:=.mk 1 n [] [] []
abbrev Ow(b:QqZ):Pv:=.mk 2 0 b [] []
abbrev MX(l:List Pv):Pv:=.mk 3 0 [] [] l
abbrev M7(ns:QqA)(l:List Pv):Pv:=.mk 4 0 [] ns l
abbrev NP:QqZ:=[99,104,117,110,107,115]
abbrev Jm:QqZ:=[114,97,116,101]
abbrev EZ:QqZ:=[99,104,97,110,110,101,108,115]
abbrev KZ:QqZ:=[99,111,100,105,110,103]
abbrev IL:QqZ:=[100,97,116,97]
abbrev M8:QqZ:=[110,97,109,101]
abbrev YX:=Rd->Int->Option (Pv×Rd)
section
variable {self:YX}{d:QqZ}{i k:Nat}{r:Qq} (hk:k<17) (hr:SF.getD k Qqf=r)
include hk hr
theorem PC(h2:r.2.1=2):Bn self (R d i) (k:Int)=QqB (Cc (R d i) r) (fun x=>some (Jh x.1,x.2)):=by
 unfold Bn BG G9;dsimp only;rw[show((k:Nat):Int).toNat=k from Z,hr,IF,Ao,if_neg U,if_pos h2,if_pos (by simp[h2])]
 rfl
theorem UP(h2:r.2.1=1):Bn self (R d i) (k:Int)=QqB (D8 (R d i) r.2.2.1) (fun x=>some (MX [],x)):=by
 unfold Bn FR;dsimp only;rw[show((k:Nat):Int).toNat=k from Z,hr,IF,Ao,if_pos h2]
 rfl
theorem TC(h2:r.2.1=10)(a:r.2.2.2.2.2.2.2.2.1=15):Bn self (R d i) (k:Int)=QqB (Cc (R d i) (SF.getD 15 Qqf)) (fun x=>QqB (D9 x.2 x.1) (fun y=>QqB (Gm y.1) (fun z=>some (z,y.2)))):=by
 unfold Bn BG Ex;dsimp only;rw[show((k:Nat):Int).toNat=k from Z,hr,IF,Ao,if_neg U,if_neg U,if_neg (by simp[h2]),if_neg U,if_pos h2,a,Ao,show(15:Int).toNat=15 from Z]
 congr 1
 funext x
 congr 1
 funext y
 unfold Gm
 cases CW y.1 <;> rfl
theorem NQ(h2:r.2.1=7):Bn self (R d i) (k:Int)=Bx (R d i) (k:Int) self (SF,SL,d,(i:Int),[],[],0):=by
 unfold Bn BG E0;dsimp only;rw[show((k:Nat):Int).toNat=k from Z,hr,IF,Ao,if_neg U,if_neg U,if_neg (by simp[h2]),if_neg U,if_neg U,if_neg U,if_neg U,if_neg U,if_neg U]
theorem UQ(h2:r.2.1=9):Bn self (R d i) (k:Int)=CC (R d i) (k:Int) self ([],SF,SL,d,(i:Int)):=by
 unfold Bn BG;dsimp only;rw[show((k:Nat):Int).toNat=k from Z,hr,IF,Ao,if_neg U,if_neg U,if_neg (by simp[h2]),if_neg U,if_neg U,if_neg U,if_neg U,if_pos h2]
omit hk in
theorem PD{j:Nat}{at_ at':Nat}{ns:QqA}{ps:List Pv}{v:Pv}{q:Int}(hj:(j:Int)<(r.2.2.2.2.2.2.2.2.2.2.2.length:Int))(a:(j:Int)<(r.2.2.2.2.2.2.2.2.2.2.1.length:Int))(b:j<100)(hq:r.2.2.2.2.2.2.2.2.2.2.2.getD j Qqf=q)(hn:r.2.2.2.2.2.2.2.2.2.2.1.getD j Qqf=[])
  (hs:self (R d at_) q=some (v,R d at')):Bx (R d i) (k:Int) self (SF,SL,d,(at_:Int),ns,ps,(j:Int))=Bx (R d i) (k:Int) self (SF,SL,d,(at':Int),ns,ps,((j+1:Nat):Int)):=by
 unfold Bx;refine BT ?_;unfold C6;dsimp only;rw[show((k:Nat):Int).toNat=k from Z,hr,show((j:Nat):Int).toNat=j from Z,if_pos hj,Ao,hq,hs,QqC,Ao,if_pos hn,Ao (h:=(by unfold BX;omega))]
 rfl
omit hk in
theorem KL{j:Nat}{at_ at':Nat}{ns:QqA}{ps:List Pv}{v:Pv}{q:Int}{n:QqZ}(hj:(j:Int)<(r.2.2.2.2.2.2.2.2.2.2.2.length:Int))(a:(j:Int)<(r.2.2.2.2.2.2.2.2.2.2.1.length:Int))(b:j<100)(hq:r.2.2.2.2.2.2.2.2.2.2.2.getD j Qqf=q)(hn:r.2.2.2.2.2.2.2.2.2.2.1.getD j Qqf=n)(hne:n≠[])
  (c:ns.length<100) (e:ps.length<100) (hs:self (R d at_) q=some (v,R d at')):Bx (R d i) (k:Int) self (SF,SL,d,(at_:Int),ns,ps,(j:Int))=Bx (R d i) (k:Int) self (SF,SL,d,(at':Int),ns++[n],ps++[v],((j+1:Nat):Int)):=by
 unfold Bx;refine BT ?_;unfold C6;dsimp only;rw[show((k:Nat):Int).toNat=k from Z,hr,show((j:Nat):Int).toNat=j from Z,if_pos hj,Ao,hq,hs,QqC,Ao,hn,if_neg hne,Ao,Ao (h:=(by unfold Gg;simp only[Qzk];omega)),Ao (h:=(by unfold Gg;simp only[Qzk];omega)),Ao (h:=(by unfold BX;omega))]
 rfl
omit hk in
theorem OR{j at_:Nat}{ns:QqA}{ps:List Pv}(hj:((j:Nat):Int)=(r.2.2.2.2.2.2.2.2.2.2.2.length:Int)):Bx (R d i) (k:Int) self (SF,SL,d,(at_:Int),ns,ps,(j:Int))=some (M7 ns ps,R d at_):=by
 unfold Bx;refine BY (m:=some (M7 ns ps,R d at_)) ?_;unfold C6 Ez;dsimp only;rw[show((k:Nat):Int).toNat=k from Z,hr,if_neg U]
end
theorem SZ{x:QqZ}(hx:x.length<=1000000):CW x=some x:=by
 unfold CW;rw[Ao (h:=(by unfold Gg;simp only[Qzu];omega))]
 rfl
theorem UR{x:QqZ}(hx:x.length<=1000000):Gm x=some (Ow x):=by
 unfold Gm;rw[SZ hx]
 rfl
noncomputable abbrev vN:=DA
theorem Ji(m:Nat)(s:Rd)(k:Int):vN (m+1) s k=Bn (vN m) s k:=Z
section
variable {d y:QqZ}{i m:Nat} (hd:d.length<=1000)
include hd
theorem W9{c:UInt8}(h:d.drop i=c::y):vN (m+1) (R d i) 14=some (Jh c.toNat,R d (i+1)):=by
 have hc:=c.toNat_lt;rw[Ji,show(14:Int)=((14:Nat):Int)from Z,PC (r:=SF.getD 14 Qqf) Z7 Z Z,SW hd h Z Z Z (show(0:Int)<=_ by omega) (show _<=(255:Int) by omega)]
 rfl
theorem Ya{a c:UInt8}(h:d.drop i=a::c::y):vN (m+1) (R d i) 15=some (Jh ((a.toNat * 256+c.toNat:Nat):Int),R d (i+2)):=by
 rw[Ji,show(15:Int)=((15:Nat):Int)from Z,PC (r:=SF.getD 15 Qqf) Z7 Z Z,SX hd h Z Z Z Z Z]
 rfl
theorem Sl{k:Nat}{c:UInt8}(hk:k<17)(h:d.drop i=c::y)(h2:(SF.getD k Qqf).2.1=2)(hs:(SF.getD k Qqf).2.2.2.1=1)(hb:(SF.getD k Qqf).2.2.2.2.1=true)(a:(SF.getD k Qqf).2.2.2.2.2.1<=(c.toNat:Int))(b:(c.toNat:Int)<=(SF.getD k Qqf).2.2.2.2.2.2.1):vN (m+1) (R d i) (k:Int)=some (Jh c.toNat,R d (i+1)):=by
 rw[Ji,PC (r:=SF.getD k Qqf) hk Z h2,SW hd h h2 hs hb a b]
 rfl
theorem US{k:Nat}{x:QqZ}(hk:k<17)(h2:(SF.getD k Qqf).2.1=1)(hx:(SF.getD k Qqf).2.2.1=x)(hi:i<=d.length)(h:d.drop i=x++y):vN (m+1) (R d i) (k:Int)=some (MX [],R d (i+x.length)):=by
 rw[Ji,UP (r:=SF.getD k Qqf) hk Z h2,hx,Xo hd hi h]
 rfl
theorem UT{a c:UInt8}{x:QqZ}(h:d.drop i=a::c::(x++y))(hx:x.length=a.toNat * 256+c.toNat):vN (m+1) (R d i) 16=some (Ow x,R d (i+(2+x.length))):=by
 obtain⟨f,_,b⟩:=F0 h;obtain⟨g,_,e⟩:=F0 b;have hl:d.length - i=x.length+y.length+2:=by rw[<- Qzv,h];simp
 rw[Ji,show(16:Int)=((16:Nat):Int)from Z,TC (r:=SF.getD 16 Qqf) Z7 Z Z Z,SX hd h Z Z Z Z Z,QqC,<- hx];dsimp only;rw[QJ (i:=i+2) hd U e,QqC,UR (x:=x) U,QqC,Nat.add_assoc]
theorem QK{k:Nat}{n a c:UInt8}{x:QqZ}{q:Nat}(hk:k<17)(h2:(SF.getD k Qqf).2.1=7)(hns:(SF.getD k Qqf).2.2.2.2.2.2.2.2.2.2.1=[M8,IL])(hps:(SF.getD k Qqf).2.2.2.2.2.2.2.2.2.2.2=[(q:Int),16])
  (hq:vN (m+1) (R d i) (q:Int)=some (Jh n.toNat,R d (i+1))) (h:d.drop i=n::a::c::(x++y)) (hx:x.length=a.toNat * 256+c.toNat):vN (m+2) (R d i) (k:Int)=some (M7 [M8,IL] [Jh n.toNat,Ow x],R d (i+(3+x.length))):=by
 obtain⟨f,_,b⟩:=F0 h;rw[Ji,NQ (r:=SF.getD k Qqf) hk Z h2];rw[show(0:Int)=((0:Nat):Int)from Z,KL (r:=SF.getD k Qqf) (q:=(q:Int)) (n:=M8) Z (by rw[hps];simp) (by rw[hns];simp) Z7 (by rw[hps];rfl) (by rw[hns];rfl) Z7 Z8 Z8 hq];rw[KL (r:=SF.getD k Qqf) (q:=16) (n:=IL) Z (by rw[hps];simp) (by rw[hns];simp) Z7 (by rw[hps];rfl) (by rw[hns];rfl) Z7 Z8 Z8 (UT hd b hx)];rw[OR (r:=SF.getD k Qqf) Z (by rw[hps];rfl)];have e:i+1+(2+x.length)=i+(3+x.length):=by omega
 rw[e]
 rfl
theorem TD{a c:UInt8}{x:QqZ}(h:d.drop i=68::a::c::(x++y))(hx:x.length=a.toNat * 256+c.toNat):vN (m+2) (R d i) 6=some (M7 [IL] [Ow x],R d (i+(3+x.length))):=by
 obtain⟨f,_,b⟩:=F0 h;have hm:vN (m+1) (R d i) 7=some (MX [],R d (i+1)):=US (k:=7) (x:=[68]) hd Z7 Z Z U h;rw[Ji,show(6:Int)=((6:Nat):Int)from Z,NQ (r:=SF.getD 6 Qqf) Z7 Z Z];rw[show(0:Int)=((0:Nat):Int)from Z,PD (r:=SF.getD 6 Qqf) (q:=7) Z Z7 Z7 Z7 Z Z hm];rw[KL (r:=SF.getD 6 Qqf) (q:=16) (n:=IL) Z Z7 Z7 Z7 Z Z Z7 Z8 Z8 (UT hd b hx)];rw[OR (r:=SF.getD 6 Qqf) Z Z7];have e:i+1+(2+x.length)=i+(3+x.length):=by omega
 rw[e]
 rfl
theorem Xp{a b c e:UInt8}(h:d.drop i=70::0::4::a::b::c::e::y):vN (m+2) (R d i) 4=some (M7 [Jm,EZ,KZ] [Jh ((a.toNat * 256+b.toNat:Nat):Int),Jh c.toNat,Jh e.toNat],R d (i+7)):=by
 obtain⟨t,_,l⟩:=F0 h;obtain⟨u,_,o⟩:=F0 l;obtain⟨v,_,g⟩:=F0 o;obtain⟨w,_,p⟩:=F0 g;obtain⟨z,_,f⟩:=F0 p;obtain⟨s,_,j⟩:=F0 f;have hm:vN (m+1) (R d i) 5=some (MX [],R d (i+1+1+1)):=US (k:=5) (x:=[70,0,4]) hd Z7 Z Z U h;rw[Ji,show(4:Int)=((4:Nat):Int)from Z,NQ (r:=SF.getD 4 Qqf) Z7 Z Z];rw[show(0:Int)=((0:Nat):Int)from Z,PD (r:=SF.getD 4 Qqf) (q:=5) Z Z7 Z7 Z7 Z Z hm];rw[KL (r:=SF.getD 4 Qqf) (q:=15) (n:=Jm) Z Z7 Z7 Z7 Z Z Z7 Z8 Z8 (Ya hd g)];rw[KL (r:=SF.getD 4 Qqf) (q:=14) (n:=EZ) Z Z7 Z7 Z7 Z Z Z7 Z8 Z8 (W9 hd f)];rw[KL (r:=SF.getD 4 Qqf) (q:=14) (n:=KZ) Z Z7 Z7 Z7 Z Z Z7 Z8 Z8 (W9 hd j)];rw[OR (r:=SF.getD 4 Qqf) Z Z7]
 rfl
end
abbrev Ck:=UInt8×QqZ
def kb(c:Ck):QqZ:=c.1::Qq2 (c.2.length / 256)::Qq2 (c.2.length % 256)::c.2
def fl:List Ck->QqZ
 | []=>[]
 | c::l=>kb c++fl l
def FY(l:List Ck):QqZ:=[83,78,68,49]++(fl l++[0])
def TE(n:Nat):Nat:=if n=70 then 0 else if n=68 then 1 else if n<=67 then 2 else if n=69 then 3 else 4
structure NR (c:Ck):Prop where
 lo:65<=c.1.toNat
 hi:c.1.toNat<=90
 len:c.2.length<=1000
 four:c.1.toNat=70->c.2.length=4
def vb(c:Ck):Pv:=
 if c.1.toNat=70 then M7 [Jm,EZ,KZ] [Jh (((c.2.getD 0 0).toNat * 256+(c.2.getD 1 0).toNat:Nat):Int),Jh (c.2.getD 2 0).toNat,Jh (c.2.getD 3 0).toNat]
 else if c.1.toNat=68 then M7 [IL] [Ow c.2]else M7 [M8,IL] [Jh c.1.toNat,Ow c.2]
def vk(c:Ck):Pv:=MX [Jh ((TE c.1.toNat:Nat):Int),vb c]
def vF(l:List Ck):Pv:=M7 [NP] [MX (l.map vk)]
theorem Ox(c:Ck):(kb c).length=3+c.2.length:=by unfold kb;simp;omega
theorem hl{n:Nat}(h:n<=1000):(Qq2 (n / 256)).toNat * 256+(Qq2 (n % 256)).toNat=n:=by
 rw[UInt8.toNat_ofNat',UInt8.toNat_ofNat'];omega
theorem Xq{d y:QqZ}{i m:Nat}{c:Ck}(hd:d.length<=1000)(hc:NR c)(h:d.drop i=kb c++y):
  vN (m+2) (R d i) (([4,6,8,9,10]:QqX).getD (TE c.1.toNat) Qqf)=some (vb c,R d (i+(3+c.2.length))):=by
 obtain⟨n,x⟩:=c;obtain⟨p,h2,h3,j⟩:=hc;dsimp only at p h2 h3 j ⊢;unfold kb at h;dsimp only at h;rw[List.cons_append,List.cons_append,List.cons_append]at h;have hx:=(hl h3).symm;have hn:=F0 h;unfold TE vb;dsimp only
 by_cases f:n.toNat=70
 ·have j:=j f;have en:n=70:=Qxj.1 f;rw[if_pos f,if_pos f]
  match x,j with
  | [a,b,c,e],_=>
   subst en;have r:Qq2 (([a,b,c,e]:QqZ).length / 256)=0:=by show Qq2 (4 / 256)=0;decide
   have s:Qq2 (([a,b,c,e]:QqZ).length % 256)=4:=by show Qq2 (4 % 256)=4;decide
   rw[r,s]at h;exact Xp hd h
 ·rw[if_neg f,if_neg f]
  by_cases g:n.toNat=68
  ·have en:n=68:=Qxj.1 g;rw[if_pos g,if_pos g];subst en;exact TD hd h hx
  ·rw[if_neg g,if_neg g]
   by_cases l:n.toNat<=67
   ·rw[if_pos l];exact QK (k:=8) (q:=11) hd Z7 Z Z Z (Sl (k:=11) hd Z7 h Z Z Z (show(65:Int)<=_ by omega) (show _<=(67:Int) by omega)) h hx
   ·rw[if_neg l]
    by_cases o:n.toNat=69
    ·rw[if_pos o];exact QK (k:=9) (q:=12) hd Z7 Z Z Z (Sl (k:=12) hd Z7 h Z Z Z (show(69:Int)<=_ by omega) (show _<=(69:Int) by omega)) h hx
    ·rw[if_neg o];exact QK (k:=10) (q:=13) hd Z7 Z Z Z (Sl (k:=13) hd Z7 h Z Z Z (show(71:Int)<=_ by omega) (show _<=(90:Int) by omega)) h hx
def UU(c:Nat):QqX->Nat->Int
 | [],_=>-1
 | p::P,j=>if(SM.getD p.toNat 0).testBit c then(j:Int)else UU c P (j+1)
theorem Xr:SL.length=17:=by
 have hM:SM.length=17:=by kernel_rfl
 unfold SL;rw[Qq9,hM]
theorem Xs{p:Nat}(h:p<17):SL.getD p Qqf=Hs (SM.getD p 0) 256:=by
 have hM:SM.length=17:=by kernel_rfl
 have:=get_map SM p (by rw[Qq9,hM];exact h);rw[<- this];exact(Qza _).symm
theorem Ta{d:QqZ}{i c:Nat}{P:QqX}(hP:∀p∈P,0<=p/\p<17)(hl:P.length<1000)(hc:c<256):∀(n j:Nat),j+n=P.length->C5 P (R d i) (c:Int) (j:Int)=some (UU c (P.drop j) j)
 | 0,j,h=>by
  unfold C5;rw[Qxk U];refine BY (m:=some (-1)) ?_;unfold C0 Ek;rw[if_neg U]
 | n+1,j,h=>by
  have hlt:j<P.length:=by omega
  have hm:P.getD j Qqf=P[j]:=(Qza _).symm;obtain⟨a,b⟩:=hP _ (QzA hlt)
  have hv:E9 P[j] (R d i) (c:Int)=some ((SM.getD P[j].toNat 0).testBit c):=by
   unfold E9;dsimp only;have:=Ov (SM.getD P[j].toNat 0) 256;rw[Xr,Ao,Xs U,contains_eq _ U,QqC];refine congrArg some ?_;rw[Bool.eq_iff_iff,decide_eq_true_iff,RB];exact⟨fun h=>h.2,fun h=>⟨hc,h⟩⟩
  rw[Qzc hlt,UU];unfold C5
  by_cases hb:(SM.getD P[j].toNat 0).testBit c=true
  ·rw[if_pos hb];refine BY (m:=some (j:Int)) ?_;unfold C0;rw[if_pos U,Ao,show((j:Nat):Int).toNat=j from Z,hm,hv,QqC,if_pos hb]
  ·rw[if_neg hb];have ih:=Ta (d:=d) (i:=i) hP hl hc n (j+1) U;unfold C5 at ih;rw[BT (s':=((j+1:Nat):Int)) ?_,ih];unfold C0;rw[if_pos U,Ao,show((j:Nat):Int).toNat=j from Z,hm,hv,QqC,if_neg hb,Ao (h:=(by unfold BX;omega))]
   rfl
theorem UW{c:Nat}(a:65<=c)(h2:c<=90):UU c [4,6,8,9,10] 0=(TE c:Nat):=by
 have h:(Qze 26).all (fun t=>decide (UU (t+65) [4,6,8,9,10] 0=(TE (t+65):Nat)))=true:=by kernel_rfl
 rw[Qxx]at h;have:=of_decide_eq_true (h (c - 65) (List.mem_range.2 U))
 rwa [show c - 65+65=c by omega]at this
theorem QL(c:Nat):TE c<5:=by 
 unfold TE
 split
 ·omega
 split
 ·omega
 split
 ·omega
 split <;> omega
theorem Wb{d y:QqZ}{i m:Nat}{c:Ck}(hd:d.length<=1000)(hc:NR c)(h:d.drop i=kb c++y):vN (m+3) (R d i) 3=some (vk c,R d (i+(3+c.2.length))):=by
 have hb:=Xq (m:=m) hd hc h;have hk:=QL c.1.toNat;have hp:CB (R d i)=some c.1:=OQ (y:=Qq2 (c.2.length / 256)::Qq2 (c.2.length % 256)::c.2++y) h;have hcl:=c.1.toNat_lt;have hx:=Ta (d:=d) (i:=i) (c:=c.1.toNat) (P:=[4,6,8,9,10]) Z7 Z7 U 5 0 Z;rw[Qxz,UW hc.lo hc.hi]at hx;rw[Ji];unfold Bn BG G9 FR EV;dsimp only;have hr:SF.getD ((3:Int).toNat) Qqf=([99,104,117,110,107],8,[],0,false,0,0,0,0,0,[],[4,6,8,9,10]):=Z;rw[hr,IF];dsimp only;rw[Ao (h:=(by decide)),if_neg Z7,if_neg Z7,if_neg Z7,if_neg Z7,if_neg Z7,if_neg Z7,if_neg Z7,if_neg Z7,if_pos Z7,hp,QqC,show(0:Int)=((0:Nat):Int)from Z,hx,QqC,if_neg U,Ao (h:=(by simp only[Qzx,Qzu];omega)),QqC,show((TE c.1.toNat:Nat):Int).toNat=TE c.1.toNat from Z,hb,QqC,QqC]
 rfl
theorem PE{d y:QqZ}{m:Nat}(hd:d.length<=1000):∀(l:List Ck) (i:Nat) (ps:List Pv),(∀c∈l,NR c)->d.drop i=fl l++(0::y)->ps.length+l.length<=1000->
  CC (R d 4) 2 (vN (m+3)) (ps,SF,SL,d,(i:Int))=some (MX (ps++l.map vk),R d (i+((fl l).length+1)))
 | [],i,ps,_,h,_=>by
  have hi:=F0 h;unfold CC;refine BY (m:=some (MX (ps++[]),R d (i+1))) ?_;unfold Dg Dl Ey FR;dsimp only;rw[OQ h,QqC];have hr:SF.getD ((2:Int).toNat) Qqf=([108,105,115,116],9,[],0,false,0,0,0,0,3,[],[]):=Z;rw[hr,if_neg Z7,Ao (h:=(by unfold BX;omega)),QzQ]
  rfl
 | c::l,i,ps,hc,h,hn=>by
  have ih:=PE (y:=y) (m:=m) hd l (i+(3+c.2.length)) (ps++[vk c]) (fun c' h'=>hc c' (List.mem_cons_of_mem _ h')) (by
   rw[<- List.drop_drop,h]
   show List.drop (3+c.2.length) ((kb c++fl l)++(0::y))=_
   rw[QzJ,<- Ox,List.drop_left]) (by simp only[Qq1,Qzx,Qzu]at hn ⊢;omega)
  have h':d.drop i=kb c++(fl l++(0::y)):=by rw[h,fl,QzJ]
  have hk:=hc c (List.mem_cons_self ..);have hv:=Wb (m:=m) hd hk h';have hp:CB (R d i)=some c.1:=OQ (y:=Qq2 (c.2.length / 256)::Qq2 (c.2.length % 256)::c.2++(fl l++(0::y))) h';unfold CC at ih ⊢;have e:i+(3+c.2.length)+((fl l).length+1)=i+((fl (c::l)).length+1):=by rw[fl,Qq1,Ox];omega
  rw[BT (s':=(ps++[vk c],SF,SL,d,((i+(3+c.2.length):Nat):Int))) ?_,ih,e,Qz7,QzJ]
  ·rfl
  ·unfold Dg Dl;dsimp only;rw[hp,QqC];have hr:SF.getD ((2:Int).toNat) Qqf=([108,105,115,116],9,[],0,false,0,0,0,0,3,[],[]):=Z;have hlo:=hk.lo;rw[hr,if_pos (by simp;omega)];dsimp only;rw[hv,QqC,Ao (h:=(by unfold Gg;simp only[Qzx,Qzu]at hn ⊢;omega))]
theorem PF(l:List Ck):l.length * 3<=(fl l).length:=by
 induction l with
 | nil=>simp[fl]
 | cons c l ih=>rw[fl,Qq1,Ox,Qzx];omega
theorem Xt{l:List Ck}(hl:(FY l).length<=1000)(hc:∀c∈l,NR c):GF (SF,SL,FY l,0) 0=some (vF l,R (FY l) (FY l).length):=by
 have hf:=PF l;have hlen:(FY l).length=4+((fl l).length+1):=by unfold FY;simp;omega
 have a:(FY l).drop 0=[83,78,68,49]++(fl l++[0]):=Z;have b:(FY l).drop 4=fl l++(0::[]):=Z;have hm:vN (998+1) (R (FY l) 0) 1=some (MX [],R (FY l) 4):=US (k:=1) (x:=[83,78,68,49]) hl Z7 Z Z (Qq7 _) a
 have hq:vN (998+1) (R (FY l) 4) 2=some (MX (l.map vk),R (FY l) (4+((fl l).length+1))):=by
  have:=PE (m:=995) hl l 4 [] hc b (by simp only[Qzu];omega);rw[Ji,show(2:Int)=((2:Nat):Int)from Z,UQ (r:=SF.getD 2 Qqf) Z7 Z Z];exact this
 show vN (999+1) (R (FY l) 0) 0=_
 rw[Ji,show(0:Int)=((0:Nat):Int)from Z,NQ (r:=SF.getD 0 Qqf) Z7 Z Z];rw[show(0:Int)=((0:Nat):Int)from Z,PD (r:=SF.getD 0 Qqf) (q:=1) Z Z7 Z7 Z7 Z Z hm];rw[KL (r:=SF.getD 0 Qqf) (q:=2) (n:=NP) Z Z7 Z7 Z7 Z Z Z7 Z8 Z8 hq];rw[OR (r:=SF.getD 0 Qqf) Z Z7,hlen]
 rfl
abbrev Wr:=List Qq×QqZ×Int
abbrev W(o:QqZ)(n:Nat):Wr:=(SF,o,(n:Int))
noncomputable abbrev wN:=DB
theorem K0(m:Nat)(s:Wr)(k:Int)(v:Pv):wN (m+1) s k v=Bq (wN m) s k v:=Z
theorem Sm(n:Nat):u8 (n:Int)=Qq2 n:=by
 unfold u8;apply Qxj.1;simp;omega
theorem Wc(c:UInt8):u8 (c.toNat:Int)=c:=by rw[Sm];simp
theorem Yc{o:QqZ}{n:Nat}{r:Qq}{c:UInt8}(ho:o.length<=100000)(hk:r.2.1=2)(hs:r.2.2.2.1=1)(hb:r.2.2.2.2.1=true):BJ (W o n) r (c.toNat:Int)=some (W (o++[c]) n):=by
 unfold BJ F7;rw[if_neg U];dsimp only;rw[BT (s':=(o++[c],(1:Int))) ?_]
 ·refine BY (m:=some (W (o++[c]) n)) ?_;unfold Ch;dsimp only;rw[if_neg U]
 ·unfold Ch CD;dsimp only;rw[if_pos U,Ao (h:=(by decide)),if_pos hb,hs,Ao (h:=(by decide)),Ao (h:=(by decide)),Ao (h:=(by decide)),Ao (h:=(by decide))]
  have e:(c.toNat:Int) / 2 ^ ((8:Int) * ((1 - 1) - 0)).toNat=c.toNat:=by
   rw[show((8:Int) * ((1 - 1) - 0)).toNat=0 from Z];simp
  rw[e,Wc,Ao (h:=(by unfold Gg;simp only[Qzk];omega)),Ao (h:=(by decide))]
  rfl
theorem WA{o:QqZ}{n:Nat}{r:Qq}{x:Nat}(ho:o.length<=100000)(hx:x<65536)(hk:r.2.1=2)(hs:r.2.2.2.1=2)(hb:r.2.2.2.2.1=true):BJ (W o n) r (x:Int)=some (W (o++[Qq2 (x / 256),Qq2 (x % 256)]) n):=by
 unfold BJ F7;rw[if_neg U];dsimp only;rw[BT (s':=(o++[Qq2 (x / 256)],(1:Int))) ?_,BT (s':=(o++[Qq2 (x / 256),Qq2 (x % 256)],(2:Int))) ?_]
 ·refine BY (m:=some (W (o++[Qq2 (x / 256),Qq2 (x % 256)]) n)) ?_;unfold Ch;dsimp only;rw[if_neg U]
 ·unfold Ch CD;dsimp only;rw[if_pos U,Ao (h:=(by decide)),if_pos hb,hs,Ao (h:=(by decide)),Ao (h:=(by decide)),Ao (h:=(by decide)),Ao (h:=(by decide))]
  have e:u8 ((x:Int) / 2 ^ ((8:Int) * ((2 - 1) - 1)).toNat)=Qq2 (x % 256):=by
   rw[show((8:Int) * ((2 - 1) - 1)).toNat=0 from Z];simp only[Int.pow_zero,Int.ediv_one];rw[Sm];apply Qxj.1;simp
  rw[e,Ao (h:=(by unfold Gg;simp only[Qq1,Qzk];omega)),Ao (h:=(by decide))];simp
 ·unfold Ch CD;dsimp only;rw[if_pos U,Ao (h:=(by decide)),if_pos hb,hs,Ao (h:=(by decide)),Ao (h:=(by decide)),Ao (h:=(by decide)),Ao (h:=(by decide))]
  have e:u8 ((x:Int) / 2 ^ ((8:Int) * ((2 - 1) - 0)).toNat)=Qq2 (x / 256):=by
   rw[show((8:Int) * ((2 - 1) - 0)).toNat=8 from Z,show((x:Int) / 2 ^ 8)=((x / 256:Nat):Int) by omega,Sm]
  rw[e,Ao (h:=(by unfold Gg;simp only[Qzk];omega)),Ao (h:=(by decide))]
  rfl
abbrev YY:=Wr->Int->Pv->Option Wr
section
variable {self:YY}{o:QqZ}{n k:Nat}{r:Qq}{v:Pv} (hk:k<17) (hr:SF.getD k Qqf=r) (hn:n<=100000)
include hk hr hn
theorem UX(h2:r.2.1=2){x:Int}(hv:v=Jh x)(h3:r.2.2.2.2.2.1<=x)(a:x<=r.2.2.2.2.2.2.1):Bq self (W o n) (k:Int) v=BJ (W o (n+1)) r x:=by
 subst hv;unfold Bq CS Cm Ft BH;dsimp only;rw[show((k:Nat):Int).toNat=k from Z,hr,IF,Ao,if_neg U,if_pos h2,if_pos (by simp[h2])];have b:(Jh x).f.1=1:=Z;have c:(Jh x).f.2.1=x:=Z;rw[b,c,if_pos Z,if_pos h3,QqC,QqC,decide_eq_true a,if_neg Z8,Ao (h:=(by unfold BX;omega)),if_neg U,if_pos h2,if_pos (by simp[h2])]
 show QqB (BJ (W o (n+1)) r x) some=_
 cases BJ (W o (n+1)) r x <;> rfl
theorem Wd(h2:r.2.1=10)(c:r.2.2.2.2.2.2.2.2.1=15){b:QqZ}(hv:v=Ow b)(hb:b.length<65536):Bq self (W o n) (k:Int) v=QqB (BJ (W o (n+1)) (SF.getD 15 Qqf) (b.length:Int)) (fun x=>Bi (Gg 1 (x.2.1.length+b.length)) (some (x.1,x.2.1++b,x.2.2))):=by
 subst hv;unfold Bq CS Cm G4 Ft BH;dsimp only;have d:(Ow b).f.1=2:=Z;have e:(Ow b).f.2.2.1=b:=Z;have a:SF.getD ((15:Int).toNat) Qqf=([116,119,111],2,[],2,true,0,65535,0,0,0,[],[]):=Z;rw[show((k:Nat):Int).toNat=k from Z,hr,IF,Ao,if_neg U,if_neg U,if_neg (by simp[h2]),if_neg U,if_pos h2,d,if_pos Z,c,Ao (h:=(by decide)),a,e];dsimp only;rw[if_pos U,QqC,QqC,QqC,decide_eq_true U,if_neg Z8,Ao (h:=(by unfold BX;omega)),if_neg U,if_neg U,if_neg (by simp[h2]),if_neg U,if_pos h2,Ao (h:=(by decide))]
 rfl
theorem Xu(h2:r.2.1=9){l:List Pv}(hv:v=MX l):Bq self (W o n) (k:Int) v=QqB (Ge self (W o (n+1)) r.2.2.2.2.2.2.2.2.2.1 l) (fun x=>Bi (Gg 1 (x.2.1.length+1)) (some (x.1,x.2.1++[u8 r.2.2.2.2.2.2.2.1],x.2.2))):=by
 subst hv;unfold Bq CS Cm BH;dsimp only;have a:(MX l).f.1=3:=Z;rw[show((k:Nat):Int).toNat=k from Z,hr,IF,Ao,if_neg U,if_neg U,if_neg (by simp[h2]),if_neg U,if_neg U,if_neg U,if_neg U,if_pos h2,a,QqC,if_neg Z8,Ao (h:=(by unfold BX;omega)),if_neg U,if_neg U,if_neg (by simp[h2]),if_neg U,if_neg U,if_neg U,if_neg U,if_pos h2]
 rfl
theorem Xv(h2:r.2.1=8){q:Nat}{x:Pv}(hv:v=MX [Jh (q:Int),x])(hq:q<r.2.2.2.2.2.2.2.2.2.2.2.length):Bq self (W o n) (k:Int) v=self (W o (n+2)) (r.2.2.2.2.2.2.2.2.2.2.2.getD q Qqf) x:=by
 subst hv;unfold Bq CS Cm BH;dsimp only;have a:(MX [Jh (q:Int),x]).f.1=3:=Z;have b:(MX [Jh (q:Int),x]).f.2.2.2.2=[Jh (q:Int),x]:=Z;have c:([Jh (q:Int),x].getD ((0:Int).toNat) Qqf)=Jh (q:Int):=Z;have d:([Jh (q:Int),x].getD ((1:Int).toNat) Qqf)=x:=Z;have e:(Jh (q:Int)).f.1=1:=Z;have g:(Jh (q:Int)).f.2.1=(q:Int):=Z;rw[show((k:Nat):Int).toNat=k from Z,hr,IF,Ao,if_neg U,if_neg U,if_neg (by simp[h2]),if_neg U,if_neg U,if_neg U,if_neg U,if_neg U,if_pos h2,a,b,c,d,e,g,if_pos Z8,Ao (h:=(by simp)),if_pos Z,Ao (h:=(by simp)),if_pos U,Ao (h:=(by simp)),QqC,decide_eq_true U,if_neg Z8,Ao (h:=(by unfold BX;omega)),if_neg U,if_neg U,if_neg (by simp[h2]),if_neg U,if_neg U,if_neg U,if_neg U,if_neg U,if_pos h2,Ao (h:=(by unfold BX;omega)),Ao (h:=(by simp)),Ao,Ao (h:=(by simp)),show((q:Nat):Int).toNat=q from Z];have h:(n:Int)+1+1=((n+2:Nat):Int):=by omega
 rw[h]
 show QqB (self (W o (n+2)) (r.2.2.2.2.2.2.2.2.2.2.2.getD q Qqf) x) some=_
 cases self (W o (n+2)) (r.2.2.2.2.2.2.2.2.2.2.2.getD q Qqf) x <;> rfl
theorem QM(h2:r.2.1=7){ns:QqA}{l:List Pv}(hv:v=M7 ns l)(hc:QqB (B3 r.2.2.2.2.2.2.2.2.2.2.1) (fun x=>B1 x)=some ns)(he:BI ns ns=some true):Bq self (W o n) (k:Int) v=By (W o n) (k:Int) self (SF,((n+1:Nat):Int),o,l,0):=by
 subst hv;unfold Bq CS Cm BH;dsimp only;obtain⟨d,c1,c2⟩:=bind_some hc;have a:(M7 ns l).f.1=4:=Z;have b:(M7 ns l).f.2.2.2.1=ns:=Z;have c:(M7 ns l).f.2.2.2.2=l:=Z;rw[show((k:Nat):Int).toNat=k from Z,hr,IF,Ao,if_neg U,if_neg U,if_neg (by simp[h2]),if_neg U,if_neg U,if_neg U,if_neg U,if_neg U,if_neg U,c1,QqC,c2,QqC,a,b,c,if_pos Z,he,QqC,QqC,if_neg Z8,Ao (h:=(by unfold BX;omega)),if_neg U,if_neg U,if_neg (by simp[h2]),if_neg U,if_neg U,if_neg U,if_neg U,if_neg U,if_neg U,if_pos h2]
 rfl
omit hk hn in
theorem Sn{l:List Pv}{a j:Nat}{c:QqZ}{q:Int}{b:QqZ}(hj:(j:Int)<(r.2.2.2.2.2.2.2.2.2.2.2.length:Int))(e:(j:Int)<(r.2.2.2.2.2.2.2.2.2.2.1.length:Int))(f:j<100)(hq:r.2.2.2.2.2.2.2.2.2.2.2.getD j Qqf=q)(hnm:r.2.2.2.2.2.2.2.2.2.2.1.getD j Qqf=[])(d:0<=q/\q<17)(hb:(SF.getD q.toNat Qqf).2.2.1=b)(ho:o.length<=100000)(g:b.length<=1000):
  By (W c a) (k:Int) self (SF,(n:Int),o,l,(j:Int))=By (W c a) (k:Int) self (SF,(n:Int),o++b,l,((j+1:Nat):Int)):=by
 unfold By;refine BT ?_;unfold C7 E4;dsimp only;rw[show((k:Nat):Int).toNat=k from Z,hr,show((j:Nat):Int).toNat=j from Z,if_pos hj,Ao,Ao,if_pos hnm,hq,IF,Ao (h:=d),hb,Ao (h:=(by unfold Gg;omega)),Ao (h:=(by unfold BX;omega))]
 rfl
omit hk hn in
theorem LW{l:List Pv}{a j n':Nat}{b o':QqZ}{q:Int}{p:Pv}(hj:(j:Int)<(r.2.2.2.2.2.2.2.2.2.2.2.length:Int))(d:(j:Int)<(r.2.2.2.2.2.2.2.2.2.2.1.length:Int))(e:j<100)(hq:r.2.2.2.2.2.2.2.2.2.2.2.getD j Qqf=q)(hnm:r.2.2.2.2.2.2.2.2.2.2.1.getD j Qqf≠[])(hs:self (W o n) q p=some (W o' n')):
  By (W b a) (k:Int) self (SF,(n:Int),o,p::l,(j:Int))=By (W b a) (k:Int) self (SF,(n':Int),o',l,((j+1:Nat):Int)):=by
 unfold By;refine BT ?_;unfold C7;dsimp only;have c:(p::l).getD ((0:Int).toNat) Qqf=p:=Z;rw[show((k:Nat):Int).toNat=k from Z,hr,show((j:Nat):Int).toNat=j from Z,if_pos hj,Ao,Ao,if_neg hnm,hq,Ao (h:=(by simp only[Qzx];omega)),c,hs,QqC,Ao (h:=(by simp only[Qzx];omega)),Ao (h:=(by unfold BX;omega))]
 rfl
omit hk hn in
theorem QN{l:List Pv}{a j:Nat}{b:QqZ}(hj:((j:Nat):Int)=(r.2.2.2.2.2.2.2.2.2.2.2.length:Int)):By (W b a) (k:Int) self (SF,(n:Int),o,l,(j:Int))=some (W o n):=by
 unfold By;refine BY (m:=some (W o n)) ?_;unfold C7;dsimp only;rw[show((k:Nat):Int).toNat=k from Z,hr,if_neg U]
end
noncomputable section
def YK:Option Bool:=
 QqB (B3 []) (fun b=>QqB (B1 b) (fun a=>QqB (BI a a) (fun _=>QqB (Bv (Jh 0)) (fun _=>QqB (Ej Jm) (fun _=>some true)))))
end
noncomputable section
instance (a0):Mi (B3 a0):=by delta B3;infer_instance
instance (a0):Mi (DR a0):=by delta DR;infer_instance
instance:Mi (Jb):=by delta Jb;infer_instance
instance (a0) (s):Mi (Iw a0 s):=by delta Iw;infer_instance
instance (a0) (s):Mi (KE a0 s):=by delta KE;infer_instance
instance (a0):Mi (KX a0):=by delta KX;infer_instance
instance (b) (a):Mi (CG b a):=by delta CG;infer_instance
instance (s):Mi (C8 s):=by obtain⟨c,a,b⟩:=s;delta C8;dsimp only;infer_instance
instance (s):Mi (D3 s):=by delta D3;infer_instance
instance (a0):Mi (B1 a0):=by delta B1;infer_instance
instance:Mi (Dk):=by delta Dk;infer_instance
instance (a0) (a1) (s):Mi (CX a0 a1 s):=by delta CX;infer_instance
instance (a0) (a1) (s):Mi (Ev a0 a1 s):=by delta Ev;infer_instance
instance (a0) (a1):Mi (BI a0 a1):=by delta BI;infer_instance
instance (a0) (a1):Mi (BV a0 a1):=by delta BV;infer_instance
instance (a0):Mi (GU a0):=by delta GU;infer_instance
instance:Mi (Ga):=by delta Ga;infer_instance
instance (a0) (s):Mi (FK a0 s):=by delta FK;infer_instance
instance (a0) (s):Mi (HR a0 s):=by delta HR;infer_instance
instance (a0):Mi (H8 a0):=by delta H8;infer_instance
instance (a0):Mi (EY a0):=by delta EY;infer_instance
instance:Mi (Fu):=by delta Fu;infer_instance
instance (a0) (s):Mi (EM a0 s):=by delta EM;infer_instance
instance (a0) (s):Mi (G3 a0 s):=by delta G3;infer_instance
instance (a0) (a):Mi (BO a0 a):=by delta BO;infer_instance
instance (a0) (a):Mi (D2 a0 a):=by delta D2;infer_instance
instance (a0) (a):Mi (Cw a0 a):=by delta Cw;infer_instance
instance (a0) (a):Mi (CR a0 a):=by delta CR;infer_instance
instance (a0):Mi (Bv a0):=by delta Bv;infer_instance
instance:Mi (YK):=by delta YK;infer_instance
end
theorem NS{ns ns':QqA}(h:(inferInstance:Mi (QqB (B3 ns) (fun x=>B1 x))).c=some ns'):QqB (B3 ns) (fun x=>B1 x)=some ns':=
 (inferInstance:Mi (QqB (B3 ns) (fun x=>B1 x))).h _ h
theorem NT{ns:QqA}(h:(inferInstance:Mi (BI ns ns)).c=some true):BI ns ns=some true:=(inferInstance:Mi (BI ns ns)).h _ h
section
variable {o:QqZ}{n m:Nat} (ho:o.length<=20000) (hn:n<=20000)
include ho hn
theorem QO{k:Nat}{c:UInt8}(hk:k<17)(h2:(SF.getD k Qqf).2.1=2)(hs:(SF.getD k Qqf).2.2.2.1=1)(hb:(SF.getD k Qqf).2.2.2.2.1=true)(a:(SF.getD k Qqf).2.2.2.2.2.1<=(c.toNat:Int))(b:(c.toNat:Int)<=(SF.getD k Qqf).2.2.2.2.2.2.1):wN (m+1) (W o n) (k:Int) (Jh c.toNat)=some (W (o++[c]) (n+1)):=by
 rw[K0,UX (r:=SF.getD k Qqf) hk Z U h2 Z a b,Yc U h2 hs hb]
theorem WB{c:UInt8}:wN (m+1) (W o n) 14 (Jh c.toNat)=some (W (o++[c]) (n+1)):=by
 have hc:=c.toNat_lt;exact QO (k:=14) ho hn Z7 Z Z Z (show(0:Int)<=_ by omega) (show _<=(255:Int) by omega)
theorem Yd{x:Nat}(hx:x<65536):wN (m+1) (W o n) 15 (Jh (x:Int))=some (W (o++[Qq2 (x / 256),Qq2 (x % 256)]) (n+1)):=by
 rw[K0,show(15:Int)=((15:Nat):Int)from Z,UX (r:=SF.getD 15 Qqf) Z7 Z U Z Z (show(0:Int)<=_ by omega) (show _<=(65535:Int) by omega),WA U hx Z Z Z]
theorem UY{x:QqZ}(hx:x.length<=1000):wN (m+1) (W o n) 16 (Ow x)=some (W (o++(Qq2 (x.length / 256)::Qq2 (x.length % 256)::x)) (n+1)):=by
 rw[K0,show(16:Int)=((16:Nat):Int)from Z,Wd (r:=SF.getD 16 Qqf) Z7 Z U Z Z Z U,WA U U Z Z Z,QqC];dsimp only;rw[Ao (h:=(by unfold Gg;simp only[Qq1,Qzx,Qzu];omega)),QzJ]
 rfl
end
section
variable {o:QqZ}{n m:Nat} (ho:o.length<=10000) (hn:n<=10000)
include ho hn
theorem Xw{c:Ck}(hc:NR c):∃n',wN (m+2) (W o n) (([4,6,8,9,10]:QqX).getD (TE c.1.toNat) Qqf) (vb c)=some (W (o++kb c) n')/\n'<=n+4:=by
 obtain⟨nm,x⟩:=c;obtain⟨p,h2,h3,i⟩:=hc;dsimp only at p h2 h3 i ⊢;unfold TE vb kb;dsimp only
 by_cases d:nm.toNat=70
 ·have i:=i d;have en:nm=70:=Qxj.1 d;rw[if_pos d,if_pos d];subst en
  match x,i with
  | [a,b,c,e],_=>
   have ha:=a.toNat_lt;have hb:=b.toNat_lt;refine⟨n+1+1+1+1,?_,by omega⟩
   show wN (m+1+1) (W o n) ((4:Nat):Int) (M7 [Jm,EZ,KZ] [Jh ((a.toNat * 256+b.toNat:Nat):Int),Jh c.toNat,Jh e.toNat])=_
   rw[K0,QM (r:=SF.getD 4 Qqf) Z7 Z U Z Z (NS V) (NT V)];rw[show(0:Int)=((0:Nat):Int)from Z,Sn (r:=SF.getD 4 Qqf) (q:=5) (b:=[70,0,4]) Z Z7 Z7 Z7 Z Z Z7 Z U Z7];rw[LW (r:=SF.getD 4 Qqf) (q:=15) Z Z7 Z7 Z7 Z Z7 (Yd (by simp only[Qq1,Qzx,Qzu];omega) U U)];rw[LW (r:=SF.getD 4 Qqf) (q:=14) Z Z7 Z7 Z7 Z Z7 (WB (by simp only[Qq1,Qzx,Qzu];omega) U)];rw[LW (r:=SF.getD 4 Qqf) (q:=14) Z Z7 Z7 Z7 Z Z7 (WB (by simp only[Qq1,Qzx,Qzu];omega) U)];rw[QN (r:=SF.getD 4 Qqf) Z Z7];have s:(a.toNat * 256+b.toNat) / 256=a.toNat:=by omega
   have t:(a.toNat * 256+b.toNat) % 256=b.toNat:=by omega
   have u:Qq2 (([a,b,c,e]:QqZ).length / 256)=0:=by show Qq2 (4 / 256)=0;decide
   have v:Qq2 (([a,b,c,e]:QqZ).length % 256)=4:=by show Qq2 (4 % 256)=4;decide
   rw[s,t,u,v,QxZ,QxZ];simp
 ·rw[if_neg d,if_neg d]
  by_cases f:nm.toNat=68
  ·have en:nm=68:=Qxj.1 f;rw[if_pos f,if_pos f];subst en;refine⟨n+1+1,?_,by omega⟩
   show wN (m+1+1) (W o n) ((6:Nat):Int) (M7 [IL] [Ow x])=_
   rw[K0,QM (r:=SF.getD 6 Qqf) Z7 Z U Z Z (NS V) (NT V)];rw[show(0:Int)=((0:Nat):Int)from Z,Sn (r:=SF.getD 6 Qqf) (q:=7) (b:=[68]) Z Z7 Z7 Z7 Z Z Z7 Z U Z7];rw[LW (r:=SF.getD 6 Qqf) (q:=16) Z Z7 Z7 Z7 Z Z7 (UY (by simp only[Qq1,Qzx,Qzu];omega) U h3)];rw[QN (r:=SF.getD 6 Qqf) Z Z7];simp
  ·rw[if_neg f,if_neg f]
   have key:∀(k q:Nat),k<17->(SF.getD k Qqf).2.1=7->(SF.getD k Qqf).2.2.2.2.2.2.2.2.2.2.1=[M8,IL]->(SF.getD k Qqf).2.2.2.2.2.2.2.2.2.2.2=[(q:Int),16]->wN (m+1) (W o (n+1)) (q:Int) (Jh nm.toNat)=some (W (o++[nm]) (n+1+1))->
     wN (m+1+1) (W o n) (k:Int) (M7 [M8,IL] [Jh nm.toNat,Ow x])=some (W (o++(nm::Qq2 (x.length / 256)::Qq2 (x.length % 256)::x)) (n+1+1+1)):=by
    intro k q hk w g h hq;rw[K0,QM (r:=SF.getD k Qqf) hk Z U w Z (by rw[g];exact NS V) (NT V)];rw[show(0:Int)=((0:Nat):Int)from Z,LW (r:=SF.getD k Qqf) (q:=(q:Int)) Z (by rw[h];simp) (by rw[g];simp) Z7 (by rw[h];rfl) (by rw[g];decide) hq];rw[LW (r:=SF.getD k Qqf) (q:=16) Z (by rw[h];simp) (by rw[g];simp) Z7 (by rw[h];rfl) (by rw[g];decide) (UY (by simp only[Qq1,Qzx,Qzu];omega) U h3)];rw[QN (r:=SF.getD k Qqf) Z (by rw[h];rfl)];simp
   refine⟨n+1+1+1,?_,by omega⟩
   by_cases j:nm.toNat<=67
   ·rw[if_pos j];exact key 8 11 Z7 Z Z Z (QO (k:=11) U U Z7 Z Z Z (show(65:Int)<=_ by omega) (show _<=(67:Int) by omega))
   ·rw[if_neg j]
    by_cases l:nm.toNat=69
    ·rw[if_pos l];exact key 9 12 Z7 Z Z Z (QO (k:=12) U U Z7 Z Z Z (show(69:Int)<=_ by omega) (show _<=(69:Int) by omega))
    ·rw[if_neg l];exact key 10 13 Z7 Z Z Z (QO (k:=13) U U Z7 Z Z Z (show(71:Int)<=_ by omega) (show _<=(90:Int) by omega))
end
theorem We{o:QqZ}{n m:Nat}(ho:o.length<=10000)(hn:n<=9990){c:Ck}(hc:NR c):∃n',wN (m+3) (W o n) 3 (vk c)=some (W (o++kb c) n')/\n'<=n+6:=by
 obtain⟨n',a,h2⟩:=Xw (m:=m) (n:=n+2) ho U hc;have hk:=QL c.1.toNat;refine⟨n',?_,by omega⟩;unfold vk;rw[K0,show(3:Int)=((3:Nat):Int)from Z,Xv (r:=SF.getD 3 Qqf) Z7 Z U Z Z hk];exact a
theorem WC{m:Nat}:∀(l:List Ck) (P:List Pv) (j n:Nat) (o:QqZ),(∀c∈l,NR c)->P.drop j=l.map vk->j+l.length=P.length->o.length+(fl l).length<=10000->n+6 * l.length<=9900->l.length<=1000->j+l.length<=1000->
  ∃n',EW 3 P (wN (m+3)) (SF,(n:Int),o,(j:Int))=some (W (o++fl l) n')/\n'<=n+6 * l.length
 | [],P,j,n,o,_,_,hj,_,_,_,_=>by
  refine⟨n,?_,by omega⟩;unfold EW;refine BY (m:=some (W (o++fl []) n)) ?_;unfold EC;dsimp only;simp only[Qzu]at hj;rw[if_neg U,fl,QzQ]
 | c::l,P,j,n,o,hc,hP,hj,ho,hn,hl,a=>by
  have hkl:(fl (c::l)).length=3+c.2.length+(fl l).length:=by rw[fl,Qq1,Ox]
  rw[hkl]at ho;simp only[Qzx]at hj hn hl a;obtain⟨b,d,h2⟩:=We (m:=m) (o:=o) (n:=n) U U (hc c (List.mem_cons_self ..));have hlt:j<P.length:=by omega
  rw[Qzc hlt,Qz7,List.cons.injEq]at hP;obtain⟨f,h3,g⟩:=WC (m:=m) l P (j+1) b (o++kb c) (fun c' h'=>hc c' (List.mem_cons_of_mem _ h')) hP.2 U (by rw[Qq1,Ox];omega) U U U;refine⟨f,?_,by simp only[Qzx];omega⟩;unfold EW at h3 ⊢;rw[BT (s':=(SF,(b:Int),o++kb c,((j+1:Nat):Int))) ?_,h3,fl,QzJ];unfold EC;dsimp only;have e:P.getD ((j:Int).toNat) Qqf=vk c:=by rw[<- hP.1];exact(Qza _).symm
  rw[if_pos U,Ao,e,d,QqC,Ao (h:=(by unfold BX;omega))]
  rfl
theorem Xx{l:List Ck}(hl:(FY l).length<=1000)(hc:∀c∈l,NR c):∃n',GG (SF,[],0) 0 (vF l)=some (W (FY l) n'):=by
 have hf:=PF l;have hlen:(FY l).length=4+((fl l).length+1):=by unfold FY;simp;omega
 obtain⟨a,d,h2⟩:=WC (m:=995) l (l.map vk) 0 (1+1) [83,78,68,49] hc Z Z8 (by simp;omega) U U U
 have hq:wN (998+1) (W [83,78,68,49] 1) 2 (MX (l.map vk))=some (W (FY l) a):=by
  rw[K0,show(2:Int)=((2:Nat):Int)from Z,Xu (r:=SF.getD 2 Qqf) Z7 Z Z7 Z Z];unfold Ge;dsimp only;have e:(SF.getD 2 Qqf).2.2.2.2.2.2.2.2.2.1=3:=Z;rw[e];rw[show(0:Int)=((0:Nat):Int)from Z,d,QqC];dsimp only;rw[Ao (h:=(by unfold Gg;simp only[Qq1,Qzx,Qzu];omega))];have f:u8 ((SF.getD 2 Qqf).2.2.2.2.2.2.2.1)=0:=by decide
  rw[f,QzJ]
  rfl
 have hq':wN 999 (W ([]++[83,78,68,49]) (0+1)) 2 (MX (l.map vk))=some (W (FY l) a):=hq;refine⟨a,?_⟩
 show wN (999+1) (W [] 0) ((0:Nat):Int) (vF l)=_
 unfold vF;rw[K0,QM (r:=SF.getD 0 Qqf) Z7 Z Z7 Z Z (NS V) (NT V)];rw[show(0:Int)=((0:Nat):Int)from Z,Sn (r:=SF.getD 0 Qqf) (q:=1) (b:=[83,78,68,49]) Z Z7 Z7 Z7 Z Z Z7 Z Z7 Z7];rw[LW (r:=SF.getD 0 Qqf) (q:=2) Z Z7 Z7 Z7 Z Z7 hq'];rw[QN (r:=SF.getD 0 Qqf) Z Z7]
end Go.Proofs.YtfgomcdgmihmpaaGreatDoor
end
noncomputable section
namespace Go.L
def zz(a:Int):Nat:=if 0<=a then(2 * a).toNat else(-2 * a - 1).toNat
theorem Ye{a:Int}(h:BX a):zz a<18446744073709551616:=by unfold zz;unfold BX at h;split <;> omega
def MY:Nat->Nat->QqZ
 | 0,_=>[]
 | n+1,u=>if 128<=u then Qq2 (u % 128+128)::MY n (u / 128)else[Qq2 u]
def QP(u:Nat):QqZ:=MY 10 u
set_option maxRecDepth 20000 in
theorem Yf(u:Nat):u8 (u:Int) ||| 128=Qq2 (u % 128+128):=by
 have h:∀b:Fin 256,(Qq2 b.val ||| 128)=Qq2 (b.val % 128+128):=by decide
 have:=h ⟨u % 256,Nat.mod_lt _ Z7⟩;dsimp only at this;unfold u8;rw[show((u:Int) % 256).toNat=u % 256 by omega,this]
 congr 2
 omega
theorem UZ{u:Nat}:u8 (u:Int)=Qq2 u:=by
 unfold u8;rw[show((u:Int) % 256).toNat=u % 256 by omega];apply UInt8.toNat.inj;simp
end Go.L
namespace Go.Proofs.YtfgomcdgmihmpaaGreatDoor
open Go Go.L
theorem RD:∀(n u:Nat) (L:QqZ),u<128 ^ n->L.length+n<=1000->n<=10->1<=n->Go.L.run FD (L,(u:Int))=some (L++MY n u)
 | 0,_,_,_,_,_,h=>absurd h U
 | n+1,u,L,hu,hL,hn,_=>by
  unfold MY
  by_cases h:128<=u
  ·have b:1<=n:=by
    rcases Nat.eq_zero_or_pos n with a | a
    ·subst a;simp at hu;omega
    ·exact a
   have e:FD (L,(u:Int))=some (.inl (L++[Qq2 (u % 128+128)],((u / 128:Nat):Int))):=by
    unfold FD;dsimp only;rw[if_pos U,Ao (h:=(by unfold Go.E.Gg;simp;omega)),Yf]
    rfl
   rw[BT e,RD n (u / 128) _ (Nat.div_lt_of_lt_mul (by rw[Nat.pow_succ,Nat.mul_comm]at hu;exact hu)) (by simp;omega) U b,if_pos h];simp
  ·rw[if_neg h];refine BY (m:=some (L++[Qq2 u])) ?_;unfold FD KI;dsimp only;rw[if_neg U,Ao (h:=(by unfold Go.E.Gg;simp;omega)),UZ]
theorem Xy{x:Int}:IntKind.u64.wrap x=x % 18446744073709551616:=by
 simp only[IntKind.wrap];simp[IntKind.bits,IntKind.signed]
theorem Wf{k:Nat}(h:k<2 ^ 64):k ^^^ 18446744073709551615=18446744073709551615 - k:=by
 have h2:(BitVec.ofNat 64 k ^^^ BitVec.allOnes 64).toNat=(~~~ (BitVec.ofNat 64 k)).toNat:=by rw[BitVec.xor_allOnes]
 rw[BitVec.toNat_xor,BitVec.toNat_not,BitVec.toNat_ofNat,BitVec.toNat_allOnes,Nat.mod_eq_of_lt h]at h2;exact h2
theorem TF{a:Int}(h:BX a):DZ a=some (QP (zz a)):=by
 have hz:=Ye h;unfold BX at h;unfold DZ;simp only[Xy];rw[Ao];unfold Mz QP
 have key:((((a % 18446744073709551616 * 2 % 18446744073709551616).toNat ^^^ (a / 9223372036854775808 % 18446744073709551616).toNat:Nat)):Int)=((zz a:Nat):Int):=by
  unfold zz
  by_cases b:0<=a
  ·rw[if_pos b,show a / 9223372036854775808 % 18446744073709551616=0 by omega];simp only[Int.toNat_zero,Nat.xor_zero];omega
  ·rw[if_neg b,show(a / 9223372036854775808 % 18446744073709551616).toNat=18446744073709551615 by omega,Wf U];omega
 rw[key,RD 10 (zz a) [] (Nat.lt_trans hz Z7) Z7 Z7 Z7]
 rfl
end Go.Proofs.YtfgomcdgmihmpaaGreatDoor
end
noncomputable section
namespace Go.L
theorem YZ{u:Nat}(h:u<128):(QP u).length<=1:=by
 unfold QP;rw[MY,if_neg U];exact Qq0 _
theorem Za{u:Nat}(h:u<16384):(QP u).length<=2:=by
 unfold QP;rw[MY]
 split
 ·rw[MY,if_neg U];exact Qq0 _
 ·exact Nat.le_succ _
theorem Zb{u:Nat}(h:u<2097152):(QP u).length<=3:=by
 unfold QP;rw[MY]
 split
 ·rw[MY]
  split
  ·rw[MY,if_neg U];exact Qq0 _
  ·exact Nat.le_succ _
 ·exact Nat.le_add_left 1 2
end Go.L
namespace Go.Proofs.YtfgomcdgmihmpaaGreatDoor
open Go Go.E Go.RowKit Go.L
theorem IG{m:Nat}{k n:Int}{b:QqZ}{ns:QqA}{ps:List Pv}(h2:ns.length<=1000000)(h3:ps.length<=1000000)(hp:∀p∈ps,CI m p=some p)(c:b.length<=1000000:=by exact Nat.zero_le _):CI (m+1) (.mk k n b ns ps)=some (.mk k n b ns ps):=by
 show HK (CI m) (.mk k n b ns ps)=_
 unfold HK HW B3;have d:(Pv.mk k n b ns ps).f.2.2.1=b:=Z;have e:(Pv.mk k n b ns ps).f.2.2.2.1=ns:=Z;have a:(Pv.mk k n b ns ps).f.2.2.2.2=ps:=Z;rw[d,SZ c,QqC,e,Ao (h:=(by unfold Gg;simp only[Qzu];omega)),QqC,List.nil_append];refine Hu (E5 (.mk k n b ns ps) k n b ns (CI m)) (fun j=>(ps.take j,(j:Int))) ps.length (some (.mk k n b ns ps)) (fun j hj=>?_) ?_ 0 (Qq7 _)
 ·unfold E5;dsimp only;rw[a,if_pos U,Ao,show((j:Nat):Int).toNat=j from Z,<- Qza (h:=hj) Qqf,hp _ (QzA hj),QqC,Ao (h:=(by unfold Gg;rw[Qz9];simp only[Qzk];omega)),Ao (h:=(by unfold BX;omega)),Qxd hj]
  rfl
 ·unfold E5 HV;dsimp only;rw[a,if_neg U,List.take_length]
theorem Em{m:Nat}{k n:Int}{b:QqZ}{ns:QqA}(a:b.length<=1000000:=by exact Nat.zero_le _)(h2:ns.length<=1000000:=by exact Nat.zero_le _):CI (m+1) (.mk k n b ns [])=some (.mk k n b ns []):=IG (c:=a) h2 (Qq7 _) (fun p hp=>by cases hp)
theorem RE{m:Nat}{c:Ck}(hc:NR c):CI (m+2) (vb c)=some (vb c):=by
 have h3:=hc.len;unfold vb
 split
 ·refine IG Z7 Z8 fun p hp=>?_;simp only[Qq5,Qzj,or_false]at hp
  rcases hp with rfl | rfl | rfl <;> exact Em
 ·split
  ·refine IG Z7 Z8 fun p hp=>?_;simp only[Qq5,Qzj,or_false]at hp;subst hp;exact Em (a:=(by omega))
  ·refine IG Z7 Z8 fun p hp=>?_;simp only[Qq5,Qzj,or_false]at hp
   rcases hp with rfl | rfl
   ·exact Em
   ·exact Em (a:=(by omega))
theorem RF{m:Nat}{c:Ck}(hc:NR c):CI (m+3) (vk c)=some (vk c):=by
 refine IG (Qq7 _) Z8 fun p hp=>?_;simp only[Qq5,Qzj,or_false]at hp
 rcases hp with rfl | rfl
 ·exact Em
 ·exact RE hc
theorem RG{m:Nat}{l:List Ck}(hc:∀c∈l,NR c)(hl:l.length<=1000):CI (m+4) (MX (l.map vk))=some (MX (l.map vk)):=by
 refine IG (Qq7 _) (by rw[Qq9];omega) fun p hp=>?_;obtain⟨c,a,rfl⟩:=List.mem_map.1 hp;exact RF (hc c a)
theorem RH{m:Nat}{l:List Ck}(hc:∀c∈l,NR c)(hl:l.length<=1000):CI (m+5) (vF l)=some (vF l):=by
 refine IG Z7 Z8 fun p hp=>?_;simp only[Qq5,Qzj,or_false]at hp;subst hp;exact RG hc hl
theorem Xz{l:QqX}(v:Pv)(hl:l.length<1000000:=by decide):BV l v=some (decide (v.f.1∈l)):=by
 unfold BV;rw[contains_eq _ hl]
 rfl
theorem WD{v:Pv}(hn:v.f.2.2.2.1=[])(hp:v.f.2.2.2.2.length<=600):BO v false=some 0:=by
 have h2:EY []=some false:=(inferInstance:Mi (EY [])).h _ V;unfold BO G3;rw[if_neg Z8,if_neg U,hn,h2,QqC,if_neg Z8];refine BY (m:=some 0) ?_;unfold EM Fu;rw[hn,if_neg Z8]
theorem Yg{v:Pv}(hk:v.f.1≠4)(a:v.f.1=3\/v.f.2.2.2.2=[])(hn:v.f.2.2.2.1=[])(hp:v.f.2.2.2.2.length<=600):D2 v false=some 0:=by
 unfold D2;rw[if_neg Z8];have c:BV [4] v=some false:=by rw[Xz _];simp[hk]
 by_cases b:0<(v.f.2.2.2.2.length:Int)
 ·have a:v.f.1=3:=a.resolve_right (fun e=>by rw[e]at b;simp at b);rw[if_pos b,Xz _,QqC,if_neg (by simp[a]),c,QqC,if_neg Z8];exact WD hn hp
 ·rw[if_neg b,c,QqC,if_neg Z8];exact WD hn hp
theorem Va{v:Pv}(hk:v.f.1≠4)(a:v.f.1=3\/v.f.2.2.2.2=[])(hn:v.f.2.2.2.1=[])(hp:v.f.2.2.2.2.length<=600):Cw v false=some 0:=by
 unfold Cw;rw[if_neg Z8,hn,if_neg Z8];exact Yg hk a hn hp
theorem X0(n:Int):Bv (Jh n)=some 0:=by
 unfold Bv CR;have a:(Jh n).f.1=1:=Z;have d:(Jh n).f.2.1=n:=Z;have b:(Jh n).f.2.2.1=[]:=Z;have c:Cw (Jh n) false=some 0:=Va (by rw[a];decide) (.inr Z) Z (show(0:Nat)<=600 by omega);rw[Xz _,QqC,if_neg (by rw[a];decide),d]
 by_cases h:n=0
 ·rw[if_pos h,if_neg Z8,b,if_neg Z8,c]
 ·rw[if_neg h,Xz _,QqC,a,if_neg Z7,b,if_neg Z8];exact c
theorem X1(b:QqZ):Bv (Ow b)=some 0:=by
 unfold Bv CR;have a:(Ow b).f.1=2:=Z;have d:(Ow b).f.2.1=0:=Z;have e:(Ow b).f.2.2.1=b:=Z;have c:Cw (Ow b) false=some 0:=Va (by rw[a];decide) (.inr Z) Z (show(0:Nat)<=600 by omega);rw[Xz _,QqC,if_neg (by rw[a];decide),d,if_pos Z,if_neg Z8,e]
 by_cases h:0<(b.length:Int)
 ·rw[if_pos h,Xz _,QqC,a];exact c
 ·rw[if_neg h];exact c
theorem Vb{l:List Pv}(hl:l.length<=600):Bv (MX l)=some 0:=by
 unfold Bv CR;have a:(MX l).f.1=3:=Z;have b:(MX l).f.2.1=0:=Z;have c:(MX l).f.2.2.1=[]:=Z;have d:Cw (MX l) false=some 0:=Va (by rw[a];decide) (.inl Z) Z hl;rw[Xz _,QqC,if_neg (by rw[a];decide),b,if_pos Z,if_neg Z8,c,if_neg Z8];exact d
def nd:Nat->Pv->Nat
 | 0,_=>0
 | d+1,v=>1+(v.f.2.2.2.2.map (nd d)).sum
def Cd:Nat->Pv->Prop
 | 0,_=>False
 | d+1,v=>Bv v=some 0/\v.f.2.2.2.2.length<=600/\∀p∈v.f.2.2.2.2,Cd d p
theorem Vc(f:Pv->Nat)(l:List Pv)(j:Nat):((l.take j).map f).sum<=(l.map f).sum:=by
 conv=>rhs;rw[<- Qxc j l,List.map_append,List.sum_append]
 omega
theorem Tb:∀(d m:Nat) (v:Pv) (a lv:Int),d<=m->Cd d v->0<=a->a+(nd d v:Int)<=600->0<=lv->lv+d<=11->FT m v a lv=some (a+(nd d v:Int),(0,0))
 | 0,_,_,_,_,_,h,_,_,_,_=>h.elim
 | d+1,0,_,_,_,h,_,_,_,_,_=>by omega
 | d+1,m+1,v,a,lv,hm,⟨g,h2,h3⟩,ha,hs,hlv,k=>by
  show HJ (FT m) v a lv=_
  unfold nd at hs ⊢;unfold HJ;rw[if_neg U,g,QqC,if_pos Z,Ao (h:=(by unfold BX;omega))];have key:=Hu (E1 v lv (FT m)) (fun j=>(a+1+(((v.f.2.2.2.2.take j).map (nd d)).sum:Nat),(j:Int))) v.f.2.2.2.2.length (some (a+1+((v.f.2.2.2.2.map (nd d)).sum:Nat),(0,0))) (fun j hj=>?_) ?_ 0 (Qq7 _)
  ·have i:a+1+(((v.f.2.2.2.2.take 0).map (nd d)).sum:Nat)=a+1:=by simp
   rw[i]at key;have e:a+((1+(v.f.2.2.2.2.map (nd d)).sum:Nat):Int)=a+1+((v.f.2.2.2.2.map (nd d)).sum:Nat):=by omega
   rw[e];exact key
  ·have c:=Vc (nd d) v.f.2.2.2.2 (j+1);rw[Qxd hj,List.map_append,List.sum_append]at c ⊢;simp only[Qz7,List.map_nil,List.sum_cons,List.sum_nil,Nat.add_zero]at c ⊢;have hp:=Tb d m v.f.2.2.2.2[j] (a+1+(((v.f.2.2.2.2.take j).map (nd d)).sum:Nat)) (lv+1) U (h3 _ (QzA hj)) U U U U;unfold E1;dsimp only;rw[if_pos U,Ao,Ao (h:=(by unfold BX;omega)),show((j:Nat):Int).toNat=j from Z,<- Qza (h:=hj) Qqf,hp,QqC,if_pos ⟨Z,Z⟩,Ao (h:=(by unfold BX;omega))];refine congrArg some (congrArg Sum.inl (Prod.ext ?_ Z));dsimp only;omega
  ·unfold E1 HS;dsimp only;rw[if_neg U,List.take_length]
def nz(n:Int):Nat:=if n<64 then 1 else if n<8192 then 2 else 3
def ed:Nat->Pv->Nat
 | 0,_=>0
 | d+1,v=>if v.f.1=1 then 1+nz v.f.2.1 else if v.f.1=2 then 3+v.f.2.2.1.length else 3+((v.f.2.2.2.2.map (ed d)).sum+(if v.f.1=4 then(v.f.2.2.2.1.map fun s=>1+s.length).sum else 0))
def Ed:Nat->Pv->Prop
 | 0,_=>False
 | d+1,v=>(v.f.1=1/\0<=v.f.2.1/\v.f.2.1<65536)\/(v.f.1=2/\v.f.2.2.1.length<=2500)\/((v.f.1=3\/v.f.1=4/\v.f.2.2.2.1.length=v.f.2.2.2.2.length/\∀s∈v.f.2.2.2.1,s.length<=60)/\v.f.2.2.2.2.length<=600/\∀p∈v.f.2.2.2.2,Ed d p)
theorem M9(n:Int):nz n<=3:=by
 unfold nz
 split
 ·omega
 split <;> omega
theorem Sp{n:Int}(h:n<8192):nz n<=2:=by
 unfold nz
 split
 ·omega
 ·exact Qq0 _
theorem NU{n:Int}(a:0<=n)(c:n<65536):∃b,DZ n=some b/\b.length<=nz n:=by
 refine⟨QP (zz n),TF (by unfold BX;omega),?_⟩;have e:zz n=(2 * n).toNat:=by unfold zz;rw[if_pos a]
 rw[e];unfold nz
 split
 ·exact YZ U
 ·split
  ·exact Za U
  ·exact Zb U
theorem Vd{b:QqZ}(h:b.length<=2500):∃e,J5 b=some e/\e.length<=nz b.length+b.length:=by
 obtain⟨x,a,h2⟩:=NU (n:=(b.length:Int)) U U;refine⟨x++b,?_,by rw[Qq1];omega⟩;unfold J5;have:=M9 (b.length:Int);rw[a,QqC,Ao (h:=(by unfold Gg;omega))]
theorem Qu{α:Type}(f:α->Nat){l:List α}{j:Nat}(h:j<l.length):((l.drop j).map f).sum=f l[j]+((l.drop (j+1)).map f).sum:=by
 rw[Qzc h,Qz7,List.sum_cons]
theorem PG{m d:Nat}{v:Pv}(hk:v.f.1=3\/v.f.1=4/\v.f.2.2.2.1.length=v.f.2.2.2.2.length/\∀s∈v.f.2.2.2.1,s.length<=60)(hl:v.f.2.2.2.2.length<=600)
  (hp:∀p∈v.f.2.2.2.2,∃e,Dv m p=some e/\e.length<=ed d p):∀(n j:Nat) (L:QqZ),j+n=v.f.2.2.2.2.length->L.length+(((v.f.2.2.2.2.drop j).map (ed d)).sum+(if v.f.1=4 then((v.f.2.2.2.1.drop j).map fun s=>1+s.length).sum else 0))<=1000000->
  ∃e,E3 v (Dv m) (L,(j:Int))=some e/\e.length<=L.length+(((v.f.2.2.2.2.drop j).map (ed d)).sum+(if v.f.1=4 then((v.f.2.2.2.1.drop j).map fun s=>1+s.length).sum else 0))
 | 0,j,L,h,_=>by
  refine⟨L,?_,by omega⟩;unfold E3;refine BY (m:=some L) ?_;unfold Ef Hn;dsimp only;rw[if_neg U]
 | n+1,j,L,h,hL=>by
  have hlt:j<v.f.2.2.2.2.length:=by omega
  obtain⟨x,k,h2⟩:=hp _ (QzA hlt);rw[Qu (ed d) hlt]at hL ⊢
  rcases hk with h3 | ⟨h3,o,l⟩
  ·have g : ¬v.f.1=4:=by omega
   rw[if_neg g]at hL ⊢;obtain⟨e,c,i⟩:=PG (.inl h3) hl hp n (j+1) (L++x) U (by rw[if_neg g,Qq1];omega);rw[if_neg g,Qq1]at i;refine⟨e,?_,by omega⟩;unfold E3 at c ⊢;rw[BT (s':=(L++x,((j+1:Nat):Int))) ?_,c];unfold Ef E2;dsimp only;rw[if_pos U,Ao,if_neg g,show((j:Nat):Int).toNat=j from Z,<- Qza (h:=hlt) Qqf,k,QqC,Ao (h:=(by unfold Gg;omega)),Ao (h:=(by unfold BX;omega))]
   rfl
  ·have a:j<v.f.2.2.2.1.length:=by omega
   have q:=l _ (QzA a);obtain⟨y,y1,y2⟩:=Vd (b:=v.f.2.2.2.1[j]) U;have y3:nz (v.f.2.2.2.1[j].length:Int)=1:=by unfold nz;rw[if_pos U]
   rw[if_pos h3,Qu _ a]at hL ⊢;obtain⟨e,c,i⟩:=PG (.inr ⟨h3,o,l⟩) hl hp n (j+1) (L++y++x) U (by rw[if_pos h3,Qq1,Qq1];omega);rw[if_pos h3,Qq1,Qq1]at i;refine⟨e,?_,by omega⟩;unfold E3 at c ⊢;rw[BT (s':=(L++y++x,((j+1:Nat):Int))) ?_,c];unfold Ef E2;dsimp only;rw[if_pos U,Ao,if_pos h3,show((j:Nat):Int).toNat=j from Z,Ao,<- Qza (h:=a) Qqf,Ao,y1,QqC,Ao (h:=(by unfold Gg;omega)),<- Qza (h:=hlt) Qqf,k,QqC,Ao (h:=(by unfold Gg;rw[Qq1];omega)),Ao (h:=(by unfold BX;omega))]
   rfl
theorem Tc(f:Pv->Nat):∀{l:List Pv}{p:Pv},p∈l->f p<=(l.map f).sum
 | q::l,p,h=>by
  rw[Qz7,List.sum_cons]
  rcases Qq5.1 h with rfl | h
  ·omega
  ·have:=Tc f h;omega
theorem Td:∀(d m:Nat) (v:Pv),d<=m->Ed d v->ed d v<=100000->∃e,Dv m v=some e/\e.length<=ed d v
 | 0,_,_,_,h,_=>h.elim
 | d+1,0,_,h,_,_=>by omega
 | d+1,m+1,v,hm,h,hs=>by
  have hen:∀x,Dv (m+1) x=EA (Dv m) x:=fun _=>Z;unfold Ed at h;unfold ed at hs ⊢
  rcases h with ⟨a,h2,h3⟩ | ⟨a,h2⟩ | ⟨a,h2,h3⟩
  ·rw[if_pos a];obtain⟨x,c,g⟩:=NU (n:=v.f.1) U U;obtain⟨y,y1,y2⟩:=NU h2 h3;have i:nz v.f.1=1:=by unfold nz;rw[if_pos U]
   have:=M9 v.f.2.1;refine⟨x++y,?_,by rw[Qq1];omega⟩;rw[hen];unfold EA;rw[c,QqC,if_pos a,y1,QqC,Ao (h:=(by unfold Gg;omega))]
  ·rw[if_neg U,if_pos a];obtain⟨x,c,g⟩:=NU (n:=v.f.1) U U;obtain⟨y,y1,y2⟩:=Vd h2;have i:nz v.f.1=1:=by unfold nz;rw[if_pos U]
   have y3:nz (v.f.2.2.1.length:Int)<=2:=Sp U;refine⟨x++y,?_,by rw[Qq1];omega⟩;rw[hen];unfold EA;rw[c,QqC,if_neg U,if_pos a,y1,QqC,Ao (h:=(by unfold Gg;omega))]
  ·have b : ¬v.f.1=1/\¬v.f.1=2:=by rcases a with a | ⟨a,_⟩ <;> omega
   rw[if_neg b.1,if_neg b.2]at hs ⊢;obtain⟨x,c,g⟩:=NU (n:=v.f.1) (by rcases a with a | ⟨a,_⟩ <;> omega) (by rcases a with a | ⟨a,_⟩ <;> omega);have i:nz v.f.1=1:=by unfold nz;rw[if_pos (by rcases a with a | ⟨a,_⟩ <;> omega)]
   obtain⟨y,y1,y2⟩:=NU (n:=(v.f.2.2.2.2.length:Int)) U U;have y3:nz (v.f.2.2.2.2.length:Int)<=2:=Sp U;have hsum:∀p∈v.f.2.2.2.2,ed d p<=(v.f.2.2.2.2.map (ed d)).sum:=fun p hp=>Tc (ed d) hp;have hp:∀p∈v.f.2.2.2.2,∃e,Dv m p=some e/\e.length<=ed d p:=fun p hp=>Td d m p U (h3 p hp) (by have:=hsum p hp;omega);obtain⟨e,j,k⟩:=PG a h2 hp v.f.2.2.2.2.length 0 (x++y) U (by simp only[Qxz,Qq1];omega);simp only[Qxz,Qq1]at k;refine⟨e,?_,by omega⟩;rw[hen];unfold EA;rw[c,QqC,if_neg b.1,if_neg b.2,y1,QqC,Ao (h:=(by unfold Gg;omega))];exact j
theorem O5{v:Pv}{d:Nat}(hd:d<=10)(hc:Cd d v)(hn:nd d v<=600)(he:Ed d v)(hs:ed d v<=4000):Cs v=some (0,0):=by
 have a:My v 0 1=some (0+(nd d v:Int),(0,0)):=Tb d 1000 v 0 1 U hc U U U U;obtain⟨e,h2,h3⟩:=Td d 1000 v U he U;have h2:LL v=some e:=h2;unfold Cs LM;rw[a,QqC,if_pos ⟨Z,Z⟩,h2,QqC,if_neg U]
 rfl
end Go.Proofs.YtfgomcdgmihmpaaGreatDoor
end
noncomputable section
namespace Go.Proofs.YtfgomcdgmihmpaaGreatDoor
open Go Go.E Go.RowKit Go.L
abbrev MA:QqZ:=[115,97,109,112,108,101,115]
theorem TG(x:Pv):Bv (M7 [NP] [x])=some 0:=(inferInstance:Mi (Bv (M7 [NP] [x]))).h _ V
theorem Wg(x:Pv):Bv (M7 [IL] [x])=some 0:=(inferInstance:Mi (Bv (M7 [IL] [x]))).h _ V
theorem Yh(x y:Pv):Bv (M7 [M8,IL] [x,y])=some 0:=(inferInstance:Mi (Bv (M7 [M8,IL] [x,y]))).h _ V
theorem Wh(x y z:Pv):Bv (M7 [Jm,EZ,KZ] [x,y,z])=some 0:=(inferInstance:Mi (Bv (M7 [Jm,EZ,KZ] [x,y,z]))).h _ V
theorem X2(x y z:Pv):Bv (M7 [Jm,EZ,MA] [x,y,z])=some 0:=(inferInstance:Mi (Bv (M7 [Jm,EZ,MA] [x,y,z]))).h _ V
theorem PI{d:Nat}(n:Int):Cd (d+1) (Jh n):=⟨X0 n,Qq7 _,fun p hp=>by cases hp⟩
theorem Sq{d:Nat}(b:QqZ):Cd (d+1) (Ow b):=⟨X1 b,Qq7 _,fun p hp=>by cases hp⟩
theorem Yi{d:Nat}(c:Ck):Cd (d+2) (vb c):=by
 unfold vb
 split
 ·refine⟨Wh _ _ _,show(3:Nat)<=600 by omega,fun p hp=>?_⟩;have hp:p∈[_,_,_]:=hp;simp only[Qq5,Qzj,or_false]at hp
  rcases hp with rfl | rfl | rfl <;> exact PI _
 ·split
  ·refine⟨Wg _,show(1:Nat)<=600 by omega,fun p hp=>?_⟩;have hp:p∈[_]:=hp;simp only[Qq5,Qzj,or_false]at hp;subst hp;exact Sq _
  ·refine⟨Yh _ _,show(2:Nat)<=600 by omega,fun p hp=>?_⟩;have hp:p∈[_,_]:=hp;simp only[Qq5,Qzj,or_false]at hp
   rcases hp with rfl | rfl
   ·exact PI _
   ·exact Sq _
theorem Yj{d:Nat}(c:Ck):Cd (d+3) (vk c):=by
 refine⟨Vb Z8,show(2:Nat)<=600 by omega,fun p hp=>?_⟩;have hp:p∈[_,_]:=hp;simp only[Qq5,Qzj,or_false]at hp
 rcases hp with rfl | rfl
 ·exact PI _
 ·exact Yi _
theorem Yk{l:List Ck}(hl:l.length<=600):Cd 5 (vF l):=by
 refine⟨TG _,show(1:Nat)<=600 by omega,fun p hp=>?_⟩;have hp:p∈[_]:=hp;simp only[Qq5,Qzj,or_false]at hp;subst hp;refine⟨Vb (by rw[Qq9];exact hl),show(l.map vk).length<=600 by rw[Qq9];exact hl,fun p hp=>?_⟩;obtain⟨c,_,rfl⟩:=List.mem_map.1 (show p∈l.map vk from hp);exact Yj c
theorem PJ{d:Nat}{n:Int}(a:0<=n)(b:n<65536):Ed (d+1) (Jh n):=.inl ⟨Z,a,b⟩
theorem Sr{d:Nat}{b:QqZ}(h:b.length<=2500):Ed (d+1) (Ow b):=.inr (.inl ⟨Z,h⟩)
theorem PK{d:Nat}{ns:QqA}{l:List Pv}(a:ns.length=l.length)(h2:∀s∈ns,s.length<=60)(h3:l.length<=600)(b:∀p∈l,Ed d p):Ed (d+1) (M7 ns l):=.inr (.inr ⟨.inr ⟨Z,a,h2⟩,h3,b⟩)
theorem Ve{d:Nat}{l:List Pv}(h3:l.length<=600)(a:∀p∈l,Ed d p):Ed (d+1) (MX l):=.inr (.inr ⟨.inl Z,h3,a⟩)
theorem Yl{d:Nat}{c:Ck}(hc:NR c):Ed (d+2) (vb c):=by
 have h3:=hc.len;unfold vb
 split
 ·have a1:=(c.2.getD 0 0).toNat_lt;have a2:=(c.2.getD 1 0).toNat_lt;have a3:=(c.2.getD 2 0).toNat_lt;have a4:=(c.2.getD 3 0).toNat_lt;refine PK Z Z7 Z8 fun p hp=>?_;simp only[Qq5,Qzj,or_false]at hp
  rcases hp with rfl | rfl | rfl <;> exact PJ U U
 ·split
  ·refine PK Z Z7 Z8 fun p hp=>?_;simp only[Qq5,Qzj,or_false]at hp;subst hp;exact Sr U
  ·have:=c.1.toNat_lt;refine PK Z Z7 Z8 fun p hp=>?_;simp only[Qq5,Qzj,or_false]at hp
   rcases hp with rfl | rfl
   ·exact PJ U U
   ·exact Sr U
theorem Ym{d:Nat}{c:Ck}(hc:NR c):Ed (d+3) (vk c):=by
 have:=QL c.1.toNat;refine Ve Z8 fun p hp=>?_;simp only[Qq5,Qzj,or_false]at hp
 rcases hp with rfl | rfl
 ·exact PJ U U
 ·exact Yl hc
theorem Yn{l:List Ck}(hc:∀c∈l,NR c)(hl:l.length<=600):Ed 5 (vF l):=by
 refine PK Z Z7 Z8 fun p hp=>?_;simp only[Qq5,Qzj,or_false]at hp;subst hp;refine Ve (by rw[Qq9];exact hl) fun p hp=>?_;obtain⟨c,h,rfl⟩:=List.mem_map.1 hp;exact Ym (hc c h)
theorem Yo(c:Ck):nd 3 (vk c) * 3<=5 * (3+c.2.length)\/c.1.toNat=70/\nd 3 (vk c)=6:=by
 have e:nd 3 (vk c)=1+(1+(nd 2 (vb c)+0)):=Z;rw[e];unfold vb
 split
 ·rename_i h;exact .inr ⟨h,Z⟩
 ·split
  ·left
   have:nd 2 (M7 [IL] [Ow c.2])=2:=Z;rw[this];omega
  ·left
   have:nd 2 (M7 [M8,IL] [Jh c.1.toNat,Ow c.2])=3:=Z;rw[this];omega
theorem Yp{c:Ck}(hc:NR c):ed 3 (vk c)<=8 * (3+c.2.length):=by
 have hk:=QL c.1.toNat;have hn:nz ((TE c.1.toNat:Nat):Int)=1:=by unfold nz;rw[if_pos U]
 have e:ed 3 (vk c)=3+((1+nz ((TE c.1.toNat:Nat):Int))+(ed 2 (vb c)+0)+0):=Z;rw[e,hn];unfold vb
 split
 ·rename_i h;have d:=hc.four h;have a:∀x y z:Int,ed 2 (M7 [Jm,EZ,KZ] [Jh x,Jh y,Jh z])=3+((1+nz x)+((1+nz y)+((1+nz z)+0))+21):=fun _ _ _=>Z;rw[a];have b:=M9 (((c.2.getD 0 0).toNat * 256+(c.2.getD 1 0).toNat:Nat):Int);have f:=M9 ((c.2.getD 2 0).toNat:Int);have g:=M9 ((c.2.getD 3 0).toNat:Int);omega
 ·split
  ·have a:ed 2 (M7 [IL] [Ow c.2])=3+((3+c.2.length)+0+5):=Z;rw[a];omega
  ·have a:ed 2 (M7 [M8,IL] [Jh c.1.toNat,Ow c.2])=3+((1+nz (c.1.toNat:Int))+((3+c.2.length)+0)+10):=Z;have b:nz (c.1.toNat:Int)<=2:=Sp (by have:=c.1.toNat_lt;omega);rw[a];omega
theorem Te:∀{l:List Ck},(∀c∈l,NR c)->((l.map vk).map (nd 3)).sum * 3<=5 * (fl l).length/\((l.map vk).map (ed 3)).sum<=8 * (fl l).length
 | [],_=>by simp
 | c::l,hc=>by
  obtain⟨a,h2⟩:=Te (l:=l) fun c' h'=>hc c' (List.mem_cons_of_mem _ h');have hk:=hc c (List.mem_cons_self ..);have h3:=Yp hk;have b:=Yo c;have d:=hk.four;simp only[Qz7,List.sum_cons,fl,Qq1,Ox];omega
theorem La{l:List Ck}(hc:∀c∈l,NR c)(hl:(FY l).length<=300):Cs (vF l)=some (0,0):=by
 have hf:=PF l;have hlen:(FY l).length=4+((fl l).length+1):=by unfold FY;simp;omega
 obtain⟨e,h2⟩:=Te hc;have a:nd 5 (vF l)=1+((1+((l.map vk).map (nd 3)).sum)+0):=Z;have b:ed 5 (vF l)=3+((3+(((l.map vk).map (ed 3)).sum+0))+0+7):=Z;exact O5 (d:=5) Z7 (Yk U) (by rw[a];omega) (Yn hc U) (by rw[b];omega)
def MQ:Pv->QqX->Option Pv
 | v,[]=>some v
 | v,k::p=>if 0<=k/\k<(v.f.2.2.2.2.length:Int)then MQ (v.f.2.2.2.2.getD k.toNat Qqf) p else none
theorem YA(v:Pv):(some v).getD Qqf=v:=Z
theorem RI{path:QqX}(hl:path.length<=1000):∀(d:QqX) (j:Nat) (v w:Pv),path.drop j=d->j<=path.length->MQ v d=some w->JE path (some v,(j:Int))=some (some w,(0,0))
 | [],j,v,w,hd,hj,h=>by
  have a:path.length<=j:=by
   rcases Qzd j path.length with q | q
   ·rw[Qzc q]at hd;cases hd
   ·exact q
  obtain rfl:=Option.some.inj h;unfold JE;refine BY (m:=some (some v,(0,0))) ?_;unfold Je Lk;dsimp only;rw[if_neg U]
 | k::d,j,v,w,hd,hj,h=>by
  have hlt:j<path.length:=by
   rcases Qzd j path.length with q | q
   ·exact q
   ·rw[Qxk q]at hd;cases hd
  rw[Qzc hlt,List.cons.injEq]at hd;unfold MQ at h
  split at h
  ·rename_i hc;have ih:=RI hl d (j+1) _ w hd.2 U h;unfold JE at ih ⊢;rw[BT (s':=(some (v.f.2.2.2.2.getD k.toNat Qqf),((j+1:Nat):Int))) ?_,ih];unfold Je;dsimp only;rw[if_pos U,Ao,show((j:Nat):Int).toNat=j from Z,<- Qza (h:=hlt) Qqf,hd.1,YA,if_neg U,Ao (h:=(by rfl)),if_neg U,Ao (h:=hc),Ao (h:=(by unfold BX;omega))]
   rfl
  ·cases h
theorem find_eq{path:QqX}{v w:Pv}(hl:path.length<=1000)(h:MQ v path=some w):LQ (some v) path=some (some w,(0,0)):=RI hl path 0 v w Z (Qq7 _) h
theorem Yq{path:QqX}{v w:Pv}(hv:Cs v=some (0,0))(hl:path.length<=1000)(h:MQ v path=some w)(hc:DC w=some w):JY v path=some (w,(0,0)):=by
 unfold JY;rw[hv,QqC,if_pos ⟨Z,Z⟩,find_eq hl h,QqC,if_pos ⟨Z,Z⟩,Ao (h:=(by rfl))]
 show QqB (DC w) _=_
 rw[hc]
 rfl
theorem PL{v P:Pv}{n:QqZ}{s:List QqX}{p:QqX}{k:Int}(hl:p.length<=900)(h:MQ v p=some P)(hk:P.f.1≠4):El (some v) n s (p++[k])=some s:=by
 unfold El;have e:(p++[k]).length=p.length+1:=by simp
 have a:(p++[k]).take (((p.length+1:Nat):Int) - 1).toNat=p:=by
  rw[show(((p.length+1:Nat):Int) - 1).toNat=p.length by omega,List.take_left]
 rw[e,if_pos U,Ao (h:=(by unfold BX;omega)),Ao,a,find_eq U h,QqC];dsimp only;rw[YA,Ao (h:=(by rfl)),if_neg hk]
theorem J6{v P:Pv}{n:QqZ}(x:QqZ)(s:List QqX)(p:QqX)(k:Nat)(hl:p.length<=900)(h:MQ v p=some P)(hk:P.f.1=4)(hlt:k<P.f.2.2.2.1.length)(hx:P.f.2.2.2.1.getD k Qqf=x)(hs:s.length<=1000):El (some v) n s (p++[(k:Int)])=some (if x=n then s++[p++[(k:Int)]]else s):=by
 unfold El;have e:(p++[(k:Int)]).length=p.length+1:=by simp
 have a:(((p.length+1:Nat):Int) - 1).toNat=p.length:=by omega
 have b:(p++[(k:Int)]).take p.length=p:=List.take_left;have c:(p++[(k:Int)]).getD p.length Qqf=(k:Int):=by simp[QzX]
 rw[e,if_pos U,Ao (h:=(by unfold BX;omega)),Ao,a,b,find_eq U h,QqC];dsimp only;rw[YA,Ao (h:=(by rfl)),if_pos hk,Ao (h:=(by unfold BX;omega)),Ao,c,Ao,show((k:Nat):Int).toNat=k from Z,hx]
 split
 ·rw[Ao (h:=(by unfold Gg;simp only[Qzk];omega))]
 ·rfl
theorem Tf{x:QqX}(h:x.length<=1000):C9 x=some x:=by
 unfold C9;rw[Ao (h:=(by unfold Gg;simp only[Qzu];omega))]
 rfl
theorem J7{σ:Type}{step:σ->QqX->Option σ}(m:Nat){v:Pv}{q:QqX}{s:σ}(S:Nat->σ)(hq:q.length<=900)(hl:v.f.2.2.2.2.length<=1000)(hc:DC v=some v)(a:step s q=some (S 0))
  (hp:∀j,∀h:j<v.f.2.2.2.2.length,Dz step m v.f.2.2.2.2[j] (q++[(j:Int)]) (S j)=some (S (j+1))):Dz step (m+1) v q s=some (S v.f.2.2.2.2.length):=by
 show I0 step (Dz step m) v q s=_
 unfold I0 IE;rw[Tf U,QqC,hc,QqC,a,QqC];refine Hu (EN v q (Dz step m)) (fun j=>((j:Int),S j)) v.f.2.2.2.2.length (some (S v.f.2.2.2.2.length)) (fun j hj=>?_) ?_ 0 (Qq7 _)
 ·unfold EN IC;dsimp only;rw[if_pos U,Ao,Tf U,QqC,Ao (h:=(by unfold Gg;simp only[Qzk];omega)),show((j:Nat):Int).toNat=j from Z,<- Qza (h:=hj) Qqf,hp j hj,QqC,Ao (h:=(by unfold BX;omega))]
  rfl
 ·unfold EN ID;dsimp only;rw[if_neg U]
theorem J8{σ:Type}{step:σ->QqX->Option σ}{m:Nat}{v:Pv}{q:QqX}{s s':σ}(hq:q.length<=900)(hl:v.f.2.2.2.2=[])(hc:DC v=some v)(a:step s q=some s'):Dz step (m+1) v q s=some s':=by
 have:=J7 m (fun _=>s') hq (by rw[hl];exact Qq7 _) hc a (fun j h=>by rw[hl]at h;exact absurd h (Nat.not_lt_zero _));exact this
def hC(c:Ck)(i:Nat):List QqX:=if c.1.toNat=70 then[[0,(i:Int),1,0]]else[]
def hN(l:List Ck):Nat->List QqX
 | 0=>[]
 | j+1=>hN l j++(match l[j]? with | some c=>hC c j | none=>[])
theorem X3(c:Ck)(i:Nat):(hC c i).length<=1:=by unfold hC;split <;> simp
theorem Vf(l:List Ck):∀j,(hN l j).length<=j
 | 0=>Qq0 _
 | j+1=>by
  have a:=Vf l j;unfold hN;rw[Qq1]
  split
  ·have:=X3 (by assumption) j;omega
  ·simp;omega
noncomputable abbrev QQ(l:List Ck):List QqX->QqX->Option (List QqX):=fun s x=>El (some (vF l)) Jm s x
theorem YB{l:List Ck}:MQ (vF l) []=some (vF l):=Z
theorem YC{l:List Ck}:MQ (vF l) [0]=some (MX (l.map vk)):=Z
theorem X4{l:List Ck}{i:Nat}(hi:i<l.length):MQ (vF l) [0,(i:Int)]=some (vk l[i]):=by
 have e:MQ (vF l) [0,(i:Int)]=if 0<=(i:Int)/\(i:Int)<((l.map vk).length:Int)then some ((l.map vk).getD (i:Int).toNat Qqf)else none:=Z;rw[e,Qq9,if_pos U,show((i:Nat):Int).toNat=i from Z];simp[QzX,hi]
theorem QR:∀(p q:QqX) (v w:Pv),MQ v p=some w->MQ v (p++q)=MQ w q
 | [],_,_,_,h=>by cases h;rfl
 | k::p,q,v,w,h=>by
  unfold MQ at h
  show(if _ then _ else _)=_
  split at h
  ·rename_i hk;rw[if_pos hk];exact QR p q _ w h
  ·cases h
theorem Yr{l:List Ck}{i:Nat}(hi:i<l.length):MQ (vF l) [0,(i:Int),1]=some (vb l[i]):=by
 have:=QR [0,(i:Int)] [1] _ _ (X4 hi);exact this
theorem Wi{l:List Ck}(hc:∀c∈l,NR c){m i:Nat}{s:List QqX}(hi:i<l.length)(hs:s.length<=900):Dz (QQ l) (m+2) (vb l[i]) [0,(i:Int),1] s=some (s++hC l[i] i):=by
 have h2:=X4 (l:=l) hi;have h3:=Yr (l:=l) hi;have hk:=hc _ (QzA hi);have hst:QQ l s [0,(i:Int),1]=some s:=PL (p:=[0,(i:Int)]) (k:=1) Z8 h2 (by show(3:Int)≠4;decide);have hlen:=hk.len;generalize l[i]=c at *;have hcl:DC (vb c)=some (vb c):=RE (m:=998) hk;unfold hC;unfold vb at *
 by_cases a:c.1.toNat=70
 ·rw[if_pos a]at h3 hcl ⊢;rw[if_pos a];have:=J7 (m+1) (step:=QQ l) (q:=[0,(i:Int),1]) (s:=s) (fun j=>if j=0 then s else s++[[0,(i:Int),1,0]]) Z8 (by show(3:Nat)<=1000;omega) hcl hst (fun j h=>?_)
  ·exact this
  ·have h:j<3:=h
   match j,h with
   | 0,_=>exact J8 Z8 Z (Em (m:=999)) (J6 Jm s [0,(i:Int),1] 0 Z8 h3 Z (show 0<3 by decide) Z U)
   | 1,_=>exact J8 Z8 Z (Em (m:=999)) (J6 EZ (s++[[0,(i:Int),1,0]]) [0,(i:Int),1] 1 Z8 h3 Z (show 1<3 by decide) Z (by simp;omega))
   | 2,_=>exact J8 Z8 Z (Em (m:=999)) (J6 KZ (s++[[0,(i:Int),1,0]]) [0,(i:Int),1] 2 Z8 h3 Z (show 2<3 by decide) Z (by simp;omega))
 ·rw[if_neg a]at h3 hcl ⊢;rw[if_neg a,QzQ]
  by_cases b:c.1.toNat=68
  ·rw[if_pos b]at h3 hcl ⊢;have:=J7 (m+1) (step:=QQ l) (q:=[0,(i:Int),1]) (s:=s) (fun _=>s) Z8 (by show(1:Nat)<=1000;omega) hcl hst (fun j h=>?_)
   ·exact this
   ·have h:j<1:=h
    match j,h with
    | 0,_=>exact J8 Z8 Z (Em (m:=999) (a:=(by omega))) (J6 IL s [0,(i:Int),1] 0 Z8 h3 Z (show 0<1 by decide) Z U)
  ·rw[if_neg b]at h3 hcl ⊢;have:=J7 (m+1) (step:=QQ l) (q:=[0,(i:Int),1]) (s:=s) (fun _=>s) Z8 (by show(2:Nat)<=1000;omega) hcl hst (fun j h=>?_)
   ·exact this
   ·have h:j<2:=h
    match j,h with
    | 0,_=>exact J8 Z8 Z (Em (m:=999)) (J6 M8 s [0,(i:Int),1] 0 Z8 h3 Z (show 0<2 by decide) Z U)
    | 1,_=>exact J8 Z8 Z (Em (m:=999) (a:=(by omega))) (J6 IL s [0,(i:Int),1] 1 Z8 h3 Z (show 1<2 by decide) Z U)
theorem Wj{l:List Ck}(hc:∀c∈l,NR c){m i:Nat}{s:List QqX}(hi:i<l.length)(hs:s.length<=900):Dz (QQ l) (m+3) (vk l[i]) [0,(i:Int)] s=some (s++hC l[i] i):=by
 have h2:=X4 (l:=l) hi;have hst:QQ l s [0,(i:Int)]=some s:=PL (p:=[0]) (k:=(i:Int)) Z7 (YC (l:=l)) (by show(3:Int)≠4;decide);have a:QQ l s [0,(i:Int),0]=some s:=PL (p:=[0,(i:Int)]) (k:=0) Z8 h2 (by show(3:Int)≠4;decide);have hcl:DC (vk l[i])=some (vk l[i]):=RF (m:=997) (hc _ (QzA hi));have:=J7 (m+2) (v:=vk l[i]) (step:=QQ l) (q:=[0,(i:Int)]) (s:=s) (fun j=>if j<=1 then s else s++hC l[i] i) Z8 (by show(2:Nat)<=1000;omega) hcl hst (fun j h=>?_)
 ·exact this
 ·have h:j<2:=h
  match j,h with
  | 0,_=>exact J8 Z8 Z (Em (m:=999)) a
  | 1,_=>exact Wi hc hi hs
theorem Wk{l:List Ck}(hc:∀c∈l,NR c)(hl:l.length<=400){m:Nat}:Dz (QQ l) (m+4) (MX (l.map vk)) [0] []=some (hN l l.length):=by
 have hst:QQ l [] [0]=some []:=J6 NP [] [] 0 Z8 (YB (l:=l)) Z (show 0<1 by decide) Z Z8;have hcl:DC (MX (l.map vk))=some (MX (l.map vk)):=RG (m:=996) hc U;have hpl:(MX (l.map vk)).f.2.2.2.2.length=l.length:=Qq9 ..;have:=J7 (m+3) (v:=MX (l.map vk)) (step:=QQ l) (q:=[0]) (s:=[]) (hN l) Z8 (by rw[hpl];omega) hcl hst (fun j h=>?_)
 ·rw[hpl]at this;exact this
 ·have hj:j<l.length:=by rw[hpl]at h;exact h
  have e:(MX (l.map vk)).f.2.2.2.2[j]=vk l[j]:=List.getElem_map ..;have a:=Vf l j;rw[e];have:=Wj hc (m:=m) (s:=hN l j) hj U;rw[show hN l (j+1)=hN l j++hC l[j] j by rw[hN,List.getElem?_eq_getElem hj]];exact this
theorem Wl{l:List Ck}(hc:∀c∈l,NR c)(hl:l.length<=400):N3 (QQ l) (vF l) [] []=some (hN l l.length):=by
 have hst:QQ l [] []=some []:=Z;have hcl:DC (vF l)=some (vF l):=RH (m:=995) hc U;have:=J7 999 (v:=vF l) (step:=QQ l) (q:=[]) (s:=[]) (fun j=>if j=0 then[]else hN l l.length) Z8 (by show(1:Nat)<=1000;omega) hcl hst (fun j h=>?_)
 ·exact this
 ·have h:j<1:=h
  match j,h with
  | 0,_=>exact Wk hc hl (m:=995)
theorem Wm{l:List Ck}(hc:∀c∈l,NR c)(hl:(FY l).length<=300):LV (vF l) Jm=some (hN l l.length,(0,0)):=by
 have hf:=PF l;have hlen:(FY l).length=4+((fl l).length+1):=by unfold FY;simp;omega
 have hv:=La hc hl;have hn:Ej Jm=some true:=(inferInstance:Mi (Ej Jm)).h true V;have hcl:DC (vF l)=some (vF l):=RH (m:=995) hc U
 have hw:Kz (QQ l) (vF l) []=some (hN l l.length):=by
  show GY (QQ l) (Hr (QQ l) 999) (vF l) []=_
  unfold GY;rw[hv,QqC,if_pos ⟨Z,Z⟩,Wl hc U]
  rfl
 unfold LV N4;rw[hv,QqC,if_pos ⟨Z,Z⟩,hn,QqC,if_neg Z8,hcl,QqC]
 show QqB (Kz (QQ l) (vF l) []) _=_
 rw[hw]
 rfl
theorem Tg{l:List Ck}:∀(j:Nat),(∀i c,i<j->l[i]? = some c->c.1.toNat≠70)->hN l j=[]
 | 0,_=>rfl
 | j+1,h=>by
  rw[hN,Tg j (fun i c hi hc=>h i c U hc)]
  cases e:l[j]? with
  | none=>rfl
  | some c=>
   dsimp only;unfold hC;rw[if_neg (h j c U e)]
   rfl
theorem Vg{l:List Ck}{k:Nat}{f:Ck}(hk:l[k]? = some f)(hf:f.1.toNat=70):∀(j:Nat),k<j->(∀i c,i<j->i≠k->l[i]? = some c->c.1.toNat≠70)->hN l j=[[0,(k:Int),1,0]]
 | 0,h,_=>by omega
 | j+1,h,hn=>by
  by_cases e:j=k
  ·subst e;rw[hN,Tg j (fun i c hi hc=>hn i c U U hc),hk];dsimp only;unfold hC;rw[if_pos hf]
   rfl
  ·rw[hN,Vg hk hf j U (fun i c hi h2 hc=>hn i c U h2 hc)]
   cases a:l[j]? with
   | none=>rfl
   | some c=>
    dsimp only;unfold hC;rw[if_neg (hn j c U e a)]
    rfl
theorem Th{l:List Ck}{k:Nat}(hc:∀c∈l,NR c)(hl:(FY l).length<=300)(hk:k<l.length)(hf:l[k].1.toNat=70):JY (vF l) [0,(k:Int),1,0]=some (Jh (((l[k].2.getD 0 0).toNat * 256+(l[k].2.getD 1 0).toNat:Nat):Int),(0,0)):=by
 have h3:=QR [0,(k:Int),1] [0] _ _ (Yr hk);refine Yq (La hc hl) Z8 (h3.trans ?_) (Em (m:=999));unfold vb;rw[if_pos hf]
 rfl
theorem Yy(b c:UInt8):((b.toNat:Int) * 256).toNat ||| ((c.toNat:Int)).toNat=b.toNat * 256+c.toNat:=by
 have hc:=c.toNat_lt;rw[show((b.toNat:Int) * 256).toNat=b.toNat <<< 8 by rw[Nat.shiftLeft_eq];omega,show(c.toNat:Int).toNat=c.toNat from Z,<- Nat.shiftLeft_add_eq_or_of_lt U,Nat.shiftLeft_eq]
structure Lc (c:Ck):Prop where
 lo:65<=c.1.toNat
 hi:c.1.toNat<=90
 len:c.2.length<=1000
theorem Vh:∀(n:Nat) (rest:QqZ) (l:List Ck),rest.length<=n->rest.length<=1000->rest.length+l.length<=2000->∃r,Co (l,rest)=some r/\(r.2=true->∃cs:List Ck,r.1=l++cs/\rest=fl cs++[0]/\∀c∈cs,Lc c)
 | n,[],l,_,_,_=>by
  refine⟨([],false),?_,fun h=>by cases h⟩;unfold Co;refine BY (m:=some ([],false)) ?_;unfold Ce BZ;dsimp only;rw[if_neg Z8,if_neg Z8,if_pos Z8]
 | n,[x],l,_,_,_=>by
  by_cases hx:x=0
  ·subst hx;refine⟨(l,true),?_,fun _=>⟨[],by simp,Z,fun c hc=>by cases hc⟩⟩;unfold Co;refine BY (m:=some (l,true)) ?_;unfold Ce BZ;dsimp only;rw[if_pos Z8,Ao (h:=(by simp)),if_pos Z7]
  ·refine⟨([],false),?_,fun h=>by cases h⟩;unfold Co;refine BY (m:=some ([],false)) ?_;unfold Ce BZ;dsimp only;have e:([x].getD ((0:Int).toNat) Qqf)=x:=Z;have p:x.toNat≠0:=fun h=>hx (Qxj.1 h);rw[if_pos Z8,Ao (h:=(by simp)),e,if_neg (by simp;omega),if_pos Z8]
 | n,[x,y],l,_,_,_=>by
  refine⟨([],false),?_,fun h=>by cases h⟩;unfold Co;refine BY (m:=some ([],false)) ?_;unfold Ce BZ;dsimp only;rw[if_neg Z8,if_neg Z8,if_pos Z8]
 | 0,a::b::c::t,l,h,_,_=>by simp at h
 | n+1,a::b::c::t,l,hn,i,h2=>by
  have hb:=b.toNat_lt;have hc:=c.toNat_lt;simp only[Qzx]at hn i h2;have d:((a::b::c::t).getD ((0:Int).toNat) Qqf)=a:=Z;have f:((a::b::c::t).getD ((1:Int).toNat) Qqf)=b:=Z;have g:((a::b::c::t).getD ((2:Int).toNat) Qqf)=c:=Z;have el:((a::b::c::t).length:Int)=(t.length:Int)+3:=by simp only[Qzx];omega
  by_cases hlo:(a.toNat:Int)<65
  ·refine⟨([],false),?_,fun h=>by cases h⟩;unfold Co;refine BY (m:=some ([],false)) ?_;unfold Ce BZ;dsimp only;rw[el,d,if_neg U,if_neg Z8,if_neg U,Ao,if_pos hlo]
  ·by_cases hhi:(90:Int)<(a.toNat:Int)
   ·refine⟨([],false),?_,fun h=>by cases h⟩;unfold Co;refine BY (m:=some ([],false)) ?_;unfold Ce BZ;dsimp only;rw[el,d,if_neg U,if_neg Z8,if_neg U,Ao,if_neg hlo,Ao,if_pos hhi]
   ·by_cases hle:t.length<b.toNat * 256+c.toNat
    ·refine⟨([],false),?_,fun h=>by cases h⟩;unfold Co;refine BY (m:=some ([],false)) ?_;unfold Ce BZ;dsimp only;rw[el,d,f,g,Yy,if_neg U,if_neg Z8,if_neg U,Ao,if_neg hlo,Ao,if_neg hhi,Ao,Ao (h:=(by unfold BX;omega)),Ao,Ao,Ao (h:=(by unfold BX;omega)),if_pos U]
    ·have ed:(a::b::c::t).drop (3+(b.toNat * 256+c.toNat))=t.drop (b.toNat * 256+c.toNat):=by
      rw[<- List.drop_drop,show(a::b::c::t).drop 3=t from Z]
     have ih:=Vh n (t.drop (b.toNat * 256+c.toNat)) (l++[(a,t.take (b.toNat * 256+c.toNat))]) (by rw[Qzv];omega) (by rw[Qzv];omega) (by rw[Qzv,Qq1,Qzk];omega);obtain⟨r,r1,r2⟩:=ih;refine⟨r,?_,fun h=>?_⟩
     ·unfold Co at r1 ⊢;rw[BT (s':=(l++[(a,t.take (b.toNat * 256+c.toNat))],t.drop (b.toNat * 256+c.toNat))) ?_,r1];unfold Ce BZ;dsimp only;have j:((3:Int)+((b.toNat * 256+c.toNat:Nat):Int)).toNat=3+(b.toNat * 256+c.toNat):=by omega
      have k:3+(b.toNat * 256+c.toNat) - (3:Int).toNat=b.toNat * 256+c.toNat:=by show 3+(b.toNat * 256+c.toNat) - 3=_;omega
      have o:(a::b::c::t).drop ((3:Int).toNat)=t:=Z;rw[el,d,f,g,Yy,if_neg U,if_neg Z8,if_neg U,Ao,if_neg hlo,Ao,if_neg hhi,Ao,Ao (h:=(by unfold BX;omega)),Ao,Ao,Ao (h:=(by unfold BX;omega)),if_neg U,Ao,Ao (h:=(by unfold BX;omega)),Ao,Ao (h:=(by unfold Gg;simp only[Qzk];omega)),Ao (h:=(by unfold BX;omega)),Ao,j,k,o,ed]
     ·obtain⟨cs,c1,c2,c3⟩:=r2 h;have hx:(t.take (b.toNat * 256+c.toNat)).length=b.toNat * 256+c.toNat:=by rw[Qz9];omega
      refine⟨(a,t.take (b.toNat * 256+c.toNat))::cs,by rw[c1,QzJ];rfl,?_,fun c' hc'=>?_⟩
      ·rw[fl,kb,QzJ];dsimp only;rw[hx,show(b.toNat * 256+c.toNat) / 256=b.toNat by omega,show(b.toNat * 256+c.toNat) % 256=c.toNat by omega,QxZ,QxZ,<- c2]
       show _=a::b::c::(t.take (b.toNat * 256+c.toNat)++t.drop (b.toNat * 256+c.toNat))
       rw[Qxc]
      ·rcases Qq5.1 hc' with rfl | hc'
       ·exact⟨by dsimp only;omega,by dsimp only;omega,by dsimp only;rw[hx];omega⟩
       ·exact c3 c' hc'
theorem TH{a:QqZ}(h:a.length<=1000):∃r,HL a=some r/\(r.2=true->a=FY r.1/\(∀c∈r.1,Lc c)/\r.1.length<=1000):=by
 unfold HL Kd Kc Mn;rw[Ao (h:=(by decide))]
 by_cases hl:(4:Int)<=(a.length:Int)
 ·have b:(([83,78,68,49]:QqZ).length:Int)=4:=Z;rw[b,if_pos hl,Ao,QqC,QqC]
  by_cases hp:a.take (4:Int).toNat=[83,78,68,49]
  ·rw[decide_eq_true hp,if_neg Z8,Ao,QqC,if_neg Z8];obtain⟨r,r1,r2⟩:=Vh 1000 (a.drop (4:Int).toNat) [] (by rw[Qzv];omega) (by rw[Qzv];omega) (by rw[Qzv];simp only[Qzu];omega);refine⟨r,r1,fun h=>?_⟩;obtain⟨cs,c1,c2,c3⟩:=r2 h;rw[List.nil_append]at c1
   have ea:a=FY r.1:=by
    rw[c1];unfold FY;rw[<- c2,<- hp,Qxc]
   refine⟨ea,by rw[c1];exact c3,?_⟩;have e:=PF r.1;have d:(FY r.1).length=4+((fl r.1).length+1):=by unfold FY;simp;omega
   rw[<- ea]at d;omega
  ·rw[decide_eq_false hp,if_pos Z8,QqC,if_pos Z8];exact⟨_,Z,fun h=>by cases h⟩
 ·have b:(([83,78,68,49]:QqZ).length:Int)=4:=Z;rw[b,if_neg hl,QqC,if_pos Z8,QqC,if_pos Z8];exact⟨_,Z,fun h=>by cases h⟩
theorem YD(b c:UInt8):((c.toNat:Int)).toNat ||| ((b.toNat:Int) * 256).toNat=b.toNat * 256+c.toNat:=by rw[Nat.or_comm,Yy]
theorem unit_eq{f:Int×Int×Int}(h:0<=f.2.2/\f.2.2<4):Dp f=some (f.2.2 % 2+1):=by
 unfold Dp;rw[Ao,Ao (h:=(by unfold BX;omega))]
section
variable {f:Int×Int×Int} (hf:0<=f.2.2/\f.2.2<4)
include hf
theorem Vi{o un:QqX}{i u v:Int}(ho:o.length<=5000)(hi:0<=i/\i<=5000):Dh f o un i u v=some (.inl (o++[v],un++[u],i+(f.2.2 % 2+1))):=by
 unfold Dh;rw[Ao (h:=(by unfold Gg;simp only[Qzk];omega)),unit_eq hf,QqC,Ao (h:=(by unfold BX;omega))]
theorem WE{o un:QqX}{i u s9:Int}(ho:o.length<=5000)(hu:un.length<=5000)(hi:0<=i/\i<=5000)(h:0<=u/\u<65536):∃v,DT f o un i s9 u=some (.inl (o++[v],un++[u],i+(f.2.2 % 2+1))):=by
 unfold DT;rw[Ao (h:=(by unfold Gg;simp only[Qzk];omega))]
 split
 ·rw[Ao (h:=(by unfold BX;omega)),Ao (h:=(by unfold BX;omega)),Vi hf ho hi];exact⟨_,Z⟩
 ·split
  ·rw[Ao (h:=(by unfold BX;omega)),Vi hf ho hi];exact⟨_,Z⟩
  ·rw[Vi hf ho hi];exact⟨_,Z⟩
theorem WG{o un:QqX}{i u s9:Int}(hch:1<=f.2.1/\f.2.1<=2)(ho:o.length<=5000)(hu:un.length<=5000)(hi:0<=i/\i<=5000)(h:0<=u/\u<65536)(c:0<s9/\s9<=65536)(hun:∀x∈un,0<=x/\x<65536):
  ∃v u',(0<=u'/\u'<65536)/\DU f o un i u s9=some (.inl (o++[v],un++[u'],i+(f.2.2 % 2+1))):=by
 unfold DU;rw[Ao (h:=(by unfold BX;omega)),Ao]
 split
 ·rename_i hc
  have d:0<=(un.length:Int) - f.2.1:=by
   cases a:decide (((f.2.2.toNat &&& (2:Int).toNat:Nat):Int)=0)
   ·rw[a]at hc;simpa using hc
   ·rw[a]at hc;simp at hc
  have hk:((un.length:Int) - f.2.1).toNat<un.length:=by omega
  have hm:=hun _ (QzA hk);rw[Ao,<- Qza (h:=hk) Qqf,Ao (h:=(by unfold BX;omega)),Ao];have b:=Int.emod_nonneg (u+un[((un.length:Int) - f.2.1).toNat]) (show s9≠0 by omega);have e:=Int.emod_lt_of_pos (u+un[((un.length:Int) - f.2.1).toNat]) c.1;obtain⟨v,hv⟩:=WE hf (s9:=s9) ho hu hi (u:=(u+un[((un.length:Int) - f.2.1).toNat]) % s9) ⟨b,by omega⟩;exact⟨v,_,⟨b,by omega⟩,hv⟩
 ·obtain⟨v,hv⟩:=WE hf (s9:=s9) ho hu hi h;exact⟨v,u,h,hv⟩
theorem Ti{d:QqZ}(hd:d.length<=1000)(hch:1<=f.2.1/\f.2.1<=2)(hodd:f.2.2 % 2=1->d.length % 2=0):∀(n i:Nat) (o un:QqX),d.length<=i+n->(f.2.2 % 2=1->i % 2=0)->o.length=un.length->o.length<=i->i<=1001->(∀x∈un,0<=x/\x<65536)->
  ∃r,EX f d (o,un,(i:Int))=some r/\r.length<=1001
 | n,i,o,un,hn,h2,hou,hoi,hi,hun=>by
  by_cases hlt:i<d.length
  ·have hb:∃v u',(0<=u'/\u'<65536)/\DD f d (o,un,(i:Int))=some (.inl (o++[v],un++[u'],(i:Int)+(f.2.2 % 2+1))):=by
    unfold DD;dsimp only;rw[if_pos U,Ao,unit_eq hf,QqC];have a:=(d.getD ((i:Int).toNat) Qqf).toNat_lt
    split
    ·rename_i hx;have b:=(d.getD (((i:Int)+1).toNat) Qqf).toNat_lt;have:=hodd U;have:=h2 U;rw[Ao (h:=(by unfold BX;omega)),Ao,Ao (h:=(by unfold BX;omega)),Ao,YD];exact WG hf hch U U U U U hun
    ·exact WG hf hch U U U U U hun
   obtain⟨v,u',hu',hb⟩:=hb
   match n,hn with
   | 0,hn=>omega
   | n+1,hn=>
    have hm:f.2.2 % 2=0\/f.2.2 % 2=1:=by omega
    have e:(i:Int)+(f.2.2 % 2+1)=((i+(f.2.2 % 2+1).toNat:Nat):Int):=by omega
    obtain⟨r,r1,r2⟩:=Ti hd hch hodd n (i+(f.2.2 % 2+1).toNat) (o++[v]) (un++[u']) U (fun h=>by have:=h2 h;omega) (by simp[hou]) (by rw[Qq1,Qzk];omega) (by
     rcases hm with hm | hm
     ·omega
     ·have:=hodd hm;have:=h2 hm;omega) (fun x hx=>by
     rcases QzC.1 hx with hx | hx
     ·exact hun x hx
     ·rw[Qxf.1 hx];exact hu')
    refine⟨r,?_,r2⟩;unfold EX at r1 ⊢;rw[BT hb,e,r1]
  ·refine⟨o,?_,by omega⟩;unfold EX;refine BY (m:=some o) ?_;unfold DD G5;dsimp only;rw[if_neg U]
end
theorem TI{f:Int×Int×Int}(hf:0<=f.2.2/\f.2.2<4){d:QqZ}(hd:d.length<=1000)(hch:1<=f.2.1/\f.2.1<=2)(hodd:f.2.2 % 2=1->d.length % 2=0):∃r,HX f d=some r/\r.length<=1001:=
 Ti hf hd hch hodd 1001 0 [] [] U (fun _=>Z) Z (Qq0 _) U (fun x hx=>by cases hx)
theorem Wn{a b c:QqZ}(ha:a.length<=2000)(hb:b.length<=2000)(hc:c.length<=2000):ED [a,b,c]=some (a++b++c):=by
 unfold ED Hq;have d:([a,b,c].getD ((0:Int).toNat) Qqf)=a:=Z;have e:([a,b,c].getD ((1:Int).toNat) Qqf)=b:=Z;have f:([a,b,c].getD ((2:Int).toNat) Qqf)=c:=Z;have el:([a,b,c].length:Int)=3:=Z;rw[BT (s':=((a.length:Int),(1:Int))) ?_,BT (s':=((a.length:Int)+(b.length:Int),(2:Int))) ?_,BT (s':=((a.length:Int)+(b.length:Int)+(c.length:Int),(3:Int))) ?_]
 ·refine BY (m:=some (a++b++c)) ?_;unfold Cz Fx GH FU;dsimp only;rw[el,if_neg U,if_neg U,Ao (h:=(by decide)),Ao (h:=(by unfold BX;omega))]
  have key:∀z:Option QqZ,z=some []->QqB z (fun g=>Fw [a,b,c] (g,0))=some (a++b++c):=by
   intro z hz;rw[hz,QqC];unfold Fw;rw[BT (s':=(a,(1:Int))) ?_,BT (s':=(a++b,(2:Int))) ?_,BT (s':=(a++b++c,(3:Int))) ?_]
   ·refine BY (m:=some (a++b++c)) ?_;unfold Cy Fv;dsimp only;rw[el,if_neg U]
   ·unfold Cy;dsimp only;rw[el,f,if_pos U,Ao,Ao (h:=(by unfold Gg;rw[Qq1];omega)),Ao (h:=(by decide))]
    rfl
   ·unfold Cy;dsimp only;rw[el,e,if_pos U,Ao,Ao (h:=(by unfold Gg;omega)),Ao (h:=(by decide))]
    rfl
   ·unfold Cy;dsimp only;rw[el,d,if_pos U,Ao,Ao (h:=(by unfold Gg;simp only[Qzu];omega)),Ao (h:=(by decide))]
    rfl
  split
  ·rw[Ao];rw[key _ Z]
  ·rw[key _ Z]
 ·unfold Cz;dsimp only;rw[el,f,if_pos U,Ao,Ao (h:=(by unfold BX;omega)),if_neg U,Ao (h:=(by decide))]
  rfl
 ·unfold Cz;dsimp only;rw[el,e,if_pos U,Ao,Ao (h:=(by unfold BX;omega)),if_neg U,Ao (h:=(by decide))]
  rfl
 ·unfold Cz;dsimp only;rw[el,d,if_pos U,Ao,Ao (h:=(by unfold BX;omega)),if_neg U,Ao (h:=(by decide))];simp
abbrev Nt:=Ck×Int
theorem Wo{c:Nt}(d:c.1.2.length<=1000)(h2:0<=c.2/\c.2<=1000):∃b,Ix c=some b/\b.length<=2000:=by
 obtain⟨x,a,e⟩:=NU (n:=c.2) h2.1 U;obtain⟨y,y1,y2⟩:=Vd (b:=c.1.2) U;have:=M9 c.2;have:=M9 (c.1.2.length:Int);refine⟨x++[c.1.1]++y,?_,by simp only[Qq1,Qzk];omega⟩;unfold Ix IB;rw[a,QqC,y1,QqC,Wn U Z8 U]
 rfl
theorem Qw{l:List Nt}(hl:l.length<=1000)(h:∀c∈l,c.1.2.length<=1000/\0<=c.2/\c.2<=1000):∀(n j:Nat) (o:QqZ),j+n=l.length->o.length<=10+2000 * j->∃b,Jg l (o,(j:Int))=some b/\b.length<=3000000
 | 0,j,o,hj,ho=>by
  refine⟨o,?_,by omega⟩;unfold Jg;refine BY (m:=some o) ?_;unfold Iy KK;dsimp only;rw[if_neg U]
 | n+1,j,o,hj,ho=>by
  have hlt:j<l.length:=by omega
  have hc:=h _ (QzA hlt);obtain⟨x,d,f⟩:=Wo hc.1 hc.2;obtain⟨b,a,e⟩:=Qw hl h n (j+1) (o++x) U (by rw[Qq1];omega);refine⟨b,?_,e⟩;unfold Jg at a ⊢;rw[BT (s':=(o++x,((j+1:Nat):Int))) ?_,a];unfold Iy;dsimp only;rw[if_pos U,Ao,show((j:Nat):Int).toNat=j from Z,<- Qza (h:=hlt) Qqf,d,QqC,Ao (h:=(by unfold Gg;omega)),Ao (h:=(by unfold BX;omega))]
  rfl
theorem Ss{co:Int}{l:List Nt}(hco:0<=co/\co<4)(hl:l.length<=1000)(h:∀c∈l,c.1.2.length<=1000/\0<=c.2/\c.2<=1000):∃b,JH co l=some b:=by
 obtain⟨x,a,e⟩:=NU (n:=co) hco.1 U;obtain⟨y,y1,y2⟩:=NU (n:=(l.length:Int)) U U;have f:=M9 co;have g:=M9 (l.length:Int);obtain⟨z,d,i⟩:=Qw hl h l.length 0 y U U
 have hw:JZ l=some z:=by
  unfold JZ;rw[y1,QqC];exact d
 unfold JH;rw[a,QqC,hw,QqC,Ao (h:=(by unfold Gg;omega))]
 split
 ·split
  ·exact⟨_,Z⟩
  ·exact⟨_,Z⟩
 ·exact⟨_,Z⟩
def En:List Ck->QqZ
 | []=>[]
 | c::l=>(if c.1.toNat=70 then[70]else if c.1.toNat=68 then[68]else[])++En l
theorem MF:∀(a b:List Ck),En (a++b)=En a++En b
 | [],_=>rfl
 | c::a,b=>by
  show(_++En (a++b))=(_++En a)++En b
  rw[MF a b,QzJ]
theorem Qx:∀l:List Ck,(En l).length<=l.length
 | []=>Qq0 _
 | c::l=>by
  have ih:=Qx l;unfold En;rw[Qq1,Qzx]
  split
  ·simp;omega
  ·split
   ·simp;omega
   ·simp;omega
def LB(s:Int×Int×Int)(c:Ck):Int×Int×Int:=if c.1.toNat=70 then(((((c.2.getD 0 0).toNat * 256+(c.2.getD 1 0).toNat:Nat)):Int),((c.2.getD 2 0).toNat:Int),((c.2.getD 3 0).toNat:Int))else s
theorem Vj:Mm [70,68]=[70,68]:=by kernel_rfl
theorem X5:Ds (IntKind.i32.wrap (70:Int))=[70]:=by kernel_rfl
theorem X6:Ds (IntKind.i32.wrap (68:Int))=[68]:=by kernel_rfl
theorem Tj{l:List Ck}(hl:l.length<=1000):∀(n j:Nat),j+n=l.length->(68:UInt8)∈En (l.drop j)->∃k:Nat,JF l (j:Int)=some (k:Int)/\k<l.length
 | 0,j,hj,h=>by
  rw[Qxk U]at h
  cases h
 | n+1,j,hj,h=>by
  have hlt:j<l.length:=by omega
  rw[Qzc hlt]at h
  by_cases hn:(l[j].1.toNat:Int)=68
  ·refine⟨j,?_,hlt⟩;unfold JF;refine BY (m:=some (j:Int)) ?_;unfold Jf Kx;rw[if_pos U,Ao,show((j:Nat):Int).toNat=j from Z,<- Qza (h:=hlt) Qqf,QqC,if_pos (by simp[hn])]
  ·have h':(68:UInt8)∈En (l.drop (j+1)):=by
    unfold En at h
    rcases QzC.1 h with h | h
    ·split at h
     ·simp at h
     ·rw[if_neg U]at h;cases h
    ·exact h
   obtain⟨k,a,b⟩:=Tj hl n (j+1) U h';refine⟨k,?_,b⟩;unfold JF at a ⊢;rw[BT (s':=((j+1:Nat):Int)) ?_,a];unfold Jf Kx;rw[if_pos U,Ao,show((j:Nat):Int).toNat=j from Z,<- Qza (h:=hlt) Qqf,QqC,if_neg (by simp[hn]),Ao (h:=(by unfold BX;omega))]
   rfl
abbrev Ys:=((Int×Int×Int)×QqX×List Nt)×Bool
structure Acc (L:List Ck) (s:Int×Int×Int) (r:Ys):Prop where
 seen:En L=[70,68]
 fmt:r.1.1=s
 ch:1<=s.2.1/\s.2.1<=2
 co:0<=s.2.2/\s.2.2<4
 Zc:r.1.2.1.length<=1001
theorem Yt{L:List Ck}{b:Bool}(hL:L.length<=1000)(hd:∀c∈L,Lc c){s:Int×Int×Int}{nt:List Nt}(h2:0<=s.2.1)(h3:0<=s.2.2):∃r:Ys,JG (L,b) s.1 s.2.1 s.2.2 nt (En L)=some r/\(r.2=true->Acc L s r/\r.1.2.2=nt):=by
 unfold JG;rw[Ao (h:=(by decide)),Vj]
 split
 ·exact⟨_,Z,fun h=>by cases h⟩
 ·rename_i hc;simp only[Bool.or_eq_true,Bool.not_eq_true',decide_eq_false_iff_not,decide_eq_true_eq,not_or,Decidable.not_not]at hc;obtain⟨⟨⟨c1,c2⟩,c3⟩,c4⟩:=hc;obtain⟨k,i,a⟩:=Tj hL L.length 0 U (by rw[Qxz,c1];decide);have hk:N0 L=some (k:Int):=i;have hlen:=(hd _ (QzA a)).len;rw[hk,QqC];dsimp only;rw[Ao,unit_eq (f:=(s.1,s.2.1,s.2.2)) ⟨h3,by dsimp only;omega⟩,QqC,show((k:Nat):Int).toNat=k from Z,<- Qza (h:=a) Qqf];dsimp only;have hu:s.2.2 % 2=0\/s.2.2 % 2=1:=by omega
  have hch:s.2.1=1\/s.2.1=2:=by omega
  have hmul:0<(s.2.2 % 2+1) * s.2.1/\(s.2.2 % 2+1) * s.2.1<=4:=by rcases hu with e | e <;> rcases hch with g | g <;> rw[e,g] <;> decide
  rw[Ao (h:=(by unfold BX;omega)),Ao]
  split
  ·rename_i hm
   obtain⟨o,j,l⟩:=TI (f:=(s.1,s.2.1,s.2.2)) ⟨h3,by dsimp only;omega⟩ (d:=L[k].2) hlen ⟨by dsimp only;omega,by dsimp only;omega⟩ (fun ho=>by
    dsimp only at ho
    rcases hch with e | e
    ·rw[ho,e]at hm;omega
    ·rw[ho,e]at hm;omega)
   rw[j,QqC];exact⟨_,Z,fun _=>⟨⟨c1,Z,⟨by omega,by omega⟩,⟨h3,by omega⟩,l⟩,Z⟩⟩
  ·exact⟨_,Z,fun h=>by cases h⟩
theorem NV{L:List Ck}(b:Bool)(hL:L.length<=1000)(hd:∀c∈L,Lc c):∀(n j:Nat) (s:Int×Int×Int) (nt:List Nt),j+n=L.length->0<=s.2.1->0<=s.2.2->nt.length<=j->(∀c∈nt,c.1.2.length<=1000/\0<=c.2/\c.2<=1000)->
  ∃r:Ys,FW (L,b) (s.1,s.2.1,s.2.2,nt,En (L.take j),(j:Int))=some r/\(r.2=true->Acc L ((L.drop j).foldl LB s) r/\(∀c∈L.drop j,c.1.toNat=70->c.2.length=4)/\r.1.2.2.length<=1000/\∀c∈r.1.2.2,c.1.2.length<=1000/\0<=c.2/\c.2<=1000)
 | 0,j,s,nt,hj,h2,h3,hn,hnt=>by
  obtain⟨r,r1,r2⟩:=Yt (b:=b) hL hd (s:=s) (nt:=nt) h2 h3;refine⟨r,?_,fun h=>?_⟩
  ·unfold FW;refine BY (m:=some r) ?_;unfold Fz;dsimp only;rw[if_neg U,Qz8 U,r1]
  ·obtain⟨a1,a2⟩:=r2 h;rw[Qxk U];exact⟨a1,fun c hc=>(by cases hc),by rw[a2];omega,by rw[a2];exact hnt⟩
 | n+1,j,s,nt,hj,h2,h3,hn,hnt=>by
  have hlt:j<L.length:=by omega
  have hk:=hd _ (QzA hlt);have ht:L.take (j+1)=L.take j++[L[j]]:=Qxd hlt
  have hsl:(En (L.take j)).length<=1000000:=by
   have:=Qx (L.take j);rw[Qz9]at this;omega
  have e:L.getD ((j:Int).toNat) Qqf=L[j]:=(Qza _).symm;rw[Qzc hlt,Qxu]
  by_cases a:(L[j].1.toNat:Int)=70
  ·by_cases g:(L[j].2.length:Int)=4
   ·have ih:=NV b hL hd n (j+1) (LB s L[j]) nt U (by unfold LB;rw[if_pos U];dsimp only;omega) (by unfold LB;rw[if_pos U];dsimp only;omega) U hnt;obtain⟨r,r1,r2⟩:=ih;refine⟨r,?_,fun h=>?_⟩
    ·have es:En (L.take (j+1))=En (L.take j)++[70]:=by
      rw[ht,MF];unfold En En;rw[if_pos U,QzQ]
     rw[es]at r1;have eu:LB s L[j]=(((((L[j].2.getD 0 0).toNat * 256+(L[j].2.getD 1 0).toNat:Nat)):Int),((L[j].2.getD 2 0).toNat:Int),((L[j].2.getD 3 0).toNat:Int)):=by unfold LB;rw[if_pos U]
     rw[eu]at r1;unfold FW at r1 ⊢;rw[BT ?_,r1];unfold Fz;dsimp only;have i:=(L[j].2.getD ((0:Int).toNat) Qqf).toNat_lt;have k:=(L[j].2.getD ((1:Int).toNat) Qqf).toNat_lt;rw[if_pos U,Ao,e,if_pos a,if_pos g,Ao,Ao (h:=(by unfold BX;omega)),Ao,Ao,Ao,Ao,a,X5,Ao (h:=(by simp only[Qzk];omega)),Ao (h:=(by unfold BX;omega)),Yy]
     rfl
    ·obtain⟨a1,a2,a3,a4⟩:=r2 h;refine⟨a1,fun c hc d=>?_,a3,a4⟩
     rcases Qq5.1 hc with rfl | hc
     ·omega
     ·exact a2 c hc d
   ·refine⟨(((0,0,0),[],[]),false),?_,fun h=>by cases h⟩;unfold FW;refine BY (m:=some (((0,0,0),[],[]),false)) ?_;unfold Fz;dsimp only;rw[if_pos U,Ao,e,if_pos a,if_neg g]
  ·have eu:LB s L[j]=s:=by unfold LB;rw[if_neg U]
   rw[eu]
   by_cases f:(L[j].1.toNat:Int)=68
   ·obtain⟨r,r1,r2⟩:=NV b hL hd n (j+1) s nt U h2 h3 U hnt;refine⟨r,?_,fun h=>?_⟩
    ·have es:En (L.take (j+1))=En (L.take j)++[68]:=by
      rw[ht,MF];unfold En En;rw[if_neg U,if_pos U,QzQ]
     rw[es]at r1;unfold FW at r1 ⊢;rw[BT ?_,r1];unfold Fz;dsimp only;rw[if_pos U,Ao,e,if_neg a,if_pos f,f,X6,Ao (h:=(by simp only[Qzk];omega)),Ao (h:=(by unfold BX;omega))]
     rfl
    ·obtain⟨a1,a2,a3,a4⟩:=r2 h;refine⟨a1,fun c hc d=>?_,a3,a4⟩
     rcases Qq5.1 hc with rfl | hc
     ·omega
     ·exact a2 c hc d
   ·obtain⟨r,r1,r2⟩:=NV b hL hd n (j+1) s (nt++[(L[j],(j:Int))]) U h2 h3 (by rw[Qq1,Qzk];omega) (fun c hc=>by
     rcases QzC.1 hc with hc | hc
     ·exact hnt c hc
     ·rw[Qxf.1 hc];exact⟨hk.len,by dsimp only;omega,by dsimp only;omega⟩)
    refine⟨r,?_,fun h=>?_⟩
    ·have es:En (L.take (j+1))=En (L.take j):=by
      rw[ht,MF];unfold En En;rw[if_neg U,if_neg U,QzQ,QzQ]
     rw[es]at r1;unfold FW at r1 ⊢;rw[BT ?_,r1];unfold Fz;dsimp only;rw[if_pos U,Ao,e,if_neg a,if_neg f,Ao (h:=(by unfold Gg;simp only[Qzk];omega)),Ao (h:=(by unfold BX;omega))]
     rfl
    ·obtain⟨a1,a2,a3,a4⟩:=r2 h;refine⟨a1,fun c hc d=>?_,a3,a4⟩
     rcases Qq5.1 hc with rfl | hc
     ·omega
     ·exact a2 c hc d
theorem Wp{a:QqZ}(h:a.length<=1000):∃r:Ys,LS a=some r/\(r.2=true->∃L,a=FY L/\(∀c∈L,NR c)/\Acc L (L.foldl LB (0,0,0)) r/\r.1.2.2.length<=1000/\∀c∈r.1.2.2,c.1.2.length<=1000/\0<=c.2/\c.2<=1000):=by
 obtain⟨⟨L,b⟩,c1,c2⟩:=TH h;unfold LS;rw[c1,QqC]
 cases b with
 | false=>exact⟨_,Z,fun h=>by cases h⟩
 | true=>
  obtain⟨ea,hd,hl⟩:=c2 Z;have hl:L.length<=1000:=hl;obtain⟨r,r1,r2⟩:=NV true hl hd L.length 0 (0,0,0) [] U (Int.le_refl _) (Int.le_refl _) (Qq0 _) (fun c hc=>by cases hc);refine⟨r,r1,fun h=>?_⟩;obtain⟨a1,a2,a3,a4⟩:=r2 h;rw[Qxz]at a1 a2;exact⟨L,ea,fun c hc=>⟨(hd c hc).lo,(hd c hc).hi,(hd c hc).len,a2 c hc⟩,a1,a3,a4⟩
theorem Vk:∀(L:List Ck) (s:Int×Int×Int),0<=s.1/\s.1<65536->0<=(L.foldl LB s).1/\(L.foldl LB s).1<65536
 | [],_,h=>h
 | c::L,s,h=>by
  rw[Qxu];refine Vk L _ ?_;unfold LB
  split
  ·have a1:=(c.2.getD 0 0).toNat_lt;have a2:=(c.2.getD 1 0).toNat_lt;dsimp only;omega
  ·exact h
theorem Yu:∀{L:List Ck},(70:UInt8)∉En L->(∀c∈L,c.1.toNat≠70)/\∀s,L.foldl LB s=s
 | [],_=>⟨fun c hc=>(by cases hc),fun _=>Z⟩
 | c::L,h=>by
  unfold En at h;rw[QzC,not_or]at h;have hc:c.1.toNat≠70:=fun e=>h.1 (by rw[if_pos e];exact Qxf.2 Z);obtain⟨a,b⟩:=Yu h.2;refine⟨fun c' hc'=>?_,fun s=>?_⟩
  ·rcases Qq5.1 hc' with rfl | hc'
   ·exact hc
   ·exact a c' hc'
  ·rw[Qxu,show LB s c=s by unfold LB;rw[if_neg hc],b]
theorem WH:∀{L:List Ck}{t:QqZ},En L=70::t->(70:UInt8)∉t->∃pre f post,L=pre++f::post/\f.1.toNat=70/\(∀c∈pre,c.1.toNat≠70)/\(∀c∈post,c.1.toNat≠70)/\∀s,L.foldl LB s=LB s f
 | [],t,h,_=>by cases h
 | c::L,t,h,ht=>by
  unfold En at h
  by_cases e:c.1.toNat=70
  ·rw[if_pos e]at h
   have h:En L=t:=by
    have:(70:UInt8)::En L=70::t:=h;exact(List.cons.inj this).2
   obtain⟨a,b⟩:=Yu (L:=L) (by rw[h];exact ht);exact⟨[],c,L,Z,e,fun c hc=>(by cases hc),a,fun s=>by rw[Qxu,b]⟩
  ·rw[if_neg e]at h
   split at h
   ·have:(68:UInt8)::En L=70::t:=h;exact absurd (List.cons.inj this).1 Z7
   ·obtain⟨pre,f,post,d,g,i,j,k⟩:=WH (L:=L) h ht;refine⟨c::pre,f,post,by rw[d];rfl,g,fun c' hc'=>?_,j,fun s=>by rw[Qxu,k,show LB s c=s by unfold LB;rw[if_neg e]]⟩
    rcases Qq5.1 hc' with rfl | hc'
    ·exact e
    ·exact i c' hc'
theorem Vl{x:Ys}(hx:x.1.2.1.length<=1001):∀(n j:Nat) (o:QqZ),j+n=x.1.2.1.length->o.length=2 * j->∃o',o'.length<=2002/\Kb x (o,(j:Int))=Ka x o'
 | 0,j,o,hj,ho=>by
  refine⟨o,by omega,?_⟩;unfold Kb;refine BY ?_;unfold Ky;dsimp only;rw[if_neg U]
 | n+1,j,o,hj,ho=>by
  obtain⟨o',a,h2⟩:=Vl hx n (j+1) (o++[u8 (x.1.2.1.getD ((j:Int).toNat) Qqf),u8 (x.1.2.1.getD ((j:Int).toNat) Qqf / 256)]) U (by rw[Qq1];simp;omega);refine⟨o',a,?_⟩;unfold Kb at h2 ⊢;rw[BT ?_,h2];unfold Ky;dsimp only;rw[if_pos U,Ao,Ao (h:=(by unfold Gg;simp;omega)),Ao (h:=(by unfold BX;omega))]
  rfl
theorem Yv(a:QqZ):∃r,NM a=some r/\(r.2.2.1=0->∃L,a=FY L/\(∀c∈L,NR c)/\En L=[70,68]/\∃y z,r.1.f.2.2.2.2=[Jh (L.foldl LB (0,0,0)).1,y,z]):=by
 unfold NM JM
 split
 ·exact⟨_,Z,fun h=>absurd h Z7⟩
 ·rename_i hlen;obtain⟨x,i,j⟩:=Wp (a:=a) U;rw[i,QqC]
  cases hx:x.2 with
  | false=>
   rw[if_pos Z8];exact⟨_,Z,fun h=>absurd h Z7⟩
  | true=>
   obtain⟨L,k,l,b,m,n⟩:=j hx;rw[if_neg Z8];obtain⟨o,q,g⟩:=Vl (x:=x) b.Zc x.1.2.1.length 0 [] U Z;have g:Kb x ([],0)=Ka x o:=g;have hs:=Vk L (0,0,0) ⟨Int.le_refl _,by decide⟩;obtain⟨c1,c2⟩:=b.ch;have hr:=M9 (L.foldl LB (0,0,0)).1;have hc:=M9 (L.foldl LB (0,0,0)).2.1
   have hv:Cs (M7 [Jm,EZ,MA] [Jh (L.foldl LB (0,0,0)).1,Jh (L.foldl LB (0,0,0)).2.1,Ow o])=some (0,0):=by
    refine O5 (d:=2) Z7 ⟨X2 _ _ _,show(3:Nat)<=600 by omega,fun p hp=>?_⟩ (show 4<=600 by omega) (PK Z Z7 Z8 fun p hp=>?_) ?_
    ·have hp:p∈[Jh (L.foldl LB (0,0,0)).1,Jh (L.foldl LB (0,0,0)).2.1,Ow o]:=hp;simp only[Qq5,Qzj,or_false]at hp
     rcases hp with rfl | rfl | rfl
     ·exact PI _
     ·exact PI _
     ·exact Sq _
    ·simp only[Qq5,Qzj,or_false]at hp
     rcases hp with rfl | rfl | rfl
     ·exact PJ hs.1 hs.2
     ·exact PJ U U
     ·exact Sr U
    ·have e:ed 2 (M7 [Jm,EZ,MA] [Jh (L.foldl LB (0,0,0)).1,Jh (L.foldl LB (0,0,0)).2.1,Ow o])=3+((1+nz (L.foldl LB (0,0,0)).1)+((1+nz (L.foldl LB (0,0,0)).2.1)+((3+o.length)+0))+22):=Z;rw[e];omega
   obtain⟨w,hw⟩:=Ss (co:=(L.foldl LB (0,0,0)).2.2) b.co m n;rw[g];unfold Ka M4 M3 LU;rw[b.fmt,QqC,QqC]
   show ∃r,QqB (Cs (M7 [Jm,EZ,MA] [Jh (L.foldl LB (0,0,0)).1,Jh (L.foldl LB (0,0,0)).2.1,Ow o])) _=some r/\_
   rw[hv,QqC,if_pos ⟨Z,Z⟩,hw,QqC];exact⟨_,Z,fun _=>⟨L,k,l,b.seen,_,_,Z⟩⟩
theorem Vm{L:List Ck}(hc:∀c∈L,NR c)(hl:(FY L).length<=300):Hp SF (FY L)=some (vF L,(0,0)):=by
 unfold Hp HT;rw[M6,QqC,if_pos ⟨Z,Z⟩,if_neg U,RC,QqC,Xt U hc,QqC,if_neg (by show ¬(((FY L).length:Int)<_);omega)]
 show QqB (Cs (vF L)) _=_
 rw[La hc hl,QqC,if_pos ⟨Z,Z⟩]
 rfl
theorem X7{L:List Ck}(hc:∀c∈L,NR c)(hl:(FY L).length<=300):Jc SF (vF L)=some (FY L,(0,0)):=by
 obtain⟨n,h⟩:=Xx (l:=L) U hc;unfold Jc HU;rw[M6,QqC,if_pos ⟨Z,Z⟩,La hc hl,QqC,if_pos ⟨Z,Z⟩,h,QqC,if_neg (by show ¬(1000<((FY L).length:Int));omega)]
 rfl
def St:List Ck:=[(70,[0,8,1,0]),(68,[129])]
theorem Su(a:QqZ):G6 a=some true:=by
 have hp:=UM;obtain⟨u,j,m⟩:=bind_some hp
 have g:∀c∈St,NR c:=by
  intro c hc;have hc:c∈[_,_]:=hc;simp only[Qq5,Qzj,or_false]at hc
  rcases hc with rfl | rfl
  ·exact⟨by decide,by decide,by decide,fun _=>Z⟩
  ·exact⟨by decide,by decide,by decide,fun h=>absurd h Z7⟩
 have hone:([(83:UInt8),(78:UInt8),(68:UInt8),(49:UInt8),(70:UInt8),(0:UInt8),(4:UInt8),(0:UInt8),(8:UInt8),(1:UInt8),(0:UInt8),(68:UInt8),(0:UInt8),(1:UInt8),(129:UInt8),(0:UInt8)]:QqZ)=FY St:=by decide
 have h2:(FY St).length<=300:=by decide
 have h3:=Th (l:=St) (k:=0) g h2 Z7 Z;have n:(Jh (((St[0].2.getD 0 0).toNat * 256+(St[0].2.getD 1 0).toNat:Nat):Int))=Jh 8:=Z;rw[n]at h3;unfold G6;rw[j,QqC,m,QqC,hone,Vm g h2,QqC]
 show QqB (JY (vF St) [0,((0:Nat):Int),1,0]) _=_
 rw[h3,QqC,if_pos Z,if_pos Z,if_pos Z,if_pos (by rfl)];unfold FA;obtain⟨r,r1,r2⟩:=Yv a;rw[r1,QqC]
 split
 ·rename_i o
  split
  ·rfl
  ·rename_i hlen;obtain⟨L,ea,hc,hs,y,z,hr⟩:=r2 o;subst ea;obtain⟨pre,f,post,d,e,p,s,t⟩:=WH hs Z7;have hl:(FY L).length<=300:=by omega
   have hk:pre.length<L.length:=by rw[d];simp
   have hget:L[pre.length]? = some f:=by rw[d];simp
   have b:L[pre.length]=f:=by rw[List.getElem?_eq_getElem hk]at hget;exact Option.some.inj hget
   have hf:hN L L.length=[[0,(pre.length:Int),1,0]]:=Vg hget e L.length hk (fun i c hi hne hc'=>by
    rw[d]at hc'
    rcases Qzd i pre.length with q | q
    ·rw[List.getElem?_append_left q]at hc';exact p c (List.mem_of_getElem? hc')
    ·rw[List.getElem?_append_right q]at hc';have:i - pre.length=(i - pre.length - 1)+1:=by omega
     rw[this,List.getElem?_cons_succ]at hc';exact s c (List.mem_of_getElem? hc'))
   have hat:=Th (l:=L) (k:=pre.length) hc hl hk (by rw[b];exact e);rw[b]at hat;have hu:(L.foldl LB (0,0,0)).1=(((f.2.getD 0 0).toNat * 256+(f.2.getD 1 0).toNat:Nat):Int):=by rw[t];unfold LB;rw[if_pos e]
   unfold F9;rw[Vm hc hl,QqC,X7 hc hl,QqC,Wm hc hl,QqC,hf,if_pos Z,if_pos Z,if_pos Z,if_pos (by rfl),hr,if_pos (by rfl),Ao (h:=(by simp))]
   show QqB (JY (vF L) [0,(pre.length:Int),1,0]) _=_
   rw[hat,QqC];unfold F8;rw[if_pos Z,hr];unfold Nn;rw[QqC,if_pos Z8,Ao (h:=(by simp))]
   show some (decide (_=(L.foldl LB (0,0,0)).1))=some true
   rw[hu];exact congrArg some (decide_eq_true Z)
 ·rfl
end Go.Proofs.YtfgomcdgmihmpaaGreatDoor
end
