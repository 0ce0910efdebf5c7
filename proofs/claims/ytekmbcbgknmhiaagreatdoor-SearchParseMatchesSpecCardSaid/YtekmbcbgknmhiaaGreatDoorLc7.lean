/- Texts of a claim, merged. -/
import Derived.Test.YtekmbcbgknmhiaaGreatDoorLc6
import Derived.KernelRfl
import Derived.ProofKit
import Derived.OpenShut
import Derived.Carry
import Derived.Deep.Slices
import Derived.Test.YtekmbcbgknmhiaaGreatDoorRows
import Derived.Lib.LaidU8T
import Derived.Lib.LaidTab
import Derived.Stop.LaidErr
import Derived.LaidMore
import Derived.MakeChecks
import Derived.LaidHandle
set_option linter.unusedVariables false
set_option linter.unusedSimpArgs false
open _root_.Go.Proofs.Tryz renaming underlying9->Ab1,underlying23->AbF,underlying58->Abm,underlying3->Abn,underlying5->Ac5,underlying22->Ac7,underlying64->Ac8,underlying26->AcF,underlying4->AcV,underlying28->Ack,underlying94->Af0,underlying46->Af7,underlying137->Af8,underlying42->AfC,underlying66->AfD,underlying52->AfE,underlying50->AfF,underlying43->AfG,underlying109->Aft,underlying98->Afv,underlying24->Afy,underlying62->Afz
noncomputable section
namespace Go
abbrev AfR:=Go.E.Rp.pair (Go.E.Rp.vec (Go.E.Rp.int .i64)) (Go.E.Rp.pair (Go.E.Rp.vec (Go.E.Rp.int .i64)) (Go.E.Rp.vec (Go.E.Rp.int .i64)))
end Go
namespace Go
abbrev AfO:=(Int×AfH)×AfL×(List AfJ)
end Go
namespace Go.Proofs.YtekmbcbgknmhiaaGreatDoor
open Go Go.E Go.RowKit Go.L
set_option maxHeartbeats 1000000
set_option maxRecDepth 10000
open _root_.Go.Proofs.Tryz
def J1(a:Int)(b:List AfJ)(c:List Go.L.Pv)(d:List Abk):Option (((List Go.L.Pv)×(List Abk)×(List AfJ)×Int) ⊕ (AfO×(Int×Int))):=
 AS (B0 (a+1)) (some (Sum.inl (c,d,b,(a+1))))
def HJ(a:List AfJ)(b c d:Int)(e:List (Abk×AfN))(f:Int)(g:List AfI):Option (AfO×(Int×Int)):=
 if b=0/\c=0 then some (((d,e),(f,g),a),(0,0)) else none
def J2(d:List Go.L.Pv)(e:List Abk)(c:List AfJ):Option (AfO×(Int×Int)):=
 Option.bind (M6 e) (fun a=>if a.2.1=0/\a.2.2=0 then Option.bind (L3 d) (fun b=>(HJ c) b.2.1 b.2.2 a.1.1 a.1.2 b.1.1 b.1.2) else(HJ c) a.2.1 a.2.2 a.1.1 a.1.2 (0:Int) ([]))
def IT(a0:List (Abk×Go.L.Pv)):(List Go.L.Pv)×(List Abk)×(List AfJ)×Int->Option (((List Go.L.Pv)×(List Abk)×(List AfJ)×Int) ⊕ (AfO×(Int×Int))):=fun⟨c,d,e,a⟩=>
 if a<(a0.length:Int) then AS (0<=a/\a<(a0.length:Int)) (Option.bind (K9 ((a0.getD a.toNat default).1)) (fun b=>if b.2.1=0/\b.2.2=0 then Option.bind (Iw ((a0.getD a.toNat default).2)) (fun f=>if f.1=0/\f.2=0 then AS (Go.E.J3 72 (e.length+([(b.1.1,b.1.2.1,b.1.2.2)]).length)) (AS (Go.E.J3 24 (d.length+([(a0.getD a.toNat default).1]).length)) (AS (Go.E.J3 88 (c.length+([((a0.getD a.toNat default).2)]).length)) ((J1 a) (e++[(b.1.1,b.1.2.1,b.1.2.2)]) (c++[((a0.getD a.toNat default).2)]) (d++[(a0.getD a.toNat default).1])))) else none) else none)) else Option.map Sum.inr (J2 c d e)
def Ld(a0:List (Abk×Go.L.Pv))(s:(List Go.L.Pv)×(List Abk)×(List AfJ)×Int):Option (AfO×(Int×Int)):=Go.L.run (IT a0) s
def L4(a0:List (Abk×Go.L.Pv)):Option (AfO×(Int×Int)):=
 if 64<(a0.length:Int) then none else(Ld a0) (([]:List Go.L.Pv),([]:List Abk),([]:List AfJ),0)
theorem RZ(w:World)(H:PH)(hH:Le H (hp w))(hU:Eg H){a0:List (Abk×Go.L.Pv)}{eu:Value}(ir:AI (.pair (.vec .byte) .tree) H eu a0){r:AfO×(Int×Int)}(h:L4 a0=some r):
  Ok prog 20 [eu] w (fun v w'=>Ext w w'/\∃ u0 u1 u2,v=.tuple #[.agg #[No r.1.1.1,u0,No r.1.2.1.1,u1,u2],.agg #[No r.2.1,No r.2.2]]/\AI (.pair .st (.vec AfS)) (un H (nw w w')) u0 (r.1.1.2)/\AI AfT (un H (nw w w')) u1 (r.1.2.1.2)/\BN 98 AfR H w w' u2 (r.1.2.2)):=by
 refine A3 (n:=89) [(0,eu)] func20 rfl fun hL=>Am<|AH NW rfl rfl hL fun w1 b1 ns o1 _=>AH AW rfl rfl ns fun w2 b2 nt o2 _=>Ac<|A7<|Bi 1 rfl<|Ag (Bu rfl AfC ir) rfl<|A4 1 rfl<|AM rfl h (fun nu h=>?_) (fun nu h=>?_)
 ·cases h
 refine Av<|Ao<|Am<|AH NW rfl rfl nt fun w6 b6 nv o3 _=>Ac<|Bi 1 rfl ?_;obtain⟨nx,o4,jb⟩:=C0 (.vec .byte) H 23 nv;refine Ac<|Bi 1 rfl ?_;obtain⟨ny,mh,jc⟩:=C0 .tree H 64 nx;refine Ac<|Bo (σ:=(List Go.L.Pv)×(List Abk)×(List AfJ)×Value×(List Value)×Value×(List Value)×Value×(List Value)) (fun⟨ev,ew,a5,el,cc,em,cd,bd,a1⟩=>[(2,(Abi b1)),(3,(Abi b2)),(4,(Abi b6)),(5,em),(6,el)]) (fun⟨ev,ew,a5,el,cc,em,cd,bd,a1⟩ wr=>DF w [.row bd 98 3 (a5).length a1,.row el 64 5 (ev).length cc,.row em 23 1 (ew).length cd,.box b6 [No 0,Aa8,No 0,Aa8,bd] 52,.box b2 [No 0,No 0] 28,.box b1 [No 0,Aa8,No 0,Aa8,Aa8] 52] wr fun Oz=>AJ AfR (gz H w wr Oz) a5 a1/\AJ .tree (gz H w wr Oz) ev cc/\AJ (.vec .byte) (gz H w wr Oz) ew cd/\J2 ev ew a5=some r) ?_ ?_
 ·refine Bi 1 rfl<|Ag (Bu rfl AfC ir) rfl<|A4 1 rfl<|A5 ?_;obtain⟨jy,h9,jz⟩:=C0 AfR H 98 ny;obtain⟨is,h⟩:=AZ h;have jb:=jb.mono (Ab hH (mh.trans h9));have jc:=jc.mono (Ab hH h9)
  refine Bx (σ:=(List Go.L.Pv)×(List Abk)×(List AfJ)×Int×Value×(List Value)×Value×(List Value)×Value×(List Value)×Nat) (fun⟨x,y,aa,b,a2,av,a3,aw,ap,ax,n⟩=>[(2,(Abi b1)),(3,(Abi b2)),(4,(Abi b6)),(5,a3),(6,a2),(18,eu),(19,No (a0.length:Int)),(20,No b)]) (fun⟨x,y,aa,b,a2,av,a3,aw,ap,ax,n⟩ wr=>DF w [.row ap 98 3 (aa).length ax,.row a2 64 5 (x).length av,.row a3 23 1 (y).length aw,.box b6 [No 0,Aa8,No 0,Aa8,ap] 52,.box b2 [No 0,No 0] 28,.box b1 [No 0,Aa8,No 0,Aa8,Aa8] 52] wr fun Oz=>AJ AfR (gz H w wr Oz) aa ax/\AJ .tree (gz H w wr Oz) x av/\AJ (.vec .byte) (gz H w wr Oz) y aw/\F6 (IT a0) n (x,y,aa,b)=some r) (fun⟨x,y,aa,b,a2,av,a3,aw,ap,ax,n⟩=>n) (([]:List Go.L.Pv),([]:List Abk),([]:List AfJ),0,Aa8,[],Aa8,[],Aa8,[],is) (Sub.of rfl) ⟨jy,jz,jc,jb,h⟩ ?_
  rintro⟨x,y,aa,b,a2,av,a3,aw,ap,ax,nn612⟩ nz ⟨en,ah,ae,af,h⟩;obtain⟨is,mi,rfl,h,iw⟩:=AY h;have e:=en.rG H;refine AD 1 rfl<|A7<|AM rfl h (fun j0 h=>?_) (fun j0 h=>?_)
  ·refine Av<|Ao<|A7<|A5<|Bi 1 rfl<|Az h fun ix h=>Bf rfl rfl AfC AbH ir b.toNat (EX ix) (Ba ix) rfl ?_;rintro o5 _ ⟨_,_,rfl,⟨e618v0,rfl,e618h0⟩,e618t1⟩ j1;obtain⟨_,_,rfl,rfl,⟨_,_,rfl,rfl,⟨_,_,rfl,⟨e618v3,rfl,e618h3⟩,⟨_,_,rfl,⟨e618v4,rfl,e618h4⟩,⟨e618v5,rfl,e618h5⟩⟩⟩⟩⟩:=Go.E.Rp.OV e618t1;refine Ag (C9 rfl AfD rfl AbH j1 (hH.trans en.arg)) rfl<|AH AbH rfl rfl en fun o6 it j2 aj _=>As 1 rfl<|Ah 0 rfl AbH j2 rfl (AU e618h0.one (AU rfl (AU rfl (AU e618h3.one (AU e618h4.one (AU e618h5.one Hj)))))) fun o7 be ak=>Ac<|Am<|Ag (Ae rfl AfD rfl F7) rfl<|Ag (Af 0 rfl AbF rfl be rfl) rfl<|Ay h fun d j3 h=>Bn rfl rfl be (QY _ _ (Ar hH be) (e618h0.mono (Aj hH)) j3) ?_;rintro _ o8 ⟨ce,cf,cg,rfl,i4,i5,i6⟩ gi j4 al;have g:=i4.mono (Cm hH be gi);have k:=i5.mono (Cm hH be gi);have o:=i6.mono (Cm hH be gi);refine As 3 rfl<|AH Gm rfl rfl j4 fun o9 iu j5 p _=>AH AW rfl rfl j5 ?_;intro pa jd j6 q _
   refine Ah 1 rfl Gm j6 rfl (AU g.one (AU k.one (AU o.one Hj))) fun pb j7 t=>Ah 0 rfl AW j7 rfl (Bc rfl) fun pc ch u=>Ac<|A7 ?_;have c:=ch.rG H;refine Am<|Ag (AE 0 rfl Ack rfl AW ch rfl) rfl<|Ag (AR rfl (fun _=>Cf _)) rfl<|Ag (Lh rfl rfl JF (MY _ _ _ _)) rfl<|Ac<|BV rfl h (fun j8 h=>?_) (fun j8 h=>?_)
   ·cases h
   refine Av<|Ao<|A7<|Am<|Ag (Ae rfl AfD rfl Hh) rfl<|Ag (S8 2 5 rfl Ac8 rfl Hh ch rfl rfl) rfl<|Ay h fun gj j9 h=>AA rfl rfl ch (M0 (a0:=((a0.getD b.toNat default).2)) _ _ (Ar hH ch) (e618h3.mono (Aj hH)) (e618h4.mono (Aj hH)) (e618h5.mono (Aj hH)) j9) fun pd n0 ka a6=>AH AW rfl rfl ka fun pe je kb a7 _=>Ah 0 rfl AW kb rfl (Bc rfl) fun pf gk a8=>Ac<|Am<|Ag (AE 0 rfl Ack rfl AW gk rfl) rfl<|Ag (AR rfl (fun _=>Cf _)) rfl<|Ag (Lh rfl rfl JF (MY _ _ _ _)) rfl<|Ac<|BV rfl h (fun kc h=>?_) (fun kc h=>?_)
   ·cases h
   refine Av<|Ao ?_
   refine Ad0 (σ:=(List AfJ)×(List Go.L.Pv)×(List Abk)×Value×(List Value)×Value×(List Value)×Value×(List Value)) (fun⟨ef,eg,eh,ci,a9,cj,ba,ck,bb⟩=>[(2,(Abi b1)),(3,(Abi b2)),(4,(Abi b6)),(5,ck),(6,cj),(18,eu),(19,No (a0.length:Int)),(20,No b)]) (fun⟨ef,eg,eh,ci,a9,cj,ba,ck,bb⟩ wr=>DF w [.box je [No gj.1,No gj.2] 28,.box jd [No d.2.1,No d.2.2] 28,.box iu [ce,cf,cg] 98,.box it [e618v0,No (((a0.getD b.toNat default).2).f.1),No (((a0.getD b.toNat default).2).f.2.1),e618v3,e618v4,e618v5] 66,.row ci 98 3 (ef).length a9,.row cj 64 5 (eg).length ba,.row ck 23 1 (eh).length bb,.box b6 [No 0,Aa8,No 0,Aa8,ci] 52,.box b2 [No 0,No 0] 28,.box b1 [No 0,Aa8,No 0,Aa8,Aa8] 52] wr fun Oz=>AI (.int .i64) (gz H w wr Oz) ce (d.1.1)/\AI (.int .i64) (gz H w wr Oz) cf (d.1.2.1)/\AI (.int .i64) (gz H w wr Oz) cg (d.1.2.2)/\AJ AfR (gz H w wr Oz) ef a9/\AJ .tree (gz H w wr Oz) eg ba/\AJ (.vec .byte) (gz H w wr Oz) eh bb/\(J1 b) ef eg eh=some mi) ?_ ?_
   ·refine JG (ME (Jb (WM (Se (Jb (ME Mo)))))) (fun z0 z=>Le (gz H w z0 [.box je [No gj.1,No gj.2] 28,.box jd [No d.2.1,No d.2.2] 28,.box iu [ce,cf,cg] 98,.box it [e618v0,No (((a0.getD b.toNat default).2).f.1),No (((a0.getD b.toNat default).2).f.2.1),e618v3,e618v4,e618v5] 66,.row ap 98 3 (aa).length ax,.row a2 64 5 (x).length av,.row a3 23 1 (y).length aw,.box b6 [No 0,Aa8,No 0,Aa8,ap] 52,.box b2 [No 0,No 0] 28,.box b1 [No 0,Aa8,No 0,Aa8,Aa8] 52]) (hp z)/\z.heap[iu]? = some (.cells [ce,cf,cg].toArray 98 (0,0))/\z.heap[it]? = some (.cells [e618v0,No (((a0.getD b.toNat default).2).f.1),No (((a0.getD b.toNat default).2).f.2.1),e618v3,e618v4,e618v5].toArray 66 (0,0))/\z.heap[b6]? = some (.cells [No 0,Aa8,No 0,Aa8,ap].toArray 52 (0,0))) mixed rfl (fun ad ph iy=>?_);have az:=gk.call iy;have bc:=AT gk iy;have a:=az.rG H;refine Mp ⟨a.trans (Ar hH az),az.at (i:=2) rfl,az.at (i:=3) rfl,az.at (i:=7) rfl⟩ fun kI804=>?_
    refine AB 0 ad kI804 (by kernel_rfl) rfl (fun _ _=>Ae rfl AfE rfl JJ) rfl<|AB 1 ad kI804 (by kernel_rfl) rfl (fun _ hI=>Jd rfl AfF rfl hI.2.2.2 rfl) rfl<|AB 2 ad kI804 (by kernel_rfl) rfl (fun _ hI=>MX rfl Afv rfl Gm hI.2.1) rfl<|AB 5 ad kI804 (by kernel_rfl) rfl (fun _ _=>Ad rfl) rfl<|AB 6 ad kI804 (by kernel_rfl) rfl (fun _ _=>Ae rfl AfD rfl F7) rfl<|AB 7 ad kI804 (by kernel_rfl) rfl (fun _ hI=>Jd rfl AbF rfl hI.2.2.1 rfl) rfl<|AB 10 ad kI804 (by kernel_rfl) rfl (fun _ _=>Ad rfl) rfl<|AB 11 ad kI804 (by kernel_rfl) rfl (fun _ _=>Ae rfl AfD rfl Hh) rfl<|AB 12 ad kI804 (by kernel_rfl) rfl (fun _ hI=>ZU 5 rfl Ac8 rfl Hh hI.2.2.1 rfl) rfl<|NI3 (i:=3) (j:=8) (s:=13) (by kernel_rfl) rfl rfl rfl ?_ ?_ ?_
    ·have g:=g.mono (Ab hH (p.trans (q.trans (t.trans u))));have k:=k.mono (Ab hH (p.trans (q.trans (t.trans u))));have o:=o.mono (Ab hH (p.trans (q.trans (t.trans u))));have c:=c.trans (Ab hH (a6.trans (a7.trans (a8.trans bc))));refine Bp (r:=AfR) (l:=[(d.1.1,d.1.2.1,d.1.2.2)]) rfl (fun _=>Qi _ _ _ _) rfl (leMax 1) hH az (.c3 ⟨_,_,rfl,⟨_,rfl,((g.mono c).mono a)⟩,⟨_,_,rfl,⟨_,rfl,((k.mono c).mono a)⟩,⟨_,rfl,((o.mono c).mono a)⟩⟩⟩ .nil) ?_;intro pi pj n1 a4 jf am;have a:=a.trans (Ab hH jf);refine AX ⟨a.trans (Ar hH a4),a4.at (i:=2) rfl,a4.at (i:=3) rfl,a4.at (i:=7) rfl⟩ fun kI806=>NI3 (i:=4) (j:=8) (s:=13) (by kernel_rfl) rfl rfl rfl ?_ ?_ ?_
     ·refine Az h fun ag h=>?_;have e:=e.trans (Ab hH (aj.trans (ak.trans (al.trans (p.trans (q.trans (t.trans u)))))));refine Bt (r:=AfR) (l:=aa) (m:=[(d.1.1,d.1.2.1,d.1.2.2)]) 4 rfl rfl AfF Gm rfl (by decide) rfl hH a4 rfl (((ah.mono e).mono c).mono a) am ag ?_;intro iv pk gl bf jg aq;have a:=a.trans (Ab hH jg);refine AX ⟨a.trans (Ar hH bf),bf.at (i:=2) rfl,bf.at (i:=3) rfl,bf.at (i:=7) rfl⟩ fun kI809=>AB 15 ad kI809 (by kernel_rfl) rfl (fun _ _=>Ae rfl AfE rfl JJ) rfl<|Zd (i:=8) (j:=13) (by kernel_rfl) rfl rfl ?_ ?_
      ·refine Bp (r:=(.vec .byte)) (l:=[(a0.getD b.toNat default).1]) rfl (fun _=>Lo _ e618h0.one _) rfl (leMax 1) hH bf (.c1 ⟨_,rfl,(e618h0.mono (Aj hH))⟩ .nil) ?_;intro pl pm n2 bg ex eo;have a:=a.trans (Ab hH ex);refine AX ⟨a.trans (Ar hH bg),bg.at (i:=2) rfl,bg.at (i:=3) rfl,bg.at (i:=7) rfl⟩ fun kI811=>Zd (i:=9) (j:=13) (by kernel_rfl) rfl rfl ?_ ?_
       ·refine Az h fun ab h=>Bt (r:=(.vec .byte)) (l:=y) (m:=[(a0.getD b.toNat default).1]) 6 rfl rfl Af0 F7 rfl (by decide) rfl hH bg rfl (((af.mono e).mono c).mono a) eo ab ?_;intro mj pn kd cl ia gm;have a:=a.trans (Ab hH ia);refine AX ⟨a.trans (Ar hH cl),cl.at (i:=2) rfl,cl.at (i:=3) rfl,cl.at (i:=7) rfl⟩ fun kI814=>Ef (i:=13) (by kernel_rfl) rfl<|Bp (r:=.tree) (l:=[((a0.getD b.toNat default).2)]) rfl (fun _=>Jm _ _ _ _ _ _) rfl (leMax 1) hH cl (.c5 (Go.E.Rp.DK ⟨_,_,rfl,rfl,⟨_,_,rfl,rfl,⟨_,_,rfl,⟨_,rfl,(e618h3.mono (Aj hH))⟩,⟨_,_,rfl,⟨_,rfl,(e618h4.mono (Aj hH))⟩,⟨_,rfl,(e618h5.mono (Aj hH))⟩⟩⟩⟩⟩) .nil) ?_;intro po pp n3 cm ey ke;have a:=a.trans (Ab hH ey);refine AX ⟨a.trans (Ar hH cm),cm.at (i:=2) rfl,cm.at (i:=3) rfl,cm.at (i:=7) rfl⟩ fun kI816=>Ef (i:=14) (by kernel_rfl) rfl<|Az h fun ac h=>Bt (r:=.tree) (l:=x) (m:=[((a0.getD b.toNat default).2)]) 5 rfl rfl Afz Hh rfl (by decide) rfl hH cm rfl (((ae.mono e).mono c).mono a) ke ac ?_;intro mk pq kf bh ez gn;have a:=a.trans (Ab hH ez)
        refine AX ⟨a.trans (Ar hH bh),bh.at (i:=2) rfl,bh.at (i:=3) rfl,bh.at (i:=7) rfl⟩ fun kI819=>Ef (i:=16) (by kernel_rfl) rfl<|Bm 7 rfl rfl (row_one (bh.at (i:=4) rfl)) JJ bh rfl rfl fun pr kg cn=>CE [0,1,2,3,4,5,6,7,8,9,10,11,12,13,14,15] (by kernel_rfl)<|Ef (i:=17) (by kernel_rfl) rfl<|As 1 rfl<|CE [0,1,2,3,4,5,6,7,8,9,10,11,12,13,14,15,16] (by kernel_rfl)<|Ef (i:=18) (by kernel_rfl) rfl<|As 1 rfl<|Fi (by kernel_rfl)<|DB (by kernel_rfl) ?_;have aq:=aq.mono (Ab hH (ex.trans (ia.trans (ey.trans (ez.trans cn)))));have gm:=gm.mono (Ab hH (ey.trans (ez.trans cn)));have gn:=gn.mono (Ab hH cn);have a:=a.trans (Ab hH cn);refine A8 ((aa++[(d.1.1,d.1.2.1,d.1.2.2)]),(x++[((a0.getD b.toNat default).2)]),(y++[(a0.getD b.toNat default).1]),iv,gl,mk,kf,mj,kd) (Sub.of rfl) ⟨kg,((g.mono c).mono a),((k.mono c).mono a),((o.mono c).mono a),aq,gn,gm,h⟩
       refine Az h fun ab h=>Az h fun ac h=>Bp (r:=.tree) (l:=[((a0.getD b.toNat default).2)]) rfl (fun _=>Jm _ _ _ _ _ _) rfl (leMax 1) hH bg (.c5 (Go.E.Rp.DK ⟨_,_,rfl,rfl,⟨_,_,rfl,rfl,⟨_,_,rfl,⟨_,rfl,(e618h3.mono (Aj hH))⟩,⟨_,_,rfl,⟨_,rfl,(e618h4.mono (Aj hH))⟩,⟨_,rfl,(e618h5.mono (Aj hH))⟩⟩⟩⟩⟩) .nil) ?_;intro ps pt n4 co e0 go;have a:=a.trans (Ab hH e0);refine AX ⟨a.trans (Ar hH co),co.at (i:=2) rfl,co.at (i:=3) rfl,co.at (i:=7) rfl⟩ fun kI822=>Ef (i:=9) (by kernel_rfl) rfl ?_;have eo:=eo.mono (Ab hH e0);refine Bt (r:=(.vec .byte)) (l:=y) (m:=[(a0.getD b.toNat default).1]) 6 rfl rfl Af0 F7 rfl (by decide) rfl hH co rfl (((af.mono e).mono c).mono a) eo ab ?_;intro ml pu kh cp e1 gp;have a:=a.trans (Ab hH e1);refine AX ⟨a.trans (Ar hH cp),cp.at (i:=2) rfl,cp.at (i:=3) rfl,cp.at (i:=7) rfl⟩ fun kI824=>Ef (i:=14) (by kernel_rfl) rfl ?_;have go:=go.mono (Ab hH e1);refine Bt (r:=.tree) (l:=x) (m:=[((a0.getD b.toNat default).2)]) 5 rfl rfl Afz Hh rfl (by decide) rfl hH cp rfl (((ae.mono e).mono c).mono a) go ac ?_
       intro mm pv ki bi e2 gq;have a:=a.trans (Ab hH e2);refine AX ⟨a.trans (Ar hH bi),bi.at (i:=2) rfl,bi.at (i:=3) rfl,bi.at (i:=7) rfl⟩ fun kI826=>Ef (i:=16) (by kernel_rfl) rfl<|Bm 7 rfl rfl (row_one (bi.at (i:=4) rfl)) JJ bi rfl rfl fun pw kj cq=>CE [0,1,2,3,4,5,6,7,8,9,10,11,12,13,14,15] (by kernel_rfl)<|Ef (i:=17) (by kernel_rfl) rfl<|As 1 rfl<|CE [0,1,2,3,4,5,6,7,8,9,10,11,12,13,14,15,16] (by kernel_rfl)<|Ef (i:=18) (by kernel_rfl) rfl<|As 1 rfl<|Fi (by kernel_rfl)<|DB (by kernel_rfl) ?_;have aq:=aq.mono (Ab hH (ex.trans (e0.trans (e1.trans (e2.trans cq)))));have gp:=gp.mono (Ab hH (e2.trans cq));have gq:=gq.mono (Ab hH cq);have a:=a.trans (Ab hH cq);refine A8 ((aa++[(d.1.1,d.1.2.1,d.1.2.2)]),(x++[((a0.getD b.toNat default).2)]),(y++[(a0.getD b.toNat default).1]),iv,gl,mm,ki,ml,kh) (Sub.of rfl) ⟨kj,((g.mono c).mono a),((k.mono c).mono a),((o.mono c).mono a),aq,gq,gp,h⟩
      refine Az h fun ab h=>Az h fun ac h=>Bp (r:=.tree) (l:=[((a0.getD b.toNat default).2)]) rfl (fun _=>Jm _ _ _ _ _ _) rfl (leMax 1) hH bf (.c5 (Go.E.Rp.DK ⟨_,_,rfl,rfl,⟨_,_,rfl,rfl,⟨_,_,rfl,⟨_,rfl,(e618h3.mono (Aj hH))⟩,⟨_,_,rfl,⟨_,rfl,(e618h4.mono (Aj hH))⟩,⟨_,rfl,(e618h5.mono (Aj hH))⟩⟩⟩⟩⟩) .nil) ?_;intro px py n5 cr ib gr;have a:=a.trans (Ab hH ib);refine AX ⟨a.trans (Ar hH cr),cr.at (i:=2) rfl,cr.at (i:=3) rfl,cr.at (i:=7) rfl⟩ fun kI829=>Ef (i:=8) (by kernel_rfl) rfl<|Bp (r:=(.vec .byte)) (l:=[(a0.getD b.toNat default).1]) rfl (fun _=>Lo _ e618h0.one _) rfl (leMax 1) hH cr (.c1 ⟨_,rfl,(e618h0.mono (Aj hH))⟩ .nil) ?_;intro pz p0 n6 cs e3 kk;have a:=a.trans (Ab hH e3);refine AX ⟨a.trans (Ar hH cs),cs.at (i:=2) rfl,cs.at (i:=3) rfl,cs.at (i:=7) rfl⟩ fun kI831=>Ef (i:=9) (by kernel_rfl) rfl<|Bt (r:=(.vec .byte)) (l:=y) (m:=[(a0.getD b.toNat default).1]) 6 rfl rfl Af0 F7 rfl (by decide) rfl hH cs rfl (((af.mono e).mono c).mono a) kk ab ?_;intro mn p1 kl ct e4 gs;have a:=a.trans (Ab hH e4)
      refine AX ⟨a.trans (Ar hH ct),ct.at (i:=2) rfl,ct.at (i:=3) rfl,ct.at (i:=7) rfl⟩ fun kI833=>Ef (i:=14) (by kernel_rfl) rfl ?_;have gr:=gr.mono (Ab hH (e3.trans e4));refine Bt (r:=.tree) (l:=x) (m:=[((a0.getD b.toNat default).2)]) 5 rfl rfl Afz Hh rfl (by decide) rfl hH ct rfl (((ae.mono e).mono c).mono a) gr ac ?_;intro mo p2 km bj e5 gt;have a:=a.trans (Ab hH e5);refine AX ⟨a.trans (Ar hH bj),bj.at (i:=2) rfl,bj.at (i:=3) rfl,bj.at (i:=7) rfl⟩ fun kI835=>Ef (i:=16) (by kernel_rfl) rfl<|Bm 7 rfl rfl (row_one (bj.at (i:=4) rfl)) JJ bj rfl rfl fun p3 kn cu=>CE [0,1,2,3,4,5,6,7,8,9,10,11,12,13,14,15] (by kernel_rfl)<|Ef (i:=17) (by kernel_rfl) rfl<|As 1 rfl<|CE [0,1,2,3,4,5,6,7,8,9,10,11,12,13,14,15,16] (by kernel_rfl)<|Ef (i:=18) (by kernel_rfl) rfl<|As 1 rfl<|Fi (by kernel_rfl)<|DB (by kernel_rfl) ?_;have aq:=aq.mono (Ab hH (ib.trans (e3.trans (e4.trans (e5.trans cu)))));have gs:=gs.mono (Ab hH (e5.trans cu));have gt:=gt.mono (Ab hH cu);have a:=a.trans (Ab hH cu)
      refine A8 ((aa++[(d.1.1,d.1.2.1,d.1.2.2)]),(x++[((a0.getD b.toNat default).2)]),(y++[(a0.getD b.toNat default).1]),iv,gl,mo,km,mn,kl) (Sub.of rfl) ⟨kn,((g.mono c).mono a),((k.mono c).mono a),((o.mono c).mono a),aq,gt,gs,h⟩
     ·refine Az h fun ag h=>Az h fun ab h=>Az h fun ac h=>Bp (r:=(.vec .byte)) (l:=[(a0.getD b.toNat default).1]) rfl (fun _=>Lo _ e618h0.one _) rfl (leMax 1) hH a4 (.c1 ⟨_,rfl,(e618h0.mono (Aj hH))⟩ .nil) ?_;intro p4 p5 n7 bk e6 ar;have a:=a.trans (Ab hH e6);refine AX ⟨a.trans (Ar hH bk),bk.at (i:=2) rfl,bk.at (i:=3) rfl,bk.at (i:=7) rfl⟩ fun kI838=>Zd (i:=4) (j:=13) (by kernel_rfl) rfl rfl ?_ ?_
      ·have e:=e.trans (Ab hH (aj.trans (ak.trans (al.trans (p.trans (q.trans (t.trans u)))))));have am:=am.mono (Ab hH e6);refine Bt (r:=AfR) (l:=aa) (m:=[(d.1.1,d.1.2.1,d.1.2.2)]) 4 rfl rfl AfF Gm rfl (by decide) rfl hH bk rfl (((ah.mono e).mono c).mono a) am ag ?_;intro jh p6 iz bl e7 bm;have a:=a.trans (Ab hH e7);refine AX ⟨a.trans (Ar hH bl),bl.at (i:=2) rfl,bl.at (i:=3) rfl,bl.at (i:=7) rfl⟩ fun kI840=>AB 15 ad kI840 (by kernel_rfl) rfl (fun _ _=>Ae rfl AfE rfl JJ) rfl<|Zd (i:=9) (j:=13) (by kernel_rfl) rfl rfl ?_ ?_
       ·have ar:=ar.mono (Ab hH e7);refine Bt (r:=(.vec .byte)) (l:=y) (m:=[(a0.getD b.toNat default).1]) 6 rfl rfl Af0 F7 rfl (by decide) rfl hH bl rfl (((af.mono e).mono c).mono a) ar ab ?_;intro mp p7 ko cv ic gu;have a:=a.trans (Ab hH ic);refine AX ⟨a.trans (Ar hH cv),cv.at (i:=2) rfl,cv.at (i:=3) rfl,cv.at (i:=7) rfl⟩ fun kI842=>Ef (i:=13) (by kernel_rfl) rfl<|Bp (r:=.tree) (l:=[((a0.getD b.toNat default).2)]) rfl (fun _=>Jm _ _ _ _ _ _) rfl (leMax 1) hH cv (.c5 (Go.E.Rp.DK ⟨_,_,rfl,rfl,⟨_,_,rfl,rfl,⟨_,_,rfl,⟨_,rfl,(e618h3.mono (Aj hH))⟩,⟨_,_,rfl,⟨_,rfl,(e618h4.mono (Aj hH))⟩,⟨_,rfl,(e618h5.mono (Aj hH))⟩⟩⟩⟩⟩) .nil) ?_;intro p8 p9 n8 cw e8 kp;have a:=a.trans (Ab hH e8);refine AX ⟨a.trans (Ar hH cw),cw.at (i:=2) rfl,cw.at (i:=3) rfl,cw.at (i:=7) rfl⟩ fun kI844=>Ef (i:=14) (by kernel_rfl) rfl<|Bt (r:=.tree) (l:=x) (m:=[((a0.getD b.toNat default).2)]) 5 rfl rfl Afz Hh rfl (by decide) rfl hH cw rfl (((ae.mono e).mono c).mono a) kp ac ?_;intro mq qa kq bn e9 gv;have a:=a.trans (Ab hH e9)
        refine AX ⟨a.trans (Ar hH bn),bn.at (i:=2) rfl,bn.at (i:=3) rfl,bn.at (i:=7) rfl⟩ fun kI846=>Ef (i:=16) (by kernel_rfl) rfl<|Bm 7 rfl rfl (row_one (bn.at (i:=4) rfl)) JJ bn rfl rfl fun qb kr cx=>CE [0,1,2,3,4,5,6,7,8,9,10,11,12,13,14,15] (by kernel_rfl)<|Ef (i:=17) (by kernel_rfl) rfl<|As 1 rfl<|CE [0,1,2,3,4,5,6,7,8,9,10,11,12,13,14,15,16] (by kernel_rfl)<|Ef (i:=18) (by kernel_rfl) rfl<|As 1 rfl<|Fi (by kernel_rfl)<|DB (by kernel_rfl) ?_;have bm:=bm.mono (Ab hH (ic.trans (e8.trans (e9.trans cx))));have gu:=gu.mono (Ab hH (e8.trans (e9.trans cx)));have gv:=gv.mono (Ab hH cx);have a:=a.trans (Ab hH cx);refine A8 ((aa++[(d.1.1,d.1.2.1,d.1.2.2)]),(x++[((a0.getD b.toNat default).2)]),(y++[(a0.getD b.toNat default).1]),jh,iz,mq,kq,mp,ko) (Sub.of rfl) ⟨kr,((g.mono c).mono a),((k.mono c).mono a),((o.mono c).mono a),bm,gv,gu,h⟩
       refine Bp (r:=.tree) (l:=[((a0.getD b.toNat default).2)]) rfl (fun _=>Jm _ _ _ _ _ _) rfl (leMax 1) hH bl (.c5 (Go.E.Rp.DK ⟨_,_,rfl,rfl,⟨_,_,rfl,rfl,⟨_,_,rfl,⟨_,rfl,(e618h3.mono (Aj hH))⟩,⟨_,_,rfl,⟨_,rfl,(e618h4.mono (Aj hH))⟩,⟨_,rfl,(e618h5.mono (Aj hH))⟩⟩⟩⟩⟩) .nil) ?_;intro qc qd n9 cy fa gw;have a:=a.trans (Ab hH fa);refine AX ⟨a.trans (Ar hH cy),cy.at (i:=2) rfl,cy.at (i:=3) rfl,cy.at (i:=7) rfl⟩ fun kI849=>Ef (i:=9) (by kernel_rfl) rfl ?_;have ar:=ar.mono (Ab hH (e7.trans fa));refine Bt (r:=(.vec .byte)) (l:=y) (m:=[(a0.getD b.toNat default).1]) 6 rfl rfl Af0 F7 rfl (by decide) rfl hH cy rfl (((af.mono e).mono c).mono a) ar ab ?_;intro mr qe ks cz fb gx;have a:=a.trans (Ab hH fb);refine AX ⟨a.trans (Ar hH cz),cz.at (i:=2) rfl,cz.at (i:=3) rfl,cz.at (i:=7) rfl⟩ fun kI851=>Ef (i:=14) (by kernel_rfl) rfl ?_;have gw:=gw.mono (Ab hH fb);refine Bt (r:=.tree) (l:=x) (m:=[((a0.getD b.toNat default).2)]) 5 rfl rfl Afz Hh rfl (by decide) rfl hH cz rfl (((ae.mono e).mono c).mono a) gw ac ?_;intro ms qf kt bo fc gy;have a:=a.trans (Ab hH fc)
       refine AX ⟨a.trans (Ar hH bo),bo.at (i:=2) rfl,bo.at (i:=3) rfl,bo.at (i:=7) rfl⟩ fun kI853=>Ef (i:=16) (by kernel_rfl) rfl<|Bm 7 rfl rfl (row_one (bo.at (i:=4) rfl)) JJ bo rfl rfl fun qg ku c0=>CE [0,1,2,3,4,5,6,7,8,9,10,11,12,13,14,15] (by kernel_rfl)<|Ef (i:=17) (by kernel_rfl) rfl<|As 1 rfl<|CE [0,1,2,3,4,5,6,7,8,9,10,11,12,13,14,15,16] (by kernel_rfl)<|Ef (i:=18) (by kernel_rfl) rfl<|As 1 rfl<|Fi (by kernel_rfl)<|DB (by kernel_rfl) ?_;have bm:=bm.mono (Ab hH (fa.trans (fb.trans (fc.trans c0))));have gx:=gx.mono (Ab hH (fc.trans c0));have gy:=gy.mono (Ab hH c0);have a:=a.trans (Ab hH c0);refine A8 ((aa++[(d.1.1,d.1.2.1,d.1.2.2)]),(x++[((a0.getD b.toNat default).2)]),(y++[(a0.getD b.toNat default).1]),jh,iz,ms,kt,mr,ks) (Sub.of rfl) ⟨ku,((g.mono c).mono a),((k.mono c).mono a),((o.mono c).mono a),bm,gy,gx,h⟩
      refine Bp (r:=.tree) (l:=[((a0.getD b.toNat default).2)]) rfl (fun _=>Jm _ _ _ _ _ _) rfl (leMax 1) hH bk (.c5 (Go.E.Rp.DK ⟨_,_,rfl,rfl,⟨_,_,rfl,rfl,⟨_,_,rfl,⟨_,rfl,(e618h3.mono (Aj hH))⟩,⟨_,_,rfl,⟨_,rfl,(e618h4.mono (Aj hH))⟩,⟨_,rfl,(e618h5.mono (Aj hH))⟩⟩⟩⟩⟩) .nil) ?_;intro qh qi oa c2 fd g0;have a:=a.trans (Ab hH fd);refine AX ⟨a.trans (Ar hH c2),c2.at (i:=2) rfl,c2.at (i:=3) rfl,c2.at (i:=7) rfl⟩ fun kI856=>Ef (i:=4) (by kernel_rfl) rfl ?_;have e:=e.trans (Ab hH (aj.trans (ak.trans (al.trans (p.trans (q.trans (t.trans u)))))));have am:=am.mono (Ab hH (e6.trans fd));refine Bt (r:=AfR) (l:=aa) (m:=[(d.1.1,d.1.2.1,d.1.2.2)]) 4 rfl rfl AfF Gm rfl (by decide) rfl hH c2 rfl (((ah.mono e).mono c).mono a) am ag ?_;intro mt qj kv c4 fe g1;have a:=a.trans (Ab hH fe);refine AX ⟨a.trans (Ar hH c4),c4.at (i:=2) rfl,c4.at (i:=3) rfl,c4.at (i:=7) rfl⟩ fun kI858=>AB 15 ad kI858 (by kernel_rfl) rfl (fun _ _=>Ae rfl AfE rfl JJ) rfl<|Ef (i:=9) (by kernel_rfl) rfl ?_
      have ar:=ar.mono (Ab hH (fd.trans fe));refine Bt (r:=(.vec .byte)) (l:=y) (m:=[(a0.getD b.toNat default).1]) 6 rfl rfl Af0 F7 rfl (by decide) rfl hH c4 rfl (((af.mono e).mono c).mono a) ar ab ?_;intro mu qk kw c6 ff g2;have a:=a.trans (Ab hH ff);refine AX ⟨a.trans (Ar hH c6),c6.at (i:=2) rfl,c6.at (i:=3) rfl,c6.at (i:=7) rfl⟩ fun kI860=>Ef (i:=14) (by kernel_rfl) rfl ?_;have g0:=g0.mono (Ab hH (fe.trans ff));refine Bt (r:=.tree) (l:=x) (m:=[((a0.getD b.toNat default).2)]) 5 rfl rfl Afz Hh rfl (by decide) rfl hH c6 rfl (((ae.mono e).mono c).mono a) g0 ac ?_;intro mv ql kx bp fg g3;have a:=a.trans (Ab hH fg);refine AX ⟨a.trans (Ar hH bp),bp.at (i:=2) rfl,bp.at (i:=3) rfl,bp.at (i:=7) rfl⟩ fun kI862=>Ef (i:=16) (by kernel_rfl) rfl<|Bm 7 rfl rfl (row_one (bp.at (i:=4) rfl)) JJ bp rfl rfl fun qm ky c7=>CE [0,1,2,3,4,5,6,7,8,9,10,11,12,13,14,15] (by kernel_rfl)<|Ef (i:=17) (by kernel_rfl) rfl<|As 1 rfl<|CE [0,1,2,3,4,5,6,7,8,9,10,11,12,13,14,15,16] (by kernel_rfl)<|Ef (i:=18) (by kernel_rfl) rfl<|As 1 rfl ?_
      refine Fi (by kernel_rfl)<|DB (by kernel_rfl) ?_;have g1:=g1.mono (Ab hH (ff.trans (fg.trans c7)));have g2:=g2.mono (Ab hH (fg.trans c7));have g3:=g3.mono (Ab hH c7);have a:=a.trans (Ab hH c7);refine A8 ((aa++[(d.1.1,d.1.2.1,d.1.2.2)]),(x++[((a0.getD b.toNat default).2)]),(y++[(a0.getD b.toNat default).1]),mt,kv,mv,kx,mu,kw) (Sub.of rfl) ⟨ky,((g.mono c).mono a),((k.mono c).mono a),((o.mono c).mono a),g1,g3,g2,h⟩
     refine Az h fun ag h=>Az h fun ab h=>Az h fun ac h=>Bp (r:=.tree) (l:=[((a0.getD b.toNat default).2)]) rfl (fun _=>Jm _ _ _ _ _ _) rfl (leMax 1) hH a4 (.c5 (Go.E.Rp.DK ⟨_,_,rfl,rfl,⟨_,_,rfl,rfl,⟨_,_,rfl,⟨_,rfl,(e618h3.mono (Aj hH))⟩,⟨_,_,rfl,⟨_,rfl,(e618h4.mono (Aj hH))⟩,⟨_,rfl,(e618h5.mono (Aj hH))⟩⟩⟩⟩⟩) .nil) ?_;intro qn qo ob bq fh br;have a:=a.trans (Ab hH fh);refine AX ⟨a.trans (Ar hH bq),bq.at (i:=2) rfl,bq.at (i:=3) rfl,bq.at (i:=7) rfl⟩ fun kI865=>Zd (i:=4) (j:=8) (by kernel_rfl) rfl rfl ?_ ?_
     ·have e:=e.trans (Ab hH (aj.trans (ak.trans (al.trans (p.trans (q.trans (t.trans u)))))));have am:=am.mono (Ab hH fh);refine Bt (r:=AfR) (l:=aa) (m:=[(d.1.1,d.1.2.1,d.1.2.2)]) 4 rfl rfl AfF Gm rfl (by decide) rfl hH bq rfl (((ah.mono e).mono c).mono a) am ag ?_;intro mw qp kz c8 ie g4;have a:=a.trans (Ab hH ie);refine AX ⟨a.trans (Ar hH c8),c8.at (i:=2) rfl,c8.at (i:=3) rfl,c8.at (i:=7) rfl⟩ fun kI867=>AB 15 ad kI867 (by kernel_rfl) rfl (fun _ _=>Ae rfl AfE rfl JJ) rfl<|Ef (i:=8) (by kernel_rfl) rfl<|Bp (r:=(.vec .byte)) (l:=[(a0.getD b.toNat default).1]) rfl (fun _=>Lo _ e618h0.one _) rfl (leMax 1) hH c8 (.c1 ⟨_,rfl,(e618h0.mono (Aj hH))⟩ .nil) ?_;intro qq qr oc c9 fi k0;have a:=a.trans (Ab hH fi);refine AX ⟨a.trans (Ar hH c9),c9.at (i:=2) rfl,c9.at (i:=3) rfl,c9.at (i:=7) rfl⟩ fun kI869=>Ef (i:=9) (by kernel_rfl) rfl<|Bt (r:=(.vec .byte)) (l:=y) (m:=[(a0.getD b.toNat default).1]) 6 rfl rfl Af0 F7 rfl (by decide) rfl hH c9 rfl (((af.mono e).mono c).mono a) k0 ab ?_
      intro mx qs k1 da fj g5;have a:=a.trans (Ab hH fj);refine AX ⟨a.trans (Ar hH da),da.at (i:=2) rfl,da.at (i:=3) rfl,da.at (i:=7) rfl⟩ fun kI871=>Ef (i:=14) (by kernel_rfl) rfl ?_;have br:=br.mono (Ab hH (ie.trans (fi.trans fj)));refine Bt (r:=.tree) (l:=x) (m:=[((a0.getD b.toNat default).2)]) 5 rfl rfl Afz Hh rfl (by decide) rfl hH da rfl (((ae.mono e).mono c).mono a) br ac ?_;intro my qt k2 bs fk g6;have a:=a.trans (Ab hH fk);refine AX ⟨a.trans (Ar hH bs),bs.at (i:=2) rfl,bs.at (i:=3) rfl,bs.at (i:=7) rfl⟩ fun kI873=>Ef (i:=16) (by kernel_rfl) rfl<|Bm 7 rfl rfl (row_one (bs.at (i:=4) rfl)) JJ bs rfl rfl fun qu k3 db=>CE [0,1,2,3,4,5,6,7,8,9,10,11,12,13,14,15] (by kernel_rfl)<|Ef (i:=17) (by kernel_rfl) rfl<|As 1 rfl<|CE [0,1,2,3,4,5,6,7,8,9,10,11,12,13,14,15,16] (by kernel_rfl)<|Ef (i:=18) (by kernel_rfl) rfl<|As 1 rfl<|Fi (by kernel_rfl)<|DB (by kernel_rfl) ?_;have g4:=g4.mono (Ab hH (fi.trans (fj.trans (fk.trans db))));have g5:=g5.mono (Ab hH (fk.trans db))
      have g6:=g6.mono (Ab hH db);have a:=a.trans (Ab hH db);refine A8 ((aa++[(d.1.1,d.1.2.1,d.1.2.2)]),(x++[((a0.getD b.toNat default).2)]),(y++[(a0.getD b.toNat default).1]),mw,kz,my,k2,mx,k1) (Sub.of rfl) ⟨k3,((g.mono c).mono a),((k.mono c).mono a),((o.mono c).mono a),g4,g6,g5,h⟩
     refine Bp (r:=(.vec .byte)) (l:=[(a0.getD b.toNat default).1]) rfl (fun _=>Lo _ e618h0.one _) rfl (leMax 1) hH bq (.c1 ⟨_,rfl,(e618h0.mono (Aj hH))⟩ .nil) ?_;intro qv qw od dc fl g7;have a:=a.trans (Ab hH fl);refine AX ⟨a.trans (Ar hH dc),dc.at (i:=2) rfl,dc.at (i:=3) rfl,dc.at (i:=7) rfl⟩ fun kI876=>Ef (i:=4) (by kernel_rfl) rfl ?_;have e:=e.trans (Ab hH (aj.trans (ak.trans (al.trans (p.trans (q.trans (t.trans u)))))));have am:=am.mono (Ab hH (fh.trans fl));refine Bt (r:=AfR) (l:=aa) (m:=[(d.1.1,d.1.2.1,d.1.2.2)]) 4 rfl rfl AfF Gm rfl (by decide) rfl hH dc rfl (((ah.mono e).mono c).mono a) am ag ?_;intro mz qx k4 dd fm g8;have a:=a.trans (Ab hH fm);refine AX ⟨a.trans (Ar hH dd),dd.at (i:=2) rfl,dd.at (i:=3) rfl,dd.at (i:=7) rfl⟩ fun kI878=>AB 15 ad kI878 (by kernel_rfl) rfl (fun _ _=>Ae rfl AfE rfl JJ) rfl<|Ef (i:=9) (by kernel_rfl) rfl ?_;have g7:=g7.mono (Ab hH fm)
     refine Bt (r:=(.vec .byte)) (l:=y) (m:=[(a0.getD b.toNat default).1]) 6 rfl rfl Af0 F7 rfl (by decide) rfl hH dd rfl (((af.mono e).mono c).mono a) g7 ab ?_;intro m0 qy k5 de fn g9;have a:=a.trans (Ab hH fn);refine AX ⟨a.trans (Ar hH de),de.at (i:=2) rfl,de.at (i:=3) rfl,de.at (i:=7) rfl⟩ fun kI880=>Ef (i:=14) (by kernel_rfl) rfl ?_;have br:=br.mono (Ab hH (fl.trans (fm.trans fn)));refine Bt (r:=.tree) (l:=x) (m:=[((a0.getD b.toNat default).2)]) 5 rfl rfl Afz Hh rfl (by decide) rfl hH de rfl (((ae.mono e).mono c).mono a) br ac ?_;intro m1 qz k6 bt fo ha;have a:=a.trans (Ab hH fo);refine AX ⟨a.trans (Ar hH bt),bt.at (i:=2) rfl,bt.at (i:=3) rfl,bt.at (i:=7) rfl⟩ fun kI882=>Ef (i:=16) (by kernel_rfl) rfl<|Bm 7 rfl rfl (row_one (bt.at (i:=4) rfl)) JJ bt rfl rfl fun q0 k7 df=>CE [0,1,2,3,4,5,6,7,8,9,10,11,12,13,14,15] (by kernel_rfl)<|Ef (i:=17) (by kernel_rfl) rfl<|As 1 rfl<|CE [0,1,2,3,4,5,6,7,8,9,10,11,12,13,14,15,16] (by kernel_rfl)<|Ef (i:=18) (by kernel_rfl) rfl<|As 1 rfl<|Fi (by kernel_rfl) ?_
     refine DB (by kernel_rfl) ?_;have g8:=g8.mono (Ab hH (fn.trans (fo.trans df)));have g9:=g9.mono (Ab hH (fo.trans df));have ha:=ha.mono (Ab hH df);have a:=a.trans (Ab hH df);refine A8 ((aa++[(d.1.1,d.1.2.1,d.1.2.2)]),(x++[((a0.getD b.toNat default).2)]),(y++[(a0.getD b.toNat default).1]),mz,k4,m1,k6,m0,k5) (Sub.of rfl) ⟨k7,((g.mono c).mono a),((k.mono c).mono a),((o.mono c).mono a),g8,ha,g9,h⟩
    ·refine Az h fun ag h=>Az h fun ab h=>Az h fun ac h=>Bp (r:=(.vec .byte)) (l:=[(a0.getD b.toNat default).1]) rfl (fun _=>Lo _ e618h0.one _) rfl (leMax 1) hH az (.c1 ⟨_,rfl,(e618h0.mono (Aj hH))⟩ .nil) ?_;intro q1 q2 oe bu ji an;have a:=a.trans (Ab hH ji);refine AX ⟨a.trans (Ar hH bu),bu.at (i:=2) rfl,bu.at (i:=3) rfl,bu.at (i:=7) rfl⟩ fun kI885=>Zd (i:=3) (j:=13) (by kernel_rfl) rfl rfl ?_ ?_
     ·have g:=g.mono (Ab hH (p.trans (q.trans (t.trans u))));have k:=k.mono (Ab hH (p.trans (q.trans (t.trans u))));have o:=o.mono (Ab hH (p.trans (q.trans (t.trans u))));have c:=c.trans (Ab hH (a6.trans (a7.trans (a8.trans bc))));refine Bp (r:=AfR) (l:=[(d.1.1,d.1.2.1,d.1.2.2)]) rfl (fun _=>Qi _ _ _ _) rfl (leMax 1) hH bu (.c3 ⟨_,_,rfl,⟨_,rfl,((g.mono c).mono a)⟩,⟨_,_,rfl,⟨_,rfl,((k.mono c).mono a)⟩,⟨_,rfl,((o.mono c).mono a)⟩⟩⟩ .nil) ?_;intro q3 q4 og bv dg ep;have a:=a.trans (Ab hH dg);refine AX ⟨a.trans (Ar hH bv),bv.at (i:=2) rfl,bv.at (i:=3) rfl,bv.at (i:=7) rfl⟩ fun kI887=>Zd (i:=4) (j:=13) (by kernel_rfl) rfl rfl ?_ ?_
      ·have e:=e.trans (Ab hH (aj.trans (ak.trans (al.trans (p.trans (q.trans (t.trans u)))))));refine Bt (r:=AfR) (l:=aa) (m:=[(d.1.1,d.1.2.1,d.1.2.2)]) 4 rfl rfl AfF Gm rfl (by decide) rfl hH bv rfl (((ah.mono e).mono c).mono a) ep ag ?_;intro jj q5 i0 bw fp bx;have a:=a.trans (Ab hH fp);refine AX ⟨a.trans (Ar hH bw),bw.at (i:=2) rfl,bw.at (i:=3) rfl,bw.at (i:=7) rfl⟩ fun kI889=>AB 15 ad kI889 (by kernel_rfl) rfl (fun _ _=>Ae rfl AfE rfl JJ) rfl<|Zd (i:=9) (j:=13) (by kernel_rfl) rfl rfl ?_ ?_
       ·have an:=an.mono (Ab hH (dg.trans fp));refine Bt (r:=(.vec .byte)) (l:=y) (m:=[(a0.getD b.toNat default).1]) 6 rfl rfl Af0 F7 rfl (by decide) rfl hH bw rfl (((af.mono e).mono c).mono a) an ab ?_;intro m2 q6 k8 dh ig hb;have a:=a.trans (Ab hH ig);refine AX ⟨a.trans (Ar hH dh),dh.at (i:=2) rfl,dh.at (i:=3) rfl,dh.at (i:=7) rfl⟩ fun kI891=>Ef (i:=13) (by kernel_rfl) rfl<|Bp (r:=.tree) (l:=[((a0.getD b.toNat default).2)]) rfl (fun _=>Jm _ _ _ _ _ _) rfl (leMax 1) hH dh (.c5 (Go.E.Rp.DK ⟨_,_,rfl,rfl,⟨_,_,rfl,rfl,⟨_,_,rfl,⟨_,rfl,(e618h3.mono (Aj hH))⟩,⟨_,_,rfl,⟨_,rfl,(e618h4.mono (Aj hH))⟩,⟨_,rfl,(e618h5.mono (Aj hH))⟩⟩⟩⟩⟩) .nil) ?_;intro q7 q8 oh di fq k9;have a:=a.trans (Ab hH fq);refine AX ⟨a.trans (Ar hH di),di.at (i:=2) rfl,di.at (i:=3) rfl,di.at (i:=7) rfl⟩ fun kI893=>Ef (i:=14) (by kernel_rfl) rfl<|Bt (r:=.tree) (l:=x) (m:=[((a0.getD b.toNat default).2)]) 5 rfl rfl Afz Hh rfl (by decide) rfl hH di rfl (((ae.mono e).mono c).mono a) k9 ac ?_;intro m3 q9 la bz fr hc;have a:=a.trans (Ab hH fr)
        refine AX ⟨a.trans (Ar hH bz),bz.at (i:=2) rfl,bz.at (i:=3) rfl,bz.at (i:=7) rfl⟩ fun kI895=>Ef (i:=16) (by kernel_rfl) rfl<|Bm 7 rfl rfl (row_one (bz.at (i:=4) rfl)) JJ bz rfl rfl fun ra lb dj=>CE [0,1,2,3,4,5,6,7,8,9,10,11,12,13,14,15] (by kernel_rfl)<|Ef (i:=17) (by kernel_rfl) rfl<|As 1 rfl<|CE [0,1,2,3,4,5,6,7,8,9,10,11,12,13,14,15,16] (by kernel_rfl)<|Ef (i:=18) (by kernel_rfl) rfl<|As 1 rfl<|Fi (by kernel_rfl)<|DB (by kernel_rfl) ?_;have bx:=bx.mono (Ab hH (ig.trans (fq.trans (fr.trans dj))));have hb:=hb.mono (Ab hH (fq.trans (fr.trans dj)));have hc:=hc.mono (Ab hH dj);have a:=a.trans (Ab hH dj);refine A8 ((aa++[(d.1.1,d.1.2.1,d.1.2.2)]),(x++[((a0.getD b.toNat default).2)]),(y++[(a0.getD b.toNat default).1]),jj,i0,m3,la,m2,k8) (Sub.of rfl) ⟨lb,((g.mono c).mono a),((k.mono c).mono a),((o.mono c).mono a),bx,hc,hb,h⟩
       refine Bp (r:=.tree) (l:=[((a0.getD b.toNat default).2)]) rfl (fun _=>Jm _ _ _ _ _ _) rfl (leMax 1) hH bw (.c5 (Go.E.Rp.DK ⟨_,_,rfl,rfl,⟨_,_,rfl,rfl,⟨_,_,rfl,⟨_,rfl,(e618h3.mono (Aj hH))⟩,⟨_,_,rfl,⟨_,rfl,(e618h4.mono (Aj hH))⟩,⟨_,rfl,(e618h5.mono (Aj hH))⟩⟩⟩⟩⟩) .nil) ?_;intro rb rc oi dk fs hd;have a:=a.trans (Ab hH fs);refine AX ⟨a.trans (Ar hH dk),dk.at (i:=2) rfl,dk.at (i:=3) rfl,dk.at (i:=7) rfl⟩ fun kI898=>Ef (i:=9) (by kernel_rfl) rfl ?_;have an:=an.mono (Ab hH (dg.trans (fp.trans fs)));refine Bt (r:=(.vec .byte)) (l:=y) (m:=[(a0.getD b.toNat default).1]) 6 rfl rfl Af0 F7 rfl (by decide) rfl hH dk rfl (((af.mono e).mono c).mono a) an ab ?_;intro m4 rd lc dl ft he;have a:=a.trans (Ab hH ft);refine AX ⟨a.trans (Ar hH dl),dl.at (i:=2) rfl,dl.at (i:=3) rfl,dl.at (i:=7) rfl⟩ fun kI900=>Ef (i:=14) (by kernel_rfl) rfl ?_;have hd:=hd.mono (Ab hH ft);refine Bt (r:=.tree) (l:=x) (m:=[((a0.getD b.toNat default).2)]) 5 rfl rfl Afz Hh rfl (by decide) rfl hH dl rfl (((ae.mono e).mono c).mono a) hd ac ?_;intro m5 re ld b0 fu hf
       have a:=a.trans (Ab hH fu);refine AX ⟨a.trans (Ar hH b0),b0.at (i:=2) rfl,b0.at (i:=3) rfl,b0.at (i:=7) rfl⟩ fun kI902=>Ef (i:=16) (by kernel_rfl) rfl<|Bm 7 rfl rfl (row_one (b0.at (i:=4) rfl)) JJ b0 rfl rfl fun rf le dm=>CE [0,1,2,3,4,5,6,7,8,9,10,11,12,13,14,15] (by kernel_rfl)<|Ef (i:=17) (by kernel_rfl) rfl<|As 1 rfl<|CE [0,1,2,3,4,5,6,7,8,9,10,11,12,13,14,15,16] (by kernel_rfl)<|Ef (i:=18) (by kernel_rfl) rfl<|As 1 rfl<|Fi (by kernel_rfl)<|DB (by kernel_rfl) ?_;have bx:=bx.mono (Ab hH (fs.trans (ft.trans (fu.trans dm))));have he:=he.mono (Ab hH (fu.trans dm));have hf:=hf.mono (Ab hH dm);have a:=a.trans (Ab hH dm);refine A8 ((aa++[(d.1.1,d.1.2.1,d.1.2.2)]),(x++[((a0.getD b.toNat default).2)]),(y++[(a0.getD b.toNat default).1]),jj,i0,m5,ld,m4,lc) (Sub.of rfl) ⟨le,((g.mono c).mono a),((k.mono c).mono a),((o.mono c).mono a),bx,hf,he,h⟩
      refine Bp (r:=.tree) (l:=[((a0.getD b.toNat default).2)]) rfl (fun _=>Jm _ _ _ _ _ _) rfl (leMax 1) hH bv (.c5 (Go.E.Rp.DK ⟨_,_,rfl,rfl,⟨_,_,rfl,rfl,⟨_,_,rfl,⟨_,rfl,(e618h3.mono (Aj hH))⟩,⟨_,_,rfl,⟨_,rfl,(e618h4.mono (Aj hH))⟩,⟨_,rfl,(e618h5.mono (Aj hH))⟩⟩⟩⟩⟩) .nil) ?_;intro rg rh oj dn fv hg;have a:=a.trans (Ab hH fv);refine AX ⟨a.trans (Ar hH dn),dn.at (i:=2) rfl,dn.at (i:=3) rfl,dn.at (i:=7) rfl⟩ fun kI905=>Ef (i:=4) (by kernel_rfl) rfl ?_;have e:=e.trans (Ab hH (aj.trans (ak.trans (al.trans (p.trans (q.trans (t.trans u)))))));have ep:=ep.mono (Ab hH fv);refine Bt (r:=AfR) (l:=aa) (m:=[(d.1.1,d.1.2.1,d.1.2.2)]) 4 rfl rfl AfF Gm rfl (by decide) rfl hH dn rfl (((ah.mono e).mono c).mono a) ep ag ?_;intro m6 ri lf dp fw hh;have a:=a.trans (Ab hH fw);refine AX ⟨a.trans (Ar hH dp),dp.at (i:=2) rfl,dp.at (i:=3) rfl,dp.at (i:=7) rfl⟩ fun kI907=>AB 15 ad kI907 (by kernel_rfl) rfl (fun _ _=>Ae rfl AfE rfl JJ) rfl<|Ef (i:=9) (by kernel_rfl) rfl ?_
      have an:=an.mono (Ab hH (dg.trans (fv.trans fw)));refine Bt (r:=(.vec .byte)) (l:=y) (m:=[(a0.getD b.toNat default).1]) 6 rfl rfl Af0 F7 rfl (by decide) rfl hH dp rfl (((af.mono e).mono c).mono a) an ab ?_;intro m7 rj lg dq fx hi;have a:=a.trans (Ab hH fx);refine AX ⟨a.trans (Ar hH dq),dq.at (i:=2) rfl,dq.at (i:=3) rfl,dq.at (i:=7) rfl⟩ fun kI909=>Ef (i:=14) (by kernel_rfl) rfl ?_;have hg:=hg.mono (Ab hH (fw.trans fx));refine Bt (r:=.tree) (l:=x) (m:=[((a0.getD b.toNat default).2)]) 5 rfl rfl Afz Hh rfl (by decide) rfl hH dq rfl (((ae.mono e).mono c).mono a) hg ac ?_;intro m8 rk lh b3 fy hj;have a:=a.trans (Ab hH fy);refine AX ⟨a.trans (Ar hH b3),b3.at (i:=2) rfl,b3.at (i:=3) rfl,b3.at (i:=7) rfl⟩ fun kI911=>Ef (i:=16) (by kernel_rfl) rfl<|Bm 7 rfl rfl (row_one (b3.at (i:=4) rfl)) JJ b3 rfl rfl fun rl li dr=>CE [0,1,2,3,4,5,6,7,8,9,10,11,12,13,14,15] (by kernel_rfl)<|Ef (i:=17) (by kernel_rfl) rfl<|As 1 rfl<|CE [0,1,2,3,4,5,6,7,8,9,10,11,12,13,14,15,16] (by kernel_rfl)<|Ef (i:=18) (by kernel_rfl) rfl ?_
      refine As 1 rfl<|Fi (by kernel_rfl)<|DB (by kernel_rfl) ?_;have hh:=hh.mono (Ab hH (fx.trans (fy.trans dr)));have hi:=hi.mono (Ab hH (fy.trans dr));have hj:=hj.mono (Ab hH dr);have a:=a.trans (Ab hH dr);refine A8 ((aa++[(d.1.1,d.1.2.1,d.1.2.2)]),(x++[((a0.getD b.toNat default).2)]),(y++[(a0.getD b.toNat default).1]),m6,lf,m8,lh,m7,lg) (Sub.of rfl) ⟨li,((g.mono c).mono a),((k.mono c).mono a),((o.mono c).mono a),hh,hj,hi,h⟩
     refine Bp (r:=.tree) (l:=[((a0.getD b.toNat default).2)]) rfl (fun _=>Jm _ _ _ _ _ _) rfl (leMax 1) hH bu (.c5 (Go.E.Rp.DK ⟨_,_,rfl,rfl,⟨_,_,rfl,rfl,⟨_,_,rfl,⟨_,rfl,(e618h3.mono (Aj hH))⟩,⟨_,_,rfl,⟨_,rfl,(e618h4.mono (Aj hH))⟩,⟨_,rfl,(e618h5.mono (Aj hH))⟩⟩⟩⟩⟩) .nil) ?_;intro rm rn ok ds ih hk;have a:=a.trans (Ab hH ih);refine AX ⟨a.trans (Ar hH ds),ds.at (i:=2) rfl,ds.at (i:=3) rfl,ds.at (i:=7) rfl⟩ fun kI914=>Ef (i:=3) (by kernel_rfl) rfl ?_;have g:=g.mono (Ab hH (p.trans (q.trans (t.trans u))));have k:=k.mono (Ab hH (p.trans (q.trans (t.trans u))));have o:=o.mono (Ab hH (p.trans (q.trans (t.trans u))));have c:=c.trans (Ab hH (a6.trans (a7.trans (a8.trans bc))));refine Bp (r:=AfR) (l:=[(d.1.1,d.1.2.1,d.1.2.2)]) rfl (fun _=>Qi _ _ _ _) rfl (leMax 1) hH ds (.c3 ⟨_,_,rfl,⟨_,rfl,((g.mono c).mono a)⟩,⟨_,_,rfl,⟨_,rfl,((k.mono c).mono a)⟩,⟨_,rfl,((o.mono c).mono a)⟩⟩⟩ .nil) ?_;intro ro rp ol dt fz lj;have a:=a.trans (Ab hH fz)
     refine AX ⟨a.trans (Ar hH dt),dt.at (i:=2) rfl,dt.at (i:=3) rfl,dt.at (i:=7) rfl⟩ fun kI916=>Ef (i:=4) (by kernel_rfl) rfl ?_;have e:=e.trans (Ab hH (aj.trans (ak.trans (al.trans (p.trans (q.trans (t.trans u)))))));refine Bt (r:=AfR) (l:=aa) (m:=[(d.1.1,d.1.2.1,d.1.2.2)]) 4 rfl rfl AfF Gm rfl (by decide) rfl hH dt rfl (((ah.mono e).mono c).mono a) lj ag ?_;intro m9 rq lk du f0 hl;have a:=a.trans (Ab hH f0);refine AX ⟨a.trans (Ar hH du),du.at (i:=2) rfl,du.at (i:=3) rfl,du.at (i:=7) rfl⟩ fun kI918=>AB 15 ad kI918 (by kernel_rfl) rfl (fun _ _=>Ae rfl AfE rfl JJ) rfl<|Ef (i:=9) (by kernel_rfl) rfl ?_;have an:=an.mono (Ab hH (ih.trans (fz.trans f0)));refine Bt (r:=(.vec .byte)) (l:=y) (m:=[(a0.getD b.toNat default).1]) 6 rfl rfl Af0 F7 rfl (by decide) rfl hH du rfl (((af.mono e).mono c).mono a) an ab ?_;intro na rr ll dv f1 hm;have a:=a.trans (Ab hH f1);refine AX ⟨a.trans (Ar hH dv),dv.at (i:=2) rfl,dv.at (i:=3) rfl,dv.at (i:=7) rfl⟩ fun kI920=>?_
     refine Ef (i:=14) (by kernel_rfl) rfl ?_;have hk:=hk.mono (Ab hH (fz.trans (f0.trans f1)));refine Bt (r:=.tree) (l:=x) (m:=[((a0.getD b.toNat default).2)]) 5 rfl rfl Afz Hh rfl (by decide) rfl hH dv rfl (((ae.mono e).mono c).mono a) hk ac ?_;intro nb rs lm b4 f2 hn;have a:=a.trans (Ab hH f2);refine AX ⟨a.trans (Ar hH b4),b4.at (i:=2) rfl,b4.at (i:=3) rfl,b4.at (i:=7) rfl⟩ fun kI922=>Ef (i:=16) (by kernel_rfl) rfl<|Bm 7 rfl rfl (row_one (b4.at (i:=4) rfl)) JJ b4 rfl rfl fun rt ln dw=>CE [0,1,2,3,4,5,6,7,8,9,10,11,12,13,14,15] (by kernel_rfl)<|Ef (i:=17) (by kernel_rfl) rfl<|As 1 rfl<|CE [0,1,2,3,4,5,6,7,8,9,10,11,12,13,14,15,16] (by kernel_rfl)<|Ef (i:=18) (by kernel_rfl) rfl<|As 1 rfl<|Fi (by kernel_rfl)<|DB (by kernel_rfl) ?_;have hl:=hl.mono (Ab hH (f1.trans (f2.trans dw)));have hm:=hm.mono (Ab hH (f2.trans dw));have hn:=hn.mono (Ab hH dw);have a:=a.trans (Ab hH dw)
     refine A8 ((aa++[(d.1.1,d.1.2.1,d.1.2.2)]),(x++[((a0.getD b.toNat default).2)]),(y++[(a0.getD b.toNat default).1]),m9,lk,nb,lm,na,ll) (Sub.of rfl) ⟨ln,((g.mono c).mono a),((k.mono c).mono a),((o.mono c).mono a),hl,hn,hm,h⟩
    refine Az h fun ag h=>Az h fun ab h=>Az h fun ac h=>Bp (r:=.tree) (l:=[((a0.getD b.toNat default).2)]) rfl (fun _=>Jm _ _ _ _ _ _) rfl (leMax 1) hH az (.c5 (Go.E.Rp.DK ⟨_,_,rfl,rfl,⟨_,_,rfl,rfl,⟨_,_,rfl,⟨_,rfl,(e618h3.mono (Aj hH))⟩,⟨_,_,rfl,⟨_,rfl,(e618h4.mono (Aj hH))⟩,⟨_,rfl,(e618h5.mono (Aj hH))⟩⟩⟩⟩⟩) .nil) ?_;intro ru rv om b5 jk au;have a:=a.trans (Ab hH jk);refine AX ⟨a.trans (Ar hH b5),b5.at (i:=2) rfl,b5.at (i:=3) rfl,b5.at (i:=7) rfl⟩ fun kI925=>Zd (i:=3) (j:=8) (by kernel_rfl) rfl rfl ?_ ?_
    ·have g:=g.mono (Ab hH (p.trans (q.trans (t.trans u))));have k:=k.mono (Ab hH (p.trans (q.trans (t.trans u))));have o:=o.mono (Ab hH (p.trans (q.trans (t.trans u))));have c:=c.trans (Ab hH (a6.trans (a7.trans (a8.trans bc))));refine Bp (r:=AfR) (l:=[(d.1.1,d.1.2.1,d.1.2.2)]) rfl (fun _=>Qi _ _ _ _) rfl (leMax 1) hH b5 (.c3 ⟨_,_,rfl,⟨_,rfl,((g.mono c).mono a)⟩,⟨_,_,rfl,⟨_,rfl,((k.mono c).mono a)⟩,⟨_,rfl,((o.mono c).mono a)⟩⟩⟩ .nil) ?_;intro rx ry oo b7 f3 eq;have a:=a.trans (Ab hH f3);refine AX ⟨a.trans (Ar hH b7),b7.at (i:=2) rfl,b7.at (i:=3) rfl,b7.at (i:=7) rfl⟩ fun kI927=>Zd (i:=4) (j:=8) (by kernel_rfl) rfl rfl ?_ ?_
     ·have e:=e.trans (Ab hH (aj.trans (ak.trans (al.trans (p.trans (q.trans (t.trans u)))))));refine Bt (r:=AfR) (l:=aa) (m:=[(d.1.1,d.1.2.1,d.1.2.2)]) 4 rfl rfl AfF Gm rfl (by decide) rfl hH b7 rfl (((ah.mono e).mono c).mono a) eq ag ?_;intro nc rz lo dx ii ho;have a:=a.trans (Ab hH ii);refine AX ⟨a.trans (Ar hH dx),dx.at (i:=2) rfl,dx.at (i:=3) rfl,dx.at (i:=7) rfl⟩ fun kI929=>AB 15 ad kI929 (by kernel_rfl) rfl (fun _ _=>Ae rfl AfE rfl JJ) rfl<|Ef (i:=8) (by kernel_rfl) rfl<|Bp (r:=(.vec .byte)) (l:=[(a0.getD b.toNat default).1]) rfl (fun _=>Lo _ e618h0.one _) rfl (leMax 1) hH dx (.c1 ⟨_,rfl,(e618h0.mono (Aj hH))⟩ .nil) ?_;intro r0 r1 op dy f4 lp;have a:=a.trans (Ab hH f4);refine AX ⟨a.trans (Ar hH dy),dy.at (i:=2) rfl,dy.at (i:=3) rfl,dy.at (i:=7) rfl⟩ fun kI931=>Ef (i:=9) (by kernel_rfl) rfl<|Bt (r:=(.vec .byte)) (l:=y) (m:=[(a0.getD b.toNat default).1]) 6 rfl rfl Af0 F7 rfl (by decide) rfl hH dy rfl (((af.mono e).mono c).mono a) lp ab ?_;intro nd r2 lq dz f5 hq
      have a:=a.trans (Ab hH f5);refine AX ⟨a.trans (Ar hH dz),dz.at (i:=2) rfl,dz.at (i:=3) rfl,dz.at (i:=7) rfl⟩ fun kI933=>Ef (i:=14) (by kernel_rfl) rfl ?_;have au:=au.mono (Ab hH (f3.trans (ii.trans (f4.trans f5))));refine Bt (r:=.tree) (l:=x) (m:=[((a0.getD b.toNat default).2)]) 5 rfl rfl Afz Hh rfl (by decide) rfl hH dz rfl (((ae.mono e).mono c).mono a) au ac ?_;intro nf r3 lr b8 f6 hr;have a:=a.trans (Ab hH f6);refine AX ⟨a.trans (Ar hH b8),b8.at (i:=2) rfl,b8.at (i:=3) rfl,b8.at (i:=7) rfl⟩ fun kI935=>Ef (i:=16) (by kernel_rfl) rfl<|Bm 7 rfl rfl (row_one (b8.at (i:=4) rfl)) JJ b8 rfl rfl fun r4 ls d0=>CE [0,1,2,3,4,5,6,7,8,9,10,11,12,13,14,15] (by kernel_rfl)<|Ef (i:=17) (by kernel_rfl) rfl<|As 1 rfl<|CE [0,1,2,3,4,5,6,7,8,9,10,11,12,13,14,15,16] (by kernel_rfl)<|Ef (i:=18) (by kernel_rfl) rfl<|As 1 rfl<|Fi (by kernel_rfl)<|DB (by kernel_rfl) ?_;have ho:=ho.mono (Ab hH (f4.trans (f5.trans (f6.trans d0))));have hq:=hq.mono (Ab hH (f6.trans d0));have hr:=hr.mono (Ab hH d0)
      have a:=a.trans (Ab hH d0);refine A8 ((aa++[(d.1.1,d.1.2.1,d.1.2.2)]),(x++[((a0.getD b.toNat default).2)]),(y++[(a0.getD b.toNat default).1]),nc,lo,nf,lr,nd,lq) (Sub.of rfl) ⟨ls,((g.mono c).mono a),((k.mono c).mono a),((o.mono c).mono a),ho,hr,hq,h⟩
     refine Bp (r:=(.vec .byte)) (l:=[(a0.getD b.toNat default).1]) rfl (fun _=>Lo _ e618h0.one _) rfl (leMax 1) hH b7 (.c1 ⟨_,rfl,(e618h0.mono (Aj hH))⟩ .nil) ?_;intro r5 r6 oq d1 f7 hs;have a:=a.trans (Ab hH f7);refine AX ⟨a.trans (Ar hH d1),d1.at (i:=2) rfl,d1.at (i:=3) rfl,d1.at (i:=7) rfl⟩ fun kI938=>Ef (i:=4) (by kernel_rfl) rfl ?_;have e:=e.trans (Ab hH (aj.trans (ak.trans (al.trans (p.trans (q.trans (t.trans u)))))));have eq:=eq.mono (Ab hH f7);refine Bt (r:=AfR) (l:=aa) (m:=[(d.1.1,d.1.2.1,d.1.2.2)]) 4 rfl rfl AfF Gm rfl (by decide) rfl hH d1 rfl (((ah.mono e).mono c).mono a) eq ag ?_;intro ng r7 lt d2 f8 ht;have a:=a.trans (Ab hH f8);refine AX ⟨a.trans (Ar hH d2),d2.at (i:=2) rfl,d2.at (i:=3) rfl,d2.at (i:=7) rfl⟩ fun kI940=>AB 15 ad kI940 (by kernel_rfl) rfl (fun _ _=>Ae rfl AfE rfl JJ) rfl<|Ef (i:=9) (by kernel_rfl) rfl ?_;have hs:=hs.mono (Ab hH f8)
     refine Bt (r:=(.vec .byte)) (l:=y) (m:=[(a0.getD b.toNat default).1]) 6 rfl rfl Af0 F7 rfl (by decide) rfl hH d2 rfl (((af.mono e).mono c).mono a) hs ab ?_;intro nh r8 lu d3 f9 hu;have a:=a.trans (Ab hH f9);refine AX ⟨a.trans (Ar hH d3),d3.at (i:=2) rfl,d3.at (i:=3) rfl,d3.at (i:=7) rfl⟩ fun kI942=>Ef (i:=14) (by kernel_rfl) rfl ?_;have au:=au.mono (Ab hH (f3.trans (f7.trans (f8.trans f9))));refine Bt (r:=.tree) (l:=x) (m:=[((a0.getD b.toNat default).2)]) 5 rfl rfl Afz Hh rfl (by decide) rfl hH d3 rfl (((ae.mono e).mono c).mono a) au ac ?_;intro ni r9 lv b9 ga hv;have a:=a.trans (Ab hH ga);refine AX ⟨a.trans (Ar hH b9),b9.at (i:=2) rfl,b9.at (i:=3) rfl,b9.at (i:=7) rfl⟩ fun kI944=>Ef (i:=16) (by kernel_rfl) rfl<|Bm 7 rfl rfl (row_one (b9.at (i:=4) rfl)) JJ b9 rfl rfl fun sa lw d4=>CE [0,1,2,3,4,5,6,7,8,9,10,11,12,13,14,15] (by kernel_rfl)<|Ef (i:=17) (by kernel_rfl) rfl<|As 1 rfl<|CE [0,1,2,3,4,5,6,7,8,9,10,11,12,13,14,15,16] (by kernel_rfl)<|Ef (i:=18) (by kernel_rfl) rfl<|As 1 rfl<|Fi (by kernel_rfl) ?_
     refine DB (by kernel_rfl) ?_;have ht:=ht.mono (Ab hH (f9.trans (ga.trans d4)));have hu:=hu.mono (Ab hH (ga.trans d4));have hv:=hv.mono (Ab hH d4);have a:=a.trans (Ab hH d4);refine A8 ((aa++[(d.1.1,d.1.2.1,d.1.2.2)]),(x++[((a0.getD b.toNat default).2)]),(y++[(a0.getD b.toNat default).1]),ng,lt,ni,lv,nh,lu) (Sub.of rfl) ⟨lw,((g.mono c).mono a),((k.mono c).mono a),((o.mono c).mono a),ht,hv,hu,h⟩
    refine Bp (r:=(.vec .byte)) (l:=[(a0.getD b.toNat default).1]) rfl (fun _=>Lo _ e618h0.one _) rfl (leMax 1) hH b5 (.c1 ⟨_,rfl,(e618h0.mono (Aj hH))⟩ .nil) ?_;intro sb sc os d5 ij hw;have a:=a.trans (Ab hH ij);refine AX ⟨a.trans (Ar hH d5),d5.at (i:=2) rfl,d5.at (i:=3) rfl,d5.at (i:=7) rfl⟩ fun kI947=>Ef (i:=3) (by kernel_rfl) rfl ?_;have g:=g.mono (Ab hH (p.trans (q.trans (t.trans u))));have k:=k.mono (Ab hH (p.trans (q.trans (t.trans u))));have o:=o.mono (Ab hH (p.trans (q.trans (t.trans u))));have c:=c.trans (Ab hH (a6.trans (a7.trans (a8.trans bc))));refine Bp (r:=AfR) (l:=[(d.1.1,d.1.2.1,d.1.2.2)]) rfl (fun _=>Qi _ _ _ _) rfl (leMax 1) hH d5 (.c3 ⟨_,_,rfl,⟨_,rfl,((g.mono c).mono a)⟩,⟨_,_,rfl,⟨_,rfl,((k.mono c).mono a)⟩,⟨_,rfl,((o.mono c).mono a)⟩⟩⟩ .nil) ?_;intro sd se ot d6 gb lx;have a:=a.trans (Ab hH gb);refine AX ⟨a.trans (Ar hH d6),d6.at (i:=2) rfl,d6.at (i:=3) rfl,d6.at (i:=7) rfl⟩ fun kI949=>Ef (i:=4) (by kernel_rfl) rfl ?_
    have e:=e.trans (Ab hH (aj.trans (ak.trans (al.trans (p.trans (q.trans (t.trans u)))))));refine Bt (r:=AfR) (l:=aa) (m:=[(d.1.1,d.1.2.1,d.1.2.2)]) 4 rfl rfl AfF Gm rfl (by decide) rfl hH d6 rfl (((ah.mono e).mono c).mono a) lx ag ?_;intro nj sf ly d7 gc hx;have a:=a.trans (Ab hH gc);refine AX ⟨a.trans (Ar hH d7),d7.at (i:=2) rfl,d7.at (i:=3) rfl,d7.at (i:=7) rfl⟩ fun kI951=>AB 15 ad kI951 (by kernel_rfl) rfl (fun _ _=>Ae rfl AfE rfl JJ) rfl<|Ef (i:=9) (by kernel_rfl) rfl ?_;have hw:=hw.mono (Ab hH (gb.trans gc));refine Bt (r:=(.vec .byte)) (l:=y) (m:=[(a0.getD b.toNat default).1]) 6 rfl rfl Af0 F7 rfl (by decide) rfl hH d7 rfl (((af.mono e).mono c).mono a) hw ab ?_;intro nk sg lz d8 gd hy;have a:=a.trans (Ab hH gd);refine AX ⟨a.trans (Ar hH d8),d8.at (i:=2) rfl,d8.at (i:=3) rfl,d8.at (i:=7) rfl⟩ fun kI953=>Ef (i:=14) (by kernel_rfl) rfl ?_;have au:=au.mono (Ab hH (ij.trans (gb.trans (gc.trans gd))))
    refine Bt (r:=.tree) (l:=x) (m:=[((a0.getD b.toNat default).2)]) 5 rfl rfl Afz Hh rfl (by decide) rfl hH d8 rfl (((ae.mono e).mono c).mono a) au ac ?_;intro nl sh l0 ca ge hz;have a:=a.trans (Ab hH ge);refine AX ⟨a.trans (Ar hH ca),ca.at (i:=2) rfl,ca.at (i:=3) rfl,ca.at (i:=7) rfl⟩ fun kI955=>Ef (i:=16) (by kernel_rfl) rfl<|Bm 7 rfl rfl (row_one (ca.at (i:=4) rfl)) JJ ca rfl rfl fun si l1 d9=>CE [0,1,2,3,4,5,6,7,8,9,10,11,12,13,14,15] (by kernel_rfl)<|Ef (i:=17) (by kernel_rfl) rfl<|As 1 rfl<|CE [0,1,2,3,4,5,6,7,8,9,10,11,12,13,14,15,16] (by kernel_rfl)<|Ef (i:=18) (by kernel_rfl) rfl<|As 1 rfl<|Fi (by kernel_rfl)<|DB (by kernel_rfl) ?_;have hx:=hx.mono (Ab hH (gd.trans (ge.trans d9)));have hy:=hy.mono (Ab hH (ge.trans d9));have hz:=hz.mono (Ab hH d9);have a:=a.trans (Ab hH d9)
    refine A8 ((aa++[(d.1.1,d.1.2.1,d.1.2.2)]),(x++[((a0.getD b.toNat default).2)]),(y++[(a0.getD b.toNat default).1]),nj,ly,nl,l0,nk,lz) (Sub.of rfl) ⟨l1,((g.mono c).mono a),((k.mono c).mono a),((o.mono c).mono a),hx,hz,hy,h⟩
   rintro⟨ef,eg,eh,ci,a9,cj,ba,ck,bb⟩ ou ⟨i1,nm,nn,no,jl,jm,jn,h⟩;refine AF<|Ao ?_;have ea:=i1.rG H;refine Aw<|Az h fun l2 h=>Ag (A1 rfl l2) rfl<|As 1 rfl<|AK ?_;have l3:=i1.AQ (i:=0) rfl;have l4:=l3.AQ (i:=0) rfl;have l5:=l4.AQ (i:=0) rfl;have l6:=l5.AQ (i:=0) rfl;have h:=BP.again h iw;have ea:=ea.trans (Ab hH ((Au (i:=0) rfl).trans ((Au (i:=0) rfl).trans ((Au (i:=0) rfl).trans (Au (i:=0) rfl)))));refine AN (eg,eh,ef,(b+1),cj,ba,ck,bb,ci,a9,is) (Sub.of rfl) ⟨l6,(jl.mono ea),(jm.mono ea),(jn.mono ea),h⟩ (Nat.lt_succ_self _)
  refine Br<|AG<|A6 ?_;have h:=BP.out h iw;refine Be<|A8 (x,y,aa,a2,av,a3,aw,ap,ax) (Sub.of rfl) ⟨en,(ah.mono e),(ae.mono e),(af.mono e),h⟩
 rintro⟨ev,ew,a5,el,cc,em,cd,bd,a1⟩ ov ⟨i2,ik,jo,jp,h⟩;have ai:=i2.rG H;refine Am<|AH AW rfl rfl i2 fun sj jq i3 jr _=>Ac<|Bo (σ:=Int×Int×Int×AfH×Int×(List AfI)×Value×Value) (fun⟨h0,h1,h2,h3,h4,h5,er,es⟩=>[(2,(Abi b1)),(3,(Abi b2)),(4,(Abi b6)),(12,(Abi jq))]) (fun⟨h0,h1,h2,h3,h4,h5,er,es⟩ wr=>DF w [.box jq [No h0,No h1] 28,.row bd 98 3 (a5).length a1,.box b6 [No h2,er,No h4,es,bd] 52,.box b2 [No 0,No 0] 28,.box b1 [No 0,Aa8,No 0,Aa8,Aa8] 52] wr fun Oz=>AJ AfR (gz H w wr Oz) a5 a1/\AI (.pair .st (.vec AfS)) (gz H w wr Oz) er h3/\AI AfT (gz H w wr Oz) es h5/\(HJ a5) h0 h1 h2 h3 h4 h5=some r) ?_ ?_
 ·refine Bi 1 rfl ?_;have ai:=ai.trans (Ab hH jr);have l7:=i3.Cz hH (i:=3) rfl (jp.mono ai);have h6:=i3.AQ (i:=3) rfl;refine Ay h fun ei l8 h=>Bn rfl rfl h6 (Tj _ _ (Ar hH h6) (hU.mono (Aj hH)) l7 l8) ?_;rintro _ sk ⟨il,rfl,i7⟩ l9 ma im;have ao:=i7.mono (Cm hH h6 l9);refine As 3 rfl<|Ag (Ae rfl AfE rfl PM) rfl<|Un 3 0 rfl rfl rfl PM ma rfl rfl rfl (AU rfl (AU ao.one Hj)) fun sl mb eb=>Ah 0 rfl AW mb rfl (Bc rfl) fun sm et ec=>Ac<|Am<|Ag (AE 0 rfl Ack rfl AW et rfl) rfl<|Ag (AR rfl (fun _=>Cf _)) rfl<|Ag (X8 rfl rfl JF (MY _ _ _ _)) rfl<|Ac<|AM rfl h (fun mc h=>?_) (fun mc h=>?_)
  ·refine Aw<|As 1 rfl ?_;have ai:=ai.trans (Ab hH ((Au (i:=3) rfl).trans (im.trans (eb.trans ec))));have md:=et.Cz hH (i:=2) rfl (jo.mono ai);have h7:=et.AQ (i:=2) rfl;refine Ay h fun h8 me h=>Bn rfl rfl h7 (RS _ _ (Ar hH h7) md me) ?_;rintro _ sn ⟨js,rfl,i8⟩ mf mg io;have cb:=i8.mono (Cm hH h7 mf);refine As 3 rfl<|Ag (Ae rfl AfE rfl RE) rfl<|Un 2 2 rfl rfl rfl RE mg rfl rfl rfl (AU rfl (AU cb.one Hj)) fun ow jt ej=>Ah 0 rfl AW jt rfl (Bc rfl) fun ox ju ek=>AK ?_;have ao:=ao.mono (Ab hH (eb.trans (ec.trans ((Au (i:=2) rfl).trans (io.trans (ej.trans ek))))));have ai:=ai.trans (Ab hH ((Au (i:=2) rfl).trans (io.trans (ej.trans ek))));have cb:=cb.mono (Ab hH (ej.trans ek));refine A8 (h8.2.1,h8.2.2,ei.1.1,ei.1.2,h8.1.1,h8.1.2,il,js) (Sub.of rfl) ⟨ju,(ik.mono ai),ao,cb,h⟩
  refine Av ?_;have ai:=ai.trans (Ab hH ((Au (i:=3) rfl).trans (im.trans (eb.trans ec))));have jv:=et.AQ (i:=2) rfl;have ao:=ao.mono (Ab hH (eb.trans (ec.trans (Au (i:=2) rfl))));have ai:=ai.trans (Ab hH (Au (i:=2) rfl));refine A8 (ei.2.1,ei.2.2,ei.1.1,ei.1.2,0,[],il,Aa8) (Sub.of rfl) ⟨jv,(ik.mono ai),ao,(AI.nil _ _),h⟩
 rintro⟨h0,h1,h2,h3,h4,h5,er,es⟩ oy ⟨ed,he988_j404,ip,iq,h⟩;refine A7 ?_;have ay:=ed.rG H;refine Am<|Ag (AE 0 rfl Ack rfl AW ed rfl) rfl<|Ag (AR rfl (fun _=>Cf _)) rfl<|Ag (Lh rfl rfl JF (MY _ _ _ _)) rfl<|Ac<|BV rfl h (fun jw h=>?_) (fun jw h=>?_)
 ·cases h
 refine Av<|Ao<|Am<|Ag (AE 2 rfl AfE rfl NW ed rfl) rfl<|Ag (AR rfl (fun _=>Cf _)) rfl<|Ah 4 rfl NW ed rfl (AU rfl (AU (ip.mono ay).one (AU rfl (AU (iq.mono ay).one (AU (row_one (ed.at (i:=1) rfl)) Hj))))) fun oz jx i9=>Ah 3 rfl AW jx rfl (Bc rfl) fun o0 ee ja=>Ac<|Ax ?_
 cases h
 refine Bz rfl (.cell rfl AfE rfl NW (AL (i:=4) ee rfl)) (.cell rfl Ack rfl AW (AL (i:=3) ee rfl)) ?_;have ay:=ay.trans (Ab hH (i9.trans ja));exact⟨ee.ext,_,_,_,rfl,((ip.mono ay).mono (B5 hH)),((iq.mono ay).mono (B5 hH)),(ee.Ge hH (i:=1) rfl (he988_j404.mono ay))⟩
def CU(a0:(Int×AfH)×AfL×(List AfJ)):Option Int:=
 some ((a0.2.2.length:Int))
theorem ET(w:World)(H:PH)(_hH:Le H (hp w)){a0:(Int×AfH)×AfL×(List AfJ)}{a b c:Value}(_h0_0:AI (.pair .st (.vec AfS)) H a (a0.1.2))(_h0_1:AI AfT H b (a0.2.1.2))(e:AI AfR H c (a0.2.2)){r:Int}(h:CU a0=some r):
  Ok prog 22 [.agg #[No a0.1.1,a,No a0.2.1.1,b,c]] w (fun v w'=>Ext w w'/\v=No r):=by
 refine A3 (n:=6) [(0,.agg #[No a0.1.1,a,No a0.2.1.1,b,c])] func22 rfl fun hL=>Am<|CY (t:=52) rfl rfl rfl hL fun g i d f _=>A4 1 rfl<|Am<|Ag (Ae rfl AfE rfl JJ) rfl<|Ag (Af 0 rfl AfF rfl d rfl) rfl<|Ag (Bu rfl AfF e) rfl<|A4 1 rfl<|Ax ?_
 cases h
 refine Ak rfl ⟨d.ext,rfl⟩
def Gb(a:List Bool):Option ((List Bool)):=
 some a
def Fz(a1:List Int):(List Bool)×Int->Option (((List Bool)×Int) ⊕ ((List Bool))):=fun⟨b,a⟩=>
 if a<(a1.length:Int) then AS (0<=a/\a<(a1.length:Int)) (AS (0<=a1.getD a.toNat default/\a1.getD a.toNat default<(b.length:Int)) (AS (B0 (a+1)) (some (Sum.inl ((b.set ((a1.getD a.toNat default).toNat) true),(a+1)))))) else Option.map Sum.inr (Gb b)
def HV(a1:List Int)(s:(List Bool)×Int):Option ((List Bool)):=Go.L.run (Fz a1) s
def H9(a0:(Int×AfH)×AfL×(List AfJ))(a1:List Int):Option ((List Bool)):=
 Option.bind (CU ((a0.1.1,a0.1.2),(a0.2.1.1,a0.2.1.2),a0.2.2)) (fun a=>AS (0<=a/\((1:Nat):Int) * a<=281474976710656/\a<=9223372036854775807) ((HV a1) ((List.replicate a.toNat (false:Bool)),0)))
theorem Of(w:World)(H:PH)(hH:Le H (hp w)){a0:(Int×AfH)×AfL×(List AfJ)}{a1:List Int}{e f g k:Value}(ad:AI (.pair .st (.vec AfS)) H e (a0.1.2))(ae:AI AfT H f (a0.2.1.2))(af:AI AfR H g (a0.2.2))(q:AI (.int .i64) H k a1){r:(List Bool)}(h:H9 a0 a1=some r):
  Ok prog 91 [.agg #[No a0.1.1,e,No a0.2.1.1,f,g],k] w (fun v w'=>Ext w w'/\∃ u0,v=u0/\BN 4 .bool H w w' u0 r):=by
 refine A3 (n:=22) [(0,.agg #[No a0.1.1,e,No a0.2.1.1,f,g]),(1,k)] func91 rfl fun hL=>Am<|CY (t:=52) rfl rfl rfl hL fun w1 b1 s ay _=>A4 1 rfl<|Am<|Ag (AE 0 rfl AfE rfl NW s rfl) rfl<|Ay h fun x2 ap h=>AA rfl rfl s (ET (a0:=((a0.1.1,a0.1.2),(a0.2.1.1,a0.2.1.2),a0.2.2)) _ _ (Ar hH s) (ad.mono (Aj hH)) (ae.mono (Aj hH)) (af.mono (Aj hH)) ap) fun w3 a6 aq a2=>Az h fun ar h=>UE (r:=.bool) (z:=(false:Bool)) rfl rfl rfl AfG zr4 rfl (fun _=>rfl) rfl hH aq ar fun v4 w4 au av a3 aw=>A4 1 rfl<|Bo (σ:=(List Bool)×(List Value)) (fun⟨m,d⟩=>[(5,v4)]) (fun⟨m,d⟩ wr=>DF w [.row v4 4 1 (m).length d,.box b1 [No a0.1.1,e,No a0.2.1.1,f,g] 52] wr fun Oz=>AJ .bool (gz H w wr Oz) m d/\Gb m=some r) ?_ ?_
 ·refine Bi 1 rfl<|Ag (Bu rfl Abm q) rfl<|A4 1 rfl<|A5 ?_;obtain⟨u,h⟩:=AZ h;refine Bx (σ:=(List Bool)×Int×(List Value)×Nat) (fun⟨c,a,b,n⟩=>[(5,v4),(11,k),(12,No (a1.length:Int)),(13,No a)]) (fun⟨c,a,b,n⟩ wr=>DF w [.row v4 4 1 (c).length b,.box b1 [No a0.1.1,e,No a0.2.1.1,f,g] 52] wr fun Oz=>AJ .bool (gz H w wr Oz) c b/\F6 (Fz a1) n (c,a)=some r) (fun⟨c,a,b,n⟩=>n) ((List.replicate x2.toNat (false:Bool)),0,au,u) (Sub.of rfl) ⟨av,aw,h⟩ ?_;rintro⟨c,a,b,nn44⟩ a4 ⟨l,p,h⟩;obtain⟨u,a7,rfl,h,x⟩:=AY h;refine AD 1 rfl<|A7<|AM rfl h (fun ag h=>?_) (fun ag h=>?_)
  ·refine Av<|Ao<|A7<|A5<|Am<|Az h fun y h=>Bf rfl rfl Abm Cj q a.toNat (EX y) (Ba y) rfl ?_;rintro a8 _ rfl ah;refine Ag (Bj rfl Abn rfl ah (hH.trans l.arg)) rfl<|A4 1 rfl<|Aw<|As 2 rfl<|Az h fun o h=>LB 0 rfl rfl AfG zr4 l rfl ((a1.getD a.toNat default).toNat) (EX o) (Ba o) rfl fun a9 ai=>LC (z:=true) (j:=(a1.getD a.toNat default).toNat) 0 rfl rfl rfl zr4 hH l rfl p ai rfl (Ba o) rfl fun ba aj ak ax al=>AK<|AF<|Ao<|Aw<|Az h fun am h=>Ag (A1 rfl am) rfl<|As 1 rfl<|AK ?_;have h:=BP.again h x;refine AN ((c.set ((a1.getD a.toNat default).toNat) true),(a+1),aj,u) (Sub.of rfl) ⟨ak,al,h⟩ (Nat.lt_succ_self _)
  refine Br<|AG<|A6 ?_;have h:=BP.out h x;refine Be<|A8 (c,b) (Sub.of rfl) ⟨l,p,h⟩
 rintro⟨m,d⟩ a5 ⟨aa,ac,h⟩;refine AD 2 rfl<|Ax ?_
 cases h
 refine Ak rfl ⟨aa.ext,_,rfl,(aa.Ge hH (i:=0) rfl ac)⟩
def IU(a:List Int):Option ((List Int)):=
 some a
def Il(a0:List (Int×Int)):(List Int)×Int->Option (((List Int)×Int) ⊕ ((List Int))):=fun⟨b,a⟩=>
 if a<(a0.length:Int) then AS (0<=a/\a<(a0.length:Int)) (AS (Go.E.J3 8 (b.length+([(a0.getD a.toNat default).1]).length)) (AS (B0 (a+1)) (some (Sum.inl ((b++[(a0.getD a.toNat default).1]),(a+1)))))) else Option.map Sum.inr (IU b)
def K1(a0:List (Int×Int))(s:(List Int)×Int):Option ((List Int)):=Go.L.run (Il a0) s
def KG(a0:List (Int×Int)):Option ((List Int)):=
 (K1 a0) (([]:List Int),0)
theorem Ro(w:World)(H:PH)(hH:Le H (hp w)){a0:List (Int×Int)}{g:Value}(q:AI AfS H g a0){r:(List Int)}(h:KG a0=some r):
  Ok prog 145 [g] w (fun v w'=>Ext w w'/\∃ u0,v=u0/\BN 3 (.int .i64) H w w' u0 r):=by
 refine A3 (n:=19) [(0,g)] func145 rfl fun hL=>AD 1 rfl<|Bi 1 rfl ?_;obtain⟨ao,au,ap⟩:=C0 (.int .i64) H 3 hL;refine Ac<|Bo (σ:=(List Int)×Value×(List Value)) (fun⟨k,j,e⟩=>[(3,j)]) (fun⟨k,j,e⟩ wr=>DF w [.row j 3 1 (k).length e] wr fun Oz=>AJ (.int .i64) (gz H w wr Oz) k e/\IU k=some r) ?_ ?_
 ·refine Bi 1 rfl<|Ag (Bu rfl Aft q) rfl<|A4 1 rfl<|A5 ?_;obtain⟨s,h⟩:=AZ h;refine Bx (σ:=(List Int)×Int×Value×(List Value)×Nat) (fun⟨c,a,d,b,n⟩=>[(3,d),(6,g),(7,No (a0.length:Int)),(8,No a)]) (fun⟨c,a,d,b,n⟩ wr=>DF w [.row d 3 1 (c).length b] wr fun Oz=>AJ (.int .i64) (gz H w wr Oz) c b/\F6 (Il a0) n (c,a)=some r) (fun⟨c,a,d,b,n⟩=>n) (([]:List Int),0,Aa8,[],s) (Sub.of rfl) ⟨ao,ap,h⟩ ?_;rintro⟨c,a,d,b,nn46⟩ av ⟨o,f,h⟩;obtain⟨s,ay,rfl,h,t⟩:=AY h;refine AD 1 rfl<|A7<|AM rfl h (fun ad h=>?_) (fun ad h=>?_)
  ·refine Av<|Ao<|A7<|A5<|Am<|Az h fun u h=>Bf rfl rfl Aft Lj q a.toNat (EX u) (Ba u) rfl ?_;rintro az _ ⟨_,_,rfl,rfl,rfl⟩ ae;refine Ag (C9 rfl Af8 rfl Lj ae (hH.trans o.arg)) rfl<|AH Lj rfl rfl o fun a1 a2 af z _=>Ah 0 rfl Lj af rfl (Bc rfl) fun a3 x aa=>Ac<|Aw<|As 1 rfl<|Ag (Ae rfl Af8 rfl Cj) rfl<|Ag (Af 0 rfl Abn rfl x rfl) rfl<|Bp (r:=(.int .i64)) (l:=[(a0.getD a.toNat default).1]) rfl (fun _=>I7 _ _) rfl (leMax 1) hH x (.c1 rfl .nil) fun a4 a5 aw ag ab ah=>Az h fun ai h=>?_;have f:=f.mono (Ab hH (z.trans (aa.trans ab)));refine Bt (r:=(.int .i64)) (l:=c) (m:=[(a0.getD a.toNat default).1]) 1 rfl rfl Abm Cj rfl (by decide) rfl hH ag rfl f ah ai fun aq a6 aj ak ar p=>As 1 rfl<|AK<|AF<|Ao<|Aw<|Az h fun al h=>Ag (A1 rfl al) rfl<|As 1 rfl<|AK ?_;have am:=ak.AQ (i:=0) rfl;have h:=BP.again h t;have p:=p.mono (Ab hH (Au (i:=0) rfl))
   refine AN ((c++[(a0.getD a.toNat default).1]),(a+1),aq,aj,s) (Sub.of rfl) ⟨am,p,h⟩ (Nat.lt_succ_self _)
  refine Br<|AG<|A6 ?_;have h:=BP.out h t;refine Be<|A8 (c,d,b) (Sub.of rfl) ⟨o,f,h⟩
 rintro⟨k,j,e⟩ ax ⟨y,ac,h⟩;refine AD 2 rfl<|Ax ?_
 cases h
 refine Ak rfl ⟨y.ext,_,rfl,(y.Ge hH (i:=0) rfl ac)⟩
def F0(a:List (Int×Int)):Option ((List Int)):=
 Option.bind (KG a) (fun b=>some b)
def GN(a0:(Int×AfH)×AfL×(List AfJ))(a1:Go.L.Qv):Option ((List Int)):=
 if a1.f.1=1 then AS (0<=(0:Int)/\(0:Int)<(a1.f.2.1.length:Int)) (Option.bind (IQ (a0.1.1,a0.1.2) (a1.f.2.1.getD ((0:Int).toNat) default)) (fun a=>F0 a.1)) else(if a1.f.1=2 then none else(if a1.f.1=3 then none else(if a1.f.1=4 then none else(if a1.f.1=5 then none else(if a1.f.1=6 then none else(if a1.f.1=7 then none else some ([])))))))
theorem NM(w:World)(H:PH)(hH:Le H (hp w))(hU:Eg H){a0:(Int×AfH)×AfL×(List AfJ)}{a1:Go.L.Qv}{g j k l m o:Value}(aa:AI (.pair .st (.vec AfS)) H g (a0.1.2))(_h0_1:AI AfT H j (a0.2.1.2))(_h0_2:AI AfR H k (a0.2.2))(a2:AI .st H l (a1.f.2.1))(_h1_1:AI .byte H m (a1.f.2.2.2.1))(_h1_2:AI .Bg H o (a1.f.2.2.2.2.2.2)){r:(List Int)}(h:GN a0 a1=some r):
  Ok prog 92 [.agg #[No a0.1.1,g,No a0.2.1.1,j,k],.agg #[No a1.f.1,l,Abj a1.f.2.2.1,m,No a1.f.2.2.2.2.1,No a1.f.2.2.2.2.2.1,o]] w (fun v w'=>Ext w w'/\∃ u0,v=u0/\BN 3 (.int .i64) H w w' u0 r):=by
 refine A3 (n:=121) [(0,.agg #[No a0.1.1,g,No a0.2.1.1,j,k]),(1,.agg #[No a1.f.1,l,Abj a1.f.2.2.1,m,No a1.f.2.2.2.2.1,No a1.f.2.2.2.2.2.1,o])] func92 rfl fun hL=>Am<|CY (t:=52) rfl rfl rfl hL fun w1 b1 bm bt _=>CY (t:=26) rfl rfl rfl bm fun w2 b2 ab bv _=>A4 1 rfl<|AD 1 rfl<|A7<|Am<|Ag (Ae rfl AcF rfl Cj) rfl<|Ag (Af 0 rfl Abn rfl ab rfl) rfl<|Ac<|A5<|AD 2 rfl<|AM rfl h (fun bn h=>?_) (fun bn h=>?_)
 ·refine Bo (σ:=AfN×Value) (fun⟨c,a⟩=>[(6,a)]) (fun⟨c,a⟩ wr=>DF w [.box b2 [No a1.f.1,l,Abj a1.f.2.2.1,m,No a1.f.2.2.2.2.1,No a1.f.2.2.2.2.2.1,o] 26,.box b1 [No a0.1.1,g,No a0.2.1.1,j,k] 52] wr fun Oz=>AI AfS (gz H w wr Oz) a c/\F0 c=some r) ?_ ?_
  ·refine PI (.q 0 (.q 1 (.q 2 (.q 3 (.q 4 (.q 5 (.h2 6 (.q 7 (.q 8 (.q 9 (.h 10 (.q 11 (.tail 12)))))) 10 (.h 6 (.q 7 (.q 8 (.q 9 (.q 11 (.tail 12))))))))))))) mixed (by kernel_rfl) (fun bz a3=>?_);have b:=ab.call a3;refine BQ (Ae rfl AfE rfl PM) rfl rfl<|BQ (S8 1 2 rfl Af7 rfl PM b rfl rfl) rfl rfl<|BQ (Ae rfl AcF rfl IW) rfl rfl<|BQ (Af 0 rfl Ac7 rfl b rfl) rfl rfl<|Az h fun ac h=>HX rfl rfl rfl Ac7 EZ a2 ((0:Int).toNat) (EX ac) (Ba ac) rfl ?_;rintro b0 _ rfl a4;refine BQ (Bj rfl Ab1 rfl a4 (hH.trans b.arg)) rfl rfl<|VI ?_ ?_
   ·refine Ay h fun ad p h=>Cs rfl rfl rfl (fun bo s=>Lk _ _ (Ar hH (b.call s)) (hU.mono (Aj hH)) (aa.mono (Aj hH)) p) ?_;rintro bo _ b3 s ae ⟨aq,rfl,af⟩;have ag:=b.call s;have a5:=ag.call ae;have d:=af.Cz hH ag ae;refine Df 3 rfl<|Ny rfl AW rfl rfl a5 fun b4 b5 ah ar=>Df 1 rfl<|Cd (fun b6 ai=>?_);have a6:=ah.call ai;have au:=AT ah ai;refine Ah 0 rfl AW a6 rfl (Bc rfl) fun b7 a7 av=>AK ?_;have a8:=a7.AQ (i:=0) rfl;have d:=d.mono (Ab hH (ar.trans (au.trans (av.trans (Au (i:=0) rfl)))));refine A8 (ad.1,aq) (Sub.of rfl) ⟨a8,d,h⟩
   refine Ay h fun ad p h=>Ny rfl AW rfl rfl b fun b8 b9 aj bq=>Cs rfl rfl rfl (fun bp u=>Lk _ _ (Ar hH (aj.call u)) (hU.mono (Aj hH)) (aa.mono (Aj hH)) p) ?_;rintro bp _ ca u ak ⟨aw,rfl,al⟩;have am:=aj.call u;have an:=am.call ak;have e:=al.Cz hH am ak;refine Df 4 rfl<|Cd (fun cb ao=>?_);have a9:=an.call ao;have ax:=AT an ao;refine Ah 0 rfl AW a9 rfl (Bc rfl) fun cc ba ay=>AK ?_;have bb:=ba.AQ (i:=0) rfl;have e:=e.mono (Ab hH (ax.trans (ay.trans (Au (i:=0) rfl))));refine A8 (ad.1,aw) (Sub.of rfl) ⟨bb,e,h⟩
  rintro⟨c,a⟩ bw ⟨x,z,h⟩;refine Aw<|As 1 rfl<|Ay h fun cd bc h=>Bn rfl rfl x (Ro _ _ (Ar hH x) z bc) ?_;rintro br ce ⟨_,rfl,ap⟩ bd y az;obtain⟨bx,y,az,be⟩:=ap.take hH x bd;refine As 1 rfl<|AK<|AF<|Ao<|AD 2 rfl<|Ax ?_
  cases h
  refine Ak rfl ⟨y.ext,_,rfl,(y.Ge hH (i:=0) rfl be)⟩
 refine AD 2 rfl<|AM rfl h (fun bf h=>?_) (fun bf h=>?_)
 ·cases h
 refine AD 2 rfl<|AM rfl h (fun bg h=>?_) (fun bg h=>?_)
 ·cases h
 refine AD 2 rfl<|AM rfl h (fun bh h=>?_) (fun bh h=>?_)
 ·cases h
 refine AD 2 rfl<|AM rfl h (fun bi h=>?_) (fun bi h=>?_)
 ·cases h
 refine AD 2 rfl<|AM rfl h (fun bj h=>?_) (fun bj h=>?_)
 ·cases h
 refine AD 2 rfl<|AM rfl h (fun bk h=>?_) (fun bk h=>?_)
 ·cases h
 refine Av<|AF<|Ao<|AD 2 rfl<|Ax ?_
 cases h
 refine Ak rfl ⟨ab.ext,_,rfl,BN.nil⟩
def Dw(a:List Bool):Option ((List Bool)):=
 some a
def Dl(a1:Go.L.Qv)(b:List Bool):Int->Option ((Int) ⊕ ((List Bool))):=fun a=>
 if a<((a1.f.2.2.2.2.2.2.drop (1:Int).toNat).length:Int) then AS (0<=a/\a<((a1.f.2.2.2.2.2.2.drop (1:Int).toNat).length:Int)) none else Option.map Sum.inr ((Dw b))
def EV(a1:Go.L.Qv)(a:List Bool)(s:Int):Option ((List Bool)):=Go.L.run (Dl a1 a) s
def CD(a1:Go.L.Qv)(a:List Bool):Option ((List Bool)):=
 AS (0<=(1:Int)/\(1:Int)<=(a1.f.2.2.2.2.2.2.length:Int)) ((EV a1 a) (0:Int))
def Dm(a1:Go.L.Qv)(c:(List Bool)):(List Bool)×Int->Option (((List Bool)×Int) ⊕ ((List Bool))):=fun⟨b,a⟩=>
 if a<(c.length:Int) then AS (0<=a/\a<(b.length:Int)) (AS (0<=a/\a<(b.length:Int)) (AS (B0 (a+1)) (some (Sum.inl ((b.set a.toNat (!(b.getD a.toNat default))),(a+1)))))) else Option.map Sum.inr ((CD a1) b)
def EW(a1:Go.L.Qv)(a:(List Bool))(s:(List Bool)×Int):Option ((List Bool)):=Go.L.run (Dm a1 a) s
def Dg(self:AfO->Go.L.Qv->Option ((List Bool)))(a0:(Int×AfH)×AfL×(List AfJ))(a1:Go.L.Qv):Option ((List Bool)):=
 Option.bind (HP a1.f.1) (fun c=>if c then Option.bind (GN ((a0.1.1,a0.1.2),(a0.2.1.1,a0.2.1.2),a0.2.2) a1) (fun d=>Option.bind (H9 ((a0.1.1,a0.1.2),(a0.2.1.1,a0.2.1.2),a0.2.2) d) (fun b=>some b)) else AS (0<=(0:Int)/\(0:Int)<(a1.f.2.2.2.2.2.2.length:Int)) (Option.bind (self ((a0.1.1,a0.1.2),(a0.2.1.1,a0.2.1.2),a0.2.2) (a1.f.2.2.2.2.2.2.getD ((0:Int).toNat) default)) (fun a=>if a1.f.1=10 then(EW a1 a) (a,0) else(CD a1) a)))
def DX(self:AfO->Go.L.Qv->Option ((List Bool))):Prop:=∀ (w:World) (H:PH) (hH:Le H (hp w)) (hU:Eg H) {a0:(Int×AfH)×AfL×(List AfJ)} {a1:Go.L.Qv} {a:Value} {b:Value} {c:Value} {d:Value} {e:Value} {g:Value} (j:AI (.pair .st (.vec AfS)) H a (a0.1.2)) (k:AI AfT H b (a0.2.1.2)) (l:AI AfR H c (a0.2.2)) (m:AI .st H d (a1.f.2.1)) (n:AI .byte H e (a1.f.2.2.2.1)) (o:AI .Bg H g (a1.f.2.2.2.2.2.2)) {r:(List Bool)} (h:self a0 a1=some r),Ok prog 51 [.agg #[No a0.1.1,a,No a0.2.1.1,b,c],.agg #[No a1.f.1,d,Abj a1.f.2.2.1,e,No a1.f.2.2.2.2.1,No a1.f.2.2.2.2.2.1,g]] w (fun v w'=>Ext w w'/\∃ i,v=i/\BN 4 .bool H w w' i r)
def De:Nat->AfO->Go.L.Qv->Option ((List Bool))
 | 0=>fun _ _=>none
 | n+1=>Dg (De n)
def G3:AfO->Go.L.Qv->Option ((List Bool)):=De 1000
theorem Lg(self:AfO->Go.L.Qv->Option ((List Bool)))(hself:DX self):DX (Dg self):=by
 intro w H hH hU a0 a1 o p s u v x ag ah ai bs bt aj r h;unfold DX at hself;refine A3 (n:=88) [(0,.agg #[No a0.1.1,o,No a0.2.1.1,p,s]),(1,.agg #[No a1.f.1,u,Abj a1.f.2.2.1,v,No a1.f.2.2.2.2.1,No a1.f.2.2.2.2.2.1,x])] func51 rfl fun hL=>Am<|CY (t:=52) rfl rfl rfl hL fun w1 b1 ca co _=>CY (t:=26) rfl rfl rfl ca fun w2 b2 a4 cp _=>A4 1 rfl<|A7<|Am<|Ag (Ae rfl AcF rfl Cj) rfl<|Ag (Af 0 rfl Abn rfl a4 rfl) rfl<|Ay h fun x3 cb h=>AA rfl rfl a4 (K0 _ _ (Ar hH a4) cb) fun w4 cz y cq=>Ac<|Bb rfl h (fun cc h=>?_) (fun cc h=>?_)
 ·refine DD (.q 0 (.q 1 (.q 2 (.h 3 (.h 4 (.q 5 (.tail 6))))))) mixed (by kernel_rfl) (fun w7 cd=>?_);have au:=y.call cd
  iterate 2 refine BQ (AE 1 rfl AfE rfl NW au rfl) rfl rfl ?_
  refine BQ (AE 0 rfl AcF rfl AO au rfl) rfl rfl<|Ay h fun x9 ce h=>Cs rfl rfl rfl (fun cf ak=>NM _ _ (Ar hH (au.call ak)) (hU.mono (Aj hH)) (ag.mono (Aj hH)) (ah.mono (Aj hH)) (ai.mono (Aj hH)) (bs.mono (Aj hH)) (bt.mono (Aj hH)) (aj.mono (Aj hH)) ce) ?_;rintro cf ch c0 ak al ⟨_,rfl,a5⟩;have am:=au.call ak;have ac:=am.call al;have ci:=AT am al;have d:=a5.Cz hH am al;refine Ay h fun c1 bu h=>Cs rfl rfl rfl (fun cg aa=>Of _ _ (Ar hH (ac.call aa)) (ag.mono (Aj hH)) (ah.mono (Aj hH)) (ai.mono (Aj hH)) (d.mono (Ab hH (AT ac aa))) bu) ?_;rintro cg cj c2 aa an ⟨_,rfl,a6⟩;have ao:=ac.call aa;have bl:=AT ac aa;have d:=d.mono (Ab hH bl);have ap:=ao.call an;have av:=AT ao an;obtain⟨cr,ap,av,aq⟩:=a6.take hH ao an;have d:=d.mono (Ab hH av);refine Df 1 rfl<|Cd (fun c3 a7=>?_);have a8:=ap.call a7;have aw:=AT ap a7;have d:=d.mono (Ab hH aw);have aq:=aq.mono (Ab hH aw);refine Ac<|Ax<|An ?_
  cases h
  refine Ak rfl ⟨a8.ext,_,rfl,(a8.Ge hH (i:=0) rfl aq)⟩
 refine Av<|Ao<|Am<|Ag (AE 1 rfl AfE rfl NW y rfl) rfl<|A4 2 rfl<|Bi 1 rfl<|Ag (Ae rfl AcF rfl G5) rfl<|Ag (Af 0 rfl Afy rfl y rfl) rfl<|Az h fun a9 h=>Bf rfl rfl Afy AO aj ((0:Int).toNat) (EX a9) (Ba a9) rfl ?_;rintro c4 _ e20t0 bv;obtain⟨_,_,rfl,rfl,⟨_,_,rfl,⟨e20v1,rfl,e20h1⟩,⟨_,_,rfl,rfl,⟨_,_,rfl,⟨e20v3,rfl,e20h3⟩,⟨_,_,rfl,rfl,⟨_,_,rfl,rfl,⟨e20v6,rfl,e20h6⟩⟩⟩⟩⟩⟩⟩:=Go.E.Rp.Dh e20t0;refine Ag (C9 rfl AcF rfl AO bv (hH.trans y.arg)) rfl<|Ay h fun ax bw h=>ZW [.agg #[No a0.1.1,o,No a0.2.1.1,p,s]] [] rfl rfl rfl y (hself _ _ (Ar hH y) (hU.mono (Aj hH)) (ag.mono (Aj hH)) (ah.mono (Aj hH)) (ai.mono (Aj hH)) (e20h1.mono (Aj hH)) (e20h3.mono (Aj hH)) (e20h6.mono (Aj hH)) bw) ?_;rintro e c5 ⟨_,rfl,ba⟩ bx ab bm;obtain⟨bb,ab,bm,bc⟩:=ba.take hH y bx;refine A4 1 rfl ?_
 refine Bo (σ:=(List Bool)×(List Value)) (fun⟨k,g⟩=>[(3,(Abi b2)),(6,e)]) (fun⟨k,g⟩ wr=>DF w [.row e 4 1 (k).length g,.box b2 [No a1.f.1,u,Abj a1.f.2.2.1,v,No a1.f.2.2.2.2.1,No a1.f.2.2.2.2.2.1,x] 26,.box b1 [No a0.1.1,o,No a0.2.1.1,p,s] 52] wr fun Oz=>AJ .bool (gz H w wr Oz) k g/\(CD a1) k=some r) ?_ ?_
 ·refine Am<|Ag (Ae rfl AcF rfl Cj) rfl<|Ag (Af 1 rfl Abn rfl ab rfl) rfl<|A4 1 rfl<|AM rfl h (fun bz h=>?_) (fun bz h=>?_)
  ·refine Bi 1 rfl<|Ag (Om (i:=0) rfl AfG ab rfl) rfl<|A4 1 rfl<|A5 ?_;obtain⟨bd,h⟩:=AZ h;refine Bx (σ:=(List Bool)×Int×(List Value)×Nat) (fun⟨m,a,l,n⟩=>[(3,(Abi b2)),(6,e),(32,No (ax.length:Int)),(33,No a)]) (fun⟨m,a,l,n⟩ wr=>DF w [.row e 4 1 (m).length l,.box b2 [No a1.f.1,u,Abj a1.f.2.2.1,v,No a1.f.2.2.2.2.1,No a1.f.2.2.2.2.2.1,x] 26,.box b1 [No a0.1.1,o,No a0.2.1.1,p,s] 52] wr fun Oz=>AJ .bool (gz H w wr Oz) m l/\F6 (Dm a1 ax) n (m,a)=some r) (fun⟨m,a,l,n⟩=>n) (ax,0,bb,bd) (Sub.of rfl) ⟨ab,bc,h⟩ ?_;rintro⟨m,a,l,nn67⟩ cs ⟨ad,ae,h⟩;obtain⟨bd,c6,rfl,h,be⟩:=AY h;refine AD 1 rfl<|A7<|AM rfl h (fun b0 h=>?_) (fun b0 h=>?_)
   ·refine Av<|Ao<|A7<|A5<|AD 2 rfl<|Aw<|As 4 rfl<|Az h fun bf h=>Bf rfl rfl AfG zr4 (ad.UD hH (i:=0) rfl ae) a.toNat (EX bf) (Ba bf) rfl ?_;rintro c7 _ rfl b3;refine Ag (Bj rfl AcV rfl b3 (Le.refl _)) rfl<|As 1 rfl<|Az h fun ar h=>LB 0 rfl rfl AfG zr4 ad rfl a.toNat (EX ar) (Ba ar) rfl fun c8 b4=>LC (z:=!(m.getD a.toNat default)) (j:=a.toNat) 0 rfl rfl rfl zr4 hH ad rfl ae b4 rfl (Ba ar) rfl fun c9 b5 b6 ck b7=>AK<|AF<|Ao<|Aw<|Az h fun b8 h=>Ag (A1 rfl b8) rfl<|As 1 rfl<|AK ?_;have h:=BP.again h be;refine AN ((m.set a.toNat (!(m.getD a.toNat default))),(a+1),b5,bd) (Sub.of rfl) ⟨b6,b7,h⟩ (Nat.lt_succ_self _)
   refine Br<|AG<|A6 ?_;have h:=BP.out h be;refine Be<|A8 (m,l) (Sub.of rfl) ⟨ad,ae,h⟩
  refine Av<|A8 (ax,bb) (Sub.of rfl) ⟨ab,bc,h⟩
 rintro⟨k,g⟩ ct ⟨bg,b,h⟩;refine Bo (σ:=Unit) (fun(_:Unit)=>[(6,e)]) (fun(_:Unit) wr=>DF w [.row e 4 1 (k).length g,.box b2 [No a1.f.1,u,Abj a1.f.2.2.1,v,No a1.f.2.2.2.2.1,No a1.f.2.2.2.2.2.1,x] 26,.box b1 [No a0.1.1,o,No a0.2.1.1,p,s] 52] wr fun Oz=>AJ .bool (gz H w wr Oz) k g/\(Dw k)=some r) ?_ ?_
 ·refine Am<|Ag (Ae rfl AcF rfl G5) rfl<|Ag (Af 1 rfl Afy rfl bg rfl) rfl<|Az h fun bn h=>VO rfl rfl Afy AO aj bn rfl fun b9 ay=>Ag (Bu rfl Afy ay) rfl<|A4 1 rfl<|A5 ?_;obtain⟨bh,h⟩:=AZ h;refine Bx (σ:=Int×Nat) (fun⟨c,n⟩=>[(6,e),(47,b9),(48,No ((a1.f.2.2.2.2.2.2.drop (1:Int).toNat).length:Int)),(49,No c)]) (fun⟨c,n⟩ wr=>DF w [.row e 4 1 (k).length g,.box b2 [No a1.f.1,u,Abj a1.f.2.2.1,v,No a1.f.2.2.2.2.1,No a1.f.2.2.2.2.2.1,x] 26,.box b1 [No a0.1.1,o,No a0.2.1.1,p,s] 52] wr fun Oz=>AJ .bool (gz H w wr Oz) k g/\F6 (Dl a1 k) n c=some r) (fun⟨c,n⟩=>n) (0,bh) (Sub.of rfl) ⟨bg,b,h⟩ ?_;rintro⟨c,nn113⟩ cl ⟨af,b,h⟩;obtain⟨bh,cu,rfl,h,bo⟩:=AY h;refine AD 1 rfl<|A7<|AM rfl h (fun bp h=>?_) (fun bp h=>?_)
  ·refine Av<|Ao<|A7<|A5<|Am<|Az h fun az h=>Bf rfl rfl Afy AO ay c.toNat (EX az) (Ba az) rfl ?_;rintro cv _ e117t0 bq;obtain⟨_,_,rfl,rfl,⟨_,_,rfl,⟨e117v1,rfl,e117h1⟩,⟨_,_,rfl,rfl,⟨_,_,rfl,⟨e117v3,rfl,e117h3⟩,⟨_,_,rfl,rfl,⟨_,_,rfl,rfl,⟨e117v6,rfl,e117h6⟩⟩⟩⟩⟩⟩⟩:=Go.E.Rp.Dh e117t0;refine Ag (C9 rfl AcF rfl AO bq (hH.trans af.arg)) rfl<|AH AO rfl rfl af ?_;intro cw cx br bi _;have b:=b.mono (Ab hH bi);refine Ah 0 rfl AO br rfl (AU rfl (AU e117h1.one (AU rfl (AU e117h3.one (AU rfl (AU rfl (AU e117h6.one Hj))))))) ?_;intro cy cm bj;have b:=b.mono (Ab hH bj);refine Ac ?_
   cases h
  refine Br<|AG<|A6 ?_;have h:=BP.out h bo;refine Be<|A8 () (Sub.of rfl) ⟨af,b,h⟩
 rintro _ cn ⟨a2,b,h⟩;refine AD 2 rfl<|Ax ?_
 cases h
 refine Ak rfl ⟨a2.ext,_,rfl,(a2.Ge hH (i:=0) rfl b)⟩
theorem Mh(n:Nat):DX (De n):=by
 induction n with
 | zero=>unfold DX;intros;rename_i h;cases h
 | succ n ih=>exact Lg (De n) ih
theorem Ns(w:World)(H:PH)(hH:Le H (hp w))(hU:Eg H){a0:(Int×AfH)×AfL×(List AfJ)}{a1:Go.L.Qv}{a b c d e g:Value}(i:AI (.pair .st (.vec AfS)) H a (a0.1.2))(j:AI AfT H b (a0.2.1.2))(k:AI AfR H c (a0.2.2))(l:AI .st H d (a1.f.2.1))(m:AI .byte H e (a1.f.2.2.2.1))(n:AI .Bg H g (a1.f.2.2.2.2.2.2)){r:(List Bool)}(h:G3 a0 a1=some r):Ok prog 51 [.agg #[No a0.1.1,a,No a0.2.1.1,b,c],.agg #[No a1.f.1,d,Abj a1.f.2.2.1,e,No a1.f.2.2.2.2.1,No a1.f.2.2.2.2.2.1,g]] w (fun v w'=>Ext w w'/\∃ o,v=o/\BN 4 .bool H w w' o r):=Mh 1000 w H hH hU i j k l m n h
def Gc(a:List Int):Option ((List Int)×(Int×Int)):=
 some (a,(0,0))
def F1(a2:List Bool)(c:(List Bool)):(List Int)×Int->Option (((List Int)×Int) ⊕ ((List Int)×(Int×Int))):=fun⟨b,a⟩=>
 if a<(c.length:Int) then AS (0<=a/\a<(c.length:Int)) (if c.getD a.toNat default then AS (0<=a/\a<(a2.length:Int)) (if a2.getD a.toNat default then AS (Go.E.J3 8 (b.length+([a]).length)) (AS (B0 (a+1)) (some (Sum.inl ((b++[a]),(a+1))))) else AS (B0 (a+1)) (some (Sum.inl (b,(a+1))))) else AS (B0 (a+1)) (some (Sum.inl (b,(a+1))))) else Option.map Sum.inr (Gc b)
def HW(a2:List Bool)(a:(List Bool))(s:(List Int)×Int):Option ((List Int)×(Int×Int)):=Go.L.run (F1 a2 a) s
def FQ(a0:(Int×AfH)×AfL×(List AfJ))(a1:Go.L.Qv)(a2:List Bool):Option ((List Int)×(Int×Int)):=
 Option.bind (Gj a1) (fun a=>if a.1=0/\a.2=0 then Option.bind (CU ((a0.1.1,a0.1.2),(a0.2.1.1,a0.2.1.2),a0.2.2)) (fun b=>if(a2.length:Int)=b then Option.bind (G3 ((a0.1.1,a0.1.2),(a0.2.1.1,a0.2.1.2),a0.2.2) a1) (fun c=>(HW a2 c) (([]:List Int),0)) else none) else none)
theorem Kq(w:World)(H:PH)(hH:Le H (hp w))(hU:Eg H){a0:(Int×AfH)×AfL×(List AfJ)}{a1:Go.L.Qv}{a2:List Bool}{p q u x y z ab:Value}(an:AI (.pair .st (.vec AfS)) H p (a0.1.2))(ao:AI AfT H q (a0.2.1.2))(ap:AI AfR H u (a0.2.2))(aq:AI .st H x (a1.f.2.1))(ar:AI .byte H y (a1.f.2.2.2.1))(au:AI .Bg H z (a1.f.2.2.2.2.2.2))(av:AI .bool H ab a2){r:(List Int)×(Int×Int)}(h:FQ a0 a1 a2=some r):
  Ok prog 24 [.agg #[No a0.1.1,p,No a0.2.1.1,q,u],.agg #[No a1.f.1,x,Abj a1.f.2.2.1,y,No a1.f.2.2.2.2.1,No a1.f.2.2.2.2.2.1,z],ab] w (fun v w'=>Ext w w'/\∃ u0,v=.tuple #[u0,.agg #[No r.2.1,No r.2.2]]/\BN 3 (.int .i64) H w w' u0 (r.1)):=by
 refine A3 (n:=47) [(0,.agg #[No a0.1.1,p,No a0.2.1.1,q,u]),(1,.agg #[No a1.f.1,x,Abj a1.f.2.2.1,y,No a1.f.2.2.2.2.1,No a1.f.2.2.2.2.2.1,z]),(2,ab)] func24 rfl fun hL=>Am<|CY (t:=52) rfl rfl rfl hL fun w1 b1 bw cc _=>CY (t:=26) rfl rfl rfl bw fun w2 b2 bz cd _=>As 1 rfl<|AH AW rfl rfl bz fun w3 b3 aw ce _=>Ac<|A7<|Am<|Ag (AE 1 rfl AcF rfl AO aw rfl) rfl<|Ay h fun x4 b0 h=>AA rfl rfl aw (JB (a0:=a1) _ _ (Ar hH aw) (hU.mono (Aj hH)) (aq.mono (Aj hH)) (ar.mono (Aj hH)) (au.mono (Aj hH)) b0) fun w5 cp b4 cf=>AH AW rfl rfl b4 fun w6 b6 b7 cg _=>Ah 0 rfl AW b7 rfl (Bc rfl) fun w7 al ch=>Ac<|Am<|Ag (AE 0 rfl Ack rfl AW al rfl) rfl<|Ag (AR rfl (fun _=>Cf _)) rfl<|Ag (Lh rfl rfl JF (MY _ _ _ _)) rfl<|Ac<|BV rfl h (fun b8 h=>?_) (fun b8 h=>?_)
 ·cases h
 refine Av<|Ao<|A7<|Bi 1 rfl<|Ag (Bu rfl AfG av) rfl<|Ag (AE 3 rfl AfE rfl NW al rfl) rfl<|Ay h fun cq bi h=>AA rfl rfl al (ET (a0:=((a0.1.1,a0.1.2),(a0.2.1.1,a0.2.1.2),a0.2.2)) _ _ (Ar hH al) (an.mono (Aj hH)) (ao.mono (Aj hH)) (ap.mono (Aj hH)) bi) fun cr ci bj b9=>A4 1 rfl<|BV rfl h (fun bk h=>?_) (fun bk h=>?_)
 ·cases h
 refine Av<|Ao<|Bi 1 rfl ?_;obtain⟨aa,ca,ak⟩:=C0 (.int .i64) H 3 bj;refine Ac<|Bo (σ:=(List Int)×Value×(List Value)) (fun⟨ag,ac,o⟩=>[(7,(Abi b3)),(9,ac)]) (fun⟨ag,ac,o⟩ wr=>DF w [.row ac 3 1 (ag).length o,.box b6 [No x4.1,No x4.2] 28,.box b3 [No 0,No 0] 28,.box b2 [No a1.f.1,x,Abj a1.f.2.2.1,y,No a1.f.2.2.2.2.1,No a1.f.2.2.2.2.2.1,z] 26,.box b1 [No a0.1.1,p,No a0.2.1.1,q,u] 52] wr fun Oz=>AJ (.int .i64) (gz H w wr Oz) ag o/\Gc ag=some r) ?_ ?_
 ·refine Am<|Ag (AE 4 rfl AfE rfl NW aa rfl) rfl<|Ag (AE 3 rfl AcF rfl AO aa rfl) rfl<|Ay h fun ax bl h=>Bn rfl rfl aa (Ns (a0:=((a0.1.1,a0.1.2),(a0.2.1.1,a0.2.1.2),a0.2.2)) (a1:=a1) _ _ (Ar hH aa) (hU.mono (Aj hH)) (an.mono (Aj hH)) (ao.mono (Aj hH)) (ap.mono (Aj hH)) (aq.mono (Aj hH)) (ar.mono (Aj hH)) (au.mono (Aj hH)) bl) ?_;rintro am cs ⟨_,rfl,ay⟩ bm bn a8;have ah:=ay.Cz hH aa bm;refine Ag (Bu rfl AfG ah) rfl<|A4 1 rfl<|A5 ?_;obtain⟨ai,h⟩:=AZ h;have ak:=ak.mono (Ab hH a8)
  refine Bx (σ:=(List Int)×Int×Value×(List Value)×Nat) (fun⟨e,a,g,b,n⟩=>[(2,ab),(7,(Abi b3)),(9,g),(26,am),(27,No (ax.length:Int)),(28,No a)]) (fun⟨e,a,g,b,n⟩ wr=>DF w [.row g 3 1 (e).length b,.box b6 [No x4.1,No x4.2] 28,.box b3 [No 0,No 0] 28,.box b2 [No a1.f.1,x,Abj a1.f.2.2.1,y,No a1.f.2.2.2.2.1,No a1.f.2.2.2.2.2.1,z] 26,.box b1 [No a0.1.1,p,No a0.2.1.1,q,u] 52] wr fun Oz=>AI .bool (gz H w wr Oz) am ax/\AJ (.int .i64) (gz H w wr Oz) e b/\F6 (F1 a2 ax) n (e,a)=some r) (fun⟨e,a,g,b,n⟩=>n) (([]:List Int),0,Aa8,[],ai) (Sub.of rfl) ⟨bn,ah,ak,h⟩ ?_;rintro⟨e,a,g,b,nn89⟩ cj ⟨k,d,j,h⟩;obtain⟨ai,ct,rfl,h,ad⟩:=AY h;refine AD 1 rfl<|A7<|AM rfl h (fun bo h=>?_) (fun bo h=>?_)
  ·refine Av<|Ao<|A7<|A5<|Bi 1 rfl<|Az h fun az h=>Bf rfl rfl AfG zr4 d a.toNat (EX az) (Ba az) rfl ?_;rintro cu _ rfl bp;refine Ag (Bj rfl AcV rfl bp (Ar hH k)) rfl<|A4 2 rfl<|Bi 2 rfl<|AP (s:=34) rfl (fun c=>?_) (fun c=>?_)
   ·have h:=HA c h;refine Aa rfl c<|Ag (Ad rfl) rfl<|Aa rfl c<|Ag (Ad rfl) rfl<|Aa rfl c<|Az h fun a3 h=>Bf rfl rfl AfG zr4 av a.toNat (EX a3) (Ba a3) rfl ?_;rintro cv _ rfl bq;refine Aa rfl c<|Ag (Bj rfl AcV rfl bq (hH.trans k.arg)) rfl<|Ag (A2 rfl c rfl) rfl<|Ac<|Bb rfl h (fun br h=>?_) (fun br h=>?_)
    ·refine Aw<|As 2 rfl<|Bp (r:=(.int .i64)) (l:=[a]) rfl (fun _=>I7 _ _) rfl (leMax 1) hH k (.c1 rfl .nil) fun ck cl cb a9 aj ba=>Az h fun bb h=>?_;have j:=j.mono (Ab hH aj);refine Bt (r:=(.int .i64)) (l:=e) (m:=[a]) 0 rfl rfl Abm Cj rfl (by decide) rfl hH a9 rfl j ba bb fun bs cm bc bd a4 be=>As 1 rfl<|AK<|AF<|Ao<|Aw<|Az h fun bf h=>Ag (A1 rfl bf) rfl<|As 1 rfl<|AK ?_;have h:=BP.again h ad;have d:=d.mono (Ab hH (aj.trans a4));refine AN ((e++[a]),(a+1),bs,bc,ai) (Sub.of rfl) ⟨bd,d,be,h⟩ (Nat.lt_succ_self _)
    refine Av<|AF<|Ao<|Aw<|Az h fun bg h=>Ag (A1 rfl bg) rfl<|As 1 rfl<|AK ?_;have h:=BP.again h ad;refine AN (e,(a+1),g,b,ai) (Sub.of rfl) ⟨k,d,j,h⟩ (Nat.lt_succ_self _)
   have h:=HB c h
   iterate 4 refine Ai rfl c rfl ?_
   refine Ag (A9 rfl c rfl) rfl<|Ac<|Cr rfl<|Av<|AF<|Ao<|Aw<|Az h fun bh h=>Ag (A1 rfl bh) rfl<|As 1 rfl<|AK ?_;have h:=BP.again h ad;refine AN (e,(a+1),g,b,ai) (Sub.of rfl) ⟨k,d,j,h⟩ (Nat.lt_succ_self _)
  refine Br<|AG<|A6 ?_;have h:=BP.out h ad;refine Be<|A8 (e,g,b) (Sub.of rfl) ⟨k,j,h⟩
 rintro⟨ag,ac,o⟩ cn ⟨bt,ae,h⟩;refine Bi 1 rfl<|Ag (AR rfl (fun _=>Cf _)) rfl<|As 1 rfl<|Ah 2 rfl AW bt rfl (Bc rfl) fun co af a5=>Ac<|Ax ?_
 cases h
 refine Bz rfl (.tmp rfl) (.cell rfl Ack rfl AW (AL (i:=2) af rfl)) ?_;have ae:=ae.mono (Ab hH a5);exact⟨af.ext,_,rfl,(af.Ge hH (i:=0) rfl ae)⟩
def Gd(a0:Abk):Option Abk:=
 some a0
theorem MO(w:World)(H:PH)(hH:Le H (hp w)){a0:Abk}{a:Value}(b:AI .byte H a a0){r:Abk}(h:Gd a0=some r):
  Ok prog 61 [a] w (fun v w'=>Ext w w'/\∃ c,v=c/\AI .byte (un H (nw w w')) c r):=by
 refine A3 (n:=9) [(0,a)] func61 rfl fun hL=>AD 1 rfl<|Bi 2 rfl<|Ag (Bu rfl AbF b) rfl<|As 1 rfl<|Ag (Bu rfl AbF b) rfl<|Adz rfl rfl rfl AbF LH b rfl fun e d=>A4 1 rfl<|Ax ?_
 cases h
 refine Ak rfl ⟨hL.ext,_,rfl,(d.mono (Ks hH))⟩
def F2(a0:(Int×AfH)×AfL×(List AfJ))(a1 a2 a3:Int):Option (Abk×(Int×Int)):=
 AS (0<=a1/\a1<(a0.2.2.length:Int)) (Option.bind (CN ((a0.2.2.getD a1.toNat default).1,(a0.2.2.getD a1.toNat default).2.1,(a0.2.2.getD a1.toNat default).2.2)) (fun a=>if(a2<0)\/(a<a2) then none else(if(a3<a2)\/(a<a3) then none else AS (0<=a1/\a1<(a0.2.2.length:Int)) (Option.bind (FU ((a0.2.2.getD a1.toNat default).1,(a0.2.2.getD a1.toNat default).2.1,(a0.2.2.getD a1.toNat default).2.2) a2 a3) (fun b=>Option.bind (Gd b.1) (fun c=>some (c,(0,0))))))))
def Ff(a0:(Int×AfH)×AfL×(List AfJ))(a1 a2 a3:Int)(a4:List Bool):Option (Abk×(Int×Int)):=
 if a1<0 then none else Option.bind (CU ((a0.1.1,a0.1.2),(a0.2.1.1,a0.2.1.2),a0.2.2)) (fun b=>if b<=a1 then none else Option.bind (CU ((a0.1.1,a0.1.2),(a0.2.1.1,a0.2.1.2),a0.2.2)) (fun c=>if(a4.length:Int)=c then AS (0<=a1/\a1<(a4.length:Int)) (if !(a4.getD a1.toNat default) then Option.bind (DT (20:Int) (-1:Int)) (fun a=>some ([],(a.1,a.2))) else(F2 a0 a1 a2 a3)) else none))
theorem Kn(w:World)(H:PH)(hH:Le H (hp w)){a0:(Int×AfH)×AfL×(List AfJ)}{a1 a2 a3:Int}{a4:List Bool}{e f g m:Value}(q:AI (.pair .st (.vec AfS)) H e (a0.1.2))(u:AI AfT H f (a0.2.1.2))(j:AI AfR H g (a0.2.2))(x:AI .bool H m a4){r:Abk×(Int×Int)}(h:Ff a0 a1 a2 a3 a4=some r):
  Ok prog 29 [.agg #[No a0.1.1,e,No a0.2.1.1,f,g],No a1,No a2,No a3,m] w (fun v w'=>Ext w w'/\∃ u0,v=.tuple #[u0,.agg #[No r.2.1,No r.2.2]]/\AI .byte (un H (nw w w')) u0 (r.1)):=by
 refine A3 (n:=78) [(0,.agg #[No a0.1.1,e,No a0.2.1.1,f,g]),(1,No a1),(2,No a2),(3,No a3),(4,m)] func29 rfl fun hL=>Am<|CY (t:=52) rfl rfl rfl hL fun w1 b1 bc bn _=>As 1 rfl<|AH AW rfl rfl bc fun w2 b2 y bo _=>Ac<|Bo (σ:=Unit) (fun(_:Unit)=>[(1,No a1),(2,No a2),(3,No a3),(5,(Abi b1)),(11,(Abi b2))]) (fun(_:Unit) wr=>Bd w [.box b2 [No 0,No 0] 28,.box b1 [No a0.1.1,e,No a0.2.1.1,f,g] 52] wr/\(F2 a0 a1 a2 a3)=some r) ?_ ?_
 ·refine A5<|Bi 3 rfl<|AP (s:=18) rfl (fun a=>?_) (fun a=>?_)
  ·have h:=BI (of_decide_eq_true a) h
   iterate 4 refine Ai rfl a rfl ?_
   refine Ag (A2 rfl a rfl) rfl<|A4 1 rfl<|Cg rfl ?_
   cases h
  have h:=BJ (of_decide_eq_false a) h;refine Aa rfl a<|Ag (Ad rfl) rfl<|Aa rfl a<|Ag (AE 1 rfl AfE rfl NW y rfl) rfl<|Aa rfl a<|Ay h fun bu aj h=>AA rfl rfl y (ET (a0:=((a0.1.1,a0.1.2),(a0.2.1.1,a0.2.1.2),a0.2.2)) _ _ (Ar hH y) (q.mono (Aj hH)) (u.mono (Aj hH)) (j.mono (Aj hH)) aj) fun bv bp o be=>Aa rfl a<|Ag (Ad rfl) rfl<|Ag (A9 rfl a rfl) rfl<|A4 1 rfl<|AM rfl h (fun ak h=>?_) (fun ak h=>?_)
  ·cases h
  refine Bi 1 rfl<|Ag (Bu rfl AfG x) rfl<|Ag (AE 1 rfl AfE rfl NW o rfl) rfl<|Ay h fun bw al h=>AA rfl rfl o (ET (a0:=((a0.1.1,a0.1.2),(a0.2.1.1,a0.2.1.2),a0.2.2)) _ _ (Ar hH o) (q.mono (Aj hH)) (u.mono (Aj hH)) (j.mono (Aj hH)) al) fun bx bq k bf=>A4 2 rfl<|BV rfl h (fun am h=>?_) (fun am h=>?_)
  ·cases h
  refine Bi 2 rfl<|Az h fun z h=>Bf rfl rfl AfG zr4 x a1.toNat (EX z) (Ba z) rfl ?_;rintro bz _ rfl an;refine Ag (Bj rfl AcV rfl an (hH.trans k.arg)) rfl<|A4 2 rfl<|Bb rfl h (fun ao h=>?_) (fun ao h=>?_)
  ·refine Am<|Ay h fun b0 ap h=>AA rfl rfl k (EU _ _ (Ar hH k) ap) fun b3 br aq bg=>As 1 rfl<|Ah 0 rfl AW aq rfl (Bc rfl) fun b4 aa bh=>Ac<|Ax<|Aq<|Bs ?_
   cases h
   refine Bz rfl (.tmp rfl) (.cell rfl Ack rfl AW (AL (i:=0) aa rfl)) ⟨aa.ext,_,rfl,(AI.nil _ _)⟩
  refine Av<|AF<|A8 () (Sub.of rfl) ⟨k,h⟩
 rintro _ bs ⟨l,h⟩;refine Am<|Ag (Ae rfl AfE rfl JJ) rfl<|Ag (Af 1 rfl AfF rfl l rfl) rfl<|As 1 rfl<|Az h fun ab h=>Bf rfl rfl AfF Gm j a1.toNat (EX ab) (Ba ab) rfl ?_;rintro b5 _ ⟨_,_,rfl,⟨e49v0,rfl,e49h0⟩,⟨_,_,rfl,⟨e49v1,rfl,e49h1⟩,⟨e49v2,rfl,e49h2⟩⟩⟩ ar;refine Ag (C9 rfl Afv rfl Gm ar (hH.trans l.arg)) rfl<|Ay h fun b6 au h=>AA rfl rfl l (EF (a0:=((a0.2.2.getD a1.toNat default).1,(a0.2.2.getD a1.toNat default).2.1,(a0.2.2.getD a1.toNat default).2.2)) _ _ (Ar hH l) (e49h0.mono (Aj hH)) (e49h1.mono (Aj hH)) (e49h2.mono (Aj hH)) au) fun b7 bt b bi=>A4 1 rfl<|A7<|A5<|Bi 3 rfl<|MT 3 2 rfl rfl rfl rfl rfl rfl<|A4 1 rfl<|AM rfl h (fun av h=>?_) (fun av h=>?_)
 ·cases h
 refine Bi 4 rfl<|MT 3 3 rfl rfl rfl rfl rfl rfl<|A4 1 rfl<|AM rfl h (fun aw h=>?_) (fun aw h=>?_)
 ·cases h
 refine Av<|AF<|Ao<|Am<|Ag (Ae rfl AfE rfl JJ) rfl<|Ag (Af 1 rfl AfF rfl b rfl) rfl<|As 1 rfl<|Az h fun ac h=>Bf rfl rfl AfF Gm j a1.toNat (EX ac) (Ba ac) rfl ?_;rintro b8 _ ⟨_,_,rfl,⟨e59v0,rfl,e59h0⟩,⟨_,_,rfl,⟨e59v1,rfl,e59h1⟩,⟨e59v2,rfl,e59h2⟩⟩⟩ ax;refine Ag (C9 rfl Afv rfl Gm ax (hH.trans b.arg)) rfl<|As 2 rfl<|Ay h fun b9 ay h=>Bn rfl rfl b (MK (a0:=((a0.2.2.getD a1.toNat default).1,(a0.2.2.getD a1.toNat default).2.1,(a0.2.2.getD a1.toNat default).2.2)) _ _ (Ar hH b) (e59h0.mono (Aj hH)) (e59h1.mono (Aj hH)) (e59h2.mono (Aj hH)) ay) ?_;rintro _ ca ⟨bj,rfl,ad⟩ az a5 bk;have c:=ad.Cz hH b az;refine As 3 rfl<|AH AW rfl rfl a5 fun cb cc a6 ag _=>As 1 rfl<|Ah 0 rfl AW a6 rfl (Bc rfl) fun cd p ah=>Ac<|Bi 1 rfl<|Ay h fun ce a7 h=>?_;have c:=c.mono (Ab hH (ag.trans ah));refine Bn rfl rfl p (MO _ _ (Ar hH p) c a7) ?_;rintro bl cf ⟨_,rfl,ae⟩ a8 a9 bm;have d:=ae.mono (Cm hH p a8)
 refine Ag (AR rfl (fun _=>Cf _)) rfl<|As 1 rfl<|Ah 1 rfl AW a9 rfl (Bc rfl) fun cg af ai=>Ac<|Ax ?_
 cases h
 refine Bz rfl (.tmp rfl) (.cell rfl Ack rfl AW (AL (i:=1) af rfl)) ?_;have d:=d.mono (Ab hH ai);exact⟨af.ext,_,rfl,(d.mono (B5 hH))⟩
end Go.Proofs.YtekmbcbgknmhiaaGreatDoor
end
noncomputable section
namespace Go.Proofs.YtekmbcbgknmhiaaGreatDoor
open Go Go.E Go.RowKit Go.L
set_option maxHeartbeats 1000000
set_option maxRecDepth 10000
open _root_.Go.Proofs.Tryz
def Ey(a:Bool):Option Bool:=
 some a
def L8:Option Bool:=
 Option.bind (Pb ([111,120]:Abk)) (fun c=>Option.bind (Ev (Go.L.Qv.mk (10:Int) ([]) ([]:Abk) ([]) (0:Int) (0:Int) ([c]))) (fun o=>Option.bind (Ex ([33,111,120]:Abk)) (fun d=>AS ([(111:UInt8),(120:UInt8)]≠[]) (Option.bind (KM (1:Int)) (fun p=>AS ([(99:UInt8),(111:UInt8),(119:UInt8)]≠[]) (Option.bind (KM (2:Int)) (fun q=>Option.bind (L4 ([([(111:UInt8),(120:UInt8)],p),([(99:UInt8),(111:UInt8),(119:UInt8)],q)])) (fun a=>Option.bind (FQ ((a.1.1.1,a.1.1.2),(a.1.2.1.1,a.1.2.1.2),a.1.2.2) (Go.L.Qv.mk (10:Int) ([]) ([]:Abk) ([]) (0:Int) (0:Int) ([c])) ([true,true])) (fun e=>Option.bind (FQ ((a.1.1.1,a.1.1.2),(a.1.2.1.1,a.1.2.1.2),a.1.2.2) (Go.L.Qv.mk (10:Int) ([]) ([]:Abk) ([]) (0:Int) (0:Int) ([c])) ([true,false])) (fun f=>Option.bind (Ff ((a.1.1.1,a.1.1.2),(a.1.2.1.1,a.1.2.1.2),a.1.2.2) (1:Int) (0:Int) (2:Int) ([false,true])) (fun g=>Option.bind (Ff ((a.1.1.1,a.1.1.2),(a.1.2.1.1,a.1.2.1.2),a.1.2.2) (1:Int) (0:Int) (2:Int) ([true,false])) (fun h=>Option.bind (Ex ([33,40,97,124,33,98,41]:Abk)) (fun i=>Option.bind (KD i.1) (fun j=>Option.bind (Ev j.1) (fun k=>if o.2.1=0 then if d.2.1=0 then if a.2.1=0 then if e.2.1=0 then if f.2.1=0 then if g.2.1=0 then if i.2.1=0 then if j.2.1=0 then if k.2.1=0 then(if o.1=([33,111,120]:Abk) then Option.bind (DP d.1 (Go.L.Qv.mk (10:Int) ([]) ([]:Abk) ([]) (0:Int) (0:Int) ([c]))) (fun l=>if l then Option.bind (Pa e.1 ([1])) (fun m=>if m then if(f.1.length:Int)=0 then AS ([(99:UInt8),(111:UInt8)]≠[]) (Option.bind (GQ g.1 ([(99:UInt8),(111:UInt8)])) (fun n=>if n then Option.bind (GA (20:Int) (-1:Int)) (fun b=>if h.2.1=b.1/\h.2.2=b.2 then Ey (decide (k.1=([33,97,38,98]:Abk))) else Ey false) else Ey false)) else Ey false else Ey false) else Ey false) else Ey false) else none else none else none else none else none else none else none else none else none)))))))))))))))
theorem V2(w:World)(H:PH)(hH:Le H (hp w))(hU:Eg H){r:Bool}(h:L8=some r):
  Ok prog 13 [] w (fun v w'=>Ext w w'/\v=.bool r):=by
 refine A3 (n:=162) [] func13 rfl fun hL=>AD 1 rfl<|Am<|Ay h fun x1 h0 h=>Bn rfl rfl hL (UX _ _ (Ar hH hL) h0) ?_;rintro _ w2 ⟨iu,iv,iw,rfl,e8,e9,fa⟩ dv h1 ix;have fb:=e8.mono (Cm hH hL dv);have fc:=e9.Cz hH hL dv;have fd:=fa.Cz hH hL dv;refine Bp (r:=.Bg) (l:=[x1]) rfl (fun _=>K5 _ _ _ _ _ _ _ _) rfl (leMax 1) hH h1 (.c7 (Go.E.Rp.F4 ⟨_,_,rfl,rfl,⟨_,_,rfl,⟨_,rfl,fb⟩,⟨_,_,rfl,rfl,⟨_,_,rfl,⟨_,rfl,fc⟩,⟨_,_,rfl,rfl,⟨_,_,rfl,rfl,⟨_,rfl,fd⟩⟩⟩⟩⟩⟩⟩) .nil) fun v3 w3 jn h2 iy aw=>Ag (AR rfl (fun _=>L5 _ _ aw.one _)) rfl<|AH AO rfl rfl h2 fun w4 b4 h3 fx _=>Ah 0 rfl AO h3 rfl (AU rfl (AU rfl (AU rfl (AU rfl (AU rfl (AU rfl (AU aw.one Hj))))))) fun w5 dw fy=>Ac<|Am<|Ag (AE 0 rfl AcF rfl AO dw rfl) rfl<|Ay h fun x6 h4 h=>?_;have aw:=aw.mono (Ab hH (fx.trans fy));refine AA rfl rfl dw (Jz (a0:=(Go.L.Qv.mk (10:Int) ([]) ([]:Abk) ([]) (0:Int) (0:Int) ([x1]))) _ _ (Ar hH dw) (hU.mono (Aj hH)) (AI.nil _ _) (AI.nil _ _) aw h4) fun w7 jo h5 fz=>As 3 rfl<|AH AW rfl rfl h5 fun w8 b8 h6 f1 _=>As 1 rfl ?_
 refine Ah 0 rfl AW h6 rfl (Bc rfl) fun w9 cy f2=>Ac<|Am<|Ay h fun an f3 h=>Bn rfl rfl cy (Lc _ _ (Ar hH cy) (hU.mono (Aj hH)) f3) ?_;rintro _ jp ⟨bq,br,bs,rfl,dx,dy,dz⟩ c0 f4 ff;have ad:=dx.mono (Cm hH cy c0);have ae:=dy.mono (Cm hH cy c0);have af:=dz.mono (Cm hH cy c0);refine As 3 rfl<|AH AO rfl rfl f4 fun jq d0 f5 az _=>AH AW rfl rfl f5 fun jr d1 f6 a2 _=>Ah 1 rfl AO f6 rfl (AU rfl (AU ad.one (AU rfl (AU ae.one (AU rfl (AU rfl (AU af.one Hj))))))) fun js f7 a3=>Ah 0 rfl AW f7 rfl (Bc rfl) fun jt d2 a4=>Ac ?_;have j:=d2.rG H;refine Am<|Kt (r:=.byte) (l:=[(111:UInt8),(120:UInt8)]) rfl (fun _=>XN _ _ _) rfl (leMax 2) hH d2 (.c1 rfl (.c1 rfl .nil)) fun ju jv iz f8 fg f9=>Az h fun ga h=>Zw 0 rfl AbF Ac5 rfl hH f8 rfl f9 ga fun jw cb fh cq=>Ay h fun h7 gb h=>Bn rfl rfl cb (O0 _ _ (Ar hH cb) gb) ?_;rintro _ jx ⟨ia,ib,ic,rfl,d3,d4,d5⟩ c2 gc de;have cc:=d3.Cz hH cb c2;have cd:=d4.Cz hH cb c2
 have ce:=d5.Cz hH cb c2;refine Ag (AR rfl (fun _=>Um _ cq.one _ _ _ _ _ _)) rfl<|Kt (r:=.byte) (l:=[(99:UInt8),(111:UInt8),(119:UInt8)]) rfl (fun _=>UU _ _ _ _) rfl (leMax 3) hH gc (.c1 rfl (.c1 rfl (.c1 rfl .nil))) fun jy jz i0 gd bf ge=>Az h fun gf h=>Zw 0 rfl AbF Ac5 rfl hH gd rfl ge gf fun j0 cf bg cr=>Ay h fun h8 gg h=>Bn rfl rfl cf (O0 _ _ (Ar hH cf) gg) ?_;rintro _ j1 ⟨ie,ig,ih,rfl,d6,d7,d8⟩ c3 gh bd;have d9:=d6.Cz hH cf c3;have ea:=d7.Cz hH cf c3;have eb:=d8.Cz hH cf c3;refine Ag (AR rfl (fun _=>Um _ cr.one _ _ _ _ _ _)) rfl ?_;have cq:=cq.mono (Ab hH (de.trans (bf.trans (bg.trans bd))));have cc:=cc.mono (Ab hH (bf.trans (bg.trans bd)));have cd:=cd.mono (Ab hH (bf.trans (bg.trans bd)));have ce:=ce.mono (Ab hH (bf.trans (bg.trans bd)));have cr:=cr.mono (Ab hH bd)
 refine Bp (r:=(.pair (.vec .byte) .tree)) (l:=[([(111:UInt8),(120:UInt8)],h7),([(99:UInt8),(111:UInt8),(119:UInt8)],h8)]) rfl (fun _=>AbP _ _ _ _ _ _ _ _ _ _ _ _ _) rfl (leMax 2) hH gh (.c6 ⟨_,_,rfl,⟨_,rfl,cq⟩,(Go.E.Rp.DK ⟨_,_,rfl,rfl,⟨_,_,rfl,rfl,⟨_,_,rfl,⟨_,rfl,cc⟩,⟨_,_,rfl,⟨_,rfl,cd⟩,⟨_,rfl,ce⟩⟩⟩⟩⟩)⟩ (.c6 ⟨_,_,rfl,⟨_,rfl,cr⟩,(Go.E.Rp.DK ⟨_,_,rfl,rfl,⟨_,_,rfl,rfl,⟨_,_,rfl,⟨_,rfl,d9⟩,⟨_,_,rfl,⟨_,rfl,ea⟩,⟨_,rfl,eb⟩⟩⟩⟩⟩)⟩ .nil)) fun j2 j3 i1 cg fi gi=>Ay h fun k gj h=>Bn rfl rfl cg (RZ _ _ (Ar hH cg) (hU.mono (Aj hH)) gi gj) ?_;rintro _ j4 ⟨bt,bu,bv,rfl,ec,ed,ee⟩ c4 gk fj;have y:=ec.mono (Cm hH cg c4);have aa:=ed.mono (Cm hH cg c4);have ab:=ee.Cz hH cg c4;refine As 3 rfl<|AH NW rfl rfl gk fun j5 ef gl bw _=>AH AW rfl rfl gl fun j6 eg gm bx _=>Ah 1 rfl NW gm rfl (AU rfl (AU y.one (AU rfl (AU aa.one (AU ab.one Hj))))) fun j7 gn bz=>Ah 0 rfl AW gn rfl (Bc rfl) fun j8 cs b0=>Ac ?_;have e:=cs.rG H;refine Am<|Ag (AE 1 rfl AfE rfl NW cs rfl) rfl ?_
 refine Ag (AE 5 rfl AcF rfl AO cs rfl) rfl<|Bp (r:=.bool) (l:=[true,true]) rfl (fun _=>Sj _ _ _) rfl (leMax 2) hH cs (.c1 rfl (.c1 rfl .nil)) fun j9 ka i2 c5 fk go=>Ay h fun cm gp h=>?_;have aw:=aw.mono (Ab hH (fz.trans (f1.trans (f2.trans (ff.trans (az.trans (a2.trans (a3.trans a4))))))));have j:=j.trans (Ab hH (fg.trans (fh.trans (de.trans (bf.trans (bg.trans (bd.trans (fi.trans (fj.trans (bw.trans (bx.trans (bz.trans b0))))))))))));have y:=y.mono (Ab hH (bw.trans (bx.trans (bz.trans b0))));have aa:=aa.mono (Ab hH (bw.trans (bx.trans (bz.trans b0))));have ab:=ab.mono (Ab hH (bw.trans (bx.trans (bz.trans b0))));have e:=e.trans (Ab hH fk);refine Bn rfl rfl c5 (Kq (a0:=((k.1.1.1,k.1.1.2),(k.1.2.1.1,k.1.2.1.2),k.1.2.2)) (a1:=(Go.L.Qv.mk (10:Int) ([]) ([]:Abk) ([]) (0:Int) (0:Int) ([x1]))) _ _ (Ar hH c5) (hU.mono (Aj hH)) (y.mono e) (aa.mono e) (ab.mono e) (AI.nil _ _) (AI.nil _ _) ((aw.mono j).mono e) go gp) ?_;rintro _ kb ⟨ii,rfl,eh⟩ gq gr fl;have ch:=eh.Cz hH c5 gq;refine As 3 rfl<|AH AW rfl rfl gr fun kc ei gs df _=>As 1 rfl ?_
 refine Ah 0 rfl AW gs rfl (Bc rfl) fun kd c8 dg=>Ac<|Am<|Ag (AE 2 rfl AfE rfl NW c8 rfl) rfl<|Ag (AE 6 rfl AcF rfl AO c8 rfl) rfl<|Bp (r:=.bool) (l:=[true,false]) rfl (fun _=>Sj _ _ _) rfl (leMax 2) hH c8 (.c1 rfl (.c1 rfl .nil)) fun ke kf i3 c9 dh gt=>Ay h fun cn gu h=>?_;have e:=e.trans (Ab hH (fl.trans (df.trans (dg.trans dh))));refine Bn rfl rfl c9 (Kq (a0:=((k.1.1.1,k.1.1.2),(k.1.2.1.1,k.1.2.1.2),k.1.2.2)) (a1:=(Go.L.Qv.mk (10:Int) ([]) ([]:Abk) ([]) (0:Int) (0:Int) ([x1]))) _ _ (Ar hH c9) (hU.mono (Aj hH)) (y.mono e) (aa.mono e) (ab.mono e) (AI.nil _ _) (AI.nil _ _) ((aw.mono j).mono e) gt gu) ?_;rintro _ kg ⟨ij,rfl,ej⟩ gv gw di;have ci:=ej.Cz hH c9 gv;refine As 3 rfl<|AH AW rfl rfl gw fun kh ek gx ct _=>As 1 rfl<|Ah 0 rfl AW gx rfl (Bc rfl) fun ki el cu=>Ac<|Am<|Ag (AE 3 rfl AfE rfl NW el rfl) rfl<|Bp (r:=.bool) (l:=[false,true]) rfl (fun _=>Sj _ _ _) rfl (leMax 2) hH el (.c1 rfl (.c1 rfl .nil)) fun kj kk i4 da cv gy=>Ay h fun co g0 h=>?_
 have e:=e.trans (Ab hH (di.trans (ct.trans (cu.trans cv))));refine Bn rfl rfl da (Kn (a0:=((k.1.1.1,k.1.1.2),(k.1.2.1.1,k.1.2.1.2),k.1.2.2)) _ _ (Ar hH da) (y.mono e) (aa.mono e) (ab.mono e) gy g0) ?_;rintro _ kl ⟨ik,rfl,em⟩ g1 g2 cw;have cj:=em.mono (Cm hH da g1);refine As 3 rfl<|AH AW rfl rfl g2 fun km en g3 b1 _=>As 1 rfl<|Ah 0 rfl AW g3 rfl (Bc rfl) fun kn db b2=>Ac ?_;have g:=db.rG H;refine Am<|Ag (AE 4 rfl AfE rfl NW db rfl) rfl<|Bp (r:=.bool) (l:=[true,false]) rfl (fun _=>Sj _ _ _) rfl (leMax 2) hH db (.c1 rfl (.c1 rfl .nil)) fun ko kp i5 eo fm g4=>Ay h fun cp g5 h=>?_;have e:=e.trans (Ab hH (cw.trans (b1.trans b2)));have g:=g.trans (Ab hH fm);refine Bn rfl rfl eo (Kn (a0:=((k.1.1.1,k.1.1.2),(k.1.2.1.1,k.1.2.1.2),k.1.2.2)) _ _ (Ar hH eo) ((y.mono e).mono g) ((aa.mono e).mono g) ((ab.mono e).mono g) g4 g5) ?_;rintro _ kq ⟨il,rfl,h9⟩ i6 g6 dj;refine As 3 rfl<|AH AW rfl rfl g6 fun kr ep g7 dk _=>As 1 rfl<|Ah 0 rfl AW g7 rfl (Bc rfl) ?_
 intro ks ck dl;refine Ac<|Am<|Ay h fun ao g8 h=>Bn rfl rfl ck (Lc _ _ (Ar hH ck) (hU.mono (Aj hH)) g8) ?_;rintro _ kt ⟨b3,b5,b6,rfl,eq,er,es⟩ dc g9 dm;have ag:=eq.mono (Cm hH ck dc);have ah:=er.mono (Cm hH ck dc);have ai:=es.mono (Cm hH ck dc);refine As 3 rfl<|AH AO rfl rfl g9 fun ku et ha bh _=>AH AW rfl rfl ha fun kv eu hb bi _=>Ah 1 rfl AO hb rfl (AU rfl (AU ag.one (AU rfl (AU ah.one (AU rfl (AU rfl (AU ai.one Hj))))))) fun kw hc bj=>Ah 0 rfl AW hc rfl (Bc rfl) fun kx be bk=>Ac ?_;have d:=be.rG H;refine Am<|Ag (AE 1 rfl AcF rfl AO be rfl) rfl<|Ay h fun ap hd h=>?_;have ag:=ag.mono (Ab hH (bh.trans (bi.trans (bj.trans bk))));have ah:=ah.mono (Ab hH (bh.trans (bi.trans (bj.trans bk))));have ai:=ai.mono (Ab hH (bh.trans (bi.trans (bj.trans bk))));refine Bn rfl rfl be (Rf (a0:=ao.1) _ _ (Ar hH be) (hU.mono (Aj hH)) (ag.mono d) (ah.mono d) (ai.mono d) hd) ?_;rintro _ ky ⟨b7,b9,ca,rfl,ev,ew,ex⟩ dd he dn
 have aj:=ev.mono (Cm hH be dd);have ak:=ew.mono (Cm hH be dd);have al:=ex.mono (Cm hH be dd);refine As 3 rfl<|AH AO rfl rfl he fun kz ey hf bl _=>AH AW rfl rfl hf fun k0 ez hg bm _=>Ah 1 rfl AO hg rfl (AU rfl (AU aj.one (AU rfl (AU ak.one (AU rfl (AU rfl (AU al.one Hj))))))) fun k1 hh bn=>Ah 0 rfl AW hh rfl (Bc rfl) fun k2 cx bo=>Ac ?_;have c:=cx.rG H;refine Am<|Ag (AE 1 rfl AcF rfl AO cx rfl) rfl<|Ay h fun cl hi h=>?_;have aj:=aj.mono (Ab hH (bl.trans (bm.trans (bn.trans bo))));have ak:=ak.mono (Ab hH (bl.trans (bm.trans (bn.trans bo))));have al:=al.mono (Ab hH (bl.trans (bm.trans (bn.trans bo))));refine AA rfl rfl cx (Jz (a0:=ap.1) _ _ (Ar hH cx) (hU.mono (Aj hH)) (aj.mono c) (ak.mono c) (al.mono c) hi) fun k3 i7 hj dp=>As 3 rfl<|AH AW rfl rfl hj fun k4 e0 hk dq _=>As 1 rfl<|Ah 0 rfl AW hk rfl (Bc rfl) fun k5 ay dr=>Ac<|A7<|Am<|Ag (Ae rfl Ack rfl Cj) rfl ?_
 refine Ag (Af 13 rfl Abn rfl ay rfl) rfl<|As 2 rfl<|AP (s:=90) rfl (fun a5=>?_) (fun a5=>?_)
 ·have h:=BJ (CG a5) h
  iterate 3 refine Ai rfl a5 rfl ?_
  refine Ag (A2 rfl a5 rfl) rfl<|As 1 rfl ?_
  iterate 3 refine Ai rfl rfl rfl ?_
  refine Ag (A2 rfl rfl rfl) rfl<|As 1 rfl ?_
  iterate 3 refine Ai rfl rfl rfl ?_
  refine Ag (A2 rfl rfl rfl) rfl<|As 1 rfl ?_
  iterate 3 refine Ai rfl rfl rfl ?_
  refine Ag (A2 rfl rfl rfl) rfl<|As 1 rfl ?_
  iterate 3 refine Ai rfl rfl rfl ?_
  refine Ag (A2 rfl rfl rfl) rfl<|As 1 rfl ?_
  iterate 3 refine Ai rfl rfl rfl ?_
  refine Ag (A2 rfl rfl rfl) rfl<|As 1 rfl ?_
  iterate 3 refine Ai rfl rfl rfl ?_
  refine Ag (A2 rfl rfl rfl) rfl<|As 1 rfl ?_
  iterate 3 refine Ai rfl rfl rfl ?_
  refine Ag (A2 rfl rfl rfl) rfl<|Ac<|Cg rfl ?_
  cases h
 have h:=BI (CH a5) h;refine Aa rfl a5<|Ag (Ae rfl Ack rfl Cj) rfl<|Aa rfl a5<|Ag (Af 11 rfl Abn rfl ay rfl) rfl<|Aa rfl a5<|Ag (Ad rfl) rfl<|Ag (A9 rfl a5 rfl) rfl<|As 1 rfl<|AP (s:=95) rfl (fun a6=>?_) (fun a6=>?_)
 ·have h:=BJ (CG a6) h
  iterate 3 refine Ai rfl a6 rfl ?_
  refine Ag (A2 rfl a6 rfl) rfl<|As 1 rfl ?_
  iterate 3 refine Ai rfl rfl rfl ?_
  refine Ag (A2 rfl rfl rfl) rfl<|As 1 rfl ?_
  iterate 3 refine Ai rfl rfl rfl ?_
  refine Ag (A2 rfl rfl rfl) rfl<|As 1 rfl ?_
  iterate 3 refine Ai rfl rfl rfl ?_
  refine Ag (A2 rfl rfl rfl) rfl<|As 1 rfl ?_
  iterate 3 refine Ai rfl rfl rfl ?_
  refine Ag (A2 rfl rfl rfl) rfl<|As 1 rfl ?_
  iterate 3 refine Ai rfl rfl rfl ?_
  refine Ag (A2 rfl rfl rfl) rfl<|As 1 rfl ?_
  iterate 3 refine Ai rfl rfl rfl ?_
  refine Ag (A2 rfl rfl rfl) rfl<|Ac<|Cg rfl ?_
  cases h
 have h:=BI (CH a6) h;refine Aa rfl a6<|Ag (Ae rfl Ack rfl Cj) rfl<|Aa rfl a6<|Ag (Af 9 rfl Abn rfl ay rfl) rfl<|Aa rfl a6<|Ag (Ad rfl) rfl<|Ag (A9 rfl a6 rfl) rfl<|As 1 rfl<|AP (s:=100) rfl (fun a7=>?_) (fun a7=>?_)
 ·have h:=BJ (CG a7) h
  iterate 3 refine Ai rfl a7 rfl ?_
  refine Ag (A2 rfl a7 rfl) rfl<|As 1 rfl ?_
  iterate 3 refine Ai rfl rfl rfl ?_
  refine Ag (A2 rfl rfl rfl) rfl<|As 1 rfl ?_
  iterate 3 refine Ai rfl rfl rfl ?_
  refine Ag (A2 rfl rfl rfl) rfl<|As 1 rfl ?_
  iterate 3 refine Ai rfl rfl rfl ?_
  refine Ag (A2 rfl rfl rfl) rfl<|As 1 rfl ?_
  iterate 3 refine Ai rfl rfl rfl ?_
  refine Ag (A2 rfl rfl rfl) rfl<|As 1 rfl ?_
  iterate 3 refine Ai rfl rfl rfl ?_
  refine Ag (A2 rfl rfl rfl) rfl<|Ac<|Cg rfl ?_
  cases h
 have h:=BI (CH a7) h;refine Aa rfl a7<|Ag (Ae rfl Ack rfl Cj) rfl<|Aa rfl a7<|Ag (Af 8 rfl Abn rfl ay rfl) rfl<|Aa rfl a7<|Ag (Ad rfl) rfl<|Ag (A9 rfl a7 rfl) rfl<|As 1 rfl<|AP (s:=105) rfl (fun a8=>?_) (fun a8=>?_)
 ·have h:=BJ (CG a8) h
  iterate 3 refine Ai rfl a8 rfl ?_
  refine Ag (A2 rfl a8 rfl) rfl<|As 1 rfl ?_
  iterate 3 refine Ai rfl rfl rfl ?_
  refine Ag (A2 rfl rfl rfl) rfl<|As 1 rfl ?_
  iterate 3 refine Ai rfl rfl rfl ?_
  refine Ag (A2 rfl rfl rfl) rfl<|As 1 rfl ?_
  iterate 3 refine Ai rfl rfl rfl ?_
  refine Ag (A2 rfl rfl rfl) rfl<|As 1 rfl ?_
  iterate 3 refine Ai rfl rfl rfl ?_
  refine Ag (A2 rfl rfl rfl) rfl<|Ac<|Cg rfl ?_
  cases h
 have h:=BI (CH a8) h;refine Aa rfl a8<|Ag (Ae rfl Ack rfl Cj) rfl<|Aa rfl a8<|Ag (Af 7 rfl Abn rfl ay rfl) rfl<|Aa rfl a8<|Ag (Ad rfl) rfl<|Ag (A9 rfl a8 rfl) rfl<|As 1 rfl<|AP (s:=110) rfl (fun a9=>?_) (fun a9=>?_)
 ·have h:=BJ (CG a9) h
  iterate 3 refine Ai rfl a9 rfl ?_
  refine Ag (A2 rfl a9 rfl) rfl<|As 1 rfl ?_
  iterate 3 refine Ai rfl rfl rfl ?_
  refine Ag (A2 rfl rfl rfl) rfl<|As 1 rfl ?_
  iterate 3 refine Ai rfl rfl rfl ?_
  refine Ag (A2 rfl rfl rfl) rfl<|As 1 rfl ?_
  iterate 3 refine Ai rfl rfl rfl ?_
  refine Ag (A2 rfl rfl rfl) rfl<|Ac<|Cg rfl ?_
  cases h
 have h:=BI (CH a9) h;refine Aa rfl a9<|Ag (Ae rfl Ack rfl Cj) rfl<|Aa rfl a9<|Ag (Af 6 rfl Abn rfl ay rfl) rfl<|Aa rfl a9<|Ag (Ad rfl) rfl<|Ag (A9 rfl a9 rfl) rfl<|As 1 rfl<|AP (s:=115) rfl (fun ba=>?_) (fun ba=>?_)
 ·have h:=BJ (CG ba) h
  iterate 3 refine Ai rfl ba rfl ?_
  refine Ag (A2 rfl ba rfl) rfl<|As 1 rfl ?_
  iterate 3 refine Ai rfl rfl rfl ?_
  refine Ag (A2 rfl rfl rfl) rfl<|As 1 rfl ?_
  iterate 3 refine Ai rfl rfl rfl ?_
  refine Ag (A2 rfl rfl rfl) rfl<|Ac<|Cg rfl ?_
  cases h
 have h:=BI (CH ba) h;refine Aa rfl ba<|Ag (Ae rfl Ack rfl Cj) rfl<|Aa rfl ba<|Ag (Af 3 rfl Abn rfl ay rfl) rfl<|Aa rfl ba<|Ag (Ad rfl) rfl<|Ag (A9 rfl ba rfl) rfl<|As 1 rfl<|AP (s:=120) rfl (fun bb=>?_) (fun bb=>?_)
 ·have h:=BJ (CG bb) h
  iterate 3 refine Ai rfl bb rfl ?_
  refine Ag (A2 rfl bb rfl) rfl<|As 1 rfl ?_
  iterate 3 refine Ai rfl rfl rfl ?_
  refine Ag (A2 rfl rfl rfl) rfl<|Ac<|Cg rfl ?_
  cases h
 have h:=BI (CH bb) h;refine Aa rfl bb<|Ag (Ae rfl Ack rfl Cj) rfl<|Aa rfl bb<|Ag (Af 1 rfl Abn rfl ay rfl) rfl<|Aa rfl bb<|Ag (Ad rfl) rfl<|Ag (A9 rfl bb rfl) rfl<|As 1 rfl<|AP (s:=125) rfl (fun bc=>?_) (fun bc=>?_)
 ·have h:=BJ (CG bc) h
  iterate 3 refine Ai rfl bc rfl ?_
  refine Ag (A2 rfl bc rfl) rfl<|Ac<|Cg rfl ?_
  cases h
 have h:=BI (CH bc) h;refine Aa rfl bc<|Ag (Ae rfl Ack rfl Cj) rfl<|Aa rfl bc<|Ag (Af 0 rfl Abn rfl ay rfl) rfl<|Aa rfl bc<|Ag (Ad rfl) rfl<|Ag (A9 rfl bc rfl) rfl<|Ac<|BV rfl h (fun hl h=>?_) (fun hl h=>?_)
 ·cases h
 refine Av<|Ao ?_
 refine Bo (σ:=Bool) (fun bp=>[(0,.bool bp)]) (fun bp wr=>DF w [.box e0 [No cl.2.1,No cl.2.2] 28,.box ez [No ap.2.1,No ap.2.2] 28,.box ey [No ap.1.f.1,b7,Abj ap.1.f.2.2.1,b9,No ap.1.f.2.2.2.2.1,No ap.1.f.2.2.2.2.2.1,ca] 26,.box eu [No ao.2.1,No ao.2.2] 28,.box et [No ao.1.f.1,b3,Abj ao.1.f.2.2.1,b5,No ao.1.f.2.2.2.2.1,No ao.1.f.2.2.2.2.2.1,b6] 26,.box ep [No cp.2.1,No cp.2.2] 28,.box en [No co.2.1,No co.2.2] 28,.box ek [No cn.2.1,No cn.2.2] 28,.box ei [No cm.2.1,No cm.2.2] 28,.box eg [No k.2.1,No k.2.2] 28,.box ef [No k.1.1.1,bt,No k.1.2.1.1,bu,bv] 52,.box d1 [No an.2.1,No an.2.2] 28,.box d0 [No an.1.f.1,bq,Abj an.1.f.2.2.1,br,No an.1.f.2.2.2.2.1,No an.1.f.2.2.2.2.2.1,bs] 26,.box b8 [No x6.2.1,No x6.2.2] 28,.box b4 [No 10,Aa8,(Abj []),Aa8,No 0,No 0,v3] 26] wr fun Oz=>AI .st (gz H w wr Oz) b7 (ap.1.f.2.1)/\AI .byte (gz H w wr Oz) b9 (ap.1.f.2.2.2.1)/\AI .Bg (gz H w wr Oz) ca (ap.1.f.2.2.2.2.2.2)/\AI .st (gz H w wr Oz) b3 (ao.1.f.2.1)/\AI .byte (gz H w wr Oz) b5 (ao.1.f.2.2.2.1)/\AI .Bg (gz H w wr Oz) b6 (ao.1.f.2.2.2.2.2.2)/\AI (.pair .st (.vec AfS)) (gz H w wr Oz) bt (k.1.1.2)/\AI AfT (gz H w wr Oz) bu (k.1.2.1.2)/\AI AfR (gz H w wr Oz) bv (k.1.2.2)/\AI .st (gz H w wr Oz) bq (an.1.f.2.1)/\AI .byte (gz H w wr Oz) br (an.1.f.2.2.2.1)/\AI .Bg (gz H w wr Oz) bs (an.1.f.2.2.2.2.2.2)/\AI .Bg (gz H w wr Oz) v3 ([x1])/\Ey bp=some r) ?_ ?_
 ·refine JG (ME Mo) (fun z0 z=>Le (gz H w z0 [.box e0 [No cl.2.1,No cl.2.2] 28,.box ez [No ap.2.1,No ap.2.2] 28,.box ey [No ap.1.f.1,b7,Abj ap.1.f.2.2.1,b9,No ap.1.f.2.2.2.2.1,No ap.1.f.2.2.2.2.2.1,ca] 26,.box eu [No ao.2.1,No ao.2.2] 28,.box et [No ao.1.f.1,b3,Abj ao.1.f.2.2.1,b5,No ao.1.f.2.2.2.2.1,No ao.1.f.2.2.2.2.2.1,b6] 26,.box ep [No cp.2.1,No cp.2.2] 28,.box en [No co.2.1,No co.2.2] 28,.box ek [No cn.2.1,No cn.2.2] 28,.box ei [No cm.2.1,No cm.2.2] 28,.box eg [No k.2.1,No k.2.2] 28,.box ef [No k.1.1.1,bt,No k.1.2.1.1,bu,bv] 52,.box d1 [No an.2.1,No an.2.2] 28,.box d0 [No an.1.f.1,bq,Abj an.1.f.2.2.1,br,No an.1.f.2.2.2.2.1,No an.1.f.2.2.2.2.2.1,bs] 26,.box b8 [No x6.2.1,No x6.2.2] 28,.box b4 [No 10,Aa8,(Abj []),Aa8,No 0,No 0,v3] 26]) (hp z)/\z.heap[e0]? = some (.cells [No cl.2.1,No cl.2.2].toArray 28 (0,0))/\z.heap[ez]? = some (.cells [No ap.2.1,No ap.2.2].toArray 28 (0,0))/\z.heap[ey]? = some (.cells [No ap.1.f.1,b7,Abj ap.1.f.2.2.1,b9,No ap.1.f.2.2.2.2.1,No ap.1.f.2.2.2.2.2.1,ca].toArray 26 (0,0))/\z.heap[eu]? = some (.cells [No ao.2.1,No ao.2.2].toArray 28 (0,0))/\z.heap[et]? = some (.cells [No ao.1.f.1,b3,Abj ao.1.f.2.2.1,b5,No ao.1.f.2.2.2.2.1,No ao.1.f.2.2.2.2.2.1,b6].toArray 26 (0,0))/\z.heap[ep]? = some (.cells [No cp.2.1,No cp.2.2].toArray 28 (0,0))/\z.heap[en]? = some (.cells [No co.2.1,No co.2.2].toArray 28 (0,0))/\z.heap[ek]? = some (.cells [No cn.2.1,No cn.2.2].toArray 28 (0,0))/\z.heap[ei]? = some (.cells [No cm.2.1,No cm.2.2].toArray 28 (0,0))/\z.heap[eg]? = some (.cells [No k.2.1,No k.2.2].toArray 28 (0,0))/\z.heap[ef]? = some (.cells [No k.1.1.1,bt,No k.1.2.1.1,bu,bv].toArray 52 (0,0))/\z.heap[d1]? = some (.cells [No an.2.1,No an.2.2].toArray 28 (0,0))/\z.heap[d0]? = some (.cells [No an.1.f.1,bq,Abj an.1.f.2.2.1,br,No an.1.f.2.2.2.2.1,No an.1.f.2.2.2.2.2.1,bs].toArray 26 (0,0))/\z.heap[b8]? = some (.cells [No x6.2.1,No x6.2.2].toArray 28 (0,0))/\z.heap[b4]? = some (.cells [No 10,Aa8,(Abj []),Aa8,No 0,No 0,v3].toArray 26 (0,0))) mixed rfl (fun a i9 ds=>?_)
  have m:=ay.call ds;have cz:=AT ay ds;have b:=m.rG H;refine Mp ⟨b.trans (Ar hH m),m.at (i:=0) rfl,m.at (i:=1) rfl,m.at (i:=2) rfl,m.at (i:=3) rfl,m.at (i:=4) rfl,m.at (i:=5) rfl,m.at (i:=6) rfl,m.at (i:=7) rfl,m.at (i:=8) rfl,m.at (i:=9) rfl,m.at (i:=10) rfl,m.at (i:=11) rfl,m.at (i:=12) rfl,m.at (i:=13) rfl,m.at (i:=14) rfl⟩ fun kI149=>AB 0 a kI149 (by kernel_rfl) rfl (fun _ _=>Ad rfl) rfl<|AB 1 a kI149 (by kernel_rfl) rfl (fun _ _=>Mm rfl rfl) rfl<|AB 2 a kI149 (by kernel_rfl) rfl (fun _ _=>Ad rfl) rfl<|MW (s:=132) rfl (fun aq=>?_) (fun aq=>?_)
  ·have h:=BI (of_decide_eq_true aq) h;refine GO 3 a kI149 (by kernel_rfl) rfl rfl rfl rfl aq (fun _ hI=>MX rfl AcF rfl AO hI.2.2.2.2.2.2.2.2.2.2.2.2.2.1) rfl<|GO 4 a kI149 (by kernel_rfl) rfl rfl rfl rfl aq (fun _ hI=>MX rfl AcF rfl AO hI.2.2.2.2.2.2.2.2.2.2.2.2.2.2.2) rfl<|Ef (i:=5) (by kernel_rfl) rfl<|Aa rfl aq<|Ay h fun ja fn h=>?_;have ad:=ad.mono (Ab hH (az.trans (a2.trans (a3.trans a4))));have ae:=ae.mono (Ab hH (az.trans (a2.trans (a3.trans a4))));have af:=af.mono (Ab hH (az.trans (a2.trans (a3.trans a4))));have g:=g.trans (Ab hH (dj.trans (dk.trans (dl.trans (dm.trans (bh.trans (bi.trans (bj.trans bk))))))));have d:=d.trans (Ab hH (dn.trans (bl.trans (bm.trans (bn.trans bo)))));have c:=c.trans (Ab hH (dp.trans (dq.trans (dr.trans cz))))
   refine AA rfl rfl m (Ie (a0:=an.1) (a1:=(Go.L.Qv.mk (10:Int) ([]) ([]:Abk) ([]) (0:Int) (0:Int) ([x1]))) _ _ (Ar hH m) ((((((ad.mono j).mono e).mono g).mono d).mono c).mono b) ((((((ae.mono j).mono e).mono g).mono d).mono c).mono b) ((((((af.mono j).mono e).mono g).mono d).mono c).mono b) (AI.nil _ _) (AI.nil _ _) ((((((aw.mono j).mono e).mono g).mono d).mono c).mono b) fn) ?_;intro jb im q e1;have b:=b.trans (Ab hH e1);refine AX ⟨b.trans (Ar hH q),q.at (i:=0) rfl,q.at (i:=1) rfl,q.at (i:=2) rfl,q.at (i:=3) rfl,q.at (i:=4) rfl,q.at (i:=5) rfl,q.at (i:=6) rfl,q.at (i:=7) rfl,q.at (i:=8) rfl,q.at (i:=9) rfl,q.at (i:=10) rfl,q.at (i:=11) rfl,q.at (i:=12) rfl,q.at (i:=13) rfl,q.at (i:=14) rfl⟩ fun kI154=>AB 6 a kI154 (by kernel_rfl) rfl (fun _ _=>A2 rfl aq rfl) rfl<|AB 7 a kI154 (by kernel_rfl) rfl (fun _ _=>Ad rfl) rfl<|MW (s:=137) rfl (fun ar=>?_) (fun ar=>?_)
   ·have h:=HA ar h;refine GO 8 a kI154 (by kernel_rfl) rfl rfl rfl rfl ar (fun _ _=>Ad rfl) rfl<|Ef (i:=9) (by kernel_rfl) rfl<|Aa rfl ar<|Bp (r:=(.int .i64)) (l:=[1]) rfl (fun _=>I7 _ _) rfl (leMax 1) hH q (.c1 rfl .nil) ?_;intro jc jd io t e2 fo;have b:=b.trans (Ab hH e2);refine AX ⟨b.trans (Ar hH t),t.at (i:=0) rfl,t.at (i:=1) rfl,t.at (i:=2) rfl,t.at (i:=3) rfl,t.at (i:=4) rfl,t.at (i:=5) rfl,t.at (i:=6) rfl,t.at (i:=7) rfl,t.at (i:=8) rfl,t.at (i:=9) rfl,t.at (i:=10) rfl,t.at (i:=11) rfl,t.at (i:=12) rfl,t.at (i:=13) rfl,t.at (i:=14) rfl⟩ fun kI158=>Ef (i:=10) (by kernel_rfl) rfl<|Aa rfl ar<|Ay h fun je fp h=>?_;have ch:=ch.mono (Ab hH (df.trans (dg.trans (dh.trans (di.trans (ct.trans (cu.trans (cv.trans (cw.trans (b1.trans b2))))))))));refine AA rfl rfl t (UW _ _ (Ar hH t) ((((ch.mono g).mono d).mono c).mono b) fo fp) ?_;intro jf ip o e3;have b:=b.trans (Ab hH e3)
    refine AX ⟨b.trans (Ar hH o),o.at (i:=0) rfl,o.at (i:=1) rfl,o.at (i:=2) rfl,o.at (i:=3) rfl,o.at (i:=4) rfl,o.at (i:=5) rfl,o.at (i:=6) rfl,o.at (i:=7) rfl,o.at (i:=8) rfl,o.at (i:=9) rfl,o.at (i:=10) rfl,o.at (i:=11) rfl,o.at (i:=12) rfl,o.at (i:=13) rfl,o.at (i:=14) rfl⟩ fun kI161=>AB 11 a kI161 (by kernel_rfl) rfl (fun _ _=>A2 rfl ar rfl) rfl<|AB 12 a kI161 (by kernel_rfl) rfl (fun _ _=>Ad rfl) rfl<|MW (s:=142) rfl (fun au=>?_) (fun au=>?_)
    ·have h:=HA au h;refine GO 13 a kI161 (by kernel_rfl) rfl rfl rfl rfl au (fun _ _=>Ad rfl) rfl ?_;have ci:=ci.mono (Ab hH (ct.trans (cu.trans (cv.trans (cw.trans (b1.trans b2))))));refine GO 14 a kI161 (by kernel_rfl) rfl rfl rfl rfl au (fun _ _=>Bu rfl Abm ((((ci.mono g).mono d).mono c).mono b)) rfl<|GO 15 a kI161 (by kernel_rfl) rfl rfl rfl rfl au (fun _ _=>Ad rfl) rfl<|AB 16 a kI161 (by kernel_rfl) rfl (fun _ _=>A2 rfl au rfl) rfl<|AB 17 a kI161 (by kernel_rfl) rfl (fun _ _=>Ad rfl) rfl<|MW (s:=147) rfl (fun am=>?_) (fun am=>?_)
     ·have h:=BI (of_decide_eq_true am) h;refine GO 18 a kI161 (by kernel_rfl) rfl rfl rfl rfl am (fun _ _=>Ad rfl) rfl<|Ef (i:=19) (by kernel_rfl) rfl<|Aa rfl am<|Kt (r:=.byte) (l:=[(99:UInt8),(111:UInt8)]) rfl (fun _=>XN _ _ _) rfl (leMax 2) hH o (.c1 rfl (.c1 rfl .nil)) ?_;intro jg jh iq ac e4 fq;have b:=b.trans (Ab hH e4);refine AX ⟨b.trans (Ar hH ac),ac.at (i:=1) rfl,ac.at (i:=2) rfl,ac.at (i:=3) rfl,ac.at (i:=4) rfl,ac.at (i:=5) rfl,ac.at (i:=6) rfl,ac.at (i:=7) rfl,ac.at (i:=8) rfl,ac.at (i:=9) rfl,ac.at (i:=10) rfl,ac.at (i:=11) rfl,ac.at (i:=12) rfl,ac.at (i:=13) rfl,ac.at (i:=14) rfl,ac.at (i:=15) rfl⟩ fun kI167=>Ef (i:=20) (by kernel_rfl) rfl<|Aa rfl am<|Az h fun fr h=>Zw 0 rfl AbF Ac5 rfl hH ac rfl fq fr ?_;intro ji u e5 fs;have b:=b.trans (Ab hH e5)
      refine AX ⟨b.trans (Ar hH u),u.at (i:=0) rfl,u.at (i:=1) rfl,u.at (i:=2) rfl,u.at (i:=3) rfl,u.at (i:=4) rfl,u.at (i:=5) rfl,u.at (i:=6) rfl,u.at (i:=7) rfl,u.at (i:=8) rfl,u.at (i:=9) rfl,u.at (i:=10) rfl,u.at (i:=11) rfl,u.at (i:=12) rfl,u.at (i:=13) rfl,u.at (i:=14) rfl⟩ fun kI170=>Ef (i:=21) (by kernel_rfl) rfl<|Aa rfl am<|Ay h fun jj ft h=>?_;have cj:=cj.mono (Ab hH (b1.trans b2));refine AA rfl rfl u (Mq _ _ (Ar hH u) ((((cj.mono g).mono d).mono c).mono b) fs ft) ?_;intro jk ir p e6;have b:=b.trans (Ab hH e6);refine AX ⟨b.trans (Ar hH p),p.at (i:=0) rfl,p.at (i:=1) rfl,p.at (i:=2) rfl,p.at (i:=3) rfl,p.at (i:=4) rfl,p.at (i:=5) rfl,p.at (i:=6) rfl,p.at (i:=7) rfl,p.at (i:=8) rfl,p.at (i:=9) rfl,p.at (i:=10) rfl,p.at (i:=11) rfl,p.at (i:=12) rfl,p.at (i:=13) rfl,p.at (i:=14) rfl⟩ fun kI173=>AB 22 a kI173 (by kernel_rfl) rfl (fun _ _=>A2 rfl am rfl) rfl<|AB 23 a kI173 (by kernel_rfl) rfl (fun _ _=>Ad rfl) rfl<|MW (s:=153) rfl (fun av=>?_) (fun av=>?_)
      ·have h:=HA av h;refine GO 24 a kI173 (by kernel_rfl) rfl rfl rfl rfl av (fun _ hI=>MX rfl Ack rfl AW hI.2.2.2.2.2.2.1) rfl<|Ef (i:=25) (by kernel_rfl) rfl<|Aa rfl av<|Ay h fun jl fu h=>AA rfl rfl p (FC _ _ (Ar hH p) fu) ?_;intro jm is x e7;have b:=b.trans (Ab hH e7);refine AX ⟨b.trans (Ar hH x),x.at (i:=0) rfl,x.at (i:=1) rfl,x.at (i:=2) rfl,x.at (i:=3) rfl,x.at (i:=4) rfl,x.at (i:=5) rfl,x.at (i:=6) rfl,x.at (i:=7) rfl,x.at (i:=8) rfl,x.at (i:=9) rfl,x.at (i:=10) rfl,x.at (i:=11) rfl,x.at (i:=12) rfl,x.at (i:=13) rfl,x.at (i:=14) rfl⟩ fun kI178=>GO 26 a kI178 (by kernel_rfl) rfl rfl rfl rfl av (fun _ _=>X8 rfl rfl JF (MY _ _ _ _)) rfl<|AB 27 a kI178 (by kernel_rfl) rfl (fun _ _=>A2 rfl av rfl) rfl<|AB 28 a kI178 (by kernel_rfl) rfl (fun _ _=>Ad rfl) rfl<|MW (s:=158) rfl (fun ax=>?_) (fun ax=>?_)
       ·have h:=BI (of_decide_eq_true ax) h;refine GO 29 a kI178 (by kernel_rfl) rfl rfl rfl rfl ax (fun _ _=>Ad rfl) rfl<|GO 30 a kI178 (by kernel_rfl) rfl rfl rfl rfl ax (fun _ _=>Mm rfl rfl) rfl<|AB 31 a kI178 (by kernel_rfl) rfl (fun _ _=>A2 rfl ax rfl) rfl<|AB 32 a kI178 (by kernel_rfl) rfl (fun _ _=>Ad rfl) rfl<|DB (by kernel_rfl)<|A8 (decide (cl.1=([33,97,38,98]:Abk))) (Sub.of rfl) ⟨x,((aj.mono c).mono b),((ak.mono c).mono b),((al.mono c).mono b),(((ag.mono d).mono c).mono b),(((ah.mono d).mono c).mono b),(((ai.mono d).mono c).mono b),(((((y.mono e).mono g).mono d).mono c).mono b),(((((aa.mono e).mono g).mono d).mono c).mono b),(((((ab.mono e).mono g).mono d).mono c).mono b),((((((ad.mono j).mono e).mono g).mono d).mono c).mono b),((((((ae.mono j).mono e).mono g).mono d).mono c).mono b),((((((af.mono j).mono e).mono g).mono d).mono c).mono b),((((((aw.mono j).mono e).mono g).mono d).mono c).mono b),h⟩
       have h:=BJ (of_decide_eq_false ax) h;refine Co 29 a kI178 (by kernel_rfl) rfl rfl rfl rfl ax rfl<|Co 30 a kI178 (by kernel_rfl) rfl rfl rfl rfl ax rfl<|AB 31 a kI178 (by kernel_rfl) rfl (fun _ _=>A9 rfl ax rfl) rfl<|AB 32 a kI178 (by kernel_rfl) rfl (fun _ _=>Ad rfl) rfl<|DB (by kernel_rfl)<|A8 false (Sub.of rfl) ⟨x,((aj.mono c).mono b),((ak.mono c).mono b),((al.mono c).mono b),(((ag.mono d).mono c).mono b),(((ah.mono d).mono c).mono b),(((ai.mono d).mono c).mono b),(((((y.mono e).mono g).mono d).mono c).mono b),(((((aa.mono e).mono g).mono d).mono c).mono b),(((((ab.mono e).mono g).mono d).mono c).mono b),((((((ad.mono j).mono e).mono g).mono d).mono c).mono b),((((((ae.mono j).mono e).mono g).mono d).mono c).mono b),((((((af.mono j).mono e).mono g).mono d).mono c).mono b),((((((aw.mono j).mono e).mono g).mono d).mono c).mono b),h⟩
      have h:=HB av h;refine Co 24 a kI173 (by kernel_rfl) rfl rfl rfl rfl av rfl<|Co 25 a kI173 (by kernel_rfl) rfl rfl rfl rfl av rfl<|Co 26 a kI173 (by kernel_rfl) rfl rfl rfl rfl av rfl<|AB 27 a kI173 (by kernel_rfl) rfl (fun _ _=>A9 rfl av rfl) rfl<|AB 28 a kI173 (by kernel_rfl) rfl (fun _ _=>Ad rfl) rfl<|Co 29 a kI173 (by kernel_rfl) rfl rfl rfl rfl rfl rfl<|Co 30 a kI173 (by kernel_rfl) rfl rfl rfl rfl rfl rfl<|AB 31 a kI173 (by kernel_rfl) rfl (fun _ _=>A9 rfl rfl rfl) rfl<|AB 32 a kI173 (by kernel_rfl) rfl (fun _ _=>Ad rfl) rfl<|DB (by kernel_rfl) ?_
      refine A8 false (Sub.of rfl) ⟨p,((aj.mono c).mono b),((ak.mono c).mono b),((al.mono c).mono b),(((ag.mono d).mono c).mono b),(((ah.mono d).mono c).mono b),(((ai.mono d).mono c).mono b),(((((y.mono e).mono g).mono d).mono c).mono b),(((((aa.mono e).mono g).mono d).mono c).mono b),(((((ab.mono e).mono g).mono d).mono c).mono b),((((((ad.mono j).mono e).mono g).mono d).mono c).mono b),((((((ae.mono j).mono e).mono g).mono d).mono c).mono b),((((((af.mono j).mono e).mono g).mono d).mono c).mono b),((((((aw.mono j).mono e).mono g).mono d).mono c).mono b),h⟩
     have h:=BJ (of_decide_eq_false am) h;refine Co 18 a kI161 (by kernel_rfl) rfl rfl rfl rfl am rfl<|Co 19 a kI161 (by kernel_rfl) rfl rfl rfl rfl am rfl<|Co 20 a kI161 (by kernel_rfl) rfl rfl rfl rfl am rfl<|Co 21 a kI161 (by kernel_rfl) rfl rfl rfl rfl am rfl<|AB 22 a kI161 (by kernel_rfl) rfl (fun _ _=>A9 rfl am rfl) rfl<|AB 23 a kI161 (by kernel_rfl) rfl (fun _ _=>Ad rfl) rfl<|Co 24 a kI161 (by kernel_rfl) rfl rfl rfl rfl rfl rfl<|Co 25 a kI161 (by kernel_rfl) rfl rfl rfl rfl rfl rfl<|Co 26 a kI161 (by kernel_rfl) rfl rfl rfl rfl rfl rfl<|AB 27 a kI161 (by kernel_rfl) rfl (fun _ _=>A9 rfl rfl rfl) rfl<|AB 28 a kI161 (by kernel_rfl) rfl (fun _ _=>Ad rfl) rfl<|Co 29 a kI161 (by kernel_rfl) rfl rfl rfl rfl rfl rfl<|Co 30 a kI161 (by kernel_rfl) rfl rfl rfl rfl rfl rfl<|AB 31 a kI161 (by kernel_rfl) rfl (fun _ _=>A9 rfl rfl rfl) rfl<|AB 32 a kI161 (by kernel_rfl) rfl (fun _ _=>Ad rfl) rfl<|DB (by kernel_rfl) ?_
     refine A8 false (Sub.of rfl) ⟨o,((aj.mono c).mono b),((ak.mono c).mono b),((al.mono c).mono b),(((ag.mono d).mono c).mono b),(((ah.mono d).mono c).mono b),(((ai.mono d).mono c).mono b),(((((y.mono e).mono g).mono d).mono c).mono b),(((((aa.mono e).mono g).mono d).mono c).mono b),(((((ab.mono e).mono g).mono d).mono c).mono b),((((((ad.mono j).mono e).mono g).mono d).mono c).mono b),((((((ae.mono j).mono e).mono g).mono d).mono c).mono b),((((((af.mono j).mono e).mono g).mono d).mono c).mono b),((((((aw.mono j).mono e).mono g).mono d).mono c).mono b),h⟩
    have h:=HB au h;refine Co 13 a kI161 (by kernel_rfl) rfl rfl rfl rfl au rfl<|Co 14 a kI161 (by kernel_rfl) rfl rfl rfl rfl au rfl<|Co 15 a kI161 (by kernel_rfl) rfl rfl rfl rfl au rfl<|AB 16 a kI161 (by kernel_rfl) rfl (fun _ _=>A9 rfl au rfl) rfl<|AB 17 a kI161 (by kernel_rfl) rfl (fun _ _=>Ad rfl) rfl<|Co 18 a kI161 (by kernel_rfl) rfl rfl rfl rfl rfl rfl<|Co 19 a kI161 (by kernel_rfl) rfl rfl rfl rfl rfl rfl<|Co 20 a kI161 (by kernel_rfl) rfl rfl rfl rfl rfl rfl<|Co 21 a kI161 (by kernel_rfl) rfl rfl rfl rfl rfl rfl<|AB 22 a kI161 (by kernel_rfl) rfl (fun _ _=>A9 rfl rfl rfl) rfl<|AB 23 a kI161 (by kernel_rfl) rfl (fun _ _=>Ad rfl) rfl<|Co 24 a kI161 (by kernel_rfl) rfl rfl rfl rfl rfl rfl<|Co 25 a kI161 (by kernel_rfl) rfl rfl rfl rfl rfl rfl<|Co 26 a kI161 (by kernel_rfl) rfl rfl rfl rfl rfl rfl<|AB 27 a kI161 (by kernel_rfl) rfl (fun _ _=>A9 rfl rfl rfl) rfl<|AB 28 a kI161 (by kernel_rfl) rfl (fun _ _=>Ad rfl) rfl<|Co 29 a kI161 (by kernel_rfl) rfl rfl rfl rfl rfl rfl<|Co 30 a kI161 (by kernel_rfl) rfl rfl rfl rfl rfl rfl ?_
    refine AB 31 a kI161 (by kernel_rfl) rfl (fun _ _=>A9 rfl rfl rfl) rfl<|AB 32 a kI161 (by kernel_rfl) rfl (fun _ _=>Ad rfl) rfl<|DB (by kernel_rfl)<|A8 false (Sub.of rfl) ⟨o,((aj.mono c).mono b),((ak.mono c).mono b),((al.mono c).mono b),(((ag.mono d).mono c).mono b),(((ah.mono d).mono c).mono b),(((ai.mono d).mono c).mono b),(((((y.mono e).mono g).mono d).mono c).mono b),(((((aa.mono e).mono g).mono d).mono c).mono b),(((((ab.mono e).mono g).mono d).mono c).mono b),((((((ad.mono j).mono e).mono g).mono d).mono c).mono b),((((((ae.mono j).mono e).mono g).mono d).mono c).mono b),((((((af.mono j).mono e).mono g).mono d).mono c).mono b),((((((aw.mono j).mono e).mono g).mono d).mono c).mono b),h⟩
   have h:=HB ar h;refine Co 8 a kI154 (by kernel_rfl) rfl rfl rfl rfl ar rfl<|Co 9 a kI154 (by kernel_rfl) rfl rfl rfl rfl ar rfl<|Co 10 a kI154 (by kernel_rfl) rfl rfl rfl rfl ar rfl<|AB 11 a kI154 (by kernel_rfl) rfl (fun _ _=>A9 rfl ar rfl) rfl<|AB 12 a kI154 (by kernel_rfl) rfl (fun _ _=>Ad rfl) rfl<|Co 13 a kI154 (by kernel_rfl) rfl rfl rfl rfl rfl rfl<|Co 14 a kI154 (by kernel_rfl) rfl rfl rfl rfl rfl rfl<|Co 15 a kI154 (by kernel_rfl) rfl rfl rfl rfl rfl rfl<|AB 16 a kI154 (by kernel_rfl) rfl (fun _ _=>A9 rfl rfl rfl) rfl<|AB 17 a kI154 (by kernel_rfl) rfl (fun _ _=>Ad rfl) rfl<|Co 18 a kI154 (by kernel_rfl) rfl rfl rfl rfl rfl rfl<|Co 19 a kI154 (by kernel_rfl) rfl rfl rfl rfl rfl rfl<|Co 20 a kI154 (by kernel_rfl) rfl rfl rfl rfl rfl rfl<|Co 21 a kI154 (by kernel_rfl) rfl rfl rfl rfl rfl rfl<|AB 22 a kI154 (by kernel_rfl) rfl (fun _ _=>A9 rfl rfl rfl) rfl<|AB 23 a kI154 (by kernel_rfl) rfl (fun _ _=>Ad rfl) rfl<|Co 24 a kI154 (by kernel_rfl) rfl rfl rfl rfl rfl rfl<|Co 25 a kI154 (by kernel_rfl) rfl rfl rfl rfl rfl rfl<|Co 26 a kI154 (by kernel_rfl) rfl rfl rfl rfl rfl rfl ?_
   refine AB 27 a kI154 (by kernel_rfl) rfl (fun _ _=>A9 rfl rfl rfl) rfl<|AB 28 a kI154 (by kernel_rfl) rfl (fun _ _=>Ad rfl) rfl<|Co 29 a kI154 (by kernel_rfl) rfl rfl rfl rfl rfl rfl<|Co 30 a kI154 (by kernel_rfl) rfl rfl rfl rfl rfl rfl<|AB 31 a kI154 (by kernel_rfl) rfl (fun _ _=>A9 rfl rfl rfl) rfl<|AB 32 a kI154 (by kernel_rfl) rfl (fun _ _=>Ad rfl) rfl<|DB (by kernel_rfl)<|A8 false (Sub.of rfl) ⟨q,((aj.mono c).mono b),((ak.mono c).mono b),((al.mono c).mono b),(((ag.mono d).mono c).mono b),(((ah.mono d).mono c).mono b),(((ai.mono d).mono c).mono b),(((((y.mono e).mono g).mono d).mono c).mono b),(((((aa.mono e).mono g).mono d).mono c).mono b),(((((ab.mono e).mono g).mono d).mono c).mono b),((((((ad.mono j).mono e).mono g).mono d).mono c).mono b),((((((ae.mono j).mono e).mono g).mono d).mono c).mono b),((((((af.mono j).mono e).mono g).mono d).mono c).mono b),((((((aw.mono j).mono e).mono g).mono d).mono c).mono b),h⟩
  have h:=BJ (of_decide_eq_false aq) h;refine Co 3 a kI149 (by kernel_rfl) rfl rfl rfl rfl aq rfl<|Co 4 a kI149 (by kernel_rfl) rfl rfl rfl rfl aq rfl<|Co 5 a kI149 (by kernel_rfl) rfl rfl rfl rfl aq rfl<|AB 6 a kI149 (by kernel_rfl) rfl (fun _ _=>A9 rfl aq rfl) rfl<|AB 7 a kI149 (by kernel_rfl) rfl (fun _ _=>Ad rfl) rfl<|Co 8 a kI149 (by kernel_rfl) rfl rfl rfl rfl rfl rfl<|Co 9 a kI149 (by kernel_rfl) rfl rfl rfl rfl rfl rfl<|Co 10 a kI149 (by kernel_rfl) rfl rfl rfl rfl rfl rfl<|AB 11 a kI149 (by kernel_rfl) rfl (fun _ _=>A9 rfl rfl rfl) rfl<|AB 12 a kI149 (by kernel_rfl) rfl (fun _ _=>Ad rfl) rfl<|Co 13 a kI149 (by kernel_rfl) rfl rfl rfl rfl rfl rfl<|Co 14 a kI149 (by kernel_rfl) rfl rfl rfl rfl rfl rfl<|Co 15 a kI149 (by kernel_rfl) rfl rfl rfl rfl rfl rfl<|AB 16 a kI149 (by kernel_rfl) rfl (fun _ _=>A9 rfl rfl rfl) rfl<|AB 17 a kI149 (by kernel_rfl) rfl (fun _ _=>Ad rfl) rfl<|Co 18 a kI149 (by kernel_rfl) rfl rfl rfl rfl rfl rfl<|Co 19 a kI149 (by kernel_rfl) rfl rfl rfl rfl rfl rfl<|Co 20 a kI149 (by kernel_rfl) rfl rfl rfl rfl rfl rfl ?_
  refine Co 21 a kI149 (by kernel_rfl) rfl rfl rfl rfl rfl rfl<|AB 22 a kI149 (by kernel_rfl) rfl (fun _ _=>A9 rfl rfl rfl) rfl<|AB 23 a kI149 (by kernel_rfl) rfl (fun _ _=>Ad rfl) rfl<|Co 24 a kI149 (by kernel_rfl) rfl rfl rfl rfl rfl rfl<|Co 25 a kI149 (by kernel_rfl) rfl rfl rfl rfl rfl rfl<|Co 26 a kI149 (by kernel_rfl) rfl rfl rfl rfl rfl rfl<|AB 27 a kI149 (by kernel_rfl) rfl (fun _ _=>A9 rfl rfl rfl) rfl<|AB 28 a kI149 (by kernel_rfl) rfl (fun _ _=>Ad rfl) rfl<|Co 29 a kI149 (by kernel_rfl) rfl rfl rfl rfl rfl rfl<|Co 30 a kI149 (by kernel_rfl) rfl rfl rfl rfl rfl rfl<|AB 31 a kI149 (by kernel_rfl) rfl (fun _ _=>A9 rfl rfl rfl) rfl<|AB 32 a kI149 (by kernel_rfl) rfl (fun _ _=>Ad rfl) rfl<|DB (by kernel_rfl) ?_;have ad:=ad.mono (Ab hH (az.trans (a2.trans (a3.trans a4))));have ae:=ae.mono (Ab hH (az.trans (a2.trans (a3.trans a4))));have af:=af.mono (Ab hH (az.trans (a2.trans (a3.trans a4))));have g:=g.trans (Ab hH (dj.trans (dk.trans (dl.trans (dm.trans (bh.trans (bi.trans (bj.trans bk))))))))
  have d:=d.trans (Ab hH (dn.trans (bl.trans (bm.trans (bn.trans bo)))));have c:=c.trans (Ab hH (dp.trans (dq.trans (dr.trans cz))));refine A8 false (Sub.of rfl) ⟨m,((aj.mono c).mono b),((ak.mono c).mono b),((al.mono c).mono b),(((ag.mono d).mono c).mono b),(((ah.mono d).mono c).mono b),(((ai.mono d).mono c).mono b),(((((y.mono e).mono g).mono d).mono c).mono b),(((((aa.mono e).mono g).mono d).mono c).mono b),(((((ab.mono e).mono g).mono d).mono c).mono b),((((((ad.mono j).mono e).mono g).mono d).mono c).mono b),((((((ae.mono j).mono e).mono g).mono d).mono c).mono b),((((((af.mono j).mono e).mono g).mono d).mono c).mono b),((((((aw.mono j).mono e).mono g).mono d).mono c).mono b),h⟩
 rintro bp it ⟨fv,hq,hr,hs,ht,hu,hv,hw,hx,hy,hz,hm,hn,ho,h⟩;refine Ax ?_
 cases h
 refine Ak rfl ⟨fv.ext,rfl⟩
end Go.Proofs.YtekmbcbgknmhiaaGreatDoor
end
noncomputable section
namespace Go.L
def Ap{α:Type}(m m':Option α):Prop:=∀ r,m=some r->m'=some r
theorem apR{α:Type}(m:Option α):Ap m m:=fun _ h=>h
theorem apB{α β:Type}{m m':Option α}{f f':α->Option β}(h:Ap m m')(k:∀ x,Ap (f x) (f' x)):Ap (Option.bind m f) (Option.bind m' f'):=fun r e=>by
 obtain⟨x,a,h2⟩:=bind_some e;rw [h x a,Option.bind_some];exact k x r h2
theorem apC{α:Type}{p:Prop}[Decidable p]{m m':Option α}(h:Ap m m'):Ap (Go.L.AS p m) (Go.L.AS p m'):=fun r e=>by
 obtain⟨a,h2⟩:=EY e;rw [Al a];exact h r h2
theorem apI{α:Type}{p:Prop}[Decidable p]{a b a' b':Option α}(h:Ap a a')(k:Ap b b'):Ap (if p then a else b) (if p then a' else b'):=fun r e=>by
 by_cases hp:p
 ·rw [if_pos hp] at e ⊢;exact h r e
 ·rw [if_neg hp] at e ⊢;exact k r e
theorem apM{α β:Type}{f:α->β}{m m':Option α}(h:Ap m m'):Ap (Option.map f m) (Option.map f m'):=fun r e=>by
 cases m with
 | none=>cases e
 | some x=>rw [h x rfl];exact e
theorem apO{α β:Type}{x:Option α}{ex ex':Option β}{k k':α->Option β}(h:Ap ex ex')(hk:∀ y,Ap (k y) (k' y)):Ap (Go.L.QP x ex k) (Go.L.QP x ex' k'):=by
 cases x with
 | none=>exact h
 | some y=>exact hk y
theorem Ap.F6{σ ρ:Type}{b b':σ->Option (σ ⊕ ρ)}(h:∀ s,Ap (b s) (b' s)):∀ (n:Nat) (s:σ),Ap (F6 b n s) (F6 b' n s)
 | 0,_=>fun _ e=>by cases e
 | n+1,s=>fun r e=>by
  obtain⟨m,x,hm,a,h2⟩:=AY e;obtain rfl:n=m:=by omega
  rw [Go.L.F6,h s x a]
  cases x with
  | inl s'=>exact Ap.F6 h n s' r h2
  | inr y=>exact congrArg some h2
theorem Ap.run{σ ρ:Type}{b b':σ->Option (σ ⊕ ρ)}(h:∀ s,Ap (b s) (b' s))(n:Nat)(s:σ):Ap (Go.L.F6 b n s) (Go.L.run b' s):=fun r e=>UC (Ap.F6 h n s r e)
class Mi {α:Type} (m:Option α) where
 c:Option α
 h:Ap c m
noncomputable instance {α:Type} (x:α):Mi (some x):=⟨some x,apR _⟩
noncomputable instance {α:Type}:Mi (none:Option α):=⟨none,apR _⟩
noncomputable instance iB {α β:Type} (m:Option α) (f:α->Option β) [i:Mi m] [j:∀ x,Mi (f x)]:Mi (Option.bind m f):=⟨Option.bind i.c fun x=>(j x).c,apB i.h fun x=>(j x).h⟩
noncomputable instance iC {α:Type} (p:Prop) [Decidable p] (m:Option α) [i:Mi m]:Mi (Go.L.AS p m):=⟨Go.L.AS p i.c,apC i.h⟩
noncomputable instance iI {α:Type} (p:Prop) [Decidable p] (a b:Option α) [i:Mi a] [j:Mi b]:Mi (if p then a else b):=⟨if p then i.c else j.c,apI i.h j.h⟩
noncomputable instance {α β:Type} (f:α->β) (m:Option α) [i:Mi m]:Mi (Option.map f m):=⟨Option.map f i.c,apM i.h⟩
noncomputable instance {α β:Type} (x:Option α) (ex:Option β) (k:α->Option β) [i:Mi ex] [j:∀ y,Mi (k y)]:Mi (Go.L.QP x ex k):=⟨Go.L.QP x i.c fun y=>(j y).c,apO i.h fun y=>(j y).h⟩
noncomputable instance {σ ρ:Type} (b:σ->Option (σ ⊕ ρ)) (s:σ) [i:∀ s,Mi (b s)]:Mi (Go.L.run b s):=⟨Go.L.F6 (fun s=>(i s).c) 300 s,Ap.run (fun s=>(i s).h) 300 s⟩
end Go.L
namespace Go.L
def Za{α:Type}(le:α->α->Bool)(a:α):List α->List α
 | []=>[a]
 | b::l=>if le a b then a::b::l else b::Za le a l
def isB{α:Type}(le:α->α->Bool):List α->List α
 | []=>[]
 | a::l=>Za le a (isB le l)
section
variable {α:Type} {le:α->α->Bool}
theorem Rr(a:α):∀ l:List α,(Za le a l).Perm (a::l)
 | []=>.refl _
 | b::l=>by
  unfold Za
  split
  ·exact .refl _
  ·exact((Rr a l).cons b).trans (.swap a b l)
theorem WA:∀ l:List α,(isB le l).Perm l
 | []=>.refl _
 | a::l=>(Rr a _).trans ((WA l).cons a)
theorem RA(htr:∀ a b c,le a b=true->le b c=true->le a c=true)(hto:∀ a b,le a b=true\/le b a=true)(a:α):∀ l:List α,l.Pairwise (fun x y=>le x y=true)->(Za le a l).Pairwise fun x y=>le x y=true
 | [],_=>List.pairwise_singleton _ _
 | b::l,h=>by
  unfold Za
  split
  ·rename_i d;refine .cons (fun x hx=>?_) h
   rcases List.mem_cons.1 hx with rfl | hx
   ·exact d
   ·exact htr _ _ _ d ((List.pairwise_cons.1 h).1 x hx)
  ·rename_i d;have h2:le b a=true:=by rcases hto a b with h | h;exact absurd h d;exact h
   refine .cons (fun x hx=>?_) (RA htr hto a l (List.pairwise_cons.1 h).2)
   rcases List.mem_cons.1 ((Rr a l).mem_iff.1 hx) with rfl | hx
   ·exact h2
   ·exact(List.pairwise_cons.1 h).1 x hx
theorem T3(htr:∀ a b c,le a b=true->le b c=true->le a c=true)(hto:∀ a b,le a b=true\/le b a=true):∀ l:List α,(isB le l).Pairwise fun x y=>le x y=true
 | []=>.nil
 | a::l=>RA htr hto a _ (T3 htr hto l)
theorem U3(has:∀ a b,le a b=true->le b a=true->a=b):∀ {l m:List α},l.Perm m->l.Pairwise (fun x y=>le x y=true)->m.Pairwise (fun x y=>le x y=true)->l=m
 | [],m,hp,_,_=>hp.nil_eq
 | a::l,m,hp,hl,hm=>by
  cases m with
  | nil=>exact absurd hp.symm.nil_eq (by simp)
  | cons b m=>
   obtain⟨d,e⟩:=List.pairwise_cons.1 hl;obtain⟨f,g⟩:=List.pairwise_cons.1 hm
   have hab:a=b:=by
    rcases List.mem_cons.1 (hp.mem_iff.1 (.head _)) with c | c
    ·exact c
    ·rcases List.mem_cons.1 (hp.mem_iff.2 (.head _)) with h2 | h2
     ·exact h2.symm
     ·exact has a b (d b h2) (f a c)
   subst hab;rw [U3 has hp.cons_inv e g]
theorem V3(htr:∀ a b c,le a b=true->le b c=true->le a c=true)(hto:∀ a b,le a b=true\/le b a=true)(has:∀ a b,le a b=true->le b a=true->a=b)(l:List α):isB le l=l.mergeSort le:=
 U3 has ((WA l).trans (List.mergeSort_perm l _).symm) (T3 htr hto l) (List.pairwise_mergeSort htr (fun a b=>by simpa using hto a b) l)
end
def isS(l:List (List UInt8)):List (List UInt8):=isB (fun x y=>decide (x<=y)) l
def isI(l:List Int):List Int:=isB (fun x y=>decide (x<=y)) l
def isL(l:List Lf):List Lf:=isB (fun x y=>!(Go.Proofs.ltOf Qp) y x) l
theorem Abb(l:List Int):isI l=Go.E.O2 l:=V3 (fun a b c d h2=>by simp only [decide_eq_true_eq] at *;omega) (fun a b=>by simp only [decide_eq_true_eq];omega) (fun a b d h2=>by simp only [decide_eq_true_eq] at *;omega) l
theorem Abc(l:List (List UInt8)):isS l=Go.E.AeK l:=V3 (fun a b c d h2=>by simp only [decide_eq_true_eq] at *;exact List.le_trans d h2) (fun a b=>by simp only [decide_eq_true_eq];exact List.le_total a b) (fun a b d h2=>by simp only [decide_eq_true_eq] at *;exact List.le_antisymm d h2) l
theorem AdP(l:List Lf):isL l=Qq l:=by
 have hlt:∀ a b,(!(Go.Proofs.ltOf Qp) b a)=true↔¬ Qp b a<0:=fun a b=>by simp [Go.Proofs.ltOf]
 refine V3 (fun a b c e h2=>?_) (fun a b=>?_) (fun a b e h2=>?_) l
 ·rw [hlt] at *;intro h3;have s1:=R2.swap a b
  rcases Int.lt_trichotomy (Qp a b) 0 with d | d | d
  ·exact h2 (R2.trans c a b h3 d)
  ·rw [R2.zero a b d] at h3;exact h2 h3
  ·omega
 ·rw [hlt,hlt];have s1:=R2.swap a b;omega
 ·exact R2.parts a b (by simpa using h2) (by simpa using e)
end Go.L
namespace Go.Proofs.YtekmbcbgknmhiaaGreatDoor
open Go Go.E Go.L
def T5(l:List (Lf×List Int)):Option (List Lf):=Go.L.AS (Go.E.J3 48 l.length) (some (isL (l.map Prod.fst)))
theorem WB(l:List (Lf×List Int)):T5 l=Q3 l:=by unfold T5 Q3;rw [AdP]
noncomputable instance (l:List (Lf×List Int)):Mi (Q3 l):=⟨T5 l,by rw [WB];exact apR _⟩
end Go.Proofs.YtekmbcbgknmhiaaGreatDoor
end
noncomputable section
namespace Go.L
def Abd(a:List UInt8):List (Fin (a.length+1)):=isB (fun x y=>!(Go.Proofs.ltOf (LQ a)) y x) (PB a.length)
def Abe(a:List UInt8):List Int:=(Abd a).map fun x=>(x.val:Int)
theorem WC(a:List UInt8):Abe a=JS a:=by
 have h:Abd a=ZY a:=by
  have hlt:∀ x y,(!(Go.Proofs.ltOf (LQ a)) y x)=true↔¬ LQ a y x<0:=fun x y=>by simp [Go.Proofs.ltOf]
  refine V3 (fun x y z c h2=>?_) (fun x y=>?_) (fun x y c h2=>?_) _
  ·rw [hlt] at *;intro h3;unfold LQ at *;have s1:=LP (a.drop x.val) (a.drop y.val)
   rcases Int.lt_trichotomy (Lib.compareBytes (a.drop x.val) (a.drop y.val)) 0 with b | b | b
   ·exact h2 (Nd _ _ _ h3 b)
   ·rw [O3 _ _ b] at h3;exact h2 h3
   ·omega
  ·rw [hlt,hlt];unfold LQ;have s1:=LP (a.drop x.val) (a.drop y.val);omega
  ·exact Qr a x y (by simpa using h2) (by simpa using c)
 unfold Abe JS;rw [h]
end Go.L
namespace Go.Proofs.YtekmbcbgknmhiaaGreatDoor
open Go Go.E Go.RowKit
def OP{β:Type}(l:List (List UInt8×β)):Option (List (List UInt8)):=
 match l.map Prod.fst with
 | []=>some []
 | [a]=>if a.length<1000 then some [a] else none
 | [a,b]=>if a.length<1000/\b.length<1000/\a≠b then some (if leB a b then[a,b] else[b,a]) else none
 | _=>none
theorem TU{β:Type}(l:List (List UInt8×β)):Go.L.Ap (OP l) (LY l):=by
 intro r h;have hm:(1000:Nat)<=maxLen:=by decide
 have hl:(l.map Prod.fst).length=l.length:=List.length_map ..
 suffices key:Sl l/\some ((l.map Prod.fst).mergeSort leB)=some r by
  unfold LY;rw [Go.L.Al key.1];exact key.2
 unfold Sl;rw [<- hl];unfold OP at h;generalize l.map Prod.fst=k at *
 match k,h with
 | [],h=>
  cases h
  exact⟨⟨List.nodup_nil,fun x hx=>(by cases hx),by decide⟩,by simp⟩
 | [a],h=>
  simp only at h
  split at h
  ·rename_i ha
   cases h
   exact⟨⟨by simp,fun x hx=>(by rw [List.mem_singleton.1 hx];omega),by simp⟩,by simp⟩
  ·cases h
 | [a,b],h=>
  simp only at h
  split at h
  ·rename_i ha;obtain⟨c,h2,h3⟩:=ha
   cases h
   refine⟨⟨by simp [h3],fun x hx=>?_,by simp⟩,?_⟩
   ·rcases List.mem_cons.1 hx with rfl | hx
    ·omega
    ·rw [List.mem_singleton.1 hx];omega
   ·simp [List.mergeSort,List.merge,List.MergeSort.Internal.splitInTwo]
  ·cases h
 | _::_::_::_,h=>cases h
instance {β:Type} (l:List (List UInt8×β)):Go.L.Mi (LY l):=⟨OP l,TU l⟩
end Go.Proofs.YtekmbcbgknmhiaaGreatDoor
end
noncomputable section
namespace Go.Proofs.YtekmbcbgknmhiaaGreatDoor
open Go Go.E Go.RowKit Go.L
noncomputable section
instance (a b c d):Mi (Nj a b c d):=⟨_,apR _⟩
instance (a b):Mi (OA a b):=⟨_,apR _⟩
instance (a b):Mi (R6 a b):=⟨_,apR _⟩
instance (a):Mi (Tc a):=⟨_,apR _⟩
instance (a):Mi (YD a):=⟨_,apR _⟩
instance (a):Mi (Q0 a):=⟨_,apR _⟩
instance (a):Mi (XW a):=⟨_,apR _⟩
instance (a0):Mi (Pb a0):=by delta Pb;infer_instance
instance (a0) (a1):Mi (DT a0 a1):=by delta DT;infer_instance
instance (a0) (a1):Mi (HH a0 a1):=by delta HH;infer_instance
instance (a) (b) (c) (d) (e) (f) (g):Mi (Cp a b c d e f g):=by delta Cp;infer_instance
instance (a0) (s):Mi (Bk a0 s):=by obtain⟨b,c,d,e,f,g,h,a⟩:=s;delta Bk;dsimp only;infer_instance
instance (a0) (s):Mi (Cq a0 s):=by delta Cq;infer_instance
instance (a0) (a1_c0):Mi (BX a0 a1_c0):=by delta BX;infer_instance
instance (a0) (a1_c0):Mi (AV a0 a1_c0):=by delta AV;infer_instance
instance (a0) (d) (e) (f) (g) (a) (b) (c):Mi (Ce a0 d e f g a b c):=by delta Ce;repeat' first | (show Mi _;infer_instance) | refine @iB _ _ _ _ ?_ (fun _=>?_) | refine @iC _ _ _ _ ?_ | refine @iI _ _ _ _ _ ?_ ?_
instance (a0):Mi (HQ a0):=by delta HQ;repeat' first | (show Mi _;infer_instance) | refine @iB _ _ _ _ ?_ (fun _=>?_) | refine @iC _ _ _ _ ?_ | refine @iI _ _ _ _ _ ?_ ?_
instance (a0) (a1):Mi (KP a0 a1):=by delta KP;infer_instance
instance (a0):Mi (IN a0):=by delta IN;repeat' first | (show Mi _;infer_instance) | refine @iB _ _ _ _ ?_ (fun _=>?_) | refine @iC _ _ _ _ ?_ | refine @iI _ _ _ _ _ ?_ ?_
instance (b) (c) (d) (a):Mi (F8 b c d a):=by delta F8;infer_instance
instance (a1) (b) (a) (s):Mi (Ct a1 b a s):=by obtain⟨d,c⟩:=s;delta Ct;dsimp only;infer_instance
instance (a1) (b) (a) (s):Mi (Ky a1 b a s):=by delta Ky;infer_instance
instance (a1) (s):Mi (Cu a1 s):=by obtain⟨b,a⟩:=s;delta Cu;dsimp only;infer_instance
instance (a1) (s):Mi (Kz a1 s):=by delta Kz;infer_instance
instance (a0) (a1):Mi (Ji a0 a1):=by delta Ji;infer_instance
instance (l):Mi (Nl l):=by delta Nl;infer_instance
instance (a0):Mi (IP a0):=by delta IP;infer_instance
instance (a0):Mi (Iy a0):=by delta Iy;infer_instance
instance (a0) (a1):Mi (IF a0 a1):=by delta IF;infer_instance
instance (a0) (a1):Mi (strings_Split a0 a1):=by delta strings_Split;infer_instance
instance (a0):Mi (IG a0):=by delta IG;infer_instance
instance (a0):Mi (J7 a0):=by delta J7;infer_instance
instance:Mi (Jr):=by delta Jr;infer_instance
instance (b) (s):Mi (Db b s):=by obtain⟨c,a⟩:=s;delta Db;dsimp only;repeat' first | (show Mi _;infer_instance) | refine @iB _ _ _ _ ?_ (fun _=>?_) | refine @iC _ _ _ _ ?_ | refine @iI _ _ _ _ _ ?_ ?_
instance (a) (s):Mi (KZ a s):=by delta KZ;infer_instance
instance (a0):Mi (IH a0):=by delta IH;infer_instance
instance (a0) (a):Mi (DY a0 a):=by delta DY;infer_instance
instance (a0):Mi (DZ a0):=by delta DZ;infer_instance
instance (a0) (s):Mi (CS a0 s):=by delta CS;infer_instance
instance (a0) (s):Mi (GK a0 s):=by delta GK;infer_instance
instance (a0):Mi (F9 a0):=by delta F9;infer_instance
instance (a):Mi (Gy a):=by delta Gy;infer_instance
instance (a0) (a2) (self) [∀ c d e,Mi (self c d e)] (s):Mi (Dq a0 a2 self s):=by obtain⟨b,a⟩:=s;delta Dq;dsimp only;infer_instance
instance (a0) (a2) (self) [∀ a b c,Mi (self a b c)] (s):Mi (Iz a0 a2 self s):=by delta Iz;infer_instance
instance (self) [∀ a b c,Mi (self a b c)] (a0) (a1) (a2):Mi (DU self a0 a1 a2):=by delta DU;infer_instance
instance Rs:∀ (n:Nat) (y0) (y1) (y2),Mi (DV n y0 y1 y2)
 | 0,_,_,_=>⟨none,fun _ h=>by cases h⟩
 | n+1,y0,y1,y2=>by
  haveI:=Rs n
  show Mi (DU (DV n) y0 y1 y2)
  infer_instance
instance (y0) (y1) (y2):Mi (Kj y0 y1 y2):=by delta Kj;infer_instance
instance (a):Mi (Hd a):=by delta Hd;infer_instance
instance (a0) (s):Mi (Dk a0 s):=by obtain⟨b,a⟩:=s;delta Dk;dsimp only;repeat' first | (show Mi _;infer_instance) | refine @iB _ _ _ _ ?_ (fun _=>?_) | refine @iC _ _ _ _ ?_ | refine @iI _ _ _ _ _ ?_ ?_
instance (a0) (s):Mi (IS a0 s):=by delta IS;infer_instance
instance (a0):Mi (G8 a0):=by delta G8;infer_instance
instance (_self1) (self2) [∀ a b c,Mi (self2 a b c)] (a0):Mi (Em _self1 self2 a0):=by delta Em;repeat' first | (show Mi _;infer_instance) | refine @iB _ _ _ _ ?_ (fun _=>?_) | refine @iC _ _ _ _ ?_ | refine @iI _ _ _ _ _ ?_ ?_
instance:Mi (D2):=by delta D2;infer_instance
instance (a0) (a1) (s):Mi (BY a0 a1 s):=by delta BY;infer_instance
instance (a0) (a1) (s):Mi (EE a0 a1 s):=by delta EE;infer_instance
instance (a0) (a1):Mi (E3 a0 a1):=by delta E3;infer_instance
instance (a0) (a1):Mi (C2 a0 a1):=by delta C2;infer_instance
instance (c) (a) (b):Mi (D3 c a b):=by delta D3;infer_instance
instance (a1) (a):Mi (E9 a1 a):=by delta E9;infer_instance
instance (a0) (a1) (a2) (self1) [∀ b,Mi (self1 b)] (s):Mi (Cw a0 a1 a2 self1 s):=by obtain⟨c,a⟩:=s;delta Cw;dsimp only;infer_instance
instance (a0) (a1) (a2) (self1) [∀ a,Mi (self1 a)] (s):Mi (G1 a0 a1 a2 self1 s):=by delta G1;infer_instance
instance (self1) [∀ a,Mi (self1 a)] (_self2) (a0) (a1) (a2):Mi (DW self1 _self2 a0 a1 a2):=by delta DW;infer_instance
def G4:(n:Nat)->(∀ a,Mi ((BG n).1 a))×(∀ y0 y1 y2,Mi ((BG n).2 y0 y1 y2))
 | 0=>(fun _=>⟨none,fun _ h=>(by cases h)⟩,fun _ _ _=>⟨none,fun _ h=>(by cases h)⟩)
 | n+1=>(fun a=>by
  haveI:=(G4 n).1
  haveI:=(G4 n).2
  show Mi (Em ((BG n).1) ((BG n).2) a)
  infer_instance,fun y0 y1 y2=>by
  haveI:=(G4 n).1
  haveI:=(G4 n).2
  show Mi (DW ((BG n).1) ((BG n).2) y0 y1 y2)
  infer_instance)
instance (y0):Mi (M7 y0):=(G4 1000).1 y0
instance (a0):Mi (Ev a0):=by delta Ev;infer_instance
instance (a0) (a1):Mi (BL a0 a1):=by delta BL;infer_instance
instance (a0) (a1):Mi (BM a0 a1):=by delta BM;infer_instance
instance (a0) (a1):Mi (DQ a0 a1):=by delta DQ;infer_instance
instance (a0) (a1):Mi (Bl a0 a1):=by delta Bl;infer_instance
instance (a1) (y8) (a) (b) (c):Mi (CT a1 y8 a b c):=by delta CT;infer_instance
instance (a1) (a2) (self) [∀ a,Mi (self a)] (y8) (s):Mi (BK a1 a2 self y8 s):=by obtain⟨b,c,d⟩:=s;delta BK;dsimp only;infer_instance
instance (a1) (a2) (self) [∀ a,Mi (self a)] (y8) (s):Mi (Ci a1 a2 self y8 s):=by delta Ci;infer_instance
instance (self) [∀ a,Mi (self a)] (a0) (a1) (a2):Mi (C3 self a0 a1 a2):=by delta C3;infer_instance
instance (self) [∀ a,Mi (self a)] (a0_0):Mi (Cx self a0_0):=by delta Cx;infer_instance
instance (a1) (y8) (a) (b) (c):Mi (EP a1 y8 a b c):=by delta EP;infer_instance
instance (a1) (a2) (self) [∀ a,Mi (self a)] (y8) (s):Mi (Ew a1 a2 self y8 s):=by obtain⟨b,c,d⟩:=s;delta Ew;dsimp only;infer_instance
instance (a1) (a2) (self) [∀ a,Mi (self a)] (y8) (s):Mi (Hf a1 a2 self y8 s):=by delta Hf;infer_instance
instance (self) [∀ a,Mi (self a)] (a0) (a1) (a2):Mi (EA self a0 a1 a2):=by delta EA;infer_instance
instance (self) [∀ a,Mi (self a)] (a0):Mi (CF self a0):=by delta CF;infer_instance
instance (a0) (a1):Mi (B7 a0 a1):=by delta B7;infer_instance
instance:Mi (Gs):=by delta Gs;infer_instance
instance (a0) (s):Mi (B8 a0 s):=by delta B8;infer_instance
instance (a0) (s):Mi (C7 a0 s):=by delta C7;infer_instance
instance (a0):Mi (BA a0):=by delta BA;infer_instance
instance (a1) (a):Mi (Gt a1 a):=by delta Gt;infer_instance
instance (a0) (a1) (a) (s):Mi (FW a0 a1 a s):=by delta FW;repeat' first | (show Mi _;infer_instance) | refine @iB _ _ _ _ ?_ (fun _=>?_) | refine @iC _ _ _ _ ?_ | refine @iI _ _ _ _ _ ?_ ?_
instance (a0) (a1) (a) (s):Mi (It a0 a1 a s):=by delta It;infer_instance
instance (a0) (a1) (a):Mi (E7 a0 a1 a):=by delta E7;infer_instance
instance:Mi (Gu):=by delta Gu;infer_instance
instance (a0) (a1) (s):Mi (Dn a0 a1 s):=by delta Dn;repeat' first | (show Mi _;infer_instance) | refine @iB _ _ _ _ ?_ (fun _=>?_) | refine @iC _ _ _ _ ?_ | refine @iI _ _ _ _ _ ?_ ?_
instance (a0) (a1) (s):Mi (Iu a0 a1 s):=by delta Iu;infer_instance
instance (a0) (a1):Mi (BT a0 a1):=by delta BT;infer_instance
instance (a0) (a):Mi (Fa a0 a):=by delta Fa;infer_instance
instance:Mi (Fb):=by delta Fb;infer_instance
instance (a0) (a1) (s):Mi (BZ a0 a1 s):=by delta BZ;infer_instance
instance (a0) (a1) (s):Mi (Fc a0 a1 s):=by delta Fc;infer_instance
instance (a0) (a1):Mi (Fe a0 a1):=by delta Fe;infer_instance
instance (a0) (a1):Mi (strings_IndexAny a0 a1):=by delta strings_IndexAny;infer_instance
instance (s) (c):Mi (NH s c):=by delta NH;infer_instance
instance (a0) (a):Mi (Dd a0 a):=by delta Dd;infer_instance
instance (a0) (a1):Mi (Cn a0 a1):=by delta Cn;infer_instance
instance (b) (c) (d) (a):Mi (C4 b c d a):=by delta C4;infer_instance
instance (a) (b) (c) (d):Mi (D4 a b c d):=by delta D4;infer_instance
instance (a) (b):Mi (D5 a b):=by delta D5;infer_instance
instance (a) (b):Mi (CK a b):=by delta CK;infer_instance
instance (a) (b) (c):Mi (ES a b c):=by delta ES;infer_instance
instance (s):Mi (Ca s):=by obtain⟨a,b,c⟩:=s;delta Ca;dsimp only;infer_instance
instance (s):Mi (D6 s):=by delta D6;infer_instance
instance (a0):Mi (D7 a0):=by delta D7;infer_instance
instance (a0) (a) (b):Mi (D8 a0 a b):=by delta D8;infer_instance
instance (a0) (a):Mi (BE a0 a):=by delta BE;infer_instance
instance (a0) (s):Mi (B9 a0 s):=by delta B9;repeat' first | (show Mi _;infer_instance) | refine @iB _ _ _ _ ?_ (fun _=>?_) | refine @iC _ _ _ _ ?_ | refine @iI _ _ _ _ _ ?_ ?_
instance (a0) (s):Mi (C5 a0 s):=by delta C5;infer_instance
instance (a0):Mi (Cc a0):=by delta Cc;infer_instance
instance (a0):Mi (En a0):=by delta En;repeat' first | (show Mi _;infer_instance) | refine @iB _ _ _ _ ?_ (fun _=>?_) | refine @iC _ _ _ _ ?_ | refine @iI _ _ _ _ _ ?_ ?_
instance (self) [∀ a,Mi (self a)] (a0):Mi (CA self a0):=by delta CA;repeat' first | (show Mi _;infer_instance) | refine @iB _ _ _ _ ?_ (fun _=>?_) | refine @iC _ _ _ _ ?_ | refine @iI _ _ _ _ _ ?_ ?_
instance Og:∀ (n:Nat) (y0),Mi (Cy n y0)
 | 0,_=>⟨none,fun _ h=>by cases h⟩
 | n+1,y0=>by
  haveI:=Og n
  show Mi (CA (Cy n) y0)
  infer_instance
instance (y0):Mi (G2 y0):=by delta G2;infer_instance
instance (_a0) (_a1):Mi (H8 _a0 _a1):=by delta H8;infer_instance
instance (_a0) (_a1):Mi (Ga _a0 _a1):=by delta Ga;infer_instance
instance (a0) (a1):Mi (Ik a0 a1):=by delta Ik;infer_instance
instance (y22):Mi (J0 y22):=by delta J0;infer_instance
instance (a0):Mi (Ex a0):=by delta Ex;repeat' first | (show Mi _;infer_instance) | refine @iB _ _ _ _ ?_ (fun _=>?_) | refine @iC _ _ _ _ ?_ | refine @iI _ _ _ _ _ ?_ ?_
instance (a0):Mi (KM a0):=by delta KM;infer_instance
def Eo(a0:List UInt8)(a:List Int):Option ((List Int)):=
 Go.L.AS (a=Go.L.iota a0.length/\a0.length<4611686018427387904) (some ((Go.L.Abe a0)))
theorem Pz:@Eo = @HE:=by
 unfold Eo HE;simp only [Abc,Abb,WC]
instance (a0) (a):Mi (Eo a0 a):=by delta Eo;infer_instance
instance (a0) (a):Mi (HE a0 a):=⟨(inferInstance:Mi (Eo a0 a)).c,by rw [<- Pz];exact(inferInstance:Mi (Eo a0 a)).h⟩
instance (a0) (s):Mi (IB a0 s):=by obtain⟨b,a⟩:=s;delta IB;dsimp only;infer_instance
instance (a0) (s):Mi (KV a0 s):=by delta KV;infer_instance
instance (a0):Mi (Lu a0):=by delta Lu;infer_instance
instance (a0):Mi (Lv a0):=by delta Lv;infer_instance
instance (a1):Mi (Fs a1):=by delta Fs;infer_instance
instance (_a0) (a1):Mi (GC _a0 a1):=by delta GC;infer_instance
instance (a):Mi (Er a):=by delta Er;infer_instance
instance (a0) (s):Mi (Ed a0 s):=by obtain⟨b,a⟩:=s;delta Ed;dsimp only;infer_instance
instance (a0) (s):Mi (G6 a0 s):=by delta G6;infer_instance
instance (a0) (a):Mi (Es a0 a):=by delta Es;infer_instance
instance (a0) (s):Mi (Ee a0 s):=by obtain⟨b,a⟩:=s;delta Ee;dsimp only;infer_instance
instance (a0) (s):Mi (G7 a0 s):=by delta G7;infer_instance
instance (a0):Mi (FV a0):=by delta FV;infer_instance
instance (a) (c) (b):Mi (Fl a c b):=by delta Fl;infer_instance
instance (a0) (a) (s):Mi (EG a0 a s):=by obtain⟨d,c,b⟩:=s;delta EG;dsimp only;infer_instance
instance (a0) (a) (s):Mi (Hq a0 a s):=by delta Hq;infer_instance
instance (c) (d) (a) (e) (b):Mi (Fm c d a e b):=by delta Fm;infer_instance
instance (a0) (d) (b) (c) (a):Mi (Fo a0 d b c a):=by delta Fo;infer_instance
instance (a0) (d) (a) (s):Mi (EH a0 d a s):=by obtain⟨e,b,c⟩:=s;delta EH;dsimp only;infer_instance
instance (a0) (b) (a) (s):Mi (Hr a0 b a s):=by delta Hr;infer_instance
instance (a0) (b) (c) (a):Mi (Fp a0 b c a):=by delta Fp;infer_instance
instance (a0) (b) (c) (s):Mi (EI a0 b c s):=by obtain⟨e,d,a⟩:=s;delta EI;dsimp only;infer_instance
instance (a0) (a) (b) (s):Mi (Hs a0 a b s):=by delta Hs;infer_instance
instance (a0) (a) (b) (c):Mi (Fq a0 a b c):=by delta Fq;infer_instance
instance (a0):Mi (GB a0):=by delta GB;repeat' first | (show Mi _;infer_instance) | refine @iB _ _ _ _ ?_ (fun _=>?_) | refine @iC _ _ _ _ ?_ | refine @iI _ _ _ _ _ ?_ ?_
instance (a):Mi (IC a):=by delta IC;infer_instance
instance (a0) (a) (s):Mi (Ia a0 a s):=by obtain⟨c,b⟩:=s;delta Ia;dsimp only;repeat' first | (show Mi _;infer_instance) | refine @iB _ _ _ _ ?_ (fun _=>?_) | refine @iC _ _ _ _ ?_ | refine @iI _ _ _ _ _ ?_ ?_
instance (a0) (a) (s):Mi (Kw a0 a s):=by delta Kw;infer_instance
instance (a0):Mi (K9 a0):=by delta K9;infer_instance
instance (a0) (a1):Mi (C6 a0 a1):=by delta C6;infer_instance
instance (a0):Mi (Ii a0):=by delta Ii;infer_instance
instance:Mi (GG):=by delta GG;infer_instance
instance (a0) (s):Mi (Gv a0 s):=by delta Gv;infer_instance
instance (a0) (s):Mi (IZ a0 s):=by delta IZ;infer_instance
instance (a0):Mi (II a0):=by delta II;infer_instance
instance (a0):Mi (IJ a0):=by delta IJ;infer_instance
instance:Mi (H0):=by delta H0;infer_instance
instance (a) (s):Mi (GH a s):=by delta GH;infer_instance
instance (a) (s):Mi (JA a s):=by delta JA;infer_instance
instance (_c83) (_c84) (_c85) (b) (c) (a):Mi (Ch _c83 _c84 _c85 b c a):=by delta Ch;infer_instance
instance (b) (c) (d) (e) (f) (a):Mi (FI b c d e f a):=by delta FI;repeat' first | (show Mi _;infer_instance) | refine @iB _ _ _ _ ?_ (fun _=>?_) | refine @iC _ _ _ _ ?_ | refine @iI _ _ _ _ _ ?_ ?_
instance (b) (c) (d) (e) (f) (a):Mi (FJ b c d e f a):=by delta FJ;infer_instance
instance (f) (b) (c) (d) (e) (a):Mi (FK f b c d e a):=by delta FK;infer_instance
instance (a0):Mi (Js a0):=by delta Js;infer_instance
instance (a1):Mi (GI a1):=by delta GI;infer_instance
instance (a0) (a1) (s):Mi (Gw a0 a1 s):=by delta Gw;infer_instance
instance (a0) (a1) (s):Mi (Ja a0 a1 s):=by delta Ja;infer_instance
instance (_self) (a0) (a1) (a2):Mi (GX _self a0 a1 a2):=by delta GX;infer_instance
instance Sa:∀ (n:Nat) (y0) (y1) (y2),Mi (HO n y0 y1 y2)
 | 0,_,_,_=>⟨none,fun _ h=>by cases h⟩
 | n+1,y0,y1,y2=>by
  haveI:=Sa n
  show Mi (GX (HO n) y0 y1 y2)
  infer_instance
instance (y0) (y1) (y2):Mi (My y0 y1 y2):=by delta My;infer_instance
instance (a0):Mi (Kc a0):=by delta Kc;infer_instance
instance (a0) (s):Mi (Jt a0 s):=by delta Jt;infer_instance
instance (a0) (s):Mi (LV a0 s):=by delta LV;infer_instance
instance (a0):Mi (Eb a0):=by delta Eb;infer_instance
instance (_self) (a0):Mi (Gx _self a0):=by delta Gx;infer_instance
instance Rt:∀ (n:Nat) (y0),Mi (GY n y0)
 | 0,_=>⟨none,fun _ h=>by cases h⟩
 | n+1,y0=>by
  haveI:=Rt n
  show Mi (Gx (GY n) y0)
  infer_instance
instance (y0):Mi (Ly y0):=by delta Ly;infer_instance
instance (a0):Mi (Lz a0):=by delta Lz;infer_instance
instance (a0):Mi (Iw a0):=by delta Iw;infer_instance
instance (a) (b) (c) (d):Mi (J1 a b c d):=by delta J1;infer_instance
instance (a0):Mi (M4 a0):=by delta M4;infer_instance
instance (a) (b):Mi (Kh a b):=by delta Kh;infer_instance
instance (a) (b) (s):Mi (Jx a b s):=by obtain⟨d,c⟩:=s;delta Jx;dsimp only;infer_instance
instance (a) (b) (s):Mi (Ma a b s):=by delta Ma;infer_instance
instance (a) (b):Mi (FE a b):=by delta FE;repeat' first | (show Mi _;infer_instance) | refine @iB _ _ _ _ ?_ (fun _=>?_) | refine @iC _ _ _ _ ?_ | refine @iI _ _ _ _ _ ?_ ?_
instance (a) (b):Mi (FF a b):=by delta FF;infer_instance
instance (a) (b):Mi (FG a b):=by delta FG;infer_instance
instance (a0):Mi (Jn a0):=by delta Jn;infer_instance
instance (a0):Mi (K8 a0):=by delta K8;infer_instance
instance (a0):Mi (JT a0):=by delta JT;infer_instance
instance (a0) (a1):Mi (CW a0 a1):=by delta CW;infer_instance
instance (a) (b):Mi (Fv a b):=by delta Fv;infer_instance
instance (a0) (a) (s):Mi (EM a0 a s):=by obtain⟨c,d,e,b⟩:=s;delta EM;dsimp only;repeat' first | (show Mi _;infer_instance) | refine @iB _ _ _ _ ?_ (fun _=>?_) | refine @iC _ _ _ _ ?_ | refine @iI _ _ _ _ _ ?_ ?_
instance (a0) (a) (s):Mi (H5 a0 a s):=by delta H5;infer_instance
instance (a0) (a) (b):Mi (Fw a0 a b):=by delta Fw;infer_instance
instance (a0) (a) (s):Mi (EN a0 a s):=by obtain⟨c,b⟩:=s;delta EN;dsimp only;infer_instance
instance (a0) (a) (s):Mi (H6 a0 a s):=by delta H6;infer_instance
instance (a0) (s):Mi (EO a0 s):=by obtain⟨b,a⟩:=s;delta EO;dsimp only;infer_instance
instance (a0) (s):Mi (H7 a0 s):=by delta H7;infer_instance
instance (a0) (a1_c0):Mi (GJ a0 a1_c0):=by delta GJ;infer_instance
instance (a0) (a):Mi (Kg a0 a):=by delta Kg;infer_instance
instance (a0) (a1) (a) (s):Mi (Jw a0 a1 a s):=by obtain⟨c,b⟩:=s;delta Jw;dsimp only;infer_instance
instance (a0) (a1) (a) (s):Mi (LZ a0 a1 a s):=by delta LZ;infer_instance
instance (a0) (a1):Mi (M5 a0 a1):=by delta M5;infer_instance
instance (a0) (a):Mi (Ki a0 a):=by delta Ki;infer_instance
instance (a0) (s):Mi (Jy a0 s):=by obtain⟨b,a⟩:=s;delta Jy;dsimp only;infer_instance
instance (a0) (s):Mi (Mb a0 s):=by delta Mb;infer_instance
instance (a0):Mi (M6 a0):=by delta M6;infer_instance
noncomputable instance {σ:Type} (a0:Go.L.Pv) (s:Int×σ):Mi (Fu a0 s):=by obtain⟨a,sJ20⟩:=s;delta Fu;dsimp only;infer_instance
noncomputable instance {σ:Type} (a0:Go.L.Pv) (s:Int×σ):Mi (HT a0 s):=by delta HT;infer_instance
noncomputable instance {σ:Type} (step:σ->((List UInt8)×Int×Int×(List UInt8))->Option σ) [∀ a b,Mi (step a b)] (_self:Go.L.Pv->(List (List UInt8))->σ->Option σ) (a0:Go.L.Pv) (a1:List (List UInt8)) (s:σ):Mi (FL step _self a0 a1 s):=by delta FL;infer_instance
instance QC {σ:Type} (step:σ->((List UInt8)×Int×Int×(List UInt8))->Option σ) [∀ a b,Mi (step a b)]:∀ (n:Nat) (y0) (y1) (y2),Mi (Gh step n y0 y1 y2)
 | 0,_,_,_=>⟨none,fun _ h=>by cases h⟩
 | n+1,y0,y1,y2=>by
  haveI:=QC step n
  show Mi (FL step (Gh step n) y0 y1 y2)
  infer_instance
noncomputable instance {σ:Type} (step:σ->((List UInt8)×Int×Int×(List UInt8))->Option σ) [∀ a b,Mi (step a b)] (y0) (y1) (y2):Mi (Jh step y0 y1 y2):=by delta Jh;infer_instance
instance (i) (l) (x):Mi (L6 i l x):=by delta L6;infer_instance
instance (a0):Mi (E4 a0):=by delta E4;infer_instance
instance (a0):Mi (LW a0):=by delta LW;infer_instance
instance (a):Mi (IK a):=by delta IK;infer_instance
instance (a0) (s):Mi (Ij a0 s):=by obtain⟨b,a⟩:=s;delta Ij;dsimp only;infer_instance
instance (a0) (s):Mi (Kx a0 s):=by delta Kx;infer_instance
instance (a0):Mi (KB a0):=by delta KB;infer_instance
instance (a1):Mi (Et a1):=by delta Et;infer_instance
instance (_a0) (a1):Mi (FX _a0 a1):=by delta FX;infer_instance
instance (a):Mi (DR a):=by delta DR;infer_instance
instance (a0) (s):Mi (D9 a0 s):=by obtain⟨b,a⟩:=s;delta D9;dsimp only;infer_instance
instance (a0) (s):Mi (FM a0 s):=by delta FM;infer_instance
instance (a0) (a):Mi (DS a0 a):=by delta DS;infer_instance
instance (a0) (s):Mi (DA a0 s):=by obtain⟨b,a⟩:=s;delta DA;dsimp only;infer_instance
instance (a0) (s):Mi (FN a0 s):=by delta FN;infer_instance
instance (a0):Mi (EL a0):=by delta EL;infer_instance
instance (a):Mi (Ke a):=by delta Ke;infer_instance
instance (a0):Mi (M1 a0):=by delta M1;infer_instance
instance (a):Mi (Kf a):=by delta Kf;infer_instance
instance (a0) (s):Mi (Ju a0 s):=by obtain⟨b,a⟩:=s;delta Ju;dsimp only;infer_instance
instance (a0) (s):Mi (LX a0 s):=by delta LX;infer_instance
instance (a0):Mi (M3 a0):=by delta M3;infer_instance
instance (a0):Mi (H4 a0):=by delta H4;infer_instance
instance (a0) (a):Mi (HG a0 a):=by delta HG;infer_instance
def Ea(a0:Int)(a1:List (((List UInt8)×Int×Int×(List UInt8))×(List Int)))(b:(List ((List UInt8)×Int×Int×(List UInt8)))):(List (((List UInt8)×Int×Int×(List UInt8))×(List Int)))×Int->Option (((List (((List UInt8)×Int×Int×(List UInt8))×(List Int)))×Int) ⊕ ((Int×(List (((List UInt8)×Int×Int×(List UInt8))×(List Int))))×(Int×Int))):=fun⟨d,a⟩=>
 if a<(b.length:Int) then Go.L.AS (0<=a/\a<(b.length:Int)) (Option.bind (E4 (Go.L.Im [] ((b.getD a.toNat default).1,(b.getD a.toNat default).2.1,(b.getD a.toNat default).2.2.1,(b.getD a.toNat default).2.2.2) a1)) (fun c=>Go.L.AS (c.length<4611686018427387904) (Go.L.AS ((isI c).length<=9223372036854775807) (Go.L.AS (Go.E.J3 72 (d.length+([(((b.getD a.toNat default).1,(b.getD a.toNat default).2.1,(b.getD a.toNat default).2.2.1,(b.getD a.toNat default).2.2.2),(Lib.compact (isI c)))]).length)) (Go.L.AS (Go.L.B0 (a+(1:Int))) (some (Sum.inl ((d++[(((b.getD a.toNat default).1,(b.getD a.toNat default).2.1,(b.getD a.toNat default).2.2.1,(b.getD a.toNat default).2.2.2),(Lib.compact (isI c)))]),(a+(1:Int)))))))))) else Option.map Sum.inr ((HG a0) d)
theorem OQ:@Ea = @Hc:=by
 unfold Ea Hc;simp only [Abc,Abb,WC]
instance (a0) (a1) (b) (s):Mi (Ea a0 a1 b s):=by obtain⟨c,a⟩:=s;delta Ea;dsimp only;infer_instance
instance (a0) (a1) (a) (s):Mi (Hc a0 a1 a s):=⟨(inferInstance:Mi (Ea a0 a1 a s)).c,by rw [<- OQ];exact(inferInstance:Mi (Ea a0 a1 a s)).h⟩
instance (a0) (a1) (a) (s):Mi (La a0 a1 a s):=by delta La;infer_instance
instance (a0) (a1):Mi (L2 a0 a1):=by delta L2;infer_instance
instance (a0) (a):Mi (Jv a0 a):=by delta Jv;infer_instance
instance (a0) (s):Mi (IL a0 s):=by obtain⟨b,a⟩:=s;delta IL;dsimp only;infer_instance
instance (a0) (s):Mi (Lb a0 s):=by delta Lb;infer_instance
instance (a0):Mi (L3 a0):=by delta L3;infer_instance
instance (a) (b) (c) (d) (e) (f) (g):Mi (HJ a b c d e f g):=by delta HJ;infer_instance
instance (a) (b) (c):Mi (J2 a b c):=by delta J2;infer_instance
instance (a0) (s):Mi (IT a0 s):=by obtain⟨b,c,d,a⟩:=s;delta IT;dsimp only;repeat' first | (show Mi _;infer_instance) | refine @iB _ _ _ _ ?_ (fun _=>?_) | refine @iC _ _ _ _ ?_ | refine @iI _ _ _ _ _ ?_ ?_
instance (a0) (s):Mi (Ld a0 s):=by delta Ld;infer_instance
instance (a0):Mi (L4 a0):=by delta L4;infer_instance
instance (a0):Mi (Gj a0):=by delta Gj;infer_instance
instance (a0):Mi (CU a0):=by delta CU;infer_instance
instance (a0):Mi (HP a0):=by delta HP;infer_instance
instance (a0) (a1):Mi (Da a0 a1):=by delta Da;infer_instance
instance (a0) (a1):Mi (strings_Compare a0 a1):=by delta strings_Compare;infer_instance
instance (a0) (a1):Mi (FO a0 a1):=by delta FO;infer_instance
instance (a0) (a1) (a):Mi (B3 a0 a1 a):=by delta B3;infer_instance
instance (a0) (a1) (s):Mi (B1 a0 a1 s):=by obtain⟨b,a⟩:=s;delta B1;dsimp only;repeat' first | (show Mi _;infer_instance) | refine @iB _ _ _ _ ?_ (fun _=>?_) | refine @iC _ _ _ _ ?_ | refine @iI _ _ _ _ _ ?_ ?_
instance (a0) (a1) (s):Mi (BO a0 a1 s):=by delta BO;infer_instance
instance (a0) (a1):Mi (BB a0 a1):=by delta BB;infer_instance
instance (a0) (a1):Mi (IM a0 a1):=by delta IM;infer_instance
instance (a0):Mi (Dv a0):=by delta Dv;infer_instance
instance (a0) (a1):Mi (IQ a0 a1):=by delta IQ;infer_instance
instance (a):Mi (IU a):=by delta IU;infer_instance
instance (a0) (s):Mi (Il a0 s):=by obtain⟨b,a⟩:=s;delta Il;dsimp only;infer_instance
instance (a0) (s):Mi (K1 a0 s):=by delta K1;infer_instance
instance (a0):Mi (KG a0):=by delta KG;infer_instance
instance (a):Mi (F0 a):=by delta F0;infer_instance
instance (a0) (a1):Mi (GN a0 a1):=by delta GN;infer_instance
instance (a):Mi (Gb a):=by delta Gb;infer_instance
instance (a1) (s):Mi (Fz a1 s):=by obtain⟨b,a⟩:=s;delta Fz;dsimp only;infer_instance
instance (a1) (s):Mi (HV a1 s):=by delta HV;infer_instance
instance (a0) (a1):Mi (H9 a0 a1):=by delta H9;infer_instance
instance (a):Mi (Dw a):=by delta Dw;infer_instance
instance (a1) (a) (s):Mi (Dl a1 a s):=by delta Dl;infer_instance
instance (a1) (a) (s):Mi (EV a1 a s):=by delta EV;infer_instance
instance (a1) (a):Mi (CD a1 a):=by delta CD;infer_instance
instance (a1) (a) (s):Mi (Dm a1 a s):=by obtain⟨c,b⟩:=s;delta Dm;dsimp only;infer_instance
instance (a1) (a) (s):Mi (EW a1 a s):=by delta EW;infer_instance
instance (self) [∀ a b,Mi (self a b)] (a0) (a1):Mi (Dg self a0 a1):=by delta Dg;infer_instance
instance MP:∀ (n:Nat) (y0) (y1),Mi (De n y0 y1)
 | 0,_,_=>⟨none,fun _ h=>by cases h⟩
 | n+1,y0,y1=>by
  haveI:=MP n
  show Mi (Dg (De n) y0 y1)
  infer_instance
instance (y0) (y1):Mi (G3 y0 y1):=by delta G3;infer_instance
instance (a):Mi (Gc a):=by delta Gc;infer_instance
instance (a2) (a) (s):Mi (F1 a2 a s):=by obtain⟨c,b⟩:=s;delta F1;dsimp only;infer_instance
instance (a2) (a) (s):Mi (HW a2 a s):=by delta HW;infer_instance
instance (a0) (a1) (a2):Mi (FQ a0 a1 a2):=by delta FQ;infer_instance
instance (a0):Mi (Fj a0):=by delta Fj;infer_instance
instance (a0):Mi (CN a0):=by delta CN;infer_instance
instance (a):Mi (FT a):=by delta FT;infer_instance
instance (a0) (s):Mi (Fk a0 s):=by obtain⟨c,a,b⟩:=s;delta Fk;dsimp only;infer_instance
instance (a0) (s):Mi (HS a0 s):=by delta HS;infer_instance
instance (a0):Mi (Hp a0):=by delta Hp;infer_instance
instance (a0):Mi (DM a0):=by delta DM;infer_instance
instance (a0) (a1) (a2):Mi (FU a0 a1 a2):=by delta FU;infer_instance
instance (a0):Mi (Gd a0):=by delta Gd;infer_instance
instance (a0) (a1) (a2) (a3):Mi (F2 a0 a1 a2 a3):=by delta F2;infer_instance
instance (a0) (a1) (a2) (a3) (a4):Mi (Ff a0 a1 a2 a3 a4):=by delta Ff;infer_instance
instance (a0):Mi (DN a0):=by delta DN;infer_instance
instance (a0) (a) (b):Mi (Gz a0 a b):=by delta Gz;infer_instance
instance (a0) (a) (b) (s):Mi (FY a0 a b s):=by delta FY;infer_instance
instance (a0) (a) (b) (s):Mi (I1 a0 a b s):=by delta I1;infer_instance
instance (_self) (a0):Mi (G0 _self a0):=by delta G0;infer_instance
instance Ru:∀ (n:Nat) (y0),Mi (He n y0)
 | 0,_=>⟨none,fun _ h=>by cases h⟩
 | n+1,y0=>by
  haveI:=Ru n
  show Mi (G0 (He n) y0)
  infer_instance
instance (y0):Mi (Kl y0):=by delta Kl;infer_instance
instance (a) (b):Mi (FZ a b):=by delta FZ;infer_instance
instance (a0) (a1) (b) (self) [∀ c d,Mi (self c d)] (s):Mi (Fx a0 a1 b self s):=by obtain⟨e,a⟩:=s;delta Fx;dsimp only;infer_instance
instance (a0) (a1) (a) (self) [∀ b c,Mi (self b c)] (s):Mi (HU a0 a1 a self s):=by delta HU;infer_instance
instance (a0) (a1) (self) [∀ b c,Mi (self b c)] (a):Mi (Eh a0 a1 self a):=by delta Eh;infer_instance
instance (self) [∀ a b,Mi (self a b)] (a0) (a1):Mi (FP self a0 a1):=by delta FP;repeat' first | (show Mi _;infer_instance) | refine @iB _ _ _ _ ?_ (fun _=>?_) | refine @iC _ _ _ _ ?_ | refine @iI _ _ _ _ _ ?_ ?_
instance QD:∀ (n:Nat) (y0) (y1),Mi (Gi n y0 y1)
 | 0,_,_=>⟨none,fun _ h=>by cases h⟩
 | n+1,y0,y1=>by
  haveI:=QD n
  show Mi (FP (Gi n) y0 y1)
  infer_instance
instance (y0) (y1):Mi (KC y0 y1):=by delta KC;infer_instance
instance (a0):Mi (KD a0):=by delta KD;infer_instance
instance (a0) (a1):Mi (GQ a0 a1):=by delta GQ;infer_instance
instance:Mi (Je):=by delta Je;infer_instance
instance (a0) (a1) (s):Mi (GR a0 a1 s):=by delta GR;infer_instance
instance (a0) (a1) (s):Mi (K7 a0 a1 s):=by delta K7;infer_instance
instance (a0) (a1):Mi (Kv a0 a1):=by delta Kv;infer_instance
instance:Mi (DO):=by delta DO;infer_instance
instance (a0) (a1) (self) [∀ a b,Mi (self a b)] (s):Mi (CI a0 a1 self s):=by delta CI;infer_instance
instance (a0) (a1) (self) [∀ a b,Mi (self a b)] (s):Mi (Hu a0 a1 self s):=by delta Hu;infer_instance
instance (a0) (a1) (self) [∀ a b,Mi (self a b)]:Mi (Ft a0 a1 self):=by delta Ft;infer_instance
instance (self) [∀ a b,Mi (self a b)] (a0) (a1):Mi (Di self a0 a1):=by delta Di;infer_instance
instance Qa:∀ (n:Nat) (y0) (y1),Mi (El n y0 y1)
 | 0,_,_=>⟨none,fun _ h=>by cases h⟩
 | n+1,y0,y1=>by
  haveI:=Qa n
  show Mi (Di (El n) y0 y1)
  infer_instance
instance (y0) (y1):Mi (DP y0 y1):=by delta DP;infer_instance
instance:Mi (Lp):=by delta Lp;infer_instance
instance (a0) (a1) (s):Mi (K6 a0 a1 s):=by delta K6;infer_instance
instance (a0) (a1) (s):Mi (N6 a0 a1 s):=by delta N6;infer_instance
instance (a0) (a1):Mi (Pa a0 a1):=by delta Pa;infer_instance
instance (a0) (a1):Mi (GA a0 a1):=by delta GA;infer_instance
instance (a):Mi (Ey a):=by delta Ey;infer_instance
instance:Mi (L8):=by delta L8;repeat' first | (show Mi _;infer_instance) | refine @iB _ _ _ _ ?_ (fun _=>?_) | refine @iC _ _ _ _ ?_ | refine @iI _ _ _ _ _ ?_ ?_
theorem U4:L8=some true:=(inferInstance:Mi L8).h true (by kernel_rfl)
end
end Go.Proofs.YtekmbcbgknmhiaaGreatDoor
end
noncomputable section
namespace Go.Proofs.YtekmbcbgknmhiaaGreatDoor
open Go Go.E Go.RowKit Go.L
set_option maxHeartbeats 1000000
set_option maxRecDepth 10000
open _root_.Go.Proofs.Tryz
def F3(a0:Abk):Option Bool:=
 Option.bind (Ex a0) (fun a=>Option.bind L8 (fun h=>if !h then some false else(if 200<(a0.length:Int) then Option.bind (GA (3:Int) (-1:Int)) (fun b=>if a.2.1=b.1/\a.2.2=b.2 then Option.bind (DP a.1 (Go.L.Qv.mk (0:Int) ([]) ([]:Abk) ([]) (0:Int) (0:Int) ([]))) (fun e=>some e) else some false) else Option.bind (Lx a0) (fun c=>if !c.2 then Option.bind (GA (1:Int) (-1:Int)) (fun d=>if a.2.1=d.1/\a.2.2=d.2 then Option.bind (DP a.1 (Go.L.Qv.mk (0:Int) ([]) ([]:Abk) ([]) (0:Int) (0:Int) ([]))) (fun f=>some f) else some false) else(if a.2.1=0 then Option.bind (DP a.1 c.1) (fun g=>some g) else some false)))))
theorem K2(w:World)(H:PH)(hH:Le H (hp w))(hU:Eg H){a0:Abk}{r:Bool}(h:F3 a0=some r):
  Ok prog 4 [Abj a0] w (fun v w'=>Ext w w'/\v=.bool r):=by
 refine A3 (n:=48) [(0,(Abj a0))] func4 rfl fun hL=>AD 1 rfl<|Bi 1 rfl<|Ay h fun x1 bl h=>Bn rfl rfl hL (Lc _ _ (Ar hH hL) (hU.mono (Aj hH)) bl) ?_;rintro _ w2 ⟨b0,b1,b2,rfl,ao,ap,aq⟩ ah bm b5;have a:=ao.mono (Cm hH hL ah);have b:=ap.mono (Cm hH hL ah);have c:=aq.mono (Cm hH hL ah);refine As 3 rfl<|AH AO rfl rfl bm fun w3 b3 bn f _=>AH AW rfl rfl bn fun w4 b4 bo g _=>Ah 1 rfl AO bo rfl (AU rfl (AU a.one (AU rfl (AU b.one (AU rfl (AU rfl (AU c.one Hj))))))) fun w5 bp i=>Ah 0 rfl AW bp rfl (Bc rfl) fun w6 ai j=>Ac<|A7 ?_;have d:=ai.rG H;refine Am<|Ay h fun x8 bq h=>AA rfl rfl ai (V2 _ _ (Ar hH ai) (hU.mono (Aj hH)) bq) fun w9 b9 ab ac=>A4 1 rfl<|Bb rfl h (fun az h=>?_) (fun az h=>?_)
 ·refine AD 1 rfl<|Ax<|An ?_
  cases h
  refine Ak rfl ⟨ab.ext,rfl⟩
 refine Av<|Ao<|A7<|Bi 1 rfl<|Ag (Cv rfl Ab1) rfl<|A4 1 rfl<|AM rfl h (fun a2 h=>?_) (fun a2 h=>?_)
 ·refine DD (.q 0 (.q 1 (.q 2 (.q 3 (.q 4 (.q 5 (.q 6 (.q 7 (.q 8 (.tail 9)))))))))) mixed (by kernel_rfl) (fun br aj=>?_);have p:=ab.call aj;have ar:=AT ab aj;refine BQ (AE 0 rfl Ack rfl AW p rfl) rfl rfl<|Ay h fun ca a3 h=>Ec rfl rfl rfl (fun cb b6=>FC _ _ (Le.refl _) a3)<|BQ (X8 rfl rfl JF (MY _ _ _ _)) rfl rfl<|Df 1 rfl<|Nx (s:=20) rfl (fun k=>?_) (fun k=>?_)
  ·have h:=BI (of_decide_eq_true k) h;refine Kr (AE 1 rfl AcF rfl AO p rfl) rfl rfl rfl rfl k rfl<|Kr (AR rfl (fun _=>Ln _)) rfl rfl rfl rfl k rfl<|Ay h fun cc a4 h=>?_;have a:=a.mono (Ab hH (f.trans (g.trans (i.trans j))));have b:=b.mono (Ab hH (f.trans (g.trans (i.trans j))));have c:=c.mono (Ab hH (f.trans (g.trans (i.trans j))));have d:=d.trans (Ab hH (ac.trans ar));have au:=(fun(ax:World) (ad:Ext br ax)=>Ie ax _ (Le.refl _) (((a.mono d).mono (Ar hH p)).mono ad.le) (((b.mono d).mono (Ar hH p)).mono ad.le) (((c.mono d).mono (Ar hH p)).mono ad.le) (AI.nil _ _) (AI.nil _ _) (AI.nil _ _) a4);refine U8 rfl rfl rfl rfl k rfl rfl au<|BQ (A2 rfl k rfl) rfl rfl<|Df 1 rfl<|Cd (fun cd a5=>?_);have a6:=p.call a5;refine Ac<|Ax<|An ?_
   cases h
   refine Ak rfl ⟨a6.ext,rfl⟩
  have h:=BJ (of_decide_eq_false k) h
  iterate 3 refine TB rfl rfl rfl rfl k rfl ?_
  refine BQ (A9 rfl k rfl) rfl rfl<|Df 1 rfl<|Cd (fun ce a7=>?_);have a8:=p.call a7;refine Ac<|Ax<|An ?_
  cases h
  refine Ak rfl ⟨a8.ext,rfl⟩
 refine Av<|Ao<|Bi 1 rfl<|Ay h fun bs a9 h=>Bn rfl rfl ab (RI _ _ (Ar hH ab) a9) ?_;rintro _ cf ⟨bu,bv,bw,rfl,ak,al,am⟩ ae ba ag;have u:=ak.mono (Cm hH ab ae);have x:=al.mono (Cm hH ab ae);have y:=am.mono (Cm hH ab ae);refine As 3 rfl<|AH AO rfl rfl ba fun cg ch bb z _=>Ah 0 rfl AO bb rfl (AU rfl (AU u.one (AU rfl (AU x.one (AU rfl (AU rfl (AU y.one Hj))))))) fun ci l aa=>A4 1 rfl<|A7 ?_;have e:=l.rG H;refine AD 2 rfl<|Bb rfl h (fun bc h=>?_) (fun bc h=>?_)
 ·refine DD (.q 0 (.q 1 (.q 2 (.q 3 (.q 4 (.q 5 (.q 6 (.q 7 (.q 8 (.tail 9)))))))))) mixed (by kernel_rfl) (fun bt an=>?_);have t:=l.call an;have av:=AT l an;refine BQ (AE 1 rfl Ack rfl AW t rfl) rfl rfl<|Ay h fun cj bd h=>Ec rfl rfl rfl (fun ck b7=>FC _ _ (Le.refl _) bd)<|BQ (X8 rfl rfl JF (MY _ _ _ _)) rfl rfl<|Df 1 rfl<|Nx (s:=35) rfl (fun m=>?_) (fun m=>?_)
  ·have h:=BI (of_decide_eq_true m) h;refine Kr (AE 2 rfl AcF rfl AO t rfl) rfl rfl rfl rfl m rfl<|Kr (AR rfl (fun _=>Ln _)) rfl rfl rfl rfl m rfl<|Ay h fun cl be h=>?_;have a:=a.mono (Ab hH (f.trans (g.trans (i.trans j))));have b:=b.mono (Ab hH (f.trans (g.trans (i.trans j))));have c:=c.mono (Ab hH (f.trans (g.trans (i.trans j))));have d:=d.trans (Ab hH (ac.trans (ag.trans (z.trans aa))));have e:=e.trans (Ab hH av);have aw:=(fun(ay:World) (af:Ext bt ay)=>Ie ay _ (Le.refl _) ((((a.mono d).mono e).mono (Ar hH t)).mono af.le) ((((b.mono d).mono e).mono (Ar hH t)).mono af.le) ((((c.mono d).mono e).mono (Ar hH t)).mono af.le) (AI.nil _ _) (AI.nil _ _) (AI.nil _ _) be);refine U8 rfl rfl rfl rfl m rfl rfl aw<|BQ (A2 rfl m rfl) rfl rfl<|Df 1 rfl<|Cd (fun cm bf=>?_);have bg:=t.call bf;refine Ac<|Ax<|An ?_
   cases h
   refine Ak rfl ⟨bg.ext,rfl⟩
  have h:=BJ (of_decide_eq_false m) h
  iterate 3 refine TB rfl rfl rfl rfl m rfl ?_
  refine BQ (A9 rfl m rfl) rfl rfl<|Df 1 rfl<|Cd (fun cn bh=>?_);have bi:=t.call bh;refine Ac<|Ax<|An ?_
  cases h
  refine Ak rfl ⟨bi.ext,rfl⟩
 refine Av<|Ao<|Am<|Ag (Ae rfl Ack rfl Cj) rfl<|Ag (Af 1 rfl Abn rfl l rfl) rfl<|As 2 rfl<|AP (s:=43) rfl (fun o=>?_) (fun o=>?_)
 ·have h:=BI (of_decide_eq_true o) h;refine Aa rfl o<|Ag (AE 2 rfl AcF rfl AO l rfl) rfl<|Aa rfl o<|Ag (AE 0 rfl AcF rfl AO l rfl) rfl<|Aa rfl o<|Ay h fun co bj h=>?_;have a:=a.mono (Ab hH (f.trans (g.trans (i.trans j))));have b:=b.mono (Ab hH (f.trans (g.trans (i.trans j))));have c:=c.mono (Ab hH (f.trans (g.trans (i.trans j))));have d:=d.trans (Ab hH (ac.trans (ag.trans (z.trans aa))));have u:=u.mono (Ab hH (z.trans aa));have x:=x.mono (Ab hH (z.trans aa));have y:=y.mono (Ab hH (z.trans aa));refine AA rfl rfl l (Ie (a0:=x1.1) (a1:=bs.1) _ _ (Ar hH l) ((a.mono d).mono e) ((b.mono d).mono e) ((c.mono d).mono e) (u.mono e) (x.mono e) (y.mono e) bj) fun cp b8 bk bx=>Ag (A2 rfl o rfl) rfl<|A4 1 rfl<|Ax ?_
  cases h
  refine Ak rfl ⟨bk.ext,rfl⟩
 have h:=BJ (of_decide_eq_false o) h
 iterate 3 refine Ai rfl o rfl ?_
 refine Ag (A9 rfl o rfl) rfl<|A4 1 rfl<|Ax ?_
 cases h
 refine Ak rfl ⟨l.ext,rfl⟩
end Go.Proofs.YtekmbcbgknmhiaaGreatDoor
end
noncomputable section
namespace Go.Proofs.YtekmbcbgknmhiaaGreatDoor
open Go Go.L
theorem Zb(s:List UInt8):F3 s=some true:=by
 unfold F3
 by_cases hs:s.length<=200
 ·have ha:=AdL (s:=s) (by omega);rw [Aba hs,Option.bind_some,U4,Xy hs,<- ha]
  cases h:acc (RW (MQ Sn 201)) s with
  | none=>
   have a : ¬ (200:Int)<(s.length:Int):=by omega
   unfold GA;simp only [Option.bind_some,Bool.not_true,Bool.false_eq_true,if_false,Bool.not_false,if_true,and_self,AaE];rw [if_neg a]
  | some q=>
   obtain⟨b,h2,_⟩:=Tz (Ty Tx 201) (by omega) h;have a : ¬ (200:Int)<(s.length:Int):=by omega
   simp only [Option.bind_some,Bool.not_true,Bool.false_eq_true,if_false,if_true,AaD b (Tn h2).1.dp (by omega)];rw [if_neg a]
 ·have a:(200:Int)<(s.length:Int):=by omega
  have hp:Ex s=some (.mk 0 [] [] [] 0 0 [],(3,-1)):=by
   unfold Ex DT;rw [if_pos a]
   rfl
  unfold GA;rw [hp,Option.bind_some,U4];simp only [Option.bind_some,Bool.not_true,Bool.false_eq_true,if_false,if_true,and_self,AaE];rw [if_pos a]
end Go.Proofs.YtekmbcbgknmhiaaGreatDoor
end
noncomputable section
namespace Go.E
open Go Go.RowKit Go.ChangeShapes Go.WideShapes
section
variable {H:Type} {enc:TypeId×Value->H} {P:Program} {w:World} {base:Nat} {spare:Nat->Bool} {held:Bool}
theorem PD(hl:laidOutB P=true){W W':World}(hb:Below W.heap.size W W'):∀ {ts:List TypeId} {vs:List Value} {ds:List (DataW H)} {ps:List MemPlace},(∀ t∈ts,P.readableRec t=true/\t<P.types.size)->
  DataW.TrodAll enc P W 0 (fun _=>true) true ts vs ds ps->(∀ x∈ps,x.block<W.heap.size)->DataW.TrodAll enc P W' 0 (fun b=>decide (b<W.heap.size)) true ts vs ds ps
 | [],[],[],ps,_,h,_=>h
 | t::ts,v::vs,d::ds,ps,ht,h,hlt=>by
  obtain⟨p,q,c,h2,rfl⟩:=h;have a:=ht t (.head _);exact⟨p,q,Below.trod hl a.1 a.2 c hb (fun x hx=>hlt x (List.mem_append.2 (.inl hx))),PD hl hb (fun t' h'=>ht t' (.tail _ h')) h2 (fun x hx=>hlt x (List.mem_append.2 (.inr hx))),rfl⟩
 | [],[],_::_,_,_,h,_=>by cases h
 | [],_::_,_,_,_,h,_=>by cases h
 | _::_,[],_,_,_,h,_=>by cases h
 | _::_,_::_,[],_,_,h,_=>by cases h
end
end Go.E
namespace Go.E
open Go Go.RowKit Go.ChangeShapes Go.WideShapes Go.Deep
section
variable {P:Program} {t e:TypeId}
end
end Go.E
end
noncomputable section
namespace Go.Proofs.YtekmbcbgknmhiaaGreatDoor.Abf
open Go Go.E
theorem bound{H:Type}{l:List (DataW H)}(hk:Rows.uptoSmall H l=true):Rows.uptoBulkAll l<=1048576:=of_decide_eq_true hk
end Go.Proofs.YtekmbcbgknmhiaaGreatDoor.Abf
namespace Go.Proofs.YtekmbcbgknmhiaaGreatDoor.Abf
open Go Go.E Go.RowKit Go.ChangeShapes Go.WideShapes Go.Deep Go.L
section
variable {P:Program} {t e:TypeId} {k:Nat}
end
end Go.Proofs.YtekmbcbgknmhiaaGreatDoor.Abf
end
noncomputable section
namespace Go.Proofs.YtekmbcbgknmhiaaGreatDoor
open Go Go.E Go.Shelf Go.Lib
def Ae8:Ren:=⟨fun n=>n,fun | 119=>349 | 138=>351 | 139=>352 | n=>n,fun | 3=>4 | 4=>5 | n=>n⟩
theorem Ac4:U8Types Tryz.prog Ae8:=⟨Tryz.underlying5,Tryz.underlying349,Tryz.underlying351,Tryz.underlying352⟩
def T6 : List (String × DataW Unit) := [("math/bits.deBruijn32tab", Rows.laid_math_bits_deBruijn32tab), ("math/bits.deBruijn64tab", Rows.laid_math_bits_deBruijn64tab), ("internal/strconv.uint64pow10", Rows.laid_internal_strconv_uint64pow10), ("unicode/utf8.acceptRanges", Rows.laid_unicode_utf8_acceptRanges), ("strconv.ErrRange", Rows.laid_strconv_ErrRange), ("strconv.ErrSyntax", Rows.laid_strconv_ErrSyntax), ("unicode/utf8.first", Rows.laid_unicode_utf8_first)]
theorem star : "*" ++ "errors.errorString" = "*errors.errorString" := by decide
theorem Abg (u : TypeId) (h : Tryz.prog.typeName? 3 u = some "*errors.errorString") : u = 364 :=
 typeName_ptr_named (nm := "errors.errorString") (by rw [star]; kernel_rfl) (by kernel_rfl) (by decide) u (by rw [star]; exact h)
theorem AdQ{W w:World}{n:String}{cs:Array Value}(hs:Le (hp W) (hp w))(h:W.var? Tryz.prog n=some cs):w.var? Tryz.prog n=some cs:=by
 unfold World.var? at h ⊢
 cases hg:Tryz.prog.globalNamed n with
 | none=>rw [hg] at h;cases h
 | some g=>
  rw [hg] at h;simp only [Option.bind_some] at h ⊢
  cases ho:W.heap[g]? with
  | none=>rw [ho] at h;cases h
  | some o=>rw [ho] at h;rw [show w.heap[g]? = some o from hs g o ho];exact h
theorem RB{W:World}{n:String}{g:Nat}{v:Value}(hg:Tryz.prog.globalNamed n=some g)(h:W.var? Tryz.prog n=some #[v]):G9 (hp W) ⟨g,0,none⟩=some v:=by
 rw [VB,World.var?_cell hg h 0]
 rfl
theorem V4{W:World}(h:laidMetH Tryz.prog T6 W):Eg (hp W):=by
 rw [MakeChecks.laidMetH_plain _ _ _ (by kernel_rfl)] at h;have i:Rows.laid_unicode_utf8_first=firstData:=by kernel_rfl
 have j:(Rows.laid_unicode_utf8_acceptRanges:DataW Unit)=acceptData:=by kernel_rfl
 have k:(Rows.laid_internal_strconv_uint64pow10:DataW Unit)=tabData .u64 pow10Tab:=by kernel_rfl
 have b := laidMet.reads h (n := "unicode/utf8.acceptRanges") (d := Rows.laid_unicode_utf8_acceptRanges) (by simp [T6])
 have h2 := laidMet.reads h (n := "unicode/utf8.first") (d := Rows.laid_unicode_utf8_first) (by simp [T6])
 rw [j] at b;rw [i] at h2;have ht := utf8Tabs_of_readsT Ac4 ⟨by kernel_rfl, by kernel_rfl, by kernel_rfl, by kernel_rfl, by kernel_rfl, by kernel_rfl, by kernel_rfl⟩ h2 b;have hT : laidMet Tryz.prog (("internal/strconv.uint64pow10", tabData .u64 pow10Tab) :: _) W := k ▸ h.tail.tail
 have a : TabIs Tryz.prog W "internal/strconv.uint64pow10" .u64 pow10Tab := tabIs_of_head (g := 1) (t := 305) (e := 205) (n := 20) (by kernel_rfl) (by kernel_rfl) Tryz.underlying305 Tryz.underlying205 (by kernel_rfl) (by kernel_rfl) hT
 obtain⟨a1,l,c,_⟩:=laid_sentinel (g:=3) h.tail.tail.tail.tail (by kernel_rfl) (by kernel_rfl) Tryz.underlying167 Abg Tryz.underlying364 Tryz.underlying366 rfl rfl Tryz.underlying9 (by kernel_rfl) (by kernel_rfl);obtain⟨a2,m,f,_⟩:=laid_sentinel (g:=2) h.tail.tail.tail.tail.tail (by kernel_rfl) (by kernel_rfl) Tryz.underlying167 Abg Tryz.underlying364 Tryz.underlying366 rfl rfl Tryz.underlying9 (by kernel_rfl) (by kernel_rfl);exact⟨⟨ht.1,ht.2⟩,fun w hw=>AdQ hw a,⟨_,_,RB (by kernel_rfl) f⟩,⟨_,_,RB (by kernel_rfl) c⟩⟩
def U5(os:Os):World:=
 let N:=(World.settled Tryz.prog os).heap.size
 let a:=World.holding Tryz.prog os ⟨#[.cells #[.string ⟨#[118,97,108,117,101,32,111,117,116,32,111,102,32,114,97,110,103,101]⟩] 366,.cells #[.string ⟨#[105,110,118,97,108,105,100,32,115,121,110,116,97,120]⟩] 366],#[],[]⟩
 let put (h:Array Obj) (g:Nat) (cs:Array Value):Array Obj:=h.modify g fun
  | .cells _ t frozen=>.cells cs t frozen
  | o=>o
 let b:=put (put a.heap 3 #[.iface 364 (.pointer (some ⟨N,0,none⟩))]) 2 #[.iface 364 (.pointer (some ⟨N+1,0,none⟩))]
 let c:=put (put b 4 (Lib.firstTab.map fun z=>Value.int .u8 z).toArray) 5 ((List.range 16).flatMap fun i=>[Value.int .u8 (Lib.accLo i),Value.int .u8 (Lib.accHi i)]).toArray
 let h2:=put c 1 (pow10Tab.map (Value.int .u64)).toArray
 let nums (d:DataW Unit):Array Value:=match d with
  | .agg l=>(l.map fun | .lit (.int k z)=>Value.int k z | _=>.int .u8 0).toArray
  | _=>#[]
 let h3:=put (put h2 6 (nums Rows.laid_math_bits_deBruijn32tab)) 7 (nums Rows.laid_math_bits_deBruijn64tab)
 {a with heap:=h3}
set_option maxRecDepth 100000 in
theorem Abh(os:Os)(args:Array Value):laidMetH Tryz.prog T6 ((U5 os).forCall (fun _ _=>0) ⟨#[],args,[]⟩).memory:=
 laidMetH_of_parts3 (fuel:=12) (laidMet_of_run' 12 (by kernel_rfl) (by kernel_rfl)) (by kernel_rfl) (by kernel_rfl)
end Go.Proofs.YtekmbcbgknmhiaaGreatDoor
end
